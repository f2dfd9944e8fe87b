/- FrameOf: any closure, any arguments: its frame's registers. No condition but the row's own. (11 texts in one.) -/
import Derived.Below
import Derived.Carry
import Derived.ProofKit
import Derived.OpenShut
import Derived.ChangeOld
import Derived.SizedLaws
import Derived.Handed
import Derived.LaidHandle
import Derived.MakeChecks
import Derived.LaidLaws
import Derived.ChangeSame
import Derived.ChangeVars
import Derived.JoinedOf
import Derived.RowKit
import Derived.KernelRfl
import Derived.Lib.SmallJoins
import Derived.Test.YtmmfpkkkpeapeaaGreatDoorBase
import Derived.Laws.CopyRow
import Derived.Laws.IdiomCopy
import Derived.Laws.CopyOwn
import Derived.Tactics
import Derived.Lib.Hide
import Derived.Test.YtmmfpkkkpeapeaaGreatDoorFrLow
import Derived.Laws.MakeOwn
import Derived.Test.YtmmfpkkkpeapeaaGreatDoorMbLb
import Derived.Test.YtmmfpkkkpeapeaaGreatDoorAwake
import Derived.Test.YtmmfpkkkpeapeaaGreatDoorRows
import Derived.Test.YtmmfpkkkpeapeaaGreatDoorCards
import Derived.Test.YtmmfpkkkpeapeaaGreatDoorTie
import Derived.SevenTiedAt
import Derived.ChangeMaps5

/- A law's row out of its walk: where the call answers true and what was there stays as it was, the row's post holds: every argument reads as it did; the wrap that hands on the laid variables and the world's shape. No condition. -/
set_option linter.unusedVariables false
namespace Go.Proofs.YtmmfpkkkpeapeaaGreatDoor.Frm
open Go Go.ChangeShapes Go.WideShapes Go.RowKit Go.Joins
theorem trodAll_below {H : Type} {enc : TypeId × Value → H} {P : Program} (hl : laidOutB P = true) {W W' : World} (hb : Below W.heap.size W W') : ∀ (ts : List TypeId) (vs : List Value) (ds : List (DataW H)) (ps : List MemPlace),
    (ts.all fun t => P.readableRec t && decide (t < P.types.size)) = true → DataW.TrodAll enc P W 0 (fun _ => true) true ts vs ds ps → (∀ x ∈ ps, x.block < W.heap.size) →
    DataW.TrodAll enc P W' 0 (fun b => decide (b < W.heap.size)) true ts vs ds ps
  | [], vs, ds, ps, _, h, _ => by
    obtain ⟨rfl, rfl, rfl⟩ := trodAll_nil h
    exact trodAll_mk0
  | t :: ts, vs, ds, ps, ht, h, hlt => by
    obtain ⟨v0, vs0, d0, ds0, p0, q0, rfl, rfl, rfl, h0, r0⟩ := trodAll_cons h
    simp only [List.all_cons, Bool.and_eq_true, decide_eq_true_eq] at ht
    exact trodAll_cons_mk (Below.trod hl ht.1.1 ht.1.2 h0 hb (fun x hx => hlt x (List.mem_append_left _ hx))) (trodAll_below hl hb ts vs0 ds0 q0 ht.2 r0 (fun x hx => hlt x (List.mem_append_right _ hx)))

/-- The post of a law's row. -/
theorem law_post {H : Type} {enc : TypeId × Value → H} {P : Program} (hl : laidOutB P = true) {f : Func} {s : ChangeSpec} {apart fresh handsOn : Bool} {tb : TypeId} (hres : f.resultTypes = #[tb]) (hbool : P.underlying tb = some .bool)
    (hvars : s.vars = []) (hread : (f.params.toList.all fun t => P.readableRec t && decide (t < P.types.size)) = true) {W W' : World} {args : Array Value} {ds gs : List (DataW H)} {before : List MemPlace}
    (hW : DataW.Whole enc P f.params.toList s.vars apart W args.toList ds gs before) (hfn : s.fn H ds = { results := [.lit (.bool true)], args := ds }) (hb : Below W.heap.size W W') :
    s.post enc P f apart fresh handsOn false W args (.bool true) W' := by
  have hlt := hW.lt
  have hW0 := hW
  obtain ⟨p, q, hA, hV, rfl, hfz, hnd⟩ := hW0
  rw [hvars] at hV
  obtain ⟨rfl, rfl⟩ := trodVars_none hV
  refine ⟨ds, [], p ++ [], [], p, [], hW, ?_, ?_, ?_, hb.frame _, fun h => by cases h⟩
  · rw [List.append_nil, hfn, hres]
    exact trodAll_mk1 (shut_bool hbool _)
  · rw [List.append_nil, hfn]
    exact trodAll_below hl hb _ _ _ _ hread hA (fun x hx => hlt x (List.mem_append_left _ hx))
  · rw [List.append_nil, hfn, hvars]
    exact rfl
/-- The wrap: what the row lists, and the world's shape, are handed on. -/
theorem handed {H : Type} {enc : TypeId × Value → H} {a : Assume} {C : Checked} {os : Os} {f : FuncId} {fn : Func} {s : ChangeSpec} {conds : List PathCond} {apart fresh handsOn again : Bool} {X : World → Array Value → Prop}
    (hX : ∀ (w w' : World) (args : Array Value), w.heap = w'.heap → X w args → X w' args)
    (own : ownKnob C.prog.godebug = none) (started : os.Started) (noInit : C.prog.inits.idxOf? f = none) (hfn : C.prog.funcs[f]? = some fn)
    (witness : ∃ (w : World) (tape : Tape) (i : Input), w.os = os ∧ (w.forCall tape i).Shaped C.prog ∧ i.vars = [] ∧ Input.okWide C.prog (w.forCall tape i) .any w.heap.size f i ∧
      ((s.pre enc C.prog fn conds apart (w.forCall tape i).memory i.args ∧ X (w.forCall tape i).memory i.args) ∧ sizedMet enc C.prog fn (OpenSpec.ofChange s) apart (w.forCall tape i).memory i.args) ∧ a.holds C.prog (lone (Frame.enter C.prog f i.args .normal) [] (w.forCall tape i)))
    (contract : ∀ (W : World) (base : Nat) (args : Array Value) (ds gs : List (DataW H)) (before : List MemPlace),
      (∀ (j : Nat) t v, fn.params[j]? = some t → args[j]? = some v → Value.okWide C.prog W .any base t v) →
      DataW.Whole enc C.prog fn.params.toList s.vars apart W args.toList ds gs before →
      (DataW.weightsEach C.prog (fn.params.toList ++ s.plain.varTypes C.prog) (ds ++ gs)).all (· ≤ reachBytes) = true → X W args → W.ShapedOpen C.prog →
      Calls C.prog f args W fun e W' => ∃ v, e = .returned v ∧ s.post enc C.prog fn apart fresh handsOn again W args v W') :
    ReturnsInHanded a C os f .any (fun w args => (s.pre enc C.prog fn conds apart w args ∧ X w args) ∧ sizedMet enc C.prog fn (OpenSpec.ofChange s) apart w args) (s.post enc C.prog fn apart fresh handsOn again) := by
  refine returnsInHanded_of_calls own started noInit witness ?_
  intro w tape i _ hsh _ hok hpre hholds
  obtain ⟨_, _, _, fn', hfn', _, _, _, _, hval⟩ := hok
  have e : fn' = fn := Option.some.inj (hfn'.symm.trans hfn)
  subst e
  obtain ⟨⟨⟨ds, gs, before, hw, hc⟩, hx⟩, hz⟩ := hpre
  have hw' := DataW.Whole.of_heap (w' := w.forCall tape i) (by rfl) hw
  refine (contract (w.forCall tape i) w.heap.size i.args ds gs before hval hw' (hz.weights hw) (hX _ _ _ (by rfl) hx) hsh).mono fun e W' ⟨v, he, hp⟩ => ?_
  subst he
  exact ChangeSpec.post_blind hp
/-- A variable's block is there. -/
theorem big_of_shape {P : Program} {w : World} (h : w.ShapedOpen P) {g : Nat} (hg : g < P.globals.size) (h0 : (((begin P (fun _ _ => 0) default).world.heap[g]?).bind Obj.row?).isSome = true) : g + 1 ≤ w.heap.size := by
  obtain ⟨⟨zero, t⟩, h1⟩ := Option.isSome_iff_exists.1 h0
  obtain ⟨cs, hh, _⟩ := h.1 g zero t hg h1
  exact (Array.getElem?_eq_some_iff.1 hh).1
theorem u8wf {a : Int} (h : (Lit.int .u8 a).wf = true) : 0 ≤ a ∧ a ≤ 255 := by
  have h' : (decide (IntKind.u8.min ≤ a) && decide (a ≤ IntKind.u8.max)) = true := h
  simpa [IntKind.min, IntKind.max, IntKind.signed, IntKind.bits] using h'
theorem u16wf {a : Int} (h : (Lit.int .u16 a).wf = true) : 0 ≤ a ∧ a ≤ 65535 := by
  have h' : (decide (IntKind.u16.min ≤ a) && decide (a ≤ IntKind.u16.max)) = true := h
  simpa [IntKind.min, IntKind.max, IntKind.signed, IntKind.bits] using h'
theorem u32wf {a : Int} (h : (Lit.int .u32 a).wf = true) : 0 ≤ a ∧ a ≤ 4294967295 := by
  have h' : (decide (IntKind.u32.min ≤ a) && decide (a ≤ IntKind.u32.max)) = true := h
  simpa [IntKind.min, IntKind.max, IntKind.signed, IntKind.bits] using h'
theorem u64wf {a : Int} (h : (Lit.int .u64 a).wf = true) : 0 ≤ a ∧ a ≤ 18446744073709551615 := by
  have h' : (decide (IntKind.u64.min ≤ a) && decide (a ≤ IntKind.u64.max)) = true := h
  simpa [IntKind.min, IntKind.max, IntKind.signed, IntKind.bits] using h'
theorem i32wf {a : Int} (h : (Lit.int .i32 a).wf = true) : -2147483648 ≤ a ∧ a ≤ 2147483647 := by
  have h' : (decide (IntKind.i32.min ≤ a) && decide (a ≤ IntKind.i32.max)) = true := h
  simpa [IntKind.min, IntKind.max, IntKind.signed, IntKind.bits] using h'
theorem i16wf {a : Int} (h : (Lit.int .i16 a).wf = true) : -32768 ≤ a ∧ a ≤ 32767 := by
  have h' : (decide (IntKind.i16.min ≤ a) && decide (a ≤ IntKind.i16.max)) = true := h
  simpa [IntKind.min, IntKind.max, IntKind.signed, IntKind.bits] using h'
theorem i64wf {a : Int} (h : (Lit.int .i64 a).wf = true) : -9223372036854775808 ≤ a ∧ a ≤ 9223372036854775807 := by
  have h' : (decide (IntKind.i64.min ≤ a) && decide (a ≤ IntKind.i64.max)) = true := h
  simpa [IntKind.min, IntKind.max, IntKind.signed, IntKind.bits] using h'
end Go.Proofs.YtmmfpkkkpeapeaaGreatDoor.Frm

/- A world in which the laid variables read as they are laid: the witness of the rows. -/
set_option maxRecDepth 100000
set_option linter.unusedVariables false
namespace Go.Proofs.YtmmfpkkkpeapeaaGreatDoor
open Go Go.ChangeShapes Go.WideShapes Go.RowKit
def newBlocks (n : Nat) : Array Obj := #[.cells #[.string ⟨#[118, 97, 108, 117, 101, 32, 111, 117, 116, 32, 111, 102, 32, 114, 97, 110, 103, 101]⟩] 327,
  .cells #[.string ⟨#[105, 110, 118, 97, 108, 105, 100, 32, 115, 121, 110, 116, 97, 120]⟩] 327,
  .map #[{ key := .string ⟨#[33, 61]⟩, val := .int .i64 12, born := 0 }, { key := .string ⟨#[60]⟩, val := .int .i64 13, born := 1 }, { key := .string ⟨#[61, 61]⟩, val := .int .i64 11, born := 2 }] 3,
  .map #[{ key := .string ⟨#[43]⟩, val := .int .i64 8, born := 0 }, { key := .string ⟨#[45]⟩, val := .int .i64 9, born := 1 }] 2,
  .map #[{ key := .string ⟨#[42]⟩, val := .int .i64 10, born := 0 }] 1,
  .map #[{ key := .int .i64 6, val := .int .u8 7, born := 0 }, { key := .int .i64 7, val := .int .u8 8, born := 1 }, { key := .int .i64 8, val := .int .u8 9, born := 2 }, { key := .int .i64 9, val := .int .u8 10, born := 3 }, { key := .int .i64 10, val := .int .u8 11, born := 4 }, { key := .int .i64 11, val := .int .u8 12, born := 5 }, { key := .int .i64 12, val := .int .u8 13, born := 6 }, { key := .int .i64 13, val := .int .u8 14, born := 7 }, { key := .int .i64 14, val := .int .u8 3, born := 8 }] 9]
def setCells (h : Array Obj) (g : Nat) (cs : Array Value) : Array Obj := h.modify g fun
  | .cells _ t frozen => .cells cs t frozen
  | o => o
noncomputable def laidWorld (os : Os) : World :=
  let w0 := World.settled Tryz.prog os
  let n := w0.heap.size
  let h := w0.heap ++ newBlocks n
  let h := setCells h 9 #[.int .u8 0, .int .u8 1, .int .u8 28, .int .u8 2, .int .u8 29, .int .u8 14, .int .u8 24, .int .u8 3, .int .u8 30, .int .u8 22, .int .u8 20, .int .u8 15, .int .u8 25, .int .u8 17, .int .u8 4, .int .u8 8, .int .u8 31, .int .u8 27, .int .u8 13, .int .u8 23, .int .u8 21, .int .u8 19, .int .u8 16, .int .u8 7, .int .u8 26, .int .u8 12, .int .u8 18, .int .u8 6, .int .u8 11, .int .u8 5, .int .u8 10, .int .u8 9]
  let h := setCells h 10 #[.int .u8 0, .int .u8 1, .int .u8 56, .int .u8 2, .int .u8 57, .int .u8 49, .int .u8 28, .int .u8 3, .int .u8 61, .int .u8 58, .int .u8 42, .int .u8 50, .int .u8 38, .int .u8 29, .int .u8 17, .int .u8 4, .int .u8 62, .int .u8 47, .int .u8 59, .int .u8 36, .int .u8 45, .int .u8 43, .int .u8 51, .int .u8 22, .int .u8 53, .int .u8 39, .int .u8 33, .int .u8 30, .int .u8 24, .int .u8 18, .int .u8 12, .int .u8 5, .int .u8 63, .int .u8 55, .int .u8 48, .int .u8 27, .int .u8 60, .int .u8 41, .int .u8 37, .int .u8 16, .int .u8 46, .int .u8 35, .int .u8 44, .int .u8 21, .int .u8 52, .int .u8 32, .int .u8 23, .int .u8 11, .int .u8 54, .int .u8 26, .int .u8 40, .int .u8 15, .int .u8 34, .int .u8 20, .int .u8 31, .int .u8 10, .int .u8 25, .int .u8 14, .int .u8 19, .int .u8 9, .int .u8 13, .int .u8 8, .int .u8 7, .int .u8 6]
  let h := setCells h 6 #[.int .u64 1, .int .u64 10, .int .u64 100, .int .u64 1000, .int .u64 10000, .int .u64 100000, .int .u64 1000000, .int .u64 10000000, .int .u64 100000000, .int .u64 1000000000, .int .u64 10000000000, .int .u64 100000000000, .int .u64 1000000000000, .int .u64 10000000000000, .int .u64 100000000000000, .int .u64 1000000000000000, .int .u64 10000000000000000, .int .u64 100000000000000000, .int .u64 1000000000000000000, .int .u64 10000000000000000000]
  let h := setCells h 12 #[.iface 325 (.pointer (some ⟨n + 0, 0, none⟩))]
  let h := setCells h 11 #[.iface 325 (.pointer (some ⟨n + 1, 0, none⟩))]
  let h := setCells h 0 #[.string ⟨#[99, 111, 110, 115, 116]⟩, .string ⟨#[109, 111, 118, 101]⟩, .string ⟨#[110, 101, 119]⟩, .string ⟨#[103, 101, 116]⟩, .string ⟨#[112, 117, 116]⟩, .string ⟨#[99, 108, 111, 115, 101]⟩, .string ⟨#[99, 97, 108, 108]⟩, .string ⟨#[109, 105, 110, 117, 115]⟩, .string ⟨#[110, 111, 116]⟩, .string ⟨#[97, 100, 100]⟩, .string ⟨#[115, 117, 98]⟩, .string ⟨#[109, 117, 108]⟩, .string ⟨#[101, 113, 117, 97, 108]⟩, .string ⟨#[117, 110, 108, 105, 107, 101]⟩, .string ⟨#[108, 101, 115, 115]⟩, .string ⟨#[106, 117, 109, 112]⟩, .string ⟨#[98, 97, 99, 107]⟩, .string ⟨#[117, 110, 108, 101, 115, 115]⟩, .string ⟨#[114, 101, 116, 117, 114, 110]⟩, .string ⟨#[116, 104, 114, 111, 119]⟩, .string ⟨#[116, 114, 121]⟩, .string ⟨#[100, 111, 110, 101]⟩]
  let h := setCells h 5 #[.string ⟨#[]⟩, .string ⟨#[]⟩, .string ⟨#[]⟩, .string ⟨#[]⟩, .string ⟨#[]⟩, .string ⟨#[]⟩, .string ⟨#[45]⟩, .string ⟨#[33]⟩, .string ⟨#[43]⟩, .string ⟨#[45]⟩, .string ⟨#[42]⟩, .string ⟨#[61, 61]⟩, .string ⟨#[33, 61]⟩, .string ⟨#[60]⟩, .string ⟨#[]⟩, .string ⟨#[]⟩, .string ⟨#[]⟩, .string ⟨#[]⟩]
  let h := setCells h 3 #[.string ⟨#[108, 101, 116]⟩, .string ⟨#[105, 102]⟩, .string ⟨#[101, 108, 115, 101]⟩, .string ⟨#[119, 104, 105, 108, 101]⟩, .string ⟨#[114, 101, 116, 117, 114, 110]⟩, .string ⟨#[116, 104, 114, 111, 119]⟩, .string ⟨#[116, 114, 121]⟩, .string ⟨#[99, 97, 116, 99, 104]⟩, .string ⟨#[102, 110]⟩, .string ⟨#[110, 105, 108]⟩, .string ⟨#[116, 114, 117, 101]⟩, .string ⟨#[102, 97, 108, 115, 101]⟩]
  let h := setCells h 4 #[.map (some (n + 2)), .map (some (n + 3)), .map (some (n + 4))]
  let h := setCells h 2 #[.string ⟨#[114, 101, 116, 117, 114, 110]⟩, .int .i64 5, .string ⟨#[116, 104, 114, 111, 119]⟩, .int .i64 6]
  let h := setCells h 1 #[.string ⟨#[108, 101, 110]⟩, .string ⟨#[102, 114, 101, 101, 122, 101]⟩, .string ⟨#[102, 114, 111, 122, 101, 110]⟩, .string ⟨#[98, 114, 97, 110, 100]⟩, .string ⟨#[107, 105, 110, 100]⟩, .string ⟨#[116, 101, 120, 116]⟩]
  let h := setCells h 7 #[.map (some (n + 5))]
  { w0 with heap := h }
theorem own : ownKnob Tryz.prog.godebug = none := by kernel_rfl
theorem laidOut : laidOutB Tryz.prog = true := by kernel_rfl
theorem laid_plain : (laid0.all fun x => x.2.handleName?.isNone) = true := by kernel_rfl
theorem laid_met {w : World} (h : laidMetH Tryz.prog laid0 w) : laidMet Tryz.prog laid0 w := by
  rw [MakeChecks.laidMetH_plain _ _ _ laid_plain] at h
  exact h
theorem laidWorld_met (os : Os) (args : Array Value) : laidMetH Tryz.prog laid0 ((laidWorld os).forCall (fun _ _ => 0) ⟨#[], args, []⟩).memory := by
  rw [MakeChecks.laidMetH_plain _ _ _ laid_plain]
  exact laidMet_of_run' 8 (by kernel_rfl) (by kernel_rfl)
theorem big {w : World} (h : w.ShapedOpen Tryz.prog) : 13 ≤ w.heap.size := Frm.big_of_shape (g := 12) h (of_decide_eq_true (by kernel_rfl)) (by kernel_rfl)
theorem laid_of {w : World} (h : laidMetH Tryz.prog laid0 w) (hs : w.ShapedOpen Tryz.prog) : Laid w := laid_of_met (laid_met h) (big hs)
end Go.Proofs.YtmmfpkkkpeapeaaGreatDoor

/- The builtin copy where an element takes several cells: the kit's run_copy_row for any size. -/
set_option linter.unusedVariables false
namespace Go.Proofs.YtmmfpkkkpeapeaaGreatDoor.cp
open Go
theorem run_copy_rows (P : Program) (w : World) (dT sT ty elem : TypeId) (g o dLen dCap c : Nat) (a : Addr) (sLen sCap : Nat) (cur : Array Value) (t : TypeId) (cs : List Value)
    (hu : P.underlying dT = some (.slice elem)) (hs : (P.info? elem).map (·.size) = some c)
    (hg : w.heap[g]? = some (.cells cur t (0, 0))) (hn : cs.length = Nat.min sLen dLen * c)
    (hsrc : ∀ j v, cs[j]? = some v → w.cell? (a.add j) = some v) (hfit : o + cs.length ≤ cur.size) (h1 : ∀ v ∈ cs, v.oneCell' = true) :
    (Builtin.copy_ #[dT, sT] ty #[.slice (some ⟨g, o, none⟩) dLen dCap, .slice (some a) sLen sCap]).run P w =
      .ok (goInt (Nat.min sLen dLen)) (w.setRow g (cur.toList.take o ++ cs ++ cur.toList.drop (o + cs.length)).toArray) := by
  have hl := run_loadCells_list (P := P) w a cs hsrc
  have hst := run_storeCells_at P g o t cs 0 cur w hg (by simpa using hfit) h1
  cases hq : P.info? elem with
  | none => simp [hq] at hs
  | some i =>
    have hi : i.size = c := by simpa [hq] using hs
    rw [hn] at hl
    simp [Builtin.copy_, run_underlying hu, Builtin.lenOf, Builtin.firstCells, sizeOf, typeInfo, hq, hi, hl, hst]
theorem run_copy_zero (P : Program) (w : World) (dT sT ty elem : TypeId) (d a : Option Addr) (dLen dCap sLen sCap c : Nat)
    (hu : P.underlying dT = some (.slice elem)) (hs : (P.info? elem).map (·.size) = some c) (hn : Nat.min sLen dLen = 0) :
    (Builtin.copy_ #[dT, sT] ty #[.slice d dLen dCap, .slice a sLen sCap]).run P w = .ok (goInt 0) w := by
  cases hq : P.info? elem with
  | none => simp [hq] at hs
  | some i =>
    have hl : ∀ (x : Addr), (loadCells x 0).run P w = .ok #[] w := fun x => by simpa using run_loadCells_list (P := P) w x [] (by simp)
    cases d <;> cases a <;> simp [Builtin.copy_, run_underlying hu, Builtin.lenOf, Builtin.firstCells, sizeOf, typeInfo, hq, hn, storeCells, hl]
open Go.RowKit in
/-- copy, wherever the two lie: the row behind it is spliced. -/
theorem step_copy_rows {P : Program} {ops : Array Oper} {o : Oper} {a : Act} {w : World} {K : Act → World → Prop} {Q : Exit → Act → World → Prop} {E : Prop} (hgd : o.guard = none) (d s : Operand) (dT sT : TypeId)
    (ho : o.op = .call { callee := .builtin .copy, args := #[d, s], argTypes := #[dT, sT] }) (elem : TypeId) (c : Nat) (hu : P.underlying dT = some (.slice elem)) (hsz : (P.info? elem).map (·.size) = some c)
    (dp sp : Option Addr) (dLen dCap sLen sCap : Nat) (hd : a.eval d = .slice dp dLen dCap) (hs : a.eval s = .slice sp sLen sCap)
    (g off : Nat) (cur : List Value) (t : TypeId) (hg : w.heap[g]? = some (.cells cur.toArray t (0, 0))) (cs : List Value) (hn : cs.length = Nat.min sLen dLen * c)
    (hpos : 0 < Nat.min sLen dLen → dp = some ⟨g, off, none⟩ ∧ ∃ ad, sp = some ad ∧ ∀ j v, cs[j]? = some v → w.cell? (ad.add j) = some v)
    (hfit : off + cs.length ≤ cur.length) (h1 : ∀ v ∈ cs, v.oneCell' = true)
    (h : ∀ w', Hid (w'.heap[g]? = some (.cells (splice cur off cs).toArray t (0, 0))) → (∀ B w0, Below B w0 w → B ≤ g → Below B w0 w') → (∀ k, k ≠ g → w'.heap[k]? = w.heap[k]?) → w'.heap.size = w.heap.size → K (a.put o.dst (goInt (Nat.min sLen dLen))) w') :
    if Region.wanted o (yielded ops a.tmps) = true then Oper.wp P o a w K Q else E := by
  have hw : Region.wanted o (yielded ops a.tmps) = true := by simp [Region.wanted, hgd]
  rw [if_pos hw]
  by_cases h0 : Nat.min sLen dLen = 0
  · have hc : cs = [] := List.eq_nil_of_length_eq_zero (by rw [hn, h0, Nat.zero_mul])
    subst hc
    have hrun := run_copy_zero P w dT sT o.type elem dp sp dLen dCap sLen sCap c hu hsz h0
    have H := h w (show _ = _ by simpa [splice] using hg) (fun _ _ hb _ => hb) (fun _ _ => rfl) rfl
    rw [h0] at H
    unfold Oper.wp
    simp [execOp, ho, resolve, invoke, builtin, hd, hs, hrun, Result.andThen]
    exact H
  · obtain ⟨rfl, ad, rfl, hsrc⟩ := hpos (by omega)
    have hrun := run_copy_rows P w dT sT o.type elem g off dLen dCap c ad sLen sCap cur.toArray t cs hu hsz hg hn hsrc (by simpa using hfit) h1
    unfold Oper.wp
    simp [execOp, ho, resolve, invoke, builtin, hd, hs, hrun, Result.andThen]
    exact h _ (show _ = _ by simpa [splice] using setRow_heap w g _ _ t _ hg) (fun B w0 hb hBg => below_setRow hb hBg _) (fun k hne => setRow_other w g k _ hne) (by simp [World.setRow])
open Go.RowKit in
theorem wpList_copy_rows {P : Program} {w : World} {ops : Array Oper} {rest : List Oper} {o : Oper} {a : Act} {Q : Exit → Act → World → Prop} (hgd : o.guard = none) (d s : Operand) (dT sT : TypeId)
    (ho : o.op = .call { callee := .builtin .copy, args := #[d, s], argTypes := #[dT, sT] }) (elem : TypeId) (c : Nat) (hu : P.underlying dT = some (.slice elem)) (hsz : (P.info? elem).map (·.size) = some c)
    (dp sp : Option Addr) (dLen dCap sLen sCap : Nat) (hd : a.eval d = .slice dp dLen dCap) (hs : a.eval s = .slice sp sLen sCap)
    (g off : Nat) (cur : List Value) (t : TypeId) (hg : w.heap[g]? = some (.cells cur.toArray t (0, 0))) (cs : List Value) (hn : cs.length = Nat.min sLen dLen * c)
    (hpos : 0 < Nat.min sLen dLen → dp = some ⟨g, off, none⟩ ∧ ∃ ad, sp = some ad ∧ ∀ j v, cs[j]? = some v → w.cell? (ad.add j) = some v)
    (hfit : off + cs.length ≤ cur.length) (h1 : ∀ v ∈ cs, v.oneCell' = true)
    (h : ∀ w', Hid (w'.heap[g]? = some (.cells (splice cur off cs).toArray t (0, 0))) → (∀ B w0, Below B w0 w → B ≤ g → Below B w0 w') → (∀ k, k ≠ g → w'.heap[k]? = w.heap[k]?) → w'.heap.size = w.heap.size → wpList P ops Q rest (a.put o.dst (goInt (Nat.min sLen dLen))) w') :
    wpList P ops Q (o :: rest) a w :=
  wpList_step fun K hK => step_copy_rows hgd d s dT sT ho elem c hu hsz dp sp dLen dCap sLen sCap hd hs g off cur t hg cs hn hpos hfit h1 (fun w' x y z u => hK _ _ (h w' x y z u))
open Go.RowKit in
/-- The same, as a run: to be laid ahead of the walk where the world is known. -/
theorem copy_run (P : Program) (w : World) (dT sT ty elem : TypeId) (c : Nat) (hu : P.underlying dT = some (.slice elem)) (hsz : (P.info? elem).map (·.size) = some c)
    (dp sp : Option Addr) (dLen dCap sLen sCap : Nat) (g off : Nat) (cur : List Value) (t : TypeId) (hg : w.heap[g]? = some (.cells cur.toArray t (0, 0))) (cs : List Value) (hn : cs.length = Nat.min sLen dLen * c)
    (hpos : 0 < Nat.min sLen dLen → dp = some ⟨g, off, none⟩ ∧ ∃ ad, sp = some ad ∧ ∀ j v, cs[j]? = some v → w.cell? (ad.add j) = some v)
    (hfit : off + cs.length ≤ cur.length) (h1 : ∀ v ∈ cs, v.oneCell' = true) :
    ∃ w', (Builtin.copy_ #[dT, sT] ty #[.slice dp dLen dCap, .slice sp sLen sCap]).run P w = .ok (goInt (Nat.min sLen dLen)) w' ∧ w'.heap[g]? = some (.cells (splice cur off cs).toArray t (0, 0)) ∧ (∀ B w0, Below B w0 w → B ≤ g → Below B w0 w') ∧ (∀ k, k ≠ g → w'.heap[k]? = w.heap[k]?) ∧ w'.heap.size = w.heap.size := by
  by_cases h0 : Nat.min sLen dLen = 0
  · have hc : cs = [] := List.eq_nil_of_length_eq_zero (by rw [hn, h0, Nat.zero_mul])
    subst hc
    refine ⟨w, ?_, by simpa [splice] using hg, fun _ _ hb _ => hb, fun _ _ => rfl, rfl⟩
    rw [h0]
    exact run_copy_zero P w dT sT ty elem dp sp dLen dCap sLen sCap c hu hsz h0
  · obtain ⟨rfl, ad, rfl, hsrc⟩ := hpos (by omega)
    refine ⟨_, run_copy_rows P w dT sT ty elem g off dLen dCap c ad sLen sCap cur.toArray t cs hu hsz hg hn hsrc (by simpa using hfit) h1, by simpa [splice] using setRow_heap w g _ _ t _ hg, fun B w0 hb hBg => below_setRow hb hBg _, fun k hne => setRow_other w g k _ hne, by simp [World.setRow]⟩
end Go.Proofs.YtmmfpkkkpeapeaaGreatDoor.cp

/- frame.World's Of, walked (printed by fo_gen.py). -/
set_option linter.unusedVariables false
set_option linter.unusedSimpArgs false
namespace Go.Proofs.YtmmfpkkkpeapeaaGreatDoor.mb
open Go.RowKit Go.Maps mem rec ar
attribute [local go_sem ↓] Go.wp_at_zero Go.wp_at_succ
set_option maxRecDepth 100000
set_option maxHeartbeats 4000000
def zs (g : Nat) : Array Value := madeCells #[.int .u8 0, .int .i64 0, .string ⟨#[]⟩] (g * 3)
theorem of_a {wc wd : World} {g : Nat} (hUd : Up wc wd) : ∃ s8 rg, Value.pointer (some ⟨wd.heap.size + 1, 0, none⟩) = .pointer (some ⟨s8, 0, none⟩) ∧ Up wc ((wd.alloc (.cells (madeCells #[.int .u8 0, .int .i64 0, .string ⟨#[]⟩] (g * 3)) 51)).alloc (.cells #[.int .i64 1, .int .i64 1, .int .i64 0, .slice (some ⟨wd.heap.size, 0, none⟩) g g, .int .i64 5, .int .i64 0, .slice none 0 0, .slice none 0 0] 92)) ∧ wc.heap.size ≤ s8 ∧ wc.heap.size ≤ rg ∧ s8 ≠ rg ∧
    Blk ((wd.alloc (.cells (madeCells #[.int .u8 0, .int .i64 0, .string ⟨#[]⟩] (g * 3)) 51)).alloc (.cells #[.int .i64 1, .int .i64 1, .int .i64 0, .slice (some ⟨wd.heap.size, 0, none⟩) g g, .int .i64 5, .int .i64 0, .slice none 0 0, .slice none 0 0] 92)) rg (madeCells #[.int .u8 0, .int .i64 0, .string ⟨#[]⟩] (g * 3)) 51 ∧ Blk ((wd.alloc (.cells (madeCells #[.int .u8 0, .int .i64 0, .string ⟨#[]⟩] (g * 3)) 51)).alloc (.cells #[.int .i64 1, .int .i64 1, .int .i64 0, .slice (some ⟨wd.heap.size, 0, none⟩) g g, .int .i64 5, .int .i64 0, .slice none 0 0, .slice none 0 0] 92)) s8 #[.int .i64 1, .int .i64 1, .int .i64 0, .slice (some ⟨rg, 0, none⟩) g g, .int .i64 5, .int .i64 0, .slice none 0 0, .slice none 0 0] 92 := by
  have z := hUd.size
  have h1 := heap_alloc_new wd (.cells (madeCells #[.int .u8 0, .int .i64 0, .string ⟨#[]⟩] (g * 3)) 51)
  have e : Blk (wd.alloc (.cells (madeCells #[.int .u8 0, .int .i64 0, .string ⟨#[]⟩] (g * 3)) 51)) wd.heap.size (madeCells #[.int .u8 0, .int .i64 0, .string ⟨#[]⟩] (g * 3)) 51 := h1
  refine ⟨wd.heap.size + 1, wd.heap.size, rfl, (hUd.alloc _).alloc _, by omega, by omega, by omega, e.chg ((Up.refl _).alloc _).chg (by simp), ?_⟩
  have h2 := heap_alloc_new (wd.alloc (.cells (madeCells #[.int .u8 0, .int .i64 0, .string ⟨#[]⟩] (g * 3)) 51)) (.cells #[.int .i64 1, .int .i64 1, .int .i64 0, .slice (some ⟨wd.heap.size, 0, none⟩) g g, .int .i64 5, .int .i64 0, .slice none 0 0, .slice none 0 0] 92)
  rw [World.size_alloc] at h2
  exact h2
theorem of_b {wc wd : World} {g : Nat} (hUd : Up wc wd) : ∃ s8 rg, Value.pointer (some ⟨wd.heap.size, 0, none⟩) = .pointer (some ⟨s8, 0, none⟩) ∧ Up wc ((wd.alloc (.cells #[.int .i64 1, .int .i64 1, .int .i64 0, .slice (some ⟨wd.heap.size + 1, 0, none⟩) g g, .int .i64 5, .int .i64 0, .slice none 0 0, .slice none 0 0] 92)).alloc (.cells (madeCells #[.int .u8 0, .int .i64 0, .string ⟨#[]⟩] (g * 3)) 51)) ∧ wc.heap.size ≤ s8 ∧ wc.heap.size ≤ rg ∧ s8 ≠ rg ∧
    Blk ((wd.alloc (.cells #[.int .i64 1, .int .i64 1, .int .i64 0, .slice (some ⟨wd.heap.size + 1, 0, none⟩) g g, .int .i64 5, .int .i64 0, .slice none 0 0, .slice none 0 0] 92)).alloc (.cells (madeCells #[.int .u8 0, .int .i64 0, .string ⟨#[]⟩] (g * 3)) 51)) rg (madeCells #[.int .u8 0, .int .i64 0, .string ⟨#[]⟩] (g * 3)) 51 ∧ Blk ((wd.alloc (.cells #[.int .i64 1, .int .i64 1, .int .i64 0, .slice (some ⟨wd.heap.size + 1, 0, none⟩) g g, .int .i64 5, .int .i64 0, .slice none 0 0, .slice none 0 0] 92)).alloc (.cells (madeCells #[.int .u8 0, .int .i64 0, .string ⟨#[]⟩] (g * 3)) 51)) s8 #[.int .i64 1, .int .i64 1, .int .i64 0, .slice (some ⟨rg, 0, none⟩) g g, .int .i64 5, .int .i64 0, .slice none 0 0, .slice none 0 0] 92 := by
  have z := hUd.size
  have e : Blk (wd.alloc (.cells #[.int .i64 1, .int .i64 1, .int .i64 0, .slice (some ⟨wd.heap.size + 1, 0, none⟩) g g, .int .i64 5, .int .i64 0, .slice none 0 0, .slice none 0 0] 92)) wd.heap.size #[.int .i64 1, .int .i64 1, .int .i64 0, .slice (some ⟨wd.heap.size + 1, 0, none⟩) g g, .int .i64 5, .int .i64 0, .slice none 0 0, .slice none 0 0] 92 := heap_alloc_new wd _
  have h2 := heap_alloc_new (wd.alloc (.cells #[.int .i64 1, .int .i64 1, .int .i64 0, .slice (some ⟨wd.heap.size + 1, 0, none⟩) g g, .int .i64 5, .int .i64 0, .slice none 0 0, .slice none 0 0] 92)) (.cells (madeCells #[.int .u8 0, .int .i64 0, .string ⟨#[]⟩] (g * 3)) 51)
  rw [World.size_alloc] at h2
  exact ⟨wd.heap.size, wd.heap.size + 1, rfl, (hUd.alloc _).alloc _, by omega, by omega, by omega, h2, e.chg ((Up.refl _).alloc _).chg (by simp)⟩
theorem cell_add {w w' : World} {ad : Addr} {j : Nat} {v : Value} (u : Up w w') (h2 : ad.block < w.heap.size) (h : w.cell? (ad.add j) = some v) : w'.cell? (ad.add j) = some v := up_cell u h
theorem sizeVal : (Tryz.prog.info? 51).map (·.size) = some 3 := by kernel_rfl
theorem infoVal : (Tryz.prog.info? 51).map (fun i => (i.zero, i.size, i.bytes)) = some (some (.agg #[.int .u8 0, .int .i64 0, .string ⟨#[]⟩]), 3, 32) := by kernel_rfl
theorem of_x {w : World} {wb mb_ fb ob p g xn xc hn hc an ac : Nat} {xa ha aa : Option Addr} {cs1 cs2 : List Value} (hg : g ≤ 15) (hp : p ≤ g) (hl1 : cs1.length = Nat.min an p * 3) (hl2 : cs2.length = Nat.min hn (g - p) * 3) (hone1 : ∀ v ∈ cs1, v.oneCell' = true) (hone2 : ∀ v ∈ cs2, v.oneCell' = true)
    (src1 : 0 < Nat.min an p → ∃ ad, aa = some ad ∧ ad.block < w.heap.size ∧ ∀ j v, cs1[j]? = some v → w.cell? (ad.add j) = some v) (src2 : 0 < Nat.min hn (g - p) → ∃ ad, ha = some ad ∧ ad.block < w.heap.size ∧ ∀ j v, cs2[j]? = some v → w.cell? (ad.add j) = some v)
    (pre : w.cell? ⟨wb, 3, none⟩ = some (.slice (some ⟨mb_, 0, none⟩) 2 2) ∧ w.cell? ⟨mb_, 1, none⟩ = some (.slice (some ⟨fb, 0, none⟩) 2 2) ∧ w.cell? ⟨fb, 5, none⟩ = some (.int .i64 (p : Int)) ∧ w.cell? ⟨fb, 6, none⟩ = some (.slice xa xn xc) ∧ w.cell? ⟨fb, 7, none⟩ = some (.int .i64 (g : Int)) ∧ w.cell? ⟨fb, 8, none⟩ = some (.slice none 0 0) ∧ w.cell? ⟨fb, 9, none⟩ = some (.slice none 0 0) ∧ w.cell? ⟨ob, 4, none⟩ = some (.int .i64 1) ∧ w.cell? ⟨ob, 5, none⟩ = some (.int .i64 1) ∧ w.cell? ⟨ob, 1, none⟩ = some (.int .i64 5) ∧ w.cell? ⟨ob, 6, none⟩ = some (.slice ha hn hc)) :
    Calls Tryz.prog 24 #[.pointer (some ⟨wb, 0, none⟩), .pointer (some ⟨ob, 0, none⟩), .slice aa an ac] w fun e w' => ∃ (rg : Nat) (R : TypeId), e = .returned (.agg #[.int .i64 1, .int .i64 1, .int .i64 0, .slice (some ⟨rg, 0, none⟩) g g, .int .i64 5, .int .i64 0, .slice none 0 0, .slice none 0 0]) ∧ Up w w' ∧ w.heap.size ≤ rg ∧ Blk w' rg (splice (splice (madeCells #[.int .u8 0, .int .i64 0, .string ⟨#[]⟩] (g * 3)).toList 0 cs1) (p * 3) cs2).toArray R := by
  have HPre : Hid (∀ w', Up w w' → w'.cell? ⟨wb, 3, none⟩ = some (.slice (some ⟨mb_, 0, none⟩) 2 2) ∧ w'.cell? ⟨mb_, 1, none⟩ = some (.slice (some ⟨fb, 0, none⟩) 2 2) ∧ w'.cell? ⟨fb, 5, none⟩ = some (.int .i64 (p : Int)) ∧ w'.cell? ⟨fb, 6, none⟩ = some (.slice xa xn xc) ∧ w'.cell? ⟨fb, 7, none⟩ = some (.int .i64 (g : Int)) ∧ w'.cell? ⟨fb, 8, none⟩ = some (.slice none 0 0) ∧ w'.cell? ⟨fb, 9, none⟩ = some (.slice none 0 0) ∧ w'.cell? ⟨ob, 4, none⟩ = some (.int .i64 1) ∧ w'.cell? ⟨ob, 5, none⟩ = some (.int .i64 1) ∧ w'.cell? ⟨ob, 1, none⟩ = some (.int .i64 5) ∧ w'.cell? ⟨ob, 6, none⟩ = some (.slice ha hn hc)) := by
    intro w' hu
    obtain ⟨h1, h2, h3, h4, h5, h6, h7, h8, h9, h10, h11⟩ := pre
    exact ⟨up_cell hu h1, up_cell hu h2, up_cell hu h3, up_cell hu h4, up_cell hu h5, up_cell hu h6, up_cell hu h7, up_cell hu h8, up_cell hu h9, up_cell hu h10, up_cell hu h11⟩
  clear pre
  go_enter Tryz.func24, Tryz.ntmps24
  go_wp2_with fail
  have hu0 : Up w (w.alloc (.cells #[.int .i64 0, .int .i64 0, .int .i64 0, .slice none 0 0, .int .i64 0, .int .i64 0, .slice none 0 0, .slice none 0 0] 92)) := (Up.refl w).alloc _
  have hbz : Blk (w.alloc (.cells #[.int .i64 0, .int .i64 0, .int .i64 0, .slice none 0 0, .int .i64 0, .int .i64 0, .slice none 0 0, .slice none 0 0] 92)) w.heap.size #[.int .i64 0, .int .i64 0, .int .i64 0, .slice none 0 0, .int .i64 0, .int .i64 0, .slice none 0 0, .slice none 0 0] 92 := heap_alloc_new w _
  generalize hwz : World.alloc w _ = wz at hu0 hbz ⊢
  go_cut [7] from 9 to 25 (fun x wx => ∃ s7, x = .pointer (some ⟨s7, 0, none⟩) ∧ Up w wx ∧ Blk wx s7 #[.int .i64 (p : Int), .slice xa xn xc, .int .i64 (g : Int), .slice none 0 0, .slice none 0 0] 85 ∧ Blk wx w.heap.size #[.int .i64 0, .int .i64 0, .int .i64 0, .slice none 0 0, .int .i64 0, .int .i64 0, .slice none 0 0, .slice none 0 0] 92)
  case first =>
    refine AnyT.start (S := (fun w' => w'.cell? ⟨wb, 3, none⟩ = some (.slice (some ⟨mb_, 0, none⟩) 2 2) ∧ w'.cell? ⟨mb_, 1, none⟩ = some (.slice (some ⟨fb, 0, none⟩) 2 2) ∧ w'.cell? ⟨fb, 5, none⟩ = some (.int .i64 (p : Int)) ∧ w'.cell? ⟨fb, 6, none⟩ = some (.slice xa xn xc) ∧ w'.cell? ⟨fb, 7, none⟩ = some (.int .i64 (g : Int)) ∧ w'.cell? ⟨fb, 8, none⟩ = some (.slice none 0 0) ∧ w'.cell? ⟨fb, 9, none⟩ = some (.slice none 0 0) ∧ w'.cell? ⟨ob, 4, none⟩ = some (.int .i64 1) ∧ w'.cell? ⟨ob, 5, none⟩ = some (.int .i64 1) ∧ w'.cell? ⟨ob, 1, none⟩ = some (.int .i64 5) ∧ w'.cell? ⟨ob, 6, none⟩ = some (.slice ha hn hc))) 18 (by kernel_rfl) (HPre.out _ hu0.drew) (fun hHeld => ?_)
    have hUd : Up w wz.drew := hu0.drew
    have hUz : Up wz wz.drew := (Up.refl wz).drew
    generalize World.drew wz = wd at hUd hUz hHeld ⊢
    refine AnyT.pick (i := 0) (oi := ⟨_, _, _, _, _, _⟩) (v := ?_) rfl (by kernel_rfl) (by kernel_rfl) (by kernel_rfl) (fun _ _ _ h => h) (Or.inl ⟨by rfl, ?y0_1⟩) ?_
    case' y0_1 => ((intro w hSw; go_simp) <;> (with_reducible rfl))
    try simp only [Act.put, List.setIfInBounds_toArray, List.set_cons_zero, List.set_cons_succ]
    refine AnyT.pick (i := 1) (oi := ⟨_, _, _, _, _, _⟩) (v := ?_) rfl (by kernel_rfl) (by kernel_rfl) (by kernel_rfl) (fun _ _ _ h => h) (Or.inl ⟨by rfl, ?y1_2⟩) ?_
    case' y1_2 => ((intro w hSw; go_simp) <;> (with_reducible rfl))
    try simp only [Act.put, List.setIfInBounds_toArray, List.set_cons_zero, List.set_cons_succ]
    refine AnyT.pick (i := 2) (oi := ⟨_, _, _, _, _, _⟩) (v := ?_) rfl (by kernel_rfl) (by kernel_rfl) (by kernel_rfl) (fun _ _ _ h => h) (Or.inl ⟨by rfl, ?y2_3⟩) ?_
    case' y2_3 => ((intro w hSw; go_simp) <;> (with_reducible rfl))
    try simp only [Act.put, List.setIfInBounds_toArray, List.set_cons_zero, List.set_cons_succ]
    refine AnyT.take (i := 3) (oi := ⟨_, _, _, _, _, _⟩) (v := ?_) rfl (by kernel_rfl) (by kernel_rfl) (by kernel_rfl) (by kernel_rfl) (fun _ _ _ h => h) (Or.inl ⟨by rfl, ?y3_4⟩) (by assumption) ?_
    case' y3_4 => ((intro w hSw; (try dsimp only at hSw); go_simp) <;> (with_reducible rfl))
    try simp only [Act.put, List.setIfInBounds_toArray, List.set_cons_zero, List.set_cons_succ]
    refine AnyT.pick (i := 4) (oi := ⟨_, _, _, _, _, _⟩) (v := ?_) rfl (by kernel_rfl) (by kernel_rfl) (by kernel_rfl) (fun _ _ _ h => h) (Or.inl ⟨by rfl, ?y4_5⟩) ?_
    case' y4_5 => ((intro w hSw; go_simp) <;> (with_reducible rfl))
    try simp only [Act.put, List.setIfInBounds_toArray, List.set_cons_zero, List.set_cons_succ]
    refine AnyT.pick (i := 5) (oi := ⟨_, _, _, _, _, _⟩) (v := ?_) rfl (by kernel_rfl) (by kernel_rfl) (by kernel_rfl) (fun _ _ _ h => h) (Or.inl ⟨by rfl, ?y5_6⟩) ?_
    case' y5_6 => ((intro w hSw; go_simp) <;> (with_reducible rfl))
    try simp only [Act.put, List.setIfInBounds_toArray, List.set_cons_zero, List.set_cons_succ]
    refine AnyT.pick (i := 6) (oi := ⟨_, _, _, _, _, _⟩) (v := ?_) rfl (by kernel_rfl) (by kernel_rfl) (by kernel_rfl) (fun _ _ _ h => h) (Or.inl ⟨by rfl, ?y6_7⟩) ?_
    case' y6_7 => ((intro w hSw; go_simp) <;> (with_reducible rfl))
    try simp only [Act.put, List.setIfInBounds_toArray, List.set_cons_zero, List.set_cons_succ]
    refine AnyT.take (i := 7) (oi := ⟨_, _, _, _, _, _⟩) (v := ?_) rfl (by kernel_rfl) (by kernel_rfl) (by kernel_rfl) (by kernel_rfl) (fun _ _ _ h => h) (Or.inl ⟨by rfl, ?y7_8⟩) (by assumption) ?_
    case' y7_8 => ((intro w hSw; (try dsimp only at hSw); go_simp) <;> (with_reducible rfl))
    try simp only [Act.put, List.setIfInBounds_toArray, List.set_cons_zero, List.set_cons_succ]
    refine AnyT.pick (i := 8) (oi := ⟨_, _, _, _, _, _⟩) (v := ?_) rfl (by kernel_rfl) (by kernel_rfl) (by kernel_rfl) (fun _ _ _ h => h) (Or.inl ⟨by rfl, ?y8_9⟩) ?_
    case' y8_9 => ((intro w hSw; go_simp) <;> (with_reducible rfl))
    try simp only [Act.put, List.setIfInBounds_toArray, List.set_cons_zero, List.set_cons_succ]
    refine AnyT.pick (i := 9) (oi := ⟨_, _, _, _, _, _⟩) (v := ?_) rfl (by kernel_rfl) (by kernel_rfl) (by kernel_rfl) (fun _ _ _ h => h) (Or.inl ⟨by rfl, ?y9_10⟩) ?_
    case' y9_10 => ((intro w hSw; go_simp) <;> (with_reducible rfl))
    try simp only [Act.put, List.setIfInBounds_toArray, List.set_cons_zero, List.set_cons_succ]
    refine AnyT.take (i := 10) (oi := ⟨_, _, _, _, _, _⟩) (v := ?_) rfl (by kernel_rfl) (by kernel_rfl) (by kernel_rfl) (by kernel_rfl) (fun _ _ _ h => h) (Or.inl ⟨by rfl, ?y10_11⟩) (by assumption) ?_
    case' y10_11 => ((intro w hSw; (try dsimp only at hSw); go_simp) <;> (with_reducible rfl))
    try simp only [Act.put, List.setIfInBounds_toArray, List.set_cons_zero, List.set_cons_succ]
    refine AnyT.pick (i := 11) (oi := ⟨_, _, _, _, _, _⟩) (v := ?_) rfl (by kernel_rfl) (by kernel_rfl) (by kernel_rfl) (fun _ _ _ h => h) (Or.inl ⟨by rfl, ?y11_12⟩) ?_
    case' y11_12 => ((intro w hSw; go_simp) <;> (with_reducible rfl))
    try simp only [Act.put, List.setIfInBounds_toArray, List.set_cons_zero, List.set_cons_succ]
    refine AnyT.pick (i := 12) (oi := ⟨_, _, _, _, _, _⟩) (v := ?_) rfl (by kernel_rfl) (by kernel_rfl) (by kernel_rfl) (fun _ _ _ h => h) (Or.inl ⟨by rfl, ?y12_13⟩) ?_
    case' y12_13 => ((intro w hSw; go_simp) <;> (with_reducible rfl))
    try simp only [Act.put, List.setIfInBounds_toArray, List.set_cons_zero, List.set_cons_succ]
    refine AnyT.pick (i := 13) (oi := ⟨_, _, _, _, _, _⟩) (v := ?_) rfl (by kernel_rfl) (by kernel_rfl) (by kernel_rfl) (fun _ _ _ h => h) (Or.inl ⟨by rfl, ?y13_14⟩) ?_
    case' y13_14 => ((intro w hSw; go_simp) <;> (with_reducible rfl))
    try simp only [Act.put, List.setIfInBounds_toArray, List.set_cons_zero, List.set_cons_succ]
    refine AnyT.take (i := 14) (oi := ⟨_, _, _, _, _, _⟩) (v := ?_) rfl (by kernel_rfl) (by kernel_rfl) (by kernel_rfl) (by kernel_rfl) (fun _ _ _ h => h) (Or.inl ⟨by rfl, ?y14_15⟩) (by assumption) ?_
    case' y14_15 => ((intro w hSw; (try dsimp only at hSw); go_simp) <;> (with_reducible rfl))
    try simp only [Act.put, List.setIfInBounds_toArray, List.set_cons_zero, List.set_cons_succ]
    refine AnyT.pick (i := 15) (oi := ⟨_, _, _, _, _, _⟩) (v := ?_) rfl (by kernel_rfl) (by kernel_rfl) (by kernel_rfl) (fun _ _ _ h => h) (Or.inl ⟨by rfl, ?y15_16⟩) ?_
    case' y15_16 => ((intro w hSw; go_simp) <;> (with_reducible rfl))
    try simp only [Act.put, List.setIfInBounds_toArray, List.set_cons_zero, List.set_cons_succ]
    refine AnyT.take (i := 16) (oi := ⟨_, _, _, _, _, _⟩) (v := ?_) rfl (by kernel_rfl) (by kernel_rfl) (by kernel_rfl) (by kernel_rfl) (fun _ _ _ h => h) (Or.inl ⟨by rfl, ?y16_17⟩) (by assumption) ?_
    case' y16_17 => ((intro w hSw; (try dsimp only at hSw); go_simp) <;> (with_reducible rfl))
    try simp only [Act.put, List.setIfInBounds_toArray, List.set_cons_zero, List.set_cons_succ]
    refine AllT.go (rs := [17]) (by kernel_rfl) (by simp) ?_
    refine AllT.early (o := ⟨_, _, _, _, _, _⟩) rfl (fun K hK => ?_) ?_
    · go_simp
      refine hK.out _ _ (HPre.out _ (hUd.alloc _)) (fun _ => ?_)
      clear hK K
      try simp only [Act.put, List.setIfInBounds_toArray, List.set_cons_zero, List.set_cons_succ]
      refine AllT.go (rs := [18]) (by kernel_rfl) (by simp) ?_
      refine AllT.late (o := ⟨_, _, _, _, _, _⟩) rfl (by decide) (fun K hK => ?_) ?_
      · go_simp
        refine hK.out _ _ trivial (fun _ => ?_)
        clear hK K
        try simp only [Act.put, List.setIfInBounds_toArray, List.set_cons_zero, List.set_cons_succ]
        refine AnyT.done (by kernel_rfl) ?_ _
        go_wp2_with fail
        go_meet
        exact ⟨wd.heap.size, rfl, hUd.alloc _, heap_alloc_new wd _, hbz.chg (hUz.alloc _).chg (by simp)⟩
      exact AllT.nil
    exact AllT.nil
  case rest =>
    obtain ⟨s7, rfl, hu7, hb7, hb6⟩ := hcut
    have H2 : Hid (∀ w', Up wc w' → w'.cell? ⟨ob, 4, none⟩ = some (.int .i64 1) ∧ w'.cell? ⟨ob, 5, none⟩ = some (.int .i64 1) ∧ w'.cell? ⟨ob, 1, none⟩ = some (.int .i64 5) ∧ w'.cell? ⟨s7, 2, none⟩ = some (.int .i64 (g : Int))) := by
      intro w' hu
      obtain ⟨-, -, -, -, -, -, -, h8, h9, h10, -⟩ := HPre.out _ (hu7.trans hu)
      exact ⟨h8, h9, h10, up_cell hu (hb7.cell 2)⟩
    have MKS : ∀ W, (Instr.makeSlice 64 (.int .i64 (g : Int)) (.int .i64 (g : Int))).run Tryz.prog W = .ok (.slice (some ⟨W.heap.size, 0, none⟩) g g) (W.alloc (.cells (madeCells #[.int .u8 0, .int .i64 0, .string ⟨#[]⟩] (g * 3)) 51)) := by
      intro W
      obtain ⟨iV, hi, hz0, hz1, hz2⟩ := info_parts infoVal
      have h := run_make (P := Tryz.prog) W 64 51 iV _ Tryz.underlying64 hi hz0 .i64 .i64 (g : Int) (g : Int) (by omega) (by omega) (by rw [hz2]; omega) (by omega)
      rw [hz1, Int.toNat_natCast] at h
      exact h
    go_wp2_with fail
    go_cut [8] from 26 to 41 (fun x wx => ∃ s8 rg, x = .pointer (some ⟨s8, 0, none⟩) ∧ Up wc wx ∧ wc.heap.size ≤ s8 ∧ wc.heap.size ≤ rg ∧ s8 ≠ rg ∧ Blk wx rg (madeCells #[.int .u8 0, .int .i64 0, .string ⟨#[]⟩] (g * 3)) 51 ∧ Blk wx s8 #[.int .i64 1, .int .i64 1, .int .i64 0, .slice (some ⟨rg, 0, none⟩) g g, .int .i64 5, .int .i64 0, .slice none 0 0, .slice none 0 0] 92)
    case first =>
      refine AnyT.start (S := fun w' => w'.cell? ⟨ob, 4, none⟩ = some (.int .i64 1) ∧ w'.cell? ⟨ob, 5, none⟩ = some (.int .i64 1) ∧ w'.cell? ⟨ob, 1, none⟩ = some (.int .i64 5) ∧ w'.cell? ⟨s7, 2, none⟩ = some (.int .i64 (g : Int))) 17 (by kernel_rfl) (H2.out _ (Up.refl wc).drew) (fun hHeld => ?_)
      have hUd : Up wc wc.drew := (Up.refl wc).drew
      generalize World.drew wc = wd at hUd hHeld ⊢
      refine AnyT.pick (i := 0) (oi := ⟨_, _, _, _, _, _⟩) (v := ?_) rfl (by kernel_rfl) (by kernel_rfl) (by kernel_rfl) (fun _ _ _ h => h) (Or.inl ⟨by rfl, ?y0_18⟩) ?_
      case' y0_18 => ((intro w hSw; go_simp) <;> (with_reducible rfl))
      try simp only [Act.put, List.setIfInBounds_toArray, List.set_cons_zero, List.set_cons_succ]
      refine AnyT.pick (i := 1) (oi := ⟨_, _, _, _, _, _⟩) (v := ?_) rfl (by kernel_rfl) (by kernel_rfl) (by kernel_rfl) (fun _ _ _ h => h) (Or.inl ⟨by rfl, ?y1_19⟩) ?_
      case' y1_19 => ((intro w hSw; go_simp) <;> (with_reducible rfl))
      try simp only [Act.put, List.setIfInBounds_toArray, List.set_cons_zero, List.set_cons_succ]
      refine AnyT.pick (i := 2) (oi := ⟨_, _, _, _, _, _⟩) (v := ?_) rfl (by kernel_rfl) (by kernel_rfl) (by kernel_rfl) (fun _ _ _ h => h) (Or.inl ⟨by rfl, ?y2_20⟩) ?_
      case' y2_20 => ((intro w hSw; go_simp) <;> (with_reducible rfl))
      try simp only [Act.put, List.setIfInBounds_toArray, List.set_cons_zero, List.set_cons_succ]
      refine AnyT.take (i := 3) (oi := ⟨_, _, _, _, _, _⟩) (v := ?_) rfl (by kernel_rfl) (by kernel_rfl) (by kernel_rfl) (by kernel_rfl) (fun _ _ _ h => h) (Or.inl ⟨by rfl, ?y3_21⟩) (by assumption) ?_
      case' y3_21 => ((intro w hSw; (try dsimp only at hSw); go_simp) <;> (with_reducible rfl))
      try simp only [Act.put, List.setIfInBounds_toArray, List.set_cons_zero, List.set_cons_succ]
      refine AnyT.pick (i := 4) (oi := ⟨_, _, _, _, _, _⟩) (v := ?_) rfl (by kernel_rfl) (by kernel_rfl) (by kernel_rfl) (fun _ _ _ h => h) (Or.inl ⟨by rfl, ?y4_22⟩) ?_
      case' y4_22 => ((intro w hSw; go_simp) <;> (with_reducible rfl))
      try simp only [Act.put, List.setIfInBounds_toArray, List.set_cons_zero, List.set_cons_succ]
      refine AnyT.pick (i := 5) (oi := ⟨_, _, _, _, _, _⟩) (v := ?_) rfl (by kernel_rfl) (by kernel_rfl) (by kernel_rfl) (fun _ _ _ h => h) (Or.inl ⟨by rfl, ?y5_23⟩) ?_
      case' y5_23 => ((intro w hSw; go_simp) <;> (with_reducible rfl))
      try simp only [Act.put, List.setIfInBounds_toArray, List.set_cons_zero, List.set_cons_succ]
      refine AnyT.pick (i := 6) (oi := ⟨_, _, _, _, _, _⟩) (v := ?_) rfl (by kernel_rfl) (by kernel_rfl) (by kernel_rfl) (fun _ _ _ h => h) (Or.inl ⟨by rfl, ?y6_24⟩) ?_
      case' y6_24 => ((intro w hSw; go_simp) <;> (with_reducible rfl))
      try simp only [Act.put, List.setIfInBounds_toArray, List.set_cons_zero, List.set_cons_succ]
      refine AnyT.take (i := 7) (oi := ⟨_, _, _, _, _, _⟩) (v := ?_) rfl (by kernel_rfl) (by kernel_rfl) (by kernel_rfl) (by kernel_rfl) (fun _ _ _ h => h) (Or.inl ⟨by rfl, ?y7_25⟩) (by assumption) ?_
      case' y7_25 => ((intro w hSw; (try dsimp only at hSw); go_simp) <;> (with_reducible rfl))
      try simp only [Act.put, List.setIfInBounds_toArray, List.set_cons_zero, List.set_cons_succ]
      refine AnyT.pick (i := 8) (oi := ⟨_, _, _, _, _, _⟩) (v := ?_) rfl (by kernel_rfl) (by kernel_rfl) (by kernel_rfl) (fun _ _ _ h => h) (Or.inl ⟨by rfl, ?y8_26⟩) ?_
      case' y8_26 => ((intro w hSw; go_simp) <;> (with_reducible rfl))
      try simp only [Act.put, List.setIfInBounds_toArray, List.set_cons_zero, List.set_cons_succ]
      refine AnyT.take (i := 9) (oi := ⟨_, _, _, _, _, _⟩) (v := ?_) rfl (by kernel_rfl) (by kernel_rfl) (by kernel_rfl) (by kernel_rfl) (fun _ _ _ h => h) (Or.inl ⟨by rfl, ?y9_27⟩) (by assumption) ?_
      case' y9_27 => ((intro w hSw; (try dsimp only at hSw); go_simp) <;> (with_reducible rfl))
      try simp only [Act.put, List.setIfInBounds_toArray, List.set_cons_zero, List.set_cons_succ]
      refine AnyT.pick (i := 11) (oi := ⟨_, _, _, _, _, _⟩) (v := ?_) rfl (by kernel_rfl) (by kernel_rfl) (by kernel_rfl) (fun _ _ _ h => h) (Or.inl ⟨by rfl, ?y11_28⟩) ?_
      case' y11_28 => ((intro w hSw; go_simp) <;> (with_reducible rfl))
      try simp only [Act.put, List.setIfInBounds_toArray, List.set_cons_zero, List.set_cons_succ]
      refine AnyT.pick (i := 12) (oi := ⟨_, _, _, _, _, _⟩) (v := ?_) rfl (by kernel_rfl) (by kernel_rfl) (by kernel_rfl) (fun _ _ _ h => h) (Or.inl ⟨by rfl, ?y12_29⟩) ?_
      case' y12_29 => ((intro w hSw; go_simp) <;> (with_reducible rfl))
      try simp only [Act.put, List.setIfInBounds_toArray, List.set_cons_zero, List.set_cons_succ]
      refine AnyT.pick (i := 13) (oi := ⟨_, _, _, _, _, _⟩) (v := ?_) rfl (by kernel_rfl) (by kernel_rfl) (by kernel_rfl) (fun _ _ _ h => h) (Or.inl ⟨by rfl, ?y13_30⟩) ?_
      case' y13_30 => ((intro w hSw; go_simp) <;> (with_reducible rfl))
      try simp only [Act.put, List.setIfInBounds_toArray, List.set_cons_zero, List.set_cons_succ]
      refine AnyT.take (i := 14) (oi := ⟨_, _, _, _, _, _⟩) (v := ?_) rfl (by kernel_rfl) (by kernel_rfl) (by kernel_rfl) (by kernel_rfl) (fun _ _ _ h => h) (Or.inl ⟨by rfl, ?y14_31⟩) (by assumption) ?_
      case' y14_31 => ((intro w hSw; (try dsimp only at hSw); go_simp) <;> (with_reducible rfl))
      try simp only [Act.put, List.setIfInBounds_toArray, List.set_cons_zero, List.set_cons_succ]
      refine AllT.go (rs := [10, 16]) (by kernel_rfl) (by simp) ?_
      refine AllT.early (o := ⟨_, _, _, _, _, _⟩) rfl (fun K hK => ?_) ?_
      · go_simp
        refine hK.out _ _ (H2.out _ (hUd.alloc _)) (fun _ => ?_)
        clear hK K
        try simp only [Act.put, List.setIfInBounds_toArray, List.set_cons_zero, List.set_cons_succ]
        refine AnyT.pick (i := 15) (oi := ⟨_, _, _, _, _, _⟩) (v := ?_) rfl (by kernel_rfl) (by kernel_rfl) (by kernel_rfl) (fun _ _ _ h => h) (Or.inl ⟨by rfl, ?y15_32⟩) ?_
        case' y15_32 => ((intro w hSw; go_simp) <;> (with_reducible rfl))
        try simp only [Act.put, List.setIfInBounds_toArray, List.set_cons_zero, List.set_cons_succ]
        refine AllT.go (rs := [16]) (by kernel_rfl) (by simp) ?_
        refine AllT.early (o := ⟨_, _, _, _, _, _⟩) rfl (fun K hK => ?_) ?_
        · go_simp
          refine hK.out _ _ (H2.out _ ((hUd.alloc _).alloc _)) (fun _ => ?_)
          clear hK K
          try simp only [Act.put, List.setIfInBounds_toArray, List.set_cons_zero, List.set_cons_succ]
          refine AllT.go (rs := [17]) (by kernel_rfl) (by simp) ?_
          refine AllT.late (o := ⟨_, _, _, _, _, _⟩) rfl (by decide) (fun K hK => ?_) ?_
          · go_simp
            refine hK.out _ _ trivial (fun _ => ?_)
            clear hK K
            try simp only [Act.put, List.setIfInBounds_toArray, List.set_cons_zero, List.set_cons_succ]
            refine AnyT.done (by kernel_rfl) ?_ _
            go_wp2_with fail
            go_meet
            exact of_a hUd
          exact AllT.nil
        exact AllT.nil
      refine AllT.early (o := ⟨_, _, _, _, _, _⟩) rfl (fun K hK => ?_) ?_
      · go_simp
        refine hK.out _ _ (H2.out _ (hUd.alloc _)) (fun _ => ?_)
        clear hK K
        try simp only [Act.put, List.setIfInBounds_toArray, List.set_cons_zero, List.set_cons_succ]
        refine AllT.go (rs := [10]) (by kernel_rfl) (by simp) ?_
        refine AllT.early (o := ⟨_, _, _, _, _, _⟩) rfl (fun K hK => ?_) ?_
        · go_simp
          refine hK.out _ _ (H2.out _ ((hUd.alloc _).alloc _)) (fun _ => ?_)
          clear hK K
          try simp only [Act.put, List.setIfInBounds_toArray, List.set_cons_zero, List.set_cons_succ]
          refine AnyT.pick (i := 15) (oi := ⟨_, _, _, _, _, _⟩) (v := ?_) rfl (by kernel_rfl) (by kernel_rfl) (by kernel_rfl) (fun _ _ _ h => h) (Or.inl ⟨by rfl, ?y15_33⟩) ?_
          case' y15_33 => ((intro w hSw; go_simp) <;> (with_reducible rfl))
          try simp only [Act.put, List.setIfInBounds_toArray, List.set_cons_zero, List.set_cons_succ]
          refine AllT.go (rs := [17]) (by kernel_rfl) (by simp) ?_
          refine AllT.late (o := ⟨_, _, _, _, _, _⟩) rfl (by decide) (fun K hK => ?_) ?_
          · go_simp
            refine hK.out _ _ trivial (fun _ => ?_)
            clear hK K
            try simp only [Act.put, List.setIfInBounds_toArray, List.set_cons_zero, List.set_cons_succ]
            refine AnyT.done (by kernel_rfl) ?_ _
            go_wp2_with fail
            go_meet
            exact of_b hUd
          exact AllT.nil
        exact AllT.nil
      exact AllT.nil
    case rest =>
      obtain ⟨s8, rg, rfl, hu8, hs8, hrg, hne, hbr, hb8⟩ := hcut
      have huw : Up w wc := by
        rename World => wcc
        exact Up.trans (by assumption) hu8
      have hwr : w.heap.size ≤ rg := Nat.le_trans hu7.size hrg
      have r3 := hb8.cell 3
      have r7 := (hb7.chg hu8.chg (by simp)).cell 0
      have p0 : (0 : Int) ≤ (p : Int) := by omega
      have p1 : (p : Int) ≤ (g : Int) := by omega
      have p2 : ¬ (g : Int) < (p : Int) := by omega
      have hcur : (madeCells #[.int .u8 0, .int .i64 0, .string ⟨#[]⟩] (g * 3)).toList.length = g * 3 := by simp [size_madeCells]
      have hpos1 : 0 < Nat.min an p → (some (⟨rg, 0, none⟩ : Addr)) = some ⟨rg, 0, none⟩ ∧ ∃ ad, aa = some ad ∧ ∀ j v, cs1[j]? = some v → wc.cell? (ad.add j) = some v := fun h => by
        obtain ⟨ad, h1, h2, h3⟩ := src1 h
        exact ⟨rfl, ad, h1, fun j v hj => cell_add huw h2 (h3 j v hj)⟩
      have hfit1 : 0 + cs1.length ≤ (madeCells #[.int .u8 0, .int .i64 0, .string ⟨#[]⟩] (g * 3)).toList.length := by
        have h1 : Nat.min an p ≤ p := Nat.min_le_right an p
        rw [hcur, hl1]
        omega
      obtain ⟨w4, hrun4, hrow4, hbel4, hoth4, hsz4⟩ := cp.copy_run Tryz.prog wc 64 64 3 51 3 Tryz.underlying64 sizeVal (some ⟨rg, 0, none⟩) aa p g an ac rg 0 (madeCells #[.int .u8 0, .int .i64 0, .string ⟨#[]⟩] (g * 3)).toList 51 (by simpa [Blk] using hbr) cs1 hl1 hpos1 hfit1 hone1
      have HR4 := Lib.hid (And.intro hrow4 (And.intro hbel4 (And.intro hoth4 hsz4)))
      clear hrow4 hbel4 hoth4 hsz4
      go_wp2_with fail
      have hu4 : Up w w4 := HR4.out.2.1 w.heap.size w huw hwr
      have n7 : s7 ≠ rg := by
        have := hb7.lt
        omega
      have n6 : w.heap.size ≠ rg := by
        have := hb6.lt
        omega
      have b6 : Blk w4 w.heap.size #[.int .i64 0, .int .i64 0, .int .i64 0, .slice none 0 0, .int .i64 0, .int .i64 0, .slice none 0 0, .slice none 0 0] 92 := (HR4.out.2.2.1 _ n6).trans (hb6.chg hu8.chg (by simp))
      have b7 : Blk w4 s7 #[.int .i64 (p : Int), .slice xa xn xc, .int .i64 (g : Int), .slice none 0 0, .slice none 0 0] 85 := (HR4.out.2.2.1 s7 n7).trans (hb7.chg hu8.chg (by simp))
      have b8 : Blk w4 s8 #[.int .i64 1, .int .i64 1, .int .i64 0, .slice (some ⟨rg, 0, none⟩) g g, .int .i64 5, .int .i64 0, .slice none 0 0, .slice none 0 0] 92 := (HR4.out.2.2.1 s8 hne).trans hb8
      have H4 : Hid (∀ w', Up w4 w' → w'.cell? ⟨s8, 3, none⟩ = some (.slice (some ⟨rg, 0, none⟩) g g) ∧ w'.cell? ⟨s7, 0, none⟩ = some (.int .i64 (p : Int)) ∧ w'.cell? ⟨ob, 6, none⟩ = some (.slice ha hn hc)) := by
        intro w' hu
        obtain ⟨-, -, -, -, -, -, -, -, -, -, h11⟩ := HPre.out _ (hu4.trans hu)
        exact ⟨up_cell hu (b8.cell 3), up_cell hu (b7.cell 0), h11⟩
      have hR1 : Hid (Blk w4 rg (splice (madeCells #[.int .u8 0, .int .i64 0, .string ⟨#[]⟩] (g * 3)).toList 0 cs1).toArray 51) := HR4.out.1
      have HPos2 : Hid (∀ w', Up w4 w' → 0 < Nat.min hn (g - p) → (some (⟨rg, p * 3, none⟩ : Addr)) = some ⟨rg, p * 3, none⟩ ∧ ∃ ad, ha = some ad ∧ ∀ j v, cs2[j]? = some v → w'.cell? (ad.add j) = some v) := fun w' hu h => by
        obtain ⟨ad, h1, h2, h3⟩ := src2 h
        exact ⟨rfl, ad, h1, fun j v hj => cell_add (hu4.trans hu) h2 (h3 j v hj)⟩
      have hfit2 : p * 3 + cs2.length ≤ (splice (madeCells #[.int .u8 0, .int .i64 0, .string ⟨#[]⟩] (g * 3)).toList 0 cs1).length := by
        rw [length_splice _ _ _ hfit1, hcur, hl2]
        have h1 : Nat.min hn (g - p) ≤ g - p := Nat.min_le_right hn (g - p)
        omega
      clear hb7 hb8 hbr r3 r7 hrun4 hpos1 hfit1 hcur
      go_cut [] from 49 to 58 (fun wx => ∃ R, Up w wx ∧ Blk wx rg (splice (splice (madeCells #[.int .u8 0, .int .i64 0, .string ⟨#[]⟩] (g * 3)).toList 0 cs1) (p * 3) cs2).toArray R ∧ Blk wx s8 #[.int .i64 1, .int .i64 1, .int .i64 0, .slice (some ⟨rg, 0, none⟩) g g, .int .i64 5, .int .i64 0, .slice none 0 0, .slice none 0 0] 92 ∧ Blk wx w.heap.size #[.int .i64 0, .int .i64 0, .int .i64 0, .slice none 0 0, .int .i64 0, .int .i64 0, .slice none 0 0, .slice none 0 0] 92)
      case first =>
        by_cases hpg : p < g
        · have q1 : (p : Int) < (g : Int) := by omega
          have q2 : ¬ (p : Int) = (g : Int) := by omega
          have q3 : ¬ (g : Int) ≤ (p : Int) := by omega
          refine AnyT.start (S := fun w' => w'.cell? ⟨s8, 3, none⟩ = some (.slice (some ⟨rg, 0, none⟩) g g) ∧ w'.cell? ⟨s7, 0, none⟩ = some (.int .i64 (p : Int)) ∧ w'.cell? ⟨ob, 6, none⟩ = some (.slice ha hn hc)) 10 (by kernel_rfl) (H4.out _ (Up.refl w4).drew) (fun hHeld => ?_)
          have hUd : Up w4 w4.drew := (Up.refl w4).drew
          generalize World.drew w4 = wd at hUd hHeld ⊢
          refine AnyT.pick (i := 0) (oi := ⟨_, _, _, _, _, _⟩) (v := ?_) rfl (by kernel_rfl) (by kernel_rfl) (by kernel_rfl) (fun _ _ _ h => h) (Or.inl ⟨by rfl, ?y0_34⟩) ?_
          case' y0_34 => ((intro w hSw; go_simp) <;> (with_reducible rfl))
          try simp only [Act.put, List.setIfInBounds_toArray, List.set_cons_zero, List.set_cons_succ]
          refine AnyT.take (i := 1) (oi := ⟨_, _, _, _, _, _⟩) (v := ?_) rfl (by kernel_rfl) (by kernel_rfl) (by kernel_rfl) (by kernel_rfl) (fun _ _ _ h => h) (Or.inl ⟨by rfl, ?y1_35⟩) (by assumption) ?_
          case' y1_35 => ((intro w hSw; (try dsimp only at hSw); go_simp) <;> (with_reducible rfl))
          try simp only [Act.put, List.setIfInBounds_toArray, List.set_cons_zero, List.set_cons_succ]
          refine AnyT.pick (i := 2) (oi := ⟨_, _, _, _, _, _⟩) (v := ?_) rfl (by kernel_rfl) (by kernel_rfl) (by kernel_rfl) (fun _ _ _ h => h) (Or.inl ⟨by rfl, ?y2_36⟩) ?_
          case' y2_36 => ((intro w hSw; go_simp) <;> (with_reducible rfl))
          try simp only [Act.put, List.setIfInBounds_toArray, List.set_cons_zero, List.set_cons_succ]
          refine AnyT.take (i := 3) (oi := ⟨_, _, _, _, _, _⟩) (v := ?_) rfl (by kernel_rfl) (by kernel_rfl) (by kernel_rfl) (by kernel_rfl) (fun _ _ _ h => h) (Or.inl ⟨by rfl, ?y3_37⟩) (by assumption) ?_
          case' y3_37 => ((intro w hSw; (try dsimp only at hSw); go_simp) <;> (with_reducible rfl))
          try simp only [Act.put, List.setIfInBounds_toArray, List.set_cons_zero, List.set_cons_succ]
          refine AnyT.pick (i := 4) (oi := ⟨_, _, _, _, _, _⟩) (v := ?_) rfl (by kernel_rfl) (by kernel_rfl) (by kernel_rfl) (fun _ _ _ h => h) (Or.inl ⟨by rfl, ?y4_38⟩) ?_
          case' y4_38 => ((intro w hSw; go_simp) <;> (with_reducible rfl))
          try simp only [Act.put, List.setIfInBounds_toArray, List.set_cons_zero, List.set_cons_succ]
          refine AnyT.pick (i := 5) (oi := ⟨_, _, _, _, _, _⟩) (v := ?_) rfl (by kernel_rfl) (by kernel_rfl) (by kernel_rfl) (fun _ _ _ h => h) (Or.inl ⟨by rfl, ?y5_39⟩) ?_
          case' y5_39 => ((intro w hSw; go_simp) <;> (with_reducible rfl))
          try simp only [Act.put, List.setIfInBounds_toArray, List.set_cons_zero, List.set_cons_succ]
          refine AnyT.pick (i := 6) (oi := ⟨_, _, _, _, _, _⟩) (v := ?_) rfl (by kernel_rfl) (by kernel_rfl) (by kernel_rfl) (fun _ _ _ h => h) (Or.inl ⟨by rfl, ?y6_40⟩) ?_
          case' y6_40 => ((intro w hSw; go_simp) <;> (with_reducible rfl))
          try simp only [Act.put, List.setIfInBounds_toArray, List.set_cons_zero, List.set_cons_succ]
          refine AnyT.pick (i := 7) (oi := ⟨_, _, _, _, _, _⟩) (v := ?_) rfl (by kernel_rfl) (by kernel_rfl) (by kernel_rfl) (fun _ _ _ h => h) (Or.inl ⟨by rfl, ?y7_41⟩) ?_
          case' y7_41 => ((intro w hSw; go_simp) <;> (with_reducible rfl))
          try simp only [Act.put, List.setIfInBounds_toArray, List.set_cons_zero, List.set_cons_succ]
          refine AnyT.take (i := 8) (oi := ⟨_, _, _, _, _, _⟩) (v := ?_) rfl (by kernel_rfl) (by kernel_rfl) (by kernel_rfl) (by kernel_rfl) (fun _ _ _ h => h) (Or.inl ⟨by rfl, ?y8_42⟩) (by assumption) ?_
          case' y8_42 => ((intro w hSw; (try dsimp only at hSw); go_simp) <;> (with_reducible rfl))
          try simp only [Act.put, List.setIfInBounds_toArray, List.set_cons_zero, List.set_cons_succ]
          refine AllT.go (rs := [9]) (by kernel_rfl) (by simp) ?_
          refine AllT.early (o := ⟨_, _, _, _, _, _⟩) rfl (fun K hK => ?_) ?_
          · refine cp.step_copy_rows rfl (.tmp 53) (.tmp 57) 64 64 rfl 51 3 Tryz.underlying64 sizeVal (some ⟨rg, p * 3, none⟩) ha (g - p) (g - p) hn hc ?hd rfl rg (p * 3) (splice (madeCells #[.int .u8 0, .int .i64 0, .string ⟨#[]⟩] (g * 3)).toList 0 cs1) 51 (hR1.out.chg hUd.chg (by simp)) cs2 hl2 (HPos2.out _ hUd) hfit2 hone2 ?_
            case hd => (simp [Act.eval, List.getD]; omega)
            intro w5 hrow hbel hoth hsz5
            have hu5 : Up w w5 := hbel w.heap.size w (Up.trans hu4 hUd) hwr
            have b8' := (hoth s8 hne).trans (b8.chg hUd.chg (by simp))
            have b7' := (hoth s7 n7).trans (b7.chg hUd.chg (by simp))
            obtain ⟨-, -, -, -, -, -, -, -, -, -, h11⟩ := HPre.out _ hu5
            refine hK.out _ _ ⟨cell_of_row w5 s8 3 _ _ _ b8', cell_of_row w5 s7 0 _ _ _ b7', h11⟩ (fun _ => ?_)
            clear hK K
            try simp only [Act.put, List.setIfInBounds_toArray, List.set_cons_zero, List.set_cons_succ]
            refine AnyT.done (by kernel_rfl) ?_ _
            go_wp2_with fail
            go_meet
            exact ⟨_, hu5, hrow.out, b8', (hoth _ n6).trans (b6.chg hUd.chg (by simp))⟩
          exact AllT.nil
        · have hpe : g - p = 0 := by omega
          have q6 : (g = p) = True := eq_true (by omega)
          refine AnyT.start (S := fun w' => w'.cell? ⟨s8, 3, none⟩ = some (.slice (some ⟨rg, 0, none⟩) g g) ∧ w'.cell? ⟨s7, 0, none⟩ = some (.int .i64 (p : Int)) ∧ w'.cell? ⟨ob, 6, none⟩ = some (.slice ha hn hc)) 10 (by kernel_rfl) (H4.out _ (Up.refl w4).drew) (fun hHeld => ?_)
          have hUd : Up w4 w4.drew := (Up.refl w4).drew
          generalize World.drew w4 = wd at hUd hHeld ⊢
          refine AnyT.pick (i := 0) (oi := ⟨_, _, _, _, _, _⟩) (v := ?_) rfl (by kernel_rfl) (by kernel_rfl) (by kernel_rfl) (fun _ _ _ h => h) (Or.inl ⟨by rfl, ?y0_43⟩) ?_
          case' y0_43 => ((intro w hSw; go_simp) <;> (with_reducible rfl))
          try simp only [Act.put, List.setIfInBounds_toArray, List.set_cons_zero, List.set_cons_succ]
          refine AnyT.take (i := 1) (oi := ⟨_, _, _, _, _, _⟩) (v := ?_) rfl (by kernel_rfl) (by kernel_rfl) (by kernel_rfl) (by kernel_rfl) (fun _ _ _ h => h) (Or.inl ⟨by rfl, ?y1_44⟩) (by assumption) ?_
          case' y1_44 => ((intro w hSw; (try dsimp only at hSw); go_simp) <;> (with_reducible rfl))
          try simp only [Act.put, List.setIfInBounds_toArray, List.set_cons_zero, List.set_cons_succ]
          refine AnyT.pick (i := 2) (oi := ⟨_, _, _, _, _, _⟩) (v := ?_) rfl (by kernel_rfl) (by kernel_rfl) (by kernel_rfl) (fun _ _ _ h => h) (Or.inl ⟨by rfl, ?y2_45⟩) ?_
          case' y2_45 => ((intro w hSw; go_simp) <;> (with_reducible rfl))
          try simp only [Act.put, List.setIfInBounds_toArray, List.set_cons_zero, List.set_cons_succ]
          refine AnyT.take (i := 3) (oi := ⟨_, _, _, _, _, _⟩) (v := ?_) rfl (by kernel_rfl) (by kernel_rfl) (by kernel_rfl) (by kernel_rfl) (fun _ _ _ h => h) (Or.inl ⟨by rfl, ?y3_46⟩) (by assumption) ?_
          case' y3_46 => ((intro w hSw; (try dsimp only at hSw); go_simp) <;> (with_reducible rfl))
          try simp only [Act.put, List.setIfInBounds_toArray, List.set_cons_zero, List.set_cons_succ]
          refine AnyT.pick (i := 4) (oi := ⟨_, _, _, _, _, _⟩) (v := ?_) rfl (by kernel_rfl) (by kernel_rfl) (by kernel_rfl) (fun _ _ _ h => h) (Or.inl ⟨by rfl, ?y4_47⟩) ?_
          case' y4_47 => ((intro w hSw; go_simp) <;> (with_reducible rfl))
          try simp only [Act.put, List.setIfInBounds_toArray, List.set_cons_zero, List.set_cons_succ]
          refine AnyT.pick (i := 5) (oi := ⟨_, _, _, _, _, _⟩) (v := ?_) rfl (by kernel_rfl) (by kernel_rfl) (by kernel_rfl) (fun _ _ _ h => h) (Or.inl ⟨by rfl, ?y5_48⟩) ?_
          case' y5_48 => ((intro w hSw; go_simp) <;> (with_reducible rfl))
          try simp only [Act.put, List.setIfInBounds_toArray, List.set_cons_zero, List.set_cons_succ]
          refine AnyT.pick (i := 6) (oi := ⟨_, _, _, _, _, _⟩) (v := ?_) rfl (by kernel_rfl) (by kernel_rfl) (by kernel_rfl) (fun _ _ _ h => h) (Or.inl ⟨by rfl, ?y6_49⟩) ?_
          case' y6_49 => ((intro w hSw; go_simp) <;> (with_reducible rfl))
          try simp only [Act.put, List.setIfInBounds_toArray, List.set_cons_zero, List.set_cons_succ]
          refine AnyT.pick (i := 7) (oi := ⟨_, _, _, _, _, _⟩) (v := ?_) rfl (by kernel_rfl) (by kernel_rfl) (by kernel_rfl) (fun _ _ _ h => h) (Or.inl ⟨by rfl, ?y7_50⟩) ?_
          case' y7_50 => ((intro w hSw; go_simp) <;> (with_reducible rfl))
          try simp only [Act.put, List.setIfInBounds_toArray, List.set_cons_zero, List.set_cons_succ]
          refine AnyT.take (i := 8) (oi := ⟨_, _, _, _, _, _⟩) (v := ?_) rfl (by kernel_rfl) (by kernel_rfl) (by kernel_rfl) (by kernel_rfl) (fun _ _ _ h => h) (Or.inl ⟨by rfl, ?y8_51⟩) (by assumption) ?_
          case' y8_51 => ((intro w hSw; (try dsimp only at hSw); go_simp) <;> (with_reducible rfl))
          try simp only [Act.put, List.setIfInBounds_toArray, List.set_cons_zero, List.set_cons_succ]
          refine AllT.go (rs := [9]) (by kernel_rfl) (by simp) ?_
          refine AllT.early (o := ⟨_, _, _, _, _, _⟩) rfl (fun K hK => ?_) ?_
          · refine cp.step_copy_rows rfl (.tmp 53) (.tmp 57) 64 64 rfl 51 3 Tryz.underlying64 sizeVal (some ⟨rg, 0, none⟩) ha (g - p) (g - p) hn hc ?hd rfl rg (p * 3) (splice (madeCells #[.int .u8 0, .int .i64 0, .string ⟨#[]⟩] (g * 3)).toList 0 cs1) 51 (hR1.out.chg hUd.chg (by simp)) cs2 hl2 (fun h => absurd h (by rw [hpe]; simp)) hfit2 hone2 ?_
            case hd => (simp [Act.eval, List.getD, hpe])
            intro w5 hrow hbel hoth hsz5
            have hu5 : Up w w5 := hbel w.heap.size w (Up.trans hu4 hUd) hwr
            have b8' := (hoth s8 hne).trans (b8.chg hUd.chg (by simp))
            have b7' := (hoth s7 n7).trans (b7.chg hUd.chg (by simp))
            obtain ⟨-, -, -, -, -, -, -, -, -, -, h11⟩ := HPre.out _ hu5
            refine hK.out _ _ ⟨cell_of_row w5 s8 3 _ _ _ b8', cell_of_row w5 s7 0 _ _ _ b7', h11⟩ (fun _ => ?_)
            clear hK K
            try simp only [Act.put, List.setIfInBounds_toArray, List.set_cons_zero, List.set_cons_succ]
            refine AnyT.done (by kernel_rfl) ?_ _
            go_wp2_with fail
            go_meet
            exact ⟨_, hu5, hrow.out, b8', (hoth _ n6).trans (b6.chg hUd.chg (by simp))⟩
          exact AllT.nil
      case rest =>
        obtain ⟨R, hu9, hbr9, hb9, hb69⟩ := hcut
        have f0 := hb9.cell 0
        have f1 := hb9.cell 1
        have f2 := hb9.cell 2
        have f3 := hb9.cell 3
        have f4 := hb9.cell 4
        have f5 := hb9.cell 5
        have f6 := hb9.cell 6
        have f7 := hb9.cell 7
        have e0 := hb69.cell 0
        have e1 := hb69.cell 1
        have e2 := hb69.cell 2
        have e3 := hb69.cell 3
        have e4 := hb69.cell 4
        have e5 := hb69.cell 5
        have e6 := hb69.cell 6
        have e7 := hb69.cell 7
        have z0 := frozen_of_row wc w.heap.size 0 _ _ hb69
        have z1 := frozen_of_row wc w.heap.size 1 _ _ hb69
        have z2 := frozen_of_row wc w.heap.size 2 _ _ hb69
        have z3 := frozen_of_row wc w.heap.size 3 _ _ hb69
        have z4 := frozen_of_row wc w.heap.size 4 _ _ hb69
        have z5 := frozen_of_row wc w.heap.size 5 _ _ hb69
        have z6 := frozen_of_row wc w.heap.size 6 _ _ hb69
        have z7 := frozen_of_row wc w.heap.size 7 _ _ hb69
        go_wp2_with fail
        refine bodyPost_ret (v := .agg #[.int .i64 1, .int .i64 1, .int .i64 0, .slice (some ⟨rg, 0, none⟩) g g, .int .i64 5, .int .i64 0, .slice none 0 0, .slice none 0 0]) (by simp [results, Tryz.results24, go_sem, e0, e1, e2, e3, e4, e5, e6, e7]) rfl ⟨rg, rfl, ?_, hwr, R, ?_⟩
        · exact (Up.setCell (p := ⟨w.heap.size, 7, none⟩) (Up.setCell (p := ⟨w.heap.size, 6, none⟩) (Up.setCell (p := ⟨w.heap.size, 5, none⟩) (Up.setCell (p := ⟨w.heap.size, 4, none⟩) (Up.setCell (p := ⟨w.heap.size, 3, none⟩) (Up.setCell (p := ⟨w.heap.size, 2, none⟩) (Up.setCell (p := ⟨w.heap.size, 1, none⟩) (Up.setCell (p := ⟨w.heap.size, 0, none⟩) hu9 (Nat.le_refl _) _) (Nat.le_refl _) _) (Nat.le_refl _) _) (Nat.le_refl _) _) (Nat.le_refl _) _) (Nat.le_refl _) _) (Nat.le_refl _) _) (Nat.le_refl _) _)
        · exact hbr9.chg (Chg.setCell (p := ⟨w.heap.size, 7, none⟩) (Chg.setCell (p := ⟨w.heap.size, 6, none⟩) (Chg.setCell (p := ⟨w.heap.size, 5, none⟩) (Chg.setCell (p := ⟨w.heap.size, 4, none⟩) (Chg.setCell (p := ⟨w.heap.size, 3, none⟩) (Chg.setCell (p := ⟨w.heap.size, 2, none⟩) (Chg.setCell (p := ⟨w.heap.size, 1, none⟩) (Chg.setCell (p := ⟨w.heap.size, 0, none⟩) (Chg.refl [w.heap.size] wc) (.inl (by simp)) _) (.inl (by simp)) _) (.inl (by simp)) _) (.inl (by simp)) _) (.inl (by simp)) _) (.inl (by simp)) _) (.inl (by simp)) _) (.inl (by simp)) _) (by simpa using n6.symm)
end Go.Proofs.YtmmfpkkkpeapeaaGreatDoor.mb

/- frame.World's Code, walked (printed by co_gen.py). -/
set_option linter.unusedVariables false
set_option linter.unusedSimpArgs false
namespace Go.Proofs.YtmmfpkkkpeapeaaGreatDoor.mb
open Go.RowKit Go.Maps mem rec ar
attribute [local go_sem ↓] Go.wp_at_zero Go.wp_at_succ
set_option maxRecDepth 100000
set_option maxHeartbeats 4000000
theorem code_x {w : World} {wb mb_ fb p g xn xc : Nat} {xa : Option Addr} {f2 f3 f4 f5 f6 f7 : Value}
    (pre : w.cell? ⟨wb, 3, none⟩ = some (.slice (some ⟨mb_, 0, none⟩) 2 2) ∧ w.cell? ⟨mb_, 1, none⟩ = some (.slice (some ⟨fb, 0, none⟩) 2 2) ∧ w.cell? ⟨fb, 5, none⟩ = some (.int .i64 (p : Int)) ∧ w.cell? ⟨fb, 6, none⟩ = some (.slice xa xn xc) ∧ w.cell? ⟨fb, 7, none⟩ = some (.int .i64 (g : Int)) ∧ w.cell? ⟨fb, 8, none⟩ = some (.slice none 0 0) ∧ w.cell? ⟨fb, 9, none⟩ = some (.slice none 0 0)) :
    Calls Tryz.prog 25 #[.pointer (some ⟨wb, 0, none⟩), .agg #[.int .i64 1, .int .i64 1, f2, f3, f4, f5, f6, f7]] w fun e w' => e = .returned (.agg #[.int .i64 (p : Int), .slice xa xn xc, .int .i64 (g : Int), .slice none 0 0, .slice none 0 0]) ∧ Up w w' := by
  obtain ⟨wz, hwz⟩ : ∃ wz, wz = (w.alloc (.cells #[.int .i64 1, .int .i64 1, f2, f3, f4, f5, f6, f7] 92)).alloc (.cells #[.int .i64 0, .slice none 0 0, .int .i64 0, .slice none 0 0, .slice none 0 0] 85) := ⟨_, rfl⟩
  have hu0 : Up w wz := by rw [hwz]; exact ((Up.refl w).alloc _).alloc _
  have hb3 : Blk wz w.heap.size #[.int .i64 1, .int .i64 1, f2, f3, f4, f5, f6, f7] 92 := by
    rw [hwz]
    have e : Blk (w.alloc (.cells #[.int .i64 1, .int .i64 1, f2, f3, f4, f5, f6, f7] 92)) w.heap.size #[.int .i64 1, .int .i64 1, f2, f3, f4, f5, f6, f7] 92 := heap_alloc_new w _
    exact e.chg ((Up.refl _).alloc _).chg (by simp)
  have hb4 : Blk wz (w.heap.size + 1) #[.int .i64 0, .slice none 0 0, .int .i64 0, .slice none 0 0, .slice none 0 0] 85 := by
    rw [hwz]
    have h2 := heap_alloc_new (w.alloc (.cells #[.int .i64 1, .int .i64 1, f2, f3, f4, f5, f6, f7] 92)) (.cells #[.int .i64 0, .slice none 0 0, .int .i64 0, .slice none 0 0, .slice none 0 0] 85)
    rw [World.size_alloc] at h2
    exact h2
  have HS : Hid (∀ w', Up wz w' → w'.cell? ⟨wb, 3, none⟩ = some (.slice (some ⟨mb_, 0, none⟩) 2 2) ∧ w'.cell? ⟨mb_, 1, none⟩ = some (.slice (some ⟨fb, 0, none⟩) 2 2) ∧ w'.cell? ⟨fb, 5, none⟩ = some (.int .i64 (p : Int)) ∧ w'.cell? ⟨fb, 6, none⟩ = some (.slice xa xn xc) ∧ w'.cell? ⟨fb, 7, none⟩ = some (.int .i64 (g : Int)) ∧ w'.cell? ⟨fb, 8, none⟩ = some (.slice none 0 0) ∧ w'.cell? ⟨fb, 9, none⟩ = some (.slice none 0 0) ∧ w'.cell? ⟨w.heap.size, 0, none⟩ = some (.int .i64 1) ∧ w'.cell? ⟨w.heap.size, 1, none⟩ = some (.int .i64 1)) := by
    intro w' hu
    have h := hu0.trans hu
    obtain ⟨h1, h2, h3, h4, h5, h6, h7⟩ := pre
    exact ⟨up_cell h h1, up_cell h h2, up_cell h h3, up_cell h h4, up_cell h h5, up_cell h h6, up_cell h h7, up_cell hu (hb3.cell 0), up_cell hu (hb3.cell 1)⟩
  clear pre
  go_enter Tryz.func25, Tryz.ntmps25
  go_wp2_with fail
  rw [← hwz]
  clear hwz
  refine AnyT.start (S := fun w' => w'.cell? ⟨wb, 3, none⟩ = some (.slice (some ⟨mb_, 0, none⟩) 2 2) ∧ w'.cell? ⟨mb_, 1, none⟩ = some (.slice (some ⟨fb, 0, none⟩) 2 2) ∧ w'.cell? ⟨fb, 5, none⟩ = some (.int .i64 (p : Int)) ∧ w'.cell? ⟨fb, 6, none⟩ = some (.slice xa xn xc) ∧ w'.cell? ⟨fb, 7, none⟩ = some (.int .i64 (g : Int)) ∧ w'.cell? ⟨fb, 8, none⟩ = some (.slice none 0 0) ∧ w'.cell? ⟨fb, 9, none⟩ = some (.slice none 0 0) ∧ w'.cell? ⟨w.heap.size, 0, none⟩ = some (.int .i64 1) ∧ w'.cell? ⟨w.heap.size, 1, none⟩ = some (.int .i64 1)) 13 (by kernel_rfl) (HS.out _ (Up.refl wz).drew) (fun hHeld => ?_)
  have hUz : Up wz wz.drew := (Up.refl wz).drew
  generalize World.drew wz = wd at hUz hHeld ⊢
  refine AnyT.pick (i := 0) (oi := ⟨_, _, _, _, _, _⟩) (v := ?_) rfl (by kernel_rfl) (by kernel_rfl) (by kernel_rfl) (fun _ _ _ h => h) (Or.inl ⟨by rfl, ?y0_1⟩) ?_
  case' y0_1 => ((intro w hSw; go_simp) <;> (with_reducible rfl))
  try simp only [Act.put, List.setIfInBounds_toArray, List.set_cons_zero, List.set_cons_succ]
  refine AnyT.pick (i := 1) (oi := ⟨_, _, _, _, _, _⟩) (v := ?_) rfl (by kernel_rfl) (by kernel_rfl) (by kernel_rfl) (fun _ _ _ h => h) (Or.inl ⟨by rfl, ?y1_2⟩) ?_
  case' y1_2 => ((intro w hSw; go_simp) <;> (with_reducible rfl))
  try simp only [Act.put, List.setIfInBounds_toArray, List.set_cons_zero, List.set_cons_succ]
  refine AnyT.pick (i := 2) (oi := ⟨_, _, _, _, _, _⟩) (v := ?_) rfl (by kernel_rfl) (by kernel_rfl) (by kernel_rfl) (fun _ _ _ h => h) (Or.inl ⟨by rfl, ?y2_3⟩) ?_
  case' y2_3 => ((intro w hSw; go_simp) <;> (with_reducible rfl))
  try simp only [Act.put, List.setIfInBounds_toArray, List.set_cons_zero, List.set_cons_succ]
  refine AnyT.take (i := 3) (oi := ⟨_, _, _, _, _, _⟩) (v := ?_) rfl (by kernel_rfl) (by kernel_rfl) (by kernel_rfl) (by kernel_rfl) (fun _ _ _ h => h) (Or.inl ⟨by rfl, ?y3_4⟩) (by assumption) ?_
  case' y3_4 => ((intro w hSw; (try dsimp only at hSw); go_simp) <;> (with_reducible rfl))
  try simp only [Act.put, List.setIfInBounds_toArray, List.set_cons_zero, List.set_cons_succ]
  refine AnyT.pick (i := 4) (oi := ⟨_, _, _, _, _, _⟩) (v := ?_) rfl (by kernel_rfl) (by kernel_rfl) (by kernel_rfl) (fun _ _ _ h => h) (Or.inl ⟨by rfl, ?y4_5⟩) ?_
  case' y4_5 => ((intro w hSw; go_simp) <;> (with_reducible rfl))
  try simp only [Act.put, List.setIfInBounds_toArray, List.set_cons_zero, List.set_cons_succ]
  refine AnyT.take (i := 5) (oi := ⟨_, _, _, _, _, _⟩) (v := ?_) rfl (by kernel_rfl) (by kernel_rfl) (by kernel_rfl) (by kernel_rfl) (fun _ _ _ h => h) (Or.inl ⟨by rfl, ?y5_6⟩) (by assumption) ?_
  case' y5_6 => ((intro w hSw; (try dsimp only at hSw); go_simp) <;> (with_reducible rfl))
  try simp only [Act.put, List.setIfInBounds_toArray, List.set_cons_zero, List.set_cons_succ]
  refine AnyT.pick (i := 6) (oi := ⟨_, _, _, _, _, _⟩) (v := ?_) rfl (by kernel_rfl) (by kernel_rfl) (by kernel_rfl) (fun _ _ _ h => h) (Or.inl ⟨by rfl, ?y6_7⟩) ?_
  case' y6_7 => ((intro w hSw; go_simp) <;> (with_reducible rfl))
  try simp only [Act.put, List.setIfInBounds_toArray, List.set_cons_zero, List.set_cons_succ]
  refine AnyT.pick (i := 7) (oi := ⟨_, _, _, _, _, _⟩) (v := ?_) rfl (by kernel_rfl) (by kernel_rfl) (by kernel_rfl) (fun _ _ _ h => h) (Or.inl ⟨by rfl, ?y7_8⟩) ?_
  case' y7_8 => ((intro w hSw; go_simp) <;> (with_reducible rfl))
  try simp only [Act.put, List.setIfInBounds_toArray, List.set_cons_zero, List.set_cons_succ]
  refine AnyT.take (i := 8) (oi := ⟨_, _, _, _, _, _⟩) (v := ?_) rfl (by kernel_rfl) (by kernel_rfl) (by kernel_rfl) (by kernel_rfl) (fun _ _ _ h => h) (Or.inl ⟨by rfl, ?y8_9⟩) (by assumption) ?_
  case' y8_9 => ((intro w hSw; (try dsimp only at hSw); go_simp) <;> (with_reducible rfl))
  try simp only [Act.put, List.setIfInBounds_toArray, List.set_cons_zero, List.set_cons_succ]
  refine AnyT.pick (i := 9) (oi := ⟨_, _, _, _, _, _⟩) (v := ?_) rfl (by kernel_rfl) (by kernel_rfl) (by kernel_rfl) (fun _ _ _ h => h) (Or.inl ⟨by rfl, ?y9_10⟩) ?_
  case' y9_10 => ((intro w hSw; go_simp) <;> (with_reducible rfl))
  try simp only [Act.put, List.setIfInBounds_toArray, List.set_cons_zero, List.set_cons_succ]
  refine AnyT.take (i := 10) (oi := ⟨_, _, _, _, _, _⟩) (v := ?_) rfl (by kernel_rfl) (by kernel_rfl) (by kernel_rfl) (by kernel_rfl) (fun _ _ _ h => h) (Or.inl ⟨by rfl, ?y10_11⟩) (by assumption) ?_
  case' y10_11 => ((intro w hSw; (try dsimp only at hSw); go_simp) <;> (with_reducible rfl))
  try simp only [Act.put, List.setIfInBounds_toArray, List.set_cons_zero, List.set_cons_succ]
  refine AnyT.pick (i := 11) (oi := ⟨_, _, _, _, _, _⟩) (v := ?_) rfl (by kernel_rfl) (by kernel_rfl) (by kernel_rfl) (fun _ _ _ h => h) (Or.inl ⟨by rfl, ?y11_12⟩) ?_
  case' y11_12 => ((intro w hSw; go_simp) <;> (with_reducible rfl))
  try simp only [Act.put, List.setIfInBounds_toArray, List.set_cons_zero, List.set_cons_succ]
  refine AnyT.take (i := 12) (oi := ⟨_, _, _, _, _, _⟩) (v := ?_) rfl (by kernel_rfl) (by kernel_rfl) (by kernel_rfl) (by kernel_rfl) (fun _ _ _ h => h) (Or.inl ⟨by rfl, ?y12_13⟩) (by assumption) ?_
  case' y12_13 => ((intro w hSw; (try dsimp only at hSw); go_simp) <;> (with_reducible rfl))
  try simp only [Act.put, List.setIfInBounds_toArray, List.set_cons_zero, List.set_cons_succ]
  have b9 := hb4.chg hUz.chg (by simp)
  have e0 := b9.cell 0
  have e1 := b9.cell 1
  have e2 := b9.cell 2
  have e3 := b9.cell 3
  have e4 := b9.cell 4
  have z0 := frozen_of_row wd (w.heap.size + 1) 0 _ _ b9
  have z1 := frozen_of_row wd (w.heap.size + 1) 1 _ _ b9
  have z2 := frozen_of_row wd (w.heap.size + 1) 2 _ _ b9
  have z3 := frozen_of_row wd (w.heap.size + 1) 3 _ _ b9
  have z4 := frozen_of_row wd (w.heap.size + 1) 4 _ _ b9
  refine AllT.go (rs := [13]) (by kernel_rfl) (by simp) ?_
  refine AllT.late (o := ⟨_, _, _, _, _, _⟩) rfl (by decide) (fun K hK => ?_) ?_
  · go_simp
    refine hK.out _ _ trivial (fun _ => ?_)
    clear hK K
    try simp only [Act.put, List.setIfInBounds_toArray, List.set_cons_zero, List.set_cons_succ]
    refine AnyT.done (by kernel_rfl) ?_ _
    go_wp2_with fail
    refine bodyPost_ret (v := .agg #[.int .i64 (p : Int), .slice xa xn xc, .int .i64 (g : Int), .slice none 0 0, .slice none 0 0]) (by simp [results, Tryz.results25, go_sem, e0, e1, e2, e3, e4]) rfl ⟨rfl, ?_⟩
    exact (Up.setCell (p := ⟨w.heap.size + 1, 4, none⟩) (Up.setCell (p := ⟨w.heap.size + 1, 3, none⟩) (Up.setCell (p := ⟨w.heap.size + 1, 2, none⟩) (Up.setCell (p := ⟨w.heap.size + 1, 1, none⟩) (Up.setCell (p := ⟨w.heap.size + 1, 0, none⟩) (hu0.trans hUz) (Nat.le_succ _) _) (Nat.le_succ _) _) (Nat.le_succ _) _) (Nat.le_succ _) _) (Nat.le_succ _) _)
  exact AllT.nil
end Go.Proofs.YtmmfpkkkpeapeaaGreatDoor.mb

/- FrameOf: what holds before the rounds: plain laws. -/
set_option linter.unusedVariables false
namespace Go.Proofs.YtmmfpkkkpeapeaaGreatDoor.mb
open Go.RowKit Go.Maps mem rec ar
set_option maxHeartbeats 400000
def cellsV (x : V3) : List Value := [.int .u8 x.1, .int .i64 x.2.1, .string x.2.2]
/-- Held values: numbers from 100 on. -/
def heldRow (t : Nat) : List Value := (List.range t).flatMap fun i : Nat => cellsV (2, 100 + (i : Int), ⟨#[]⟩)
def obj1 (hv : Value) : Array Value := #[.int .u8 1, .int .i64 5, .bool false, .map none, .int .i64 1, .int .i64 1, hv, .int .u64 0, .int .u8 0, .int .i64 0, .string ⟨#[]⟩, .int .i64 0, .int .u64 0, .int .i64 0]
structure L1s (W0 w : World) (ob : Nat) (hv : Value) (t : Nat) : Prop where
  cg : Chg [ob] W0 w
  bo : Blk w ob (obj1 hv) 66
  row : w.ownsRow 0 51 3 hv t (heldRow t)
  nb : ∀ b, hv.ownBlock = some b → W0.heap.size ≤ b
  lo : ob < W0.heap.size
theorem L1s.up {W0 w w1 : World} {ob t : Nat} {hv : Value} (h : L1s W0 w ob hv t) (u : Up w w1) : L1s W0 w1 ob hv t :=
  ⟨h.cg.trans u.chg (by simp), h.bo.chg u.chg (by simp), owns_chg h.row u.chg (by simp), h.nb, h.lo⟩
theorem L1s.next {W0 w W w5 : World} {ob t g c H n1 : Nat} {hv : Value} {o1 : Obj} (h : L1s W0 w ob hv t) (u : Up w W)
    (hrow : w5.ownsRow 0 51 3 (.slice (some ⟨g, 0, none⟩) n1 c) n1 (heldRow t ++ cellsV (2, 100 + (t : Int), ⟨#[]⟩))) (hn1 : n1 = t + 1) (hg : (W.alloc o1).grownBy w5 hv.ownBlock) (at_ : hv.ownBlock = some g ∨ g = H) (hH : (W.alloc o1).heap.size = H) :
    Blk w5 ob (obj1 hv) 66 ∧ L1s W0 (w5.setCell ⟨ob, 6, none⟩ (.slice (some ⟨g, 0, none⟩) n1 c)) ob (.slice (some ⟨g, 0, none⟩) n1 c) (t + 1) := by
  subst hn1 hH
  have z := h.cg.size
  have zu := u.size
  have lo := h.lo
  rw [World.size_alloc] at at_
  have hno : hv.ownBlock ≠ some ob := fun e => by have := h.nb ob e; omega
  have C5 : Chg hv.ownBlock.toList w w5 := ((u.chg.mono (by simp)).alloc o1).grown hg (fun b hb => .inl (by simp [hb]))
  have b5 : Blk w5 ob (obj1 hv) 66 := h.bo.chg C5 (fun hx => hno (by simpa using hx))
  have CS : Chg [ob] w5 (w5.setCell ⟨ob, 6, none⟩ (.slice (some ⟨g, 0, none⟩) (t + 1) c)) := (Chg.refl [ob] w5).setCell (p := ⟨ob, 6, none⟩) (.inl (by simp)) _
  have hgo : W0.heap.size ≤ g := by
    rcases at_ with h1 | h1
    · exact h.nb g h1
    · omega
  refine ⟨b5, (h.cg.trans C5 (fun b hb => .inr (h.nb b (by simpa using hb)))).trans CS (fun b hb => .inl hb), ?_, ?_, fun b hb => by cases hb; exact hgo, lo⟩
  · have e := heap_setCell_same w5 ob 6 _ _ (.slice (some ⟨g, 0, none⟩) (t + 1) c) b5
    unfold Blk
    rw [e]
    simp [obj1]
  · have e : heldRow (t + 1) = heldRow t ++ cellsV (2, 100 + (t : Int), ⟨#[]⟩) := by unfold heldRow; rw [List.range_succ, List.flatMap_append]; simp
    rw [e]
    exact owns_chg hrow CS (fun b hb hx => by cases hb; have h9 : g = ob := List.mem_singleton.1 hx; omega)
end Go.Proofs.YtmmfpkkkpeapeaaGreatDoor.mb

/- FrameOf: the start, the arguments' row, the registers: plain laws. -/
set_option linter.unusedVariables false
namespace Go.Proofs.YtmmfpkkkpeapeaaGreatDoor.mb
open Go.RowKit Go.Maps mem rec ar
set_option maxHeartbeats 400000
theorem cell_chg {F : List Nat} {w w' : World} {ad : Addr} {v : Value} (c : Chg F w w') (h : w.cell? ad = some v) (hn : ad.block ∉ F) : w'.cell? ad = some v := (c.cell (p := ad) (World.block_lt_of_cell? w ad h) hn).trans h
/-- What Of and Code read of the world, and where. -/
structure Pre (w : World) (ob wb mb_ fb mh p h g : Nat) : Prop where
  c : w.cell? ⟨wb, 3, none⟩ = some (.slice (some ⟨mb_, 0, none⟩) 2 2) ∧ w.cell? ⟨mb_, 1, none⟩ = some (.slice (some ⟨fb, 0, none⟩) 2 2) ∧ w.cell? ⟨fb, 5, none⟩ = some (.int .i64 (p : Int)) ∧ w.cell? ⟨fb, 6, none⟩ = some (.slice (some ⟨mh, 0, none⟩) h h) ∧ w.cell? ⟨fb, 7, none⟩ = some (.int .i64 (g : Int)) ∧ w.cell? ⟨fb, 8, none⟩ = some (.slice none 0 0) ∧ w.cell? ⟨fb, 9, none⟩ = some (.slice none 0 0)
  ne : wb ≠ ob ∧ mb_ ≠ ob ∧ fb ≠ ob
theorem Pre.chg {w w' : World} {ob wb mb_ fb mh p h g : Nat} (x : Pre w ob wb mb_ fb mh p h g) (c : Chg [ob] w w') : Pre w' ob wb mb_ fb mh p h g := by
  obtain ⟨⟨h1, h2, h3, h4, h5, h6, h7⟩, n1, n2, n3⟩ := x
  have a1 : wb ∉ [ob] := by simpa using n1
  have a2 : mb_ ∉ [ob] := by simpa using n2
  have a3 : fb ∉ [ob] := by simpa using n3
  exact ⟨⟨cell_chg c h1 a1, cell_chg c h2 a2, cell_chg c h3 a3, cell_chg c h4 a3, cell_chg c h5 a3, cell_chg c h6 a3, cell_chg c h7 a3⟩, n1, n2, n3⟩
theorem Pre.up {w w' : World} {ob wb mb_ fb mh p h g : Nat} (x : Pre w ob wb mb_ fb mh p h g) (u : Up w w') : Pre w' ob wb mb_ fb mh p h g := x.chg (u.chg.mono (by simp))
theorem blk_new2 (w : World) (cs : Array Value) (t n : Nat) (h : w.heap.size = n) : Blk (w.alloc (.cells cs t)) n cs t := h ▸ Blk.new w cs t
theorem blk_al {w : World} {b t : Nat} {cs : Array Value} (h : Blk w b cs t) (o : Obj) : Blk (w.alloc o) b cs t := h.chg ((Up.refl w).alloc o).chg (by simp)
theorem start1 {w0 w1 : World} {wb p h g : Nat} {c0 c1 c2 : Value} (hU1 : Up w0 w1) (hwb : w0.heap.size ≤ wb) (hblk : Blk w1 wb #[c0, c1, c2, .slice none 0 0] 73) :
    ∃ (W0 : World), ((((((w1.setCell ⟨wb, 3, none⟩ (.slice (some ⟨w1.heap.size + 1 + 1 + 1, 0, none⟩) 2 2)).alloc (.cells (madeCells #[.int .i64 0] h) 3)).alloc (.cells #[.int .i64 (p : Int), .slice (some ⟨w1.heap.size, 0, none⟩) h h, .int .i64 (g : Int), .slice none 0 0, .slice none 0 0] 85)).alloc (.cells #[.int .i64 0, .slice none 0 0, .int .i64 0, .slice none 0 0, .slice none 0 0, .int .i64 (p : Int), .slice (some ⟨w1.heap.size, 0, none⟩) h h, .int .i64 (g : Int), .slice none 0 0, .slice none 0 0] 85)).alloc (.cells #[.slice none 0 0, .slice (some ⟨w1.heap.size + 1 + 1, 0, none⟩) 2 2] 88)).alloc (.cells #[.int .u8 1, .int .i64 5, .bool false, .map none, .int .i64 1, .int .i64 1, .slice none 0 0, .int .u64 0, .int .u8 0, .int .i64 0, .string ⟨#[]⟩, .int .i64 0, .int .u64 0, .int .i64 0] 66)) = W0 ∧ Up w0 W0 ∧ L1s W0 W0 (w1.heap.size + 1 + 1 + 1 + 1) (.slice none 0 0) 0 ∧ Pre W0 (w1.heap.size + 1 + 1 + 1 + 1) wb (w1.heap.size + 1 + 1 + 1) (w1.heap.size + 1 + 1) w1.heap.size p h g := by
  have l := hblk.lt
  have e := heap_setCell_same w1 wb 3 _ _ (.slice (some ⟨w1.heap.size + 1 + 1 + 1, 0, none⟩) 2 2) hblk
  have C : Chg [wb] w1 (w1.setCell ⟨wb, 3, none⟩ (.slice (some ⟨w1.heap.size + 1 + 1 + 1, 0, none⟩) 2 2)) := (Chg.refl [wb] w1).setCell (p := ⟨wb, 3, none⟩) (.inl (by simp)) _
  have z : (w1.setCell ⟨wb, 3, none⟩ (.slice (some ⟨w1.heap.size + 1 + 1 + 1, 0, none⟩) 2 2)).heap.size = w1.heap.size := by simp [World.setCell]
  generalize (w1.setCell ⟨wb, 3, none⟩ (.slice (some ⟨w1.heap.size + 1 + 1 + 1, 0, none⟩) 2 2)) = x0 at e C z ⊢
  generalize w1.heap.size = s at *
  have e0 : Blk x0 wb #[c0, c1, c2, .slice (some ⟨s + 1 + 1 + 1, 0, none⟩) 2 2] 73 := by unfold Blk; simpa using e
  clear e
  refine ⟨_, rfl, ?_, ?_, ?_⟩
  · have C6 := (((((hU1.chg.mono (G := [wb]) (by simp)).trans C (fun b hb => .inl hb)).alloc (.cells (madeCells #[.int .i64 0] h) 3)).alloc (.cells #[.int .i64 (p : Int), .slice (some ⟨s, 0, none⟩) h h, .int .i64 (g : Int), .slice none 0 0, .slice none 0 0] 85)).alloc (.cells #[.int .i64 0, .slice none 0 0, .int .i64 0, .slice none 0 0, .slice none 0 0, .int .i64 (p : Int), .slice (some ⟨s, 0, none⟩) h h, .int .i64 (g : Int), .slice none 0 0, .slice none 0 0] 85)).alloc (.cells #[.slice none 0 0, .slice (some ⟨s + 1 + 1, 0, none⟩) 2 2] 88)
    exact (C6.alloc _).to_up (fun b hb => by have h9 := List.mem_singleton.1 hb; omega)
  · refine ⟨Chg.refl _ _, blk_new2 _ _ _ _ (by simp only [World.size_alloc]; omega), ?_, fun b hb => (by cases hb), by simp only [World.size_alloc]; omega⟩
    exact World.ownsRow_nil _ _ _ _
  · have f1 := blk_al (blk_al e0 (.cells (madeCells #[.int .i64 0] h) 3)) (.cells #[.int .i64 (p : Int), .slice (some ⟨s, 0, none⟩) h h, .int .i64 (g : Int), .slice none 0 0, .slice none 0 0] 85)
    have z2 : ((x0.alloc (.cells (madeCells #[.int .i64 0] h) 3)).alloc (.cells #[.int .i64 (p : Int), .slice (some ⟨s, 0, none⟩) h h, .int .i64 (g : Int), .slice none 0 0, .slice none 0 0] 85)).heap.size = s + 1 + 1 := by simp only [World.size_alloc]; omega
    generalize ((x0.alloc (.cells (madeCells #[.int .i64 0] h) 3)).alloc (.cells #[.int .i64 (p : Int), .slice (some ⟨s, 0, none⟩) h h, .int .i64 (g : Int), .slice none 0 0, .slice none 0 0] 85)) = x2 at f1 z2 ⊢
    have f2 := blk_new2 x2 #[.int .i64 0, .slice none 0 0, .int .i64 0, .slice none 0 0, .slice none 0 0, .int .i64 (p : Int), .slice (some ⟨s, 0, none⟩) h h, .int .i64 (g : Int), .slice none 0 0, .slice none 0 0] 85 _ z2
    have f1 := blk_al f1 (.cells #[.int .i64 0, .slice none 0 0, .int .i64 0, .slice none 0 0, .slice none 0 0, .int .i64 (p : Int), .slice (some ⟨s, 0, none⟩) h h, .int .i64 (g : Int), .slice none 0 0, .slice none 0 0] 85)
    have z3 : (x2.alloc (.cells #[.int .i64 0, .slice none 0 0, .int .i64 0, .slice none 0 0, .slice none 0 0, .int .i64 (p : Int), .slice (some ⟨s, 0, none⟩) h h, .int .i64 (g : Int), .slice none 0 0, .slice none 0 0] 85)).heap.size = s + 1 + 1 + 1 := by simp only [World.size_alloc]; omega
    generalize (x2.alloc (.cells #[.int .i64 0, .slice none 0 0, .int .i64 0, .slice none 0 0, .slice none 0 0, .int .i64 (p : Int), .slice (some ⟨s, 0, none⟩) h h, .int .i64 (g : Int), .slice none 0 0, .slice none 0 0] 85)) = x3 at f1 f2 z3 ⊢
    have f3 := blk_al (blk_new2 x3 #[.slice none 0 0, .slice (some ⟨s + 1 + 1, 0, none⟩) 2 2] 88 _ z3) (.cells #[.int .u8 1, .int .i64 5, .bool false, .map none, .int .i64 1, .int .i64 1, .slice none 0 0, .int .u64 0, .int .u8 0, .int .i64 0, .string ⟨#[]⟩, .int .i64 0, .int .u64 0, .int .i64 0] 66)
    have f1 := blk_al (blk_al f1 (.cells #[.slice none 0 0, .slice (some ⟨s + 1 + 1, 0, none⟩) 2 2] 88)) (.cells #[.int .u8 1, .int .i64 5, .bool false, .map none, .int .i64 1, .int .i64 1, .slice none 0 0, .int .u64 0, .int .u8 0, .int .i64 0, .string ⟨#[]⟩, .int .i64 0, .int .u64 0, .int .i64 0] 66)
    have f2 := blk_al (blk_al f2 (.cells #[.slice none 0 0, .slice (some ⟨s + 1 + 1, 0, none⟩) 2 2] 88)) (.cells #[.int .u8 1, .int .i64 5, .bool false, .map none, .int .i64 1, .int .i64 1, .slice none 0 0, .int .u64 0, .int .u8 0, .int .i64 0, .string ⟨#[]⟩, .int .i64 0, .int .u64 0, .int .i64 0] 66)
    exact ⟨⟨f1.cell 3, f3.cell 1, f2.cell 5, f2.cell 6, f2.cell 7, f2.cell 8, f2.cell 9⟩, by omega, by omega, by omega⟩
/-! ### the arguments -/
def argAt (vv : Nat → V3) (i : Nat) : V3 := vmk (vv i).1 (vv i).2.1 (vv i).2.2
def argRow (vv : Nat → V3) (t : Nat) : List Value := (List.range t).flatMap fun i : Nat => cellsV (argAt vv i)
structure L2s (W1 w : World) (vv : Nat → V3) (lv : Value) (t : Nat) : Prop where
  up : Up W1 w
  row : w.ownsRow W1.heap.size 51 3 lv t (argRow vv t)
theorem L2s.next {W1 w W w5 : World} {vv : Nat → V3} {lv : Value} {t g c n1 : Nat} {o1 : Obj} {y : V3} (x : L2s W1 w vv lv t) (u : Up w W) (hrow : w5.ownsRow W1.heap.size 51 3 (.slice (some ⟨g, 0, none⟩) n1 c) n1 (argRow vv t ++ cellsV y)) (hy : y = argAt vv t) (hn1 : n1 = t + 1) (hg : (W.alloc o1).grownBy w5 lv.ownBlock) :
    L2s W1 w5 vv (.slice (some ⟨g, 0, none⟩) n1 c) (t + 1) := by
  subst hn1 hy
  have C : Chg [] W1 w5 := by
    have C5 : Chg lv.ownBlock.toList w w5 := ((u.chg.mono (by simp)).alloc o1).grown hg (fun b hb => .inl (by simp [hb]))
    exact ((x.up.chg.mono (G := lv.ownBlock.toList) (by simp)).trans C5 (fun b hb => .inl hb)).weak (fun b hb => .inr (x.row.lt b (by simpa using hb)).1)
  refine ⟨C.up, ?_⟩
  have e : argRow vv (t + 1) = argRow vv t ++ cellsV (argAt vv t) := by unfold argRow; rw [List.range_succ, List.flatMap_append]; simp
  rw [e]; exact hrow
theorem row_form {w : World} {base : Nat} {e : TypeId} {size : Nat} {v : Value} {n : Nat} {xs : List Value} (x : w.ownsRow base e size v n xs) : ∃ (ad : Option Addr) (cap : Nat), v = .slice ad n cap ∧ (0 < n → ∃ gb, ad = some ⟨gb, 0, none⟩ ∧ gb < w.heap.size ∧ ∀ j u, xs[j]? = some u → w.cell? ((⟨gb, 0, none⟩ : Addr).add j) = some u) := by
  rcases x.2 with ⟨rfl, rfl⟩ | ⟨g, cap, cur, rfl, hb, hg, rest⟩
  · exact ⟨none, 0, rfl, fun h => absurd h (by simp)⟩
  · exact ⟨_, cap, rfl, fun _ => ⟨g, rfl, (Array.getElem?_eq_some_iff.1 hg).1, x.cells rfl⟩⟩
theorem flat_cellsV : ∀ (l : List Nat) (f : Nat → V3) (n j : Nat) (s : Nat), l[n]? = some s → j < 3 → (l.flatMap fun i => cellsV (f i))[n * 3 + j]? = (cellsV (f s))[j]?
  | [], f, n, j, s, h, _ => by simp at h
  | a :: l, f, 0, j, s, h, hj => by
    simp at h; subst h
    rw [List.flatMap_cons, List.getElem?_append_left (by show _ < 3; omega)]; simp
  | a :: l, f, n + 1, j, s, h, hj => by
    simp at h
    rw [List.flatMap_cons, List.getElem?_append_right (by show 3 ≤ _; omega)]
    have : (n + 1) * 3 + j - (cellsV (f a)).length = n * 3 + j := by show (n + 1) * 3 + j - 3 = _; omega
    rw [this]
    exact flat_cellsV l f n j s h hj
theorem range_cellsV (f : Nat → V3) (t n j : Nat) (h : n < t) (hj : j < 3) : ((List.range t).flatMap fun i => cellsV (f i))[n * 3 + j]? = (cellsV (f n))[j]? := flat_cellsV _ f n j n (by simp [h]) hj
theorem len_cellsV (f : Nat → V3) : ∀ l : List Nat, (l.flatMap fun i => cellsV (f i)).length = l.length * 3
  | [] => rfl
  | a :: l => by rw [List.flatMap_cons, List.length_append, len_cellsV f l, List.length_cons]; show 3 + _ = _; omega
theorem one_cellsV (f : Nat → V3) (l : List Nat) : ∀ v ∈ (l.flatMap fun i => cellsV (f i)), v.oneCell' = true := by
  intro v hv
  obtain ⟨i, -, hi⟩ := List.mem_flatMap.1 hv
  simp [cellsV] at hi
  rcases hi with rfl | rfl | rfl <;> rfl
theorem splice_get {α : Type} (L : List α) (off : Nat) (cs : List α) (k : Nat) (h : off + cs.length ≤ L.length) : (splice L off cs)[k]? = if k < off then L[k]? else if k < off + cs.length then cs[k - off]? else L[k]? := by
  unfold splice
  by_cases h1 : k < off
  · rw [if_pos h1, List.getElem?_append_left (by simp; omega), List.getElem?_take, if_pos h1]
  · rw [if_neg h1, List.getElem?_append_right (by simp; omega)]
    have e : (L.take off).length = off := by simp; omega
    rw [e]
    by_cases h2 : k < off + cs.length
    · rw [if_pos h2, List.getElem?_append_left (by omega)]
    · rw [if_neg h2, List.getElem?_append_right (by omega), List.getElem?_drop]
      congr 1; omega
theorem made_get (n i j : Nat) (h : i < n) (hj : j < 3) : (madeCells #[.int .u8 0, .int .i64 0, .string ⟨#[]⟩] (n * 3)).toList[i * 3 + j]? = (cellsV zero3)[j]? := by
  have hlt : i * 3 + j < n * 3 := by omega
  have hm : (i * 3 + j) % 3 = j := by omega
  simp only [madeCells, Array.toList_map, Array.toList_range, List.getElem?_map, List.getElem?_range hlt, Option.map_some]
  show some ((#[Value.int .u8 0, .int .i64 0, .string ⟨#[]⟩] : Array Value)[(i * 3 + j) % 3]!) = _
  rw [hm]
  match j, hj with
  | 0, _ => rfl
  | 1, _ => rfl
  | 2, _ => rfl
/-! ### the registers -/
def want (vv : Nat → V3) (n p h i : Nat) : V3 := if i < p ∧ i < n then argAt vv i else if p ≤ i ∧ i < p + h then (2, 100 + ((i - p : Nat) : Int), ⟨#[]⟩) else zero3
def cut1 (vv : Nat → V3) (n p : Nat) : List Value := (argRow vv n).take (Nat.min n p * 3)
def regs (vv : Nat → V3) (n p h g : Nat) : List Value := splice (splice (madeCells #[.int .u8 0, .int .i64 0, .string ⟨#[]⟩] (g * 3)).toList 0 (cut1 vv n p)) (p * 3) (heldRow h)
theorem cut1_len (vv : Nat → V3) (n p : Nat) : (cut1 vv n p).length = Nat.min n p * 3 := by
  have := Nat.min_le_left n p
  unfold cut1 argRow
  rw [List.length_take, len_cellsV, List.length_range]
  have e : Nat.min n p * 3 ≤ n * 3 := Nat.mul_le_mul_right _ this
  exact Nat.min_eq_left e
theorem held_len (h : Nat) : (heldRow h).length = h * 3 := by unfold heldRow; rw [len_cellsV, List.length_range]
theorem held_one (h : Nat) : ∀ v ∈ heldRow h, v.oneCell' = true := one_cellsV _ _
theorem cut1_one (vv : Nat → V3) (n p : Nat) : ∀ v ∈ cut1 vv n p, v.oneCell' = true := fun v hv => one_cellsV _ _ v (List.mem_of_mem_take hv)
theorem regs_get (vv : Nat → V3) (n p h g i j : Nat) (hg : p + h ≤ g) (hi : i < g) (hj : j < 3) : (regs vv n p h g)[i * 3 + j]? = (cellsV (want vv n p h i))[j]? := by
  have l1 := cut1_len vv n p
  have l2 := held_len h
  have l0 : (madeCells #[Value.int .u8 0, .int .i64 0, .string ⟨#[]⟩] (g * 3)).toList.length = g * 3 := by rw [Array.length_toList, size_madeCells]
  have hmin : Nat.min n p ≤ p ∧ Nat.min n p ≤ n := ⟨Nat.min_le_right n p, Nat.min_le_left n p⟩
  have hmin2 : i < Nat.min n p ↔ i < n ∧ i < p := by simpa using Nat.lt_min (a := i) (b := n) (c := p)
  have f1 : 0 + (cut1 vv n p).length ≤ (madeCells #[Value.int .u8 0, .int .i64 0, .string ⟨#[]⟩] (g * 3)).toList.length := by rw [l0, l1]; omega
  unfold regs
  rw [splice_get _ _ _ _ (by rw [length_splice _ _ _ f1, l0, l2]; omega), splice_get _ _ _ _ f1]
  rw [l1, l2]
  unfold want
  by_cases c1 : i < p
  · rw [if_pos (by omega), if_neg (by omega)]
    by_cases c2 : i < n
    · have c3 := hmin2.2 ⟨c2, c1⟩
      rw [if_pos (by omega), if_pos ⟨c1, c2⟩]
      unfold cut1
      rw [List.getElem?_take, if_pos (by omega)]
      exact range_cellsV _ _ _ _ c2 hj
    · rw [if_neg (by omega), if_neg (by omega), if_neg (by omega)]
      exact made_get g i j hi hj
  · rw [if_neg (by omega)]
    by_cases c2 : i < p + h
    · rw [if_pos (by omega), if_neg (by omega), if_pos (by omega)]
      have e : i * 3 + j - p * 3 = (i - p) * 3 + j := by omega
      rw [e]
      exact range_cellsV (fun i : Nat => (2, 100 + (i : Int), ⟨#[]⟩)) _ _ _ (by omega) hj
    · rw [if_neg (by omega), if_neg (by omega), if_neg (by omega), if_neg (by omega), if_neg (by omega)]
      exact made_get g i j hi hj
end Go.Proofs.YtmmfpkkkpeapeaaGreatDoor.mb

/- FrameOf: the walk (begun). -/
set_option linter.unusedVariables false
set_option linter.unusedSimpArgs false
namespace Go.Proofs.YtmmfpkkkpeapeaaGreatDoor.mb
open Go.RowKit Go.Maps mem rec ar
attribute [local go_sem ↓] Go.wp_at_zero Go.wp_at_succ
set_option maxRecDepth 100000
set_option maxHeartbeats 4000000
theorem fld_func (p g : Int) (b d e : Value) (w : World) : (Instr.field 85 (.agg #[.int .i64 p, b, .int .i64 g, d, e]) 2).run Tryz.prog w = .ok (.int .i64 g) w := by
  kernel_rfl
theorem frameof (x y z : Int) (aa : Option Addr) (n cap : Nat) (vv : Nat → V3) (w : World) (hL : Laid w) (hx : 0 ≤ x ∧ x ≤ 255) (hy : 0 ≤ y ∧ y ≤ 255) (hz : 0 ≤ z ∧ z ≤ 255) (hn : n ≤ 20)
    (hv : n = 0 ∨ ∃ b off, aa = some ⟨b, off, none⟩ ∧ b < w.heap.size ∧ ∀ i, i < n → op.VAt w b (off + i * 3) (vv i)) :
    Calls Tryz.prog 5 #[.int .u8 x, .int .u8 y, .int .u8 z, .slice aa n cap] w fun e w' => e = .returned (.bool true) ∧ Up w w' := by
  have HV := Lib.hid hv
  clear hv
  obtain ⟨p, hp⟩ : ∃ p : Nat, x % 6 = (p : Int) := ⟨(x % 6).toNat, by omega⟩
  obtain ⟨h, hh⟩ : ∃ h : Nat, y % 6 = (h : Int) := ⟨(y % 6).toNat, by omega⟩
  obtain ⟨o, ho⟩ : ∃ o : Nat, z % 6 = (o : Int) := ⟨(z % 6).toNat, by omega⟩
  obtain ⟨g, hg⟩ : ∃ g : Nat, g = p + h + o := ⟨_, rfl⟩
  have hb5 : p ≤ 5 ∧ h ≤ 5 ∧ o ≤ 5 := by omega
  have hw1 : IntKind.i64.wrap ((p : Int) + (h : Int)) = (p : Int) + (h : Int) := by rw [IntKind.wrap_i64] <;> omega
  have hw2 : IntKind.i64.wrap ((p : Int) + (h : Int) + (o : Int)) = (g : Int) := by rw [IntKind.wrap_i64] <;> omega
  have il : (n : Int) ≤ 20 := by omega
  have HG : Hid (g = p + h + o) := hg
  clear hg
  have NW := Lib.hid new_world
  have MKI : ∀ W, (Instr.makeSlice 82 (.int .i64 (h : Int)) (.int .i64 (h : Int))).run Tryz.prog W = .ok (.slice (some ⟨W.heap.size, 0, none⟩) h h) (W.alloc (.cells (madeCells #[.int .i64 0] h) 3)) := by
    intro W
    obtain ⟨iV, hi, hz0, hz1, hz2⟩ := info_parts infoInt
    have q := run_make (P := Tryz.prog) W 82 3 iV _ Tryz.underlying82 hi hz0 .i64 .i64 (h : Int) (h : Int) (by omega) (by omega) (by rw [hz2]; omega) (by omega)
    rw [hz1, Int.toNat_natCast, Nat.mul_one] at q
    exact q
  go_enter Tryz.func5, Tryz.ntmps5
  go_upto_region 5 with (go_at_call 18; refine (awake16 _ hL).mono ?_; rintro e w0 ⟨rfl, hb0⟩)
  go_upto_region 6 with (go_at_call 19; refine (NW.out _).mono ?_; rintro e w1 ⟨wb, c0, c1, c2, rfl, hU1, hwb, hblk⟩)
  go_upto_region 8 with (fail)
  clear hp hh ho hw1 hw2
  have d3 : w1.cell? ⟨wb, 3, none⟩ = some (.slice none 0 0) := hblk.cell 3
  have f3 : w1.frozen? ⟨wb, 3, none⟩ = false := frozen_of_row w1 wb 3 _ _ hblk
  have l0 : wb < w1.heap.size := hblk.lt
  have l1 : wb < w1.heap.size + 1 := by omega
  have l2 : wb < w1.heap.size + 1 + 1 := by omega
  have l3 : wb < w1.heap.size + 1 + 1 + 1 := by omega
  have HB := Lib.hid hblk
  clear hblk
  go_upto_region 11 with (fail)
  obtain ⟨W0, hW0, hU0, hS1, hPr⟩ := start1 (p := p) (h := h) (g := g) hU1 hwb HB.out
  rw [hW0]
  clear hW0 d3 f3 l0 l1 l2 l3
  have HU0 := Lib.hid (Up.trans hb0 hU0)
  have HPR := Lib.hid hPr
  have S1 := Lib.hid hS1
  have HOB : Hid (w.heap.size ≤ w1.heap.size + 1 + 1 + 1 + 1) := by have := (Up.trans hb0 hU1).size; show _ ≤ _; omega
  clear hU0 hPr hS1 hU1 hwb HB
  generalize w1.heap.size + 1 + 1 + 1 + 1 = ob at *
  generalize w1.heap.size + 1 + 1 + 1 = mb_ at *
  generalize hfb : w1.heap.size + 1 + 1 = fb at *
  have NX : Hid (∀ (x : Int) wx, Calls Tryz.prog 23 #[.int .i64 x] wx fun e w' => e = .returned (.agg #[.int .u8 2, .int .i64 x, .string ⟨#[]⟩]) ∧ Up wx w') := fun x wx => (number_x x wx).mono (fun e w' hh => ⟨hh.1, hh.2 ▸ (Up.refl wx).alloc _⟩)
  have MX : Hid (∀ (k n : Int) (s : ByteArray), 0 ≤ k → k ≤ 255 → ∀ wx, Calls Tryz.prog 11 #[.agg #[.int .u8 k, .int .i64 n, .string s]] wx fun e w' => ∃ (a b : Int) (c : ByteArray), ((a, b, c) : V3) = vmk k n s ∧ e = .returned (.agg #[.int .u8 a, .int .i64 b, .string c]) ∧ Up wx w') := fun k n s h0 h1 wx => (make_x k n s h0 h1 wx).mono (fun e w' hh => ⟨_, _, _, rfl, hh.1, hh.2 ▸ ((Up.refl wx).alloc _).alloc _⟩)
  obtain ⟨iV, hi, hz0, hz1, hz2⟩ := info_parts infoVal
  have HIV := Lib.hid (And.intro hi (And.intro hz0 (And.intro hz1 hz2)))
  clear hi hz0 hz1 hz2
  clear NW MKI hfb
  go_wp2_with fail
  go_loopw [58] (fun i wr => ∃ (t : Nat) (hv : Value), t ≤ h ∧ i = .int .i64 t ∧ L1s W0 wr ob hv t) (fun i _ => h - (intOf i).toNat)
  case atStart => exact ⟨0, _, by omega, rfl, S1.out⟩
  case round =>
    obtain ⟨t, hv, ht, rfl, hS⟩ := hrel
    clear S1
    have S1 := Lib.hid hS
    clear hS
    by_cases hlt : t < h
    · have it0 : (t : Int) < (h : Int) := by omega
      have d6 : wr.cell? ⟨ob, 6, none⟩ = some hv := S1.out.bo.cell 6
      have hw : IntKind.i64.wrap (100 + (t : Int)) = 100 + (t : Int) := by rw [IntKind.wrap_i64] <;> omega
      have HBL : Hid (t + 1 ≤ maxLen ∧ (t + 1) * 32 ≤ 140737488355328) := ⟨by unfold maxLen; omega, by omega⟩
      go_upto_region 14 with (fail)
      refine AnyT.start (S := fun w' => w'.cell? ⟨ob, 6, none⟩ = some hv) 8 (by kernel_rfl) d6 (fun hHeld => ?_)
      have hUd : Up wr wr.drew := (Up.refl wr).drew
      generalize World.drew wr = wd at hUd hHeld ⊢
      refine AnyT.pick (i := 0) (oi := ⟨_, _, _, _, _, _⟩) (v := ?_) rfl (by kernel_rfl) (by kernel_rfl) (by kernel_rfl) (fun _ _ _ h => h) (Or.inl ⟨by rfl, ?y0_1⟩) ?_
      case' y0_1 => ((intro w hSw; go_simp) <;> (with_reducible rfl))
      try simp only [Act.put, List.setIfInBounds_toArray, List.set_cons_zero, List.set_cons_succ]
      refine AnyT.take (i := 1) (oi := ⟨_, _, _, _, _, _⟩) (v := ?_) rfl (by kernel_rfl) (by kernel_rfl) (by kernel_rfl) (by kernel_rfl) (fun _ _ _ h => h) (Or.inl ⟨by rfl, ?y1_2⟩) (by assumption) ?_
      case' y1_2 => ((intro w hSw; (try dsimp only at hSw); go_simp) <;> (with_reducible rfl))
      try simp only [Act.put, List.setIfInBounds_toArray, List.set_cons_zero, List.set_cons_succ]
      refine AnyT.pick (i := 2) (oi := ⟨_, _, _, _, _, _⟩) (v := ?_) rfl (by kernel_rfl) (by kernel_rfl) (by kernel_rfl) (fun _ _ _ h => h) (Or.inl ⟨by rfl, ?y2_3⟩) ?_
      case' y2_3 => ((intro w hSw; go_simp) <;> (with_reducible rfl))
      try simp only [Act.put, List.setIfInBounds_toArray, List.set_cons_zero, List.set_cons_succ]
      refine AnyT.pick (i := 3) (oi := ⟨_, _, _, _, _, _⟩) (v := ?_) rfl (by kernel_rfl) (by kernel_rfl) (by kernel_rfl) (fun _ _ _ h => h) (Or.inl ⟨by rfl, ?y3_4⟩) ?_
      case' y3_4 => ((intro w hSw; go_simp) <;> (with_reducible rfl))
      try simp only [Act.put, List.setIfInBounds_toArray, List.set_cons_zero, List.set_cons_succ]
      refine AllT.go (rs := [4]) (by kernel_rfl) (by simp) ?_
      refine AllT.early (o := ⟨_, _, _, _, _, _⟩) rfl (fun K hK => ?_) ?_
      · go_simp
        go_at_call 23
        refine (NX.out _ _).mono ?_
        rintro e w2 ⟨rfl, hU2⟩
        refine hK.out _ _ (up_cell (Up.trans hUd hU2) d6) (fun _ => ?_)
        clear hK K hHeld
        try simp only [Act.put, List.setIfInBounds_toArray, List.set_cons_zero, List.set_cons_succ]
        refine AllT.go (rs := [5]) (by kernel_rfl) (by simp) ?_
        refine AllT.early (o := ⟨_, _, _, _, _, _⟩) rfl (fun K hK => ?_) ?_
        · go_simp
          refine hK.out _ _ (up_cell ((Up.trans hUd hU2).alloc _) d6) (fun _ => ?_)
          clear hK K
          try simp only [Act.put, List.setIfInBounds_toArray, List.set_cons_zero, List.set_cons_succ]
          refine AllT.go (rs := [6]) (by kernel_rfl) (by simp) ?_
          refine AllT.early (o := ⟨_, _, _, _, _, _⟩) rfl (fun K hK => ?_) ?_
          · refine step_append_lies _ rfl (.tmp 62) (.tmp 66) 64 rfl 0 51 _ (.agg #[.int .u8 0, .int .i64 0, .string ⟨#[]⟩]) 3 32 Tryz.underlying64 HIV.out.1 HIV.out.2.1 HIV.out.2.2.1 HIV.out.2.2.2 rfl (by decide) hv t (heldRow t) rfl (owns_chg S1.out.row ((Up.trans hUd hU2).alloc _).chg (by simp)) ⟨w2.heap.size, 0, none⟩ 1 1 [.int .u8 2, .int .i64 (100 + (t : Int)), .string ⟨#[]⟩] rfl rfl (World.news_of_block (cs := #[.int .u8 2, .int .i64 (100 + (t : Int)), .string ⟨#[]⟩]) (t := 51) (fr := (0, 0)) (heap_alloc_new w2 _)) (by intro u hu; simp at hu; rcases hu with rfl | rfl | rfl <;> rfl) (by decide) HBL.out.1 HBL.out.2 (Nat.zero_le _) (w2.heap.size + 1) (by simp) ?_
            intro g1 gcap w5 hrow hgrow hat hlt5
            obtain ⟨hb5, hS5⟩ := L1s.next S1.out (Up.trans hUd hU2) hrow rfl hgrow hat (by simp)
            have d65 : w5.cell? ⟨ob, 6, none⟩ = some hv := hb5.cell 6
            have f65 : w5.frozen? ⟨ob, 6, none⟩ = false := frozen_of_row w5 ob 6 _ _ hb5
            refine hK.out _ _ d65 (fun _ => ?_)
            have S5 := Lib.hid hS5
            clear hK K hrow hgrow hat hlt5 hb5 hS5 S1
            try simp only [Act.put, List.setIfInBounds_toArray, List.set_cons_zero, List.set_cons_succ]
            refine AnyT.pick (i := 7) (oi := ⟨_, _, _, _, _, _⟩) (v := ?_) rfl (by kernel_rfl) (by kernel_rfl) (by kernel_rfl) (fun _ _ _ h => h) (Or.inl ⟨by rfl, ?y7_5⟩) ?_
            case' y7_5 => ((intro w hSw; go_simp) <;> (with_reducible rfl))
            try simp only [Act.put, List.setIfInBounds_toArray, List.set_cons_zero, List.set_cons_succ]
            refine AllT.go (rs := [8]) (by kernel_rfl) (by simp) ?_
            refine AllT.late (o := ⟨_, _, _, _, _, _⟩) rfl (by decide) (fun K hK => ?_) ?_
            · go_simp
              refine hK.out _ _ trivial (fun _ => ?_)
              clear hK K
              try simp only [Act.put, List.setIfInBounds_toArray, List.set_cons_zero, List.set_cons_succ]
              refine AnyT.done (by kernel_rfl) ?_ _
              go_wp2_with fail
              go_roundw
              case rel => exact ⟨t + 1, _, by omega, by go_num, S5.out⟩
              case measure => simp [intOf]; omega
            exact AllT.nil
          exact AllT.nil
        exact AllT.nil
      exact AllT.nil
    · have hte : h = t := by omega
      subst hte
      have HWR : Hid (Up w wr) := ((HU0.out.chg.mono (G := [ob]) (by simp)).trans S1.out.cg (fun b hb => .inl hb)).to_up (fun b hb => by have h9 := List.mem_singleton.1 hb; subst h9; exact HOB.out)
      have HPR1 := Lib.hid (HPR.out.chg S1.out.cg)
      obtain ⟨ha, hc, hhv, hsrc⟩ := row_form S1.out.row
      subst hhv
      have HSRC := Lib.hid hsrc
      clear hsrc HPR HU0 HOB
      obtain ⟨wA, hwA⟩ : ∃ wA, wA = wr := ⟨_, rfl⟩
      subst hwA
      go_wp2_with fail
      go_loopw [16, 72] (fun lv i wq => ∃ t : Nat, t ≤ n ∧ i = .int .i64 t ∧ L2s wA wq vv lv t) (fun _ i _ => n - (intOf i).toNat)
      case atStart => exact ⟨0, by omega, rfl, Up.refl _, World.ownsRow_nil _ _ _ _⟩
      case round =>
        obtain ⟨t, ht, rfl, hA⟩ := hrel
        have S2 := Lib.hid hA
        clear hA
        by_cases hlt : t < n
        · obtain ⟨vb, off, rfl, hvb, hvj⟩ := HV.out.resolve_left (by omega)
          obtain ⟨⟨hx0, hx1, hx2⟩, hxk, -, -⟩ := hvj t hlt
          have upq := Up.trans HWR.out S2.out.up
          have cx0 := up_cell upq hx0
          have cx1 := up_cell upq hx1
          have cx2 := up_cell upq hx2
          have hvbw : vb < wr.heap.size := Nat.lt_of_lt_of_le hvb upq.size
          obtain ⟨x, hxx⟩ : ∃ x, x = vv t := ⟨_, rfl⟩
          rw [← hxx] at cx0 cx1 cx2 hxk
          obtain ⟨k0, n0, s0⟩ := x
          have HX := Lib.hid hxx
          clear hx0 hx1 hx2 hxx hvj upq
          simp only at cx0 cx1 cx2 hxk
          have it0 : (t : Int) < (n : Int) := by omega
          have HBL : Hid (t + 1 ≤ maxLen ∧ (t + 1) * 32 ≤ 140737488355328) := ⟨by unfold maxLen; omega, by omega⟩
          go_upto_region 20 with (fail)
          have UA : Up wr (wr.alloc (.cells #[.int .u8 k0, .int .i64 n0, .string s0] 25)) := (Up.refl wr).alloc _
          have BA := has3_alloc wr (.int .u8 k0) (.int .i64 n0) (.string s0) 25
          have BAC := BA.2.1
          clear cx0 cx1 cx2 hvbw
          generalize hwa : World.alloc wr _ = wa at UA BA BAC ⊢
          generalize wr.heap.size = s18 at BA BAC ⊢
          obtain ⟨da, db, dc⟩ := BAC
          clear BA hwa
          go_wp2_with (first
            | (go_at_call 11; refine (MX.out _ _ _ hxk.1 hxk.2 _).mono ?_; rintro e w2 ⟨y0, y1, y2, hy, rfl, hU2⟩)
            | (at_builtin; refine wpList_append_lies _ rfl (.tmp 76) (.tmp 79) 64 rfl wA.heap.size 51 _ (.agg #[.int .u8 0, .int .i64 0, .string ⟨#[]⟩]) 3 32 Tryz.underlying64 HIV.out.1 HIV.out.2.1 HIV.out.2.2.1 HIV.out.2.2.2 rfl (by decide) u16 t (argRow vv t) rfl (owns_chg S2.out.row ((Up.trans UA hU2).alloc _).chg (by simp)) ⟨w2.heap.size, 0, none⟩ 1 1 [.int .u8 y0, .int .i64 y1, .string y2] rfl rfl (World.news_of_block (cs := #[.int .u8 y0, .int .i64 y1, .string y2]) (t := 51) (fr := (0, 0)) (heap_alloc_new w2 _)) (by intro u hu; simp at hu; rcases hu with rfl | rfl | rfl <;> rfl) (by decide) HBL.out.1 HBL.out.2 (by have a1 := S2.out.up.size; have a2 := (Up.trans UA hU2).size; rw [World.size_alloc]; omega) (w2.heap.size + 1) (by simp) ?_; intro g1 gcap w5 hown5 hgrow5 hat5 hlt5))
          go_roundw
          case rel => exact ⟨t + 1, by omega, by go_num, S2.out.next (y := (y0, y1, y2)) (Up.trans UA hU2) hown5 (by rw [hy]; unfold argAt; rw [← HX.out]) rfl hgrow5⟩
          case measure => simp [intOf]; omega
        · have hte : n = t := by omega
          subst hte
          obtain ⟨aa2, ac, hlv, hsrc2⟩ := row_form S2.out.row
          subst hlv
          have hle := S2.out.up.size
          have OF : Hid (Calls Tryz.prog 24 #[.pointer (some ⟨wb, 0, none⟩), .pointer (some ⟨ob, 0, none⟩), .slice aa2 n ac] wr fun e w' => ∃ (rg : Nat) (R : TypeId), e = .returned (.agg #[.int .i64 1, .int .i64 1, .int .i64 0, .slice (some ⟨rg, 0, none⟩) g g, .int .i64 5, .int .i64 0, .slice none 0 0, .slice none 0 0]) ∧ Up wr w' ∧ wr.heap.size ≤ rg ∧ Blk w' rg (regs vv n p h g).toArray R) := by
            have hb := S1.out.bo.chg S2.out.up.chg (by simp)
            have hg := HG.out
            obtain ⟨q1, q2, q3, q4, q5, q6, q7⟩ := (HPR1.out.up S2.out.up).c
            have e3 : Nat.min h (g - p) = h := Nat.min_eq_left (by omega)
            refine of_x (cs1 := cut1 vv n p) (cs2 := heldRow h) (by omega) (by omega) (cut1_len vv n p) (by rw [e3]; exact held_len h) (cut1_one vv n p) (held_one h) ?_ ?_ ⟨q1, q2, q3, q4, q5, q6, q7, hb.cell 4, hb.cell 5, hb.cell 1, hb.cell 6⟩
            · intro hh
              obtain ⟨gb, e1, e2, e4⟩ := hsrc2 (by have e9 : Nat.min n p ≤ n := Nat.min_le_left n p; omega)
              exact ⟨_, e1, e2, fun j v hv => e4 j v (by unfold cut1 at hv; rw [List.getElem?_take] at hv; split at hv; exact hv; cases hv)⟩
            · intro hh
              obtain ⟨gb, e1, e2, e4⟩ := HSRC.out (by rw [e3] at hh; exact hh)
              exact ⟨_, e1, Nat.lt_of_lt_of_le e2 hle, fun j v hv => up_cell S2.out.up (e4 j v hv)⟩
          go_upto_region 23 with (go_at_call 24; refine OF.out.mono ?_; rintro e w3 ⟨rg, R, rfl, hU3, hrg, hB3⟩)
          have hF := Blk.new w3 #[.int .i64 1, .int .i64 1, .int .i64 0, .slice (some ⟨rg, 0, none⟩) g g, .int .i64 5, .int .i64 0, .slice none 0 0, .slice none 0 0] 92
          have hU4 : Up w3 (w3.alloc (.cells #[.int .i64 1, .int .i64 1, .int .i64 0, .slice (some ⟨rg, 0, none⟩) g g, .int .i64 5, .int .i64 0, .slice none 0 0, .slice none 0 0] 92)) := (Up.refl w3).alloc _
          have H4 : Hid (Up wr w3 ∧ Blk w3 rg (regs vv n p h g).toArray R) := ⟨hU3, hB3⟩
          generalize hw4 : World.alloc w3 _ = w4 at hF hU4 ⊢
          generalize hs19 : w3.heap.size = s19 at hF ⊢
          have d0 := hF.cell 0
          have d1 := hF.cell 1
          have d2 := hF.cell 2
          have d3 := hF.cell 3
          have d4 := hF.cell 4
          have d6 := hF.cell 6
          have d7 := hF.cell 7
          have d5 := hF.cell 5
          simp only [List.getElem?_toArray, List.getElem?_cons_succ, List.getElem?_cons_zero] at d0 d1 d2 d3 d4 d5 d6 d7
          have HU4 := Lib.hid hU4
          have CO : Hid (Calls Tryz.prog 25 #[.pointer (some ⟨wb, 0, none⟩), .agg #[.int .i64 1, .int .i64 1, .int .i64 0, .slice (some ⟨rg, 0, none⟩) g g, .int .i64 5, .int .i64 0, .slice none 0 0, .slice none 0 0]] w4 fun e w' => e = .returned (.agg #[.int .i64 (p : Int), .slice (some ⟨w1.heap.size, 0, none⟩) h h, .int .i64 (g : Int), .slice none 0 0, .slice none 0 0]) ∧ Up w4 w') := code_x (((HPR1.out.up S2.out.up).up H4.out.1).up HU4.out).c
          clear hU3 hB3 hrg hU4 hw4 hs19 hle hF
          have FF : ∀ W, (Instr.field 85 (.agg #[.int .i64 (p : Int), .slice (some ⟨w1.heap.size, 0, none⟩) h h, .int .i64 (g : Int), .slice none 0 0, .slice none 0 0]) 2).run Tryz.prog W = .ok (.int .i64 (g : Int)) W := fun W => fld_func _ _ _ _ _ W
          go_upto_region 25 with (go_at_call 25; refine CO.out.mono ?_; rintro e w5 ⟨rfl, hU5⟩)
          have d3 := up_cell hU5 d3
          have HR : Hid (∀ t, t < g → ∀ wx, Up w5 wx → (wx.cell? ⟨rg, t * 3, none⟩ = some (.int .u8 (want vv n p h t).1) ∧ wx.cell? ⟨rg, t * 3 + 1, none⟩ = some (.int .i64 (want vv n p h t).2.1) ∧ wx.cell? ⟨rg, t * 3 + 2, none⟩ = some (.string (want vv n p h t).2.2)) ∧ rg < wx.heap.size) := by
            intro t ht2 wx hux
            have hg := HG.out
            have hb := H4.out.2.chg (Up.trans HU4.out (Up.trans hU5 hux)).chg (by simp)
            have r0 := regs_get vv n p h g t 0 (by omega) ht2 (by decide)
            have r1 := regs_get vv n p h g t 1 (by omega) ht2 (by decide)
            have r2 := regs_get vv n p h g t 2 (by omega) ht2 (by decide)
            refine ⟨⟨?_, ?_, ?_⟩, hb.lt⟩
            · exact (hb.cell (t * 3)).trans (by rw [List.getElem?_toArray]; exact r0)
            · exact (hb.cell (t * 3 + 1)).trans (by rw [List.getElem?_toArray]; exact r1)
            · exact (hb.cell (t * 3 + 2)).trans (by rw [List.getElem?_toArray]; exact r2)
          have HLV : Hid (∀ t, t < n → ∀ wx, Up w5 wx → ∃ gb, aa2 = some ⟨gb, 0, none⟩ ∧ gb < wx.heap.size ∧ wx.cell? ⟨gb, t * 3, none⟩ = some (.int .u8 (argAt vv t).1) ∧ wx.cell? ⟨gb, t * 3 + 1, none⟩ = some (.int .i64 (argAt vv t).2.1) ∧ wx.cell? ⟨gb, t * 3 + 2, none⟩ = some (.string (argAt vv t).2.2)) := by
            intro t ht2 wx hux
            have r0 := range_cellsV (argAt vv) n t 0 ht2 (by decide)
            have r1 := range_cellsV (argAt vv) n t 1 ht2 (by decide)
            have r2 := range_cellsV (argAt vv) n t 2 ht2 (by decide)
            obtain ⟨gb, e1, e2, e4⟩ := hsrc2 (by omega)
            subst e1
            have row := owns_chg S2.out.row (Up.trans H4.out.1 (Up.trans HU4.out (Up.trans hU5 hux))).chg (by simp)
            refine ⟨gb, rfl, (row.lt gb rfl).2, ?_, ?_, ?_⟩
            · exact (World.ownsRow.cellAt row (t * 3) (by omega)).trans r0
            · exact (World.ownsRow.cellAt row (t * 3 + 1) (by omega)).trans r1
            · exact (World.ownsRow.cellAt row (t * 3 + 2) (by omega)).trans r2
          have HW5 : Hid (Up w w5) := Up.trans HWR.out (Up.trans S2.out.up (Up.trans H4.out.1 (Up.trans HU4.out hU5)))
          have hgo : p + h ≤ g := by have hg := HG.out; omega
          have hg15 : g ≤ 15 := by have hg := HG.out; omega
          clear d0 d1 d2 d4 d5 d6 d7 CO FF HU4 H4 hU5 OF S2 HSRC S1 HPR1 HWR hsrc2
          go_wp2_with fail
          go_loopw [133] (fun i wq => ∃ t : Nat, t ≤ g ∧ i = .int .i64 t ∧ Up w5 wq) (fun i _ => g - (intOf i).toNat)
          case atStart => exact ⟨0, by omega, rfl, Up.refl _⟩
          case round =>
            obtain ⟨t, ht, rfl, hU⟩ := hrel
            have HU := Lib.hid hU
            clear hU
            by_cases hlt : t < g
            · have it0 : (t : Int) < (g : Int) := by omega
              obtain ⟨⟨e0, e1, e2⟩, erg⟩ := HR.out t hlt _ HU.out
              obtain ⟨q, hq⟩ : ∃ q, q = want vv n p h t := ⟨_, rfl⟩
              rw [← hq] at e0 e1 e2
              obtain ⟨qa, qb, qc⟩ := q
              simp only at e0 e1 e2
              have HQ := Lib.hid hq
              clear hq
              clear HR
              by_cases c1 : t < p
              · have ic1 : (t : Int) < (p : Int) := by omega
                have ic1n : ¬ (p : Int) ≤ (t : Int) := by omega
                by_cases c2 : t < n
                · have ic2 : (t : Int) < (n : Int) := by omega
                  obtain ⟨gb, haa, egb, l0, l1, l2⟩ := HLV.out t c2 _ HU.out
                  have hwq : ((qa, qb, qc) : V3) = argAt vv t := by rw [HQ.out]; unfold want; rw [if_pos ⟨c1, c2⟩]
                  rw [← hwq] at l0 l1 l2
                  simp only at l0 l1 l2
                  subst haa
                  clear hwq HLV
                  go_wp2_with ((with_reducible refine wpl_ne (qa, qb, qc) (qa, qb, qc) ?_ ?_ ?_ false (by simp) ?_); (· first | rfl | go_simp); (· first | rfl | go_simp); (· first | rfl | go_simp))
                  go_roundw
                  case rel =>
                    exact ⟨t + 1, by omega, by go_num, (HU.out.alloc _).alloc _⟩
                  case measure => simp [intOf]; omega
                · have ic2 : ¬ (t : Int) < (n : Int) := by omega
                  have hwq : ((qa, qb, qc) : V3) = zero3 := by rw [HQ.out]; unfold want; rw [if_neg (by omega), if_neg (by omega)]
                  obtain ⟨rfl, rfl, rfl⟩ : qa = 0 ∧ qb = 0 ∧ qc = ⟨#[]⟩ := by cases hwq; exact ⟨rfl, rfl, rfl⟩
                  clear hwq HLV
                  go_wp2_with ((with_reducible refine wpl_ne (0, 0, ⟨#[]⟩) (0, 0, ⟨#[]⟩) ?_ ?_ ?_ false (by simp) ?_); (· first | rfl | go_simp); (· first | rfl | go_simp); (· first | rfl | go_simp))
                  go_roundw
                  case rel =>
                    exact ⟨t + 1, by omega, by go_num, (HU.out.alloc _).alloc _⟩
                  case measure => simp [intOf]; omega
              · have ic1 : ¬ (t : Int) < (p : Int) := by omega
                have ic1n : (p : Int) ≤ (t : Int) := by omega
                have hwp : IntKind.i64.wrap ((p : Int) + (h : Int)) = (p : Int) + (h : Int) := by rw [IntKind.wrap_i64] <;> omega
                by_cases c2 : t < p + h
                · have ic2 : (t : Int) < (p : Int) + (h : Int) := by omega
                  have hw1 : IntKind.i64.wrap (100 + (t : Int)) = 100 + (t : Int) := by rw [IntKind.wrap_i64] <;> omega
                  have hwq : ((qa, qb, qc) : V3) = (2, 100 + ((t - p : Nat) : Int), ⟨#[]⟩) := by rw [HQ.out]; unfold want; rw [if_neg (by omega), if_pos (by omega)]
                  obtain ⟨rfl, hqb, rfl⟩ : qa = 2 ∧ qb = 100 + (t : Int) - (p : Int) ∧ qc = ⟨#[]⟩ := by cases hwq; exact ⟨rfl, by omega, rfl⟩
                  have hw2 : IntKind.i64.wrap (100 + (t : Int) - (p : Int)) = qb := by rw [hqb, IntKind.wrap_i64] <;> omega
                  clear hwq HLV hqb
                  go_wp2_with (first | (go_at_call 23; refine (number_x _ _).mono ?_; rintro e w6 ⟨rfl, rfl⟩; try simp only [val]) | ((with_reducible refine wpl_ne (2, qb, ⟨#[]⟩) (2, qb, ⟨#[]⟩) ?_ ?_ ?_ false (by simp) ?_); (· first | rfl | go_simp); (· first | rfl | go_simp); (· first | rfl | go_simp)))
                  go_roundw
                  case rel =>
                    first | exact ⟨t + 1, by omega, by go_num, ((HU.out.alloc _).alloc _).alloc _⟩ | exact ⟨t + 1, by omega, by go_num, (HU.out.alloc _).alloc _⟩
                  case measure => simp [intOf]; omega
                · have ic2 : ¬ (t : Int) < (p : Int) + (h : Int) := by omega
                  have hwq : ((qa, qb, qc) : V3) = zero3 := by rw [HQ.out]; unfold want; rw [if_neg (by omega), if_neg (by omega)]
                  obtain ⟨rfl, rfl, rfl⟩ : qa = 0 ∧ qb = 0 ∧ qc = ⟨#[]⟩ := by cases hwq; exact ⟨rfl, rfl, rfl⟩
                  clear hwq HLV
                  go_wp2_with ((with_reducible refine wpl_ne (0, 0, ⟨#[]⟩) (0, 0, ⟨#[]⟩) ?_ ?_ ?_ false (by simp) ?_); (· first | rfl | go_simp); (· first | rfl | go_simp); (· first | rfl | go_simp))
                  go_roundw
                  case rel =>
                    exact ⟨t + 1, by omega, by go_num, (HU.out.alloc _).alloc _⟩
                  case measure => simp [intOf]; omega
            · have hte : g = t := by omega
              subst hte
              go_wp2_with fail
              go_ret
              exact ⟨rfl, Up.trans HW5.out HU.out⟩
end Go.Proofs.YtmmfpkkkpeapeaaGreatDoor.mb

/- FrameOf: the law. -/
set_option linter.unusedVariables false
set_option linter.unusedSimpArgs false
namespace Go.Proofs.YtmmfpkkkpeapeaaGreatDoor.mb
open Go.RowKit Go.Maps mem rec ar
attribute [local go_sem ↓] Go.wp_at_zero Go.wp_at_succ
set_option maxRecDepth 100000
set_option maxHeartbeats 1000000
theorem frameof_early (x y z : Int) (aa : Option Addr) (n cap : Nat) (w : World) (hL : Laid w) (h : 20 < n) :
    Calls Tryz.prog 5 #[.int .u8 x, .int .u8 y, .int .u8 z, .slice aa n cap] w fun e w' => e = .returned (.bool true) ∧ Up w w' := by
  have i0 : (20 : Int) < (n : Int) := by omega
  go_enter Tryz.func5, Tryz.ntmps5
  go_wp2_with (go_at_call 18; refine (awake16 _ hL).mono ?_; rintro e w0 ⟨rfl, hb0⟩)
  go_ret
  exact ⟨rfl, hb0⟩
theorem frameof_law (x y z : Int) (v : Value) (w : World) (hL : Laid w) (h : op.Handed 3 op.VAt v w) (hx : 0 ≤ x ∧ x ≤ 255) (hy : 0 ≤ y ∧ y ≤ 255) (hz : 0 ≤ z ∧ z ≤ 255) :
    Calls Tryz.prog 5 #[.int .u8 x, .int .u8 y, .int .u8 z, v] w fun e w' => e = .returned (.bool true) ∧ Below w.heap.size w w' := by
  obtain ⟨aa, n, cap, vv, rfl, g⟩ := h
  by_cases he : 20 < n
  · exact frameof_early x y z aa n cap w hL he
  exact frameof x y z aa n cap vv w hL hx hy hz (by omega) g
end Go.Proofs.YtmmfpkkkpeapeaaGreatDoor.mb

/- FrameOf: any closure, any arguments: its frame's registers. No condition but the row's own. -/
set_option linter.unusedVariables false
namespace Go.Proofs.YtmmfpkkkpeapeaaGreatDoor.frameOf
open Go Go.ChangeShapes Go.WideShapes Go.RowKit Go.Joins
set_option maxRecDepth 100000 in
theorem lifted (os : Os) (started : os.Started) (H : Type) (enc : TypeId × Value → H) :
    ReturnsInHanded {} Tryz.checked os 5 .any (fun w args => (Rows.frameOfSpec.pre enc Tryz.prog Tryz.f5 [] false w args ∧ laidMetH Tryz.prog laid0 w) ∧ sizedMet enc Tryz.prog Tryz.f5 (OpenSpec.ofChange Rows.frameOfSpec) false w args)
      (Rows.frameOfSpec.post enc Tryz.prog Tryz.f5 false true false false) := by
  refine Frm.handed (C := Tryz.checked) (X := fun w _ => laidMetH Tryz.prog laid0 w) (fun _ _ _ hh h => h.of_heap hh) own started (by kernel_rfl) Tryz.func5
    (ChangeSpec.witness_at (enc := enc) (C := Tryz.checked) (os := os) (X := fun w _ => laidMetH Tryz.prog laid0 w) false (laidWorld os) #[.int .u8 0, .int .u8 0, .int .u8 0, .slice none 0 0] 8 rfl (by kernel_rfl) (by kernel_rfl) (by kernel_rfl) (by kernel_rfl) (by kernel_rfl) (laidWorld_met os _)) ?_
  intro W base args ds gs before hval0 hW hwt hL hsh
  have hval : ∀ (j : Nat) t v, Tryz.f5.params[j]? = some t → args[j]? = some v → Value.okWide Tryz.prog W .any base t v := hval0
  have hW' := hW
  obtain ⟨p, q, hA0, hV, rfl, hfz, hnd⟩ := hW
  have hA : DataW.TrodAll enc Tryz.prog W 0 (fun _ => true) true Tryz.f5.params.toList args.toList ds p := hA0
  rw [Tryz.params5] at hA hval
  obtain ⟨v0, vs0, d0, ds0, p0, q0, hargs, rfl, rfl, h0, r0⟩ := trodAll_cons hA
  obtain ⟨v1, vs1, d1, ds1, p1, q1, rfl, rfl, rfl, h1, r1⟩ := trodAll_cons r0
  obtain ⟨v2, vs2, d2, ds2, p2, q2, rfl, rfl, rfl, h2, r2⟩ := trodAll_cons r1
  obtain ⟨v3, vs3, d3, ds3, p3, q3, rfl, rfl, rfl, h3, r3⟩ := trodAll_cons r2
  obtain ⟨rfl, rfl, rfl⟩ := trodAll_nil r3
  obtain rfl : args = #[v0, v1, v2, v3] := by cases args; simp_all
  obtain ⟨mx, rfl, _, _, wmx⟩ := open_int Tryz.underlying5 (hval 0 5 v0 rfl rfl) h0
  obtain ⟨my, rfl, _, _, wmy⟩ := open_int Tryz.underlying5 (hval 1 5 v1 rfl rfl) h1
  obtain ⟨mz, rfl, _, _, wmz⟩ := open_int Tryz.underlying5 (hval 2 5 v2 rfl rfl) h2
  have hs3 : op.Handed 3 op.VAt v3 W := by
    obtain ⟨a0, l0, c0, rfl⟩ := okWide_slice Tryz.underlying81 (hval 3 81 v3 rfl rfl)
    obtain ⟨fuel, hf⟩ := h3
    exact op.open_vs hf
  refine (mb.frameof_law mx my mz v3 W (laid_of hL hsh) hs3 (op.u8wf wmx) (op.u8wf wmy) (op.u8wf wmz)).mono fun e W' ⟨he, bel⟩ => ?_
  exact ⟨_, he, Frm.law_post laidOut (tb := 4) rfl Tryz.underlying4 rfl (by kernel_rfl) hW' rfl bel⟩
set_option maxHeartbeats 20000000 in
theorem facts : joinedFacts Tryz.prog 5 Tryz.f5 Rows.frameOfSpec Rows.frameOfRow = true := by
  unfold joinedFacts
  simp only [Bool.and_eq_true]
  repeat' apply And.intro
  all_goals (as_aux_lemma => kernel_rfl)
theorem over : Rows.frameOfRow.holds Tryz.pinned (OpenSpec.ofChange Rows.frameOfSpec) :=
  OpenClaim.holds_of_wide 5 Tryz.f5 rfl rfl rfl rfl rfl rfl rfl ⟨rfl, rfl, rfl, rfl, rfl⟩ rfl rfl rfl rfl rfl (by kernel_rfl) Tryz.func5 facts
    (of_decide_eq_true (by kernel_rfl)) (by unfold Func.isWrapper; first | (rw [if_pos (by decide +kernel)]; kernel_rfl) | (rw [if_neg (by decide +kernel)]; exact ⟨rfl, rfl⟩))
    (fun os started H enc _ => lifted os started H enc)
end Go.Proofs.YtmmfpkkkpeapeaaGreatDoor.frameOf

/- FrameOf: any closure, any arguments: its frame's registers. No condition but the row's own. -/
set_option linter.unusedVariables false
namespace Go.Proofs.YtmmfpkkkpeapeaaGreatDoor
open Go
theorem frameOf_holds : Rows.FrameOfCardSaid :=
  Claim7.holds_tied_plain_at .later [] [.data, .data, .data, .sentinel, .sentinel, .data, .data, .data, .mapped, .data, .widerDeep, .mapped] true (true, "035ad2b37f59c1469d9a4f6418b7b93314a537889945dc491104fa293dadf3c4") true
    frameOf.over (fun _ h => by cases h) (by as_aux_lemma => kernel_rfl) (fun _ h => by cases h) frameOf_row_tie rfl ⟨rfl, rfl⟩ (by as_aux_lemma => kernel_rfl) rfl
    (fun f fn hf hfn => by
      obtain rfl : f = 5 := (Option.some.inj ((show Tryz.prog.funcNamed "paling/palinglaw16.FrameOf" = some 5 by as_aux_lemma => kernel_rfl).symm.trans hf)).symm
      obtain rfl : fn = Tryz.f5 := (Option.some.inj (Tryz.func5.symm.trans hfn)).symm
      exact ⟨by as_aux_lemma => kernel_rfl, fun j t ht => by
        rw [Tryz.params5] at ht
        have hall : ∀ t ∈ [5, 5, 5, 81], Tryz.prog.wantsStandIn t = false := by
          intro t ht
          simp only [List.mem_cons, List.not_mem_nil, or_false] at ht
          rcases ht with rfl | rfl | rfl | rfl <;> (as_aux_lemma => kernel_rfl)
        exact hall t (by simpa using List.mem_of_getElem? (by simpa using ht : [5, 5, 5, 81][j]? = some t))⟩)
    (by as_aux_lemma => kernel_rfl)
#print axioms frameOf_holds
end Go.Proofs.YtmmfpkkkpeapeaaGreatDoor
