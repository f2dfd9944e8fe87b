/- WrapFull: where there is no room for a proxy: ErrFull; what needs none passes all the same. No condition but the row's own. (12 texts in one.) -/
import Derived.Below
import Derived.Carry
import Derived.ProofKit
import Derived.OpenShut
import Derived.ChangeOld
import Derived.SizedLaws
import Derived.Handed
import Derived.LaidHandle
import Derived.MakeChecks
import Derived.LaidLaws
import Derived.ChangeSame
import Derived.ChangeVars
import Derived.JoinedOf
import Derived.RowKit
import Derived.KernelRfl
import Derived.Lib.SmallJoins
import Derived.Test.YtojbphnkabfkpaaGreatDoorBase
import Derived.Test.YtojbphnkabfkpaaGreatDoorRec
import Derived.Lib.LaidU8
import Derived.Test.YtojbphnkabfkpaaGreatDoorMb
import Derived.Test.YtojbphnkabfkpaaGreatDoorBd
import Derived.Test.YtojbphnkabfkpaaGreatDoorSd
import Derived.Test.YtojbphnkabfkpaaGreatDoorSb
import Derived.Test.YtojbphnkabfkpaaGreatDoorAwake
import Derived.Test.YtojbphnkabfkpaaGreatDoorRows
import Derived.Test.YtojbphnkabfkpaaGreatDoorCards
import Derived.Test.YtojbphnkabfkpaaGreatDoorTie
import Derived.SevenTiedAt
import Derived.ChangeMaps5

/- A law's row out of its walk: where the call answers true and what was there stays as it was, the row's post holds: every argument reads as it did; the wrap that hands on the laid variables and the world's shape. No condition. -/
set_option linter.unusedVariables false
namespace Go.Proofs.YtojbphnkabfkpaaGreatDoor.Frm
open Go Go.ChangeShapes Go.WideShapes Go.RowKit Go.Joins
theorem trodAll_below {H : Type} {enc : TypeId × Value → H} {P : Program} (hl : laidOutB P = true) {W W' : World} (hb : Below W.heap.size W W') : ∀ (ts : List TypeId) (vs : List Value) (ds : List (DataW H)) (ps : List MemPlace),
    (ts.all fun t => P.readableRec t && decide (t < P.types.size)) = true → DataW.TrodAll enc P W 0 (fun _ => true) true ts vs ds ps → (∀ x ∈ ps, x.block < W.heap.size) →
    DataW.TrodAll enc P W' 0 (fun b => decide (b < W.heap.size)) true ts vs ds ps
  | [], vs, ds, ps, _, h, _ => by
    obtain ⟨rfl, rfl, rfl⟩ := trodAll_nil h
    exact trodAll_mk0
  | t :: ts, vs, ds, ps, ht, h, hlt => by
    obtain ⟨v0, vs0, d0, ds0, p0, q0, rfl, rfl, rfl, h0, r0⟩ := trodAll_cons h
    simp only [List.all_cons, Bool.and_eq_true, decide_eq_true_eq] at ht
    exact trodAll_cons_mk (Below.trod hl ht.1.1 ht.1.2 h0 hb (fun x hx => hlt x (List.mem_append_left _ hx))) (trodAll_below hl hb ts vs0 ds0 q0 ht.2 r0 (fun x hx => hlt x (List.mem_append_right _ hx)))

/-- The post of a law's row. -/
theorem law_post {H : Type} {enc : TypeId × Value → H} {P : Program} (hl : laidOutB P = true) {f : Func} {s : ChangeSpec} {apart fresh handsOn : Bool} {tb : TypeId} (hres : f.resultTypes = #[tb]) (hbool : P.underlying tb = some .bool)
    (hvars : s.vars = []) (hread : (f.params.toList.all fun t => P.readableRec t && decide (t < P.types.size)) = true) {W W' : World} {args : Array Value} {ds gs : List (DataW H)} {before : List MemPlace}
    (hW : DataW.Whole enc P f.params.toList s.vars apart W args.toList ds gs before) (hfn : s.fn H ds = { results := [.lit (.bool true)], args := ds }) (hb : Below W.heap.size W W') :
    s.post enc P f apart fresh handsOn false W args (.bool true) W' := by
  have hlt := hW.lt
  have hW0 := hW
  obtain ⟨p, q, hA, hV, rfl, hfz, hnd⟩ := hW0
  rw [hvars] at hV
  obtain ⟨rfl, rfl⟩ := trodVars_none hV
  refine ⟨ds, [], p ++ [], [], p, [], hW, ?_, ?_, ?_, hb.frame _, fun h => by cases h⟩
  · rw [List.append_nil, hfn, hres]
    exact trodAll_mk1 (shut_bool hbool _)
  · rw [List.append_nil, hfn]
    exact trodAll_below hl hb _ _ _ _ hread hA (fun x hx => hlt x (List.mem_append_left _ hx))
  · rw [List.append_nil, hfn, hvars]
    exact rfl
/-- The wrap: what the row lists, and the world's shape, are handed on. -/
theorem handed {H : Type} {enc : TypeId × Value → H} {a : Assume} {C : Checked} {os : Os} {f : FuncId} {fn : Func} {s : ChangeSpec} {conds : List PathCond} {apart fresh handsOn again : Bool} {X : World → Array Value → Prop}
    (hX : ∀ (w w' : World) (args : Array Value), w.heap = w'.heap → X w args → X w' args)
    (own : ownKnob C.prog.godebug = none) (started : os.Started) (noInit : C.prog.inits.idxOf? f = none) (hfn : C.prog.funcs[f]? = some fn)
    (witness : ∃ (w : World) (tape : Tape) (i : Input), w.os = os ∧ (w.forCall tape i).Shaped C.prog ∧ i.vars = [] ∧ Input.okWide C.prog (w.forCall tape i) .any w.heap.size f i ∧
      ((s.pre enc C.prog fn conds apart (w.forCall tape i).memory i.args ∧ X (w.forCall tape i).memory i.args) ∧ sizedMet enc C.prog fn (OpenSpec.ofChange s) apart (w.forCall tape i).memory i.args) ∧ a.holds C.prog (lone (Frame.enter C.prog f i.args .normal) [] (w.forCall tape i)))
    (contract : ∀ (W : World) (base : Nat) (args : Array Value) (ds gs : List (DataW H)) (before : List MemPlace),
      (∀ (j : Nat) t v, fn.params[j]? = some t → args[j]? = some v → Value.okWide C.prog W .any base t v) →
      DataW.Whole enc C.prog fn.params.toList s.vars apart W args.toList ds gs before →
      (DataW.weightsEach C.prog (fn.params.toList ++ s.plain.varTypes C.prog) (ds ++ gs)).all (· ≤ reachBytes) = true → X W args → W.ShapedOpen C.prog →
      Calls C.prog f args W fun e W' => ∃ v, e = .returned v ∧ s.post enc C.prog fn apart fresh handsOn again W args v W') :
    ReturnsInHanded a C os f .any (fun w args => (s.pre enc C.prog fn conds apart w args ∧ X w args) ∧ sizedMet enc C.prog fn (OpenSpec.ofChange s) apart w args) (s.post enc C.prog fn apart fresh handsOn again) := by
  refine returnsInHanded_of_calls own started noInit witness ?_
  intro w tape i _ hsh _ hok hpre hholds
  obtain ⟨_, _, _, fn', hfn', _, _, _, _, hval⟩ := hok
  have e : fn' = fn := Option.some.inj (hfn'.symm.trans hfn)
  subst e
  obtain ⟨⟨⟨ds, gs, before, hw, hc⟩, hx⟩, hz⟩ := hpre
  have hw' := DataW.Whole.of_heap (w' := w.forCall tape i) (by rfl) hw
  refine (contract (w.forCall tape i) w.heap.size i.args ds gs before hval hw' (hz.weights hw) (hX _ _ _ (by rfl) hx) hsh).mono fun e W' ⟨v, he, hp⟩ => ?_
  subst he
  exact ChangeSpec.post_blind hp
/-- A variable's block is there. -/
theorem big_of_shape {P : Program} {w : World} (h : w.ShapedOpen P) {g : Nat} (hg : g < P.globals.size) (h0 : (((begin P (fun _ _ => 0) default).world.heap[g]?).bind Obj.row?).isSome = true) : g + 1 ≤ w.heap.size := by
  obtain ⟨⟨zero, t⟩, h1⟩ := Option.isSome_iff_exists.1 h0
  obtain ⟨cs, hh, _⟩ := h.1 g zero t hg h1
  exact (Array.getElem?_eq_some_iff.1 hh).1
theorem u8wf {a : Int} (h : (Lit.int .u8 a).wf = true) : 0 ≤ a ∧ a ≤ 255 := by
  have h' : (decide (IntKind.u8.min ≤ a) && decide (a ≤ IntKind.u8.max)) = true := h
  simpa [IntKind.min, IntKind.max, IntKind.signed, IntKind.bits] using h'
theorem u16wf {a : Int} (h : (Lit.int .u16 a).wf = true) : 0 ≤ a ∧ a ≤ 65535 := by
  have h' : (decide (IntKind.u16.min ≤ a) && decide (a ≤ IntKind.u16.max)) = true := h
  simpa [IntKind.min, IntKind.max, IntKind.signed, IntKind.bits] using h'
theorem u32wf {a : Int} (h : (Lit.int .u32 a).wf = true) : 0 ≤ a ∧ a ≤ 4294967295 := by
  have h' : (decide (IntKind.u32.min ≤ a) && decide (a ≤ IntKind.u32.max)) = true := h
  simpa [IntKind.min, IntKind.max, IntKind.signed, IntKind.bits] using h'
theorem u64wf {a : Int} (h : (Lit.int .u64 a).wf = true) : 0 ≤ a ∧ a ≤ 18446744073709551615 := by
  have h' : (decide (IntKind.u64.min ≤ a) && decide (a ≤ IntKind.u64.max)) = true := h
  simpa [IntKind.min, IntKind.max, IntKind.signed, IntKind.bits] using h'
theorem i32wf {a : Int} (h : (Lit.int .i32 a).wf = true) : -2147483648 ≤ a ∧ a ≤ 2147483647 := by
  have h' : (decide (IntKind.i32.min ≤ a) && decide (a ≤ IntKind.i32.max)) = true := h
  simpa [IntKind.min, IntKind.max, IntKind.signed, IntKind.bits] using h'
theorem i16wf {a : Int} (h : (Lit.int .i16 a).wf = true) : -32768 ≤ a ∧ a ≤ 32767 := by
  have h' : (decide (IntKind.i16.min ≤ a) && decide (a ≤ IntKind.i16.max)) = true := h
  simpa [IntKind.min, IntKind.max, IntKind.signed, IntKind.bits] using h'
theorem i64wf {a : Int} (h : (Lit.int .i64 a).wf = true) : -9223372036854775808 ≤ a ∧ a ≤ 9223372036854775807 := by
  have h' : (decide (IntKind.i64.min ≤ a) && decide (a ≤ IntKind.i64.max)) = true := h
  simpa [IntKind.min, IntKind.max, IntKind.signed, IntKind.bits] using h'
end Go.Proofs.YtojbphnkabfkpaaGreatDoor.Frm

/- A world in which the laid variables read as they are laid: the witness of the rows. -/
set_option maxRecDepth 100000
set_option linter.unusedVariables false
namespace Go.Proofs.YtojbphnkabfkpaaGreatDoor
open Go Go.ChangeShapes Go.WideShapes Go.RowKit
def newBlocks (n : Nat) : Array Obj := #[.cells #[.string ⟨#[118, 97, 108, 117, 101, 32, 111, 117, 116, 32, 111, 102, 32, 114, 97, 110, 103, 101]⟩] 337,
  .cells #[.string ⟨#[105, 110, 118, 97, 108, 105, 100, 32, 115, 121, 110, 116, 97, 120]⟩] 337,
  .map #[{ key := .string ⟨#[33, 61]⟩, val := .int .i64 12, born := 0 }, { key := .string ⟨#[60]⟩, val := .int .i64 13, born := 1 }, { key := .string ⟨#[61, 61]⟩, val := .int .i64 11, born := 2 }] 3,
  .map #[{ key := .string ⟨#[43]⟩, val := .int .i64 8, born := 0 }, { key := .string ⟨#[45]⟩, val := .int .i64 9, born := 1 }] 2,
  .map #[{ key := .string ⟨#[42]⟩, val := .int .i64 10, born := 0 }] 1,
  .map #[{ key := .int .i64 6, val := .int .u8 7, born := 0 }, { key := .int .i64 7, val := .int .u8 8, born := 1 }, { key := .int .i64 8, val := .int .u8 9, born := 2 }, { key := .int .i64 9, val := .int .u8 10, born := 3 }, { key := .int .i64 10, val := .int .u8 11, born := 4 }, { key := .int .i64 11, val := .int .u8 12, born := 5 }, { key := .int .i64 12, val := .int .u8 13, born := 6 }, { key := .int .i64 13, val := .int .u8 14, born := 7 }, { key := .int .i64 14, val := .int .u8 3, born := 8 }] 9]
def setCells (h : Array Obj) (g : Nat) (cs : Array Value) : Array Obj := h.modify g fun
  | .cells _ t frozen => .cells cs t frozen
  | o => o
noncomputable def laidWorld (os : Os) : World :=
  let w0 := World.settled Tryz.prog os
  let n := w0.heap.size
  let h := w0.heap ++ newBlocks n
  let h := setCells h 9 #[.int .u8 0, .int .u8 1, .int .u8 28, .int .u8 2, .int .u8 29, .int .u8 14, .int .u8 24, .int .u8 3, .int .u8 30, .int .u8 22, .int .u8 20, .int .u8 15, .int .u8 25, .int .u8 17, .int .u8 4, .int .u8 8, .int .u8 31, .int .u8 27, .int .u8 13, .int .u8 23, .int .u8 21, .int .u8 19, .int .u8 16, .int .u8 7, .int .u8 26, .int .u8 12, .int .u8 18, .int .u8 6, .int .u8 11, .int .u8 5, .int .u8 10, .int .u8 9]
  let h := setCells h 10 #[.int .u8 0, .int .u8 1, .int .u8 56, .int .u8 2, .int .u8 57, .int .u8 49, .int .u8 28, .int .u8 3, .int .u8 61, .int .u8 58, .int .u8 42, .int .u8 50, .int .u8 38, .int .u8 29, .int .u8 17, .int .u8 4, .int .u8 62, .int .u8 47, .int .u8 59, .int .u8 36, .int .u8 45, .int .u8 43, .int .u8 51, .int .u8 22, .int .u8 53, .int .u8 39, .int .u8 33, .int .u8 30, .int .u8 24, .int .u8 18, .int .u8 12, .int .u8 5, .int .u8 63, .int .u8 55, .int .u8 48, .int .u8 27, .int .u8 60, .int .u8 41, .int .u8 37, .int .u8 16, .int .u8 46, .int .u8 35, .int .u8 44, .int .u8 21, .int .u8 52, .int .u8 32, .int .u8 23, .int .u8 11, .int .u8 54, .int .u8 26, .int .u8 40, .int .u8 15, .int .u8 34, .int .u8 20, .int .u8 31, .int .u8 10, .int .u8 25, .int .u8 14, .int .u8 19, .int .u8 9, .int .u8 13, .int .u8 8, .int .u8 7, .int .u8 6]
  let h := setCells h 6 #[.int .u64 1, .int .u64 10, .int .u64 100, .int .u64 1000, .int .u64 10000, .int .u64 100000, .int .u64 1000000, .int .u64 10000000, .int .u64 100000000, .int .u64 1000000000, .int .u64 10000000000, .int .u64 100000000000, .int .u64 1000000000000, .int .u64 10000000000000, .int .u64 100000000000000, .int .u64 1000000000000000, .int .u64 10000000000000000, .int .u64 100000000000000000, .int .u64 1000000000000000000, .int .u64 10000000000000000000]
  let h := setCells h 12 #[.iface 335 (.pointer (some ⟨n + 0, 0, none⟩))]
  let h := setCells h 11 #[.iface 335 (.pointer (some ⟨n + 1, 0, none⟩))]
  let h := setCells h 0 #[.string ⟨#[99, 111, 110, 115, 116]⟩, .string ⟨#[109, 111, 118, 101]⟩, .string ⟨#[110, 101, 119]⟩, .string ⟨#[103, 101, 116]⟩, .string ⟨#[112, 117, 116]⟩, .string ⟨#[99, 108, 111, 115, 101]⟩, .string ⟨#[99, 97, 108, 108]⟩, .string ⟨#[109, 105, 110, 117, 115]⟩, .string ⟨#[110, 111, 116]⟩, .string ⟨#[97, 100, 100]⟩, .string ⟨#[115, 117, 98]⟩, .string ⟨#[109, 117, 108]⟩, .string ⟨#[101, 113, 117, 97, 108]⟩, .string ⟨#[117, 110, 108, 105, 107, 101]⟩, .string ⟨#[108, 101, 115, 115]⟩, .string ⟨#[106, 117, 109, 112]⟩, .string ⟨#[98, 97, 99, 107]⟩, .string ⟨#[117, 110, 108, 101, 115, 115]⟩, .string ⟨#[114, 101, 116, 117, 114, 110]⟩, .string ⟨#[116, 104, 114, 111, 119]⟩, .string ⟨#[116, 114, 121]⟩, .string ⟨#[100, 111, 110, 101]⟩]
  let h := setCells h 5 #[.string ⟨#[]⟩, .string ⟨#[]⟩, .string ⟨#[]⟩, .string ⟨#[]⟩, .string ⟨#[]⟩, .string ⟨#[]⟩, .string ⟨#[45]⟩, .string ⟨#[33]⟩, .string ⟨#[43]⟩, .string ⟨#[45]⟩, .string ⟨#[42]⟩, .string ⟨#[61, 61]⟩, .string ⟨#[33, 61]⟩, .string ⟨#[60]⟩, .string ⟨#[]⟩, .string ⟨#[]⟩, .string ⟨#[]⟩, .string ⟨#[]⟩]
  let h := setCells h 3 #[.string ⟨#[108, 101, 116]⟩, .string ⟨#[105, 102]⟩, .string ⟨#[101, 108, 115, 101]⟩, .string ⟨#[119, 104, 105, 108, 101]⟩, .string ⟨#[114, 101, 116, 117, 114, 110]⟩, .string ⟨#[116, 104, 114, 111, 119]⟩, .string ⟨#[116, 114, 121]⟩, .string ⟨#[99, 97, 116, 99, 104]⟩, .string ⟨#[102, 110]⟩, .string ⟨#[110, 105, 108]⟩, .string ⟨#[116, 114, 117, 101]⟩, .string ⟨#[102, 97, 108, 115, 101]⟩]
  let h := setCells h 4 #[.map (some (n + 2)), .map (some (n + 3)), .map (some (n + 4))]
  let h := setCells h 2 #[.string ⟨#[114, 101, 116, 117, 114, 110]⟩, .int .i64 5, .string ⟨#[116, 104, 114, 111, 119]⟩, .int .i64 6]
  let h := setCells h 1 #[.string ⟨#[108, 101, 110]⟩, .string ⟨#[102, 114, 101, 101, 122, 101]⟩, .string ⟨#[102, 114, 111, 122, 101, 110]⟩, .string ⟨#[98, 114, 97, 110, 100]⟩, .string ⟨#[107, 105, 110, 100]⟩, .string ⟨#[116, 101, 120, 116]⟩]
  let h := setCells h 7 #[.map (some (n + 5))]
  { w0 with heap := h }
theorem own : ownKnob Tryz.prog.godebug = none := by kernel_rfl
theorem laidOut : laidOutB Tryz.prog = true := by kernel_rfl
theorem laid_plain : (laid0.all fun x => x.2.handleName?.isNone) = true := by kernel_rfl
theorem laid_met {w : World} (h : laidMetH Tryz.prog laid0 w) : laidMet Tryz.prog laid0 w := by
  rw [MakeChecks.laidMetH_plain _ _ _ laid_plain] at h
  exact h
theorem laidWorld_met (os : Os) (args : Array Value) : laidMetH Tryz.prog laid0 ((laidWorld os).forCall (fun _ _ => 0) ⟨#[], args, []⟩).memory := by
  rw [MakeChecks.laidMetH_plain _ _ _ laid_plain]
  exact laidMet_of_run' 8 (by kernel_rfl) (by kernel_rfl)
theorem big {w : World} (h : w.ShapedOpen Tryz.prog) : 13 ≤ w.heap.size := Frm.big_of_shape (g := 12) h (of_decide_eq_true (by kernel_rfl)) (by kernel_rfl)
theorem laid_of {w : World} (h : laidMetH Tryz.prog laid0 w) (hs : w.ShapedOpen Tryz.prog) : Laid w := laid_of_met (laid_met h) (big hs)
end Go.Proofs.YtojbphnkabfkpaaGreatDoor

/- What is handed in: slices, opened element by element. -/
set_option linter.unusedVariables false
namespace Go.Proofs.YtojbphnkabfkpaaGreatDoor.op
open Go.RowKit Go.Maps mem rec
set_option maxRecDepth 100000
set_option maxHeartbeats 2000000
/-- A slice of elements of c cells each, of which Q tells what they are. -/
def Handed {α : Type} (c : Nat) (Q : World → Nat → Nat → α → Prop) (v : Value) (w : World) : Prop :=
  ∃ (a : Option Addr) (n cap : Nat) (sp : Nat → α), v = .slice a n cap ∧ (n = 0 ∨ ∃ b off, a = some ⟨b, off, none⟩ ∧ b < w.heap.size ∧ ∀ i, i < n → Q w b (off + i * c) (sp i))
section
variable {H : Type} {enc : TypeId × Value → H} {w : World} {base : Nat} {spare : Nat → Bool} {held : Bool}
theorem open_slice {α : Type} (s0 : α) {t e : TypeId} {c : Nat} (ht : Tryz.prog.underlying t = some (.slice e)) (hc : Tryz.prog.cellsOf e = c) (hc0 : 0 < c) (Q : World → Nat → Nat → α → Prop)
    (one : ∀ (fuel : Nat) (L : List Value) (x : DataW H × List MemPlace), DataW.trod enc Tryz.prog w base spare held fuel e L = some x → ∃ s : α, ∀ b o, (∀ j, j < c → w.cell? ⟨b, o + j, none⟩ = L[j]?) → Q w b o s)
    {fuel : Nat} {v : Value} {x : DataW H × List MemPlace} (h : DataW.trod enc Tryz.prog w base spare held fuel t [v] = some x) : Handed c Q v w := by
  rcases DataW.trod_slice ht h with ⟨h0, _⟩ | ⟨a, len, cap, elems, rest, n, _, he, rfl, hb, hl, hm, hlen, hel, _, _⟩
  · exact ⟨none, 0, 0, fun _ => s0, by simpa using h0, .inl rfl⟩
  have hv : v = .slice (some a) len cap := by simpa using he
  by_cases hz : len = 0
  · exact ⟨some a, len, cap, fun _ => s0, hv, .inl hz⟩
  have each : ∀ i, ∃ s : α, i < len → (∀ b o, (∀ j, j < c → w.cell? ⟨b, o + j, none⟩ = w.cell? ((a.add (i * c)).add j)) → Q w b o s) ∧ ∃ u, w.cell? ((a.add (i * c)).add 0) = some u := by
    intro i
    by_cases hi : i < len
    · obtain ⟨y, hy⟩ : ∃ y, elems[i]? = some y := ⟨elems[i]'(by omega), List.getElem?_eq_getElem (by omega)⟩
      have h1 := hel i hi
      rw [hy, hc, Option.bind_eq_some_iff] at h1
      obtain ⟨cs', hcs, htr⟩ := h1
      obtain ⟨_, hl2, hcell⟩ := World.cells?_some hcs
      obtain ⟨s, hs⟩ := one _ _ _ htr
      refine ⟨s, fun _ => ⟨fun b o hbo => hs b o (fun j hj => (hbo j hj).trans (hcell j (by omega))), ?_⟩⟩
      rw [hcell 0 (by omega)]
      exact ⟨_, List.getElem?_eq_getElem (by omega)⟩
    · exact ⟨s0, fun hh => absurd hh hi⟩
  obtain ⟨sp, hs⟩ := Classical.skolem.1 each
  obtain ⟨b, off, spt⟩ := a
  obtain ⟨u, c0⟩ := (hs 0 (by omega)).2
  have hsp : spt = none := by
    have : (Addr.add (Addr.add ⟨b, off, spt⟩ (0 * c)) 0) = ⟨b, off, spt⟩ := by simp [Addr.add]
    rw [this] at c0
    exact cell_spot c0
  subst hsp
  have add1 : ∀ i j, ((⟨b, off, none⟩ : Addr).add (i * c)).add j = ⟨b, off + i * c + j, none⟩ := fun i j => by rw [Addr.add_mid, Addr.add_mid]
  have hbl : b < w.heap.size := by
    rw [add1] at c0
    exact World.block_lt_of_cell? w _ c0
  exact ⟨some ⟨b, off, none⟩, len, cap, sp, hv, .inr ⟨b, off, rfl, hbl, fun i hi => (hs i hi).1 b (off + i * c) (fun j hj => by rw [add1])⟩⟩
/-- A number of one byte. -/
def U8At (w : World) (b o : Nat) (x : Int) : Prop := w.cell? ⟨b, o, none⟩ = some (.int .u8 x) ∧ 0 ≤ x ∧ x ≤ 255
theorem u8wf {a : Int} (h : (Lit.int .u8 a).wf = true) : 0 ≤ a ∧ a ≤ 255 := by
  have h' : (decide (IntKind.u8.min ≤ a) && decide (a ≤ IntKind.u8.max)) = true := h
  simpa [IntKind.min, IntKind.max, IntKind.signed, IntKind.bits] using h'
theorem open_bytes {fuel : Nat} {v : Value} {x : DataW H × List MemPlace} (h : DataW.trod enc Tryz.prog w base spare held fuel 51 [v] = some x) : Handed 1 U8At v w := by
  refine open_slice (0 : Int) Tryz.underlying51 (by kernel_rfl) (by decide) U8At ?_ h
  intro fuel L x hx
  obtain ⟨k, e, _, hw⟩ := DataW.trod_int Tryz.underlying5 hx
  exact ⟨k, fun b o hj => ⟨by have := hj 0 (by decide); rw [e] at this; simpa using this, u8wf hw⟩⟩
/-- A value as it is handed in: kind, number, text. -/
def VAt (w : World) (b o : Nat) (x : V3) : Prop := (w.cell? ⟨b, o, none⟩ = some (.int .u8 x.1) ∧ w.cell? ⟨b, o + 1, none⟩ = some (.int .i64 x.2.1) ∧ w.cell? ⟨b, o + 2, none⟩ = some (.string x.2.2)) ∧ (0 ≤ x.1 ∧ x.1 ≤ 255) ∧ (Lit.int .i64 x.2.1).wf = true ∧ x.2.2.size ≤ maxLen
theorem open_v {fuel : Nat} {L : List Value} {x : DataW H × List MemPlace} (h : DataW.trod enc Tryz.prog w base spare held fuel 36 L = some x) :
    ∃ k n s, L[0]? = some (.int .u8 k) ∧ L[1]? = some (.int .i64 n) ∧ L[2]? = some (.string s) ∧ (Lit.int .u8 k).wf = true ∧ (Lit.int .i64 n).wf = true ∧ s.size ≤ maxLen := by
  have c5 : Tryz.prog.cellsOf 5 = 1 := by kernel_rfl
  have c2 : Tryz.prog.cellsOf 2 = 1 := by kernel_rfl
  have c9 : Tryz.prog.cellsOf 9 = 1 := by kernel_rfl
  obtain ⟨ys, m, _, _, _, hyl, hf⟩ := DataW.trod_struct Tryz.underlying36 h
  have f0 : DataW.trod enc Tryz.prog w base spare held m 5 ((L.drop 0).take 1) = ys[0]? := by rw [← c5]; exact hf 0 _ rfl
  have f1 : DataW.trod enc Tryz.prog w base spare held m 2 ((L.drop 1).take 1) = ys[1]? := by rw [← c2]; exact hf 1 _ rfl
  have f2 : DataW.trod enc Tryz.prog w base spare held m 9 ((L.drop 2).take 1) = ys[2]? := by rw [← c9]; exact hf 2 _ rfl
  have hyl' : ys.length = 3 := by simpa using hyl
  rw [List.getElem?_eq_getElem (by omega)] at f0 f1 f2
  obtain ⟨k0, e0, _, w0⟩ := DataW.trod_int Tryz.underlying5 f0
  obtain ⟨k1, e1, _, w1⟩ := DataW.trod_int Tryz.underlying2 f1
  obtain ⟨k2, e2, _, w2⟩ := DataW.trod_string Tryz.underlying9 f2
  have g0 : L[0]? = some (.int .u8 k0) := by have := congrArg (·[0]?) e0; simpa [List.getElem?_take, List.getElem?_drop] using this
  have g1 : L[1]? = some (.int .i64 k1) := by have := congrArg (·[0]?) e1; simpa [List.getElem?_take, List.getElem?_drop] using this
  have g2 : L[2]? = some (.string k2) := by have := congrArg (·[0]?) e2; simpa [List.getElem?_take, List.getElem?_drop] using this
  exact ⟨k0, k1, k2, g0, g1, g2, w0, w1, w2⟩
theorem open_vs {fuel : Nat} {v : Value} {x : DataW H × List MemPlace} (h : DataW.trod enc Tryz.prog w base spare held fuel 52 [v] = some x) : Handed 3 VAt v w := by
  refine open_slice zero3 Tryz.underlying52 (by kernel_rfl) (by decide) VAt ?_ h
  intro fuel L x hx
  obtain ⟨k, n, s, h0, h1, h2, w0, w1, w2⟩ := open_v hx
  exact ⟨(k, n, s), fun b o hj => ⟨⟨(hj 0 (by decide)).trans h0, (hj 1 (by decide)).trans h1, (hj 2 (by decide)).trans h2⟩, u8wf w0, w1, w2⟩⟩
end
end Go.Proofs.YtojbphnkabfkpaaGreatDoor.op

/- wrap.Other, wrap.Dead. -/
set_option linter.unusedVariables false
set_option linter.unusedSimpArgs false
namespace Go.Proofs.YtojbphnkabfkpaaGreatDoor.mb
open Go.RowKit Go.Maps mem rec ar
attribute [local go_sem ↓] Go.wp_at_zero Go.wp_at_succ
set_option maxRecDepth 100000
set_option maxHeartbeats 400000
theorem dead_x (w : World) (lv : Value) (L : List Mb) (m : Int) (h : ListAt w lv L) : Calls Tryz.prog 59 #[lv, .int .i64 m] w fun e w' => e = .returned (.bool (deadR L m)) ∧ w' = w := by
  obtain ⟨b, cap, rfl, hb, hc⟩ := h
  by_cases h0 : m < 0
  · have E : Hid (deadR L m = true) := by show deadR L m = true; unfold deadR mbAt; rw [if_neg (by omega)]
    clear hc
    go_enter Tryz.func59, Tryz.ntmps59
    go_wp2
    go_ret
    exact ⟨by rw [E.out]; rfl, rfl⟩
  obtain ⟨i, rfl⟩ : ∃ i : Nat, m = (i : Int) := ⟨m.toNat, by omega⟩
  clear h0
  by_cases h1 : i < L.length
  · obtain ⟨x, hx⟩ : ∃ x, L[i]? = some x := ⟨_, List.getElem?_eq_getElem h1⟩
    have E : Hid (deadR L i = x.2.2) := by show deadR L i = x.2.2; unfold deadR mbAt; rw [if_pos (by omega), Int.toNat_natCast, hx]
    have c2 := hc i x hx 2 _ rfl
    obtain ⟨x0, x1, x2⟩ := x
    simp only at c2 E
    have i0 : (0 : Int) ≤ (i : Int) := by omega
    have i1 : (i : Int) < (L.length : Int) := by omega
    have i2 : ¬ (L.length : Int) ≤ (i : Int) := by omega
    clear hc hx
    generalize L.length = len at *
    go_enter Tryz.func59, Tryz.ntmps59
    go_wp2
    go_ret
    have hd : decide ((i : Int) < 0) = false := by simp
    refine ⟨?_, rfl⟩
    rw [E.out]
    show Ending.returned (.bool (decide ((i : Int) < 0) || x2)) = _
    rw [hd]
    rfl
  · have E : Hid (deadR L i = true) := by show deadR L i = true; unfold deadR mbAt; rw [if_pos (by omega), Int.toNat_natCast, List.getElem?_eq_none (by omega)]
    have i0 : (0 : Int) ≤ (i : Int) := by omega
    have i2 : (L.length : Int) ≤ (i : Int) := by omega
    clear hc
    generalize L.length = len at *
    go_enter Tryz.func59, Tryz.ntmps59
    go_wp2
    go_ret
    exact ⟨by rw [E.out]; rfl, rfl⟩
theorem other_x (w : World) (lv : Value) (L : List Mb) (m owner : Int) (h : ListAt w lv L) : Calls Tryz.prog 36 #[lv, .int .i64 m, .int .i64 owner] w fun e w' => e = .returned (.tuple #[.int .i64 ((otherR L m owner).getD 0), .bool (otherR L m owner).isSome]) ∧ Up w w' := by
  obtain ⟨b, cap, rfl, hb, hc⟩ := h
  by_cases h0 : m < 0
  · have E : Hid (otherR L m owner = none) := by show otherR L m owner = none; unfold otherR mbAt; rw [if_neg (by omega)]
    clear hc
    go_enter Tryz.func36, Tryz.ntmps36
    go_wp2
    go_ret2
    exact ⟨by rw [E.out]; rfl, Up.refl _⟩
  obtain ⟨i, rfl⟩ : ∃ i : Nat, m = (i : Int) := ⟨m.toNat, by omega⟩
  clear h0
  by_cases h1 : i < L.length
  · obtain ⟨x, hx⟩ : ∃ x, L[i]? = some x := ⟨_, List.getElem?_eq_getElem h1⟩
    have c0 := hc i x hx 0 _ rfl
    have c1 := hc i x hx 1 _ rfl
    have E0 : otherR L i owner = if owner = x.1 then some x.2.1 else if owner = x.2.1 then some x.1 else none := by unfold otherR mbAt; rw [if_pos (by omega), Int.toNat_natCast, hx]
    obtain ⟨x0, x1, x2⟩ := x
    simp only [Nat.add_zero] at c0 c1 E0
    have i0 : (0 : Int) ≤ (i : Int) := by omega
    have i1 : (i : Int) < (L.length : Int) := by omega
    have i2 : ¬ (L.length : Int) ≤ (i : Int) := by omega
    clear hc hx
    by_cases h2 : owner = x0
    · have E := Lib.hid (E0.trans (if_pos h2))
      subst h2
      clear E0
      generalize L.length = len at *
      go_enter Tryz.func36, Tryz.ntmps36
      go_wp2
      go_ret2
      exact ⟨by rw [E.out]; rfl, (Up.refl _).alloc _⟩
    · by_cases h3 : owner = x1
      · have E := Lib.hid (E0.trans ((if_neg h2).trans (if_pos h3)))
        have b2 : (owner == x0) = false := by simpa using h2
        subst h3
        clear E0
        generalize L.length = len at *
        go_enter Tryz.func36, Tryz.ntmps36
        go_wp2
        go_ret2
        exact ⟨by rw [E.out]; rfl, (Up.refl _).alloc _⟩
      · have E := Lib.hid (E0.trans ((if_neg h2).trans (if_neg h3)))
        have b2 : (owner == x0) = false := by simpa using h2
        have b3 : (owner == x1) = false := by simpa using h3
        clear E0
        generalize L.length = len at *
        go_enter Tryz.func36, Tryz.ntmps36
        go_wp2
        go_ret2
        exact ⟨by rw [E.out]; rfl, (Up.refl _).alloc _⟩
  · have E : Hid (otherR L i owner = none) := by show otherR L i owner = none; unfold otherR mbAt; rw [if_pos (by omega), Int.toNat_natCast, List.getElem?_eq_none (by omega)]
    have i0 : (0 : Int) ≤ (i : Int) := by omega
    have i2 : (L.length : Int) ≤ (i : Int) := by omega
    clear hc
    generalize L.length = len at *
    go_enter Tryz.func36, Tryz.ntmps36
    go_wp2
    go_ret2
    exact ⟨by rw [E.out]; rfl, Up.refl _⟩
end Go.Proofs.YtojbphnkabfkpaaGreatDoor.mb

/- wrap.Pass, way by way (printed by pass_gen.py). -/
set_option linter.unusedVariables false
set_option linter.unusedSimpArgs false
namespace Go.Proofs.YtojbphnkabfkpaaGreatDoor.mb
open Go.RowKit Go.Maps mem rec ar
attribute [local go_sem ↓] Go.wp_at_zero Go.wp_at_succ
set_option maxRecDepth 100000
set_option maxHeartbeats 1000000
theorem pass_no (w : World) (lv : Value) (p cb : Nat) (m into : Int) (L : List Mb) (k n : Int) (s : ByteArray) (hl : ListAt w lv L) (hp : p < w.heap.size) (ho : otherR L m into = none) :
    Calls Tryz.prog 33 #[lv, .pointer (some ⟨p, 0, none⟩), .map (some cb), .int .i64 m, .int .i64 into, val (k, n, s)] w fun e w' => e = .returned (.tuple #[val zero3, .int .i64 4]) ∧ Up w w' := by
  have hU : Up w ((w.alloc (.cells #[.int .u8 k, .int .i64 n, .string s] 31)).alloc (.cells #[.int .u8 0, .int .i64 0, .string ⟨#[]⟩] 31)) := ((Up.refl w).alloc _).alloc _
  have B0 := Lib.hid ((has3_alloc w (.int .u8 k) (.int .i64 n) (.string s) 31).up ((Up.refl _).alloc (.cells #[.int .u8 0, .int .i64 0, .string ⟨#[]⟩] 31)))
  have B1 := Lib.hid (has3_alloc2 w (.cells #[.int .u8 k, .int .i64 n, .string s] 31) (.int .u8 0) (.int .i64 0) (.string ⟨#[]⟩) 31)
  have OX : Hid (∀ wx, Up w wx → Calls Tryz.prog 36 #[lv, .int .i64 m, .int .i64 into] wx fun e w' => e = .returned (.tuple #[.int .i64 0, .bool false]) ∧ Up wx w') := by
    intro wx hx
    refine (other_x wx lv L m into (hl.up hx)).mono ?_
    rintro e w' ⟨rfl, hu⟩
    exact ⟨by rw [ho]; rfl, hu⟩
  clear ho hl
  have HU := Lib.hid hU
  clear hU
  show Calls Tryz.prog 33 #[lv, .pointer (some ⟨p, 0, none⟩), .map (some cb), .int .i64 m, .int .i64 into, .agg #[.int .u8 k, .int .i64 n, .string s]] w _
  go_enter Tryz.func33, Tryz.ntmps33
  go_wp2_with (first
    | (go_at_call 36; refine (OX.out _ HU.out).mono ?_; rintro e w1 ⟨rfl, hU1⟩; obtain ⟨z1, ⟨f0, f1, f2⟩, ⟨g0, g1, g2⟩⟩ := B1.out.up hU1; obtain ⟨y1, ⟨e0, e1, e2⟩, -⟩ := B0.out.up hU1)
)
  have B3 := (Has3.store (B1.out.up hU1) (.int .u8 0) (.int .i64 0) (.string ⟨#[]⟩))
  obtain ⟨-, ⟨q1, q2, q3⟩, -⟩ := B3
  refine bodyPost_ret (v := .tuple #[.agg #[.int .u8 0, .int .i64 0, .string ⟨#[]⟩], .int .i64 4]) (by simp [results, Tryz.results33, go_sem, q1, q2, q3]) rfl ⟨rfl, ?_⟩
  exact (((HU.out.trans hU1).setCell (p := ⟨w.heap.size + 1, 0, none⟩) (Nat.le_succ _) _).setCell (p := ⟨w.heap.size + 1, 1, none⟩) (Nat.le_succ _) _).setCell (p := ⟨w.heap.size + 1, 2, none⟩) (Nat.le_succ _) _
theorem pass_dead (w : World) (lv : Value) (p cb : Nat) (m into : Int) (L : List Mb) (k n from_ : Int) (s : ByteArray) (hl : ListAt w lv L) (hp : p < w.heap.size) (ho : otherR L m into = some from_) (hd : deadR L m = true) :
    Calls Tryz.prog 33 #[lv, .pointer (some ⟨p, 0, none⟩), .map (some cb), .int .i64 m, .int .i64 into, val (k, n, s)] w fun e w' => e = .returned (.tuple #[val zero3, .int .i64 12]) ∧ Up w w' := by
  have hU : Up w ((w.alloc (.cells #[.int .u8 k, .int .i64 n, .string s] 31)).alloc (.cells #[.int .u8 0, .int .i64 0, .string ⟨#[]⟩] 31)) := ((Up.refl w).alloc _).alloc _
  have B0 := Lib.hid ((has3_alloc w (.int .u8 k) (.int .i64 n) (.string s) 31).up ((Up.refl _).alloc (.cells #[.int .u8 0, .int .i64 0, .string ⟨#[]⟩] 31)))
  have B1 := Lib.hid (has3_alloc2 w (.cells #[.int .u8 k, .int .i64 n, .string s] 31) (.int .u8 0) (.int .i64 0) (.string ⟨#[]⟩) 31)
  have OX : Hid (∀ wx, Up w wx → Calls Tryz.prog 36 #[lv, .int .i64 m, .int .i64 into] wx fun e w' => e = .returned (.tuple #[.int .i64 from_, .bool true]) ∧ Up wx w') := by
    intro wx hx
    refine (other_x wx lv L m into (hl.up hx)).mono ?_
    rintro e w' ⟨rfl, hu⟩
    exact ⟨by rw [ho]; rfl, hu⟩
  have DX : Hid (∀ wx, Up w wx → Calls Tryz.prog 59 #[lv, .int .i64 m] wx fun e w' => e = .returned (.bool true) ∧ w' = wx) := by
    intro wx hx
    refine (dead_x wx lv L m (hl.up hx)).mono ?_
    rintro e w' ⟨rfl, hu⟩
    exact ⟨by rw [hd], hu⟩
  clear ho hl hd
  have HU := Lib.hid hU
  clear hU
  show Calls Tryz.prog 33 #[lv, .pointer (some ⟨p, 0, none⟩), .map (some cb), .int .i64 m, .int .i64 into, .agg #[.int .u8 k, .int .i64 n, .string s]] w _
  go_enter Tryz.func33, Tryz.ntmps33
  go_wp2_with (first
    | (go_at_call 36; refine (OX.out _ HU.out).mono ?_; rintro e w1 ⟨rfl, hU1⟩; obtain ⟨z1, ⟨f0, f1, f2⟩, ⟨g0, g1, g2⟩⟩ := B1.out.up hU1; obtain ⟨y1, ⟨e0, e1, e2⟩, -⟩ := B0.out.up hU1)
    | (go_at_call 59; refine (DX.out _ (HU.out.trans hU1)).mono ?_; rintro e w2 ⟨rfl, rfl⟩)
)
  have B3 := (Has3.store (B1.out.up hU1) (.int .u8 0) (.int .i64 0) (.string ⟨#[]⟩))
  obtain ⟨-, ⟨q1, q2, q3⟩, -⟩ := B3
  refine bodyPost_ret (v := .tuple #[.agg #[.int .u8 0, .int .i64 0, .string ⟨#[]⟩], .int .i64 12]) (by simp [results, Tryz.results33, go_sem, q1, q2, q3]) rfl ⟨rfl, ?_⟩
  exact (((HU.out.trans hU1).setCell (p := ⟨w.heap.size + 1, 0, none⟩) (Nat.le_succ _) _).setCell (p := ⟨w.heap.size + 1, 1, none⟩) (Nat.le_succ _) _).setCell (p := ⟨w.heap.size + 1, 2, none⟩) (Nat.le_succ _) _
theorem pass_plain (w : World) (lv : Value) (p cb : Nat) (m into : Int) (L : List Mb) (k n from_ : Int) (s : ByteArray) (hl : ListAt w lv L) (hp : p < w.heap.size) (ho : otherR L m into = some from_) (hd : deadR L m = false) (hk : (k == 5) = false) :
    Calls Tryz.prog 33 #[lv, .pointer (some ⟨p, 0, none⟩), .map (some cb), .int .i64 m, .int .i64 into, val (k, n, s)] w fun e w' => e = .returned (.tuple #[val (k, n, s), .int .i64 0]) ∧ Up w w' := by
  have hU : Up w ((w.alloc (.cells #[.int .u8 k, .int .i64 n, .string s] 31)).alloc (.cells #[.int .u8 0, .int .i64 0, .string ⟨#[]⟩] 31)) := ((Up.refl w).alloc _).alloc _
  have B0 := Lib.hid ((has3_alloc w (.int .u8 k) (.int .i64 n) (.string s) 31).up ((Up.refl _).alloc (.cells #[.int .u8 0, .int .i64 0, .string ⟨#[]⟩] 31)))
  have B1 := Lib.hid (has3_alloc2 w (.cells #[.int .u8 k, .int .i64 n, .string s] 31) (.int .u8 0) (.int .i64 0) (.string ⟨#[]⟩) 31)
  have OX : Hid (∀ wx, Up w wx → Calls Tryz.prog 36 #[lv, .int .i64 m, .int .i64 into] wx fun e w' => e = .returned (.tuple #[.int .i64 from_, .bool true]) ∧ Up wx w') := by
    intro wx hx
    refine (other_x wx lv L m into (hl.up hx)).mono ?_
    rintro e w' ⟨rfl, hu⟩
    exact ⟨by rw [ho]; rfl, hu⟩
  have DX : Hid (∀ wx, Up w wx → Calls Tryz.prog 59 #[lv, .int .i64 m] wx fun e w' => e = .returned (.bool false) ∧ w' = wx) := by
    intro wx hx
    refine (dead_x wx lv L m (hl.up hx)).mono ?_
    rintro e w' ⟨rfl, hu⟩
    exact ⟨by rw [hd], hu⟩
  clear ho hl hd
  have HU := Lib.hid hU
  clear hU
  show Calls Tryz.prog 33 #[lv, .pointer (some ⟨p, 0, none⟩), .map (some cb), .int .i64 m, .int .i64 into, .agg #[.int .u8 k, .int .i64 n, .string s]] w _
  go_enter Tryz.func33, Tryz.ntmps33
  go_wp2_with (first
    | (go_at_call 36; refine (OX.out _ HU.out).mono ?_; rintro e w1 ⟨rfl, hU1⟩; obtain ⟨z1, ⟨f0, f1, f2⟩, ⟨g0, g1, g2⟩⟩ := B1.out.up hU1; obtain ⟨y1, ⟨e0, e1, e2⟩, -⟩ := B0.out.up hU1)
    | (go_at_call 59; refine (DX.out _ (HU.out.trans hU1)).mono ?_; rintro e w2 ⟨rfl, rfl⟩)
)
  have B3 := (Has3.store (B1.out.up hU1) (.int .u8 k) (.int .i64 n) (.string s))
  obtain ⟨-, ⟨q1, q2, q3⟩, -⟩ := B3
  refine bodyPost_ret (v := .tuple #[.agg #[.int .u8 k, .int .i64 n, .string s], .int .i64 0]) (by simp [results, Tryz.results33, go_sem, q1, q2, q3]) rfl ⟨rfl, ?_⟩
  exact (((HU.out.trans hU1).setCell (p := ⟨w.heap.size + 1, 0, none⟩) (Nat.le_succ _) _).setCell (p := ⟨w.heap.size + 1, 1, none⟩) (Nat.le_succ _) _).setCell (p := ⟨w.heap.size + 1, 2, none⟩) (Nat.le_succ _) _
theorem pass_gone (w : World) (lv : Value) (p cb : Nat) (m into : Int) (L : List Mb) (r : Nat) (from_ : Int) (v : Nat → Value) (A : Ar) (hr : r < 9223372036854775808) (h : Parts w p v A) (hl : ListAt w lv L) (hp : p < w.heap.size) (ho : otherR L m into = some from_) (hd : deadR L m = false) (hf : A.find r = none) :
    Calls Tryz.prog 33 #[lv, .pointer (some ⟨p, 0, none⟩), .map (some cb), .int .i64 m, .int .i64 into, val (5, (r : Int), ⟨#[]⟩)] w fun e w' => e = .returned (.tuple #[val zero3, .int .i64 17]) ∧ Up w w' := by
  have hU : Up w ((w.alloc (.cells #[.int .u8 5, .int .i64 r, .string ⟨#[]⟩] 31)).alloc (.cells #[.int .u8 0, .int .i64 0, .string ⟨#[]⟩] 31)) := ((Up.refl w).alloc _).alloc _
  have B0 := Lib.hid ((has3_alloc w (.int .u8 5) (.int .i64 r) (.string ⟨#[]⟩) 31).up ((Up.refl _).alloc (.cells #[.int .u8 0, .int .i64 0, .string ⟨#[]⟩] 31)))
  have B1 := Lib.hid (has3_alloc2 w (.cells #[.int .u8 5, .int .i64 r, .string ⟨#[]⟩] 31) (.int .u8 0) (.int .i64 0) (.string ⟨#[]⟩) 31)
  have OX : Hid (∀ wx, Up w wx → Calls Tryz.prog 36 #[lv, .int .i64 m, .int .i64 into] wx fun e w' => e = .returned (.tuple #[.int .i64 from_, .bool true]) ∧ Up wx w') := by
    intro wx hx
    refine (other_x wx lv L m into (hl.up hx)).mono ?_
    rintro e w' ⟨rfl, hu⟩
    exact ⟨by rw [ho]; rfl, hu⟩
  have DX : Hid (∀ wx, Up w wx → Calls Tryz.prog 59 #[lv, .int .i64 m] wx fun e w' => e = .returned (.bool false) ∧ w' = wx) := by
    intro wx hx
    refine (dead_x wx lv L m (hl.up hx)).mono ?_
    rintro e w' ⟨rfl, hu⟩
    exact ⟨by rw [hd], hu⟩
  have RX := Lib.hid (ref_x r hr ⟨#[]⟩)
  have GX : Hid (∀ wx, Up w wx → Calls Tryz.prog 27 #[.pointer (some ⟨p, 0, none⟩), .int .u64 r] wx fun e w' => e = .returned (.pointer none) ∧ Up wx w') := by
    intro wx hx
    exact get_no wx p r v A (h.up hx) (by omega) hf
  clear ho hl hd h hf
  have HU := Lib.hid hU
  clear hU
  show Calls Tryz.prog 33 #[lv, .pointer (some ⟨p, 0, none⟩), .map (some cb), .int .i64 m, .int .i64 into, .agg #[.int .u8 5, .int .i64 r, .string ⟨#[]⟩]] w _
  go_enter Tryz.func33, Tryz.ntmps33
  go_wp2_with (first
    | (go_at_call 36; refine (OX.out _ HU.out).mono ?_; rintro e w1 ⟨rfl, hU1⟩; obtain ⟨z1, ⟨f0, f1, f2⟩, ⟨g0, g1, g2⟩⟩ := B1.out.up hU1; obtain ⟨y1, ⟨e0, e1, e2⟩, -⟩ := B0.out.up hU1)
    | (go_at_call 59; refine (DX.out _ (HU.out.trans hU1)).mono ?_; rintro e w2 ⟨rfl, rfl⟩)
    | (go_at_call 29; refine (RX.out _).mono ?_; rintro e w3 ⟨rfl, rfl⟩)
    | (go_at_call 27; refine (GX.out _ ((HU.out.trans hU1).alloc _)).mono ?_; rintro e w5 ⟨rfl, hU5⟩; have hU9 := (hU1.alloc (.cells #[.int .u8 5, .int .i64 r, .string ⟨#[]⟩] 31)).trans hU5; obtain ⟨z9, ⟨p0, p1, p2⟩, ⟨r0, r1, r2⟩⟩ := B1.out.up hU9)
)
  have B3 := (Has3.store (B1.out.up hU9) (.int .u8 0) (.int .i64 0) (.string ⟨#[]⟩))
  obtain ⟨-, ⟨q1, q2, q3⟩, -⟩ := B3
  refine bodyPost_ret (v := .tuple #[.agg #[.int .u8 0, .int .i64 0, .string ⟨#[]⟩], .int .i64 17]) (by simp [results, Tryz.results33, go_sem, q1, q2, q3]) rfl ⟨rfl, ?_⟩
  exact (((HU.out.trans hU9).setCell (p := ⟨w.heap.size + 1, 0, none⟩) (Nat.le_succ _) _).setCell (p := ⟨w.heap.size + 1, 1, none⟩) (Nat.le_succ _) _).setCell (p := ⟨w.heap.size + 1, 2, none⟩) (Nat.le_succ _) _
theorem pass_else (w : World) (lv : Value) (p cb : Nat) (m into : Int) (L : List Mb) (r : Nat) (from_ : Int) (v : Nat → Value) (A : Ar) (hr : r < 9223372036854775808) (h : Parts w p v A) (hl : ListAt w lv L) (hp : p < w.heap.size) (ho : otherR L m into = some from_) (hd : deadR L m = false) (o : Ob) (hf : A.find r = some o) (hne : ¬ o.owner = from_) :
    Calls Tryz.prog 33 #[lv, .pointer (some ⟨p, 0, none⟩), .map (some cb), .int .i64 m, .int .i64 into, val (5, (r : Int), ⟨#[]⟩)] w fun e w' => e = .returned (.tuple #[val zero3, .int .i64 17]) ∧ Up w w' := by
  have hU : Up w ((w.alloc (.cells #[.int .u8 5, .int .i64 r, .string ⟨#[]⟩] 31)).alloc (.cells #[.int .u8 0, .int .i64 0, .string ⟨#[]⟩] 31)) := ((Up.refl w).alloc _).alloc _
  have B0 := Lib.hid ((has3_alloc w (.int .u8 5) (.int .i64 r) (.string ⟨#[]⟩) 31).up ((Up.refl _).alloc (.cells #[.int .u8 0, .int .i64 0, .string ⟨#[]⟩] 31)))
  have B1 := Lib.hid (has3_alloc2 w (.cells #[.int .u8 5, .int .i64 r, .string ⟨#[]⟩] 31) (.int .u8 0) (.int .i64 0) (.string ⟨#[]⟩) 31)
  have OX : Hid (∀ wx, Up w wx → Calls Tryz.prog 36 #[lv, .int .i64 m, .int .i64 into] wx fun e w' => e = .returned (.tuple #[.int .i64 from_, .bool true]) ∧ Up wx w') := by
    intro wx hx
    refine (other_x wx lv L m into (hl.up hx)).mono ?_
    rintro e w' ⟨rfl, hu⟩
    exact ⟨by rw [ho]; rfl, hu⟩
  have DX : Hid (∀ wx, Up w wx → Calls Tryz.prog 59 #[lv, .int .i64 m] wx fun e w' => e = .returned (.bool false) ∧ w' = wx) := by
    intro wx hx
    refine (dead_x wx lv L m (hl.up hx)).mono ?_
    rintro e w' ⟨rfl, hu⟩
    exact ⟨by rw [hd], hu⟩
  have RX := Lib.hid (ref_x r hr ⟨#[]⟩)
  obtain ⟨sl, hsl, -⟩ := find_slot hf
  obtain ⟨g, cap, -, hog, -⟩ := h.obAt hsl
  have OB := obAt_find hog h hf
  have o1 := OB 1 _ rfl
  have GX : Hid (∀ wx, Up w wx → Calls Tryz.prog 27 #[.pointer (some ⟨p, 0, none⟩), .int .u64 r] wx fun e w' => e = .returned (.pointer (some ⟨g, (r % 4294967296) * 16 + 2, none⟩)) ∧ Up wx w') :=
    fun wx hx => ar.get_at wx p r v A o g hog (h.up hx) (by omega) hf
  generalize (r % 4294967296) * 16 + 2 = off at *
  (try simp only [Nat.add_zero] at o0)
  have hb : (o.owner == from_) = false := by simpa using hne
  have hb2 : (o.owner != from_) = true := by simpa using hne
  have CO := Lib.hid o1
  clear ho hl hd h hf OB o1 hog hsl
  have HU := Lib.hid hU
  clear hU
  show Calls Tryz.prog 33 #[lv, .pointer (some ⟨p, 0, none⟩), .map (some cb), .int .i64 m, .int .i64 into, .agg #[.int .u8 5, .int .i64 r, .string ⟨#[]⟩]] w _
  go_enter Tryz.func33, Tryz.ntmps33
  go_wp2_with (first
    | (go_at_call 36; refine (OX.out _ HU.out).mono ?_; rintro e w1 ⟨rfl, hU1⟩; obtain ⟨z1, ⟨f0, f1, f2⟩, ⟨g0, g1, g2⟩⟩ := B1.out.up hU1; obtain ⟨y1, ⟨e0, e1, e2⟩, -⟩ := B0.out.up hU1)
    | (go_at_call 59; refine (DX.out _ (HU.out.trans hU1)).mono ?_; rintro e w2 ⟨rfl, rfl⟩)
    | (go_at_call 29; refine (RX.out _).mono ?_; rintro e w3 ⟨rfl, rfl⟩)
    | (go_at_call 27; refine (GX.out _ ((HU.out.trans hU1).alloc _)).mono ?_; rintro e w5 ⟨rfl, hU5⟩; have hU9 := (hU1.alloc (.cells #[.int .u8 5, .int .i64 r, .string ⟨#[]⟩] 31)).trans hU5; obtain ⟨z9, ⟨p0, p1, p2⟩, ⟨r0, r1, r2⟩⟩ := B1.out.up hU9; have a1 := up_cell (HU.out.trans hU9) CO.out)
)
  have B3 := (Has3.store (B1.out.up hU9) (.int .u8 0) (.int .i64 0) (.string ⟨#[]⟩))
  obtain ⟨-, ⟨q1, q2, q3⟩, -⟩ := B3
  refine bodyPost_ret (v := .tuple #[.agg #[.int .u8 0, .int .i64 0, .string ⟨#[]⟩], .int .i64 17]) (by simp [results, Tryz.results33, go_sem, q1, q2, q3]) rfl ⟨rfl, ?_⟩
  exact (((HU.out.trans hU9).setCell (p := ⟨w.heap.size + 1, 0, none⟩) (Nat.le_succ _) _).setCell (p := ⟨w.heap.size + 1, 1, none⟩) (Nat.le_succ _) _).setCell (p := ⟨w.heap.size + 1, 2, none⟩) (Nat.le_succ _) _
theorem pass_back (w : World) (lv : Value) (p cb : Nat) (m into : Int) (L : List Mb) (r : Nat) (from_ : Int) (v : Nat → Value) (A : Ar) (hr : r < 9223372036854775808) (h : Parts w p v A) (hl : ListAt w lv L) (hp : p < w.heap.size) (ho : otherR L m into = some from_) (hd : deadR L m = false) (o : Ob) (hf : A.find r = some o) (t : Nat) (ht : t < 9223372036854775808) (h1 : o.owner = from_) (h6 : o.kind = 6) (h9 : o.membrane = m) (h10 : o.target = (t : Int)) :
    Calls Tryz.prog 33 #[lv, .pointer (some ⟨p, 0, none⟩), .map (some cb), .int .i64 m, .int .i64 into, val (5, (r : Int), ⟨#[]⟩)] w fun e w' => e = .returned (.tuple #[val (5, (t : Int), ⟨#[]⟩), .int .i64 0]) ∧ Up w w' := by
  have hU : Up w ((w.alloc (.cells #[.int .u8 5, .int .i64 r, .string ⟨#[]⟩] 31)).alloc (.cells #[.int .u8 0, .int .i64 0, .string ⟨#[]⟩] 31)) := ((Up.refl w).alloc _).alloc _
  have B0 := Lib.hid ((has3_alloc w (.int .u8 5) (.int .i64 r) (.string ⟨#[]⟩) 31).up ((Up.refl _).alloc (.cells #[.int .u8 0, .int .i64 0, .string ⟨#[]⟩] 31)))
  have B1 := Lib.hid (has3_alloc2 w (.cells #[.int .u8 5, .int .i64 r, .string ⟨#[]⟩] 31) (.int .u8 0) (.int .i64 0) (.string ⟨#[]⟩) 31)
  have OX : Hid (∀ wx, Up w wx → Calls Tryz.prog 36 #[lv, .int .i64 m, .int .i64 into] wx fun e w' => e = .returned (.tuple #[.int .i64 from_, .bool true]) ∧ Up wx w') := by
    intro wx hx
    refine (other_x wx lv L m into (hl.up hx)).mono ?_
    rintro e w' ⟨rfl, hu⟩
    exact ⟨by rw [ho]; rfl, hu⟩
  have DX : Hid (∀ wx, Up w wx → Calls Tryz.prog 59 #[lv, .int .i64 m] wx fun e w' => e = .returned (.bool false) ∧ w' = wx) := by
    intro wx hx
    refine (dead_x wx lv L m (hl.up hx)).mono ?_
    rintro e w' ⟨rfl, hu⟩
    exact ⟨by rw [hd], hu⟩
  have RX := Lib.hid (ref_x r hr ⟨#[]⟩)
  have TX := Lib.hid (object_x t ht)
  simp only [val] at TX
  obtain ⟨sl, hsl, -⟩ := find_slot hf
  obtain ⟨g, cap, -, hog, -⟩ := h.obAt hsl
  have OB := obAt_find hog h hf
  have o0 := OB 0 _ rfl
  have o1 := OB 1 _ rfl
  have o11 := OB 11 _ rfl
  have o12 := OB 12 _ rfl
  have GX : Hid (∀ wx, Up w wx → Calls Tryz.prog 27 #[.pointer (some ⟨p, 0, none⟩), .int .u64 r] wx fun e w' => e = .returned (.pointer (some ⟨g, (r % 4294967296) * 16 + 2, none⟩)) ∧ Up wx w') :=
    fun wx hx => ar.get_at wx p r v A o g hog (h.up hx) (by omega) hf
  generalize (r % 4294967296) * 16 + 2 = off at *
  (try simp only [Nat.add_zero] at o0)
  rw [h6] at o0
  rw [h1] at o1
  rw [h9] at o11
  rw [h10] at o12
  have CO := Lib.hid (And.intro o0 (And.intro o1 (And.intro o11 o12)))
  clear ho hl hd h hf OB o0 o1 o11 o12 hog hsl h1 h6 h9 h10
  have HU := Lib.hid hU
  clear hU
  show Calls Tryz.prog 33 #[lv, .pointer (some ⟨p, 0, none⟩), .map (some cb), .int .i64 m, .int .i64 into, .agg #[.int .u8 5, .int .i64 r, .string ⟨#[]⟩]] w _
  go_enter Tryz.func33, Tryz.ntmps33
  go_wp2_with (first
    | (go_at_call 36; refine (OX.out _ HU.out).mono ?_; rintro e w1 ⟨rfl, hU1⟩; obtain ⟨z1, ⟨f0, f1, f2⟩, ⟨g0, g1, g2⟩⟩ := B1.out.up hU1; obtain ⟨y1, ⟨e0, e1, e2⟩, -⟩ := B0.out.up hU1)
    | (go_at_call 59; refine (DX.out _ (HU.out.trans hU1)).mono ?_; rintro e w2 ⟨rfl, rfl⟩)
    | (go_at_call 29; refine (RX.out _).mono ?_; rintro e w3 ⟨rfl, rfl⟩)
    | (go_at_call 27; refine (GX.out _ ((HU.out.trans hU1).alloc _)).mono ?_; rintro e w5 ⟨rfl, hU5⟩; have hU9 := (hU1.alloc (.cells #[.int .u8 5, .int .i64 r, .string ⟨#[]⟩] 31)).trans hU5; obtain ⟨z9, ⟨p0, p1, p2⟩, ⟨r0, r1, r2⟩⟩ := B1.out.up hU9; have a0 := up_cell (HU.out.trans hU9) CO.out.1; have a1 := up_cell (HU.out.trans hU9) CO.out.2.1; have a11 := up_cell (HU.out.trans hU9) CO.out.2.2.1; have a12 := up_cell (HU.out.trans hU9) CO.out.2.2.2)
    | (go_at_call 34; refine (TX.out _).mono ?_; rintro e w7 ⟨rfl, rfl⟩)
)
  have B3 := (Has3.store (B1.out.up hU9) (.int .u8 5) (.int .i64 t) (.string ⟨#[]⟩)).alloc (.cells #[.int .u8 5, .int .i64 t, .string ⟨#[]⟩] 31)
  obtain ⟨-, ⟨q1, q2, q3⟩, -⟩ := B3
  refine bodyPost_ret (v := .tuple #[.agg #[.int .u8 5, .int .i64 t, .string ⟨#[]⟩], .int .i64 0]) (by simp [results, Tryz.results33, go_sem, q1, q2, q3]) rfl ⟨rfl, ?_⟩
  exact ((((HU.out.trans hU9).setCell (p := ⟨w.heap.size + 1, 0, none⟩) (Nat.le_succ _) _).setCell (p := ⟨w.heap.size + 1, 1, none⟩) (Nat.le_succ _) _).setCell (p := ⟨w.heap.size + 1, 2, none⟩) (Nat.le_succ _) _).alloc _
theorem pass_hit (w : World) (lv : Value) (p cb : Nat) (m into : Int) (L : List Mb) (r : Nat) (from_ : Int) (v : Nat → Value) (A : Ar) (hr : r < 9223372036854775808) (h : Parts w p v A) (hl : ListAt w lv L) (hp : p < w.heap.size) (ho : otherR L m into = some from_) (hd : deadR L m = false) (o : Ob) (hf : A.find r = some o) (n : Nat) (D : DataW Nat) (C : Ca) (hown : w.ownsMap Tryz.prog 145 R1 cb n D) (hC : CacheIs D C) (hm : (Lit.int .i64 m).wf = true) (h1 : o.owner = from_) (hb6 : ¬ (o.kind = 6 ∧ o.membrane = m)) (q : Nat) (hq : q < 9223372036854775808) (hc : C m r = some q) (h13 : True) :
    Calls Tryz.prog 33 #[lv, .pointer (some ⟨p, 0, none⟩), .map (some cb), .int .i64 m, .int .i64 into, val (5, (r : Int), ⟨#[]⟩)] w fun e w' => e = .returned (.tuple #[val (5, (q : Int), ⟨#[]⟩), .int .i64 0]) ∧ Up w w' := by
  have hU : Up w ((w.alloc (.cells #[.int .u8 5, .int .i64 r, .string ⟨#[]⟩] 31)).alloc (.cells #[.int .u8 0, .int .i64 0, .string ⟨#[]⟩] 31)) := ((Up.refl w).alloc _).alloc _
  have B0 := Lib.hid ((has3_alloc w (.int .u8 5) (.int .i64 r) (.string ⟨#[]⟩) 31).up ((Up.refl _).alloc (.cells #[.int .u8 0, .int .i64 0, .string ⟨#[]⟩] 31)))
  have B1 := Lib.hid (has3_alloc2 w (.cells #[.int .u8 5, .int .i64 r, .string ⟨#[]⟩] 31) (.int .u8 0) (.int .i64 0) (.string ⟨#[]⟩) 31)
  have OX : Hid (∀ wx, Up w wx → Calls Tryz.prog 36 #[lv, .int .i64 m, .int .i64 into] wx fun e w' => e = .returned (.tuple #[.int .i64 from_, .bool true]) ∧ Up wx w') := by
    intro wx hx
    refine (other_x wx lv L m into (hl.up hx)).mono ?_
    rintro e w' ⟨rfl, hu⟩
    exact ⟨by rw [ho]; rfl, hu⟩
  have DX : Hid (∀ wx, Up w wx → Calls Tryz.prog 59 #[lv, .int .i64 m] wx fun e w' => e = .returned (.bool false) ∧ w' = wx) := by
    intro wx hx
    refine (dead_x wx lv L m (hl.up hx)).mono ?_
    rintro e w' ⟨rfl, hu⟩
    exact ⟨by rw [hd], hu⟩
  have RX := Lib.hid (ref_x r hr ⟨#[]⟩)
  have TX := Lib.hid (object_x q hq)
  simp only [val] at TX
  obtain ⟨sl, hsl, -⟩ := find_slot hf
  obtain ⟨g, cap, -, hog, -⟩ := h.obAt hsl
  have OB := obAt_find hog h hf
  have o0 := OB 0 _ rfl
  have o1 := OB 1 _ rfl
  have o11 := OB 11 _ rfl
  have o13 := OB 13 _ rfl
  have GX : Hid (∀ wx, Up w wx → Calls Tryz.prog 27 #[.pointer (some ⟨p, 0, none⟩), .int .u64 r] wx fun e w' => e = .returned (.pointer (some ⟨g, (r % 4294967296) * 16 + 2, none⟩)) ∧ Up wx w') :=
    fun wx hx => ar.get_at wx p r v A o g hog (h.up hx) (by omega) hf
  generalize (r % 4294967296) * 16 + 2 = off at *
  (try simp only [Nat.add_zero] at o0)
  obtain ⟨lk, hlk⟩ := key_ent m r hm (by omega)
  obtain ⟨hat1, hat2⟩ := hC.at_ m r lk hlk
  have LX : Hid (∀ wx, Up w wx → (Instr.lookup 66 (.map (some cb)) (.agg #[.int .i64 m, .int .u64 r]) true).run Tryz.prog wx = .ok (.tuple #[.int .u64 (q : Nat), .bool true]) wx) := by
    intro wx hx
    have h1 := look_ent wx cb n D (owns_up hown hx) hlk
    rw [hat1, hat2, hc] at h1
    exact h1
  have kk : (o.kind == 6) = false ∨ ((o.kind == 6) = true ∧ (o.membrane == m) = false) := by
    by_cases h6 : o.kind = 6
    · exact .inr ⟨by simpa using h6, by simpa using fun h9 => hb6 ⟨h6, h9⟩⟩
    · exact .inl (by simpa using h6)
  obtain ⟨kind, owner, frozen, fields, module, func, ha, hn', hcc, brand, content, membrane, target, deep⟩ := o
  simp only at o0 o1 o11 o13 h1 kk h13
  subst h1
  have CO := Lib.hid (And.intro o0 (And.intro o1 (And.intro o11 o13)))
  clear ho hl hd h hf OB o0 o1 o11 o13 hog hsl hown hC hlk hat1 hat2 hb6
  rcases kk with k6 | ⟨k6, k9⟩
  all_goals
    have HU := Lib.hid hU
    clear hU
    show Calls Tryz.prog 33 #[lv, .pointer (some ⟨p, 0, none⟩), .map (some cb), .int .i64 m, .int .i64 into, .agg #[.int .u8 5, .int .i64 r, .string ⟨#[]⟩]] w _
    go_enter Tryz.func33, Tryz.ntmps33
    go_wp2_with (first
      | (go_at_call 36; refine (OX.out _ HU.out).mono ?_; rintro e w1 ⟨rfl, hU1⟩; obtain ⟨z1, ⟨f0, f1, f2⟩, ⟨g0, g1, g2⟩⟩ := B1.out.up hU1; obtain ⟨y1, ⟨e0, e1, e2⟩, -⟩ := B0.out.up hU1)
      | (go_at_call 59; refine (DX.out _ (HU.out.trans hU1)).mono ?_; rintro e w2 ⟨rfl, rfl⟩)
      | (go_at_call 29; refine (RX.out _).mono ?_; rintro e w3 ⟨rfl, rfl⟩)
      | (go_at_call 27; refine (GX.out _ ((HU.out.trans hU1).alloc _)).mono ?_; rintro e w5 ⟨rfl, hU5⟩; have hU9 := (hU1.alloc (.cells #[.int .u8 5, .int .i64 r, .string ⟨#[]⟩] 31)).trans hU5; obtain ⟨z9, ⟨p0, p1, p2⟩, ⟨r0, r1, r2⟩⟩ := B1.out.up hU9; have a0 := up_cell (HU.out.trans hU9) CO.out.1; have a1 := up_cell (HU.out.trans hU9) CO.out.2.1; have a11 := up_cell (HU.out.trans hU9) CO.out.2.2.1; have a13 := up_cell (HU.out.trans hU9) CO.out.2.2.2; have lk1 := LX.out _ ((HU.out.trans hU9).alloc (.cells #[.int .i64 m, .int .u64 r] 145)); have z10 : w.heap.size + 1 < w5.heap.size + 1 := Nat.lt_succ_of_lt z9; have z11 : w.heap.size + 1 < w5.heap.size + 1 + 1 := Nat.lt_succ_of_lt z10; have z12 := World.block_lt_of_cell? w5 _ a0; simp only at z12)
      | (go_at_call 34; refine (TX.out _).mono ?_; rintro e w7 ⟨rfl, rfl⟩)
  )
    have B3 := ((Has3.store (B1.out.up hU9) (.int .u8 5) (.int .i64 q) (.string ⟨#[]⟩)).alloc (.cells #[.int .i64 m, .int .u64 r] 145)).alloc (.cells #[.int .u8 5, .int .i64 q, .string ⟨#[]⟩] 31)
    obtain ⟨-, ⟨q1, q2, q3⟩, -⟩ := B3
    refine bodyPost_ret (v := .tuple #[.agg #[.int .u8 5, .int .i64 q, .string ⟨#[]⟩], .int .i64 0]) (by simp [results, Tryz.results33, go_sem, q1, q2, q3]) rfl ⟨rfl, ?_⟩
    exact (((((HU.out.trans hU9).setCell (p := ⟨w.heap.size + 1, 0, none⟩) (Nat.le_succ _) _).setCell (p := ⟨w.heap.size + 1, 1, none⟩) (Nat.le_succ _) _).setCell (p := ⟨w.heap.size + 1, 2, none⟩) (Nat.le_succ _) _).alloc _).alloc _
theorem pass_chain (w : World) (lv : Value) (p cb : Nat) (m into : Int) (L : List Mb) (r : Nat) (from_ : Int) (v : Nat → Value) (A : Ar) (hr : r < 9223372036854775808) (h : Parts w p v A) (hl : ListAt w lv L) (hp : p < w.heap.size) (ho : otherR L m into = some from_) (hd : deadR L m = false) (o : Ob) (hf : A.find r = some o) (n : Nat) (D : DataW Nat) (C : Ca) (hown : w.ownsMap Tryz.prog 145 R1 cb n D) (hC : CacheIs D C) (hm : (Lit.int .i64 m).wf = true) (h1 : o.owner = from_) (hb6 : ¬ (o.kind = 6 ∧ o.membrane = m)) (hc : C m r = none) (h13 : 6 ≤ o.deep) :
    Calls Tryz.prog 33 #[lv, .pointer (some ⟨p, 0, none⟩), .map (some cb), .int .i64 m, .int .i64 into, val (5, (r : Int), ⟨#[]⟩)] w fun e w' => e = .returned (.tuple #[val zero3, .int .i64 14]) ∧ Up w w' := by
  have hU : Up w ((w.alloc (.cells #[.int .u8 5, .int .i64 r, .string ⟨#[]⟩] 31)).alloc (.cells #[.int .u8 0, .int .i64 0, .string ⟨#[]⟩] 31)) := ((Up.refl w).alloc _).alloc _
  have B0 := Lib.hid ((has3_alloc w (.int .u8 5) (.int .i64 r) (.string ⟨#[]⟩) 31).up ((Up.refl _).alloc (.cells #[.int .u8 0, .int .i64 0, .string ⟨#[]⟩] 31)))
  have B1 := Lib.hid (has3_alloc2 w (.cells #[.int .u8 5, .int .i64 r, .string ⟨#[]⟩] 31) (.int .u8 0) (.int .i64 0) (.string ⟨#[]⟩) 31)
  have OX : Hid (∀ wx, Up w wx → Calls Tryz.prog 36 #[lv, .int .i64 m, .int .i64 into] wx fun e w' => e = .returned (.tuple #[.int .i64 from_, .bool true]) ∧ Up wx w') := by
    intro wx hx
    refine (other_x wx lv L m into (hl.up hx)).mono ?_
    rintro e w' ⟨rfl, hu⟩
    exact ⟨by rw [ho]; rfl, hu⟩
  have DX : Hid (∀ wx, Up w wx → Calls Tryz.prog 59 #[lv, .int .i64 m] wx fun e w' => e = .returned (.bool false) ∧ w' = wx) := by
    intro wx hx
    refine (dead_x wx lv L m (hl.up hx)).mono ?_
    rintro e w' ⟨rfl, hu⟩
    exact ⟨by rw [hd], hu⟩
  have RX := Lib.hid (ref_x r hr ⟨#[]⟩)
  obtain ⟨sl, hsl, -⟩ := find_slot hf
  obtain ⟨g, cap, -, hog, -⟩ := h.obAt hsl
  have OB := obAt_find hog h hf
  have o0 := OB 0 _ rfl
  have o1 := OB 1 _ rfl
  have o11 := OB 11 _ rfl
  have o13 := OB 13 _ rfl
  have GX : Hid (∀ wx, Up w wx → Calls Tryz.prog 27 #[.pointer (some ⟨p, 0, none⟩), .int .u64 r] wx fun e w' => e = .returned (.pointer (some ⟨g, (r % 4294967296) * 16 + 2, none⟩)) ∧ Up wx w') :=
    fun wx hx => ar.get_at wx p r v A o g hog (h.up hx) (by omega) hf
  generalize (r % 4294967296) * 16 + 2 = off at *
  (try simp only [Nat.add_zero] at o0)
  obtain ⟨lk, hlk⟩ := key_ent m r hm (by omega)
  obtain ⟨hat1, hat2⟩ := hC.at_ m r lk hlk
  have LX : Hid (∀ wx, Up w wx → (Instr.lookup 66 (.map (some cb)) (.agg #[.int .i64 m, .int .u64 r]) true).run Tryz.prog wx = .ok (.tuple #[.int .u64 0, .bool false]) wx) := by
    intro wx hx
    have h1 := look_ent wx cb n D (owns_up hown hx) hlk
    rw [hat1, hat2, hc] at h1
    exact h1
  have kk : (o.kind == 6) = false ∨ ((o.kind == 6) = true ∧ (o.membrane == m) = false) := by
    by_cases h6 : o.kind = 6
    · exact .inr ⟨by simpa using h6, by simpa using fun h9 => hb6 ⟨h6, h9⟩⟩
    · exact .inl (by simpa using h6)
  obtain ⟨kind, owner, frozen, fields, module, func, ha, hn', hcc, brand, content, membrane, target, deep⟩ := o
  simp only at o0 o1 o11 o13 h1 kk h13
  subst h1
  have CO := Lib.hid (And.intro o0 (And.intro o1 (And.intro o11 o13)))
  clear ho hl hd h hf OB o0 o1 o11 o13 hog hsl hown hC hlk hat1 hat2 hb6
  rcases kk with k6 | ⟨k6, k9⟩
  all_goals
    have HU := Lib.hid hU
    clear hU
    show Calls Tryz.prog 33 #[lv, .pointer (some ⟨p, 0, none⟩), .map (some cb), .int .i64 m, .int .i64 into, .agg #[.int .u8 5, .int .i64 r, .string ⟨#[]⟩]] w _
    go_enter Tryz.func33, Tryz.ntmps33
    go_wp2_with (first
      | (go_at_call 36; refine (OX.out _ HU.out).mono ?_; rintro e w1 ⟨rfl, hU1⟩; obtain ⟨z1, ⟨f0, f1, f2⟩, ⟨g0, g1, g2⟩⟩ := B1.out.up hU1; obtain ⟨y1, ⟨e0, e1, e2⟩, -⟩ := B0.out.up hU1)
      | (go_at_call 59; refine (DX.out _ (HU.out.trans hU1)).mono ?_; rintro e w2 ⟨rfl, rfl⟩)
      | (go_at_call 29; refine (RX.out _).mono ?_; rintro e w3 ⟨rfl, rfl⟩)
      | (go_at_call 27; refine (GX.out _ ((HU.out.trans hU1).alloc _)).mono ?_; rintro e w5 ⟨rfl, hU5⟩; have hU9 := (hU1.alloc (.cells #[.int .u8 5, .int .i64 r, .string ⟨#[]⟩] 31)).trans hU5; obtain ⟨z9, ⟨p0, p1, p2⟩, ⟨r0, r1, r2⟩⟩ := B1.out.up hU9; have a0 := up_cell (HU.out.trans hU9) CO.out.1; have a1 := up_cell (HU.out.trans hU9) CO.out.2.1; have a11 := up_cell (HU.out.trans hU9) CO.out.2.2.1; have a13 := up_cell (HU.out.trans hU9) CO.out.2.2.2; have lk1 := LX.out _ ((HU.out.trans hU9).alloc (.cells #[.int .i64 m, .int .u64 r] 145)); have z10 : w.heap.size + 1 < w5.heap.size + 1 := Nat.lt_succ_of_lt z9; have z11 : w.heap.size + 1 < w5.heap.size + 1 + 1 := Nat.lt_succ_of_lt z10; have z12 := World.block_lt_of_cell? w5 _ a0; simp only at z12)
  )
    have B3 := ((Has3.store (B1.out.up hU9) (.int .u8 0) (.int .i64 0) (.string ⟨#[]⟩)).alloc (.cells #[.int .i64 m, .int .u64 r] 145))
    obtain ⟨-, ⟨q1, q2, q3⟩, -⟩ := B3
    refine bodyPost_ret (v := .tuple #[.agg #[.int .u8 0, .int .i64 0, .string ⟨#[]⟩], .int .i64 14]) (by simp [results, Tryz.results33, go_sem, q1, q2, q3]) rfl ⟨rfl, ?_⟩
    exact ((((HU.out.trans hU9).setCell (p := ⟨w.heap.size + 1, 0, none⟩) (Nat.le_succ _) _).setCell (p := ⟨w.heap.size + 1, 1, none⟩) (Nat.le_succ _) _).setCell (p := ⟨w.heap.size + 1, 2, none⟩) (Nat.le_succ _) _).alloc _
theorem pass_full (w : World) (lv : Value) (p cb : Nat) (m into : Int) (L : List Mb) (r : Nat) (from_ qq mm : Int) (nn : Nat) (v : Nat → Value) (A : Ar) (hr : r < 9223372036854775808) (h : Parts w p v A) (hl : ListAt w lv L) (hp : p < w.heap.size) (ho : otherR L m into = some from_) (hd : deadR L m = false) (o : Ob) (hf : A.find r = some o) (n : Nat) (D : DataW Nat) (C : Ca) (hown : w.ownsMap Tryz.prog 145 R1 cb n D) (hC : CacheIs D C) (hm : (Lit.int .i64 m).wf = true) (h1 : o.owner = from_) (hb6 : ¬ (o.kind = 6 ∧ o.membrane = m)) (hc : C m r = none) (h13 : 0 ≤ o.deep ∧ o.deep < 6) (hin : into = (nn : Int)) (hq : A.quotas[nn]? = some qq) (hm2 : A.many[nn]? = some mm) (hle : qq ≤ mm) :
    Calls Tryz.prog 33 #[lv, .pointer (some ⟨p, 0, none⟩), .map (some cb), .int .i64 m, .int .i64 into, val (5, (r : Int), ⟨#[]⟩)] w fun e w' => e = .returned (.tuple #[val zero3, .int .i64 8]) ∧ Up w w' := by
  have hU : Up w ((w.alloc (.cells #[.int .u8 5, .int .i64 r, .string ⟨#[]⟩] 31)).alloc (.cells #[.int .u8 0, .int .i64 0, .string ⟨#[]⟩] 31)) := ((Up.refl w).alloc _).alloc _
  have B0 := Lib.hid ((has3_alloc w (.int .u8 5) (.int .i64 r) (.string ⟨#[]⟩) 31).up ((Up.refl _).alloc (.cells #[.int .u8 0, .int .i64 0, .string ⟨#[]⟩] 31)))
  have B1 := Lib.hid (has3_alloc2 w (.cells #[.int .u8 5, .int .i64 r, .string ⟨#[]⟩] 31) (.int .u8 0) (.int .i64 0) (.string ⟨#[]⟩) 31)
  have OX : Hid (∀ wx, Up w wx → Calls Tryz.prog 36 #[lv, .int .i64 m, .int .i64 into] wx fun e w' => e = .returned (.tuple #[.int .i64 from_, .bool true]) ∧ Up wx w') := by
    intro wx hx
    refine (other_x wx lv L m into (hl.up hx)).mono ?_
    rintro e w' ⟨rfl, hu⟩
    exact ⟨by rw [ho]; rfl, hu⟩
  have DX : Hid (∀ wx, Up w wx → Calls Tryz.prog 59 #[lv, .int .i64 m] wx fun e w' => e = .returned (.bool false) ∧ w' = wx) := by
    intro wx hx
    refine (dead_x wx lv L m (hl.up hx)).mono ?_
    rintro e w' ⟨rfl, hu⟩
    exact ⟨by rw [hd], hu⟩
  have RX := Lib.hid (ref_x r hr ⟨#[]⟩)
  have PX : Hid (∀ wx, Up w wx → Calls Tryz.prog 32 #[.pointer (some ⟨p, 0, none⟩), .agg (proxyOb into m r (o.deep + 1)).cells.toArray] wx fun e w' => e = .returned (.tuple #[.int .u64 0, .int .i64 8]) ∧ Up wx w') :=
    fun wx hx => ar.put_full wx p v A _ (h.up hx) nn qq mm hin hq hm2 hle
  simp only [proxyOb, Ob.cells, zero3] at PX
  obtain ⟨sl, hsl, -⟩ := find_slot hf
  obtain ⟨g, cap, -, hog, -⟩ := h.obAt hsl
  have OB := obAt_find hog h hf
  have o0 := OB 0 _ rfl
  have o1 := OB 1 _ rfl
  have o11 := OB 11 _ rfl
  have o13 := OB 13 _ rfl
  have GX : Hid (∀ wx, Up w wx → Calls Tryz.prog 27 #[.pointer (some ⟨p, 0, none⟩), .int .u64 r] wx fun e w' => e = .returned (.pointer (some ⟨g, (r % 4294967296) * 16 + 2, none⟩)) ∧ Up wx w') :=
    fun wx hx => ar.get_at wx p r v A o g hog (h.up hx) (by omega) hf
  generalize (r % 4294967296) * 16 + 2 = off at *
  (try simp only [Nat.add_zero] at o0)
  obtain ⟨lk, hlk⟩ := key_ent m r hm (by omega)
  obtain ⟨hat1, hat2⟩ := hC.at_ m r lk hlk
  have LX : Hid (∀ wx, Up w wx → (Instr.lookup 66 (.map (some cb)) (.agg #[.int .i64 m, .int .u64 r]) true).run Tryz.prog wx = .ok (.tuple #[.int .u64 0, .bool false]) wx) := by
    intro wx hx
    have h1 := look_ent wx cb n D (owns_up hown hx) hlk
    rw [hat1, hat2, hc] at h1
    exact h1
  have kk : (o.kind == 6) = false ∨ ((o.kind == 6) = true ∧ (o.membrane == m) = false) := by
    by_cases h6 : o.kind = 6
    · exact .inr ⟨by simpa using h6, by simpa using fun h9 => hb6 ⟨h6, h9⟩⟩
    · exact .inl (by simpa using h6)
  obtain ⟨kind, owner, frozen, fields, module, func, ha, hn', hcc, brand, content, membrane, target, deep⟩ := o
  simp only at o0 o1 o11 o13 h1 kk h13
  subst h1
  have CO := Lib.hid (And.intro o0 (And.intro o1 (And.intro o11 o13)))
  clear ho hl hd h hf OB o0 o1 o11 o13 hog hsl hown hC hlk hat1 hat2 hb6
  obtain ⟨h13, h14⟩ := h13
  have hwr : IntKind.i64.wrap (deep + 1) = deep + 1 := by rw [IntKind.wrap_i64]; omega
  clear hin hq hm2 hle
  rcases kk with k6 | ⟨k6, k9⟩
  all_goals
    have HU := Lib.hid hU
    clear hU
    show Calls Tryz.prog 33 #[lv, .pointer (some ⟨p, 0, none⟩), .map (some cb), .int .i64 m, .int .i64 into, .agg #[.int .u8 5, .int .i64 r, .string ⟨#[]⟩]] w _
    go_enter Tryz.func33, Tryz.ntmps33
    go_wp2_with (first
      | (go_at_call 36; refine (OX.out _ HU.out).mono ?_; rintro e w1 ⟨rfl, hU1⟩; obtain ⟨z1, ⟨f0, f1, f2⟩, ⟨g0, g1, g2⟩⟩ := B1.out.up hU1; obtain ⟨y1, ⟨e0, e1, e2⟩, -⟩ := B0.out.up hU1)
      | (go_at_call 59; refine (DX.out _ (HU.out.trans hU1)).mono ?_; rintro e w2 ⟨rfl, rfl⟩)
      | (go_at_call 29; refine (RX.out _).mono ?_; rintro e w3 ⟨rfl, rfl⟩)
      | (go_at_call 27; refine (GX.out _ ((HU.out.trans hU1).alloc _)).mono ?_; rintro e w5 ⟨rfl, hU5⟩; have hU9 := (hU1.alloc (.cells #[.int .u8 5, .int .i64 r, .string ⟨#[]⟩] 31)).trans hU5; obtain ⟨z9, ⟨p0, p1, p2⟩, ⟨r0, r1, r2⟩⟩ := B1.out.up hU9; have a0 := up_cell (HU.out.trans hU9) CO.out.1; have a1 := up_cell (HU.out.trans hU9) CO.out.2.1; have a11 := up_cell (HU.out.trans hU9) CO.out.2.2.1; have a13 := up_cell (HU.out.trans hU9) CO.out.2.2.2; have lk1 := LX.out _ ((HU.out.trans hU9).alloc (.cells #[.int .i64 m, .int .u64 r] 145)); have z10 : w.heap.size + 1 < w5.heap.size + 1 := Nat.lt_succ_of_lt z9; have z11 : w.heap.size + 1 < w5.heap.size + 1 + 1 := Nat.lt_succ_of_lt z10; have z12 := World.block_lt_of_cell? w5 _ a0; simp only at z12)
      | (go_at_call 32; refine (PX.out _ ((HU.out.trans hU9).alloc (.cells #[.int .i64 m, .int .u64 r] 145))).mono ?_; rintro e w8 ⟨rfl, hU8⟩; obtain ⟨x9, ⟨m0, m1, m2⟩, ⟨n0, n1, n2⟩⟩ := ((B1.out.up hU9).alloc (.cells #[.int .i64 m, .int .u64 r] 145)).up hU8)
  )
    have B3 := (Has3.store (((B1.out.up hU9).alloc (.cells #[.int .i64 m, .int .u64 r] 145)).up hU8) (.int .u8 0) (.int .i64 0) (.string ⟨#[]⟩))
    obtain ⟨-, ⟨q1, q2, q3⟩, -⟩ := B3
    refine bodyPost_ret (v := .tuple #[.agg #[.int .u8 0, .int .i64 0, .string ⟨#[]⟩], .int .i64 8]) (by simp [results, Tryz.results33, go_sem, q1, q2, q3]) rfl ⟨rfl, ?_⟩
    exact (((HU.out.trans ((hU9.alloc (.cells #[.int .i64 m, .int .u64 r] 145)).trans hU8)).setCell (p := ⟨w.heap.size + 1, 0, none⟩) (Nat.le_succ _) _).setCell (p := ⟨w.heap.size + 1, 1, none⟩) (Nat.le_succ _) _).setCell (p := ⟨w.heap.size + 1, 2, none⟩) (Nat.le_succ _) _
end Go.Proofs.YtojbphnkabfkpaaGreatDoor.mb

/- wrap.Pass: a new proxy. -/
set_option linter.unusedVariables false
set_option linter.unusedSimpArgs false
namespace Go.Proofs.YtojbphnkabfkpaaGreatDoor.mb
open Go.RowKit Go.Maps mem rec ar
attribute [local go_sem ↓] Go.wp_at_zero Go.wp_at_succ
set_option maxRecDepth 100000
set_option maxHeartbeats 1000000
theorem pass_new (w : World) (lv : Value) (p cb : Nat) (m into : Int) (L : List Mb) (r : Nat) (from_ : Int) (nn j k : Nat) (v : Nat → Value) (A : Ar) (hr : r < 9223372036854775808) (h : Parts w p v A) (hl : ListAt w lv L) (hp : p < w.heap.size) (ho : otherR L m into = some from_) (hd : deadR L m = false) (o : Ob) (hf : A.find r = some o) (n : Nat) (D : DataW Nat) (C : Ca) (hown : w.ownsMap Tryz.prog 145 R1 cb n D) (hC : CacheIs D C) (hm : (Lit.int .i64 m).wf = true) (h1 : o.owner = from_) (hb6 : ¬ (o.kind = 6 ∧ o.membrane = m)) (hc : C m r = none) (h13 : 0 ≤ o.deep ∧ o.deep < 6) (hin : into = (nn : Int)) (hR : Room A (k + 1)) (hQ : Quo A nn (j + 1)) (hn1 : n < maxLen) (hcn : cb ∉ foot p v) :
    Calls Tryz.prog 33 #[lv, .pointer (some ⟨p, 0, none⟩), .map (some cb), .int .i64 m, .int .i64 into, val (5, (r : Int), ⟨#[]⟩)] w fun e w' => ∃ (v' : Nat → Value) (D' : DataW Nat), e = .returned (.tuple #[val (5, (A.name : Int), ⟨#[]⟩), .int .i64 0]) ∧ Parts w' p v' (A.add (proxyOb into m r (o.deep + 1))) ∧ Chg (cb :: foot p v) w w' ∧ (∀ b ∈ foot p v', b ∈ foot p v ∨ w.heap.size ≤ b) ∧ w'.ownsMap Tryz.prog 145 R1 cb (n + 1) D' ∧ CacheIs D' (C.put m r A.name) ∧ cb ∉ foot p v' := by
  have hU : Up w ((w.alloc (.cells #[.int .u8 5, .int .i64 r, .string ⟨#[]⟩] 31)).alloc (.cells #[.int .u8 0, .int .i64 0, .string ⟨#[]⟩] 31)) := ((Up.refl w).alloc _).alloc _
  have B0 := Lib.hid ((has3_alloc w (.int .u8 5) (.int .i64 r) (.string ⟨#[]⟩) 31).up ((Up.refl _).alloc (.cells #[.int .u8 0, .int .i64 0, .string ⟨#[]⟩] 31)))
  have B1 := Lib.hid (has3_alloc2 w (.cells #[.int .u8 5, .int .i64 r, .string ⟨#[]⟩] 31) (.int .u8 0) (.int .i64 0) (.string ⟨#[]⟩) 31)
  have OX : Hid (∀ wx, Up w wx → Calls Tryz.prog 36 #[lv, .int .i64 m, .int .i64 into] wx fun e w' => e = .returned (.tuple #[.int .i64 from_, .bool true]) ∧ Up wx w') := by
    intro wx hx
    refine (other_x wx lv L m into (hl.up hx)).mono ?_
    rintro e w' ⟨rfl, hu⟩
    exact ⟨by rw [ho]; rfl, hu⟩
  have DX : Hid (∀ wx, Up w wx → Calls Tryz.prog 59 #[lv, .int .i64 m] wx fun e w' => e = .returned (.bool false) ∧ w' = wx) := by
    intro wx hx
    refine (dead_x wx lv L m (hl.up hx)).mono ?_
    rintro e w' ⟨rfl, hu⟩
    exact ⟨by rw [hd], hu⟩
  have RX := Lib.hid (ref_x r hr ⟨#[]⟩)
  have hnm : A.name < 9223372036854775808 := name_lt hR
  have TX := Lib.hid (object_x A.name hnm)
  simp only [val] at TX
  have HFt := Lib.hid h.lt
  obtain ⟨ob, hob⟩ : ∃ ob, ob = proxyOb into m r (o.deep + 1) := ⟨_, rfl⟩
  have PX : Hid (∀ wx, Up w wx → Calls Tryz.prog 32 #[.pointer (some ⟨p, 0, none⟩), .agg (proxyOb into m r (o.deep + 1)).cells.toArray] wx fun e w' => ∃ v', e = .returned (.tuple #[.int .u64 A.name, .int .i64 0]) ∧ Parts w' p v' (A.add ob) ∧ Chg (foot p v) wx w' ∧ ∀ b ∈ foot p v', b ∈ foot p v ∨ wx.heap.size ≤ b) := by
    rw [hob]
    exact fun wx hx => put_k wx p v A _ (h.up hx) nn j k hin hR hQ
  rw [← hob]
  clear hob
  simp only [proxyOb, Ob.cells, zero3] at PX
  obtain ⟨sl, hsl, -⟩ := find_slot hf
  obtain ⟨g, cap, -, hog, -⟩ := h.obAt hsl
  have OB := obAt_find hog h hf
  have o0 := OB 0 _ rfl
  have o1 := OB 1 _ rfl
  have o11 := OB 11 _ rfl
  have o13 := OB 13 _ rfl
  have GX : Hid (∀ wx, Up w wx → Calls Tryz.prog 27 #[.pointer (some ⟨p, 0, none⟩), .int .u64 r] wx fun e w' => e = .returned (.pointer (some ⟨g, (r % 4294967296) * 16 + 2, none⟩)) ∧ Up wx w') :=
    fun wx hx => ar.get_at wx p r v A o g hog (h.up hx) (by omega) hf
  generalize (r % 4294967296) * 16 + 2 = off at *
  (try simp only [Nat.add_zero] at o0)
  obtain ⟨lk, hlk⟩ := key_ent m r hm (by omega)
  obtain ⟨hat1, hat2⟩ := hC.at_ m r lk hlk
  have LX : Hid (∀ wx, Up w wx → (Instr.lookup 66 (.map (some cb)) (.agg #[.int .i64 m, .int .u64 r]) true).run Tryz.prog wx = .ok (.tuple #[.int .u64 0, .bool false]) wx) := by
    intro wx hx
    have h1 := look_ent wx cb n D (owns_up hown hx) hlk
    rw [hat1, hat2, hc] at h1
    exact h1
  have kk : (o.kind == 6) = false ∨ ((o.kind == 6) = true ∧ (o.membrane == m) = false) := by
    by_cases h6 : o.kind = 6
    · exact .inr ⟨by simpa using h6, by simpa using fun h9 => hb6 ⟨h6, h9⟩⟩
    · exact .inl (by simpa using h6)
  obtain ⟨kind, owner, frozen, fields, module, func, ha, hn', hcc, brand, content, membrane, target, deep⟩ := o
  simp only at o0 o1 o11 o13 h1 kk h13
  subst h1
  have CO := Lib.hid (And.intro o0 (And.intro o1 (And.intro o11 o13)))
  have HM := Lib.hid (And.intro hown (And.intro hC (And.intro hlk hcn)))
  have hcb : cb < w.heap.size := hown.lt
  clear ho hl hd h hf OB o0 o1 o11 o13 hog hsl hown hC hlk hat1 hat2 hb6
  obtain ⟨h13, h14⟩ := h13
  have hwr : IntKind.i64.wrap (deep + 1) = deep + 1 := by rw [IntKind.wrap_i64]; omega
  clear hin hR hQ hcn
  rcases kk with k6 | ⟨k6, k9⟩
  all_goals
    have HU := Lib.hid hU
    clear hU
    show Calls Tryz.prog 33 #[lv, .pointer (some ⟨p, 0, none⟩), .map (some cb), .int .i64 m, .int .i64 into, .agg #[.int .u8 5, .int .i64 r, .string ⟨#[]⟩]] w _
    go_enter Tryz.func33, Tryz.ntmps33
    go_wp2_with (first
      | (go_at_call 36; refine (OX.out _ HU.out).mono ?_; rintro e w1 ⟨rfl, hU1⟩; obtain ⟨z1, ⟨f0, f1, f2⟩, ⟨g0, g1, g2⟩⟩ := B1.out.up hU1; obtain ⟨y1, ⟨e0, e1, e2⟩, -⟩ := B0.out.up hU1)
      | (go_at_call 59; refine (DX.out _ (HU.out.trans hU1)).mono ?_; rintro e w2 ⟨rfl, rfl⟩)
      | (go_at_call 29; refine (RX.out _).mono ?_; rintro e w3 ⟨rfl, rfl⟩)
      | (go_at_call 27; refine (GX.out _ ((HU.out.trans hU1).alloc _)).mono ?_; rintro e w5 ⟨rfl, hU5⟩; have hU9 := (hU1.alloc (.cells #[.int .u8 5, .int .i64 r, .string ⟨#[]⟩] 31)).trans hU5; obtain ⟨z9, ⟨p0, p1, p2⟩, ⟨r0, r1, r2⟩⟩ := B1.out.up hU9; have a0 := up_cell (HU.out.trans hU9) CO.out.1; have a1 := up_cell (HU.out.trans hU9) CO.out.2.1; have a11 := up_cell (HU.out.trans hU9) CO.out.2.2.1; have a13 := up_cell (HU.out.trans hU9) CO.out.2.2.2; have lk1 := LX.out _ ((HU.out.trans hU9).alloc (.cells #[.int .i64 m, .int .u64 r] 145)); have z10 : w.heap.size + 1 < w5.heap.size + 1 := Nat.lt_succ_of_lt z9; have z11 : w.heap.size + 1 < w5.heap.size + 1 + 1 := Nat.lt_succ_of_lt z10; have z12 := World.block_lt_of_cell? w5 _ a0; simp only at z12)
      | (go_at_call 34; refine (TX.out _).mono ?_; rintro e w7 ⟨rfl, rfl⟩)
  )
    refine (PX.out _ ((HU.out.trans hU9).alloc (.cells #[.int .i64 m, .int .u64 r] 145))).mono ?_
    rintro e w8 ⟨v8, rfl, hP8, hC8, hF8⟩
    have hU5w := (HU.out.trans hU9).size
    have E8 := hC8.cell (p := ⟨w5.heap.size, 0, none⟩) (by simp) (fun hx => by have h9 : w5.heap.size < w.heap.size := HFt.out _ hx; omega)
    have E9 := hC8.cell (p := ⟨w5.heap.size, 1, none⟩) (by simp) (fun hx => by have h9 : w5.heap.size < w.heap.size := HFt.out _ hx; omega)
    have E8' := E8.trans (show _ = some (Value.int .i64 m) by go_simp)
    have E9' := E9.trans (show _ = some (Value.int .u64 (r : Int)) by go_simp)
    clear E8 E9
    obtain ⟨w9, hrun, hown9, hturn9⟩ := (map_chg (owns_up HM.out.1 ((HU.out.trans hU9).alloc (.cells #[.int .i64 m, .int .u64 r] 145))) hC8 HM.out.2.2.2).store KE Tryz.underlying66 hn1 HM.out.2.2.1 (R1_val A.name)
    simp only [entV] at hrun
    have C9 : Chg [cb] w8 w9 := (Chg.refl _ w8).turned hturn9 (.inl (by simp))
    have X9 := has3_chg (has3_chg ((B1.out.up hU9).alloc (.cells #[.int .i64 m, .int .u64 r] 145)) hC8 (fun hx => by have := HFt.out _ hx; omega)) C9 (by simp; omega)
    obtain ⟨x9, ⟨m0, m1, m2⟩, ⟨n0, n1, n2⟩⟩ := id X9
    go_wp2_with (go_at_call 34; refine (TX.out _).mono ?_; rintro e w7 ⟨rfl, rfl⟩)
    have B3 := (Has3.store X9 (.int .u8 5) (.int .i64 A.name) (.string ⟨#[]⟩)).alloc (.cells #[.int .u8 5, .int .i64 A.name, .string ⟨#[]⟩] 31)
    obtain ⟨-, ⟨q1, q2, q3⟩, -⟩ := B3
    have CR := ((((Chg.refl [w.heap.size + 1] w9).setCell (p := ⟨w.heap.size + 1, 0, none⟩) (.inl (by simp)) (.int .u8 5)).setCell (p := ⟨w.heap.size + 1, 1, none⟩) (.inl (by simp)) (.int .i64 A.name)).setCell (p := ⟨w.heap.size + 1, 2, none⟩) (.inl (by simp)) (.string ⟨#[]⟩)).alloc (.cells #[.int .u8 5, .int .i64 A.name, .string ⟨#[]⟩] 31)
    have zz : w5.heap.size + 1 = (w5.alloc (.cells #[.int .i64 m, .int .u64 r] 145)).heap.size := by simp
    have f1 : cb ∉ foot p v8 := fun hx => by
      rcases hF8 cb hx with h9 | h9
      · exact HM.out.2.2.2 h9
      · rw [← zz] at h9; omega
    have f2 : w.heap.size + 1 ∉ foot p v8 := fun hx => by
      rcases hF8 _ hx with h9 | h9
      · have := HFt.out _ h9; omega
      · rw [← zz] at h9; omega
    refine bodyPost_ret (v := .tuple #[.agg #[.int .u8 5, .int .i64 A.name, .string ⟨#[]⟩], .int .i64 0]) (by simp [results, Tryz.results33, go_sem, q1, q2, q3]) rfl ⟨v8, _, rfl, (hP8.chg C9 (fun b hb hx => f1 (by rw [← List.mem_singleton.1 hx]; exact hb))).chg CR (fun b hb hx => f2 (by rw [← List.mem_singleton.1 hx]; exact hb)), ?_, fun b hb => ?_, map_chg hown9 CR (fun hx => by have := List.mem_singleton.1 hx; omega), HM.out.2.1.put HM.out.2.2.1 A.name, f1⟩
    · exact ((((((HU.out.trans hU9).alloc (.cells #[.int .i64 m, .int .u64 r] 145)).chg.mono (by simp)).trans hC8 (fun x hx => .inl (List.mem_cons_of_mem _ hx))).trans C9 (fun x hx => .inl (by rw [List.mem_singleton.1 hx]; exact List.mem_cons_self ..))).trans CR (fun x hx => .inr (by rw [List.mem_singleton.1 hx]; omega)))
    · rcases hF8 b hb with h9 | h9
      · exact .inl h9
      · exact .inr (by rw [← zz] at h9; omega)
end Go.Proofs.YtojbphnkabfkpaaGreatDoor.mb

/- WrapFull: what holds before a round: plain laws. -/
set_option linter.unusedVariables false
namespace Go.Proofs.YtojbphnkabfkpaaGreatDoor.mb
open Go.RowKit Go.Maps mem rec ar
set_option maxHeartbeats 400000
/-- Room for a objects more, b of owner 0; owner 1 has j of the k that he may have. -/
structure Ful (w0 w : World) (p cb : Nat) (lv : Value) (v : Nat → Value) (A : Ar) (C : Ca) (a b k j n : Nat) : Prop where
  pt : Parts w p v A
  rm : Room A a
  q0 : Quo A 0 b
  q1 : A.quotas[1]? = some (k : Int)
  m1 : A.many[1]? = some (j : Int)
  ow : ∃ D, w.ownsMap Tryz.prog 145 R1 cb n D ∧ CacheIs D C
  cf : ∀ m r q, C m r = some q → ∃ o, A.find r = some o
  ls : ListAt w lv [(0, 1, false)]
  lb : ∀ b, lv.ownBlock = some b → b ∉ foot p v ∧ b ≠ cb ∧ b < w.heap.size
  cn : cb ∉ foot p v
  fo : ∀ b ∈ foot p v, w0.heap.size ≤ b
  cl : w0.heap.size ≤ cb
  bel : Up w0 w
section
variable {w0 w w1 : World} {p cb a b k j n : Nat} {lv : Value} {v v1 : Nat → Value} {A : Ar} {C : Ca}
theorem Ful.up (h : Ful w0 w p cb lv v A C a b k j n) (u : Up w w1) : Ful w0 w1 p cb lv v A C a b k j n :=
  ⟨h.pt.up u, h.rm, h.q0, h.q1, h.m1, by obtain ⟨D, h1, h2⟩ := h.ow; exact ⟨D, owns_up h1 u, h2⟩, h.cf, h.ls.up u, fun b hb => ⟨(h.lb b hb).1, (h.lb b hb).2.1, Nat.lt_of_lt_of_le (h.lb b hb).2.2 u.size⟩, h.cn, h.fo, h.cl, h.bel.trans u⟩
theorem Ful.fresh (h : Ful w0 w p cb lv v A C (a + 1) b k j n) (m : Int) : C m A.name = none := by
  cases hc : C m A.name with
  | none => rfl
  | some q =>
    obtain ⟨o, ho⟩ := h.cf m _ q hc
    exact absurd rfl (name_ne h.rm ho)
theorem Ful.quo (h : Ful w0 w p cb lv v A C a b k (j) n) (hjk : j < k) (hk : k ≤ 20) : Quo A 1 ((k - j - 1) + 1) := ⟨k, j, h.q1, h.m1, by omega, by omega, by omega⟩
/-- A record more, of owner 0. -/
theorem Ful.rec1 (h : Ful w0 w p cb lv v A C (a + 1) (b + 1) k j n) {o : Ob} (ho : o.owner = (0 : Nat)) (pt : Parts w1 p v1 (A.add o)) (cg : Chg (foot p v) w w1) (fb : ∀ b ∈ foot p v1, b ∈ foot p v ∨ w.heap.size ≤ b) : Ful w0 w1 p cb lv v1 (A.add o) C a b k j n := by
  obtain ⟨D, hD, hC⟩ := h.ow
  have hcl := hD.lt
  have z := h.bel.size
  have nf : ∀ b, b < w.heap.size → b ∉ foot p v → b ∉ foot p v1 := fun b hb hn hx => by
    rcases fb b hx with h1 | h1
    · exact hn h1
    · omega
  refine ⟨pt, h.rm.add o, h.q0.add o ho, h.q1, ?_, ⟨D, map_chg hD cg h.cn, hC⟩, fun m r q hc => ?_, h.ls.chg cg (fun b hb => (h.lb b hb).1), fun b hb => ⟨nf b (h.lb b hb).2.2 (h.lb b hb).1, (h.lb b hb).2.1, Nat.lt_of_lt_of_le (h.lb b hb).2.2 cg.size⟩, nf cb hcl h.cn, fun b hb => ?_, h.cl, Below.trans h.bel (cg.below z h.fo)⟩
  · show (A.many.set o.owner.toNat (A.many.getD o.owner.toNat 0 + 1))[1]? = _
    rw [show o.owner.toNat = 0 by rw [ho]; rfl, List.getElem?_set_ne (by decide)]
    exact h.m1
  · obtain ⟨x, hx⟩ := h.cf m r q hc
    exact ⟨x, find_add_old h.rm o hx⟩
  · rcases fb b hb with h1 | h1
    · exact h.fo b h1
    · omega
/-- A proxy more, of owner 1. -/
theorem Ful.prox (h : Ful w0 w p cb lv v A C (a + 1) b k j n) {m : Int} {r : Nat} {o ob : Ob} {D' : DataW Nat} (hr : A.find r = some o) (ho : ob.owner = (1 : Nat)) (pt : Parts w1 p v1 (A.add ob)) (cg : Chg (cb :: foot p v) w w1) (fb : ∀ b ∈ foot p v1, b ∈ foot p v ∨ w.heap.size ≤ b)
    (ow : w1.ownsMap Tryz.prog 145 R1 cb (n + 1) D') (hC : CacheIs D' (C.put m r A.name)) (hcn : cb ∉ foot p v1) : Ful w0 w1 p cb lv v1 (A.add ob) (C.put m r A.name) a b k (j + 1) (n + 1) := by
  have z := h.bel.size
  have nf : ∀ b, b < w.heap.size → b ∉ foot p v → b ∉ foot p v1 := fun b hb hn hx => by
    rcases fb b hx with h1 | h1
    · exact hn h1
    · omega
  refine ⟨pt, h.rm.add ob, h.q0.other ob ho (by decide), h.q1, ?_, ⟨D', ow, hC⟩, fun m' r' q hc => ?_, h.ls.chg cg (fun b hb hx => ?_), fun b hb => ⟨nf b (h.lb b hb).2.2 (h.lb b hb).1, (h.lb b hb).2.1, Nat.lt_of_lt_of_le (h.lb b hb).2.2 cg.size⟩, hcn, fun b hb => ?_, h.cl, Below.trans h.bel (cg.below z (fun b hb => ?_))⟩
  · show (A.many.set ob.owner.toNat (A.many.getD ob.owner.toNat 0 + 1))[1]? = _
    have e : ob.owner.toNat = 1 := by rw [ho]; rfl
    rw [e, List.getElem?_set_self (List.getElem?_eq_some_iff.1 h.m1).1, List.getD_eq_getElem?_getD, h.m1]
    rfl
  · unfold Ca.put at hc
    split at hc
    · rename_i e
      exact ⟨o, by rw [e.2]; exact find_add_old h.rm ob hr⟩
    · obtain ⟨x, hx⟩ := h.cf m' r' q hc
      exact ⟨x, find_add_old h.rm ob hx⟩
  · rcases List.mem_cons.1 hx with h1 | h1
    · exact (h.lb b hb).2.1 h1
    · exact (h.lb b hb).1 h1
  · rcases fb b hb with h1 | h1
    · exact h.fo b h1
    · omega
  · rcases List.mem_cons.1 hb with h1 | h1
    · rw [h1]; exact h.cl
    · exact h.fo b h1
end
end Go.Proofs.YtojbphnkabfkpaaGreatDoor.mb

/- Membranes: what holds of objects and their proxies; a world of them: plain. -/
set_option linter.unusedVariables false
namespace Go.Proofs.YtojbphnkabfkpaaGreatDoor.mb
open Go.RowKit Go.Maps mem rec ar
set_option maxHeartbeats 400000
theorem other_inv {L : List Mb} {m x y : Int} (h : otherR L m x = some y) : otherR L m y = some x := by
  unfold otherR at *
  cases hm : mbAt L m with
  | none => rw [hm] at h; cases h
  | some s =>
    rw [hm] at h
    simp only at h ⊢
    by_cases e0 : x = s.1
    · rw [if_pos e0] at h
      cases h
      by_cases e1 : s.2.1 = s.1
      · rw [if_pos e1, e1, e0]
      · rw [if_neg e1, if_pos rfl, e0]
    · rw [if_neg e0] at h
      by_cases e1 : x = s.2.1
      · rw [if_pos e1] at h
        cases h
        rw [if_pos rfl, e1]
      · rw [if_neg e1] at h
        cases h
theorem find_lt {A : Ar} {k : Nat} (h : Room A k) {r : Nat} {o : Ob} (hf : A.find r = some o) : r < 9223372036854775808 := by
  unfold Ar.find at hf
  split at hf
  · rename_i s hs
    split at hf
    · rename_i hu
      have h1 := h.us s (List.mem_of_getElem? hs)
      have h2 := h.sl
      have h3 := (List.getElem?_eq_some_iff.1 hs).1
      omega
    · cases hf
  · cases hf
/-- What is found behind Put is the new one, or was there. -/
theorem find_add_inv {A : Ar} {k : Nat} (h : Room A (k + 1)) (o : Ob) {r : Nat} {x : Ob} (hf : (A.add o).find r = some x) : (r = A.name ∧ x = o) ∨ A.find r = some x := by
  obtain ⟨g1, ⟨st, hst, hst2⟩, -⟩ := h.grown
  obtain ⟨e1, e2⟩ := name_mod h
  have hlt := (List.getElem?_eq_some_iff.1 hst).1
  unfold Ar.find at hf
  split at hf
  · rename_i s hs
    split at hf
    · rename_i hu
      have hs' : (A.grow.slots.set A.top ⟨A.old + 1, true, o⟩)[r % 4294967296]? = some s := hs
      by_cases e : A.top = r % 4294967296
      · rw [← e, List.getElem?_set_self hlt] at hs'
        cases hs'
        cases hf
        refine .inl ⟨?_, rfl⟩
        have h2 : A.old + 1 = r / 4294967296 := hu.2
        omega
      · rw [List.getElem?_set_ne e] at hs'
        refine .inr ?_
        have h0 : A.slots[r % 4294967296]? = some s := by
          unfold Ar.grow at hs'
          split at hs'
          · have hs2 : (A.slots ++ [sl0])[r % 4294967296]? = some s := hs'
            by_cases hl : r % 4294967296 < A.slots.length
            · rw [List.getElem?_append_left hl] at hs2; exact hs2
            · rw [List.getElem?_append_right (by omega)] at hs2
              have hm := List.mem_of_getElem? hs2
              have : s = sl0 := by simpa using hm
              subst this
              exact absurd hu.1 (by decide)
          · exact hs'
        unfold Ar.find
        rw [h0]
        simp only [if_pos hu]
        exact hf
    · cases hf
  · cases hf
/-- What holds of objects, proxies and the cache. -/
structure Net (A : Ar) (C : Ca) (L : List Mb) (d : Int) : Prop where
  px : ∀ r o, A.find r = some o → o.kind = 6 → ∃ (t : Nat) (o' : Ob), o.target = (t : Int) ∧ A.find t = some o' ∧ otherR L o.membrane o.owner = some o'.owner ∧ ¬ (o'.kind = 6 ∧ o'.membrane = o.membrane) ∧ C o.membrane t = some r
  ca : ∀ m t r, C m t = some r → ∃ o o', A.find r = some o ∧ A.find t = some o' ∧ o.kind = 6 ∧ o.membrane = m ∧ o.target = (t : Int)
  dp : ∀ r o, A.find r = some o → 0 ≤ o.deep ∧ o.deep ≤ d
/-- One stands for the other one. -/
def Lk (A : Ar) (m : Int) (r r' : Nat) : Prop :=
  (∃ o', A.find r' = some o' ∧ o'.kind = 6 ∧ o'.membrane = m ∧ o'.target = (r : Int)) ∨ (∃ o, A.find r = some o ∧ o.kind = 6 ∧ o.membrane = m ∧ o.target = (r' : Int))
def Old (A A' : Ar) : Prop := ∀ x y, A.find x = some y → A'.find x = some y
theorem Old.refl (A : Ar) : Old A A := fun _ _ h => h
theorem Old.trans {A B C : Ar} (h : Old A B) (k : Old B C) : Old A C := fun x y hx => k x y (h x y hx)
theorem Lk.old {A A' : Ar} {m : Int} {r r' : Nat} (h : Lk A m r r') (k : Old A A') : Lk A' m r r' := by
  rcases h with ⟨o, h1, h2⟩ | ⟨o, h1, h2⟩
  · exact .inl ⟨o, k _ _ h1, h2⟩
  · exact .inr ⟨o, k _ _ h1, h2⟩
theorem Net.less {A : Ar} {C : Ca} {L : List Mb} {d e : Int} (h : Net A C L d) (hd : d ≤ e) : Net A C L e :=
  ⟨h.px, h.ca, fun r o hf => by have := h.dp r o hf; omega⟩
theorem Net.proxy {A : Ar} {C : Ca} {L : List Mb} {d m into : Int} {k r : Nat} {o : Ob} (h : Net A C L d) (hR : Room A (k + 1)) (ho : otherR L m into = some o.owner) (hf : A.find r = some o) (hn : ¬ (o.kind = 6 ∧ o.membrane = m)) (hc : C m r = none) :
    Net (A.add (proxyOb into m r (o.deep + 1))) (C.put m r A.name) L (d + 1) := by
  have hd := h.dp r o hf
  refine ⟨fun x y hx hk => ?_, fun m' t x hx => ?_, fun x y hx => ?_⟩
  · rcases find_add_inv hR _ hx with ⟨rfl, rfl⟩ | h0
    · exact ⟨r, o, rfl, find_add_old hR _ hf, ho, hn, by simp [proxyOb, Ca.put]⟩
    · obtain ⟨t, o', h1, h2, h3, h4, h5⟩ := h.px x y h0 hk
      refine ⟨t, o', h1, find_add_old hR _ h2, h3, h4, ?_⟩
      unfold Ca.put
      rw [if_neg]
      · exact h5
      · rintro ⟨e1, e2⟩
        rw [e1, e2, hc] at h5
        cases h5
  · unfold Ca.put at hx
    split at hx
    · rename_i e
      cases hx
      exact ⟨_, o, find_add_new hR _, by rw [e.2]; exact find_add_old hR _ hf, rfl, e.1.symm, by rw [e.2]; rfl⟩
    · obtain ⟨a, b, h1, h2, h3⟩ := h.ca m' t x hx
      exact ⟨a, b, find_add_old hR _ h1, find_add_old hR _ h2, h3⟩
  · rcases find_add_inv hR _ hx with ⟨rfl, rfl⟩ | h0
    · show 0 ≤ o.deep + 1 ∧ o.deep + 1 ≤ d + 1
      omega
    · have := h.dp x y h0; omega
/-- A world of objects of four owners, membranes L: room for k more of each; d: how deep proxies lie at most. -/
structure Wr (w : World) (p cb : Nat) (v : Nat → Value) (A : Ar) (C : Ca) (L : List Mb) (k : Nat) (d : Int) : Prop where
  pt : Parts w p v A
  rm : Room A k
  qu : ∀ n, n < 4 → Quo A n k
  ow : ∃ n D, n + k ≤ 2000 ∧ w.ownsMap Tryz.prog 145 R1 cb n D ∧ CacheIs D C
  cn : cb ∉ foot p v
  nt : Net A C L d
section
variable {w w1 : World} {p cb k : Nat} {v : Nat → Value} {A : Ar} {C : Ca} {L : List Mb} {d : Int}
theorem Wr.lt (h : Wr w p cb v A C L k d) : ∀ b ∈ cb :: foot p v, b < w.heap.size := fun b hb => by
  rcases List.mem_cons.1 hb with h1 | h1
  · obtain ⟨n, D, -, h2, -⟩ := h.ow
    rw [h1]; exact h2.lt
  · exact h.pt.lt b h1
theorem Wr.chg {F : List Nat} (h : Wr w p cb v A C L k d) (c : Chg F w w1) (hF : ∀ b ∈ cb :: foot p v, b ∉ F) : Wr w1 p cb v A C L k d := by
  obtain ⟨n, D, h1, h2, h3⟩ := h.ow
  exact ⟨h.pt.chg c (fun b hb => hF b (List.mem_cons_of_mem _ hb)), h.rm, h.qu, ⟨n, D, h1, map_chg h2 c (hF cb (List.mem_cons_self ..)), h3⟩, h.cn, h.nt⟩
theorem Wr.up (h : Wr w p cb v A C L k d) (u : Up w w1) : Wr w1 p cb v A C L k d := h.chg u.chg (by simp)
theorem Wr.less {j : Nat} {e : Int} (h : Wr w p cb v A C L k d) (hj : j ≤ k) (he : d ≤ e) : Wr w p cb v A C L j e := by
  obtain ⟨n, D, h1, h2, h3⟩ := h.ow
  exact ⟨h.pt, sb.Room.mono h.rm hj, fun n hn => sb.Quo.mono (h.qu n hn) hj, ⟨n, D, by omega, h2, h3⟩, h.cn, h.nt.less he⟩
end
end Go.Proofs.YtojbphnkabfkpaaGreatDoor.mb

/- WrapFull: what a round's calls give. -/
set_option linter.unusedVariables false
namespace Go.Proofs.YtojbphnkabfkpaaGreatDoor.mb
open Go.RowKit Go.Maps mem rec ar
set_option maxHeartbeats 400000
theorem wp_ne {d : Option Nat} {ty : TypeId} {pos : String} {after : Array Edge} {g : Option (Nat × Bool)} {x y : Operand} {a : Act} {w : World} {K : Act → World → Prop} {Q : Exit → Act → World → Prop} {v u : Value} (p q : V3) (hx : a.eval x = v) (hy : a.eval y = u) (hv : v = val p) (hu : u = val q) (b : Bool) (hb : decide (p ≠ q) = b) (h : K (a.put d (.bool b)) w) :
    Oper.wp Tryz.prog ⟨d, .binOp .neq 31 x y 31, ty, pos, after, g⟩ a w K Q := by
  subst hv hu
  have N : (binOp .neq 31 (val p) (val q)).run Tryz.prog w = .ok (.bool b) w := by rw [ne_val, hb]
  unfold Oper.wp
  simp [execOp, hx, hy, N, neguard_val, Result.andThen]
  exact h
theorem wpl_ne {ops : Array Oper} {rest : List Oper} {d : Option Nat} {ty : TypeId} {pos : String} {after : Array Edge} {g : Option (Nat × Bool)} {x y : Operand} {a : Act} {w : World} {Q : Exit → Act → World → Prop} (p q : V3) (hw : Region.wanted ⟨d, .binOp .neq 31 x y 31, ty, pos, after, g⟩ (yielded ops a.tmps) = true) (hx : a.eval x = val p) (hy : a.eval y = val q) (b : Bool) (hb : decide (p ≠ q) = b) (h : wpList Tryz.prog ops Q rest (a.put d (.bool b)) w) :
    wpList Tryz.prog ops Q (⟨d, .binOp .neq 31 x y 31, ty, pos, after, g⟩ :: rest) a w :=
  wpList_step fun K hK => by rw [if_pos hw]; exact wp_ne p q hx hy rfl rfl b hb (hK _ _ h)
def L1 : List Mb := [(0, 1, false)]
theorem l1_other : otherR L1 0 1 = some 0 := rfl
theorem l1_back : otherR L1 0 0 = some 1 := rfl
theorem l1_dead : deadR L1 0 = false := rfl
section
variable {w0 w w1 : World} {p cb a b k j n r bm : Nat} {lv : Value} {v v1 : Nat → Value} {A : Ar} {C : Ca}
theorem Ful.cputs (F : Ful w0 w p cb lv v A C (a + 1) (b + 1) k j n) (wx : World) (bm : Nat) (hx : Up w wx) :
    Calls Tryz.prog 32 #[.pointer (some ⟨p, 0, none⟩), .agg (recOb 0 bm).cells.toArray] wx fun e w' => ∃ v', e = .returned (.tuple #[.int .u64 A.name, .int .i64 0]) ∧ Ful w0 w' p cb lv v' (A.add (recOb 0 bm)) C a b k j n ∧ Chg (cb :: foot p v) w w' ∧ ∀ b ∈ foot p v', b ∈ foot p v ∨ w.heap.size ≤ b := by
  have F1 := F.up hx
  refine (put_k wx p v A (recOb 0 bm) F1.pt 0 b a rfl F1.rm F1.q0).mono ?_
  rintro e w' ⟨v', rfl, h1, h2, h3⟩
  refine ⟨v', rfl, F1.rec1 rfl h1 h2 h3, (hx.chg.mono (by simp)).trans h2 (fun x hx => .inl (List.mem_cons_of_mem _ hx)), fun b hb => ?_⟩
  rcases h3 b hb with h4 | h4
  · exact .inl h4
  · exact .inr (Nat.le_trans hx.size h4)
theorem Ful.cnew (F : Ful w0 w p cb lv v A C (a + 1) b k j n) (hf : A.find r = some (recOb 0 bm)) (hc : C 0 r = none) (hjk : j < k) (hk : k ≤ 20) (hn : n ≤ 60) (wx : World) (hx : Up w wx) :
    Calls Tryz.prog 33 #[lv, .pointer (some ⟨p, 0, none⟩), .map (some cb), .int .i64 0, .int .i64 1, val (5, (r : Int), ⟨#[]⟩)] wx fun e w' => ∃ v', e = .returned (.tuple #[val (5, (A.name : Int), ⟨#[]⟩), .int .i64 0]) ∧ Ful w0 w' p cb lv v' (A.add (proxyOb 1 0 r 1)) (C.put 0 r A.name) a b k (j + 1) (n + 1) ∧ Chg (cb :: foot p v) w w' ∧ ∀ b ∈ foot p v', b ∈ foot p v ∨ w.heap.size ≤ b := by
  have F1 := F.up hx
  obtain ⟨D, hD, hC⟩ := F1.ow
  refine (pass_new wx lv p cb 0 1 L1 r 0 1 (k - j - 1) a v A (find_lt F1.rm hf) F1.pt F1.ls F1.pt.hd.lt l1_other l1_dead (recOb 0 bm) hf n D C hD hC rfl rfl (by rintro ⟨h, -⟩; exact absurd h (by show ¬ (0 : Int) = 6; decide)) hc ⟨Int.le_refl 0, by show (0 : Int) < 6; decide⟩ rfl F1.rm (F1.quo hjk hk) (by unfold maxLen; omega) F1.cn).mono ?_
  rintro e w' ⟨v', D', rfl, h1, h2, h3, h4, h5, h6⟩
  refine ⟨v', rfl, F1.prox hf rfl h1 h2 h3 h4 h5 h6, (hx.chg.mono (by simp)).trans h2 (fun x hx => .inl hx), fun b hb => ?_⟩
  rcases h3 b hb with h4 | h4
  · exact .inl h4
  · exact .inr (Nat.le_trans hx.size h4)
theorem Ful.chit (F : Ful w0 w p cb lv v A C a b k j n) (hf : A.find r = some (recOb 0 bm)) {q : Nat} (hc : C 0 r = some q) (hq : q < 9223372036854775808) (wx : World) (hx : Up w wx) :
    Calls Tryz.prog 33 #[lv, .pointer (some ⟨p, 0, none⟩), .map (some cb), .int .i64 0, .int .i64 1, val (5, (r : Int), ⟨#[]⟩)] wx fun e w' => e = .returned (.tuple #[val (5, (q : Int), ⟨#[]⟩), .int .i64 0]) ∧ Up wx w' := by
  have F1 := F.up hx
  obtain ⟨D, hD, hC⟩ := F1.ow
  exact pass_hit wx lv p cb 0 1 L1 r 0 v A (find_lt F1.rm hf) F1.pt F1.ls F1.pt.hd.lt l1_other l1_dead (recOb 0 bm) hf n D C hD hC rfl rfl (by rintro ⟨h, -⟩; exact absurd h (by show ¬ (0 : Int) = 6; decide)) q hq hc trivial
theorem Ful.cfull (F : Ful w0 w p cb lv v A C a b k j n) (hf : A.find r = some (recOb 0 bm)) (hc : C 0 r = none) (hjk : j = k) (wx : World) (hx : Up w wx) :
    Calls Tryz.prog 33 #[lv, .pointer (some ⟨p, 0, none⟩), .map (some cb), .int .i64 0, .int .i64 1, val (5, (r : Int), ⟨#[]⟩)] wx fun e w' => e = .returned (.tuple #[val zero3, .int .i64 8]) ∧ Up wx w' := by
  have F1 := F.up hx
  obtain ⟨D, hD, hC⟩ := F1.ow
  subst hjk
  exact pass_full wx lv p cb 0 1 L1 r 0 j j 1 v A (find_lt F1.rm hf) F1.pt F1.ls F1.pt.hd.lt l1_other l1_dead (recOb 0 bm) hf n D C hD hC rfl rfl (by rintro ⟨h, -⟩; exact absurd h (by show ¬ (0 : Int) = 6; decide)) hc ⟨Int.le_refl 0, by show (0 : Int) < 6; decide⟩ rfl F1.q1 F1.m1 (Int.le_refl _)
/-- The variable 'first'. -/
def Fst (w : World) (fb cb p : Nat) (v : Nat → Value) (A : Ar) (t k : Nat) : Prop :=
  fb ∉ cb :: foot p v ∧ ∃ x : V3, Has3 w fb (.int .u8 x.1) (.int .i64 x.2.1) (.string x.2.2) ∧ (0 < t → 0 < k → ∃ f r0 : Nat, x = (5, (f : Int), ⟨#[]⟩) ∧ r0 < 9223372036854775808 ∧ A.find f = some (proxyOb 1 0 r0 1))
theorem Fst.chg {fb t : Nat} {A1 : Ar} (h : Fst w fb cb p v A t k) (c : Chg (cb :: foot p v) w w1) (fo : ∀ b ∈ foot p v1, b ∈ foot p v ∨ w.heap.size ≤ b) (ho : Old A A1) : Fst w1 fb cb p v1 A1 t k := by
  obtain ⟨h1, x, h2, h3⟩ := h
  have hlt := h2.1
  refine ⟨fun hx => ?_, x, has3_chg h2 c h1, fun a b => ?_⟩
  · rcases List.mem_cons.1 hx with h4 | h4
    · exact h1 (by rw [h4]; exact List.mem_cons_self ..)
    · rcases fo fb h4 with h5 | h5
      · exact h1 (List.mem_cons_of_mem _ h5)
      · omega
  · obtain ⟨f, r0, e1, e2, e3⟩ := h3 a b
    exact ⟨f, r0, e1, e2, ho _ _ e3⟩
theorem Fst.up {fb t : Nat} (h : Fst w fb cb p v A t k) (u : Up w w1) : Fst w1 fb cb p v A t k := h.chg (u.chg.mono (by simp)) (fun b hb => .inl hb) (Old.refl A)
theorem Ful.fchg {fb : Nat} (h : Ful w0 w p cb lv v A C a b k j n) (c : Chg [fb] w w1) (h1 : fb ∉ cb :: foot p v) (h2 : lv.ownBlock ≠ some fb) (h3 : w0.heap.size ≤ fb) : Ful w0 w1 p cb lv v A C a b k j n := by
  have e : ∀ b ∈ cb :: foot p v, b ∉ [fb] := fun b hb hx => h1 (by rw [← List.mem_singleton.1 hx]; exact hb)
  exact ⟨h.pt.chg c (fun b hb => e b (List.mem_cons_of_mem _ hb)), h.rm, h.q0, h.q1, h.m1, by obtain ⟨D, g1, g2⟩ := h.ow; exact ⟨D, map_chg g1 c (e cb (List.mem_cons_self ..)), g2⟩, h.cf, h.ls.chg c (fun b hb hx => h2 (by rw [hb, List.mem_singleton.1 hx])), fun b hb => ⟨(h.lb b hb).1, (h.lb b hb).2.1, Nat.lt_of_lt_of_le (h.lb b hb).2.2 c.size⟩, h.cn, h.fo, h.cl, Below.trans h.bel (c.below h.bel.size (fun b hb => by rw [List.mem_singleton.1 hb]; exact h3))⟩
theorem Ful.fewer (h : Ful w0 w p cb lv v A C (a + 1) b k j n) : Ful w0 w p cb lv v A C a b k j n :=
  ⟨h.pt, sb.Room.mono h.rm (by omega), h.q0, h.q1, h.m1, h.ow, h.cf, h.ls, h.lb, h.cn, h.fo, h.cl, h.bel⟩
theorem Fst.set {fb t : Nat} (h : Fst w fb cb p v A t k) (x : V3) (hx : 0 < k → ∃ f r0 : Nat, x = (5, (f : Int), ⟨#[]⟩) ∧ r0 < 9223372036854775808 ∧ A.find f = some (proxyOb 1 0 r0 1)) (s : Nat) :
    Fst (((w.setCell ⟨fb, 0, none⟩ (.int .u8 x.1)).setCell ⟨fb, 1, none⟩ (.int .i64 x.2.1)).setCell ⟨fb, 2, none⟩ (.string x.2.2)) fb cb p v A s k := by
  obtain ⟨h1, y, h2, h3⟩ := h
  exact ⟨h1, x, h2.store _ _ _, fun _ hk => hx hk⟩
theorem Fst.more {fb t s : Nat} (h : Fst w fb cb p v A t k) (ht : 0 < t) : Fst w fb cb p v A s k := by
  obtain ⟨h1, y, h2, h3⟩ := h
  exact ⟨h1, y, h2, fun _ hk => h3 ht hk⟩
theorem set3_chg (w : World) (fb : Nat) (a b c : Value) : Chg [fb] w (((w.setCell ⟨fb, 0, none⟩ a).setCell ⟨fb, 1, none⟩ b).setCell ⟨fb, 2, none⟩ c) :=
  (((Chg.refl [fb] w).setCell (p := ⟨fb, 0, none⟩) (.inl (by simp)) _).setCell (p := ⟨fb, 1, none⟩) (.inl (by simp)) _).setCell (p := ⟨fb, 2, none⟩) (.inl (by simp)) _
end
theorem full_start (w w0 w1 w2 : World) (k : Nat) (v1 v2 : Nat → Value) (hb0 : Below w.heap.size w w0) (pt2 : Parts w2 w0.heap.size v2 ⟨[], [], [60, (k : Int)], [0, 0]⟩)
    (hC1 : Chg (foot w0.heap.size (fun _ => Value.slice none 0 0)) ((w0.alloc (.cells #[.slice none 0 0, .slice none 0 0, .slice none 0 0, .slice none 0 0] 133)).alloc (.map #[] 0)) w1)
    (hF1 : ∀ b ∈ foot w0.heap.size v1, b ∈ foot w0.heap.size (fun _ => Value.slice none 0 0) ∨ ((w0.alloc (.cells #[.slice none 0 0, .slice none 0 0, .slice none 0 0, .slice none 0 0] 133)).alloc (.map #[] 0)).heap.size ≤ b)
    (hC2 : Chg (foot w0.heap.size v1) w1 w2) (hF2 : ∀ b ∈ foot w0.heap.size v2, b ∈ foot w0.heap.size v1 ∨ w1.heap.size ≤ b) :
    Ful w ((w2.alloc (.cells #[.int .i64 0, .int .i64 1, .bool false] 69)).alloc (.cells #[.int .u8 0, .int .i64 0, .string ⟨#[]⟩] 31)) w0.heap.size (w0.heap.size + 1) (.slice (some ⟨w2.heap.size, 0, none⟩) 1 1) v2 ⟨[], [], [60, (k : Int)], [0, 0]⟩ (fun _ _ => none) 200 60 k 0 0 ∧
    Fst ((w2.alloc (.cells #[.int .i64 0, .int .i64 1, .bool false] 69)).alloc (.cells #[.int .u8 0, .int .i64 0, .string ⟨#[]⟩] 31)) (w2.heap.size + 1) (w0.heap.size + 1) w0.heap.size v2 ⟨[], [], [60, (k : Int)], [0, 0]⟩ 0 k := by
  have h0 := hb0.size
  have z1 := hC1.size
  have z2 := hC2.size
  have own1 : ((w0.alloc (.cells #[.slice none 0 0, .slice none 0 0, .slice none 0 0, .slice none 0 0] 133)).alloc (.map #[] 0)).ownsMap Tryz.prog 145 R1 (w0.alloc (.cells #[.slice none 0 0, .slice none 0 0, .slice none 0 0, .slice none 0 0] 133)).heap.size 0 (.map []) := World.ownsMap_made (H := Nat) _ Tryz.prog 145 R1
  rw [World.size_alloc] at own1
  have z : ((w0.alloc (.cells #[.slice none 0 0, .slice none 0 0, .slice none 0 0, .slice none 0 0] 133)).alloc (.map #[] 0)).heap.size = w0.heap.size + 1 + 1 := by simp
  rw [z] at z1 hF1
  have nf : ∀ b, b ∈ foot w0.heap.size (fun _ => Value.slice none 0 0) → b = w0.heap.size := fun b hb => by
    rcases mem_foot.1 hb with h | ⟨i, hi, h⟩
    · exact h
    · simp [Value.ownBlock] at h
  have n1 : ∀ b ∈ foot w0.heap.size v1, b = w0.heap.size ∨ w0.heap.size + 1 + 1 ≤ b := fun b hb => (hF1 b hb).imp (nf b) id
  have n2 : ∀ b ∈ foot w0.heap.size v2, b = w0.heap.size ∨ w0.heap.size + 1 + 1 ≤ b := fun b hb => by
    rcases hF2 b hb with h | h
    · exact n1 b h
    · exact .inr (by omega)
  have U : Up w2 ((w2.alloc (.cells #[.int .i64 0, .int .i64 1, .bool false] 69)).alloc (.cells #[.int .u8 0, .int .i64 0, .string ⟨#[]⟩] 31)) := ((Up.refl _).alloc _).alloc _
  have sz : ((w2.alloc (.cells #[.int .i64 0, .int .i64 1, .bool false] 69)).alloc (.cells #[.int .u8 0, .int .i64 0, .string ⟨#[]⟩] 31)).heap.size = w2.heap.size + 1 + 1 := by simp
  have cn : w0.heap.size + 1 ∉ foot w0.heap.size v2 := fun hx => by have := n2 _ hx; omega
  refine ⟨⟨pt2.up U, ⟨by show 0 + 200 < 1000000; decide, fun s hs => (by cases hs), fun n hn => (by cases hn), List.nodup_nil, by show 0 + 200 < 1000000; decide⟩, ⟨60, 0, rfl, rfl, by decide, by decide, by decide⟩, rfl, rfl, ⟨.map [], owns_up (map_chg (map_chg own1 hC1 (fun hx => by have := nf _ hx; omega)) hC2 (fun hx => by have := n1 _ hx; omega)) U, CacheIs.nil⟩, fun m r q h => (by cases h), ⟨w2.heap.size, 1, rfl, by omega, fun i m hi j v hj => ?_⟩, fun b hb => ?_, cn, fun b hb => by have := n2 b hb; omega, by omega, ?_⟩, ⟨fun hx => ?_, zero3, has3_alloc2 w2 _ _ _ _ _, fun h => absurd h (by decide)⟩⟩
  · cases i with
    | succ i => simp at hi
    | zero =>
      simp at hi
      subst hi
      have e := heap_alloc_new w2 (.cells #[.int .i64 0, .int .i64 1, .bool false] 69)
      have e2 := cell_of_row _ w2.heap.size j _ _ _ e
      refine (up_cell ((Up.refl (w2.alloc (.cells #[.int .i64 0, .int .i64 1, .bool false] 69))).alloc _) (show _ = some v from ?_))
      rw [Nat.zero_mul, Nat.zero_add, e2]
      simpa [cellsM] using hj
  · cases hb
    exact ⟨fun hx => by have h1 : w2.heap.size < w2.heap.size := pt2.lt _ hx; omega, by show w2.heap.size ≠ _; omega, by show w2.heap.size < _; omega⟩
  · refine Below.trans (Below.trans (Below.trans hb0 (?_ : Below w.heap.size w0 w1)) (hC2.below (by omega) (fun b hb => by have := n1 b hb; omega))) (Below.mono U (by omega))
    exact Below.trans (Below.mono (((Up.refl w0).alloc _).alloc _) h0) (hC1.below (by rw [z]; omega) (fun b hb => by have := nf b hb; omega))
  · rcases List.mem_cons.1 hx with h | h
    · omega
    · have := pt2.lt _ h; omega
end Go.Proofs.YtojbphnkabfkpaaGreatDoor.mb

/- WrapFull: the walk. -/
set_option linter.unusedVariables false
set_option linter.unusedSimpArgs false
namespace Go.Proofs.YtojbphnkabfkpaaGreatDoor.mb
open Go.RowKit Go.Maps mem rec ar
attribute [local go_sem ↓] Go.wp_at_zero Go.wp_at_succ
set_option maxRecDepth 100000
set_option maxHeartbeats 4000000
theorem full (x y : Int) (w : World) (hL : Laid w) (hx0 : 0 ≤ x) (hx1 : x ≤ 255) (hy0 : 0 ≤ y) (hy1 : y ≤ 255) : Calls Tryz.prog 5 #[.int .u8 x, .int .u8 y] w fun e w' => e = .returned (.bool true) ∧ Up w w' := by
  have hmm := @run_makeMap Tryz.prog
  obtain ⟨k, hk⟩ : ∃ k : Nat, x % 20 = (k : Int) := ⟨(x % 20).toNat, by omega⟩
  have hk20 : k < 20 := by omega
  go_enter Tryz.func5, Tryz.ntmps5
  go_upto_region 4 with (first
    | (go_at_call 31; refine (awake15 _ hL).mono ?_; rintro e w0 ⟨rfl, hb0⟩)
    | (go_at_call 23; refine (new_arena _).mono ?_; rintro e w1 ⟨rfl, rfl⟩))
  have h0 := hb0.size
  obtain ⟨pt1, fo1⟩ := sb.start_parts w0
  have own1 : ((w0.alloc (.cells #[.slice none 0 0, .slice none 0 0, .slice none 0 0, .slice none 0 0] 133)).alloc (.map #[] 0)).ownsMap Tryz.prog 145 R1 (w0.alloc (.cells #[.slice none 0 0, .slice none 0 0, .slice none 0 0, .slice none 0 0] 133)).heap.size 0 (.map []) := World.ownsMap_made (H := Nat) _ Tryz.prog 145 R1
  rw [World.size_alloc] at own1
  obtain ⟨wm, hwm⟩ : ∃ wm, wm = (w0.alloc (.cells #[.slice none 0 0, .slice none 0 0, .slice none 0 0, .slice none 0 0] 133)).alloc (.map #[] 0) := ⟨_, rfl⟩
  have ptm : Parts wm w0.heap.size (fun _ => .slice none 0 0) ⟨[], [], [], []⟩ := by rw [hwm]; exact pt1.up ((Up.refl _).alloc _)
  have ownm : wm.ownsMap Tryz.prog 145 R1 (w0.heap.size + 1) 0 (.map []) := by rw [hwm]; exact own1
  have upm : Up w0 wm := by rw [hwm]; exact ((Up.refl _).alloc _).alloc _
  have szm : wm.heap.size = w0.heap.size + 2 := by rw [hwm]; simp
  subst hwm
  have P1 := Lib.hid (owner_any _ _ _ _ 60 ptm (by decide) (by decide) rfl)
  have OW := Lib.hid (And.intro ownm (And.intro upm (And.intro szm fo1)))
  clear hmm own1 pt1 ownm upm szm fo1 ptm
  go_upto_region 5 with (go_at_call 24; refine P1.out.mono ?_; rintro e w1 ⟨v1, rfl, hP1, hC1, hF1⟩)
  have P2 := Lib.hid (owner_any w1 _ _ _ (k : Int) hP1 (by omega) (by decide) rfl)
  have HC1 := Lib.hid (And.intro hC1 hF1)
  clear P1 hC1 hF1 hP1
  have hw0s : w0.heap.size < w1.heap.size := by have h1 := OW.out.2.2.1; have h2 := HC1.out.1.size; omega
  go_upto_region 7 with (go_at_call 24; refine P2.out.mono ?_; rintro e w2 ⟨v2, rfl, hP2, hC2, hF2⟩)
  obtain ⟨W2, hW2⟩ : ∃ W2, W2 = (w2.alloc (.cells #[.int .i64 0, .int .i64 1, .bool false] 69)).alloc (.cells #[.int .u8 0, .int .i64 0, .string ⟨#[]⟩] 31) := ⟨_, rfl⟩
  obtain ⟨n, hn⟩ : ∃ n : Nat, y % 40 = (n : Int) := ⟨(y % 40).toNat, by omega⟩
  have hn40 : n < 40 := by omega
  obtain ⟨n1, hn1⟩ : ∃ n1 : Nat, n1 = n + 1 := ⟨_, rfl⟩
  have hwn : IntKind.i64.wrap (1 + (n : Int)) = (n1 : Int) := by rw [IntKind.wrap_i64] <;> omega
  have F0 : Hid (Ful w W2 w0.heap.size (w0.heap.size + 1) (.slice (some ⟨w2.heap.size, 0, none⟩) 1 1) v2 ⟨[], [], [60, (k : Int)], [0, 0]⟩ (fun _ _ => none) 200 60 k 0 0 ∧ Fst W2 (w2.heap.size + 1) (w0.heap.size + 1) w0.heap.size v2 ⟨[], [], [60, (k : Int)], [0, 0]⟩ 0 k) := by
    rw [hW2]
    exact full_start w w0 w1 w2 k v1 v2 hb0 hP2 HC1.out.1 HC1.out.2 hC2 hF2
  have hwg : w.heap.size ≤ w2.heap.size + 1 := by have h2 := hC2.size; omega
  have hfb : (w0.heap.size + 1) < w2.heap.size + 1 := by have h2 := hC2.size; omega
  clear P2 hP2 hC2 hF2 HC1 OW
  go_wp2_with fail
  rw [← hW2]
  generalize w0.heap.size + 1 = cb at *
  generalize w0.heap.size = p at *
  generalize hg : w2.heap.size = g at *
  have hgf : Hid (w.heap.size ≤ g + 1 ∧ (Value.slice (some ⟨g, 0, none⟩) 1 1).ownBlock ≠ some (g + 1)) := ⟨by omega, by simp [Value.ownBlock]⟩
  clear hW2 hg
  clear hn hk hwn
  go_loopw [40] (fun i wr => ∃ (t : Nat) (v : Nat → Value) (A : Ar) (C : Ca) (m : Nat), t ≤ n1 ∧ m ≤ t ∧ i = .int .i64 t ∧ Ful w wr p cb (.slice (some ⟨g, 0, none⟩) 1 1) v A C (200 - 2 * t) (60 - t) k (min t k) m ∧ Fst wr (g + 1) cb p v A t k) (fun i _ => n1 - (intOf i).toNat)
  case atStart => exact ⟨0, v2, _, _, 0, by omega, by omega, rfl, by rw [Nat.zero_min]; exact F0.out.1, F0.out.2⟩
  case round =>
    obtain ⟨t, v, A, C, m, ht, hmt, rfl, hF, hS⟩ := hrel
    clear F0
    have FF := Lib.hid hF
    have SS := Lib.hid hS
    clear hF hS
    by_cases hlt : t < n1
    · have it0 : (t : Int) < (n1 : Int) := by omega
      have it1 : True := trivial
      obtain ⟨a, ha⟩ : ∃ a, 200 - 2 * t = a + 1 + 1 := ⟨198 - 2 * t, by omega⟩
      obtain ⟨b, hb⟩ : ∃ b, 60 - t = b + 1 := ⟨59 - t, by omega⟩
      rw [ha, hb] at FF
      have HAB : Hid (200 - 2 * (t + 1) = a ∧ 60 - (t + 1) = b) := ⟨by omega, by omega⟩
      clear ha hb
      have NX : Hid (∀ wx, Calls Tryz.prog 13 #[.int .i64 0] wx fun e w' => ∃ bm, e = .returned (.agg #[.int .u8 0, .int .i64 0, .bool false, .map (some bm), .int .i64 0, .int .i64 0, .slice none 0 0, .int .u64 0, .int .u8 0, .int .i64 0, .string ⟨#[]⟩, .int .i64 0, .int .u64 0, .int .i64 0]) ∧ Up wx w') := fun wx => (new_any 0 wx).mono (fun e w' ⟨bm, h1, h2, _⟩ => ⟨bm, h1, h2⟩)
      have PX : Hid (∀ (bm : Nat) wx, Up wr wx → Calls Tryz.prog 32 #[.pointer (some ⟨p, 0, none⟩), .agg #[.int .u8 0, .int .i64 0, .bool false, .map (some bm), .int .i64 0, .int .i64 0, .slice none 0 0, .int .u64 0, .int .u8 0, .int .i64 0, .string ⟨#[]⟩, .int .i64 0, .int .u64 0, .int .i64 0]] wx fun e w' => ∃ v', e = .returned (.tuple #[.int .u64 A.name, .int .i64 0]) ∧ Ful w w' p cb (.slice (some ⟨g, 0, none⟩) 1 1) v' (A.add (recOb 0 bm)) C (a + 1) b k (min t k) m ∧ Fst w' (g + 1) cb p v' (A.add (recOb 0 bm)) t k) := by
        intro bm wx hx
        refine (FF.out.cputs wx bm hx).mono ?_
        rintro e w' ⟨v', rfl, h1, h2, h3⟩
        exact ⟨v', rfl, h1, SS.out.chg h2 h3 (fun x y hx => find_add_old FF.out.rm _ hx)⟩
      have hrl : A.name < 9223372036854775808 := name_lt FF.out.rm
      have HR : Hid ((∀ bm, (A.add (recOb 0 bm)).find A.name = some (recOb 0 bm)) ∧ C 0 A.name = none) := ⟨fun bm => find_add_new FF.out.rm _, FF.out.fresh 0⟩
      have TX := Lib.hid (object_x A.name hrl)
      simp only [val] at TX
      go_upto_region 13 with (first
        | (go_at_call 13; refine (NX.out _).mono ?_; rintro e w3 ⟨bm, rfl, hU3⟩)
        | (go_at_call 32; refine (PX.out bm _ hU3).mono ?_; rintro e w4 ⟨v4, rfl, hF4, hS4⟩))
      have hfn := HR.out.1 bm
      have HR2 := Lib.hid HR.out.2
      clear HR PX NX FF SS hU3
      generalize A.add (recOb 0 bm) = A4 at hF4 hS4 hfn ⊢
      generalize A.name = r at hfn HR2 hrl TX ⊢
      by_cases hk0 : t < k
      · have ik0 : (t : Int) < (k : Int) := by omega
        have ik1 : ¬ (k : Int) ≤ (t : Int) := by omega
        rw [Nat.min_eq_left (by omega)] at hF4
        have hnm : A4.name < 9223372036854775808 := name_lt hF4.rm
        have CX : Hid (∀ wx, Up w4 wx → Calls Tryz.prog 33 #[.slice (some ⟨g, 0, none⟩) 1 1, .pointer (some ⟨p, 0, none⟩), .map (some cb), .int .i64 0, .int .i64 1, val (5, (r : Int), ⟨#[]⟩)] wx fun e w' => ∃ v', e = .returned (.tuple #[val (5, (A4.name : Int), ⟨#[]⟩), .int .i64 0]) ∧ (Ful w w' p cb (.slice (some ⟨g, 0, none⟩) 1 1) v' (A4.add (proxyOb 1 0 r 1)) (C.put 0 r A4.name) a b k (t + 1) (m + 1) ∧ Fst w' (g + 1) cb p v' (A4.add (proxyOb 1 0 r 1)) t k) ∧ ∀ wy, Up w' wy → Calls Tryz.prog 33 #[.slice (some ⟨g, 0, none⟩) 1 1, .pointer (some ⟨p, 0, none⟩), .map (some cb), .int .i64 0, .int .i64 1, val (5, (r : Int), ⟨#[]⟩)] wy fun e w'' => e = .returned (.tuple #[val (5, (A4.name : Int), ⟨#[]⟩), .int .i64 0]) ∧ Up wy w'') := by
          intro wx hx
          refine (hF4.cnew hfn HR2.out hk0 (by omega) (by omega) wx hx).mono ?_
          rintro e w' ⟨v', rfl, h1, h2, h3⟩
          exact ⟨v', rfl, ⟨h1, hS4.chg h2 h3 (fun x y hx => find_add_old hF4.rm _ hx)⟩, fun wy hy => h1.chit (find_add_old hF4.rm _ hfn) (by simp [Ca.put]) hnm wy hy⟩
        have HN := Lib.hid (And.intro (find_lt hF4.rm hfn) (find_add_new hF4.rm (proxyOb 1 0 r 1)))
        simp only [val] at CX
        clear hF4 hS4
        generalize A4.name = q at CX hnm HN ⊢
        go_upto_region 14 with (first
          | (go_at_call 34; refine (TX.out _).mono ?_; rintro e w5 ⟨rfl, rfl⟩)
          | (go_at_call 33; refine (CX.out _ ?_).mono ?_; (· (repeat (first | (with_reducible exact Up.refl _) | assumption | (with_reducible refine Up.drew ?_) | (with_reducible refine Up.alloc ?_ _)))); rintro e w6 ⟨v6, rfl, hFS6, hH6⟩))
        have B6 := Lib.hid (has3_alloc w6 (.int .u8 5) (.int .i64 q) (.string ⟨#[]⟩) 31)
        have FS6 := Lib.hid hFS6
        have HH6 := Lib.hid hH6
        clear hFS6 hH6 CX
        go_upto_region 17 with (first
          | (go_at_call 34; refine (TX.out _).mono ?_; rintro e w5 ⟨rfl, rfl⟩)
          | (go_at_call 33; refine (HH6.out _ ?_).mono ?_; (· (repeat (first | (with_reducible exact Up.refl _) | assumption | (with_reducible refine Up.drew ?_) | (with_reducible refine Up.alloc ?_ _)))); rintro e w8 ⟨rfl, hU8⟩))
        have U8 : Up (w6.alloc (.cells #[.int .u8 5, .int .i64 q, .string ⟨#[]⟩] 31)) (w8.alloc (.cells #[.int .u8 5, .int .i64 q, .string ⟨#[]⟩] 31)) := (((Up.refl _).alloc _).trans hU8).alloc _
        have B9 := Lib.hid (has3_alloc w8 (.int .u8 5) (.int .i64 q) (.string ⟨#[]⟩) 31)
        have B7 := Lib.hid (B6.out.up U8)
        obtain ⟨x0, ⟨x1, x2, x3⟩, -⟩ := B9.out
        obtain ⟨y0, ⟨y1, y2, y3⟩, -⟩ := B7.out
        have FF := Lib.hid (FS6.out.1.up (((Up.refl w6).alloc _).trans U8))
        have SS := Lib.hid (FS6.out.2.up (((Up.refl w6).alloc _).trans U8))
        clear FS6 HH6 U8 hU8 TX B6
        generalize World.alloc w8 _ = w9 at x0 x1 x2 x3 y0 y1 y2 y3 FF SS B9 B7 ⊢
        by_cases ht0 : t = 0
        · subst ht0
          have S2 := Lib.hid (SS.out.set (5, (q : Int), ⟨#[]⟩) (fun _ => ⟨q, r, rfl, HN.out.1, HN.out.2⟩) 1)
          have F2 := Lib.hid (FF.out.fchg (set3_chg w9 (g + 1) (.int .u8 5) (.int .i64 q) (.string ⟨#[]⟩)) SS.out.1 hgf.out.2 hgf.out.1)
          obtain ⟨-, xv, ⟨z0, ⟨z1, z2, z3⟩, ⟨z4, z5, z6⟩⟩, -⟩ := id SS.out
          go_wp2_with ((with_reducible refine wpl_ne (5, (q : Int), ⟨#[]⟩) (5, (q : Int), ⟨#[]⟩) ?_ ?_ ?_ false (by simp) ?_); (· first | rfl | go_simp); (· rfl); (· rfl))
          go_roundw
          case rel => exact ⟨1, v6, _, _, m + 1, by omega, by omega, by go_num, by rw [HAB.out.1, HAB.out.2, Nat.min_eq_left (by omega)]; exact F2.out, S2.out⟩
          case measure => simp [intOf]; omega
        · have itz : ¬ (t : Int) = 0 := by omega
          have itb : ((t : Int) == 0) = false := by simpa using ht0
          go_wp2_with ((with_reducible refine wpl_ne (5, (q : Int), ⟨#[]⟩) (5, (q : Int), ⟨#[]⟩) ?_ ?_ ?_ false (by simp) ?_); (· first | rfl | go_simp); (· rfl); (· rfl))
          go_roundw
          case rel => exact ⟨t + 1, v6, _, _, m + 1, by omega, by omega, by go_num, by rw [HAB.out.1, HAB.out.2, Nat.min_eq_left (by omega)]; exact FF.out, SS.out.more (by omega)⟩
          case measure => simp [intOf]; omega
      · have ik0 : ¬ (t : Int) < (k : Int) := by omega
        have ik1 : (k : Int) ≤ (t : Int) := by omega
        rw [Nat.min_eq_right (by omega)] at hF4
        have CX : Hid (∀ wx, Up w4 wx → Calls Tryz.prog 33 #[.slice (some ⟨g, 0, none⟩) 1 1, .pointer (some ⟨p, 0, none⟩), .map (some cb), .int .i64 0, .int .i64 1, val (5, (r : Int), ⟨#[]⟩)] wx fun e w' => e = .returned (.tuple #[val zero3, .int .i64 8]) ∧ Up wx w') := fun wx hx => hF4.cfull hfn HR2.out rfl wx hx
        have FS4 := Lib.hid (And.intro hF4 hS4)
        simp only [val, zero3] at CX
        clear hF4 hS4 hfn HR2
        go_upto_region 14 with (first
          | (go_at_call 34; refine (TX.out _).mono ?_; rintro e w5 ⟨rfl, rfl⟩)
          | (go_at_call 33; refine (CX.out _ ?_).mono ?_; (· (repeat (first | (with_reducible exact Up.refl _) | assumption | (with_reducible refine Up.drew ?_) | (with_reducible refine Up.alloc ?_ _)))); rintro e w6 ⟨rfl, hU6⟩))
        have hU4 : Up w4 w6 := ((Up.refl w4).alloc _).trans hU6
        have B6 := Lib.hid (has3_alloc w6 (.int .u8 0) (.int .i64 0) (.string ⟨#[]⟩) 31)
        obtain ⟨x0, ⟨x1, x2, x3⟩, -⟩ := B6.out
        clear hU6
        go_upto_region 16 with ((with_reducible refine wpl_ne zero3 zero3 ?_ ?_ ?_ false (by simp) ?_); (· first | rfl | go_simp); (· rfl); (· rfl))
        clear x0 x1 x2 x3
        go_upto_region 17 with (first
          | (go_at_call 34; refine (TX.out _).mono ?_; rintro e w5 ⟨rfl, rfl⟩)
          | (go_at_call 33; refine (CX.out _ ?_).mono ?_; (· (repeat (first | (with_reducible exact Up.refl _) | assumption | (with_reducible refine Up.drew ?_) | (with_reducible refine Up.alloc ?_ _)))); rintro e w8 ⟨rfl, hU8⟩))
        have U8 : Up (w6.alloc (.cells #[.int .u8 0, .int .i64 0, .string ⟨#[]⟩] 31)) (w8.alloc (.cells #[.int .u8 0, .int .i64 0, .string ⟨#[]⟩] 31)) := (((Up.refl _).alloc _).trans hU8).alloc _
        have B9 := Lib.hid (has3_alloc w8 (.int .u8 0) (.int .i64 0) (.string ⟨#[]⟩) 31)
        have B7 := Lib.hid (B6.out.up U8)
        obtain ⟨x0, ⟨x1, x2, x3⟩, -⟩ := B9.out
        obtain ⟨y0, ⟨y1, y2, y3⟩, -⟩ := B7.out
        have FF := Lib.hid (FS4.out.1.up ((hU4.alloc _).trans U8))
        have SS := Lib.hid (FS4.out.2.up ((hU4.alloc _).trans U8))
        clear FS4 CX U8 hU8 hU4 TX B6
        generalize World.alloc w8 _ = w9 at x0 x1 x2 x3 y0 y1 y2 y3 FF SS B9 B7 ⊢
        by_cases ht0 : t = 0
        · subst ht0
          have S2 := Lib.hid (SS.out.set zero3 (fun h => absurd h hk0) 1)
          have F2 := Lib.hid (FF.out.fchg (set3_chg w9 (g + 1) (.int .u8 0) (.int .i64 0) (.string ⟨#[]⟩)) SS.out.1 hgf.out.2 hgf.out.1)
          obtain ⟨-, xv, ⟨z0, ⟨z1, z2, z3⟩, ⟨z4, z5, z6⟩⟩, -⟩ := id SS.out
          go_wp2_with ((with_reducible refine wpl_ne zero3 zero3 ?_ ?_ ?_ false (by simp) ?_); (· first | rfl | go_simp); (· rfl); (· rfl))
          go_roundw
          case rel => exact ⟨1, v4, _, _, m, by omega, by omega, by go_num, by rw [HAB.out.1, HAB.out.2, Nat.min_eq_right (by omega)]; exact F2.out.fewer, S2.out⟩
          case measure => simp [intOf]; omega
        · have itz : ¬ (t : Int) = 0 := by omega
          have itb : ((t : Int) == 0) = false := by simpa using ht0
          go_wp2_with ((with_reducible refine wpl_ne zero3 zero3 ?_ ?_ ?_ false (by simp) ?_); (· first | rfl | go_simp); (· rfl); (· rfl))
          go_roundw
          case rel => exact ⟨t + 1, v4, _, _, m, by omega, by omega, by go_num, by rw [HAB.out.1, HAB.out.2, Nat.min_eq_right (by omega)]; exact FF.out.fewer, SS.out.more (by omega)⟩
          case measure => simp [intOf]; omega
    · have hte : t = n1 := by omega
      subst hte
      by_cases hk0 : k = 0
      · subst hk0
        go_wp2_with fail
        go_ret
        exact ⟨rfl, FF.out.bel⟩
      · have ikz : ¬ (k : Int) = 0 := by omega
        have ikb : ((k : Int) == 0) = false := by simpa using hk0
        obtain ⟨-, xv, hx3, hx4⟩ := id SS.out
        obtain ⟨f, r0, rfl, hr0, hff⟩ := hx4 (by omega) (by omega)
        obtain ⟨z0, ⟨z1, z2, z3⟩, ⟨z4, z5, z6⟩⟩ := hx3
        simp only at z1 z2 z3
        have CX : Hid (Calls Tryz.prog 33 #[.slice (some ⟨g, 0, none⟩) 1 1, .pointer (some ⟨p, 0, none⟩), .map (some cb), .int .i64 0, .int .i64 0, val (5, (f : Int), ⟨#[]⟩)] wr fun e w' => e = .returned (.tuple #[val (5, (r0 : Int), ⟨#[]⟩), .int .i64 0]) ∧ Up wr w') :=
          pass_back wr _ p cb 0 0 L1 f 1 v A (find_lt FF.out.rm hff) FF.out.pt FF.out.ls FF.out.pt.hd.lt l1_back l1_dead _ hff r0 hr0 rfl rfl rfl rfl
        have DX : Hid (∀ wx, Up wr wx → Calls Tryz.prog 33 #[.slice (some ⟨g, 0, none⟩) 1 1, .pointer (some ⟨p, 0, none⟩), .map (some cb), .int .i64 0, .int .i64 1, val (2, 5, ⟨#[]⟩)] wx fun e w' => e = .returned (.tuple #[val (2, 5, ⟨#[]⟩), .int .i64 0]) ∧ Up wx w') := fun wx hx =>
          pass_plain wx _ p cb 0 1 L1 2 5 0 ⟨#[]⟩ (FF.out.up hx).ls (FF.out.up hx).pt.hd.lt l1_other l1_dead rfl
        simp only [val] at CX DX
        have NX := Lib.hid (number_x 5)
        simp only [val] at NX
        go_upto_region 25 with (go_at_call 33; refine CX.out.mono ?_; rintro e w6 ⟨rfl, hU6⟩)
        go_upto_region 26 with (first
          | (go_at_call 15; refine (NX.out _).mono ?_; rintro e w5 ⟨rfl, rfl⟩)
          | (go_at_call 33; refine (DX.out _ ?_).mono ?_; (· (repeat (first | (with_reducible exact Up.refl _) | assumption | (with_reducible refine Up.drew ?_) | (with_reducible refine Up.alloc ?_ _)))); rintro e w8 ⟨rfl, hU8⟩))
        go_wp2_with fail
        go_ret
        exact ⟨rfl, (FF.out.bel.trans ((hU6.alloc _).alloc _)).trans (hU8.alloc _)⟩
end Go.Proofs.YtojbphnkabfkpaaGreatDoor.mb

/- WrapFull: where there is no room for a proxy: ErrFull; what needs none passes all the same. No condition but the row's own. -/
set_option linter.unusedVariables false
namespace Go.Proofs.YtojbphnkabfkpaaGreatDoor.wrapFull
open Go Go.ChangeShapes Go.WideShapes Go.RowKit Go.Joins
set_option maxRecDepth 100000 in
theorem lifted (os : Os) (started : os.Started) (H : Type) (enc : TypeId × Value → H) :
    ReturnsInHanded {} Tryz.checked os 5 .any (fun w args => (Rows.wrapFullSpec.pre enc Tryz.prog Tryz.f5 [] false w args ∧ laidMetH Tryz.prog laid0 w) ∧ sizedMet enc Tryz.prog Tryz.f5 (OpenSpec.ofChange Rows.wrapFullSpec) false w args)
      (Rows.wrapFullSpec.post enc Tryz.prog Tryz.f5 false true false false) := by
  refine Frm.handed (C := Tryz.checked) (X := fun w _ => laidMetH Tryz.prog laid0 w) (fun _ _ _ hh h => h.of_heap hh) own started (by kernel_rfl) Tryz.func5
    (ChangeSpec.witness_at (enc := enc) (C := Tryz.checked) (os := os) (X := fun w _ => laidMetH Tryz.prog laid0 w) false (laidWorld os) #[.int .u8 0, .int .u8 0] 8 rfl (by kernel_rfl) (by kernel_rfl) (by kernel_rfl) (by kernel_rfl) (by kernel_rfl) (laidWorld_met os _)) ?_
  intro W base args ds gs before hval0 hW hwt hL hsh
  have hval : ∀ (j : Nat) t v, Tryz.f5.params[j]? = some t → args[j]? = some v → Value.okWide Tryz.prog W .any base t v := hval0
  have hW' := hW
  obtain ⟨p, q, hA0, hV, rfl, hfz, hnd⟩ := hW
  have hA : DataW.TrodAll enc Tryz.prog W 0 (fun _ => true) true Tryz.f5.params.toList args.toList ds p := hA0
  rw [Tryz.params5] at hA hval
  obtain ⟨v0, vs0, d0, ds0, p0, q0, hargs, rfl, rfl, h0, r0⟩ := trodAll_cons hA
  obtain ⟨v1, vs1, d1, ds1, p1, q1, rfl, rfl, rfl, h1, r1⟩ := trodAll_cons r0
  obtain ⟨rfl, rfl, rfl⟩ := trodAll_nil r1
  obtain rfl : args = #[v0, v1] := by cases args; simp_all
  obtain ⟨mx, rfl, _, _, wmx⟩ := open_int Tryz.underlying5 (hval 0 5 v0 rfl rfl) h0
  obtain ⟨my, rfl, _, _, wmy⟩ := open_int Tryz.underlying5 (hval 1 5 v1 rfl rfl) h1
  refine (mb.full mx my W (laid_of hL hsh) (op.u8wf wmx).1 (op.u8wf wmx).2 (op.u8wf wmy).1 (op.u8wf wmy).2).mono fun e W' ⟨he, bel⟩ => ?_
  exact ⟨_, he, Frm.law_post laidOut (tb := 4) rfl Tryz.underlying4 rfl (by kernel_rfl) hW' rfl bel⟩
set_option maxHeartbeats 20000000 in
theorem facts : joinedFacts Tryz.prog 5 Tryz.f5 Rows.wrapFullSpec Rows.wrapFullRow = true := by
  unfold joinedFacts
  simp only [Bool.and_eq_true]
  repeat' apply And.intro
  all_goals (as_aux_lemma => kernel_rfl)
theorem over : Rows.wrapFullRow.holds Tryz.pinned (OpenSpec.ofChange Rows.wrapFullSpec) :=
  OpenClaim.holds_of_wide 5 Tryz.f5 rfl rfl rfl rfl rfl rfl rfl ⟨rfl, rfl, rfl, rfl, rfl⟩ rfl rfl rfl rfl rfl (by kernel_rfl) Tryz.func5 facts
    (of_decide_eq_true (by kernel_rfl)) (by unfold Func.isWrapper; first | (rw [if_pos (by decide +kernel)]; kernel_rfl) | (rw [if_neg (by decide +kernel)]; exact ⟨rfl, rfl⟩))
    (fun os started H enc _ => lifted os started H enc)
end Go.Proofs.YtojbphnkabfkpaaGreatDoor.wrapFull

/- WrapFull: where there is no room for a proxy: ErrFull; what needs none passes all the same. No condition but the row's own. -/
set_option linter.unusedVariables false
namespace Go.Proofs.YtojbphnkabfkpaaGreatDoor
open Go
theorem wrapFull_holds : Rows.WrapFullCardSaid :=
  Claim7.holds_tied_plain_at .later [] [.data, .data, .data, .sentinel, .sentinel, .data, .data, .data, .mapped, .data, .widerDeep, .mapped] true (true, "c9ac608b21664e63eccecbc1da0ed8dd6f887f91dad588e8f9d38ba70c0f02fe") true
    wrapFull.over (fun _ h => by cases h) (by as_aux_lemma => kernel_rfl) (fun _ h => by cases h) wrapFull_row_tie rfl ⟨rfl, rfl⟩ (by as_aux_lemma => kernel_rfl) rfl
    (fun f fn hf hfn => by
      obtain rfl : f = 5 := (Option.some.inj ((show Tryz.prog.funcNamed "paling/palinglaw15.WrapFull" = some 5 by as_aux_lemma => kernel_rfl).symm.trans hf)).symm
      obtain rfl : fn = Tryz.f5 := (Option.some.inj (Tryz.func5.symm.trans hfn)).symm
      exact ⟨by as_aux_lemma => kernel_rfl, fun j t ht => by
        rw [Tryz.params5] at ht
        have hall : ∀ t ∈ [5, 5], Tryz.prog.wantsStandIn t = false := by
          intro t ht
          simp only [List.mem_cons, List.not_mem_nil, or_false] at ht
          rcases ht with rfl | rfl <;> (as_aux_lemma => kernel_rfl)
        exact hall t (by simpa using List.mem_of_getElem? (by simpa using ht : [5, 5][j]? = some t))⟩)
    (by as_aux_lemma => kernel_rfl)
#print axioms wrapFull_holds
end Go.Proofs.YtojbphnkabfkpaaGreatDoor
