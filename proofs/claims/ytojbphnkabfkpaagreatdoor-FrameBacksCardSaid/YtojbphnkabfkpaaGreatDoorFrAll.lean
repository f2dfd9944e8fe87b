/- FrameBacks: a value goes through all crossings, the last one first, as through each by itself; the first error. No condition but the row's own. (6 texts in one.) -/
import Derived.Below
import Derived.Carry
import Derived.ProofKit
import Derived.OpenShut
import Derived.ChangeOld
import Derived.SizedLaws
import Derived.Handed
import Derived.LaidHandle
import Derived.MakeChecks
import Derived.LaidLaws
import Derived.ChangeSame
import Derived.ChangeVars
import Derived.JoinedOf
import Derived.RowKit
import Derived.KernelRfl
import Derived.Lib.SmallJoins
import Derived.Test.YtojbphnkabfkpaaGreatDoorBase
import Derived.Test.YtojbphnkabfkpaaGreatDoorFrLow
import Derived.Test.YtojbphnkabfkpaaGreatDoorAwake
import Derived.Test.YtojbphnkabfkpaaGreatDoorRows
import Derived.Test.YtojbphnkabfkpaaGreatDoorCards
import Derived.Test.YtojbphnkabfkpaaGreatDoorTie
import Derived.SevenTiedAt
import Derived.ChangeMaps5

/- A law's row out of its walk: where the call answers true and what was there stays as it was, the row's post holds: every argument reads as it did; the wrap that hands on the laid variables and the world's shape. No condition. -/
set_option linter.unusedVariables false
namespace Go.Proofs.YtojbphnkabfkpaaGreatDoor.Frm
open Go Go.ChangeShapes Go.WideShapes Go.RowKit Go.Joins
theorem trodAll_below {H : Type} {enc : TypeId × Value → H} {P : Program} (hl : laidOutB P = true) {W W' : World} (hb : Below W.heap.size W W') : ∀ (ts : List TypeId) (vs : List Value) (ds : List (DataW H)) (ps : List MemPlace),
    (ts.all fun t => P.readableRec t && decide (t < P.types.size)) = true → DataW.TrodAll enc P W 0 (fun _ => true) true ts vs ds ps → (∀ x ∈ ps, x.block < W.heap.size) →
    DataW.TrodAll enc P W' 0 (fun b => decide (b < W.heap.size)) true ts vs ds ps
  | [], vs, ds, ps, _, h, _ => by
    obtain ⟨rfl, rfl, rfl⟩ := trodAll_nil h
    exact trodAll_mk0
  | t :: ts, vs, ds, ps, ht, h, hlt => by
    obtain ⟨v0, vs0, d0, ds0, p0, q0, rfl, rfl, rfl, h0, r0⟩ := trodAll_cons h
    simp only [List.all_cons, Bool.and_eq_true, decide_eq_true_eq] at ht
    exact trodAll_cons_mk (Below.trod hl ht.1.1 ht.1.2 h0 hb (fun x hx => hlt x (List.mem_append_left _ hx))) (trodAll_below hl hb ts vs0 ds0 q0 ht.2 r0 (fun x hx => hlt x (List.mem_append_right _ hx)))

/-- The post of a law's row. -/
theorem law_post {H : Type} {enc : TypeId × Value → H} {P : Program} (hl : laidOutB P = true) {f : Func} {s : ChangeSpec} {apart fresh handsOn : Bool} {tb : TypeId} (hres : f.resultTypes = #[tb]) (hbool : P.underlying tb = some .bool)
    (hvars : s.vars = []) (hread : (f.params.toList.all fun t => P.readableRec t && decide (t < P.types.size)) = true) {W W' : World} {args : Array Value} {ds gs : List (DataW H)} {before : List MemPlace}
    (hW : DataW.Whole enc P f.params.toList s.vars apart W args.toList ds gs before) (hfn : s.fn H ds = { results := [.lit (.bool true)], args := ds }) (hb : Below W.heap.size W W') :
    s.post enc P f apart fresh handsOn false W args (.bool true) W' := by
  have hlt := hW.lt
  have hW0 := hW
  obtain ⟨p, q, hA, hV, rfl, hfz, hnd⟩ := hW0
  rw [hvars] at hV
  obtain ⟨rfl, rfl⟩ := trodVars_none hV
  refine ⟨ds, [], p ++ [], [], p, [], hW, ?_, ?_, ?_, hb.frame _, fun h => by cases h⟩
  · rw [List.append_nil, hfn, hres]
    exact trodAll_mk1 (shut_bool hbool _)
  · rw [List.append_nil, hfn]
    exact trodAll_below hl hb _ _ _ _ hread hA (fun x hx => hlt x (List.mem_append_left _ hx))
  · rw [List.append_nil, hfn, hvars]
    exact rfl
/-- The wrap: what the row lists, and the world's shape, are handed on. -/
theorem handed {H : Type} {enc : TypeId × Value → H} {a : Assume} {C : Checked} {os : Os} {f : FuncId} {fn : Func} {s : ChangeSpec} {conds : List PathCond} {apart fresh handsOn again : Bool} {X : World → Array Value → Prop}
    (hX : ∀ (w w' : World) (args : Array Value), w.heap = w'.heap → X w args → X w' args)
    (own : ownKnob C.prog.godebug = none) (started : os.Started) (noInit : C.prog.inits.idxOf? f = none) (hfn : C.prog.funcs[f]? = some fn)
    (witness : ∃ (w : World) (tape : Tape) (i : Input), w.os = os ∧ (w.forCall tape i).Shaped C.prog ∧ i.vars = [] ∧ Input.okWide C.prog (w.forCall tape i) .any w.heap.size f i ∧
      ((s.pre enc C.prog fn conds apart (w.forCall tape i).memory i.args ∧ X (w.forCall tape i).memory i.args) ∧ sizedMet enc C.prog fn (OpenSpec.ofChange s) apart (w.forCall tape i).memory i.args) ∧ a.holds C.prog (lone (Frame.enter C.prog f i.args .normal) [] (w.forCall tape i)))
    (contract : ∀ (W : World) (base : Nat) (args : Array Value) (ds gs : List (DataW H)) (before : List MemPlace),
      (∀ (j : Nat) t v, fn.params[j]? = some t → args[j]? = some v → Value.okWide C.prog W .any base t v) →
      DataW.Whole enc C.prog fn.params.toList s.vars apart W args.toList ds gs before →
      (DataW.weightsEach C.prog (fn.params.toList ++ s.plain.varTypes C.prog) (ds ++ gs)).all (· ≤ reachBytes) = true → X W args → W.ShapedOpen C.prog →
      Calls C.prog f args W fun e W' => ∃ v, e = .returned v ∧ s.post enc C.prog fn apart fresh handsOn again W args v W') :
    ReturnsInHanded a C os f .any (fun w args => (s.pre enc C.prog fn conds apart w args ∧ X w args) ∧ sizedMet enc C.prog fn (OpenSpec.ofChange s) apart w args) (s.post enc C.prog fn apart fresh handsOn again) := by
  refine returnsInHanded_of_calls own started noInit witness ?_
  intro w tape i _ hsh _ hok hpre hholds
  obtain ⟨_, _, _, fn', hfn', _, _, _, _, hval⟩ := hok
  have e : fn' = fn := Option.some.inj (hfn'.symm.trans hfn)
  subst e
  obtain ⟨⟨⟨ds, gs, before, hw, hc⟩, hx⟩, hz⟩ := hpre
  have hw' := DataW.Whole.of_heap (w' := w.forCall tape i) (by rfl) hw
  refine (contract (w.forCall tape i) w.heap.size i.args ds gs before hval hw' (hz.weights hw) (hX _ _ _ (by rfl) hx) hsh).mono fun e W' ⟨v, he, hp⟩ => ?_
  subst he
  exact ChangeSpec.post_blind hp
/-- A variable's block is there. -/
theorem big_of_shape {P : Program} {w : World} (h : w.ShapedOpen P) {g : Nat} (hg : g < P.globals.size) (h0 : (((begin P (fun _ _ => 0) default).world.heap[g]?).bind Obj.row?).isSome = true) : g + 1 ≤ w.heap.size := by
  obtain ⟨⟨zero, t⟩, h1⟩ := Option.isSome_iff_exists.1 h0
  obtain ⟨cs, hh, _⟩ := h.1 g zero t hg h1
  exact (Array.getElem?_eq_some_iff.1 hh).1
theorem u8wf {a : Int} (h : (Lit.int .u8 a).wf = true) : 0 ≤ a ∧ a ≤ 255 := by
  have h' : (decide (IntKind.u8.min ≤ a) && decide (a ≤ IntKind.u8.max)) = true := h
  simpa [IntKind.min, IntKind.max, IntKind.signed, IntKind.bits] using h'
theorem u16wf {a : Int} (h : (Lit.int .u16 a).wf = true) : 0 ≤ a ∧ a ≤ 65535 := by
  have h' : (decide (IntKind.u16.min ≤ a) && decide (a ≤ IntKind.u16.max)) = true := h
  simpa [IntKind.min, IntKind.max, IntKind.signed, IntKind.bits] using h'
theorem u32wf {a : Int} (h : (Lit.int .u32 a).wf = true) : 0 ≤ a ∧ a ≤ 4294967295 := by
  have h' : (decide (IntKind.u32.min ≤ a) && decide (a ≤ IntKind.u32.max)) = true := h
  simpa [IntKind.min, IntKind.max, IntKind.signed, IntKind.bits] using h'
theorem u64wf {a : Int} (h : (Lit.int .u64 a).wf = true) : 0 ≤ a ∧ a ≤ 18446744073709551615 := by
  have h' : (decide (IntKind.u64.min ≤ a) && decide (a ≤ IntKind.u64.max)) = true := h
  simpa [IntKind.min, IntKind.max, IntKind.signed, IntKind.bits] using h'
theorem i32wf {a : Int} (h : (Lit.int .i32 a).wf = true) : -2147483648 ≤ a ∧ a ≤ 2147483647 := by
  have h' : (decide (IntKind.i32.min ≤ a) && decide (a ≤ IntKind.i32.max)) = true := h
  simpa [IntKind.min, IntKind.max, IntKind.signed, IntKind.bits] using h'
theorem i16wf {a : Int} (h : (Lit.int .i16 a).wf = true) : -32768 ≤ a ∧ a ≤ 32767 := by
  have h' : (decide (IntKind.i16.min ≤ a) && decide (a ≤ IntKind.i16.max)) = true := h
  simpa [IntKind.min, IntKind.max, IntKind.signed, IntKind.bits] using h'
theorem i64wf {a : Int} (h : (Lit.int .i64 a).wf = true) : -9223372036854775808 ≤ a ∧ a ≤ 9223372036854775807 := by
  have h' : (decide (IntKind.i64.min ≤ a) && decide (a ≤ IntKind.i64.max)) = true := h
  simpa [IntKind.min, IntKind.max, IntKind.signed, IntKind.bits] using h'
end Go.Proofs.YtojbphnkabfkpaaGreatDoor.Frm

/- A world in which the laid variables read as they are laid: the witness of the rows. -/
set_option maxRecDepth 100000
set_option linter.unusedVariables false
namespace Go.Proofs.YtojbphnkabfkpaaGreatDoor
open Go Go.ChangeShapes Go.WideShapes Go.RowKit
def newBlocks (n : Nat) : Array Obj := #[.cells #[.string ⟨#[118, 97, 108, 117, 101, 32, 111, 117, 116, 32, 111, 102, 32, 114, 97, 110, 103, 101]⟩] 337,
  .cells #[.string ⟨#[105, 110, 118, 97, 108, 105, 100, 32, 115, 121, 110, 116, 97, 120]⟩] 337,
  .map #[{ key := .string ⟨#[33, 61]⟩, val := .int .i64 12, born := 0 }, { key := .string ⟨#[60]⟩, val := .int .i64 13, born := 1 }, { key := .string ⟨#[61, 61]⟩, val := .int .i64 11, born := 2 }] 3,
  .map #[{ key := .string ⟨#[43]⟩, val := .int .i64 8, born := 0 }, { key := .string ⟨#[45]⟩, val := .int .i64 9, born := 1 }] 2,
  .map #[{ key := .string ⟨#[42]⟩, val := .int .i64 10, born := 0 }] 1,
  .map #[{ key := .int .i64 6, val := .int .u8 7, born := 0 }, { key := .int .i64 7, val := .int .u8 8, born := 1 }, { key := .int .i64 8, val := .int .u8 9, born := 2 }, { key := .int .i64 9, val := .int .u8 10, born := 3 }, { key := .int .i64 10, val := .int .u8 11, born := 4 }, { key := .int .i64 11, val := .int .u8 12, born := 5 }, { key := .int .i64 12, val := .int .u8 13, born := 6 }, { key := .int .i64 13, val := .int .u8 14, born := 7 }, { key := .int .i64 14, val := .int .u8 3, born := 8 }] 9]
def setCells (h : Array Obj) (g : Nat) (cs : Array Value) : Array Obj := h.modify g fun
  | .cells _ t frozen => .cells cs t frozen
  | o => o
noncomputable def laidWorld (os : Os) : World :=
  let w0 := World.settled Tryz.prog os
  let n := w0.heap.size
  let h := w0.heap ++ newBlocks n
  let h := setCells h 9 #[.int .u8 0, .int .u8 1, .int .u8 28, .int .u8 2, .int .u8 29, .int .u8 14, .int .u8 24, .int .u8 3, .int .u8 30, .int .u8 22, .int .u8 20, .int .u8 15, .int .u8 25, .int .u8 17, .int .u8 4, .int .u8 8, .int .u8 31, .int .u8 27, .int .u8 13, .int .u8 23, .int .u8 21, .int .u8 19, .int .u8 16, .int .u8 7, .int .u8 26, .int .u8 12, .int .u8 18, .int .u8 6, .int .u8 11, .int .u8 5, .int .u8 10, .int .u8 9]
  let h := setCells h 10 #[.int .u8 0, .int .u8 1, .int .u8 56, .int .u8 2, .int .u8 57, .int .u8 49, .int .u8 28, .int .u8 3, .int .u8 61, .int .u8 58, .int .u8 42, .int .u8 50, .int .u8 38, .int .u8 29, .int .u8 17, .int .u8 4, .int .u8 62, .int .u8 47, .int .u8 59, .int .u8 36, .int .u8 45, .int .u8 43, .int .u8 51, .int .u8 22, .int .u8 53, .int .u8 39, .int .u8 33, .int .u8 30, .int .u8 24, .int .u8 18, .int .u8 12, .int .u8 5, .int .u8 63, .int .u8 55, .int .u8 48, .int .u8 27, .int .u8 60, .int .u8 41, .int .u8 37, .int .u8 16, .int .u8 46, .int .u8 35, .int .u8 44, .int .u8 21, .int .u8 52, .int .u8 32, .int .u8 23, .int .u8 11, .int .u8 54, .int .u8 26, .int .u8 40, .int .u8 15, .int .u8 34, .int .u8 20, .int .u8 31, .int .u8 10, .int .u8 25, .int .u8 14, .int .u8 19, .int .u8 9, .int .u8 13, .int .u8 8, .int .u8 7, .int .u8 6]
  let h := setCells h 6 #[.int .u64 1, .int .u64 10, .int .u64 100, .int .u64 1000, .int .u64 10000, .int .u64 100000, .int .u64 1000000, .int .u64 10000000, .int .u64 100000000, .int .u64 1000000000, .int .u64 10000000000, .int .u64 100000000000, .int .u64 1000000000000, .int .u64 10000000000000, .int .u64 100000000000000, .int .u64 1000000000000000, .int .u64 10000000000000000, .int .u64 100000000000000000, .int .u64 1000000000000000000, .int .u64 10000000000000000000]
  let h := setCells h 12 #[.iface 335 (.pointer (some ⟨n + 0, 0, none⟩))]
  let h := setCells h 11 #[.iface 335 (.pointer (some ⟨n + 1, 0, none⟩))]
  let h := setCells h 0 #[.string ⟨#[99, 111, 110, 115, 116]⟩, .string ⟨#[109, 111, 118, 101]⟩, .string ⟨#[110, 101, 119]⟩, .string ⟨#[103, 101, 116]⟩, .string ⟨#[112, 117, 116]⟩, .string ⟨#[99, 108, 111, 115, 101]⟩, .string ⟨#[99, 97, 108, 108]⟩, .string ⟨#[109, 105, 110, 117, 115]⟩, .string ⟨#[110, 111, 116]⟩, .string ⟨#[97, 100, 100]⟩, .string ⟨#[115, 117, 98]⟩, .string ⟨#[109, 117, 108]⟩, .string ⟨#[101, 113, 117, 97, 108]⟩, .string ⟨#[117, 110, 108, 105, 107, 101]⟩, .string ⟨#[108, 101, 115, 115]⟩, .string ⟨#[106, 117, 109, 112]⟩, .string ⟨#[98, 97, 99, 107]⟩, .string ⟨#[117, 110, 108, 101, 115, 115]⟩, .string ⟨#[114, 101, 116, 117, 114, 110]⟩, .string ⟨#[116, 104, 114, 111, 119]⟩, .string ⟨#[116, 114, 121]⟩, .string ⟨#[100, 111, 110, 101]⟩]
  let h := setCells h 5 #[.string ⟨#[]⟩, .string ⟨#[]⟩, .string ⟨#[]⟩, .string ⟨#[]⟩, .string ⟨#[]⟩, .string ⟨#[]⟩, .string ⟨#[45]⟩, .string ⟨#[33]⟩, .string ⟨#[43]⟩, .string ⟨#[45]⟩, .string ⟨#[42]⟩, .string ⟨#[61, 61]⟩, .string ⟨#[33, 61]⟩, .string ⟨#[60]⟩, .string ⟨#[]⟩, .string ⟨#[]⟩, .string ⟨#[]⟩, .string ⟨#[]⟩]
  let h := setCells h 3 #[.string ⟨#[108, 101, 116]⟩, .string ⟨#[105, 102]⟩, .string ⟨#[101, 108, 115, 101]⟩, .string ⟨#[119, 104, 105, 108, 101]⟩, .string ⟨#[114, 101, 116, 117, 114, 110]⟩, .string ⟨#[116, 104, 114, 111, 119]⟩, .string ⟨#[116, 114, 121]⟩, .string ⟨#[99, 97, 116, 99, 104]⟩, .string ⟨#[102, 110]⟩, .string ⟨#[110, 105, 108]⟩, .string ⟨#[116, 114, 117, 101]⟩, .string ⟨#[102, 97, 108, 115, 101]⟩]
  let h := setCells h 4 #[.map (some (n + 2)), .map (some (n + 3)), .map (some (n + 4))]
  let h := setCells h 2 #[.string ⟨#[114, 101, 116, 117, 114, 110]⟩, .int .i64 5, .string ⟨#[116, 104, 114, 111, 119]⟩, .int .i64 6]
  let h := setCells h 1 #[.string ⟨#[108, 101, 110]⟩, .string ⟨#[102, 114, 101, 101, 122, 101]⟩, .string ⟨#[102, 114, 111, 122, 101, 110]⟩, .string ⟨#[98, 114, 97, 110, 100]⟩, .string ⟨#[107, 105, 110, 100]⟩, .string ⟨#[116, 101, 120, 116]⟩]
  let h := setCells h 7 #[.map (some (n + 5))]
  { w0 with heap := h }
theorem own : ownKnob Tryz.prog.godebug = none := by kernel_rfl
theorem laidOut : laidOutB Tryz.prog = true := by kernel_rfl
theorem laid_plain : (laid0.all fun x => x.2.handleName?.isNone) = true := by kernel_rfl
theorem laid_met {w : World} (h : laidMetH Tryz.prog laid0 w) : laidMet Tryz.prog laid0 w := by
  rw [MakeChecks.laidMetH_plain _ _ _ laid_plain] at h
  exact h
theorem laidWorld_met (os : Os) (args : Array Value) : laidMetH Tryz.prog laid0 ((laidWorld os).forCall (fun _ _ => 0) ⟨#[], args, []⟩).memory := by
  rw [MakeChecks.laidMetH_plain _ _ _ laid_plain]
  exact laidMet_of_run' 8 (by kernel_rfl) (by kernel_rfl)
theorem big {w : World} (h : w.ShapedOpen Tryz.prog) : 13 ≤ w.heap.size := Frm.big_of_shape (g := 12) h (of_decide_eq_true (by kernel_rfl)) (by kernel_rfl)
theorem laid_of {w : World} (h : laidMetH Tryz.prog laid0 w) (hs : w.ShapedOpen Tryz.prog) : Laid w := laid_of_met (laid_met h) (big hs)
end Go.Proofs.YtojbphnkabfkpaaGreatDoor

/- FrameBacks: the walk (printed by fl_gen.py). -/
set_option linter.unusedVariables false
set_option linter.unusedSimpArgs false
namespace Go.Proofs.YtojbphnkabfkpaaGreatDoor.mb
open Go.RowKit Go.Maps mem rec ar
attribute [local go_sem ↓] Go.wp_at_zero Go.wp_at_succ
set_option maxRecDepth 100000
set_option maxHeartbeats 20000000
theorem backs (pa : Option Addr) (n cap : Nat) (ps : Nat → Int × Int) (wa : Option Addr) (m wcap : Nat) (gs : Nat → Int × Int × Int × Bool) (z : Int) (w : World) (hL : Laid w) (hn0 : 0 < n) (hn : n ≤ 6) (hm : m ≤ 8) (hz0 : 0 ≤ z) (hz1 : z ≤ 255)
    (hp : n = 0 ∨ ∃ b off, pa = some ⟨b, off, none⟩ ∧ b < w.heap.size ∧ ∀ i, i < n → P2At w b (off + i * 2) (ps i)) (hw : m = 0 ∨ ∃ b off, wa = some ⟨b, off, none⟩ ∧ b < w.heap.size ∧ ∀ i, i < m → GoAt w b (off + i * 4) (gs i)) :
    Calls Tryz.prog 8 #[.slice pa n cap, .slice wa m wcap, .int .u8 z] w fun e w' => e = .returned (.bool true) ∧ Up w w' := by
  have HP := Lib.hid hp
  have HW := Lib.hid hw
  clear hp hw
  have il0 : ¬ ((n : Int) = 0) := by omega
  have il1 : (n : Int) ≤ 6 := by omega
  have il2 : (m : Int) ≤ 8 := by omega
  have il4 : ((n : Int) == 0) = false := by simp; omega
  obtain ⟨a0, ha0⟩ : ∃ a0 : Nat, z % 4 = (a0 : Int) := ⟨(z % 4).toNat, by omega⟩
  have ha4 : a0 < 4 := by omega
  have hdd := dead_side ps n
  obtain ⟨L, hL2⟩ : ∃ L, L = (List.range n).map fun i => sideOf (ps i) := ⟨_, rfl⟩
  have MK : Hid (∀ w0, Up w w0 → Calls Tryz.prog 35 #[.slice pa n cap] w0 fun e w' => ∃ (q p cb : Nat) (vr v : Nat → Value) (bs : List Nat), e = .returned (.pointer (some ⟨q, 0, none⟩)) ∧ bs.length = 4 ∧ St w0 w' q p cb vr v (mk4 bs) none2 L 59 0) := by
    intro w0 hu
    rw [hL2]
    refine make_walk pa n cap ps w0 hn ?_
    rcases HP.out with h | ⟨b, off, h1, h2, h3⟩
    · exact .inl h
    · exact .inr ⟨b, off, h1, Nat.lt_of_lt_of_le h2 hu.size, fun i hi => by obtain ⟨c0, c1, c2⟩ := h3 i hi; exact ⟨up_cell hu c0, up_cell hu c1, c2⟩⟩
  obtain ⟨r0, hr0⟩ : ∃ r0 : Nat, r0 = 4294967296 + a0 := ⟨_, rfl⟩
  have HL : Hid (L.length = n ∧ 0 < n ∧ r0 = 4294967296 + a0 ∧ L.length ≤ 6) := ⟨by rw [hL2]; simp, hn0, hr0, by rw [hL2]; simp; omega⟩
  have TX := Lib.hid (object_x r0 (by omega))
  simp only [val] at TX
  clear HP hL2 hr0 hdd
  go_enter Tryz.func8, Tryz.ntmps8
  go_upto_region 5 with (go_at_call 41; refine (awake16 _ hL).mono ?_; rintro e w0 ⟨rfl, hb0⟩)
  have NW := Lib.hid new_world
  have NW1 := Lib.hid (new_world w0)
  go_upto_region 6 with (first
    | (go_at_call 42; with_reducible refine NW1.out.mono ?_; rintro e w1 ⟨wb0, g0, g1, g2, rfl, hU1, hwb0, hblk0⟩)
    | (go_at_call 42; refine (NW.out _).mono ?_; rintro e w2 ⟨wb1, g0', g1', g2', rfl, hU2, hwb1, hblk1⟩))
  obtain ⟨W1, hW1⟩ : ∃ W1, W1 = (w2.alloc (.cells #[.pointer (some ⟨wb0, 0, none⟩), .pointer (some ⟨wb1, 0, none⟩)] 98)).alloc (.cells #[.int .u8 0, .int .i64 0, .string ⟨#[]⟩] 31) := ⟨_, rfl⟩
  have T00 : Hid (T0 w0 W1 w2.heap.size (w2.heap.size + 1) wb0 wb1 W1.heap.size) := by
    have l0 := hblk0.lt
    have l1 := hblk1.lt
    have s0 := hU1.size
    have s1 := hU2.size
    have sz : W1.heap.size = w2.heap.size + 1 + 1 := by rw [hW1]; simp
    have u : Up w2 W1 := by rw [hW1]; exact ((Up.refl _).alloc _).alloc _
    have hn := heap_alloc_new w2 (.cells #[.pointer (some ⟨wb0, 0, none⟩), .pointer (some ⟨wb1, 0, none⟩)] 98)
    have u1 : Up (w2.alloc (.cells #[.pointer (some ⟨wb0, 0, none⟩), .pointer (some ⟨wb1, 0, none⟩)] 98)) W1 := by rw [hW1]; exact (Up.refl _).alloc _
    refine ⟨⟨⟨up_cell u1 (cell_of_row _ _ 0 _ _ _ hn), up_cell u1 (cell_of_row _ _ 1 _ _ _ hn)⟩, by rw [hW1]; exact has3_alloc2 w2 _ _ _ _ _, ⟨by omega, by omega, by omega, by omega, by omega, by omega⟩, ⟨by omega, by omega, by omega, by omega⟩, ⟨by omega, by omega, by omega, by omega⟩, Nat.le_refl _, (hU1.trans hU2).trans u⟩, ⟨g0, g1, g2, (hblk0.chg hU2.chg (by simp)).chg u.chg (by simp)⟩, ⟨g0', g1', g2', hblk1.chg u.chg (by simp)⟩⟩
  obtain ⟨x0, x1⟩ := T00.out.1.c7
  clear NW NW1 hU1 hU2 hwb0 hwb1 hblk0 hblk1
  go_upto_region 7 with (fail)
  rw [← hW1]
  generalize hs7 : w2.heap.size = s7 at T00 x0 x1 ⊢
  generalize s7 + 1 = s8 at T00 ⊢
  generalize W1.heap.size = B at T00
  clear hs7 hW1
  go_wp2_with fail
  clear x0 x1
  go_loopw [41] (fun i wr => (i = .int .i64 0 ∧ T0 w0 wr s7 s8 wb0 wb1 B) ∨ (i = .int .i64 1 ∧ ∃ (x : FW) (bs : List Nat), T1 w0 wr s7 s8 wb0 wb1 B r0 L x bs) ∨ (i = .int .i64 2 ∧ ∃ (x y : FW) (bs bs' : List Nat), (x.A = mk4 bs ∧ x.C = none2 ∧ bs.length = 4) ∧ (y.A = mk4 bs' ∧ y.C = none2 ∧ bs'.length = 4) ∧ Two w0 wr s7 s8 r0 x y L 59 59 0 0)) (fun i _ => 2 - (intOf i).toNat)
  case atStart => exact .inl ⟨rfl, T00.out⟩
  case round =>
    clear T00
    have IX0 := index20 wb0 wb1
    have IX1 := index21 wb0 wb1
    rcases hrel with ⟨rfl, hT⟩ | ⟨rfl, x, bs0, hT⟩ | ⟨rfl, x, y, bs, bs', hxe, hye, hT⟩
    · have TT := Lib.hid hT
      clear hT
      go_upto_region 11 with (go_at_call 35; refine (MK.out _ (Up.trans hb0 (TT.out.1.bel))).mono ?_; rintro e wm ⟨q, p, cb, vr, v, bs, rfl, hbs, hS⟩)
      obtain ⟨g0, g1, g2, hblk⟩ := TT.out.2.1
      have hblk' := hblk.chg hS.bel.chg (by simp)
      obtain ⟨lb, lc, hlv, -, -⟩ := (show World.ownsRow wm 0 _ 3 (vr 0) L.length _ from hS.rw_.ow 0 (by omega)).form (by have := HL.out.1; have := HL.out.2.1; omega)
      have HLV := Lib.hid hlv
      have HSW : Hid (∀ w', Up wm w' → w'.cell? ⟨q, 0, none⟩ = some (.pointer (some ⟨p, 0, none⟩)) ∧ w'.cell? ⟨q, 1, none⟩ = some (.map (some cb)) ∧ w'.cell? ⟨q, 2, none⟩ = some (.slice (some ⟨lb, 0, none⟩) L.length lc)) := fun w' hu => ⟨up_cell hu (hS.rw_.hd.cell 0), up_cell hu (hS.rw_.hd.cell 1), by rw [← hlv]; exact up_cell hu (hS.rw_.hd.cell 2)⟩
      have HWB : Hid (∀ w', Up wm w' → w'.cell? ⟨wb0, 0, none⟩ = some g0 ∧ w'.cell? ⟨wb0, 1, none⟩ = some g1 ∧ w'.cell? ⟨wb0, 2, none⟩ = some g2 ∧ w'.frozen? ⟨wb0, 0, none⟩ = false ∧ w'.frozen? ⟨wb0, 1, none⟩ = false ∧ w'.frozen? ⟨wb0, 2, none⟩ = false) := fun w' hu =>
        have hb2 := hblk'.chg hu.chg (by simp)
        ⟨hb2.cell 0, hb2.cell 1, hb2.cell 2, frozen_of_row w' wb0 _ _ _ hb2, frozen_of_row w' wb0 _ _ _ hb2, frozen_of_row w' wb0 _ _ _ hb2⟩
      have hwl : wb0 < wr.heap.size := hblk.lt
      have FWO : Hid (∀ w', Up wm w' → Fw (((w'.setCell ⟨wb0, 0, none⟩ (.pointer (some ⟨p, 0, none⟩))).setCell ⟨wb0, 1, none⟩ (.map (some cb))).setCell ⟨wb0, 2, none⟩ (.slice (some ⟨lb, 0, none⟩) L.length lc)) wb0 p cb (.slice (some ⟨lb, 0, none⟩) L.length lc) v (mk4 bs) none2 L 59 0 ∧ Chg [wb0] wm (((w'.setCell ⟨wb0, 0, none⟩ (.pointer (some ⟨p, 0, none⟩))).setCell ⟨wb0, 1, none⟩ (.map (some cb))).setCell ⟨wb0, 2, none⟩ (.slice (some ⟨lb, 0, none⟩) L.length lc))) := fun w' hu => by
        obtain ⟨f1, f2⟩ := fw_of (hS.up hu) (hblk'.chg hu.chg (by simp)) hwl (by have := HL.out.1; have := HL.out.2.1; omega)
        rw [hlv] at f1 f2
        exact ⟨f1, (hu.chg.mono (by simp)).trans f2 (fun x hx => .inl hx)⟩
      have HSS := Lib.hid (And.intro hS hbs)
      have hqn : Hid (q ≠ wb0 ∧ ∀ g, (vr 1).ownBlock = some g → g ≠ wb0) := ⟨by have := hS.f1 q foot_p; omega, fun g hg => by have := hS.f1 g (foot_i (by omega) hg); omega⟩
      clear hblk hblk' hS hlv
      go_cut [] from 46 to 66 (fun wx => Fw wx wb0 p cb (.slice (some ⟨lb, 0, none⟩) L.length lc) v (mk4 bs) none2 L 59 0 ∧ Chg [wb0] wm wx)
      case first =>
          refine AnyT.start (S := fun w' => w'.cell? ⟨q, 0, none⟩ = some (.pointer (some ⟨p, 0, none⟩)) ∧ w'.cell? ⟨q, 1, none⟩ = some (.map (some cb)) ∧ w'.cell? ⟨q, 2, none⟩ = some (.slice (some ⟨lb, 0, none⟩) L.length lc)) 15 (by kernel_rfl) (HSW.out _ (Up.refl wm).drew) (fun hHeld => ?_)
          have hUd : Up wm wm.drew := (Up.refl wm).drew
          obtain ⟨e1, e2, e3, e4, e5, e6⟩ := HWB.out _ hUd
          generalize World.drew wm = wd at hUd hHeld e1 e2 e3 e4 e5 e6 ⊢
          refine AnyT.pick (i := 0) (oi := ⟨_, _, _, _, _, _⟩) (v := ?_) rfl (by kernel_rfl) (by kernel_rfl) (by kernel_rfl) (fun _ _ _ h => h) (Or.inl ⟨by rfl, ?y0_1⟩) ?_
          case' y0_1 => ((intro w hSw; go_simp) <;> (with_reducible rfl))
          try simp only [Act.put, List.setIfInBounds_toArray, List.set_cons_zero, List.set_cons_succ]
          refine AnyT.pick (i := 1) (oi := ⟨_, _, _, _, _, _⟩) (v := ?_) rfl (by kernel_rfl) (by kernel_rfl) (by kernel_rfl) (fun _ _ _ h => h) (Or.inl ⟨by rfl, ?y1_2⟩) ?_
          case' y1_2 => ((intro w hSw; go_simp) <;> (with_reducible rfl))
          try simp only [Act.put, List.setIfInBounds_toArray, List.set_cons_zero, List.set_cons_succ]
          refine AnyT.pick (i := 2) (oi := ⟨_, _, _, _, _, _⟩) (v := ?_) rfl (by kernel_rfl) (by kernel_rfl) (by kernel_rfl) (fun _ _ _ h => h) (Or.inl ⟨by rfl, ?y2_3⟩) ?_
          case' y2_3 => ((intro w hSw; go_simp) <;> (with_reducible rfl))
          try simp only [Act.put, List.setIfInBounds_toArray, List.set_cons_zero, List.set_cons_succ]
          refine AnyT.pick (i := 3) (oi := ⟨_, _, _, _, _, _⟩) (v := ?_) rfl (by kernel_rfl) (by kernel_rfl) (by kernel_rfl) (fun _ _ _ h => h) (Or.inl ⟨by rfl, ?y3_4⟩) ?_
          case' y3_4 => ((intro w hSw; go_simp) <;> (with_reducible rfl))
          try simp only [Act.put, List.setIfInBounds_toArray, List.set_cons_zero, List.set_cons_succ]
          refine AnyT.pick (i := 4) (oi := ⟨_, _, _, _, _, _⟩) (v := ?_) rfl (by kernel_rfl) (by kernel_rfl) (by kernel_rfl) (fun _ _ _ h => h) (Or.inl ⟨by rfl, ?y4_5⟩) ?_
          case' y4_5 => ((intro w hSw; go_simp) <;> (with_reducible rfl))
          try simp only [Act.put, List.setIfInBounds_toArray, List.set_cons_zero, List.set_cons_succ]
          refine AnyT.pick (i := 5) (oi := ⟨_, _, _, _, _, _⟩) (v := ?_) rfl (by kernel_rfl) (by kernel_rfl) (by kernel_rfl) (fun _ _ _ h => h) (Or.inl ⟨by rfl, ?y5_6⟩) ?_
          case' y5_6 => ((intro w hSw; go_simp) <;> (with_reducible rfl))
          try simp only [Act.put, List.setIfInBounds_toArray, List.set_cons_zero, List.set_cons_succ]
          refine AnyT.take (i := 6) (oi := ⟨_, _, _, _, _, _⟩) (v := ?_) rfl (by kernel_rfl) (by kernel_rfl) (by kernel_rfl) (by kernel_rfl) (fun _ _ _ h => h) (Or.inl ⟨by rfl, ?y6_7⟩) (by assumption) ?_
          case' y6_7 => ((intro w hSw; (try dsimp only at hSw); go_simp) <;> (with_reducible rfl))
          try simp only [Act.put, List.setIfInBounds_toArray, List.set_cons_zero, List.set_cons_succ]
          refine AnyT.pick (i := 7) (oi := ⟨_, _, _, _, _, _⟩) (v := ?_) rfl (by kernel_rfl) (by kernel_rfl) (by kernel_rfl) (fun _ _ _ h => h) (Or.inl ⟨by rfl, ?y7_8⟩) ?_
          case' y7_8 => ((intro w hSw; go_simp) <;> (with_reducible rfl))
          try simp only [Act.put, List.setIfInBounds_toArray, List.set_cons_zero, List.set_cons_succ]
          refine AnyT.pick (i := 8) (oi := ⟨_, _, _, _, _, _⟩) (v := ?_) rfl (by kernel_rfl) (by kernel_rfl) (by kernel_rfl) (fun _ _ _ h => h) (Or.inl ⟨by rfl, ?y8_9⟩) ?_
          case' y8_9 => ((intro w hSw; go_simp) <;> (with_reducible rfl))
          try simp only [Act.put, List.setIfInBounds_toArray, List.set_cons_zero, List.set_cons_succ]
          refine AnyT.pick (i := 9) (oi := ⟨_, _, _, _, _, _⟩) (v := ?_) rfl (by kernel_rfl) (by kernel_rfl) (by kernel_rfl) (fun _ _ _ h => h) (Or.inl ⟨by rfl, ?y9_10⟩) ?_
          case' y9_10 => ((intro w hSw; go_simp) <;> (with_reducible rfl))
          try simp only [Act.put, List.setIfInBounds_toArray, List.set_cons_zero, List.set_cons_succ]
          refine AnyT.take (i := 10) (oi := ⟨_, _, _, _, _, _⟩) (v := ?_) rfl (by kernel_rfl) (by kernel_rfl) (by kernel_rfl) (by kernel_rfl) (fun _ _ _ h => h) (Or.inl ⟨by rfl, ?y10_11⟩) (by assumption) ?_
          case' y10_11 => ((intro w hSw; (try dsimp only at hSw); go_simp) <;> (with_reducible rfl))
          try simp only [Act.put, List.setIfInBounds_toArray, List.set_cons_zero, List.set_cons_succ]
          refine AnyT.pick (i := 11) (oi := ⟨_, _, _, _, _, _⟩) (v := ?_) rfl (by kernel_rfl) (by kernel_rfl) (by kernel_rfl) (fun _ _ _ h => h) (Or.inl ⟨by rfl, ?y11_12⟩) ?_
          case' y11_12 => ((intro w hSw; go_simp) <;> (with_reducible rfl))
          try simp only [Act.put, List.setIfInBounds_toArray, List.set_cons_zero, List.set_cons_succ]
          refine AnyT.pick (i := 12) (oi := ⟨_, _, _, _, _, _⟩) (v := ?_) rfl (by kernel_rfl) (by kernel_rfl) (by kernel_rfl) (fun _ _ _ h => h) (Or.inl ⟨by rfl, ?y12_13⟩) ?_
          case' y12_13 => ((intro w hSw; go_simp) <;> (with_reducible rfl))
          try simp only [Act.put, List.setIfInBounds_toArray, List.set_cons_zero, List.set_cons_succ]
          refine AnyT.pick (i := 13) (oi := ⟨_, _, _, _, _, _⟩) (v := ?_) rfl (by kernel_rfl) (by kernel_rfl) (by kernel_rfl) (fun _ _ _ h => h) (Or.inl ⟨by rfl, ?y13_14⟩) ?_
          case' y13_14 => ((intro w hSw; go_simp) <;> (with_reducible rfl))
          try simp only [Act.put, List.setIfInBounds_toArray, List.set_cons_zero, List.set_cons_succ]
          refine AnyT.take (i := 14) (oi := ⟨_, _, _, _, _, _⟩) (v := ?_) rfl (by kernel_rfl) (by kernel_rfl) (by kernel_rfl) (by kernel_rfl) (fun _ _ _ h => h) (Or.inl ⟨by rfl, ?y14_15⟩) (by assumption) ?_
          case' y14_15 => ((intro w hSw; (try dsimp only at hSw); go_simp) <;> (with_reducible rfl))
          try simp only [Act.put, List.setIfInBounds_toArray, List.set_cons_zero, List.set_cons_succ]
          refine AnyT.pick (i := 15) (oi := ⟨_, _, _, _, _, _⟩) (v := ?_) rfl (by kernel_rfl) (by kernel_rfl) (by kernel_rfl) (fun _ _ _ h => h) (Or.inl ⟨by rfl, ?y15_16⟩) ?_
          case' y15_16 => ((intro w hSw; go_simp) <;> (with_reducible rfl))
          try simp only [Act.put, List.setIfInBounds_toArray, List.set_cons_zero, List.set_cons_succ]
          refine AnyT.pick (i := 16) (oi := ⟨_, _, _, _, _, _⟩) (v := ?_) rfl (by kernel_rfl) (by kernel_rfl) (by kernel_rfl) (fun _ _ _ h => h) (Or.inl ⟨by rfl, ?y16_17⟩) ?_
          case' y16_17 => ((intro w hSw; go_simp) <;> (with_reducible rfl))
          try simp only [Act.put, List.setIfInBounds_toArray, List.set_cons_zero, List.set_cons_succ]
          refine AllT.go (rs := [17]) (by kernel_rfl) (by simp) ?_
          refine AllT.late (o := ⟨_, _, _, _, _, _⟩) rfl (by decide) (fun K hK => ?_) AllT.nil
          go_simp
          refine hK.out _ _ trivial (fun _ => ?_)
          clear hK K
          try simp only [Act.put, List.setIfInBounds_toArray, List.set_cons_zero, List.set_cons_succ]
          refine AnyT.pick (i := 18) (oi := ⟨_, _, _, _, _, _⟩) (v := ?_) rfl (by kernel_rfl) (by kernel_rfl) (by kernel_rfl) (fun _ _ _ h => h) (Or.inl ⟨by rfl, ?y18_18⟩) ?_
          case' y18_18 => ((intro w hSw; go_simp) <;> (with_reducible rfl))
          try simp only [Act.put, List.setIfInBounds_toArray, List.set_cons_zero, List.set_cons_succ]
          refine AnyT.pick (i := 19) (oi := ⟨_, _, _, _, _, _⟩) (v := ?_) rfl (by kernel_rfl) (by kernel_rfl) (by kernel_rfl) (fun _ _ _ h => h) (Or.inl ⟨by rfl, ?y19_19⟩) ?_
          case' y19_19 => ((intro w hSw; go_simp) <;> (with_reducible rfl))
          try simp only [Act.put, List.setIfInBounds_toArray, List.set_cons_zero, List.set_cons_succ]
          refine AllT.go (rs := [20]) (by kernel_rfl) (by simp) ?_
          refine AllT.late (o := ⟨_, _, _, _, _, _⟩) rfl (by decide) (fun K hK => ?_) AllT.nil
          go_simp
          refine hK.out _ _ trivial (fun _ => ?_)
          clear hK K
          try simp only [Act.put, List.setIfInBounds_toArray, List.set_cons_zero, List.set_cons_succ]
          refine AnyT.pick (i := 21) (oi := ⟨_, _, _, _, _, _⟩) (v := ?_) rfl (by kernel_rfl) (by kernel_rfl) (by kernel_rfl) (fun _ _ _ h => h) (Or.inl ⟨by rfl, ?y21_20⟩) ?_
          case' y21_20 => ((intro w hSw; go_simp) <;> (with_reducible rfl))
          try simp only [Act.put, List.setIfInBounds_toArray, List.set_cons_zero, List.set_cons_succ]
          refine AnyT.pick (i := 22) (oi := ⟨_, _, _, _, _, _⟩) (v := ?_) rfl (by kernel_rfl) (by kernel_rfl) (by kernel_rfl) (fun _ _ _ h => h) (Or.inl ⟨by rfl, ?y22_21⟩) ?_
          case' y22_21 => ((intro w hSw; go_simp) <;> (with_reducible rfl))
          try simp only [Act.put, List.setIfInBounds_toArray, List.set_cons_zero, List.set_cons_succ]
          refine AllT.go (rs := [23]) (by kernel_rfl) (by simp) ?_
          refine AllT.late (o := ⟨_, _, _, _, _, _⟩) rfl (by decide) (fun K hK => ?_) AllT.nil
          go_simp
          refine hK.out _ _ trivial (fun _ => ?_)
          clear hK K
          try simp only [Act.put, List.setIfInBounds_toArray, List.set_cons_zero, List.set_cons_succ]
          refine AnyT.done (by kernel_rfl) ?_ _
          go_wp2_with fail
          go_meet
          exact FWO.out _ hUd
      case rest =>
        obtain ⟨hF, hC⟩ := hcut
        rw [← HLV.out] at hF
        obtain ⟨go_, gc, hvo, hgo, hob⟩ := HSS.out.1.objs
        have q3 : wc.cell? ⟨q, 3, none⟩ = some (vr 1) := (hC.cell (HSS.out.1.rw_.lt q foot_p) (by simpa using hqn.out.1)).trans (HSS.out.1.rw_.cell 1 (by decide)).1
        have co := (hC.cell (p := ⟨go_, a0, none⟩) hgo (by have := hqn.out.2 go_ (by rw [hvo]; rfl); simpa using this)).trans (hob a0 ha4)
        rw [hvo] at q3
        rw [← HL.out.2.2.1] at co
        have H8 := Lib.hid ((TT.out.1.up HSS.out.1.bel).chg hC (by simpa using TT.out.1.ne.2.1) (by simpa using TT.out.1.ne.2.2.2.2.1) (fun b hx => by rw [List.mem_singleton.1 hx]; exact TT.out.1.ge.1))
        have HFC := Lib.hid (And.intro hF hC)
        obtain ⟨z0, ⟨z1, z2, z3⟩, ⟨z4, z5, z6⟩⟩ := (H8.out.up ((Up.refl wc).alloc (.cells #[.int .u8 5, .int .i64 (r0 : Int), .string ⟨#[]⟩] 31))).c8
        clear hF hC hvo hgo hob FWO HWB HSW hqn hwl
        go_wp2_with (go_at_call 34; refine (TX.out _).mono ?_; rintro e w5 ⟨rfl, rfl⟩)
        go_roundw
        case rel => exact .inr (.inl ⟨rfl, _, _, TT.out.next HSS.out.1 HSS.out.2 HFC.out.1 HFC.out.2 _ ((Up.refl wc).alloc _)⟩)
        case measure => simp [intOf]
    · have TT := Lib.hid hT
      clear hT
      go_upto_region 11 with (go_at_call 35; refine (MK.out _ (Up.trans hb0 (TT.out.b4.bel))).mono ?_; rintro e wm ⟨q, p, cb, vr, v, bs, rfl, hbs, hS⟩)
      obtain ⟨g0, g1, g2, hblk⟩ := TT.out.b1
      have hblk' := hblk.chg hS.bel.chg (by simp)
      obtain ⟨lb, lc, hlv, -, -⟩ := (show World.ownsRow wm 0 _ 3 (vr 0) L.length _ from hS.rw_.ow 0 (by omega)).form (by have := HL.out.1; have := HL.out.2.1; omega)
      have HLV := Lib.hid hlv
      have HSW : Hid (∀ w', Up wm w' → w'.cell? ⟨q, 0, none⟩ = some (.pointer (some ⟨p, 0, none⟩)) ∧ w'.cell? ⟨q, 1, none⟩ = some (.map (some cb)) ∧ w'.cell? ⟨q, 2, none⟩ = some (.slice (some ⟨lb, 0, none⟩) L.length lc)) := fun w' hu => ⟨up_cell hu (hS.rw_.hd.cell 0), up_cell hu (hS.rw_.hd.cell 1), by rw [← hlv]; exact up_cell hu (hS.rw_.hd.cell 2)⟩
      have HWB : Hid (∀ w', Up wm w' → w'.cell? ⟨wb1, 0, none⟩ = some g0 ∧ w'.cell? ⟨wb1, 1, none⟩ = some g1 ∧ w'.cell? ⟨wb1, 2, none⟩ = some g2 ∧ w'.frozen? ⟨wb1, 0, none⟩ = false ∧ w'.frozen? ⟨wb1, 1, none⟩ = false ∧ w'.frozen? ⟨wb1, 2, none⟩ = false) := fun w' hu =>
        have hb2 := hblk'.chg hu.chg (by simp)
        ⟨hb2.cell 0, hb2.cell 1, hb2.cell 2, frozen_of_row w' wb1 _ _ _ hb2, frozen_of_row w' wb1 _ _ _ hb2, frozen_of_row w' wb1 _ _ _ hb2⟩
      have hwl : wb1 < wr.heap.size := hblk.lt
      have FWO : Hid (∀ w', Up wm w' → Fw (((w'.setCell ⟨wb1, 0, none⟩ (.pointer (some ⟨p, 0, none⟩))).setCell ⟨wb1, 1, none⟩ (.map (some cb))).setCell ⟨wb1, 2, none⟩ (.slice (some ⟨lb, 0, none⟩) L.length lc)) wb1 p cb (.slice (some ⟨lb, 0, none⟩) L.length lc) v (mk4 bs) none2 L 59 0 ∧ Chg [wb1] wm (((w'.setCell ⟨wb1, 0, none⟩ (.pointer (some ⟨p, 0, none⟩))).setCell ⟨wb1, 1, none⟩ (.map (some cb))).setCell ⟨wb1, 2, none⟩ (.slice (some ⟨lb, 0, none⟩) L.length lc))) := fun w' hu => by
        obtain ⟨f1, f2⟩ := fw_of (hS.up hu) (hblk'.chg hu.chg (by simp)) hwl (by have := HL.out.1; have := HL.out.2.1; omega)
        rw [hlv] at f1 f2
        exact ⟨f1, (hu.chg.mono (by simp)).trans f2 (fun x hx => .inl hx)⟩
      have HSS := Lib.hid (And.intro hS hbs)
      have hqn : Hid (q ≠ wb1 ∧ ∀ g, (vr 1).ownBlock = some g → g ≠ wb1) := ⟨by have := hS.f1 q foot_p; omega, fun g hg => by have := hS.f1 g (foot_i (by omega) hg); omega⟩
      clear hblk hblk' hS hlv
      go_cut [] from 46 to 66 (fun wx => Fw wx wb1 p cb (.slice (some ⟨lb, 0, none⟩) L.length lc) v (mk4 bs) none2 L 59 0 ∧ Chg [wb1] wm wx)
      case first =>
          refine AnyT.start (S := fun w' => w'.cell? ⟨q, 0, none⟩ = some (.pointer (some ⟨p, 0, none⟩)) ∧ w'.cell? ⟨q, 1, none⟩ = some (.map (some cb)) ∧ w'.cell? ⟨q, 2, none⟩ = some (.slice (some ⟨lb, 0, none⟩) L.length lc)) 15 (by kernel_rfl) (HSW.out _ (Up.refl wm).drew) (fun hHeld => ?_)
          have hUd : Up wm wm.drew := (Up.refl wm).drew
          obtain ⟨e1, e2, e3, e4, e5, e6⟩ := HWB.out _ hUd
          generalize World.drew wm = wd at hUd hHeld e1 e2 e3 e4 e5 e6 ⊢
          refine AnyT.pick (i := 0) (oi := ⟨_, _, _, _, _, _⟩) (v := ?_) rfl (by kernel_rfl) (by kernel_rfl) (by kernel_rfl) (fun _ _ _ h => h) (Or.inl ⟨by rfl, ?y0_22⟩) ?_
          case' y0_22 => ((intro w hSw; go_simp) <;> (with_reducible rfl))
          try simp only [Act.put, List.setIfInBounds_toArray, List.set_cons_zero, List.set_cons_succ]
          refine AnyT.pick (i := 1) (oi := ⟨_, _, _, _, _, _⟩) (v := ?_) rfl (by kernel_rfl) (by kernel_rfl) (by kernel_rfl) (fun _ _ _ h => h) (Or.inl ⟨by rfl, ?y1_23⟩) ?_
          case' y1_23 => ((intro w hSw; go_simp) <;> (with_reducible rfl))
          try simp only [Act.put, List.setIfInBounds_toArray, List.set_cons_zero, List.set_cons_succ]
          refine AnyT.pick (i := 2) (oi := ⟨_, _, _, _, _, _⟩) (v := ?_) rfl (by kernel_rfl) (by kernel_rfl) (by kernel_rfl) (fun _ _ _ h => h) (Or.inl ⟨by rfl, ?y2_24⟩) ?_
          case' y2_24 => ((intro w hSw; go_simp) <;> (with_reducible rfl))
          try simp only [Act.put, List.setIfInBounds_toArray, List.set_cons_zero, List.set_cons_succ]
          refine AnyT.pick (i := 3) (oi := ⟨_, _, _, _, _, _⟩) (v := ?_) rfl (by kernel_rfl) (by kernel_rfl) (by kernel_rfl) (fun _ _ _ h => h) (Or.inl ⟨by rfl, ?y3_25⟩) ?_
          case' y3_25 => ((intro w hSw; go_simp) <;> (with_reducible rfl))
          try simp only [Act.put, List.setIfInBounds_toArray, List.set_cons_zero, List.set_cons_succ]
          refine AnyT.pick (i := 4) (oi := ⟨_, _, _, _, _, _⟩) (v := ?_) rfl (by kernel_rfl) (by kernel_rfl) (by kernel_rfl) (fun _ _ _ h => h) (Or.inl ⟨by rfl, ?y4_26⟩) ?_
          case' y4_26 => ((intro w hSw; go_simp) <;> (with_reducible rfl))
          try simp only [Act.put, List.setIfInBounds_toArray, List.set_cons_zero, List.set_cons_succ]
          refine AnyT.pick (i := 5) (oi := ⟨_, _, _, _, _, _⟩) (v := ?_) rfl (by kernel_rfl) (by kernel_rfl) (by kernel_rfl) (fun _ _ _ h => h) (Or.inl ⟨by rfl, ?y5_27⟩) ?_
          case' y5_27 => ((intro w hSw; go_simp) <;> (with_reducible rfl))
          try simp only [Act.put, List.setIfInBounds_toArray, List.set_cons_zero, List.set_cons_succ]
          refine AnyT.take (i := 6) (oi := ⟨_, _, _, _, _, _⟩) (v := ?_) rfl (by kernel_rfl) (by kernel_rfl) (by kernel_rfl) (by kernel_rfl) (fun _ _ _ h => h) (Or.inl ⟨by rfl, ?y6_28⟩) (by assumption) ?_
          case' y6_28 => ((intro w hSw; (try dsimp only at hSw); go_simp) <;> (with_reducible rfl))
          try simp only [Act.put, List.setIfInBounds_toArray, List.set_cons_zero, List.set_cons_succ]
          refine AnyT.pick (i := 7) (oi := ⟨_, _, _, _, _, _⟩) (v := ?_) rfl (by kernel_rfl) (by kernel_rfl) (by kernel_rfl) (fun _ _ _ h => h) (Or.inl ⟨by rfl, ?y7_29⟩) ?_
          case' y7_29 => ((intro w hSw; go_simp) <;> (with_reducible rfl))
          try simp only [Act.put, List.setIfInBounds_toArray, List.set_cons_zero, List.set_cons_succ]
          refine AnyT.pick (i := 8) (oi := ⟨_, _, _, _, _, _⟩) (v := ?_) rfl (by kernel_rfl) (by kernel_rfl) (by kernel_rfl) (fun _ _ _ h => h) (Or.inl ⟨by rfl, ?y8_30⟩) ?_
          case' y8_30 => ((intro w hSw; go_simp) <;> (with_reducible rfl))
          try simp only [Act.put, List.setIfInBounds_toArray, List.set_cons_zero, List.set_cons_succ]
          refine AnyT.pick (i := 9) (oi := ⟨_, _, _, _, _, _⟩) (v := ?_) rfl (by kernel_rfl) (by kernel_rfl) (by kernel_rfl) (fun _ _ _ h => h) (Or.inl ⟨by rfl, ?y9_31⟩) ?_
          case' y9_31 => ((intro w hSw; go_simp) <;> (with_reducible rfl))
          try simp only [Act.put, List.setIfInBounds_toArray, List.set_cons_zero, List.set_cons_succ]
          refine AnyT.take (i := 10) (oi := ⟨_, _, _, _, _, _⟩) (v := ?_) rfl (by kernel_rfl) (by kernel_rfl) (by kernel_rfl) (by kernel_rfl) (fun _ _ _ h => h) (Or.inl ⟨by rfl, ?y10_32⟩) (by assumption) ?_
          case' y10_32 => ((intro w hSw; (try dsimp only at hSw); go_simp) <;> (with_reducible rfl))
          try simp only [Act.put, List.setIfInBounds_toArray, List.set_cons_zero, List.set_cons_succ]
          refine AnyT.pick (i := 11) (oi := ⟨_, _, _, _, _, _⟩) (v := ?_) rfl (by kernel_rfl) (by kernel_rfl) (by kernel_rfl) (fun _ _ _ h => h) (Or.inl ⟨by rfl, ?y11_33⟩) ?_
          case' y11_33 => ((intro w hSw; go_simp) <;> (with_reducible rfl))
          try simp only [Act.put, List.setIfInBounds_toArray, List.set_cons_zero, List.set_cons_succ]
          refine AnyT.pick (i := 12) (oi := ⟨_, _, _, _, _, _⟩) (v := ?_) rfl (by kernel_rfl) (by kernel_rfl) (by kernel_rfl) (fun _ _ _ h => h) (Or.inl ⟨by rfl, ?y12_34⟩) ?_
          case' y12_34 => ((intro w hSw; go_simp) <;> (with_reducible rfl))
          try simp only [Act.put, List.setIfInBounds_toArray, List.set_cons_zero, List.set_cons_succ]
          refine AnyT.pick (i := 13) (oi := ⟨_, _, _, _, _, _⟩) (v := ?_) rfl (by kernel_rfl) (by kernel_rfl) (by kernel_rfl) (fun _ _ _ h => h) (Or.inl ⟨by rfl, ?y13_35⟩) ?_
          case' y13_35 => ((intro w hSw; go_simp) <;> (with_reducible rfl))
          try simp only [Act.put, List.setIfInBounds_toArray, List.set_cons_zero, List.set_cons_succ]
          refine AnyT.take (i := 14) (oi := ⟨_, _, _, _, _, _⟩) (v := ?_) rfl (by kernel_rfl) (by kernel_rfl) (by kernel_rfl) (by kernel_rfl) (fun _ _ _ h => h) (Or.inl ⟨by rfl, ?y14_36⟩) (by assumption) ?_
          case' y14_36 => ((intro w hSw; (try dsimp only at hSw); go_simp) <;> (with_reducible rfl))
          try simp only [Act.put, List.setIfInBounds_toArray, List.set_cons_zero, List.set_cons_succ]
          refine AnyT.pick (i := 15) (oi := ⟨_, _, _, _, _, _⟩) (v := ?_) rfl (by kernel_rfl) (by kernel_rfl) (by kernel_rfl) (fun _ _ _ h => h) (Or.inl ⟨by rfl, ?y15_37⟩) ?_
          case' y15_37 => ((intro w hSw; go_simp) <;> (with_reducible rfl))
          try simp only [Act.put, List.setIfInBounds_toArray, List.set_cons_zero, List.set_cons_succ]
          refine AnyT.pick (i := 16) (oi := ⟨_, _, _, _, _, _⟩) (v := ?_) rfl (by kernel_rfl) (by kernel_rfl) (by kernel_rfl) (fun _ _ _ h => h) (Or.inl ⟨by rfl, ?y16_38⟩) ?_
          case' y16_38 => ((intro w hSw; go_simp) <;> (with_reducible rfl))
          try simp only [Act.put, List.setIfInBounds_toArray, List.set_cons_zero, List.set_cons_succ]
          refine AllT.go (rs := [17]) (by kernel_rfl) (by simp) ?_
          refine AllT.late (o := ⟨_, _, _, _, _, _⟩) rfl (by decide) (fun K hK => ?_) AllT.nil
          go_simp
          refine hK.out _ _ trivial (fun _ => ?_)
          clear hK K
          try simp only [Act.put, List.setIfInBounds_toArray, List.set_cons_zero, List.set_cons_succ]
          refine AnyT.pick (i := 18) (oi := ⟨_, _, _, _, _, _⟩) (v := ?_) rfl (by kernel_rfl) (by kernel_rfl) (by kernel_rfl) (fun _ _ _ h => h) (Or.inl ⟨by rfl, ?y18_39⟩) ?_
          case' y18_39 => ((intro w hSw; go_simp) <;> (with_reducible rfl))
          try simp only [Act.put, List.setIfInBounds_toArray, List.set_cons_zero, List.set_cons_succ]
          refine AnyT.pick (i := 19) (oi := ⟨_, _, _, _, _, _⟩) (v := ?_) rfl (by kernel_rfl) (by kernel_rfl) (by kernel_rfl) (fun _ _ _ h => h) (Or.inl ⟨by rfl, ?y19_40⟩) ?_
          case' y19_40 => ((intro w hSw; go_simp) <;> (with_reducible rfl))
          try simp only [Act.put, List.setIfInBounds_toArray, List.set_cons_zero, List.set_cons_succ]
          refine AllT.go (rs := [20]) (by kernel_rfl) (by simp) ?_
          refine AllT.late (o := ⟨_, _, _, _, _, _⟩) rfl (by decide) (fun K hK => ?_) AllT.nil
          go_simp
          refine hK.out _ _ trivial (fun _ => ?_)
          clear hK K
          try simp only [Act.put, List.setIfInBounds_toArray, List.set_cons_zero, List.set_cons_succ]
          refine AnyT.pick (i := 21) (oi := ⟨_, _, _, _, _, _⟩) (v := ?_) rfl (by kernel_rfl) (by kernel_rfl) (by kernel_rfl) (fun _ _ _ h => h) (Or.inl ⟨by rfl, ?y21_41⟩) ?_
          case' y21_41 => ((intro w hSw; go_simp) <;> (with_reducible rfl))
          try simp only [Act.put, List.setIfInBounds_toArray, List.set_cons_zero, List.set_cons_succ]
          refine AnyT.pick (i := 22) (oi := ⟨_, _, _, _, _, _⟩) (v := ?_) rfl (by kernel_rfl) (by kernel_rfl) (by kernel_rfl) (fun _ _ _ h => h) (Or.inl ⟨by rfl, ?y22_42⟩) ?_
          case' y22_42 => ((intro w hSw; go_simp) <;> (with_reducible rfl))
          try simp only [Act.put, List.setIfInBounds_toArray, List.set_cons_zero, List.set_cons_succ]
          refine AllT.go (rs := [23]) (by kernel_rfl) (by simp) ?_
          refine AllT.late (o := ⟨_, _, _, _, _, _⟩) rfl (by decide) (fun K hK => ?_) AllT.nil
          go_simp
          refine hK.out _ _ trivial (fun _ => ?_)
          clear hK K
          try simp only [Act.put, List.setIfInBounds_toArray, List.set_cons_zero, List.set_cons_succ]
          refine AnyT.done (by kernel_rfl) ?_ _
          go_wp2_with fail
          go_meet
          exact FWO.out _ hUd
      case rest =>
        obtain ⟨hF, hC⟩ := hcut
        rw [← HLV.out] at hF
        obtain ⟨go_, gc, hvo, hgo, hob⟩ := HSS.out.1.objs
        have q3 : wc.cell? ⟨q, 3, none⟩ = some (vr 1) := (hC.cell (HSS.out.1.rw_.lt q foot_p) (by simpa using hqn.out.1)).trans (HSS.out.1.rw_.cell 1 (by decide)).1
        have co := (hC.cell (p := ⟨go_, a0, none⟩) hgo (by have := hqn.out.2 go_ (by rw [hvo]; rfl); simpa using this)).trans (hob a0 ha4)
        rw [hvo] at q3
        rw [← HL.out.2.2.1] at co
        have H8 := Lib.hid ((TT.out.b4.up HSS.out.1.bel).chg hC (by simpa using TT.out.b4.ne.2.2.1) (by simpa using TT.out.b4.ne.2.2.2.2.2) (fun b hx => by rw [List.mem_singleton.1 hx]; exact TT.out.b4.ge.2.1))
        have HFC := Lib.hid (And.intro hF hC)
        obtain ⟨z0, ⟨z1, z2, z3⟩, ⟨z4, z5, z6⟩⟩ := (H8.out.up ((Up.refl wc).alloc (.cells #[.int .u8 5, .int .i64 (r0 : Int), .string ⟨#[]⟩] 31))).c8
        clear hF hC hvo hgo hob FWO HWB HSW hqn hwl
        go_wp2_with (go_at_call 34; refine (TX.out _).mono ?_; rintro e w5 ⟨rfl, rfl⟩)
        go_roundw
        case rel => exact .inr (.inr ⟨rfl, _, _, _, _, TT.out.ex.2, ⟨rfl, rfl, HSS.out.2⟩, TT.out.next HSS.out.1 HFC.out.1 HFC.out.2 _ ((Up.refl wc).alloc _)⟩)
        case measure => simp [intOf]
    · have TT := Lib.hid hT
      clear hT
      obtain ⟨xwb, xp, xcb, xlv, xv, xA, xC⟩ := x
      obtain ⟨ywb, yp, ycb, ylv, yv, yA, yC⟩ := y
      obtain ⟨hxA, hxC, hb⟩ := hxe
      obtain ⟨hyA, hyC, hb'⟩ := hye
      simp only at hxA hxC hyA hyC
      subst hxA hxC hyA hyC
      have hL0 : 0 < L.length := by have := HL.out.1; omega
      obtain ⟨lx, lcx, hxl, -, -⟩ := (Fw.row TT.out.fx).form hL0
      obtain ⟨ly, lcy, hyl, -, -⟩ := (Fw.row TT.out.fy).form hL0
      rw [HL.out.1] at hxl hyl
      simp only at hxl hyl
      subst hxl hyl
      have HXY := Lib.hid (And.intro hb hb')
      have W00 : Hid (Wy w0 wr s7 s8 r0 ⟨xwb, xp, xcb, .slice (some ⟨lx, 0, none⟩) n lcx, xv, mk4 bs, none2⟩ ⟨ywb, yp, ycb, .slice (some ⟨ly, 0, none⟩) n lcy, yv, mk4 bs', none2⟩ L (.slice none 0 0) []) := ⟨TT.out, ⟨rfl, .inl ⟨rfl, rfl⟩⟩, by simp [Value.ownBlock], by simp⟩
      clear TT hb hb' IX0 IX1 TX MK
      go_wp2_with fail
      go_loopw [12, 79] (fun gv i wr => ∃ (t : Nat) (bk : List (Int × Int)) (L' : List Mb), t ≤ m ∧ bk.length = t ∧ L'.length = n ∧ i = .int .i64 t ∧ Wy w0 wr s7 s8 r0 ⟨xwb, xp, xcb, .slice (some ⟨lx, 0, none⟩) n lcx, xv, mk4 bs, none2⟩ ⟨ywb, yp, ycb, .slice (some ⟨ly, 0, none⟩) n lcy, yv, mk4 bs', none2⟩ L' gv bk) (fun _ i _ => m - (intOf i).toNat)
      case atStart => exact ⟨0, [], L, by omega, rfl, HL.out.1, rfl, W00.out⟩
      case round =>
        obtain ⟨t, bk, L', ht, hbk, hL', rfl, hWy⟩ := hrel
        clear W00
        subst hbk
        have WW := Lib.hid hWy
        clear hWy
        by_cases hlt : bk.length < m
        · obtain ⟨gb0, goff, rfl, hgb, hgx⟩ := HW.out.resolve_left (by omega)
          obtain ⟨⟨c0, c1, c2, c3⟩, b1, b2, b3⟩ := hgx bk.length hlt
          have uw : Up w wr := Up.trans hb0 WW.out.tw.bel
          replace c0 := up_cell uw c0
          replace c1 := up_cell uw c1
          replace c2 := up_cell uw c2
          replace c3 := up_cell uw c3
          have hgw : gb0 < wr.heap.size := Nat.lt_of_lt_of_le hgb uw.size
          generalize gs bk.length = gx at c0 c1 c2 c3 b1 b2 b3
          obtain ⟨g1, g2, g3, gd⟩ := gx
          simp only at c0 c1 c2 c3 b1 b2 b3
          have it0 : (bk.length : Int) < (m : Int) := by omega
          obtain ⟨mm, hmm, hme⟩ := sb.tmod_small (a := g1) b1.1 hn0
          have hme2 : g1 % (n : Int) = (mm : Int) := by rw [← hme, Int.tmod_eq_emod_of_nonneg b1.1]
          obtain ⟨tt, htt⟩ : ∃ tt : Nat, g2 % 4 = (tt : Int) := ⟨(g2 % 4).toNat, by omega⟩
          have hb10 := b1.1
          have hwt : IntKind.i64.wrap (tt : Int) = tt := by rw [IntKind.wrap_i64] <;> omega
          have htm : g2.tmod 4 = (tt : Int) := by rw [← htt]; exact Int.tmod_eq_emod_of_nonneg b2.1
          have hnz : ¬ n = 0 := by omega
          have hwg : IntKind.i64.wrap g1 = g1 := by rw [IntKind.wrap_i64] <;> omega
          have HB3 := Lib.hid b3
          clear hgx uw
          go_upto_region 18 with (fail)
          clear c0 c1 c2 c3
          obtain ⟨WG, hWG⟩ : ∃ WG, WG = wr.alloc (.cells #[.int .u8 g1, .int .u8 g2, .int .u8 g3, .bool gd] 91) := ⟨_, rfl⟩
          have W2 : Hid (Wy w0 WG s7 s8 r0 ⟨xwb, xp, xcb, .slice (some ⟨lx, 0, none⟩) n lcx, xv, mk4 bs, none2⟩ ⟨ywb, yp, ycb, .slice (some ⟨ly, 0, none⟩) n lcy, yv, mk4 bs', none2⟩ L' u12 bk) := by rw [hWG]; exact WW.out.up ((Up.refl wr).alloc _)
          have HB14 : Hid (Blk WG wr.heap.size #[.int .u8 g1, .int .u8 g2, .int .u8 g3, .bool gd] 91) := by rw [hWG]; exact heap_alloc_new wr _
          have HS14 : Hid (∀ w', Up WG w' → w'.cell? ⟨wr.heap.size, 0, none⟩ = some (.int .u8 g1) ∧ w'.cell? ⟨wr.heap.size, 1, none⟩ = some (.int .u8 g2)) := fun w' hu => ⟨up_cell hu (HB14.out.cell 0), up_cell hu (HB14.out.cell 1)⟩
          have HN14 : Hid (∀ b, u12.ownBlock = some b → b ≠ wr.heap.size) := fun b hb => by have := (WW.out.row.lt b hb).2; omega
          have HN14x : Hid (wr.heap.size ≠ lx) := by have h9 : lx < wr.heap.size := Fw.lt WW.out.tw.fx lx (mem_ftF.2 (.inr (.inl rfl))); exact (Nat.ne_of_lt h9).symm
          have HBL : Hid (bk.length + 1 ≤ maxLen ∧ (bk.length + 1) * 16 ≤ 140737488355328) := ⟨by unfold maxLen; omega, by omega⟩
          have HMW : Hid ((Lit.int .i64 (mm : Int)).wf = true) := wf_i64 (by omega)
          obtain ⟨iC, hi, hz0, hz1, hz2⟩ := info_parts infoCr
          have HIC := Lib.hid (And.intro hi (And.intro hz0 (And.intro hz1 hz2)))
          clear hi hz0 hz1 hz2
          rw [← hWG]
          generalize wr.heap.size = s14 at HB14 HS14 HN14 HN14x ⊢
          clear hWG WW
          go_cut [12] from 83 to 96 (fun gv wx => ∃ gb gc, gv = .slice (some ⟨gb, 0, none⟩) (bk.length + 1) gc ∧ Wy w0 wx s7 s8 r0 ⟨xwb, xp, xcb, .slice (some ⟨lx, 0, none⟩) n lcx, xv, mk4 bs, none2⟩ ⟨ywb, yp, ycb, .slice (some ⟨ly, 0, none⟩) n lcy, yv, mk4 bs', none2⟩ L' gv (bk ++ [((mm : Int), (tt : Int))]) ∧ Blk wx s14 #[.int .u8 g1, .int .u8 g2, .int .u8 g3, .bool gd] 91)
          case first =>
            refine AnyT.start (S := fun w' => w'.cell? ⟨s14, 0, none⟩ = some (.int .u8 g1) ∧ w'.cell? ⟨s14, 1, none⟩ = some (.int .u8 g2)) 15 (by kernel_rfl) (HS14.out _ (Up.refl WG).drew) (fun hHeld => ?_)
            have hUd : Up WG WG.drew := (Up.refl WG).drew
            generalize World.drew WG = wd at hUd hHeld ⊢
            refine AnyT.pick (i := 0) (oi := ⟨_, _, _, _, _, _⟩) (v := ?_) rfl (by kernel_rfl) (by kernel_rfl) (by kernel_rfl) (fun _ _ _ h => h) (Or.inl ⟨by rfl, ?y0_43⟩) ?_
            case' y0_43 => ((intro w hSw; go_simp) <;> (with_reducible rfl))
            try simp only [Act.put, List.setIfInBounds_toArray, List.set_cons_zero, List.set_cons_succ]
            refine AnyT.pick (i := 1) (oi := ⟨_, _, _, _, _, _⟩) (v := ?_) rfl (by kernel_rfl) (by kernel_rfl) (by kernel_rfl) (fun _ _ _ h => h) (Or.inl ⟨by rfl, ?y1_44⟩) ?_
            case' y1_44 => ((intro w hSw; go_simp) <;> (with_reducible rfl))
            try simp only [Act.put, List.setIfInBounds_toArray, List.set_cons_zero, List.set_cons_succ]
            refine AnyT.take (i := 2) (oi := ⟨_, _, _, _, _, _⟩) (v := ?_) rfl (by kernel_rfl) (by kernel_rfl) (by kernel_rfl) (by kernel_rfl) (fun _ _ _ h => h) (Or.inl ⟨by rfl, ?y2_45⟩) (by assumption) ?_
            case' y2_45 => ((intro w hSw; (try dsimp only at hSw); go_simp) <;> (with_reducible rfl))
            try simp only [Act.put, List.setIfInBounds_toArray, List.set_cons_zero, List.set_cons_succ]
            refine AnyT.pick (i := 3) (oi := ⟨_, _, _, _, _, _⟩) (v := ?_) rfl (by kernel_rfl) (by kernel_rfl) (by kernel_rfl) (fun _ _ _ h => h) (Or.inl ⟨by rfl, ?y3_46⟩) ?_
            case' y3_46 => ((intro w hSw; go_simp) <;> (with_reducible rfl))
            try simp only [Act.put, List.setIfInBounds_toArray, List.set_cons_zero, List.set_cons_succ]
            refine AnyT.pick (i := 4) (oi := ⟨_, _, _, _, _, _⟩) (v := ?_) rfl (by kernel_rfl) (by kernel_rfl) (by kernel_rfl) (fun _ _ _ h => h) (Or.inl ⟨by rfl, ?y4_47⟩) ?_
            case' y4_47 => ((intro w hSw; go_simp) <;> (with_reducible rfl))
            try simp only [Act.put, List.setIfInBounds_toArray, List.set_cons_zero, List.set_cons_succ]
            refine AnyT.pick (i := 5) (oi := ⟨_, _, _, _, _, _⟩) (v := ?_) rfl (by kernel_rfl) (by kernel_rfl) (by kernel_rfl) (fun _ _ _ h => h) (Or.inl ⟨by rfl, ?y5_48⟩) ?_
            case' y5_48 => ((intro w hSw; go_simp) <;> (with_reducible rfl))
            try simp only [Act.put, List.setIfInBounds_toArray, List.set_cons_zero, List.set_cons_succ]
            refine AnyT.pick (i := 6) (oi := ⟨_, _, _, _, _, _⟩) (v := ?_) rfl (by kernel_rfl) (by kernel_rfl) (by kernel_rfl) (fun _ _ _ h => h) (Or.inl ⟨by rfl, ?y6_49⟩) ?_
            case' y6_49 => ((intro w hSw; go_simp) <;> (with_reducible rfl))
            try simp only [Act.put, List.setIfInBounds_toArray, List.set_cons_zero, List.set_cons_succ]
            refine AnyT.pick (i := 7) (oi := ⟨_, _, _, _, _, _⟩) (v := ?_) rfl (by kernel_rfl) (by kernel_rfl) (by kernel_rfl) (fun _ _ _ h => h) (Or.inl ⟨by rfl, ?y7_50⟩) ?_
            case' y7_50 => ((intro w hSw; go_simp) <;> (with_reducible rfl))
            try simp only [Act.put, List.setIfInBounds_toArray, List.set_cons_zero, List.set_cons_succ]
            refine AnyT.take (i := 8) (oi := ⟨_, _, _, _, _, _⟩) (v := ?_) rfl (by kernel_rfl) (by kernel_rfl) (by kernel_rfl) (by kernel_rfl) (fun _ _ _ h => h) (Or.inl ⟨by rfl, ?y8_51⟩) (by assumption) ?_
            case' y8_51 => ((intro w hSw; (try dsimp only at hSw); go_simp) <;> (with_reducible rfl))
            try simp only [Act.put, List.setIfInBounds_toArray, List.set_cons_zero, List.set_cons_succ]
            refine AnyT.pick (i := 9) (oi := ⟨_, _, _, _, _, _⟩) (v := ?_) rfl (by kernel_rfl) (by kernel_rfl) (by kernel_rfl) (fun _ _ _ h => h) (Or.inl ⟨by rfl, ?y9_52⟩) ?_
            case' y9_52 => ((intro w hSw; go_simp) <;> (with_reducible rfl))
            try simp only [Act.put, List.setIfInBounds_toArray, List.set_cons_zero, List.set_cons_succ]
            refine AnyT.pick (i := 10) (oi := ⟨_, _, _, _, _, _⟩) (v := ?_) rfl (by kernel_rfl) (by kernel_rfl) (by kernel_rfl) (fun _ _ _ h => h) (Or.inl ⟨by rfl, ?y10_53⟩) ?_
            case' y10_53 => ((intro w hSw; go_simp) <;> (with_reducible rfl))
            try simp only [Act.put, List.setIfInBounds_toArray, List.set_cons_zero, List.set_cons_succ]
            refine AnyT.pick (i := 11) (oi := ⟨_, _, _, _, _, _⟩) (v := ?_) rfl (by kernel_rfl) (by kernel_rfl) (by kernel_rfl) (fun _ _ _ h => h) (Or.inl ⟨by rfl, ?y11_54⟩) ?_
            case' y11_54 => ((intro w hSw; go_simp) <;> (with_reducible rfl))
            try simp only [Act.put, List.setIfInBounds_toArray, List.set_cons_zero, List.set_cons_succ]
            refine AllT.go (rs := [12]) (by kernel_rfl) (by simp) ?_
            refine AllT.early (o := ⟨_, _, _, _, _, _⟩) rfl (fun K hK => ?_) ?_
            · go_simp
              refine hK.out _ _ (HS14.out _ (hUd.alloc _)) (fun _ => ?_)
              clear hK K hHeld
              try simp only [Act.put, List.setIfInBounds_toArray, List.set_cons_zero, List.set_cons_succ]
              refine AllT.go (rs := [13]) (by kernel_rfl) (by simp) ?_
              refine AllT.early (o := ⟨_, _, _, _, _, _⟩) rfl (fun K hK => ?_) ?_
              · refine step_append_lies _ rfl (.tmp 83) (.tmp 95) 102 rfl 0 104 _ (.agg #[.int .i64 0, .int .i64 0]) 2 16 Tryz.underlying102 HIC.out.1 HIC.out.2.1 HIC.out.2.2.1 HIC.out.2.2.2 rfl (by decide) u12 bk.length (bk.flatMap cellsP) rfl (owns_chg (W2.out.up hUd).row ((Up.refl wd).alloc _).chg (by simp)) ⟨wd.heap.size, 0, none⟩ 1 1 [.int .i64 (mm : Int), .int .i64 (tt : Int)] rfl rfl (World.news_of_block (cs := #[.int .i64 (mm : Int), .int .i64 (tt : Int)]) (t := 104) (fr := (0, 0)) (heap_alloc_new wd _)) (by intro u hu; simp at hu; rcases hu with rfl | rfl <;> rfl) (by decide) HBL.out.1 HBL.out.2 (Nat.zero_le _) (wd.heap.size + 1) (by simp) ?_
                intro g gcap w5 hrow hgrow hat hlt5
                obtain ⟨hW5, hC5⟩ := Wy.next W2.out hUd HMW.out hrow rfl hgrow hat (by simp)
                have hb5 : Blk w5 s14 #[.int .u8 g1, .int .u8 g2, .int .u8 g3, .bool gd] 91 := HB14.out.chg hC5 (fun hx => HN14.out s14 (by simpa using hx) rfl)
                refine hK.out _ _ ⟨hb5.cell 0, hb5.cell 1⟩ (fun _ => ?_)
                clear hK K hrow hgrow hat hlt5 hC5
                try simp only [Act.put, List.setIfInBounds_toArray, List.set_cons_zero, List.set_cons_succ]
                refine AnyT.pick (i := 14) (oi := ⟨_, _, _, _, _, _⟩) (v := ?_) rfl (by kernel_rfl) (by kernel_rfl) (by kernel_rfl) (fun _ _ _ h => h) (Or.inl ⟨by rfl, ?y14_55⟩) ?_
                case' y14_55 => ((intro w hSw; go_simp) <;> (with_reducible rfl))
                try simp only [Act.put, List.setIfInBounds_toArray, List.set_cons_zero, List.set_cons_succ]
                refine AnyT.done (by kernel_rfl) ?_ _
                go_wp2_with fail
                go_meet
                exact ⟨g, gcap, rfl, hW5, hb5⟩
              exact AllT.nil
            exact AllT.nil
          case rest =>
            obtain ⟨gb, gc, rfl, hW3, hB3⟩ := hcut
            have W3 : Hid (_ ∧ Blk wc s14 #[.int .u8 g1, .int .u8 g2, .int .u8 g3, .bool gd] 91 ∧ (#[Value.int .u8 g1, .int .u8 g2, .int .u8 g3, .bool gd] : Array Value)[0]? = some (.int .u8 g1) ∧ s14 ≠ lx) := And.intro hW3 ⟨hB3, rfl, HN14x.out⟩
            have d2 := hB3.cell 2
            have d3 := hB3.cell 3
            simp only [List.getElem?_toArray, List.getElem?_cons_succ, List.getElem?_cons_zero] at d2 d3
            clear W2 HB14 HS14 hW3 hB3 htt htm hwt
            by_cases hk : gd = true ∧ g3 % 5 = 0
            · obtain ⟨rfl, h5⟩ := hk
              have h5b : (g3 % 5 == 0) = true := by simpa using h5
              have SRC1 := Lib.hid (src1 (m := mm) W3.out.1 W3.out.2 hL' hmm)
              go_upto_region 20 with (fail)
              refine AnyT.start (S := fun w' => w'.cell? ⟨s7, 0, none⟩ = some (.pointer (some ⟨xwb, 0, none⟩)) ∧ w'.cell? ⟨xwb, 2, none⟩ = some (.slice (some ⟨lx, 0, none⟩) n lcx) ∧ w'.cell? ⟨s14, 0, none⟩ = some (.int .u8 g1)) 13 (by kernel_rfl) (SRC1.out _ (Up.refl wc).drew).1 (fun hHeld => ?_)
              have hUd : Up wc wc.drew := (Up.refl wc).drew
              obtain ⟨⟨eb, e1⟩, e2⟩ := (SRC1.out _ hUd).2
              generalize World.drew wc = wd0 at hUd e1 e2 hHeld ⊢
              have HU0 := Lib.hid hUd
              clear hUd
              refine AnyT.pick (i := 0) (oi := ⟨_, _, _, _, _, _⟩) (v := ?_) rfl (by kernel_rfl) (by kernel_rfl) (by kernel_rfl) (fun _ _ _ h => h) (Or.inl ⟨by rfl, ?y0_69⟩) ?_
              case' y0_69 => ((intro w hSw; go_simp) <;> (with_reducible rfl))
              try simp only [Act.put, List.setIfInBounds_toArray, List.set_cons_zero, List.set_cons_succ]
              refine AnyT.take (i := 1) (oi := ⟨_, _, _, _, _, _⟩) (v := ?_) rfl (by kernel_rfl) (by kernel_rfl) (by kernel_rfl) (by kernel_rfl) (fun _ _ _ h => h) (Or.inl ⟨by rfl, ?y1_70⟩) (by assumption) ?_
              case' y1_70 => ((intro w hSw; (try dsimp only at hSw); go_simp) <;> (with_reducible rfl))
              try simp only [Act.put, List.setIfInBounds_toArray, List.set_cons_zero, List.set_cons_succ]
              refine AnyT.pick (i := 2) (oi := ⟨_, _, _, _, _, _⟩) (v := ?_) rfl (by kernel_rfl) (by kernel_rfl) (by kernel_rfl) (fun _ _ _ h => h) (Or.inl ⟨by rfl, ?y2_71⟩) ?_
              case' y2_71 => ((intro w hSw; go_simp) <;> (with_reducible rfl))
              try simp only [Act.put, List.setIfInBounds_toArray, List.set_cons_zero, List.set_cons_succ]
              refine AnyT.pick (i := 3) (oi := ⟨_, _, _, _, _, _⟩) (v := ?_) rfl (by kernel_rfl) (by kernel_rfl) (by kernel_rfl) (fun _ _ _ h => h) (Or.inl ⟨by rfl, ?y3_72⟩) ?_
              case' y3_72 => ((intro w hSw; go_simp) <;> (with_reducible rfl))
              try simp only [Act.put, List.setIfInBounds_toArray, List.set_cons_zero, List.set_cons_succ]
              refine AnyT.take (i := 4) (oi := ⟨_, _, _, _, _, _⟩) (v := ?_) rfl (by kernel_rfl) (by kernel_rfl) (by kernel_rfl) (by kernel_rfl) (fun _ _ _ h => h) (Or.inl ⟨by rfl, ?y4_73⟩) (by assumption) ?_
              case' y4_73 => ((intro w hSw; (try dsimp only at hSw); go_simp) <;> (with_reducible rfl))
              try simp only [Act.put, List.setIfInBounds_toArray, List.set_cons_zero, List.set_cons_succ]
              refine AnyT.pick (i := 5) (oi := ⟨_, _, _, _, _, _⟩) (v := ?_) rfl (by kernel_rfl) (by kernel_rfl) (by kernel_rfl) (fun _ _ _ h => h) (Or.inl ⟨by rfl, ?y5_74⟩) ?_
              case' y5_74 => ((intro w hSw; go_simp) <;> (with_reducible rfl))
              try simp only [Act.put, List.setIfInBounds_toArray, List.set_cons_zero, List.set_cons_succ]
              refine AnyT.take (i := 6) (oi := ⟨_, _, _, _, _, _⟩) (v := ?_) rfl (by kernel_rfl) (by kernel_rfl) (by kernel_rfl) (by kernel_rfl) (fun _ _ _ h => h) (Or.inl ⟨by rfl, ?y6_75⟩) (by assumption) ?_
              case' y6_75 => ((intro w hSw; (try dsimp only at hSw); go_simp) <;> (with_reducible rfl))
              try simp only [Act.put, List.setIfInBounds_toArray, List.set_cons_zero, List.set_cons_succ]
              refine AnyT.pick (i := 7) (oi := ⟨_, _, _, _, _, _⟩) (v := ?_) rfl (by kernel_rfl) (by kernel_rfl) (by kernel_rfl) (fun _ _ _ h => h) (Or.inl ⟨by rfl, ?y7_76⟩) ?_
              case' y7_76 => ((intro w hSw; go_simp) <;> (with_reducible rfl))
              try simp only [Act.put, List.setIfInBounds_toArray, List.set_cons_zero, List.set_cons_succ]
              refine AnyT.pick (i := 8) (oi := ⟨_, _, _, _, _, _⟩) (v := ?_) rfl (by kernel_rfl) (by kernel_rfl) (by kernel_rfl) (fun _ _ _ h => h) (Or.inl ⟨by rfl, ?y8_77⟩) ?_
              case' y8_77 => ((intro w hSw; go_simp) <;> (with_reducible rfl))
              try simp only [Act.put, List.setIfInBounds_toArray, List.set_cons_zero, List.set_cons_succ]
              refine AnyT.pick (i := 9) (oi := ⟨_, _, _, _, _, _⟩) (v := ?_) rfl (by kernel_rfl) (by kernel_rfl) (by kernel_rfl) (fun _ _ _ h => h) (Or.inl ⟨by rfl, ?y9_78⟩) ?_
              case' y9_78 => ((intro w hSw; go_simp) <;> (with_reducible rfl))
              try simp only [Act.put, List.setIfInBounds_toArray, List.set_cons_zero, List.set_cons_succ]
              refine AnyT.pick (i := 10) (oi := ⟨_, _, _, _, _, _⟩) (v := ?_) rfl (by kernel_rfl) (by kernel_rfl) (by kernel_rfl) (fun _ _ _ h => h) (Or.inl ⟨by rfl, ?y10_79⟩) ?_
              case' y10_79 => ((intro w hSw; go_simp) <;> (with_reducible rfl))
              try simp only [Act.put, List.setIfInBounds_toArray, List.set_cons_zero, List.set_cons_succ]
              refine AnyT.pick (i := 11) (oi := ⟨_, _, _, _, _, _⟩) (v := ?_) rfl (by kernel_rfl) (by kernel_rfl) (by kernel_rfl) (fun _ _ _ h => h) (Or.inl ⟨by rfl, ?y11_80⟩) ?_
              case' y11_80 => ((intro w hSw; go_simp) <;> (with_reducible rfl))
              try simp only [Act.put, List.setIfInBounds_toArray, List.set_cons_zero, List.set_cons_succ]
              refine AnyT.pick (i := 12) (oi := ⟨_, _, _, _, _, _⟩) (v := ?_) rfl (by kernel_rfl) (by kernel_rfl) (by kernel_rfl) (fun _ _ _ h => h) (Or.inl ⟨by rfl, ?y12_81⟩) ?_
              case' y12_81 => ((intro w hSw; go_simp) <;> (with_reducible rfl))
              try simp only [Act.put, List.setIfInBounds_toArray, List.set_cons_zero, List.set_cons_succ]
              refine AllT.go (rs := [13]) (by kernel_rfl) (by simp) ?_
              refine AllT.late (o := ⟨_, _, _, _, _, _⟩) rfl (by decide) (fun K hK => ?_) AllT.nil
              go_simp
              refine hK.out _ _ trivial (fun _ => ?_)
              clear hK K
              try simp only [Act.put, List.setIfInBounds_toArray, List.set_cons_zero, List.set_cons_succ]
              clear e1 e2 hHeld
              refine AnyT.done (by kernel_rfl) ?_ _
              go_wp2_with fail
              obtain ⟨wk, hwk⟩ : ∃ wk, wk = wd0.setCell ⟨lx, mm * 3 + 2, none⟩ (.bool true) := ⟨_, rfl⟩
              have SRC2 := Lib.hid (src2 W3.out.1 W3.out.2 hL' HXY.out.1 hmm HU0.out)
              rw [← hwk] at SRC2
              rw [← hwk]
              refine AnyT.start (S := fun w' => w'.cell? ⟨s7, 1, none⟩ = some (.pointer (some ⟨ywb, 0, none⟩)) ∧ w'.cell? ⟨ywb, 2, none⟩ = some (.slice (some ⟨ly, 0, none⟩) n lcy) ∧ w'.cell? ⟨s14, 0, none⟩ = some (.int .u8 g1)) 13 (by kernel_rfl) (SRC2.out _ (Up.refl wk).drew).1 (fun hHeld => ?_)
              have hUd : Up wk wk.drew := (Up.refl wk).drew
              obtain ⟨⟨eb, e1⟩, e2⟩ := (SRC2.out _ hUd).2
              generalize World.drew wk = wd1 at hUd e1 e2 hHeld ⊢
              have HU1 := Lib.hid hUd
              clear hUd
              refine AnyT.pick (i := 0) (oi := ⟨_, _, _, _, _, _⟩) (v := ?_) rfl (by kernel_rfl) (by kernel_rfl) (by kernel_rfl) (fun _ _ _ h => h) (Or.inl ⟨by rfl, ?y0_56⟩) ?_
              case' y0_56 => ((intro w hSw; go_simp) <;> (with_reducible rfl))
              try simp only [Act.put, List.setIfInBounds_toArray, List.set_cons_zero, List.set_cons_succ]
              refine AnyT.take (i := 1) (oi := ⟨_, _, _, _, _, _⟩) (v := ?_) rfl (by kernel_rfl) (by kernel_rfl) (by kernel_rfl) (by kernel_rfl) (fun _ _ _ h => h) (Or.inl ⟨by rfl, ?y1_57⟩) (by assumption) ?_
              case' y1_57 => ((intro w hSw; (try dsimp only at hSw); go_simp) <;> (with_reducible rfl))
              try simp only [Act.put, List.setIfInBounds_toArray, List.set_cons_zero, List.set_cons_succ]
              refine AnyT.pick (i := 2) (oi := ⟨_, _, _, _, _, _⟩) (v := ?_) rfl (by kernel_rfl) (by kernel_rfl) (by kernel_rfl) (fun _ _ _ h => h) (Or.inl ⟨by rfl, ?y2_58⟩) ?_
              case' y2_58 => ((intro w hSw; go_simp) <;> (with_reducible rfl))
              try simp only [Act.put, List.setIfInBounds_toArray, List.set_cons_zero, List.set_cons_succ]
              refine AnyT.pick (i := 3) (oi := ⟨_, _, _, _, _, _⟩) (v := ?_) rfl (by kernel_rfl) (by kernel_rfl) (by kernel_rfl) (fun _ _ _ h => h) (Or.inl ⟨by rfl, ?y3_59⟩) ?_
              case' y3_59 => ((intro w hSw; go_simp) <;> (with_reducible rfl))
              try simp only [Act.put, List.setIfInBounds_toArray, List.set_cons_zero, List.set_cons_succ]
              refine AnyT.take (i := 4) (oi := ⟨_, _, _, _, _, _⟩) (v := ?_) rfl (by kernel_rfl) (by kernel_rfl) (by kernel_rfl) (by kernel_rfl) (fun _ _ _ h => h) (Or.inl ⟨by rfl, ?y4_60⟩) (by assumption) ?_
              case' y4_60 => ((intro w hSw; (try dsimp only at hSw); go_simp) <;> (with_reducible rfl))
              try simp only [Act.put, List.setIfInBounds_toArray, List.set_cons_zero, List.set_cons_succ]
              refine AnyT.pick (i := 5) (oi := ⟨_, _, _, _, _, _⟩) (v := ?_) rfl (by kernel_rfl) (by kernel_rfl) (by kernel_rfl) (fun _ _ _ h => h) (Or.inl ⟨by rfl, ?y5_61⟩) ?_
              case' y5_61 => ((intro w hSw; go_simp) <;> (with_reducible rfl))
              try simp only [Act.put, List.setIfInBounds_toArray, List.set_cons_zero, List.set_cons_succ]
              refine AnyT.take (i := 6) (oi := ⟨_, _, _, _, _, _⟩) (v := ?_) rfl (by kernel_rfl) (by kernel_rfl) (by kernel_rfl) (by kernel_rfl) (fun _ _ _ h => h) (Or.inl ⟨by rfl, ?y6_62⟩) (by assumption) ?_
              case' y6_62 => ((intro w hSw; (try dsimp only at hSw); go_simp) <;> (with_reducible rfl))
              try simp only [Act.put, List.setIfInBounds_toArray, List.set_cons_zero, List.set_cons_succ]
              refine AnyT.pick (i := 7) (oi := ⟨_, _, _, _, _, _⟩) (v := ?_) rfl (by kernel_rfl) (by kernel_rfl) (by kernel_rfl) (fun _ _ _ h => h) (Or.inl ⟨by rfl, ?y7_63⟩) ?_
              case' y7_63 => ((intro w hSw; go_simp) <;> (with_reducible rfl))
              try simp only [Act.put, List.setIfInBounds_toArray, List.set_cons_zero, List.set_cons_succ]
              refine AnyT.pick (i := 8) (oi := ⟨_, _, _, _, _, _⟩) (v := ?_) rfl (by kernel_rfl) (by kernel_rfl) (by kernel_rfl) (fun _ _ _ h => h) (Or.inl ⟨by rfl, ?y8_64⟩) ?_
              case' y8_64 => ((intro w hSw; go_simp) <;> (with_reducible rfl))
              try simp only [Act.put, List.setIfInBounds_toArray, List.set_cons_zero, List.set_cons_succ]
              refine AnyT.pick (i := 9) (oi := ⟨_, _, _, _, _, _⟩) (v := ?_) rfl (by kernel_rfl) (by kernel_rfl) (by kernel_rfl) (fun _ _ _ h => h) (Or.inl ⟨by rfl, ?y9_65⟩) ?_
              case' y9_65 => ((intro w hSw; go_simp) <;> (with_reducible rfl))
              try simp only [Act.put, List.setIfInBounds_toArray, List.set_cons_zero, List.set_cons_succ]
              refine AnyT.pick (i := 10) (oi := ⟨_, _, _, _, _, _⟩) (v := ?_) rfl (by kernel_rfl) (by kernel_rfl) (by kernel_rfl) (fun _ _ _ h => h) (Or.inl ⟨by rfl, ?y10_66⟩) ?_
              case' y10_66 => ((intro w hSw; go_simp) <;> (with_reducible rfl))
              try simp only [Act.put, List.setIfInBounds_toArray, List.set_cons_zero, List.set_cons_succ]
              refine AnyT.pick (i := 11) (oi := ⟨_, _, _, _, _, _⟩) (v := ?_) rfl (by kernel_rfl) (by kernel_rfl) (by kernel_rfl) (fun _ _ _ h => h) (Or.inl ⟨by rfl, ?y11_67⟩) ?_
              case' y11_67 => ((intro w hSw; go_simp) <;> (with_reducible rfl))
              try simp only [Act.put, List.setIfInBounds_toArray, List.set_cons_zero, List.set_cons_succ]
              refine AnyT.pick (i := 12) (oi := ⟨_, _, _, _, _, _⟩) (v := ?_) rfl (by kernel_rfl) (by kernel_rfl) (by kernel_rfl) (fun _ _ _ h => h) (Or.inl ⟨by rfl, ?y12_68⟩) ?_
              case' y12_68 => ((intro w hSw; go_simp) <;> (with_reducible rfl))
              try simp only [Act.put, List.setIfInBounds_toArray, List.set_cons_zero, List.set_cons_succ]
              refine AllT.go (rs := [13]) (by kernel_rfl) (by simp) ?_
              refine AllT.late (o := ⟨_, _, _, _, _, _⟩) rfl (by decide) (fun K hK => ?_) AllT.nil
              go_simp
              refine hK.out _ _ trivial (fun _ => ?_)
              clear hK K
              try simp only [Act.put, List.setIfInBounds_toArray, List.set_cons_zero, List.set_cons_succ]
              clear e1 e2 hHeld
              refine AnyT.done (by kernel_rfl) ?_ _
              go_wp2_with fail
              go_roundw
              case rel => exact ⟨bk.length + 1, bk ++ [((mm : Int), (tt : Int))], mb.kill L' mm, by omega, by simp, by rw [kill_len]; exact hL', by go_num, Wy.kill2 W3.out.1 hL' HXY.out.1 HXY.out.2 hmm HU0.out (by rw [← hwk]; exact HU1.out)⟩
              case measure => simp [intOf]; omega
            · have hbr : gd = false ∨ (gd = true ∧ (g3 % 5 == 0) = false) := by
                cases gd with
                | false => exact .inl rfl
                | true => exact .inr ⟨rfl, by simp; exact fun h => hk ⟨rfl, h⟩⟩
              clear hk
              rcases hbr with rfl | ⟨rfl, h5⟩
              all_goals
                go_wp2_with fail
                go_roundw
                case rel => exact ⟨bk.length + 1, bk ++ [((mm : Int), (tt : Int))], L', by omega, by simp, hL', by go_num, W3.out.1⟩
                case measure => simp [intOf]; omega
        · have hte : bk.length = m := by omega
          subst hte
          obtain ⟨ga, gc, rfl, -, -, hga⟩ := ar.shape WW.out.row
          have HGA := Lib.hid hga
          clear hga
          have hbm : bk.length ≤ 8 := by omega
          have hbk51 : 51 + bk.length ≤ 59 := by omega
          obtain ⟨fb1, hfb1⟩ : ∃ b, bs[a0]? = some b := ⟨_, List.getElem?_eq_getElem (by have := HXY.out.1; omega)⟩
          obtain ⟨fb2, hfb2⟩ : ∃ b, bs'[a0]? = some b := ⟨_, List.getElem?_eq_getElem (by have := HXY.out.2; omega)⟩
          have hf1 : (mk4 bs).find r0 = some (recOb a0 fb1) := by rw [HL.out.2.2.1]; exact find4_at (by have := HXY.out.1; omega) hfb1
          have hf2 : (mk4 bs').find r0 = some (recOb a0 fb2) := by rw [HL.out.2.2.1]; exact find4_at (by have := HXY.out.2; omega) hfb2
          have BX := Lib.hid (wback (k := 51) (Fw.less WW.out.tw.fx hbk51 (Int.le_refl 0)) WW.out.row (fun b hb => (WW.out.nb b hb).1) hbm WW.out.ms hf1)
          obtain ⟨hbv, hbe, hbA⟩ := runR_bare L' bk.reverse (mk4 bs) (mk4 bs') none2 (5, (r0 : Int), ⟨#[]⟩) (bare4 (by rw [HXY.out.1, HXY.out.2]))
          obtain ⟨R, hR⟩ : ∃ R, R = runR L' bk.reverse (mk4 bs) none2 (5, (r0 : Int), ⟨#[]⟩) := ⟨_, rfl⟩
          obtain ⟨D, hD⟩ : ∃ D, D = runR L' bk.reverse (mk4 bs') none2 (5, (r0 : Int), ⟨#[]⟩) := ⟨_, rfl⟩
          rw [← hR] at BX hbv hbe hbA
          rw [← hD] at hbv hbe hbA
          obtain ⟨⟨v1, v2, v3⟩, hRv⟩ : ∃ y, R.v = y := ⟨_, rfl⟩
          obtain ⟨re, hRe⟩ : ∃ re, R.e = re := ⟨_, rfl⟩
          rw [hRv, hRe] at BX
          simp only [val] at BX
          have hD2 : D = runR L' (bk.take bk.length).reverse (mk4 bs') none2 (5, (r0 : Int), ⟨#[]⟩) := by rw [List.take_length]; exact hD
          have HD := Lib.hid (And.intro hD2 (And.intro hf2 (And.intro (hbv.symm.trans hRv) (And.intro (hbe.symm.trans hRe) hbA))))
          clear hR hD hD2 hf1 hf2 hfb1 hfb2 hbv hbe hbA hRv hRe
          obtain ⟨y0, ⟨y1, y2, y3⟩, -⟩ := WW.out.tw.c8
          have y4 := WW.out.tw.c7.1
          simp only at y4
          go_upto_region 24 with (go_at_call 43; refine BX.out.mono ?_; rintro e w3 ⟨xv', rfl, hF3, hC3, hfb3, hr0, hr1⟩)
          have T3 := Lib.hid (Tw.start (k1 := 51) WW.out hF3 hC3 hfb3 (v1, v2, v3) 31)
          have HR := Lib.hid (And.intro hr0 hr1)
          have HMS := Lib.hid WW.out.ms
          obtain ⟨u0, ⟨u1, u2, u3⟩, -⟩ := (WW.out.tw.left hF3 hC3 hfb3).c8.up ((Up.refl w3).alloc (.cells #[.int .u8 v1, .int .i64 v2, .string v3] 31))
          clear y0 y1 y2 y3 y4 BX hF3 hC3 hfb3 hr0 hr1 WW
          have hw : IntKind.i64.wrap ((bk.length : Int) - 1) = (bk.length : Int) - 1 := by rw [IntKind.wrap_i64] <;> omega
          go_upto_region 25 with (fail)
          simp only at T3
          generalize World.alloc _ _ = W3 at T3 ⊢
          generalize w3.heap.size + 1 = s17 at T3 ⊢
          generalize w3.heap.size = s15 at T3 ⊢
          clear u0 u1 u2 u3
          go_wp2_with fail
          clear hw
          have HT0 : Hid (Rr w0 W3 s7 s8 r0 s15 s17 ⟨xwb, xp, xcb, .slice (some ⟨lx, 0, none⟩) n lcx, xv', R.A, R.C⟩ ywb yp ycb (.slice (some ⟨ly, 0, none⟩) n lcy) L' (.slice ga bk.length gc) bk (v1, v2, v3) D bk.length 0) := .inl ⟨rfl, r0, yv, mk4 bs', none2, _, HD.out.1, HD.out.2.1, by
            have h1 := T3.out
            have h2 : Tw w0 W3 s7 s8 r0 s15 s17 ⟨xwb, xp, xcb, .slice (some ⟨lx, 0, none⟩) n lcx, xv', R.A, R.C⟩ ⟨ywb, yp, ycb, .slice (some ⟨ly, 0, none⟩) n lcy, yv, mk4 bs', none2⟩ L' 51 (51 + bk.length) (bk.length : Int) (bk.length - bk.length : Nat) (.slice ga bk.length gc) bk (v1, v2, v3) (5, (r0 : Int), ⟨#[]⟩) :=
              ⟨⟨Fw.less h1.tw.fx (by omega) (by omega), Fw.less h1.tw.fy (by omega) (by omega), h1.tw.dj, h1.tw.c7, h1.tw.l7, h1.tw.c8, h1.tw.l8, h1.tw.frx, h1.tw.fry, h1.tw.bel⟩, h1.row, h1.nb, h1.c15, h1.c17, h1.n15, h1.n17⟩
            exact h2⟩
          go_loopw [18, 19] (fun want i wr => ∃ (j : Nat) (x we : Int), j ≤ bk.length ∧ want = .int .i64 we ∧ i = .int .i64 x ∧ x = (j : Int) - 1 ∧ Rr w0 wr s7 s8 r0 s15 s17 ⟨xwb, xp, xcb, .slice (some ⟨lx, 0, none⟩) n lcx, xv', R.A, R.C⟩ ywb yp ycb (.slice (some ⟨ly, 0, none⟩) n lcy) L' (.slice ga bk.length gc) bk (v1, v2, v3) D j we) (fun _ i _ => (intOf i + 1).toNat)
          case atStart => exact ⟨bk.length, _, 0, by omega, rfl, rfl, rfl, HT0.out⟩
          case round =>
            clear HT0 T3
            obtain ⟨j, x, we, hj, rfl, rfl, hxj, hRr⟩ := hrel
            rcases hRr with ⟨rfl, rr, v, A, C, oo, hDj, hfo, hT⟩ | ⟨hwe, hDe, hc15, hub⟩
            · have TW := Lib.hid hT
              have HDF := Lib.hid (And.intro hDj hfo)
              clear hT hDj hfo
              by_cases hj0 : j = 0
              · subst hj0
                have hx1 : x = -1 := by omega
                clear hxj
                subst hx1
                have hD0 := HDF.out.1
                rw [List.take_zero] at hD0
                have hD1 : D = ⟨(5, (rr : Int), ⟨#[]⟩), 0, A, C⟩ := hD0
                have hre0 : re = 0 := HD.out.2.2.2.1.symm.trans (by rw [hD1])
                obtain ⟨r', o', hv3, hfx⟩ := HR.out.1 hre0
                have hv4 : (v1, v2, v3) = ((5, (rr : Int), ⟨#[]⟩) : V3) := HD.out.2.2.1.symm.trans (by rw [hD1])
                have hrr : r' = rr := by
                  have h1 := hv3.symm.trans hv4
                  have h2 : (r' : Int) = (rr : Int) := congrArg (fun y : V3 => y.2.1) h1
                  omega
                subst hrr
                have hbA := HD.out.2.2.2.2
                rw [hD1] at hbA
                have hbo : Ob.bare o' = Ob.bare oo := by
                  have h1 : (R.A.find r').map Ob.bare = (A.find r').map Ob.bare := by rw [← bare_find, ← bare_find, hbA]
                  rw [hfx, HDF.out.2] at h1
                  simpa using h1
                cases hv3
                subst hre0
                have ptx := (Fw.wr TW.out.tw.fx).pt
                have pty := (Fw.wr TW.out.tw.fy).pt
                simp only at ptx pty
                have hrl := find_lt (Fw.wr TW.out.tw.fy).rm HDF.out.2
                obtain ⟨slx, hslx, -⟩ := find_slot hfx
                obtain ⟨gx, capx, -, hogx, -⟩ := ptx.obAt hslx
                have OBX := obAt_find hogx ptx hfx
                obtain ⟨sly, hsly, -⟩ := find_slot HDF.out.2
                obtain ⟨gy, capy, -, hogy, -⟩ := pty.obAt hsly
                have OBY := obAt_find hogy pty HDF.out.2
                have GX : Hid (∀ wx, Up wr wx → Calls Tryz.prog 27 #[.pointer (some ⟨xp, 0, none⟩), .int .u64 r'] wx fun e w' => e = .returned (.pointer (some ⟨gx, (r' % 4294967296) * 16 + 2, none⟩)) ∧ Up wx w') := fun wx hx => ar.get_at wx xp r' xv' R.A o' gx hogx (ptx.up hx) (by omega) hfx
                have GY : Hid (∀ wx, Up wr wx → Calls Tryz.prog 27 #[.pointer (some ⟨yp, 0, none⟩), .int .u64 r'] wx fun e w' => e = .returned (.pointer (some ⟨gy, (r' % 4294967296) * 16 + 2, none⟩)) ∧ Up wx w') := fun wx hx => ar.get_at wx yp r' v A oo gy hogy (pty.up hx) (by omega) HDF.out.2
                have RX := Lib.hid (ref_x r' hrl ⟨#[]⟩)
                have ax1 := OBX 1 _ rfl
                have ax11 := OBX 11 _ rfl
                have ax13 := OBX 13 _ rfl
                have ay1 := OBY 1 _ rfl
                have ay11 := OBY 11 _ rfl
                have ay13 := OBY 13 _ rfl
                have e1 : o'.owner = oo.owner := by have := congrArg Ob.owner hbo; exact this
                have e2 : o'.membrane = oo.membrane := by have := congrArg Ob.membrane hbo; exact this
                have e3 : o'.deep = oo.deep := by have := congrArg Ob.deep hbo; exact this
                rw [e1] at ax1
                rw [e2] at ax11
                rw [e3] at ax13
                generalize (r' % 4294967296) * 16 + 2 = off at GX GY ax1 ax11 ax13 ay1 ay11 ay13
                have HA := Lib.hid (And.intro ax1 (And.intro ax11 (And.intro ax13 (And.intro ay1 (And.intro ay11 ay13)))))
                have t1 := TW.out.tw.c7.1
                have t2 := TW.out.tw.c7.2
                have t3 := (Fw.held TW.out.tw.fx).2.1
                have t4 := (Fw.held TW.out.tw.fy).2.1
                obtain ⟨-, ⟨t5, t6, t7⟩, -⟩ := TW.out.c15
                obtain ⟨-, ⟨t8, t9, t10⟩, -⟩ := TW.out.c17
                simp only at t1 t2 t3 t4 t5 t6 t7 t8 t9 t10
                have k1 : ∀ x : sb.Wd wr, x.w.cell? ⟨s7, 0, none⟩ = some (.pointer (some ⟨xwb, 0, none⟩)) := fun x => up_cell x.up t1
                have k2 : ∀ x : sb.Wd wr, x.w.cell? ⟨s7, 1, none⟩ = some (.pointer (some ⟨ywb, 0, none⟩)) := fun x => up_cell x.up t2
                have k3 : ∀ x : sb.Wd wr, x.w.cell? ⟨xwb, 0, none⟩ = some (.pointer (some ⟨xp, 0, none⟩)) := fun x => up_cell x.up t3
                have k4 : ∀ x : sb.Wd wr, x.w.cell? ⟨ywb, 0, none⟩ = some (.pointer (some ⟨yp, 0, none⟩)) := fun x => up_cell x.up t4
                have k5 : ∀ x : sb.Wd wr, x.w.cell? ⟨s15, 0, none⟩ = some (.int .u8 5) := fun x => up_cell x.up t5
                have k6 : ∀ x : sb.Wd wr, x.w.cell? ⟨s15, 1, none⟩ = some (.int .i64 (r' : Int)) := fun x => up_cell x.up t6
                have k7 : ∀ x : sb.Wd wr, x.w.cell? ⟨s15, 2, none⟩ = some (.string ⟨#[]⟩) := fun x => up_cell x.up t7
                have k8 : ∀ x : sb.Wd wr, x.w.cell? ⟨s17, 0, none⟩ = some (.int .u8 5) := fun x => up_cell x.up t8
                have k9 : ∀ x : sb.Wd wr, x.w.cell? ⟨s17, 1, none⟩ = some (.int .i64 (r' : Int)) := fun x => up_cell x.up t9
                have k10 : ∀ x : sb.Wd wr, x.w.cell? ⟨s17, 2, none⟩ = some (.string ⟨#[]⟩) := fun x => up_cell x.up t10
                clear ax1 ax11 ax13 ay1 ay11 ay13 e1 e2 e3 OBX OBY hogx hogy hslx hsly ptx pty hfx hbo hbA hv4 hD0 hD1 t1 t2 t3 t4 t5 t6 t7 t8 t9 t10
                go_upto_region 31 with (fail)
                refine sb.wp_region_up (by kernel_rfl) (by kernel_rfl) ?_
                repeat (go_big_quiet_step ((first
                  | (rename_i xq; (with_reducible refine (RX.out _).mono ?_); rintro e w2 ⟨rfl, rfl⟩; exact ⟨rfl, ⟨_, xq.up.alloc _⟩, rfl⟩)
                  | (rename_i xq; (with_reducible refine (GX.out _ xq.up).mono ?_); rintro e w2 ⟨rfl, hu⟩; exact ⟨rfl, ⟨_, xq.up.trans hu⟩, rfl⟩)
                  | (rename_i xq; (with_reducible refine (GY.out _ xq.up).mono ?_); rintro e w2 ⟨rfl, hu⟩; exact ⟨rfl, ⟨_, xq.up.trans hu⟩, rfl⟩))))
                refine wpQuiet_nil ?_
                intro _ hw'
                obtain ⟨xq, rfl⟩ := hw'
                clear k1 k2 k3 k4 k5 k6 k7 k8 k9 k10
                have ax1 := up_cell xq.up HA.out.1
                have ax11 := up_cell xq.up HA.out.2.1
                have ax13 := up_cell xq.up HA.out.2.2.1
                have ay1 := up_cell xq.up HA.out.2.2.2.1
                have ay11 := up_cell xq.up HA.out.2.2.2.2.1
                have ay13 := up_cell xq.up HA.out.2.2.2.2.2
                have hux := xq.up
                generalize xq.w = wq at *
                go_wp2_with fail
                go_quiet (fail)
                go_wp2_with fail
                go_ret
                exact ⟨rfl, Up.trans hb0 (TW.out.tw.bel.trans (up_drewN hux _))⟩
              · obtain ⟨i, rfl⟩ : ∃ i, j = i + 1 := ⟨j - 1, by omega⟩
                have hxi : x = (i : Int) := by omega
                clear hxj
                subst hxi
                obtain ⟨⟨xm, xt⟩, hy⟩ : ∃ y, bk[i]? = some y := ⟨_, List.getElem?_eq_getElem (by omega)⟩
                have hDD := HDF.out.1
                rw [runR_step hy] at hDD
                simp only at hDD
                obtain ⟨P, hP⟩ : ∃ P, P = passR A C L' false xm xt (5, (rr : Int), ⟨#[]⟩) := ⟨_, rfl⟩
                rw [← hP] at hDD
                have hga2 : ∃ gb, ga = some ⟨gb, 0, none⟩ := by
                  rcases HGA.out with ⟨-, h1, -⟩ | ⟨gb, h1, -⟩
                  · omega
                  · exact ⟨gb, h1⟩
                obtain ⟨gb, rfl⟩ := hga2
                obtain ⟨⟨y1, y2, y3⟩, hPv⟩ : ∃ y, P.v = y := ⟨_, rfl⟩
                obtain ⟨rw_, hPe⟩ : ∃ re, P.e = re := ⟨_, rfl⟩
                have PX : Hid (∀ wx, Up wr wx → Calls Tryz.prog 44 #[.pointer (some ⟨ywb, 0, none⟩), .int .i64 xm, .int .i64 xt, .agg #[.int .u8 5, .int .i64 (rr : Int), .string ⟨#[]⟩]] wx fun e w' => ∃ v', e = .returned (.tuple #[.agg #[.int .u8 y1, .int .i64 y2, .string y3], .int .i64 rw_]) ∧
                    Tw w0 w' s7 s8 r0 s15 s17 ⟨xwb, xp, xcb, .slice (some ⟨lx, 0, none⟩) n lcx, xv', R.A, R.C⟩ ⟨ywb, yp, ycb, .slice (some ⟨ly, 0, none⟩) n lcy, v', P.A, P.C⟩ L' 51 (51 + i) (bk.length : Int) ((bk.length - (i + 1) : Nat) + 1) (.slice (some ⟨gb, 0, none⟩) bk.length gc) bk (v1, v2, v3) (5, (rr : Int), ⟨#[]⟩) ∧ Chg (ycb :: foot yp v) wr w' ∧
                    ((rw_ = 0 → ∃ (r' : Nat) (o' : Ob), ((y1, y2, y3) : V3) = (5, (r' : Int), ⟨#[]⟩) ∧ P.A.find r' = some o') ∧ (rw_ ≠ 0 → ((y1, y2, y3) : V3) = zero3))) := by
                  intro wx hx
                  have T2 := TW.out.up hx
                  refine (wpass (k := 51 + i) T2.tw.fy (HMS.out _ (List.mem_of_getElem? hy)) HDF.out.2 y1 y2 rw_ y3 (by rw [← hP]; exact hPv) (by rw [← hP]; exact hPe)).mono ?_
                  rintro e w' ⟨v', rfl, h1, h2, h3, h4, h5⟩
                  rw [← hP] at h1 h4
                  exact ⟨v', rfl, T2.right h1 h2 h3, (hx.chg.mono (by simp)).trans h2 (fun x hx => .inl hx), h4, h5⟩
                have HS : Hid (∀ w', Chg (ycb :: foot yp v) wr w' → w'.cell? ⟨s7, 1, none⟩ = some (.pointer (some ⟨ywb, 0, none⟩)) ∧ w'.cell? ⟨gb, i * 2, none⟩ = some (.int .i64 xm) ∧ w'.cell? ⟨gb, i * 2 + 1, none⟩ = some (.int .i64 xt) ∧ w'.cell? ⟨s17, 0, none⟩ = some (.int .u8 5) ∧ w'.cell? ⟨s17, 1, none⟩ = some (.int .i64 (rr : Int)) ∧ w'.cell? ⟨s17, 2, none⟩ = some (.string ⟨#[]⟩)) := by
                  intro w' c
                  obtain ⟨h1, h2, h3, h4, h5, h6⟩ := TW.out.held hy
                  have n7 : s7 ∉ ycb :: foot yp v := fun hx => TW.out.tw.l7.2.2.1 (sub_ft _ hx)
                  have ng : gb ∉ ycb :: foot yp v := fun hx => (TW.out.nb gb rfl).1 (sub_ft _ hx)
                  have n17 : s17 ∉ ycb :: foot yp v := fun hx => TW.out.n17.2.1 (sub_ft _ hx)
                  have l7 := TW.out.tw.l7.1
                  have lg : gb < wr.heap.size := (TW.out.row.lt gb rfl).2
                  have l17 := TW.out.c17.1
                  exact ⟨(c.cell l7 n7).trans h1, (c.cell lg ng).trans h2, (c.cell lg ng).trans h3, (c.cell l17 n17).trans h4, (c.cell l17 n17).trans h5, (c.cell l17 n17).trans h6⟩
                have HRR := Lib.hid (And.intro hDD (And.intro hPv hPe))
                have hil : (i : Int) < (bk.length : Int) := by omega
                have hi0 : (0 : Int) ≤ (i : Int) := by omega
                have hw2 : IntKind.i64.wrap ((i : Int) - 1) = (i : Int) - 1 := by rw [IntKind.wrap_i64] <;> omega
                clear hy hDD hP hPv hPe
                go_wp2_with fail
                refine AnyT.start (S := fun w' => w'.cell? ⟨s7, 1, none⟩ = some (.pointer (some ⟨ywb, 0, none⟩)) ∧ w'.cell? ⟨gb, i * 2, none⟩ = some (.int .i64 xm) ∧ w'.cell? ⟨gb, i * 2 + 1, none⟩ = some (.int .i64 xt) ∧ w'.cell? ⟨s17, 0, none⟩ = some (.int .u8 5) ∧ w'.cell? ⟨s17, 1, none⟩ = some (.int .i64 (rr : Int)) ∧ w'.cell? ⟨s17, 2, none⟩ = some (.string ⟨#[]⟩)) 17 (by kernel_rfl) (HS.out _ ((Chg.refl (ycb :: foot yp v) wr).drew)) (fun hHeld => ?_)
                have hUd : Up wr wr.drew := (Up.refl wr).drew
                generalize World.drew wr = wd at hUd hHeld ⊢
                refine AnyT.pick (i := 0) (oi := ⟨_, _, _, _, _, _⟩) (v := ?_) rfl (by kernel_rfl) (by kernel_rfl) (by kernel_rfl) (fun _ _ _ h => h) (Or.inl ⟨by rfl, ?y0_82⟩) ?_
                case' y0_82 => ((intro w hSw; go_simp) <;> (with_reducible rfl))
                try simp only [Act.put, List.setIfInBounds_toArray, List.set_cons_zero, List.set_cons_succ]
                refine AnyT.take (i := 1) (oi := ⟨_, _, _, _, _, _⟩) (v := ?_) rfl (by kernel_rfl) (by kernel_rfl) (by kernel_rfl) (by kernel_rfl) (fun _ _ _ h => h) (Or.inl ⟨by rfl, ?y1_83⟩) (by assumption) ?_
                case' y1_83 => ((intro w hSw; (try dsimp only at hSw); go_simp) <;> (with_reducible rfl))
                try simp only [Act.put, List.setIfInBounds_toArray, List.set_cons_zero, List.set_cons_succ]
                refine AnyT.pick (i := 2) (oi := ⟨_, _, _, _, _, _⟩) (v := ?_) rfl (by kernel_rfl) (by kernel_rfl) (by kernel_rfl) (fun _ _ _ h => h) (Or.inl ⟨by rfl, ?y2_84⟩) ?_
                case' y2_84 => ((intro w hSw; go_simp) <;> (with_reducible rfl))
                try simp only [Act.put, List.setIfInBounds_toArray, List.set_cons_zero, List.set_cons_succ]
                refine AnyT.pick (i := 3) (oi := ⟨_, _, _, _, _, _⟩) (v := ?_) rfl (by kernel_rfl) (by kernel_rfl) (by kernel_rfl) (fun _ _ _ h => h) (Or.inl ⟨by rfl, ?y3_85⟩) ?_
                case' y3_85 => ((intro w hSw; go_simp) <;> (with_reducible rfl))
                try simp only [Act.put, List.setIfInBounds_toArray, List.set_cons_zero, List.set_cons_succ]
                refine AnyT.pick (i := 4) (oi := ⟨_, _, _, _, _, _⟩) (v := ?_) rfl (by kernel_rfl) (by kernel_rfl) (by kernel_rfl) (fun _ _ _ h => h) (Or.inl ⟨by rfl, ?y4_86⟩) ?_
                case' y4_86 => ((intro w hSw; go_simp) <;> (with_reducible rfl))
                try simp only [Act.put, List.setIfInBounds_toArray, List.set_cons_zero, List.set_cons_succ]
                refine AnyT.pick (i := 5) (oi := ⟨_, _, _, _, _, _⟩) (v := ?_) rfl (by kernel_rfl) (by kernel_rfl) (by kernel_rfl) (fun _ _ _ h => h) (Or.inl ⟨by rfl, ?y5_87⟩) ?_
                case' y5_87 => ((intro w hSw; go_simp) <;> (with_reducible rfl))
                try simp only [Act.put, List.setIfInBounds_toArray, List.set_cons_zero, List.set_cons_succ]
                refine AnyT.take (i := 6) (oi := ⟨_, _, _, _, _, _⟩) (v := ?_) rfl (by kernel_rfl) (by kernel_rfl) (by kernel_rfl) (by kernel_rfl) (fun _ _ _ h => h) (Or.inl ⟨by rfl, ?y6_88⟩) (by assumption) ?_
                case' y6_88 => ((intro w hSw; (try dsimp only at hSw); go_simp) <;> (with_reducible rfl))
                try simp only [Act.put, List.setIfInBounds_toArray, List.set_cons_zero, List.set_cons_succ]
                refine AnyT.pick (i := 7) (oi := ⟨_, _, _, _, _, _⟩) (v := ?_) rfl (by kernel_rfl) (by kernel_rfl) (by kernel_rfl) (fun _ _ _ h => h) (Or.inl ⟨by rfl, ?y7_89⟩) ?_
                case' y7_89 => ((intro w hSw; go_simp) <;> (with_reducible rfl))
                try simp only [Act.put, List.setIfInBounds_toArray, List.set_cons_zero, List.set_cons_succ]
                refine AnyT.pick (i := 8) (oi := ⟨_, _, _, _, _, _⟩) (v := ?_) rfl (by kernel_rfl) (by kernel_rfl) (by kernel_rfl) (fun _ _ _ h => h) (Or.inl ⟨by rfl, ?y8_90⟩) ?_
                case' y8_90 => ((intro w hSw; go_simp) <;> (with_reducible rfl))
                try simp only [Act.put, List.setIfInBounds_toArray, List.set_cons_zero, List.set_cons_succ]
                refine AnyT.pick (i := 9) (oi := ⟨_, _, _, _, _, _⟩) (v := ?_) rfl (by kernel_rfl) (by kernel_rfl) (by kernel_rfl) (fun _ _ _ h => h) (Or.inl ⟨by rfl, ?y9_91⟩) ?_
                case' y9_91 => ((intro w hSw; go_simp) <;> (with_reducible rfl))
                try simp only [Act.put, List.setIfInBounds_toArray, List.set_cons_zero, List.set_cons_succ]
                refine AnyT.pick (i := 10) (oi := ⟨_, _, _, _, _, _⟩) (v := ?_) rfl (by kernel_rfl) (by kernel_rfl) (by kernel_rfl) (fun _ _ _ h => h) (Or.inl ⟨by rfl, ?y10_92⟩) ?_
                case' y10_92 => ((intro w hSw; go_simp) <;> (with_reducible rfl))
                try simp only [Act.put, List.setIfInBounds_toArray, List.set_cons_zero, List.set_cons_succ]
                refine AnyT.take (i := 11) (oi := ⟨_, _, _, _, _, _⟩) (v := ?_) rfl (by kernel_rfl) (by kernel_rfl) (by kernel_rfl) (by kernel_rfl) (fun _ _ _ h => h) (Or.inl ⟨by rfl, ?y11_93⟩) (by assumption) ?_
                case' y11_93 => ((intro w hSw; (try dsimp only at hSw); go_simp) <;> (with_reducible rfl))
                try simp only [Act.put, List.setIfInBounds_toArray, List.set_cons_zero, List.set_cons_succ]
                refine AnyT.take (i := 12) (oi := ⟨_, _, _, _, _, _⟩) (v := ?_) rfl (by kernel_rfl) (by kernel_rfl) (by kernel_rfl) (by kernel_rfl) (fun _ _ _ h => h) (Or.inl ⟨by rfl, ?y12_94⟩) (by assumption) ?_
                case' y12_94 => ((intro w hSw; (try dsimp only at hSw); go_simp) <;> (with_reducible rfl))
                try simp only [Act.put, List.setIfInBounds_toArray, List.set_cons_zero, List.set_cons_succ]
                refine AllT.go (rs := [13]) (by kernel_rfl) (by simp) ?_
                refine AllT.early (o := ⟨_, _, _, _, _, _⟩) rfl (fun K hK => ?_) ?_
                · go_simp
                  go_at_call 44
                  refine (PX.out _ hUd).mono ?_
                  rintro e wp ⟨v', rfl, hTp, hCg, hr⟩
                  refine hK.out _ _ (HS.out _ hCg) (fun _ => ?_)
                  clear hK K hHeld
                  obtain ⟨z0, ⟨z1, z2, z3⟩, ⟨z4, z5, z6⟩⟩ := hTp.c17
                  have HT := Lib.hid (And.intro hTp hr)
                  clear hTp hr hCg
                  try simp only [Act.put, List.setIfInBounds_toArray, List.set_cons_zero, List.set_cons_succ]
                  refine AnyT.pick (i := 14) (oi := ⟨_, _, _, _, _, _⟩) (v := ?_) rfl (by kernel_rfl) (by kernel_rfl) (by kernel_rfl) (fun _ _ _ h => h) (Or.inl ⟨by rfl, ?y14_95⟩) ?_
                  case' y14_95 => ((intro w hSw; go_simp) <;> (with_reducible rfl))
                  try simp only [Act.put, List.setIfInBounds_toArray, List.set_cons_zero, List.set_cons_succ]
                  refine AnyT.pick (i := 15) (oi := ⟨_, _, _, _, _, _⟩) (v := ?_) rfl (by kernel_rfl) (by kernel_rfl) (by kernel_rfl) (fun _ _ _ h => h) (Or.inl ⟨by rfl, ?y15_96⟩) ?_
                  case' y15_96 => ((intro w hSw; go_simp) <;> (with_reducible rfl))
                  try simp only [Act.put, List.setIfInBounds_toArray, List.set_cons_zero, List.set_cons_succ]
                  refine AnyT.pick (i := 16) (oi := ⟨_, _, _, _, _, _⟩) (v := ?_) rfl (by kernel_rfl) (by kernel_rfl) (by kernel_rfl) (fun _ _ _ h => h) (Or.inl ⟨by rfl, ?y16_97⟩) ?_
                  case' y16_97 => ((intro w hSw; go_simp) <;> (with_reducible rfl))
                  try simp only [Act.put, List.setIfInBounds_toArray, List.set_cons_zero, List.set_cons_succ]
                  refine AllT.go (rs := [17]) (by kernel_rfl) (by simp) ?_
                  refine AllT.late (o := ⟨_, _, _, _, _, _⟩) rfl (by decide) (fun K hK => ?_) ?_
                  · go_simp
                    refine hK.out _ _ trivial (fun _ => ?_)
                    clear hK K
                    try simp only [Act.put, List.setIfInBounds_toArray, List.set_cons_zero, List.set_cons_succ]
                    refine AnyT.pick (i := 18) (oi := ⟨_, _, _, _, _, _⟩) (v := ?_) rfl (by kernel_rfl) (by kernel_rfl) (by kernel_rfl) (fun _ _ _ h => h) (Or.inl ⟨by rfl, ?y18_98⟩) ?_
                    case' y18_98 => ((intro w hSw; go_simp) <;> (with_reducible rfl))
                    try simp only [Act.put, List.setIfInBounds_toArray, List.set_cons_zero, List.set_cons_succ]
                    refine AnyT.done (by kernel_rfl) ?_ _
                    go_wp2_with fail
                    go_roundw
                    case rel => exact ⟨i, (i : Int) - 1, rw_, by omega, rfl, rfl, rfl, rr_next HT.out.1 HT.out.2.1 HT.out.2.2 HRR.out.1 HRR.out.2.1 HRR.out.2.2 hil⟩
                    case measure => simp [intOf]
                  exact AllT.nil
                exact AllT.nil
            · have hweb : (we == 0) = false := by simpa using hwe
              have hre2 : re = we := HD.out.2.2.2.1.symm.trans hDe
              have hz3 := HR.out.2 (by rw [hre2]; exact hwe)
              cases hz3
              have hk1 : ((we : Int) == we) = true := by simp
              subst hre2
              clear hxj hDe
              obtain ⟨q0, ⟨q1, q2, q3⟩, -⟩ := hc15
              simp only at q1 q2 q3
              by_cases hx0 : 0 ≤ x
              · go_wp2_with ((with_reducible refine wpl_eq zero3 zero3 ?_ ?_ ?_ true (by simp) ?_); (· first | rfl | go_simp); (· rfl); (· rfl))
                go_ret
                exact ⟨rfl, Up.trans hb0 hub⟩
              · have hx1 : ¬ (0 : Int) ≤ x := hx0
                have hx2 : x < 0 := by omega
                go_wp2_with ((with_reducible refine wpl_eq zero3 zero3 ?_ ?_ ?_ true (by simp) ?_); (· first | rfl | go_simp); (· rfl); (· rfl))
                go_ret
                exact ⟨rfl, Up.trans hb0 hub⟩
end Go.Proofs.YtojbphnkabfkpaaGreatDoor.mb

/- FrameBacks: the law. -/
set_option linter.unusedVariables false
set_option linter.unusedSimpArgs false
namespace Go.Proofs.YtojbphnkabfkpaaGreatDoor.mb
open Go.RowKit Go.Maps mem rec ar
attribute [local go_sem ↓] Go.wp_at_zero Go.wp_at_succ
set_option maxRecDepth 100000
set_option maxHeartbeats 1000000
theorem backs_early (a0 a1 : Option Addr) (n m c0 c1 : Nat) (z : Int) (w : World) (hL : Laid w) (h : 6 < n ∨ 8 < m ∨ n = 0) :
    Calls Tryz.prog 8 #[.slice a0 n c0, .slice a1 m c1, .int .u8 z] w fun e w' => e = .returned (.bool true) ∧ Up w w' := by
  by_cases h0 : 6 < n
  · have i0 : (6 : Int) < (n : Int) := by omega
    go_enter Tryz.func8, Tryz.ntmps8
    go_wp2_with (go_at_call 41; refine (awake16 _ hL).mono ?_; rintro e w0 ⟨rfl, hb0⟩)
    go_ret
    exact ⟨rfl, hb0⟩
  have i0 : (n : Int) ≤ 6 := by omega
  by_cases h1 : 8 < m
  · have i1 : (8 : Int) < (m : Int) := by omega
    go_enter Tryz.func8, Tryz.ntmps8
    go_wp2_with (go_at_call 41; refine (awake16 _ hL).mono ?_; rintro e w0 ⟨rfl, hb0⟩)
    go_ret
    exact ⟨rfl, hb0⟩
  have i1 : (m : Int) ≤ 8 := by omega
  have hz : n = 0 := by omega
  subst hz
  clear h h0 h1
  go_enter Tryz.func8, Tryz.ntmps8
  go_wp2_with (go_at_call 41; refine (awake16 _ hL).mono ?_; rintro e w0 ⟨rfl, hb0⟩)
  go_ret
  exact ⟨rfl, hb0⟩
theorem backs_law (v0 v1 : Value) (z : Int) (w : World) (hL : Laid w) (h0 : op.Handed 2 P2At v0 w) (h1 : op.Handed 4 GoAt v1 w) (hz : 0 ≤ z ∧ z ≤ 255) :
    Calls Tryz.prog 8 #[v0, v1, .int .u8 z] w fun e w' => e = .returned (.bool true) ∧ Below w.heap.size w w' := by
  obtain ⟨a0, n, c0, ps, rfl, g0⟩ := h0
  obtain ⟨a1, m, c1, gs, rfl, g1⟩ := h1
  by_cases he : 6 < n ∨ 8 < m ∨ n = 0
  · exact backs_early a0 a1 n m c0 c1 z w hL he
  exact backs a0 n c0 ps a1 m c1 gs z w hL (by omega) (by omega) (by omega) hz.1 hz.2 g0 g1
end Go.Proofs.YtojbphnkabfkpaaGreatDoor.mb

/- FrameBacks: a value goes through all crossings, the last one first, as through each by itself; the first error. No condition but the row's own. -/
set_option linter.unusedVariables false
namespace Go.Proofs.YtojbphnkabfkpaaGreatDoor.frameBacks
open Go Go.ChangeShapes Go.WideShapes Go.RowKit Go.Joins
set_option maxRecDepth 100000 in
theorem lifted (os : Os) (started : os.Started) (H : Type) (enc : TypeId × Value → H) :
    ReturnsInHanded {} Tryz.checked os 8 .any (fun w args => (Rows.frameBacksSpec.pre enc Tryz.prog Tryz.f8 [] false w args ∧ laidMetH Tryz.prog laid0 w) ∧ sizedMet enc Tryz.prog Tryz.f8 (OpenSpec.ofChange Rows.frameBacksSpec) false w args)
      (Rows.frameBacksSpec.post enc Tryz.prog Tryz.f8 false true false false) := by
  refine Frm.handed (C := Tryz.checked) (X := fun w _ => laidMetH Tryz.prog laid0 w) (fun _ _ _ hh h => h.of_heap hh) own started (by kernel_rfl) Tryz.func8
    (ChangeSpec.witness_at (enc := enc) (C := Tryz.checked) (os := os) (X := fun w _ => laidMetH Tryz.prog laid0 w) false (laidWorld os) #[.slice none 0 0, .slice none 0 0, .int .u8 0] 8 rfl (by kernel_rfl) (by kernel_rfl) (by kernel_rfl) (by kernel_rfl) (by kernel_rfl) (laidWorld_met os _)) ?_
  intro W base args ds gs before hval0 hW hwt hL hsh
  have hval : ∀ (j : Nat) t v, Tryz.f8.params[j]? = some t → args[j]? = some v → Value.okWide Tryz.prog W .any base t v := hval0
  have hW' := hW
  obtain ⟨p, q, hA0, hV, rfl, hfz, hnd⟩ := hW
  have hA : DataW.TrodAll enc Tryz.prog W 0 (fun _ => true) true Tryz.f8.params.toList args.toList ds p := hA0
  rw [Tryz.params8] at hA hval
  obtain ⟨v0, vs0, d0, ds0, p0, q0, hargs, rfl, rfl, h0, r0⟩ := trodAll_cons hA
  obtain ⟨v1, vs1, d1, ds1, p1, q1, rfl, rfl, rfl, h1, r1⟩ := trodAll_cons r0
  obtain ⟨v2, vs2, d2, ds2, p2, q2, rfl, rfl, rfl, h2, r2⟩ := trodAll_cons r1
  obtain ⟨rfl, rfl, rfl⟩ := trodAll_nil r2
  obtain rfl : args = #[v0, v1, v2] := by cases args; simp_all
  have hs0 : op.Handed 2 mb.P2At v0 W := by
    obtain ⟨a0, l0, c0, rfl⟩ := okWide_slice Tryz.underlying76 (hval 0 76 v0 rfl rfl)
    obtain ⟨fuel, hf⟩ := h0
    exact mb.open_prs hf
  have hs1 : op.Handed 4 mb.GoAt v1 W := by
    obtain ⟨a0, l0, c0, rfl⟩ := okWide_slice Tryz.underlying86 (hval 1 86 v1 rfl rfl)
    obtain ⟨fuel, hf⟩ := h1
    exact mb.open_gos hf
  obtain ⟨mz, rfl, _, _, wmz⟩ := open_int Tryz.underlying5 (hval 2 5 v2 rfl rfl) h2
  refine (mb.backs_law v0 v1 mz W (laid_of hL hsh) hs0 hs1 (op.u8wf wmz)).mono fun e W' ⟨he, bel⟩ => ?_
  exact ⟨_, he, Frm.law_post laidOut (tb := 4) rfl Tryz.underlying4 rfl (by kernel_rfl) hW' rfl bel⟩
set_option maxHeartbeats 20000000 in
theorem facts : joinedFacts Tryz.prog 8 Tryz.f8 Rows.frameBacksSpec Rows.frameBacksRow = true := by
  unfold joinedFacts
  simp only [Bool.and_eq_true]
  repeat' apply And.intro
  all_goals (as_aux_lemma => kernel_rfl)
theorem over : Rows.frameBacksRow.holds Tryz.pinned (OpenSpec.ofChange Rows.frameBacksSpec) :=
  OpenClaim.holds_of_wide 8 Tryz.f8 rfl rfl rfl rfl rfl rfl rfl ⟨rfl, rfl, rfl, rfl, rfl⟩ rfl rfl rfl rfl rfl (by kernel_rfl) Tryz.func8 facts
    (of_decide_eq_true (by kernel_rfl)) (by unfold Func.isWrapper; first | (rw [if_pos (by decide +kernel)]; kernel_rfl) | (rw [if_neg (by decide +kernel)]; exact ⟨rfl, rfl⟩))
    (fun os started H enc _ => lifted os started H enc)
end Go.Proofs.YtojbphnkabfkpaaGreatDoor.frameBacks

/- FrameBacks: a value goes through all crossings, the last one first, as through each by itself; the first error. No condition but the row's own. -/
set_option linter.unusedVariables false
namespace Go.Proofs.YtojbphnkabfkpaaGreatDoor
open Go
theorem frameBacks_holds : Rows.FrameBacksCardSaid :=
  Claim7.holds_tied_plain_at .later [] [.data, .data, .data, .sentinel, .sentinel, .data, .data, .data, .mapped, .data, .widerDeep, .mapped] true (true, "c9ac608b21664e63eccecbc1da0ed8dd6f887f91dad588e8f9d38ba70c0f02fe") true
    frameBacks.over (fun _ h => by cases h) (by as_aux_lemma => kernel_rfl) (fun _ h => by cases h) frameBacks_row_tie rfl ⟨rfl, rfl⟩ (by as_aux_lemma => kernel_rfl) rfl
    (fun f fn hf hfn => by
      obtain rfl : f = 8 := (Option.some.inj ((show Tryz.prog.funcNamed "paling/palinglaw16.FrameBacks" = some 8 by as_aux_lemma => kernel_rfl).symm.trans hf)).symm
      obtain rfl : fn = Tryz.f8 := (Option.some.inj (Tryz.func8.symm.trans hfn)).symm
      exact ⟨by as_aux_lemma => kernel_rfl, fun j t ht => by
        rw [Tryz.params8] at ht
        have hall : ∀ t ∈ [76, 86, 5], Tryz.prog.wantsStandIn t = false := by
          intro t ht
          simp only [List.mem_cons, List.not_mem_nil, or_false] at ht
          rcases ht with rfl | rfl | rfl <;> (as_aux_lemma => kernel_rfl)
        exact hall t (by simpa using List.mem_of_getElem? (by simpa using ht : [76, 86, 5][j]? = some t))⟩)
    (by as_aux_lemma => kernel_rfl)
#print axioms frameBacks_holds
end Go.Proofs.YtojbphnkabfkpaaGreatDoor
