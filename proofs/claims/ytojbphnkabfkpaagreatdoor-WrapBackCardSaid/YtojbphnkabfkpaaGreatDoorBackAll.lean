/- WrapBack: an object that goes through some membranes, and back the same way, is itself. No condition but the row's own. (6 texts in one.) -/
import Derived.Below
import Derived.Carry
import Derived.ProofKit
import Derived.OpenShut
import Derived.ChangeOld
import Derived.SizedLaws
import Derived.Handed
import Derived.LaidHandle
import Derived.MakeChecks
import Derived.LaidLaws
import Derived.ChangeSame
import Derived.ChangeVars
import Derived.JoinedOf
import Derived.RowKit
import Derived.KernelRfl
import Derived.Lib.SmallJoins
import Derived.Test.YtojbphnkabfkpaaGreatDoorBase
import Derived.Test.YtojbphnkabfkpaaGreatDoorMbLb
import Derived.Test.YtojbphnkabfkpaaGreatDoorAwake
import Derived.Test.YtojbphnkabfkpaaGreatDoorRows
import Derived.Test.YtojbphnkabfkpaaGreatDoorCards
import Derived.Test.YtojbphnkabfkpaaGreatDoorTie
import Derived.SevenTiedAt
import Derived.ChangeMaps5

/- A law's row out of its walk: where the call answers true and what was there stays as it was, the row's post holds: every argument reads as it did; the wrap that hands on the laid variables and the world's shape. No condition. -/
set_option linter.unusedVariables false
namespace Go.Proofs.YtojbphnkabfkpaaGreatDoor.Frm
open Go Go.ChangeShapes Go.WideShapes Go.RowKit Go.Joins
theorem trodAll_below {H : Type} {enc : TypeId × Value → H} {P : Program} (hl : laidOutB P = true) {W W' : World} (hb : Below W.heap.size W W') : ∀ (ts : List TypeId) (vs : List Value) (ds : List (DataW H)) (ps : List MemPlace),
    (ts.all fun t => P.readableRec t && decide (t < P.types.size)) = true → DataW.TrodAll enc P W 0 (fun _ => true) true ts vs ds ps → (∀ x ∈ ps, x.block < W.heap.size) →
    DataW.TrodAll enc P W' 0 (fun b => decide (b < W.heap.size)) true ts vs ds ps
  | [], vs, ds, ps, _, h, _ => by
    obtain ⟨rfl, rfl, rfl⟩ := trodAll_nil h
    exact trodAll_mk0
  | t :: ts, vs, ds, ps, ht, h, hlt => by
    obtain ⟨v0, vs0, d0, ds0, p0, q0, rfl, rfl, rfl, h0, r0⟩ := trodAll_cons h
    simp only [List.all_cons, Bool.and_eq_true, decide_eq_true_eq] at ht
    exact trodAll_cons_mk (Below.trod hl ht.1.1 ht.1.2 h0 hb (fun x hx => hlt x (List.mem_append_left _ hx))) (trodAll_below hl hb ts vs0 ds0 q0 ht.2 r0 (fun x hx => hlt x (List.mem_append_right _ hx)))

/-- The post of a law's row. -/
theorem law_post {H : Type} {enc : TypeId × Value → H} {P : Program} (hl : laidOutB P = true) {f : Func} {s : ChangeSpec} {apart fresh handsOn : Bool} {tb : TypeId} (hres : f.resultTypes = #[tb]) (hbool : P.underlying tb = some .bool)
    (hvars : s.vars = []) (hread : (f.params.toList.all fun t => P.readableRec t && decide (t < P.types.size)) = true) {W W' : World} {args : Array Value} {ds gs : List (DataW H)} {before : List MemPlace}
    (hW : DataW.Whole enc P f.params.toList s.vars apart W args.toList ds gs before) (hfn : s.fn H ds = { results := [.lit (.bool true)], args := ds }) (hb : Below W.heap.size W W') :
    s.post enc P f apart fresh handsOn false W args (.bool true) W' := by
  have hlt := hW.lt
  have hW0 := hW
  obtain ⟨p, q, hA, hV, rfl, hfz, hnd⟩ := hW0
  rw [hvars] at hV
  obtain ⟨rfl, rfl⟩ := trodVars_none hV
  refine ⟨ds, [], p ++ [], [], p, [], hW, ?_, ?_, ?_, hb.frame _, fun h => by cases h⟩
  · rw [List.append_nil, hfn, hres]
    exact trodAll_mk1 (shut_bool hbool _)
  · rw [List.append_nil, hfn]
    exact trodAll_below hl hb _ _ _ _ hread hA (fun x hx => hlt x (List.mem_append_left _ hx))
  · rw [List.append_nil, hfn, hvars]
    exact rfl
/-- The wrap: what the row lists, and the world's shape, are handed on. -/
theorem handed {H : Type} {enc : TypeId × Value → H} {a : Assume} {C : Checked} {os : Os} {f : FuncId} {fn : Func} {s : ChangeSpec} {conds : List PathCond} {apart fresh handsOn again : Bool} {X : World → Array Value → Prop}
    (hX : ∀ (w w' : World) (args : Array Value), w.heap = w'.heap → X w args → X w' args)
    (own : ownKnob C.prog.godebug = none) (started : os.Started) (noInit : C.prog.inits.idxOf? f = none) (hfn : C.prog.funcs[f]? = some fn)
    (witness : ∃ (w : World) (tape : Tape) (i : Input), w.os = os ∧ (w.forCall tape i).Shaped C.prog ∧ i.vars = [] ∧ Input.okWide C.prog (w.forCall tape i) .any w.heap.size f i ∧
      ((s.pre enc C.prog fn conds apart (w.forCall tape i).memory i.args ∧ X (w.forCall tape i).memory i.args) ∧ sizedMet enc C.prog fn (OpenSpec.ofChange s) apart (w.forCall tape i).memory i.args) ∧ a.holds C.prog (lone (Frame.enter C.prog f i.args .normal) [] (w.forCall tape i)))
    (contract : ∀ (W : World) (base : Nat) (args : Array Value) (ds gs : List (DataW H)) (before : List MemPlace),
      (∀ (j : Nat) t v, fn.params[j]? = some t → args[j]? = some v → Value.okWide C.prog W .any base t v) →
      DataW.Whole enc C.prog fn.params.toList s.vars apart W args.toList ds gs before →
      (DataW.weightsEach C.prog (fn.params.toList ++ s.plain.varTypes C.prog) (ds ++ gs)).all (· ≤ reachBytes) = true → X W args → W.ShapedOpen C.prog →
      Calls C.prog f args W fun e W' => ∃ v, e = .returned v ∧ s.post enc C.prog fn apart fresh handsOn again W args v W') :
    ReturnsInHanded a C os f .any (fun w args => (s.pre enc C.prog fn conds apart w args ∧ X w args) ∧ sizedMet enc C.prog fn (OpenSpec.ofChange s) apart w args) (s.post enc C.prog fn apart fresh handsOn again) := by
  refine returnsInHanded_of_calls own started noInit witness ?_
  intro w tape i _ hsh _ hok hpre hholds
  obtain ⟨_, _, _, fn', hfn', _, _, _, _, hval⟩ := hok
  have e : fn' = fn := Option.some.inj (hfn'.symm.trans hfn)
  subst e
  obtain ⟨⟨⟨ds, gs, before, hw, hc⟩, hx⟩, hz⟩ := hpre
  have hw' := DataW.Whole.of_heap (w' := w.forCall tape i) (by rfl) hw
  refine (contract (w.forCall tape i) w.heap.size i.args ds gs before hval hw' (hz.weights hw) (hX _ _ _ (by rfl) hx) hsh).mono fun e W' ⟨v, he, hp⟩ => ?_
  subst he
  exact ChangeSpec.post_blind hp
/-- A variable's block is there. -/
theorem big_of_shape {P : Program} {w : World} (h : w.ShapedOpen P) {g : Nat} (hg : g < P.globals.size) (h0 : (((begin P (fun _ _ => 0) default).world.heap[g]?).bind Obj.row?).isSome = true) : g + 1 ≤ w.heap.size := by
  obtain ⟨⟨zero, t⟩, h1⟩ := Option.isSome_iff_exists.1 h0
  obtain ⟨cs, hh, _⟩ := h.1 g zero t hg h1
  exact (Array.getElem?_eq_some_iff.1 hh).1
theorem u8wf {a : Int} (h : (Lit.int .u8 a).wf = true) : 0 ≤ a ∧ a ≤ 255 := by
  have h' : (decide (IntKind.u8.min ≤ a) && decide (a ≤ IntKind.u8.max)) = true := h
  simpa [IntKind.min, IntKind.max, IntKind.signed, IntKind.bits] using h'
theorem u16wf {a : Int} (h : (Lit.int .u16 a).wf = true) : 0 ≤ a ∧ a ≤ 65535 := by
  have h' : (decide (IntKind.u16.min ≤ a) && decide (a ≤ IntKind.u16.max)) = true := h
  simpa [IntKind.min, IntKind.max, IntKind.signed, IntKind.bits] using h'
theorem u32wf {a : Int} (h : (Lit.int .u32 a).wf = true) : 0 ≤ a ∧ a ≤ 4294967295 := by
  have h' : (decide (IntKind.u32.min ≤ a) && decide (a ≤ IntKind.u32.max)) = true := h
  simpa [IntKind.min, IntKind.max, IntKind.signed, IntKind.bits] using h'
theorem u64wf {a : Int} (h : (Lit.int .u64 a).wf = true) : 0 ≤ a ∧ a ≤ 18446744073709551615 := by
  have h' : (decide (IntKind.u64.min ≤ a) && decide (a ≤ IntKind.u64.max)) = true := h
  simpa [IntKind.min, IntKind.max, IntKind.signed, IntKind.bits] using h'
theorem i32wf {a : Int} (h : (Lit.int .i32 a).wf = true) : -2147483648 ≤ a ∧ a ≤ 2147483647 := by
  have h' : (decide (IntKind.i32.min ≤ a) && decide (a ≤ IntKind.i32.max)) = true := h
  simpa [IntKind.min, IntKind.max, IntKind.signed, IntKind.bits] using h'
theorem i16wf {a : Int} (h : (Lit.int .i16 a).wf = true) : -32768 ≤ a ∧ a ≤ 32767 := by
  have h' : (decide (IntKind.i16.min ≤ a) && decide (a ≤ IntKind.i16.max)) = true := h
  simpa [IntKind.min, IntKind.max, IntKind.signed, IntKind.bits] using h'
theorem i64wf {a : Int} (h : (Lit.int .i64 a).wf = true) : -9223372036854775808 ≤ a ∧ a ≤ 9223372036854775807 := by
  have h' : (decide (IntKind.i64.min ≤ a) && decide (a ≤ IntKind.i64.max)) = true := h
  simpa [IntKind.min, IntKind.max, IntKind.signed, IntKind.bits] using h'
end Go.Proofs.YtojbphnkabfkpaaGreatDoor.Frm

/- A world in which the laid variables read as they are laid: the witness of the rows. -/
set_option maxRecDepth 100000
set_option linter.unusedVariables false
namespace Go.Proofs.YtojbphnkabfkpaaGreatDoor
open Go Go.ChangeShapes Go.WideShapes Go.RowKit
def newBlocks (n : Nat) : Array Obj := #[.cells #[.string ⟨#[118, 97, 108, 117, 101, 32, 111, 117, 116, 32, 111, 102, 32, 114, 97, 110, 103, 101]⟩] 337,
  .cells #[.string ⟨#[105, 110, 118, 97, 108, 105, 100, 32, 115, 121, 110, 116, 97, 120]⟩] 337,
  .map #[{ key := .string ⟨#[33, 61]⟩, val := .int .i64 12, born := 0 }, { key := .string ⟨#[60]⟩, val := .int .i64 13, born := 1 }, { key := .string ⟨#[61, 61]⟩, val := .int .i64 11, born := 2 }] 3,
  .map #[{ key := .string ⟨#[43]⟩, val := .int .i64 8, born := 0 }, { key := .string ⟨#[45]⟩, val := .int .i64 9, born := 1 }] 2,
  .map #[{ key := .string ⟨#[42]⟩, val := .int .i64 10, born := 0 }] 1,
  .map #[{ key := .int .i64 6, val := .int .u8 7, born := 0 }, { key := .int .i64 7, val := .int .u8 8, born := 1 }, { key := .int .i64 8, val := .int .u8 9, born := 2 }, { key := .int .i64 9, val := .int .u8 10, born := 3 }, { key := .int .i64 10, val := .int .u8 11, born := 4 }, { key := .int .i64 11, val := .int .u8 12, born := 5 }, { key := .int .i64 12, val := .int .u8 13, born := 6 }, { key := .int .i64 13, val := .int .u8 14, born := 7 }, { key := .int .i64 14, val := .int .u8 3, born := 8 }] 9]
def setCells (h : Array Obj) (g : Nat) (cs : Array Value) : Array Obj := h.modify g fun
  | .cells _ t frozen => .cells cs t frozen
  | o => o
noncomputable def laidWorld (os : Os) : World :=
  let w0 := World.settled Tryz.prog os
  let n := w0.heap.size
  let h := w0.heap ++ newBlocks n
  let h := setCells h 9 #[.int .u8 0, .int .u8 1, .int .u8 28, .int .u8 2, .int .u8 29, .int .u8 14, .int .u8 24, .int .u8 3, .int .u8 30, .int .u8 22, .int .u8 20, .int .u8 15, .int .u8 25, .int .u8 17, .int .u8 4, .int .u8 8, .int .u8 31, .int .u8 27, .int .u8 13, .int .u8 23, .int .u8 21, .int .u8 19, .int .u8 16, .int .u8 7, .int .u8 26, .int .u8 12, .int .u8 18, .int .u8 6, .int .u8 11, .int .u8 5, .int .u8 10, .int .u8 9]
  let h := setCells h 10 #[.int .u8 0, .int .u8 1, .int .u8 56, .int .u8 2, .int .u8 57, .int .u8 49, .int .u8 28, .int .u8 3, .int .u8 61, .int .u8 58, .int .u8 42, .int .u8 50, .int .u8 38, .int .u8 29, .int .u8 17, .int .u8 4, .int .u8 62, .int .u8 47, .int .u8 59, .int .u8 36, .int .u8 45, .int .u8 43, .int .u8 51, .int .u8 22, .int .u8 53, .int .u8 39, .int .u8 33, .int .u8 30, .int .u8 24, .int .u8 18, .int .u8 12, .int .u8 5, .int .u8 63, .int .u8 55, .int .u8 48, .int .u8 27, .int .u8 60, .int .u8 41, .int .u8 37, .int .u8 16, .int .u8 46, .int .u8 35, .int .u8 44, .int .u8 21, .int .u8 52, .int .u8 32, .int .u8 23, .int .u8 11, .int .u8 54, .int .u8 26, .int .u8 40, .int .u8 15, .int .u8 34, .int .u8 20, .int .u8 31, .int .u8 10, .int .u8 25, .int .u8 14, .int .u8 19, .int .u8 9, .int .u8 13, .int .u8 8, .int .u8 7, .int .u8 6]
  let h := setCells h 6 #[.int .u64 1, .int .u64 10, .int .u64 100, .int .u64 1000, .int .u64 10000, .int .u64 100000, .int .u64 1000000, .int .u64 10000000, .int .u64 100000000, .int .u64 1000000000, .int .u64 10000000000, .int .u64 100000000000, .int .u64 1000000000000, .int .u64 10000000000000, .int .u64 100000000000000, .int .u64 1000000000000000, .int .u64 10000000000000000, .int .u64 100000000000000000, .int .u64 1000000000000000000, .int .u64 10000000000000000000]
  let h := setCells h 12 #[.iface 335 (.pointer (some ⟨n + 0, 0, none⟩))]
  let h := setCells h 11 #[.iface 335 (.pointer (some ⟨n + 1, 0, none⟩))]
  let h := setCells h 0 #[.string ⟨#[99, 111, 110, 115, 116]⟩, .string ⟨#[109, 111, 118, 101]⟩, .string ⟨#[110, 101, 119]⟩, .string ⟨#[103, 101, 116]⟩, .string ⟨#[112, 117, 116]⟩, .string ⟨#[99, 108, 111, 115, 101]⟩, .string ⟨#[99, 97, 108, 108]⟩, .string ⟨#[109, 105, 110, 117, 115]⟩, .string ⟨#[110, 111, 116]⟩, .string ⟨#[97, 100, 100]⟩, .string ⟨#[115, 117, 98]⟩, .string ⟨#[109, 117, 108]⟩, .string ⟨#[101, 113, 117, 97, 108]⟩, .string ⟨#[117, 110, 108, 105, 107, 101]⟩, .string ⟨#[108, 101, 115, 115]⟩, .string ⟨#[106, 117, 109, 112]⟩, .string ⟨#[98, 97, 99, 107]⟩, .string ⟨#[117, 110, 108, 101, 115, 115]⟩, .string ⟨#[114, 101, 116, 117, 114, 110]⟩, .string ⟨#[116, 104, 114, 111, 119]⟩, .string ⟨#[116, 114, 121]⟩, .string ⟨#[100, 111, 110, 101]⟩]
  let h := setCells h 5 #[.string ⟨#[]⟩, .string ⟨#[]⟩, .string ⟨#[]⟩, .string ⟨#[]⟩, .string ⟨#[]⟩, .string ⟨#[]⟩, .string ⟨#[45]⟩, .string ⟨#[33]⟩, .string ⟨#[43]⟩, .string ⟨#[45]⟩, .string ⟨#[42]⟩, .string ⟨#[61, 61]⟩, .string ⟨#[33, 61]⟩, .string ⟨#[60]⟩, .string ⟨#[]⟩, .string ⟨#[]⟩, .string ⟨#[]⟩, .string ⟨#[]⟩]
  let h := setCells h 3 #[.string ⟨#[108, 101, 116]⟩, .string ⟨#[105, 102]⟩, .string ⟨#[101, 108, 115, 101]⟩, .string ⟨#[119, 104, 105, 108, 101]⟩, .string ⟨#[114, 101, 116, 117, 114, 110]⟩, .string ⟨#[116, 104, 114, 111, 119]⟩, .string ⟨#[116, 114, 121]⟩, .string ⟨#[99, 97, 116, 99, 104]⟩, .string ⟨#[102, 110]⟩, .string ⟨#[110, 105, 108]⟩, .string ⟨#[116, 114, 117, 101]⟩, .string ⟨#[102, 97, 108, 115, 101]⟩]
  let h := setCells h 4 #[.map (some (n + 2)), .map (some (n + 3)), .map (some (n + 4))]
  let h := setCells h 2 #[.string ⟨#[114, 101, 116, 117, 114, 110]⟩, .int .i64 5, .string ⟨#[116, 104, 114, 111, 119]⟩, .int .i64 6]
  let h := setCells h 1 #[.string ⟨#[108, 101, 110]⟩, .string ⟨#[102, 114, 101, 101, 122, 101]⟩, .string ⟨#[102, 114, 111, 122, 101, 110]⟩, .string ⟨#[98, 114, 97, 110, 100]⟩, .string ⟨#[107, 105, 110, 100]⟩, .string ⟨#[116, 101, 120, 116]⟩]
  let h := setCells h 7 #[.map (some (n + 5))]
  { w0 with heap := h }
theorem own : ownKnob Tryz.prog.godebug = none := by kernel_rfl
theorem laidOut : laidOutB Tryz.prog = true := by kernel_rfl
theorem laid_plain : (laid0.all fun x => x.2.handleName?.isNone) = true := by kernel_rfl
theorem laid_met {w : World} (h : laidMetH Tryz.prog laid0 w) : laidMet Tryz.prog laid0 w := by
  rw [MakeChecks.laidMetH_plain _ _ _ laid_plain] at h
  exact h
theorem laidWorld_met (os : Os) (args : Array Value) : laidMetH Tryz.prog laid0 ((laidWorld os).forCall (fun _ _ => 0) ⟨#[], args, []⟩).memory := by
  rw [MakeChecks.laidMetH_plain _ _ _ laid_plain]
  exact laidMet_of_run' 8 (by kernel_rfl) (by kernel_rfl)
theorem big {w : World} (h : w.ShapedOpen Tryz.prog) : 13 ≤ w.heap.size := Frm.big_of_shape (g := 12) h (of_decide_eq_true (by kernel_rfl)) (by kernel_rfl)
theorem laid_of {w : World} (h : laidMetH Tryz.prog laid0 w) (hs : w.ShapedOpen Tryz.prog) : Laid w := laid_of_met (laid_met h) (big hs)
end Go.Proofs.YtojbphnkabfkpaaGreatDoor

/- WrapBack: the walk (printed by bw_gen.py). -/
set_option linter.unusedVariables false
set_option linter.unusedSimpArgs false
namespace Go.Proofs.YtojbphnkabfkpaaGreatDoor.mb
open Go.RowKit Go.Maps mem rec ar
attribute [local go_sem ↓] Go.wp_at_zero Go.wp_at_succ
set_option maxRecDepth 100000
set_option maxHeartbeats 20000000
theorem back (pa : Option Addr) (n cap : Nat) (ps : Nat → Int × Int) (wa : Option Addr) (m wcap : Nat) (ws : Nat → Int) (z : Int) (w : World) (hL : Laid w) (hn0 : 0 < n) (hn : n ≤ 6) (hm : m ≤ 6) (hz0 : 0 ≤ z) (hz1 : z ≤ 255)
    (hp : n = 0 ∨ ∃ b off, pa = some ⟨b, off, none⟩ ∧ b < w.heap.size ∧ ∀ i, i < n → P2At w b (off + i * 2) (ps i)) (hw : m = 0 ∨ ∃ b off, wa = some ⟨b, off, none⟩ ∧ b < w.heap.size ∧ ∀ i, i < m → op.U8At w b (off + i * 1) (ws i)) :
    Calls Tryz.prog 6 #[.slice pa n cap, .slice wa m wcap, .int .u8 z] w fun e w' => e = .returned (.bool true) ∧ Up w w' := by
  have HP := Lib.hid hp
  have HW := Lib.hid hw
  clear hp hw
  have il0 : ¬ ((n : Int) = 0) := by omega
  have il1 : (n : Int) ≤ 6 := by omega
  have il2 : (m : Int) ≤ 6 := by omega
  have il4 : ((n : Int) == 0) = false := by simp; omega
  obtain ⟨a0, ha0⟩ : ∃ a0 : Nat, z % 4 = (a0 : Int) := ⟨(z % 4).toNat, by omega⟩
  have ha4 : a0 < 4 := by omega
  have MK : Hid (∀ w0, Up w w0 → Calls Tryz.prog 35 #[.slice pa n cap] w0 fun e w' => ∃ (q p cb : Nat) (vr v : Nat → Value) (bs : List Nat), e = .returned (.pointer (some ⟨q, 0, none⟩)) ∧ bs.length = 4 ∧ St w0 w' q p cb vr v (mk4 bs) none2 ((List.range n).map fun i => sideOf (ps i)) 59 0) := by
    intro w0 hu
    refine make_walk pa n cap ps w0 hn ?_
    rcases HP.out with h | ⟨b, off, h1, h2, h3⟩
    · exact .inl h
    · exact .inr ⟨b, off, h1, Nat.lt_of_lt_of_le h2 hu.size, fun i hi => by obtain ⟨c0, c1, c2⟩ := h3 i hi; exact ⟨up_cell hu c0, up_cell hu c1, c2⟩⟩
  go_enter Tryz.func6, Tryz.ntmps6
  go_upto_region 5 with (go_at_call 31; refine (awake15 _ hL).mono ?_; rintro e w0 ⟨rfl, hb0⟩)
  go_upto_region 6 with (go_at_call 35; refine (MK.out _ hb0).mono ?_; rintro e w1 ⟨q, p, cb, vr, v, bs, rfl, hbs, hS⟩)
  have hdd := dead_side ps n
  obtain ⟨L, hL2⟩ : ∃ L, L = (List.range n).map fun i => sideOf (ps i) := ⟨_, rfl⟩
  rw [← hL2] at hS hdd
  have hLn : L.length = n := by rw [hL2]; simp
  clear hL2 MK HP
  go_upto_region 7 with (fail)
  clear ha0 hz0 hz1
  obtain ⟨go_, gc, hvo, hgo, hob⟩ := hS.objs
  have q3 := (hS.rw_.cell 1 (by decide)).1
  rw [hvo] at q3
  have co := hob a0 ha4
  have B0 := Lib.hid (Bst.start (i := a0) (b := 0) (ty := 31) hS hbs ha4)
  obtain ⟨r0, hr0⟩ : ∃ r0 : Nat, r0 = 4294967296 + a0 := ⟨_, rfl⟩
  rw [← hr0] at co B0
  have TX := Lib.hid (object_x r0 (by omega))
  simp only [val] at TX
  have ia0 : (0 : Int) ≤ (a0 : Int) := by omega
  have ia1 : (a0 : Int) < 4 := by omega
  have ia2 : ¬ (4 : Int) ≤ (a0 : Int) := by omega
  have HB0 := Lib.hid (And.intro hb0 (And.intro hdd (And.intro hLn hn0)))
  clear hb0 hdd hLn hS hob hr0 hvo
  go_upto_region 10 with (go_at_call 34; refine (TX.out _).mono ?_; rintro e w5 ⟨rfl, rfl⟩)
  clear TX co q3
  generalize World.alloc _ _ = W1 at B0 ⊢
  generalize hs9 : w1.heap.size + 1 = s9 at B0 ⊢
  generalize s9 + 1 = s10 at B0 ⊢
  clear hs9
  go_wp2_with fail
  go_loopw [8, 11, 53] (fun at_ vb i wr => ∃ (t : Nat) (v : Nat → Value) (A : Ar) (C : Ca) (bk : List (Int × Int)) (r : Nat) (a : Int), t ≤ m ∧ bk.length ≤ t ∧ at_ = .int .i64 a ∧ i = .int .i64 t ∧ Bst w0 wr q p cb vr v A C L (59 - t) t vb bk s9 s10 r0 r a) (fun _ _ i _ => m - (intOf i).toNat)
  case atStart => exact ⟨0, v, _, _, [], r0, a0, by omega, by simp, rfl, rfl, B0.out⟩
  case round =>
    obtain ⟨t, v, A, C, bk, r, a, ht, hbk, rfl, rfl, hB⟩ := hrel
    clear B0
    have BB := Lib.hid hB
    clear hB
    by_cases hlt : t < m
    · obtain ⟨wb, woff, rfl, hwb, hwx⟩ := HW.out.resolve_left (by omega)
      obtain ⟨hx, hx0, hx1⟩ := hwx t hlt
      have cx := up_cell (Up.trans HB0.out.1 BB.out.st.bel) hx
      simp only [Nat.mul_one] at cx
      generalize ws t = x at cx hx0 hx1
      have it0 : (t : Int) < (m : Int) := by omega
      obtain ⟨mm, hmm, hme⟩ := sb.tmod_small (a := x) hx0 hn0
      have hme2 : x % (n : Int) = (mm : Int) := by rw [← hme, Int.tmod_eq_emod_of_nonneg hx0]
      have hwbw : wb < wr.heap.size := Nat.lt_of_lt_of_le hwb (Up.trans HB0.out.1 BB.out.st.bel).size
      clear hwx hx
      go_upto_region 14 with (fail)
      clear hme hme2 cx hx0 hx1
      obtain ⟨k, hk⟩ : ∃ k, 59 - t = k + 1 := ⟨58 - t, by omega⟩
      rw [hk] at BB
      have HT : Hid (59 - (t + 1) = k ∧ ((t + 1 : Nat) : Int) = (t : Int) + 1) := ⟨by omega, by omega⟩
      have ht6 : t < 6 := by omega
      clear hk
      have q2 : wr.cell? ⟨q, 2, none⟩ = some (vr 0) := (BB.out.st.rw_.cell 0 (by decide)).1
      have hLp : 0 < L.length := by have h1 := HB0.out.2.2.1; omega
      have OX := Lib.hid (other_x wr (vr 0) L mm a (BB.out.st.list hLp))
      cases ho : otherR L mm a with
      | none =>
        rw [ho] at OX
        simp only [Option.getD_none, Option.isSome_none] at OX
        go_wp2_with (go_at_call 36; refine OX.out.mono ?_; rintro e w2 ⟨rfl, hU2⟩)
        go_roundw
        case rel => exact ⟨t + 1, v, A, C, bk, r, a, by omega, by omega, rfl, by go_num, by rw [HT.out.1, HT.out.2]; exact (BB.out.up hU2).less (by omega) (by omega)⟩
        case measure => simp [intOf]; omega
      | some into =>
        rw [ho] at OX
        simp only [Option.getD_some, Option.isSome_some] at OX
        go_upto_region 16 with (go_at_call 36; refine OX.out.mono ?_; rintro e w2 ⟨rfl, hU2⟩)
        have B2 := Lib.hid (BB.out.up hU2)
        have ho' := other_inv ho
        have hwf : (Lit.int .i64 (mm : Int)).wf = true := wf_i64 (by omega)
        have HO := Lib.hid (And.intro ho' (And.intro (HB0.out.2.1 mm hmm) hwf))
        obtain ⟨o, hf, how⟩ := B2.out.pth.found
        have PX := Lib.hid (mid_of B2.out.st rfl hLp (by omega) hwf ho' (HB0.out.2.1 mm hmm) hf how)
        simp only [val] at PX
        have HW0 := Lib.hid (heldW B2.out.st B2.out.c10)
        have hq1 : q < w2.heap.size := B2.out.st.rw_.lt q foot_p
        have hs1 : s10 < w2.heap.size := B2.out.c10.1
        have HN : Hid (q ∉ cb :: foot p v ∧ s10 ∉ cb :: foot p v) := ⟨B2.out.st.dj q foot_p, B2.out.n10.2.1⟩
        have HBL : Hid (bk.length + 1 ≤ maxLen ∧ (bk.length + 1) * 16 ≤ 140737488355328 ∧ bk.length ≤ t) := ⟨by unfold maxLen; omega, by omega, hbk⟩
        clear BB ho ho' hwf hf how OX hU2 hbk q2
        go_cut [17, 18] from 74 to 92 (fun x y wx => ∃ (xb r' : Nat) (v' : Nat → Value) (A' : Ar) (C' : Ca), x = .pointer (some ⟨xb, 0, none⟩) ∧ y = .int .i64 0 ∧ Mid16 w0 w2 wx q p cb vr v v' A A' C' L k ((t : Int) + 1) r r' xb mm into)
        case first =>
          refine AnyT.start (S := fun w' => w'.cell? ⟨q, 2, none⟩ = some (vr 0) ∧ w'.cell? ⟨q, 0, none⟩ = some (.pointer (some ⟨p, 0, none⟩)) ∧ w'.cell? ⟨q, 1, none⟩ = some (.map (some cb)) ∧ w'.cell? ⟨s10, 0, none⟩ = some (.int .u8 5) ∧ w'.cell? ⟨s10, 1, none⟩ = some (.int .i64 (r : Int)) ∧ w'.cell? ⟨s10, 2, none⟩ = some (.string ⟨#[]⟩)) 20 (by kernel_rfl) (HW0.out.up (Up.refl w2).drew) (fun hHeld => ?_)
          have hUd : Up w2 w2.drew := (Up.refl w2).drew
          generalize World.drew w2 = w2d at hUd hHeld ⊢
          refine AnyT.pick (i := 0) (oi := ⟨_, _, _, _, _, _⟩) (v := ?_) rfl (by kernel_rfl) (by kernel_rfl) (by kernel_rfl) (fun _ _ _ h => h) (Or.inl ⟨by rfl, ?y0_1⟩) ?_
          case' y0_1 => ((intro w hSw; go_simp) <;> (with_reducible rfl))
          try simp only [Act.put, List.setIfInBounds_toArray, List.set_cons_zero, List.set_cons_succ]
          refine AnyT.pick (i := 1) (oi := ⟨_, _, _, _, _, _⟩) (v := ?_) rfl (by kernel_rfl) (by kernel_rfl) (by kernel_rfl) (fun _ _ _ h => h) (Or.inl ⟨by rfl, ?y1_2⟩) ?_
          case' y1_2 => ((intro w hSw; go_simp) <;> (with_reducible rfl))
          try simp only [Act.put, List.setIfInBounds_toArray, List.set_cons_zero, List.set_cons_succ]
          refine AnyT.pick (i := 2) (oi := ⟨_, _, _, _, _, _⟩) (v := ?_) rfl (by kernel_rfl) (by kernel_rfl) (by kernel_rfl) (fun _ _ _ h => h) (Or.inl ⟨by rfl, ?y2_3⟩) ?_
          case' y2_3 => ((intro w hSw; go_simp) <;> (with_reducible rfl))
          try simp only [Act.put, List.setIfInBounds_toArray, List.set_cons_zero, List.set_cons_succ]
          refine AnyT.take (i := 3) (oi := ⟨_, _, _, _, _, _⟩) (v := ?_) rfl (by kernel_rfl) (by kernel_rfl) (by kernel_rfl) (by kernel_rfl) (fun _ _ _ h => h) (Or.inl ⟨by rfl, ?y3_4⟩) (by assumption) ?_
          case' y3_4 => ((intro w hSw; (try dsimp only at hSw); go_simp) <;> (with_reducible rfl))
          try simp only [Act.put, List.setIfInBounds_toArray, List.set_cons_zero, List.set_cons_succ]
          refine AnyT.pick (i := 4) (oi := ⟨_, _, _, _, _, _⟩) (v := ?_) rfl (by kernel_rfl) (by kernel_rfl) (by kernel_rfl) (fun _ _ _ h => h) (Or.inl ⟨by rfl, ?y4_5⟩) ?_
          case' y4_5 => ((intro w hSw; go_simp) <;> (with_reducible rfl))
          try simp only [Act.put, List.setIfInBounds_toArray, List.set_cons_zero, List.set_cons_succ]
          refine AnyT.pick (i := 5) (oi := ⟨_, _, _, _, _, _⟩) (v := ?_) rfl (by kernel_rfl) (by kernel_rfl) (by kernel_rfl) (fun _ _ _ h => h) (Or.inl ⟨by rfl, ?y5_6⟩) ?_
          case' y5_6 => ((intro w hSw; go_simp) <;> (with_reducible rfl))
          try simp only [Act.put, List.setIfInBounds_toArray, List.set_cons_zero, List.set_cons_succ]
          refine AnyT.pick (i := 6) (oi := ⟨_, _, _, _, _, _⟩) (v := ?_) rfl (by kernel_rfl) (by kernel_rfl) (by kernel_rfl) (fun _ _ _ h => h) (Or.inl ⟨by rfl, ?y6_7⟩) ?_
          case' y6_7 => ((intro w hSw; go_simp) <;> (with_reducible rfl))
          try simp only [Act.put, List.setIfInBounds_toArray, List.set_cons_zero, List.set_cons_succ]
          refine AnyT.take (i := 7) (oi := ⟨_, _, _, _, _, _⟩) (v := ?_) rfl (by kernel_rfl) (by kernel_rfl) (by kernel_rfl) (by kernel_rfl) (fun _ _ _ h => h) (Or.inl ⟨by rfl, ?y7_8⟩) (by assumption) ?_
          case' y7_8 => ((intro w hSw; (try dsimp only at hSw); go_simp) <;> (with_reducible rfl))
          try simp only [Act.put, List.setIfInBounds_toArray, List.set_cons_zero, List.set_cons_succ]
          refine AnyT.pick (i := 8) (oi := ⟨_, _, _, _, _, _⟩) (v := ?_) rfl (by kernel_rfl) (by kernel_rfl) (by kernel_rfl) (fun _ _ _ h => h) (Or.inl ⟨by rfl, ?y8_9⟩) ?_
          case' y8_9 => ((intro w hSw; go_simp) <;> (with_reducible rfl))
          try simp only [Act.put, List.setIfInBounds_toArray, List.set_cons_zero, List.set_cons_succ]
          refine AnyT.pick (i := 9) (oi := ⟨_, _, _, _, _, _⟩) (v := ?_) rfl (by kernel_rfl) (by kernel_rfl) (by kernel_rfl) (fun _ _ _ h => h) (Or.inl ⟨by rfl, ?y9_10⟩) ?_
          case' y9_10 => ((intro w hSw; go_simp) <;> (with_reducible rfl))
          try simp only [Act.put, List.setIfInBounds_toArray, List.set_cons_zero, List.set_cons_succ]
          refine AnyT.pick (i := 10) (oi := ⟨_, _, _, _, _, _⟩) (v := ?_) rfl (by kernel_rfl) (by kernel_rfl) (by kernel_rfl) (fun _ _ _ h => h) (Or.inl ⟨by rfl, ?y10_11⟩) ?_
          case' y10_11 => ((intro w hSw; go_simp) <;> (with_reducible rfl))
          try simp only [Act.put, List.setIfInBounds_toArray, List.set_cons_zero, List.set_cons_succ]
          refine AnyT.take (i := 11) (oi := ⟨_, _, _, _, _, _⟩) (v := ?_) rfl (by kernel_rfl) (by kernel_rfl) (by kernel_rfl) (by kernel_rfl) (fun _ _ _ h => h) (Or.inl ⟨by rfl, ?y11_12⟩) (by assumption) ?_
          case' y11_12 => ((intro w hSw; (try dsimp only at hSw); go_simp) <;> (with_reducible rfl))
          try simp only [Act.put, List.setIfInBounds_toArray, List.set_cons_zero, List.set_cons_succ]
          refine AnyT.pick (i := 12) (oi := ⟨_, _, _, _, _, _⟩) (v := ?_) rfl (by kernel_rfl) (by kernel_rfl) (by kernel_rfl) (fun _ _ _ h => h) (Or.inl ⟨by rfl, ?y12_13⟩) ?_
          case' y12_13 => ((intro w hSw; go_simp) <;> (with_reducible rfl))
          try simp only [Act.put, List.setIfInBounds_toArray, List.set_cons_zero, List.set_cons_succ]
          refine AnyT.pick (i := 13) (oi := ⟨_, _, _, _, _, _⟩) (v := ?_) rfl (by kernel_rfl) (by kernel_rfl) (by kernel_rfl) (fun _ _ _ h => h) (Or.inl ⟨by rfl, ?y13_14⟩) ?_
          case' y13_14 => ((intro w hSw; go_simp) <;> (with_reducible rfl))
          try simp only [Act.put, List.setIfInBounds_toArray, List.set_cons_zero, List.set_cons_succ]
          refine AnyT.take (i := 14) (oi := ⟨_, _, _, _, _, _⟩) (v := ?_) rfl (by kernel_rfl) (by kernel_rfl) (by kernel_rfl) (by kernel_rfl) (fun _ _ _ h => h) (Or.inl ⟨by rfl, ?y14_15⟩) (by assumption) ?_
          case' y14_15 => ((intro w hSw; (try dsimp only at hSw); go_simp) <;> (with_reducible rfl))
          try simp only [Act.put, List.setIfInBounds_toArray, List.set_cons_zero, List.set_cons_succ]
          refine AllT.go (rs := [15, 19]) (by kernel_rfl) (by simp) ?_
          refine AllT.early (o := ⟨_, _, _, _, _, _⟩) rfl (fun K hK => ?_) ?_
          · go_simp
            go_at_call 33
            refine (PX.out _ hUd).mono ?_
            rintro e wp ⟨r', v', A', C', rfl, hAf, hBf, hCg⟩
            have hH2 := HW0.out.chg hCg hq1 hs1 HN.out.1 HN.out.2
            refine hK.out _ _ hH2 (fun _ => ?_)
            clear hK K hHeld
            try simp only [Act.put, List.setIfInBounds_toArray, List.set_cons_zero, List.set_cons_succ]
            refine AnyT.pick (i := 16) (oi := ⟨_, _, _, _, _, _⟩) (v := ?_) rfl (by kernel_rfl) (by kernel_rfl) (by kernel_rfl) (fun _ _ _ h => h) (Or.inl ⟨by rfl, ?y16_16⟩) ?_
            case' y16_16 => ((intro w hSw; go_simp) <;> (with_reducible rfl))
            try simp only [Act.put, List.setIfInBounds_toArray, List.set_cons_zero, List.set_cons_succ]
            refine AnyT.pick (i := 17) (oi := ⟨_, _, _, _, _, _⟩) (v := ?_) rfl (by kernel_rfl) (by kernel_rfl) (by kernel_rfl) (fun _ _ _ h => h) (Or.inl ⟨by rfl, ?y17_17⟩) ?_
            case' y17_17 => ((intro w hSw; go_simp) <;> (with_reducible rfl))
            try simp only [Act.put, List.setIfInBounds_toArray, List.set_cons_zero, List.set_cons_succ]
            refine AnyT.pick (i := 18) (oi := ⟨_, _, _, _, _, _⟩) (v := ?_) rfl (by kernel_rfl) (by kernel_rfl) (by kernel_rfl) (fun _ _ _ h => h) (Or.inl ⟨by rfl, ?y18_18⟩) ?_
            case' y18_18 => ((intro w hSw; go_simp) <;> (with_reducible rfl))
            try simp only [Act.put, List.setIfInBounds_toArray, List.set_cons_zero, List.set_cons_succ]
            refine AllT.go (rs := [19]) (by kernel_rfl) (by simp) ?_
            refine AllT.early (o := ⟨_, _, _, _, _, _⟩) rfl (fun K hK => ?_) ?_
            · go_simp
              refine hK.out _ _ (hH2.up ((Up.refl _).alloc _)) (fun _ => ?_)
              clear hK K
              try simp only [Act.put, List.setIfInBounds_toArray, List.set_cons_zero, List.set_cons_succ]
              refine AllT.go (rs := [20]) (by kernel_rfl) (by simp) ?_
              refine AllT.late (o := ⟨_, _, _, _, _, _⟩) rfl (by decide) (fun K hK => ?_) ?_
              · go_simp
                refine hK.out _ _ trivial (fun _ => ?_)
                clear hK K
                try simp only [Act.put, List.setIfInBounds_toArray, List.set_cons_zero, List.set_cons_succ]
                refine AnyT.pick (i := 21) (oi := ⟨_, _, _, _, _, _⟩) (v := ?_) rfl (by kernel_rfl) (by kernel_rfl) (by kernel_rfl) (fun _ _ _ h => h) (Or.inl ⟨by rfl, ?y21_19⟩) ?_
                case' y21_19 => ((intro w hSw; go_simp) <;> (with_reducible rfl))
                try simp only [Act.put, List.setIfInBounds_toArray, List.set_cons_zero, List.set_cons_succ]
                refine AnyT.done (by kernel_rfl) ?_ _
                go_wp2_with fail
                go_meet
                exact ⟨wp.heap.size, r', v', A', C', rfl, rfl, hAf _⟩
              exact AllT.nil
            exact AllT.nil
          refine AllT.early (o := ⟨_, _, _, _, _, _⟩) rfl (fun K hK => ?_) ?_
          · go_simp
            refine hK.out _ _ (HW0.out.up (hUd.alloc _)) (fun _ => ?_)
            clear hK K
            try simp only [Act.put, List.setIfInBounds_toArray, List.set_cons_zero, List.set_cons_succ]
            have X3 := has3_alloc w2d (.int .u8 0) (.int .i64 0) (.string ⟨#[]⟩) 31
            refine AllT.go (rs := [15]) (by kernel_rfl) (by simp) ?_
            refine AllT.early (o := ⟨_, _, _, _, _, _⟩) rfl (fun K hK => ?_) ?_
            · go_simp
              go_at_call 33
              refine (PX.out _ (hUd.alloc _)).mono ?_
              rintro e wp ⟨r', v', A', C', rfl, hAf, hBf, hCg⟩
              have hH2 := HW0.out.chg hCg hq1 hs1 HN.out.1 HN.out.2
              refine hK.out _ _ hH2 (fun _ => ?_)
              clear hK K hHeld
              obtain ⟨hz, hMd⟩ := hBf w2d.heap.size _ _ _ hUd.size X3
              clear X3 hBf hAf
              obtain ⟨z0, ⟨z1, z2, z3⟩, ⟨z4, z5, z6⟩⟩ := hz
              try simp only [Act.put, List.setIfInBounds_toArray, List.set_cons_zero, List.set_cons_succ]
              refine AnyT.pick (i := 16) (oi := ⟨_, _, _, _, _, _⟩) (v := ?_) rfl (by kernel_rfl) (by kernel_rfl) (by kernel_rfl) (fun _ _ _ h => h) (Or.inl ⟨by rfl, ?y16_20⟩) ?_
              case' y16_20 => ((intro w hSw; go_simp) <;> (with_reducible rfl))
              try simp only [Act.put, List.setIfInBounds_toArray, List.set_cons_zero, List.set_cons_succ]
              refine AnyT.pick (i := 17) (oi := ⟨_, _, _, _, _, _⟩) (v := ?_) rfl (by kernel_rfl) (by kernel_rfl) (by kernel_rfl) (fun _ _ _ h => h) (Or.inl ⟨by rfl, ?y17_21⟩) ?_
              case' y17_21 => ((intro w hSw; go_simp) <;> (with_reducible rfl))
              try simp only [Act.put, List.setIfInBounds_toArray, List.set_cons_zero, List.set_cons_succ]
              refine AnyT.pick (i := 18) (oi := ⟨_, _, _, _, _, _⟩) (v := ?_) rfl (by kernel_rfl) (by kernel_rfl) (by kernel_rfl) (fun _ _ _ h => h) (Or.inl ⟨by rfl, ?y18_22⟩) ?_
              case' y18_22 => ((intro w hSw; go_simp) <;> (with_reducible rfl))
              try simp only [Act.put, List.setIfInBounds_toArray, List.set_cons_zero, List.set_cons_succ]
              refine AllT.go (rs := [20]) (by kernel_rfl) (by simp) ?_
              refine AllT.late (o := ⟨_, _, _, _, _, _⟩) rfl (by decide) (fun K hK => ?_) ?_
              · go_simp
                refine hK.out _ _ trivial (fun _ => ?_)
                clear hK K
                try simp only [Act.put, List.setIfInBounds_toArray, List.set_cons_zero, List.set_cons_succ]
                refine AnyT.pick (i := 21) (oi := ⟨_, _, _, _, _, _⟩) (v := ?_) rfl (by kernel_rfl) (by kernel_rfl) (by kernel_rfl) (fun _ _ _ h => h) (Or.inl ⟨by rfl, ?y21_23⟩) ?_
                case' y21_23 => ((intro w hSw; go_simp) <;> (with_reducible rfl))
                try simp only [Act.put, List.setIfInBounds_toArray, List.set_cons_zero, List.set_cons_succ]
                refine AnyT.done (by kernel_rfl) ?_ _
                go_wp2_with fail
                go_meet
                exact ⟨w2d.heap.size, r', v', A', C', rfl, rfl, hMd⟩
              exact AllT.nil
            exact AllT.nil
          exact AllT.nil
        case rest =>
          obtain ⟨xb, r', v', A', C', rfl, rfl, hM⟩ := hcut
          have MM := Lib.hid hM
          clear hM PX HW0 HN
          have HROW := Lib.hid (owns_chg B2.out.row MM.out.cg (fun b hb => (B2.out.nb b hb).2.1))
          have HNB : Hid (∀ b, u11.ownBlock = some b → b ≠ xb) := fun b hb => by have h1 := (B2.out.row.lt b hb).2; have h2 := MM.out.xn; omega
          have HNS : Hid (∀ b, u11.ownBlock = some b → b ≠ s10) := fun b hb => (B2.out.nb b hb).2.2.2.1
          have HS10 := Lib.hid (has3_chg B2.out.c10 MM.out.cg B2.out.n10.2.1)
          obtain ⟨iP, hi, hz0, hz1, hz2⟩ := info_parts infoP2
          have HIP := Lib.hid (And.intro hi (And.intro hz0 (And.intro hz1 hz2)))
          clear hi hz0 hz1 hz2
          go_wp2_with fail
          refine AnyT.start (S := fun w' => w'.cell? ⟨xb, 0, none⟩ = some (.int .u8 5) ∧ w'.cell? ⟨xb, 1, none⟩ = some (.int .i64 (r' : Int)) ∧ w'.cell? ⟨xb, 2, none⟩ = some (.string ⟨#[]⟩)) 8 (by kernel_rfl) (MM.out.xc.up (Up.refl wc).drew).2.1 (fun hHeld => ?_)
          have hUd : Up wc wc.drew := (Up.refl wc).drew
          generalize World.drew wc = wd at hUd hHeld ⊢
          refine AnyT.take (i := 0) (oi := ⟨_, _, _, _, _, _⟩) (v := ?_) rfl (by kernel_rfl) (by kernel_rfl) (by kernel_rfl) (by kernel_rfl) (fun _ _ _ h => h) (Or.inl ⟨by rfl, ?y0_24⟩) (by assumption) ?_
          case' y0_24 => ((intro w hSw; (try dsimp only at hSw); go_simp) <;> (with_reducible rfl))
          try simp only [Act.put, List.setIfInBounds_toArray, List.set_cons_zero, List.set_cons_succ]
          refine AnyT.pick (i := 1) (oi := ⟨_, _, _, _, _, _⟩) (v := ?_) rfl (by kernel_rfl) (by kernel_rfl) (by kernel_rfl) (fun _ _ _ h => h) (Or.inl ⟨by rfl, ?y1_25⟩) ?_
          case' y1_25 => ((intro w hSw; go_simp) <;> (with_reducible rfl))
          try simp only [Act.put, List.setIfInBounds_toArray, List.set_cons_zero, List.set_cons_succ]
          refine AnyT.pick (i := 2) (oi := ⟨_, _, _, _, _, _⟩) (v := ?_) rfl (by kernel_rfl) (by kernel_rfl) (by kernel_rfl) (fun _ _ _ h => h) (Or.inl ⟨by rfl, ?y2_26⟩) ?_
          case' y2_26 => ((intro w hSw; go_simp) <;> (with_reducible rfl))
          try simp only [Act.put, List.setIfInBounds_toArray, List.set_cons_zero, List.set_cons_succ]
          refine AnyT.pick (i := 3) (oi := ⟨_, _, _, _, _, _⟩) (v := ?_) rfl (by kernel_rfl) (by kernel_rfl) (by kernel_rfl) (fun _ _ _ h => h) (Or.inl ⟨by rfl, ?y3_27⟩) ?_
          case' y3_27 => ((intro w hSw; go_simp) <;> (with_reducible rfl))
          try simp only [Act.put, List.setIfInBounds_toArray, List.set_cons_zero, List.set_cons_succ]
          refine AnyT.pick (i := 4) (oi := ⟨_, _, _, _, _, _⟩) (v := ?_) rfl (by kernel_rfl) (by kernel_rfl) (by kernel_rfl) (fun _ _ _ h => h) (Or.inl ⟨by rfl, ?y4_28⟩) ?_
          case' y4_28 => ((intro w hSw; go_simp) <;> (with_reducible rfl))
          try simp only [Act.put, List.setIfInBounds_toArray, List.set_cons_zero, List.set_cons_succ]
          refine AnyT.pick (i := 7) (oi := ⟨_, _, _, _, _, _⟩) (v := ?_) rfl (by kernel_rfl) (by kernel_rfl) (by kernel_rfl) (fun _ _ _ h => h) (Or.inl ⟨by rfl, ?y7_29⟩) ?_
          case' y7_29 => ((intro w hSw; go_simp) <;> (with_reducible rfl))
          try simp only [Act.put, List.setIfInBounds_toArray, List.set_cons_zero, List.set_cons_succ]
          refine AllT.go (rs := [5]) (by kernel_rfl) (by simp) ?_
          refine AllT.early (o := ⟨_, _, _, _, _, _⟩) rfl (fun K hK => ?_) ?_
          · go_simp
            refine hK.out _ _ (MM.out.xc.up (hUd.alloc _)).2.1 (fun _ => ?_)
            clear hK K hHeld
            try simp only [Act.put, List.setIfInBounds_toArray, List.set_cons_zero, List.set_cons_succ]
            refine AllT.go (rs := [6]) (by kernel_rfl) (by simp) ?_
            refine AllT.early (o := ⟨_, _, _, _, _, _⟩) rfl (fun K hK => ?_) ?_
            · refine step_append_lies _ rfl (.tmp 96) (.tmp 100) 79 rfl 0 67 _ (.agg #[.int .i64 0, .int .i64 0]) 2 16 Tryz.underlying79 HIP.out.1 HIP.out.2.1 HIP.out.2.2.1 HIP.out.2.2.2 rfl (by decide) u11 bk.length (bk.flatMap cellsP) rfl (owns_chg HROW.out (hUd.alloc _).chg (by simp)) ⟨wd.heap.size, 0, none⟩ 1 1 [.int .i64 (mm : Int), .int .i64 a] rfl rfl (World.news_of_block (cs := #[.int .i64 (mm : Int), .int .i64 a]) (t := 67) (fr := (0, 0)) (heap_alloc_new wd _)) (by intro u hu; simp at hu; rcases hu with rfl | rfl <;> rfl) (by decide) HBL.out.1 HBL.out.2.1 (Nat.zero_le _) (wd.heap.size + 1) (by simp) ?_
              intro g gcap w5 hrow hgrow hat hlt5
              have hX5 : Has3 w5 xb (.int .u8 5) (.int .i64 (r' : Int)) (.string ⟨#[]⟩) := has3_chg (MM.out.xc.up (hUd.alloc (.cells #[.int .i64 (mm : Int), .int .i64 a] 67))) ((Chg.refl u11.ownBlock.toList _).grown hgrow (fun b hb => .inl (by simp [hb]))) (fun hx => HNB.out xb (by simpa using hx) rfl)
              have hS5 : Has3 w5 s10 (.int .u8 5) (.int .i64 (r : Int)) (.string ⟨#[]⟩) := has3_chg (HS10.out.up (hUd.alloc (.cells #[.int .i64 (mm : Int), .int .i64 a] 67))) ((Chg.refl u11.ownBlock.toList _).grown hgrow (fun b hb => .inl (by simp [hb]))) (fun hx => HNS.out s10 (by simpa using hx) rfl)
              refine hK.out _ _ hX5.2.1 (fun _ => ?_)
              clear hK K
              have HG := Lib.hid (And.intro hrow (And.intro hgrow hat))
              clear hrow hgrow hat hlt5 hX5
              obtain ⟨z0, ⟨z1, z2, z3⟩, ⟨z4, z5, z6⟩⟩ := hS5
              try simp only [Act.put, List.setIfInBounds_toArray, List.set_cons_zero, List.set_cons_succ]
              refine AllT.go (rs := [8]) (by kernel_rfl) (by simp) ?_
              refine AllT.late (o := ⟨_, _, _, _, _, _⟩) rfl (by decide) (fun K hK => ?_) ?_
              · go_simp
                refine hK.out _ _ trivial (fun _ => ?_)
                clear hK K
                try simp only [Act.put, List.setIfInBounds_toArray, List.set_cons_zero, List.set_cons_succ]
                refine AnyT.pick (i := 9) (oi := ⟨_, _, _, _, _, _⟩) (v := ?_) rfl (by kernel_rfl) (by kernel_rfl) (by kernel_rfl) (fun _ _ _ h => h) (Or.inl ⟨by rfl, ?y9_30⟩) ?_
                case' y9_30 => ((intro w hSw; go_simp) <;> (with_reducible rfl))
                try simp only [Act.put, List.setIfInBounds_toArray, List.set_cons_zero, List.set_cons_succ]
                refine AnyT.pick (i := 10) (oi := ⟨_, _, _, _, _, _⟩) (v := ?_) rfl (by kernel_rfl) (by kernel_rfl) (by kernel_rfl) (fun _ _ _ h => h) (Or.inl ⟨by rfl, ?y10_31⟩) ?_
                case' y10_31 => ((intro w hSw; go_simp) <;> (with_reducible rfl))
                try simp only [Act.put, List.setIfInBounds_toArray, List.set_cons_zero, List.set_cons_succ]
                refine AnyT.done (by kernel_rfl) ?_ _
                go_wp2_with fail
                go_roundw
                case rel => exact ⟨t + 1, v', A', C', bk ++ [((mm : Int), a)], r', into, by omega, by have := HBL.out.2.2; simp; omega, rfl, by go_num, by rw [HT.out.1, HT.out.2]; exact Bst.next B2.out MM.out hUd HO.out.1 HO.out.2.1 HO.out.2.2 HG.out.1 rfl HG.out.2.1 HG.out.2.2 (by simp)⟩
                case measure => simp [intOf]; omega
              exact AllT.nil
            exact AllT.nil
          exact AllT.nil
    · have hte : t = m := by omega
      subst hte
      obtain ⟨ga, gc, rfl, -, -, hga⟩ := ar.shape BB.out.row
      have hw : IntKind.i64.wrap ((bk.length : Int) - 1) = (bk.length : Int) - 1 := by rw [IntKind.wrap_i64] <;> omega
      have hbk6 : bk.length ≤ 6 := by omega
      go_wp2_with fail
      clear hw
      go_loopw [19] (fun i wq => ∃ (j rr : Nat) (aa x : Int), j ≤ bk.length ∧ i = .int .i64 x ∧ x = (j : Int) - 1 ∧ Path A L r0 (bk.take j) rr aa ∧ Has3 wq s10 (.int .u8 5) (.int .i64 (rr : Int)) (.string ⟨#[]⟩) ∧ Chg [s10] wr wq) (fun i _ => (intOf i + 1).toNat)
      case atStart => exact ⟨bk.length, r, a, (bk.length : Int) - 1, by omega, rfl, rfl, by rw [List.take_length]; exact BB.out.pth, BB.out.c10, Chg.refl _ _⟩
      case round =>
        obtain ⟨j, rr, aa, x, hj, rfl, hxj, hpath, h3, hC⟩ := hrel
        obtain ⟨hs1, hs2, hs3⟩ := BB.out.back1 hC
        have SS := Lib.hid (And.intro hs1 (And.intro hs2 (And.intro hs3 (And.intro h3 hC))))
        clear hs1 hs2 hs3 h3 hC
        by_cases hj0 : j = 0
        · subst hj0
          rw [List.take_zero] at hpath
          have hrr := hpath.start
          subst hrr
          have hx1 : x = -1 := by omega
          clear hxj
          subst hx1
          obtain ⟨x0, ⟨x1, x2, x3⟩, -⟩ := SS.out.2.2.1
          obtain ⟨y0, ⟨y1, y2, y3⟩, -⟩ := SS.out.2.2.2.1
          go_wp2_with ((with_reducible refine wpl_eq (5, (rr : Int), ⟨#[]⟩) (5, (rr : Int), ⟨#[]⟩) ?_ ?_ ?_ true (by simp) ?_); (· first | rfl | go_simp); (· rfl); (· rfl))
          go_ret
          exact ⟨rfl, Up.trans HB0.out.1 SS.out.1.bel⟩
        · obtain ⟨i, rfl⟩ : ∃ i, j = i + 1 := ⟨j - 1, by omega⟩
          have hxi : x = (i : Int) := by omega
          clear hxj
          subst hxi
          obtain ⟨⟨xm, xa⟩, hy⟩ : ∃ y, bk[i]? = some y := ⟨_, List.getElem?_eq_getElem (by omega)⟩
          rw [List.take_add_one, hy] at hpath
          obtain ⟨r1, o', hp1, ho1, hd1, hwf1, hf1, how1, hlk⟩ := hpath.last
          simp only at hp1 ho1 hd1 hwf1 hlk
          have hga2 : ∃ gb, ga = some ⟨gb, 0, none⟩ := by
            rcases hga with ⟨-, h1, -⟩ | ⟨gb, h1, -⟩
            · omega
            · exact ⟨gb, h1⟩
          obtain ⟨gb, rfl⟩ := hga2
          have hLp : 0 < L.length := by have h1 := HB0.out.2.2.1; have h2 := HB0.out.2.2.2; omega
          have PX : Hid (∀ wx, Up wr wx → Calls Tryz.prog 33 #[vr 0, .pointer (some ⟨p, 0, none⟩), .map (some cb), .int .i64 xm, .int .i64 xa, val (5, (rr : Int), ⟨#[]⟩)] wx fun e w' => e = .returned (.tuple #[val (5, (r1 : Int), ⟨#[]⟩), .int .i64 0]) ∧ Up wx w') := fun wx hx =>
            pass_undo (SS.out.1.up hx).wr ((SS.out.1.up hx).list hLp) hwf1 (other_inv ho1) hd1 hf1 how1 hlk
          simp only [val] at PX
          have HW0 : Hid (∀ w', Up wr w' → w'.cell? ⟨q, 2, none⟩ = some (vr 0) ∧ w'.cell? ⟨q, 0, none⟩ = some (.pointer (some ⟨p, 0, none⟩)) ∧ w'.cell? ⟨q, 1, none⟩ = some (.map (some cb)) ∧ w'.cell? ⟨s10, 0, none⟩ = some (.int .u8 5) ∧ w'.cell? ⟨s10, 1, none⟩ = some (.int .i64 (rr : Int)) ∧ w'.cell? ⟨s10, 2, none⟩ = some (.string ⟨#[]⟩) ∧ w'.cell? ⟨gb, i * 2, none⟩ = some (.int .i64 xm) ∧ w'.cell? ⟨gb, i * 2 + 1, none⟩ = some (.int .i64 xa)) := by
            intro w' hu
            obtain ⟨h1, h2, h3, h4, h5, h6⟩ := (heldW SS.out.1 SS.out.2.2.2.1).up hu
            obtain ⟨e1, e2⟩ := heldR SS.out.2.1 hy
            exact ⟨h1, h2, h3, h4, h5, h6, up_cell hu e1, up_cell hu e2⟩
          have hil : (i : Int) < (bk.length : Int) := by omega
          have hi0 : (0 : Int) ≤ (i : Int) := by omega
          have HPA := Lib.hid hp1
          clear hy hpath hp1 ho1 hd1 hwf1 hf1 how1 hlk
          go_wp2_with fail
          go_cut [20, 21] from 111 to 137 (fun x y wx => ∃ xb, x = .pointer (some ⟨xb, 0, none⟩) ∧ y = .int .i64 0 ∧ Has3 wx xb (.int .u8 5) (.int .i64 (r1 : Int)) (.string ⟨#[]⟩) ∧ Up wr wx ∧ wr.heap.size ≤ xb)
          case first =>
            refine AnyT.start (S := fun w' => w'.cell? ⟨q, 2, none⟩ = some (vr 0) ∧ w'.cell? ⟨q, 0, none⟩ = some (.pointer (some ⟨p, 0, none⟩)) ∧ w'.cell? ⟨q, 1, none⟩ = some (.map (some cb)) ∧ w'.cell? ⟨s10, 0, none⟩ = some (.int .u8 5) ∧ w'.cell? ⟨s10, 1, none⟩ = some (.int .i64 (rr : Int)) ∧ w'.cell? ⟨s10, 2, none⟩ = some (.string ⟨#[]⟩) ∧ w'.cell? ⟨gb, i * 2, none⟩ = some (.int .i64 xm) ∧ w'.cell? ⟨gb, i * 2 + 1, none⟩ = some (.int .i64 xa)) 28 (by kernel_rfl) (HW0.out _ (Up.refl wr).drew) (fun hHeld => ?_)
            have hUd : Up wr wr.drew := (Up.refl wr).drew
            generalize World.drew wr = wqd at hUd hHeld ⊢
            refine AnyT.pick (i := 0) (oi := ⟨_, _, _, _, _, _⟩) (v := ?_) rfl (by kernel_rfl) (by kernel_rfl) (by kernel_rfl) (fun _ _ _ h => h) (Or.inl ⟨by rfl, ?y0_32⟩) ?_
            case' y0_32 => ((intro w hSw; go_simp) <;> (with_reducible rfl))
            try simp only [Act.put, List.setIfInBounds_toArray, List.set_cons_zero, List.set_cons_succ]
            refine AnyT.pick (i := 1) (oi := ⟨_, _, _, _, _, _⟩) (v := ?_) rfl (by kernel_rfl) (by kernel_rfl) (by kernel_rfl) (fun _ _ _ h => h) (Or.inl ⟨by rfl, ?y1_33⟩) ?_
            case' y1_33 => ((intro w hSw; go_simp) <;> (with_reducible rfl))
            try simp only [Act.put, List.setIfInBounds_toArray, List.set_cons_zero, List.set_cons_succ]
            refine AnyT.pick (i := 2) (oi := ⟨_, _, _, _, _, _⟩) (v := ?_) rfl (by kernel_rfl) (by kernel_rfl) (by kernel_rfl) (fun _ _ _ h => h) (Or.inl ⟨by rfl, ?y2_34⟩) ?_
            case' y2_34 => ((intro w hSw; go_simp) <;> (with_reducible rfl))
            try simp only [Act.put, List.setIfInBounds_toArray, List.set_cons_zero, List.set_cons_succ]
            refine AnyT.take (i := 3) (oi := ⟨_, _, _, _, _, _⟩) (v := ?_) rfl (by kernel_rfl) (by kernel_rfl) (by kernel_rfl) (by kernel_rfl) (fun _ _ _ h => h) (Or.inl ⟨by rfl, ?y3_35⟩) (by assumption) ?_
            case' y3_35 => ((intro w hSw; (try dsimp only at hSw); go_simp) <;> (with_reducible rfl))
            try simp only [Act.put, List.setIfInBounds_toArray, List.set_cons_zero, List.set_cons_succ]
            refine AnyT.pick (i := 4) (oi := ⟨_, _, _, _, _, _⟩) (v := ?_) rfl (by kernel_rfl) (by kernel_rfl) (by kernel_rfl) (fun _ _ _ h => h) (Or.inl ⟨by rfl, ?y4_36⟩) ?_
            case' y4_36 => ((intro w hSw; go_simp) <;> (with_reducible rfl))
            try simp only [Act.put, List.setIfInBounds_toArray, List.set_cons_zero, List.set_cons_succ]
            refine AnyT.pick (i := 5) (oi := ⟨_, _, _, _, _, _⟩) (v := ?_) rfl (by kernel_rfl) (by kernel_rfl) (by kernel_rfl) (fun _ _ _ h => h) (Or.inl ⟨by rfl, ?y5_37⟩) ?_
            case' y5_37 => ((intro w hSw; go_simp) <;> (with_reducible rfl))
            try simp only [Act.put, List.setIfInBounds_toArray, List.set_cons_zero, List.set_cons_succ]
            refine AnyT.pick (i := 6) (oi := ⟨_, _, _, _, _, _⟩) (v := ?_) rfl (by kernel_rfl) (by kernel_rfl) (by kernel_rfl) (fun _ _ _ h => h) (Or.inl ⟨by rfl, ?y6_38⟩) ?_
            case' y6_38 => ((intro w hSw; go_simp) <;> (with_reducible rfl))
            try simp only [Act.put, List.setIfInBounds_toArray, List.set_cons_zero, List.set_cons_succ]
            refine AnyT.take (i := 7) (oi := ⟨_, _, _, _, _, _⟩) (v := ?_) rfl (by kernel_rfl) (by kernel_rfl) (by kernel_rfl) (by kernel_rfl) (fun _ _ _ h => h) (Or.inl ⟨by rfl, ?y7_39⟩) (by assumption) ?_
            case' y7_39 => ((intro w hSw; (try dsimp only at hSw); go_simp) <;> (with_reducible rfl))
            try simp only [Act.put, List.setIfInBounds_toArray, List.set_cons_zero, List.set_cons_succ]
            refine AnyT.pick (i := 8) (oi := ⟨_, _, _, _, _, _⟩) (v := ?_) rfl (by kernel_rfl) (by kernel_rfl) (by kernel_rfl) (fun _ _ _ h => h) (Or.inl ⟨by rfl, ?y8_40⟩) ?_
            case' y8_40 => ((intro w hSw; go_simp) <;> (with_reducible rfl))
            try simp only [Act.put, List.setIfInBounds_toArray, List.set_cons_zero, List.set_cons_succ]
            refine AnyT.pick (i := 9) (oi := ⟨_, _, _, _, _, _⟩) (v := ?_) rfl (by kernel_rfl) (by kernel_rfl) (by kernel_rfl) (fun _ _ _ h => h) (Or.inl ⟨by rfl, ?y9_41⟩) ?_
            case' y9_41 => ((intro w hSw; go_simp) <;> (with_reducible rfl))
            try simp only [Act.put, List.setIfInBounds_toArray, List.set_cons_zero, List.set_cons_succ]
            refine AnyT.pick (i := 10) (oi := ⟨_, _, _, _, _, _⟩) (v := ?_) rfl (by kernel_rfl) (by kernel_rfl) (by kernel_rfl) (fun _ _ _ h => h) (Or.inl ⟨by rfl, ?y10_42⟩) ?_
            case' y10_42 => ((intro w hSw; go_simp) <;> (with_reducible rfl))
            try simp only [Act.put, List.setIfInBounds_toArray, List.set_cons_zero, List.set_cons_succ]
            refine AnyT.take (i := 11) (oi := ⟨_, _, _, _, _, _⟩) (v := ?_) rfl (by kernel_rfl) (by kernel_rfl) (by kernel_rfl) (by kernel_rfl) (fun _ _ _ h => h) (Or.inl ⟨by rfl, ?y11_43⟩) (by assumption) ?_
            case' y11_43 => ((intro w hSw; (try dsimp only at hSw); go_simp) <;> (with_reducible rfl))
            try simp only [Act.put, List.setIfInBounds_toArray, List.set_cons_zero, List.set_cons_succ]
            refine AnyT.pick (i := 12) (oi := ⟨_, _, _, _, _, _⟩) (v := ?_) rfl (by kernel_rfl) (by kernel_rfl) (by kernel_rfl) (fun _ _ _ h => h) (Or.inl ⟨by rfl, ?y12_44⟩) ?_
            case' y12_44 => ((intro w hSw; go_simp) <;> (with_reducible rfl))
            try simp only [Act.put, List.setIfInBounds_toArray, List.set_cons_zero, List.set_cons_succ]
            refine AnyT.pick (i := 13) (oi := ⟨_, _, _, _, _, _⟩) (v := ?_) rfl (by kernel_rfl) (by kernel_rfl) (by kernel_rfl) (fun _ _ _ h => h) (Or.inl ⟨by rfl, ?y13_45⟩) ?_
            case' y13_45 => ((intro w hSw; go_simp) <;> (with_reducible rfl))
            try simp only [Act.put, List.setIfInBounds_toArray, List.set_cons_zero, List.set_cons_succ]
            refine AnyT.pick (i := 14) (oi := ⟨_, _, _, _, _, _⟩) (v := ?_) rfl (by kernel_rfl) (by kernel_rfl) (by kernel_rfl) (fun _ _ _ h => h) (Or.inl ⟨by rfl, ?y14_46⟩) ?_
            case' y14_46 => ((intro w hSw; go_simp) <;> (with_reducible rfl))
            try simp only [Act.put, List.setIfInBounds_toArray, List.set_cons_zero, List.set_cons_succ]
            refine AnyT.pick (i := 15) (oi := ⟨_, _, _, _, _, _⟩) (v := ?_) rfl (by kernel_rfl) (by kernel_rfl) (by kernel_rfl) (fun _ _ _ h => h) (Or.inl ⟨by rfl, ?y15_47⟩) ?_
            case' y15_47 => ((intro w hSw; go_simp) <;> (with_reducible rfl))
            try simp only [Act.put, List.setIfInBounds_toArray, List.set_cons_zero, List.set_cons_succ]
            refine AnyT.take (i := 16) (oi := ⟨_, _, _, _, _, _⟩) (v := ?_) rfl (by kernel_rfl) (by kernel_rfl) (by kernel_rfl) (by kernel_rfl) (fun _ _ _ h => h) (Or.inl ⟨by rfl, ?y16_48⟩) (by assumption) ?_
            case' y16_48 => ((intro w hSw; (try dsimp only at hSw); go_simp) <;> (with_reducible rfl))
            try simp only [Act.put, List.setIfInBounds_toArray, List.set_cons_zero, List.set_cons_succ]
            refine AnyT.pick (i := 17) (oi := ⟨_, _, _, _, _, _⟩) (v := ?_) rfl (by kernel_rfl) (by kernel_rfl) (by kernel_rfl) (fun _ _ _ h => h) (Or.inl ⟨by rfl, ?y17_49⟩) ?_
            case' y17_49 => ((intro w hSw; go_simp) <;> (with_reducible rfl))
            try simp only [Act.put, List.setIfInBounds_toArray, List.set_cons_zero, List.set_cons_succ]
            refine AnyT.pick (i := 18) (oi := ⟨_, _, _, _, _, _⟩) (v := ?_) rfl (by kernel_rfl) (by kernel_rfl) (by kernel_rfl) (fun _ _ _ h => h) (Or.inl ⟨by rfl, ?y18_50⟩) ?_
            case' y18_50 => ((intro w hSw; go_simp) <;> (with_reducible rfl))
            try simp only [Act.put, List.setIfInBounds_toArray, List.set_cons_zero, List.set_cons_succ]
            refine AnyT.pick (i := 19) (oi := ⟨_, _, _, _, _, _⟩) (v := ?_) rfl (by kernel_rfl) (by kernel_rfl) (by kernel_rfl) (fun _ _ _ h => h) (Or.inl ⟨by rfl, ?y19_51⟩) ?_
            case' y19_51 => ((intro w hSw; go_simp) <;> (with_reducible rfl))
            try simp only [Act.put, List.setIfInBounds_toArray, List.set_cons_zero, List.set_cons_succ]
            refine AnyT.pick (i := 20) (oi := ⟨_, _, _, _, _, _⟩) (v := ?_) rfl (by kernel_rfl) (by kernel_rfl) (by kernel_rfl) (fun _ _ _ h => h) (Or.inl ⟨by rfl, ?y20_52⟩) ?_
            case' y20_52 => ((intro w hSw; go_simp) <;> (with_reducible rfl))
            try simp only [Act.put, List.setIfInBounds_toArray, List.set_cons_zero, List.set_cons_succ]
            refine AnyT.take (i := 21) (oi := ⟨_, _, _, _, _, _⟩) (v := ?_) rfl (by kernel_rfl) (by kernel_rfl) (by kernel_rfl) (by kernel_rfl) (fun _ _ _ h => h) (Or.inl ⟨by rfl, ?y21_53⟩) (by assumption) ?_
            case' y21_53 => ((intro w hSw; (try dsimp only at hSw); go_simp) <;> (with_reducible rfl))
            try simp only [Act.put, List.setIfInBounds_toArray, List.set_cons_zero, List.set_cons_succ]
            refine AnyT.take (i := 22) (oi := ⟨_, _, _, _, _, _⟩) (v := ?_) rfl (by kernel_rfl) (by kernel_rfl) (by kernel_rfl) (by kernel_rfl) (fun _ _ _ h => h) (Or.inl ⟨by rfl, ?y22_54⟩) (by assumption) ?_
            case' y22_54 => ((intro w hSw; (try dsimp only at hSw); go_simp) <;> (with_reducible rfl))
            try simp only [Act.put, List.setIfInBounds_toArray, List.set_cons_zero, List.set_cons_succ]
            refine AllT.go (rs := [23, 27]) (by kernel_rfl) (by simp) ?_
            refine AllT.early (o := ⟨_, _, _, _, _, _⟩) rfl (fun K hK => ?_) ?_
            · go_simp
              go_at_call 33
              refine (PX.out _ hUd).mono ?_
              rintro e wp ⟨rfl, hUp⟩
              have hU5 := hUd.trans hUp
              refine hK.out _ _ (HW0.out _ hU5) (fun _ => ?_)
              clear hK K hHeld
              try simp only [Act.put, List.setIfInBounds_toArray, List.set_cons_zero, List.set_cons_succ]
              refine AnyT.pick (i := 24) (oi := ⟨_, _, _, _, _, _⟩) (v := ?_) rfl (by kernel_rfl) (by kernel_rfl) (by kernel_rfl) (fun _ _ _ h => h) (Or.inl ⟨by rfl, ?y24_55⟩) ?_
              case' y24_55 => ((intro w hSw; go_simp) <;> (with_reducible rfl))
              try simp only [Act.put, List.setIfInBounds_toArray, List.set_cons_zero, List.set_cons_succ]
              refine AnyT.pick (i := 25) (oi := ⟨_, _, _, _, _, _⟩) (v := ?_) rfl (by kernel_rfl) (by kernel_rfl) (by kernel_rfl) (fun _ _ _ h => h) (Or.inl ⟨by rfl, ?y25_56⟩) ?_
              case' y25_56 => ((intro w hSw; go_simp) <;> (with_reducible rfl))
              try simp only [Act.put, List.setIfInBounds_toArray, List.set_cons_zero, List.set_cons_succ]
              refine AnyT.pick (i := 26) (oi := ⟨_, _, _, _, _, _⟩) (v := ?_) rfl (by kernel_rfl) (by kernel_rfl) (by kernel_rfl) (fun _ _ _ h => h) (Or.inl ⟨by rfl, ?y26_57⟩) ?_
              case' y26_57 => ((intro w hSw; go_simp) <;> (with_reducible rfl))
              try simp only [Act.put, List.setIfInBounds_toArray, List.set_cons_zero, List.set_cons_succ]
              refine AllT.go (rs := [27]) (by kernel_rfl) (by simp) ?_
              refine AllT.early (o := ⟨_, _, _, _, _, _⟩) rfl (fun K hK => ?_) ?_
              · go_simp
                refine hK.out _ _ (HW0.out _ (hU5.alloc _)) (fun _ => ?_)
                clear hK K
                try simp only [Act.put, List.setIfInBounds_toArray, List.set_cons_zero, List.set_cons_succ]
                refine AllT.go (rs := [28]) (by kernel_rfl) (by simp) ?_
                refine AllT.late (o := ⟨_, _, _, _, _, _⟩) rfl (by decide) (fun K hK => ?_) ?_
                · go_simp
                  refine hK.out _ _ trivial (fun _ => ?_)
                  clear hK K
                  try simp only [Act.put, List.setIfInBounds_toArray, List.set_cons_zero, List.set_cons_succ]
                  refine AnyT.pick (i := 29) (oi := ⟨_, _, _, _, _, _⟩) (v := ?_) rfl (by kernel_rfl) (by kernel_rfl) (by kernel_rfl) (fun _ _ _ h => h) (Or.inl ⟨by rfl, ?y29_58⟩) ?_
                  case' y29_58 => ((intro w hSw; go_simp) <;> (with_reducible rfl))
                  try simp only [Act.put, List.setIfInBounds_toArray, List.set_cons_zero, List.set_cons_succ]
                  refine AnyT.done (by kernel_rfl) ?_ _
                  go_wp2_with fail
                  go_meet
                  exact ⟨wp.heap.size, rfl, rfl, has3_alloc wp _ _ _ _, hU5.alloc _, hU5.size⟩
                exact AllT.nil
              exact AllT.nil
            refine AllT.early (o := ⟨_, _, _, _, _, _⟩) rfl (fun K hK => ?_) ?_
            · go_simp
              refine hK.out _ _ (HW0.out _ (hUd.alloc _)) (fun _ => ?_)
              clear hK K
              try simp only [Act.put, List.setIfInBounds_toArray, List.set_cons_zero, List.set_cons_succ]
              have X3 := has3_alloc wqd (.int .u8 0) (.int .i64 0) (.string ⟨#[]⟩) 31
              refine AllT.go (rs := [23]) (by kernel_rfl) (by simp) ?_
              refine AllT.early (o := ⟨_, _, _, _, _, _⟩) rfl (fun K hK => ?_) ?_
              · go_simp
                go_at_call 33
                refine (PX.out _ (hUd.alloc (.cells #[.int .u8 0, .int .i64 0, .string ⟨#[]⟩] 31))).mono ?_
                rintro e wp ⟨rfl, hUp⟩
                have hU5 := (hUd.alloc (.cells #[.int .u8 0, .int .i64 0, .string ⟨#[]⟩] 31)).trans hUp
                refine hK.out _ _ (HW0.out _ hU5) (fun _ => ?_)
                clear hK K hHeld
                have X4 := X3.up hUp
                clear X3
                have X5 := X4.store (.int .u8 5) (.int .i64 (r1 : Int)) (.string ⟨#[]⟩)
                have hU6 : Up wr (((wp.setCell ⟨wqd.heap.size, 0, none⟩ (.int .u8 5)).setCell ⟨wqd.heap.size, 1, none⟩ (.int .i64 (r1 : Int))).setCell ⟨wqd.heap.size, 2, none⟩ (.string ⟨#[]⟩)) := ((hU5.setCell (p := ⟨wqd.heap.size, 0, none⟩) hUd.size _).setCell (p := ⟨wqd.heap.size, 1, none⟩) hUd.size _).setCell (p := ⟨wqd.heap.size, 2, none⟩) hUd.size _
                have H56 := Lib.hid (And.intro X5 (And.intro hU6 hUd.size))
                clear X5 hU6
                obtain ⟨z0, ⟨z1, z2, z3⟩, ⟨z4, z5, z6⟩⟩ := X4
                try simp only [Act.put, List.setIfInBounds_toArray, List.set_cons_zero, List.set_cons_succ]
                refine AnyT.pick (i := 24) (oi := ⟨_, _, _, _, _, _⟩) (v := ?_) rfl (by kernel_rfl) (by kernel_rfl) (by kernel_rfl) (fun _ _ _ h => h) (Or.inl ⟨by rfl, ?y24_59⟩) ?_
                case' y24_59 => ((intro w hSw; go_simp) <;> (with_reducible rfl))
                try simp only [Act.put, List.setIfInBounds_toArray, List.set_cons_zero, List.set_cons_succ]
                refine AnyT.pick (i := 25) (oi := ⟨_, _, _, _, _, _⟩) (v := ?_) rfl (by kernel_rfl) (by kernel_rfl) (by kernel_rfl) (fun _ _ _ h => h) (Or.inl ⟨by rfl, ?y25_60⟩) ?_
                case' y25_60 => ((intro w hSw; go_simp) <;> (with_reducible rfl))
                try simp only [Act.put, List.setIfInBounds_toArray, List.set_cons_zero, List.set_cons_succ]
                refine AnyT.pick (i := 26) (oi := ⟨_, _, _, _, _, _⟩) (v := ?_) rfl (by kernel_rfl) (by kernel_rfl) (by kernel_rfl) (fun _ _ _ h => h) (Or.inl ⟨by rfl, ?y26_61⟩) ?_
                case' y26_61 => ((intro w hSw; go_simp) <;> (with_reducible rfl))
                try simp only [Act.put, List.setIfInBounds_toArray, List.set_cons_zero, List.set_cons_succ]
                refine AllT.go (rs := [28]) (by kernel_rfl) (by simp) ?_
                refine AllT.late (o := ⟨_, _, _, _, _, _⟩) rfl (by decide) (fun K hK => ?_) ?_
                · go_simp
                  refine hK.out _ _ trivial (fun _ => ?_)
                  clear hK K
                  try simp only [Act.put, List.setIfInBounds_toArray, List.set_cons_zero, List.set_cons_succ]
                  refine AnyT.pick (i := 29) (oi := ⟨_, _, _, _, _, _⟩) (v := ?_) rfl (by kernel_rfl) (by kernel_rfl) (by kernel_rfl) (fun _ _ _ h => h) (Or.inl ⟨by rfl, ?y29_62⟩) ?_
                  case' y29_62 => ((intro w hSw; go_simp) <;> (with_reducible rfl))
                  try simp only [Act.put, List.setIfInBounds_toArray, List.set_cons_zero, List.set_cons_succ]
                  refine AnyT.done (by kernel_rfl) ?_ _
                  go_wp2_with fail
                  go_meet
                  exact ⟨wqd.heap.size, rfl, rfl, H56.out.1, H56.out.2.1, H56.out.2.2⟩
                exact AllT.nil
              exact AllT.nil
            exact AllT.nil
          case rest =>
            obtain ⟨xb, rfl, rfl, hX, hU, hxb⟩ := hcut
            have h3 := SS.out.2.2.2.1.up hU
            have HE := Lib.hid (And.intro hX (And.intro hU h3))
            obtain ⟨x0, ⟨x1, x2, x3⟩, -⟩ := hX
            obtain ⟨z0, ⟨z1, z2, z3⟩, ⟨z4, z5, z6⟩⟩ := h3
            have hw2 : IntKind.i64.wrap ((i : Int) - 1) = (i : Int) - 1 := by rw [IntKind.wrap_i64] <;> omega
            clear hU
            go_wp2_with fail
            go_roundw
            case rel => exact ⟨i, r1, xa, (i : Int) - 1, by omega, rfl, rfl, HPA.out, HE.out.2.2.store _ _ _, (SS.out.2.2.2.2.trans (HE.out.2.1.chg.mono (by simp)) (fun x hx => .inl hx)).trans (set3_chg wc s10 _ _ _) (fun x hx => .inl hx)⟩
            case measure => simp [intOf]
end Go.Proofs.YtojbphnkabfkpaaGreatDoor.mb

/- WrapBack: the law. -/
set_option linter.unusedVariables false
set_option linter.unusedSimpArgs false
namespace Go.Proofs.YtojbphnkabfkpaaGreatDoor.mb
open Go.RowKit Go.Maps mem rec ar
attribute [local go_sem ↓] Go.wp_at_zero Go.wp_at_succ
set_option maxRecDepth 100000
set_option maxHeartbeats 1000000
theorem back_early (a0 a1 : Option Addr) (n m c0 c1 : Nat) (z : Int) (w : World) (hL : Laid w) (h : 6 < n ∨ 6 < m ∨ n = 0) :
    Calls Tryz.prog 6 #[.slice a0 n c0, .slice a1 m c1, .int .u8 z] w fun e w' => e = .returned (.bool true) ∧ Up w w' := by
  by_cases h0 : 6 < n
  · have i0 : (6 : Int) < (n : Int) := by omega
    go_enter Tryz.func6, Tryz.ntmps6
    go_wp2_with (go_at_call 31; refine (awake15 _ hL).mono ?_; rintro e w0 ⟨rfl, hb0⟩)
    go_ret
    exact ⟨rfl, hb0⟩
  have i0 : (n : Int) ≤ 6 := by omega
  by_cases h1 : 6 < m
  · have i1 : (6 : Int) < (m : Int) := by omega
    go_enter Tryz.func6, Tryz.ntmps6
    go_wp2_with (go_at_call 31; refine (awake15 _ hL).mono ?_; rintro e w0 ⟨rfl, hb0⟩)
    go_ret
    exact ⟨rfl, hb0⟩
  have i1 : (m : Int) ≤ 6 := by omega
  have hz : n = 0 := by omega
  subst hz
  clear h h0 h1
  go_enter Tryz.func6, Tryz.ntmps6
  go_wp2_with (go_at_call 31; refine (awake15 _ hL).mono ?_; rintro e w0 ⟨rfl, hb0⟩)
  go_ret
  exact ⟨rfl, hb0⟩
theorem back_law (v0 v1 : Value) (z : Int) (w : World) (hL : Laid w) (h0 : op.Handed 2 P2At v0 w) (h1 : op.Handed 1 op.U8At v1 w) (hz : 0 ≤ z ∧ z ≤ 255) :
    Calls Tryz.prog 6 #[v0, v1, .int .u8 z] w fun e w' => e = .returned (.bool true) ∧ Below w.heap.size w w' := by
  obtain ⟨a0, n, c0, ps, rfl, g0⟩ := h0
  obtain ⟨a1, m, c1, ws, rfl, g1⟩ := h1
  by_cases he : 6 < n ∨ 6 < m ∨ n = 0
  · exact back_early a0 a1 n m c0 c1 z w hL he
  exact back a0 n c0 ps a1 m c1 ws z w hL (by omega) (by omega) (by omega) hz.1 hz.2 g0 g1
end Go.Proofs.YtojbphnkabfkpaaGreatDoor.mb

/- WrapBack: an object that goes through some membranes, and back the same way, is itself. No condition but the row's own. -/
set_option linter.unusedVariables false
namespace Go.Proofs.YtojbphnkabfkpaaGreatDoor.wrapBack
open Go Go.ChangeShapes Go.WideShapes Go.RowKit Go.Joins
set_option maxRecDepth 100000 in
theorem lifted (os : Os) (started : os.Started) (H : Type) (enc : TypeId × Value → H) :
    ReturnsInHanded {} Tryz.checked os 6 .any (fun w args => (Rows.wrapBackSpec.pre enc Tryz.prog Tryz.f6 [] false w args ∧ laidMetH Tryz.prog laid0 w) ∧ sizedMet enc Tryz.prog Tryz.f6 (OpenSpec.ofChange Rows.wrapBackSpec) false w args)
      (Rows.wrapBackSpec.post enc Tryz.prog Tryz.f6 false true false false) := by
  refine Frm.handed (C := Tryz.checked) (X := fun w _ => laidMetH Tryz.prog laid0 w) (fun _ _ _ hh h => h.of_heap hh) own started (by kernel_rfl) Tryz.func6
    (ChangeSpec.witness_at (enc := enc) (C := Tryz.checked) (os := os) (X := fun w _ => laidMetH Tryz.prog laid0 w) false (laidWorld os) #[.slice none 0 0, .slice none 0 0, .int .u8 0] 8 rfl (by kernel_rfl) (by kernel_rfl) (by kernel_rfl) (by kernel_rfl) (by kernel_rfl) (laidWorld_met os _)) ?_
  intro W base args ds gs before hval0 hW hwt hL hsh
  have hval : ∀ (j : Nat) t v, Tryz.f6.params[j]? = some t → args[j]? = some v → Value.okWide Tryz.prog W .any base t v := hval0
  have hW' := hW
  obtain ⟨p, q, hA0, hV, rfl, hfz, hnd⟩ := hW
  have hA : DataW.TrodAll enc Tryz.prog W 0 (fun _ => true) true Tryz.f6.params.toList args.toList ds p := hA0
  rw [Tryz.params6] at hA hval
  obtain ⟨v0, vs0, d0, ds0, p0, q0, hargs, rfl, rfl, h0, r0⟩ := trodAll_cons hA
  obtain ⟨v1, vs1, d1, ds1, p1, q1, rfl, rfl, rfl, h1, r1⟩ := trodAll_cons r0
  obtain ⟨v2, vs2, d2, ds2, p2, q2, rfl, rfl, rfl, h2, r2⟩ := trodAll_cons r1
  obtain ⟨rfl, rfl, rfl⟩ := trodAll_nil r2
  obtain rfl : args = #[v0, v1, v2] := by cases args; simp_all
  have hs0 : op.Handed 2 mb.P2At v0 W := by
    obtain ⟨a0, l0, c0, rfl⟩ := okWide_slice Tryz.underlying76 (hval 0 76 v0 rfl rfl)
    obtain ⟨fuel, hf⟩ := h0
    exact mb.open_prs hf
  have hs1 : op.Handed 1 op.U8At v1 W := by
    obtain ⟨a0, l0, c0, rfl⟩ := okWide_slice Tryz.underlying51 (hval 1 51 v1 rfl rfl)
    obtain ⟨fuel, hf⟩ := h1
    exact op.open_bytes hf
  obtain ⟨mz, rfl, _, _, wmz⟩ := open_int Tryz.underlying5 (hval 2 5 v2 rfl rfl) h2
  refine (mb.back_law v0 v1 mz W (laid_of hL hsh) hs0 hs1 (op.u8wf wmz)).mono fun e W' ⟨he, bel⟩ => ?_
  exact ⟨_, he, Frm.law_post laidOut (tb := 4) rfl Tryz.underlying4 rfl (by kernel_rfl) hW' rfl bel⟩
set_option maxHeartbeats 20000000 in
theorem facts : joinedFacts Tryz.prog 6 Tryz.f6 Rows.wrapBackSpec Rows.wrapBackRow = true := by
  unfold joinedFacts
  simp only [Bool.and_eq_true]
  repeat' apply And.intro
  all_goals (as_aux_lemma => kernel_rfl)
theorem over : Rows.wrapBackRow.holds Tryz.pinned (OpenSpec.ofChange Rows.wrapBackSpec) :=
  OpenClaim.holds_of_wide 6 Tryz.f6 rfl rfl rfl rfl rfl rfl rfl ⟨rfl, rfl, rfl, rfl, rfl⟩ rfl rfl rfl rfl rfl (by kernel_rfl) Tryz.func6 facts
    (of_decide_eq_true (by kernel_rfl)) (by unfold Func.isWrapper; first | (rw [if_pos (by decide +kernel)]; kernel_rfl) | (rw [if_neg (by decide +kernel)]; exact ⟨rfl, rfl⟩))
    (fun os started H enc _ => lifted os started H enc)
end Go.Proofs.YtojbphnkabfkpaaGreatDoor.wrapBack

/- WrapBack: an object that goes through some membranes, and back the same way, is itself. No condition but the row's own. -/
set_option linter.unusedVariables false
namespace Go.Proofs.YtojbphnkabfkpaaGreatDoor
open Go
theorem wrapBack_holds : Rows.WrapBackCardSaid :=
  Claim7.holds_tied_plain_at .later [] [.data, .data, .data, .sentinel, .sentinel, .data, .data, .data, .mapped, .data, .widerDeep, .mapped] true (true, "c9ac608b21664e63eccecbc1da0ed8dd6f887f91dad588e8f9d38ba70c0f02fe") true
    wrapBack.over (fun _ h => by cases h) (by as_aux_lemma => kernel_rfl) (fun _ h => by cases h) wrapBack_row_tie rfl ⟨rfl, rfl⟩ (by as_aux_lemma => kernel_rfl) rfl
    (fun f fn hf hfn => by
      obtain rfl : f = 6 := (Option.some.inj ((show Tryz.prog.funcNamed "paling/palinglaw15.WrapBack" = some 6 by as_aux_lemma => kernel_rfl).symm.trans hf)).symm
      obtain rfl : fn = Tryz.f6 := (Option.some.inj (Tryz.func6.symm.trans hfn)).symm
      exact ⟨by as_aux_lemma => kernel_rfl, fun j t ht => by
        rw [Tryz.params6] at ht
        have hall : ∀ t ∈ [76, 51, 5], Tryz.prog.wantsStandIn t = false := by
          intro t ht
          simp only [List.mem_cons, List.not_mem_nil, or_false] at ht
          rcases ht with rfl | rfl | rfl <;> (as_aux_lemma => kernel_rfl)
        exact hall t (by simpa using List.mem_of_getElem? (by simpa using ht : [76, 51, 5][j]? = some t))⟩)
    (by as_aux_lemma => kernel_rfl)
#print axioms wrapBack_holds
end Go.Proofs.YtojbphnkabfkpaaGreatDoor
