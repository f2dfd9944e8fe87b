/- The arena's Put, where there is room. (10 texts in one.) -/
import Derived.Below
import Derived.WalkKit
import Derived.Lib.Hide
import Derived.Maps.Own
import Derived.Maps.OwnSet
import Derived.Deep.AppendLies
import Derived.Deep.MidRow
import Derived.RegionTactic
import Derived.Deep.RegionLaw
import Derived.Test.YtmmfpkkkpeapeaaGreatDoorProg
import Derived.Laws.BitsLemmas
import Derived.DeepKeys4
import Derived.Maps.OwnOps
import Derived.Maps.Views
import Derived.OwnWalk
import Derived.LoopTactic
import Derived.ChangeAlike
import Derived.Deep.RegionWith
import Derived.Deep.CutRange
import Derived.ProofKit
import Derived.Lib.Bytes
import Derived.Outline
import Derived.WalkSpells
import Derived.BigRegion
import Derived.Deep.QuietTactic
import Derived.BigQuiet
import Derived.Deep.RegionHeld3
import Derived.Deep.DrawnRows
import Derived.Deep.CutBlock

/- What a call has turned: blocks that may turn (Chg), what is owned in them; no program in sight. -/
set_option linter.unusedVariables false
namespace Go.Proofs.YtmmfpkkkpeapeaaGreatDoor.mem
open Go.RowKit Go.Maps

/-- Of the blocks that there are in w none but those of F has turned. -/
structure Chg (F : List Nat) (w w' : World) : Prop where
  os : w'.os = w.os
  tape : w'.tape = w.tape
  output : w'.output = w.output
  size : w.heap.size ≤ w'.heap.size
  block : ∀ k, k < w.heap.size → k ∉ F → w'.heap[k]? = w.heap[k]?

theorem Chg.refl (F : List Nat) (w : World) : Chg F w w := ⟨rfl, rfl, rfl, Nat.le_refl _, fun _ _ _ => rfl⟩
theorem Chg.trans {F G : List Nat} {a b c : World} (h : Chg F a b) (k : Chg G b c) (hs : ∀ x ∈ G, x ∈ F ∨ a.heap.size ≤ x) : Chg F a c :=
  ⟨k.os.trans h.os, k.tape.trans h.tape, k.output.trans h.output, Nat.le_trans h.size k.size, fun i hi hn =>
    (k.block i (Nat.lt_of_lt_of_le hi h.size) (fun hg => by rcases hs i hg with h1 | h1; exact hn h1; omega)).trans (h.block i hi hn)⟩
theorem Chg.trans0 {F : List Nat} {a b c : World} (h : Chg F a b) (k : Chg [] b c) : Chg F a c := h.trans k (fun _ h => by cases h)
theorem Chg.mono {F G : List Nat} {a b : World} (h : Chg F a b) (hs : ∀ x ∈ F, x ∈ G) : Chg G a b :=
  ⟨h.os, h.tape, h.output, h.size, fun i hi hn => h.block i hi (fun hx => hn (hs i hx))⟩
theorem Chg.weak {F G : List Nat} {a b : World} (h : Chg F a b) (hs : ∀ x ∈ F, x ∈ G ∨ a.heap.size ≤ x) : Chg G a b :=
  ⟨h.os, h.tape, h.output, h.size, fun i hi hn => h.block i hi (fun hx => by rcases hs i hx with h1 | h1; exact hn h1; omega)⟩
theorem Chg.of_up {w w' : World} (h : Below w.heap.size w w') : Chg [] w w' := ⟨h.os, h.tape, h.output, h.size, fun k hk _ => h.block k hk⟩
theorem Chg.to_up {F : List Nat} {w w' : World} (h : Chg F w w') (hF : ∀ b ∈ F, w.heap.size ≤ b) : Below w.heap.size w w' :=
  ⟨h.os, h.tape, h.output, h.size, fun k hk => h.block k hk (fun hx => by have := hF k hx; omega)⟩
theorem Chg.up {w w' : World} (h : Chg [] w w') : Below w.heap.size w w' := h.to_up (fun _ h => by cases h)
theorem Chg.below {F : List Nat} {B : Nat} {w w' : World} (h : Chg F w w') (hB : B ≤ w.heap.size) (hF : ∀ b ∈ F, B ≤ b) : Below B w w' :=
  ⟨h.os, h.tape, h.output, h.size, fun k hk => h.block k (by omega) (fun hx => by have := hF k hx; omega)⟩
theorem Chg.alloc {F : List Nat} {a w : World} (h : Chg F a w) (o : Obj) : Chg F a (w.alloc o) :=
  ⟨h.os, h.tape, h.output, Nat.le_trans h.size (by simp), fun k hk hn => (Below.heap_alloc _ _ _ (Nat.lt_of_lt_of_le hk h.size)).trans (h.block k hk hn)⟩
theorem Chg.drew {F : List Nat} {a w : World} (h : Chg F a w) : Chg F a w.drew := ⟨h.os, h.tape, h.output, h.size, h.block⟩
theorem Chg.setCell {F : List Nat} {a w : World} (h : Chg F a w) {p : Addr} (hp : p.block ∈ F ∨ a.heap.size ≤ p.block) (u : Value) : Chg F a (w.setCell p u) :=
  ⟨h.os, h.tape, h.output, Nat.le_trans h.size (by simp [World.setCell]), fun k hk hn => (Below.heap_setCell _ _ _ _ (by rintro rfl; rcases hp with h1 | h1; exact hn h1; omega)).trans (h.block k hk hn)⟩
theorem Chg.grown {F : List Nat} {a w w' : World} {row : Option Nat} (h : Chg F a w) (hg : w.grownBy w' row) (hr : ∀ k, row = some k → k ∈ F ∨ a.heap.size ≤ k) : Chg F a w' :=
  ⟨hg.os.trans h.os, hg.tape.trans h.tape, hg.output.trans h.output, Nat.le_trans h.size hg.size, fun k hk hn =>
    (hg.block k (Nat.lt_of_lt_of_le hk h.size) (fun e => by rcases hr k e.symm with h1 | h1; exact hn h1; omega)).trans (h.block k hk hn)⟩
theorem setCells_heap (b : Nat) : ∀ (vs : List Value) (o : Nat) (w : World) (k : Nat), k ≠ b → (w.setCells b o vs).heap[k]? = w.heap[k]?
  | [], _, _, _, _ => rfl
  | v :: r, o, w, k, h => by
    rw [World.setCells, setCells_heap b r (o + 1) _ k h]
    exact Below.heap_setCell _ _ _ _ (by simpa using h)
theorem setCells_size (b : Nat) : ∀ (vs : List Value) (o : Nat) (w : World), (w.setCells b o vs).heap.size = w.heap.size
  | [], _, _ => rfl
  | v :: r, o, w => by
    rw [World.setCells, setCells_size b r (o + 1) _]
    simp [World.setCell]
theorem setCells_rest (b : Nat) : ∀ (vs : List Value) (o : Nat) (w : World), (w.setCells b o vs).os = w.os ∧ (w.setCells b o vs).tape = w.tape ∧ (w.setCells b o vs).output = w.output
  | [], _, _ => ⟨rfl, rfl, rfl⟩
  | v :: r, o, w => by
    rw [World.setCells]
    exact setCells_rest b r (o + 1) (w.setCell ⟨b, o, none⟩ v)
theorem Chg.setCells {F : List Nat} {a w : World} (h : Chg F a w) {b : Nat} (hp : b ∈ F ∨ a.heap.size ≤ b) (o : Nat) (vs : List Value) : Chg F a (w.setCells b o vs) := by
  obtain ⟨r1, r2, r3⟩ := setCells_rest b vs o w
  exact ⟨r1.trans h.os, r2.trans h.tape, r3.trans h.output, by rw [setCells_size]; exact h.size, fun k hk hn =>
    (setCells_heap b vs o w k (by rintro rfl; rcases hp with h1 | h1; exact hn h1; omega)).trans (h.block k hk hn)⟩
theorem Chg.cell {F : List Nat} {w w' : World} (h : Chg F w w') {p : Addr} (hp : p.block < w.heap.size) (hn : p.block ∉ F) : w'.cell? p = w.cell? p := World.cell?_of_block (w := w) (h.block p.block hp hn)
theorem Chg.frozen {F : List Nat} {w w' : World} (h : Chg F w w') {p : Addr} (hp : p.block < w.heap.size) (hn : p.block ∉ F) : w'.frozen? p = w.frozen? p := World.frozen?_of_block (w := w) (h.block p.block hp hn)

/-! ### a block of cells, known whole -/
def Blk (w : World) (b : Nat) (cs : Array Value) (t : Nat) : Prop := w.heap[b]? = some (.cells cs t (0, 0))
theorem Blk.lt {w : World} {b : Nat} {cs : Array Value} {t : Nat} (h : Blk w b cs t) : b < w.heap.size := (Array.getElem?_eq_some_iff.1 h).1
theorem Blk.chg {F : List Nat} {w w' : World} {b : Nat} {cs : Array Value} {t : Nat} (h : Blk w b cs t) (c : Chg F w w') (hn : b ∉ F) : Blk w' b cs t := (c.block b h.lt hn).trans h
theorem Blk.cell {w : World} {b : Nat} {cs : Array Value} {t : Nat} (h : Blk w b cs t) (j : Nat) : w.cell? ⟨b, j, none⟩ = cs[j]? := cell_of_row w b j cs t (0, 0) h
theorem Blk.new (w : World) (cs : Array Value) (t : Nat) : Blk (w.alloc (.cells cs t)) w.heap.size cs t := heap_alloc_new w _

/-! ### what is owned -/
theorem owns_chg {F : List Nat} {w w' : World} {base : Nat} {e : TypeId} {size : Nat} {v : Value} {n : Nat} {xs : List Value} (h : w.ownsRow base e size v n xs) (c : Chg F w w') (hn : ∀ g, v.ownBlock = some g → g ∉ F) : w'.ownsRow base e size v n xs := by
  refine ⟨h.1, ?_⟩
  rcases h.2 with hh | ⟨g, cap, cur, rfl, hb, hg, rest⟩
  · exact .inl hh
  · exact .inr ⟨g, cap, cur, rfl, hb, (c.block g (Array.getElem?_eq_some_iff.1 hg).1 (hn g rfl)).trans hg, rest⟩
theorem map_chg {H : Type} {P : Program} {k : TypeId} {R : Value → Option (DataW H × List MemPlace)} {b n : Nat} {D : DataW H} {F : List Nat} {w w' : World} (h : w.ownsMap P k R b n D) (c : Chg F w w') (hn : b ∉ F) : w'.ownsMap P k R b n D := by
  have hlt := h.lt
  obtain ⟨es, cl, e, r⟩ := h
  exact ⟨es, cl, (c.block b hlt hn).trans e, r⟩
theorem Chg.turned {F : List Nat} {a w w' : World} {b : Nat} (h : Chg F a w) (ht : w.mapTurned w' b) (hb : b ∈ F ∨ a.heap.size ≤ b) : Chg F a w' :=
  h.grown ht.grown (fun k hk => by cases hk; exact hb)

/-! ### laws at a step of a region that draws its order -/
section
variable {H : Type} {P : Program}
theorem step_delete_own {ops : Array Oper} {w : World} {o : Oper} {a : Act} {Kt : Act → World → Prop} {Q : Exit → Act → World → Prop} {E : Prop} (hgd : o.guard = none) (m x : Operand) (t k : TypeId)
    (hop : o.op = Op.call { callee := Callee.builtin Builtin.delete, args := #[m, x], argTypes := #[t, k] })
    (e : TypeId) (K : Keyed P k) (ht : P.underlying t = some (.map k e)) (R : Value → Option (DataW H × List MemPlace)) (b n : Nat) (D : DataW H)
    (hm : a.eval m = .map (some b)) (hown : w.ownsMap P k R b n D) (key : Value) (kl : Lit) (hx : a.eval x = key) (hkey : keyOf P k key = some kl)
    (hK : ∀ w', w'.ownsMap P k R b n (D.del kl) → w.mapTurned w' b → Kt (a.put o.dst (.tuple #[])) w') :
    if Region.wanted o (yielded ops a.tmps) = true then Oper.wp P o a w Kt Q else E := by
  have hw : Region.wanted o (yielded ops a.tmps) = true := by simp [Region.wanted, hgd]
  rw [if_pos hw]
  obtain ⟨w', hrun, r1, r2⟩ := hown.drop K ht hkey o.type
  unfold Oper.wp
  simp [execOp, hop, resolve, invoke, builtin, hm, hx, hrun, Result.andThen]
  exact hK w' r1 r2
end
end Go.Proofs.YtmmfpkkkpeapeaaGreatDoor.mem

/- Package value's makers, record's functions: each walked once, over the fields as a map that is owned. -/
set_option linter.unusedVariables false
namespace Go.Proofs.YtmmfpkkkpeapeaaGreatDoor.rec
open Go.RowKit Go.Maps mem
/-- A value: its kind, its number, its text. -/
abbrev V3 := Int × Int × ByteArray
def val (p : V3) : Value := .agg #[.int .u8 p.1, .int .i64 p.2.1, .string p.2.2]
def zero3 : V3 := (0, 0, ⟨#[]⟩)
def Up (w w' : World) : Prop := Below w.heap.size w w'
theorem Up.refl (w : World) : Up w w := Below.refl _ _
theorem Up.trans {a b c : World} (h : Up a b) (k : Up b c) : Up a c := Below.trans h (Below.mono k (Below.size h))
theorem Up.alloc {a b : World} (h : Up a b) (o : Obj) : Up a (b.alloc o) := Below.alloc h (Below.size h) o
theorem Up.drew {a b : World} (h : Up a b) : Up a b.drew := Below.drew h
theorem Up.chg {a b : World} (h : Up a b) : Chg [] a b := Chg.of_up h
def isKey (k : Int) : Bool := k == 2 || k == 3

theorem number_x (n : Int) (w : World) : Calls Tryz.prog 23 #[.int .i64 n] w fun e w' => e = .returned (val (2, n, ⟨#[]⟩)) ∧ w' = w.alloc (.cells #[.int .u8 2, .int .i64 n, .string ⟨#[]⟩] 51) := by
  go_enter Tryz.func23, Tryz.ntmps23
  go_wp2
  exact bodyPost_ret (v := .agg #[.int .u8 2, .int .i64 n, .string ⟨#[]⟩]) (by simp [results, Tryz.results23, go_sem]) rfl ⟨rfl, rfl⟩
theorem words_x (s : ByteArray) (w : World) : Calls Tryz.prog 57 #[.string s] w fun e w' => e = .returned (val (3, 0, s)) ∧ w' = w.alloc (.cells #[.int .u8 3, .int .i64 0, .string s] 51) := by
  go_enter Tryz.func57, Tryz.ntmps57
  go_wp2
  exact bodyPost_ret (v := .agg #[.int .u8 3, .int .i64 0, .string s]) (by simp [results, Tryz.results57, go_sem]) rfl ⟨rfl, rfl⟩
def tnum (b : Bool) : Int := if b then 1 else 0
theorem truth_x (b : Bool) (w : World) : Calls Tryz.prog 77 #[.bool b] w fun e w' => e = .returned (val (1, tnum b, ⟨#[]⟩)) ∧ w' = w.alloc (.cells #[.int .u8 1, .int .i64 (tnum b), .string ⟨#[]⟩] 51) := by
  cases b
  · go_enter Tryz.func77, Tryz.ntmps77
    go_wp2
    exact bodyPost_ret (v := .agg #[.int .u8 1, .int .i64 0, .string ⟨#[]⟩]) (by simp [results, Tryz.results77, go_sem]) rfl ⟨rfl, rfl⟩
  · go_enter Tryz.func77, Tryz.ntmps77
    go_wp2
    exact bodyPost_ret (v := .agg #[.int .u8 1, .int .i64 1, .string ⟨#[]⟩]) (by simp [results, Tryz.results77, go_sem]) rfl ⟨rfl, rfl⟩
theorem number (n : Int) (w : World) : Calls Tryz.prog 23 #[.int .i64 n] w fun e w' => e = .returned (val (2, n, ⟨#[]⟩)) ∧ Up w w' :=
  (number_x n w).mono fun e w' h => ⟨h.1, by rw [h.2]; exact (Up.refl w).alloc _⟩
theorem words (s : ByteArray) (w : World) : Calls Tryz.prog 57 #[.string s] w fun e w' => e = .returned (val (3, 0, s)) ∧ Up w w' :=
  (words_x s w).mono fun e w' h => ⟨h.1, by rw [h.2]; exact (Up.refl w).alloc _⟩
theorem truth (b : Bool) (w : World) : Calls Tryz.prog 77 #[.bool b] w fun e w' => e = .returned (val (1, tnum b, ⟨#[]⟩)) ∧ Up w w' :=
  (truth_x b w).mono fun e w' h => ⟨h.1, by rw [h.2]; exact (Up.refl w).alloc _⟩
theorem key_any (k n : Int) (s : ByteArray) (w : World) : Calls Tryz.prog 66 #[.agg #[.int .u8 k, .int .i64 n, .string s]] w fun e w' => e = .returned (.bool (isKey k)) ∧ Up w w' := by
  by_cases h2 : k = 2
  · subst h2
    go_enter Tryz.func66, Tryz.ntmps66
    go_wp2
    go_ret
    exact ⟨rfl, (Below.refl _ _).alloc (Nat.le_refl _) _⟩
  · have b2 : (k == 2) = false := by simpa using h2
    by_cases h3 : k = 3
    · subst h3
      go_enter Tryz.func66, Tryz.ntmps66
      go_wp2
      go_ret
      exact ⟨rfl, (Below.refl _ _).alloc (Nat.le_refl _) _⟩
    · have b3 : (k == 3) = false := by simpa using h3
      have E : Hid (isKey k = false) := by unfold isKey; rw [b2, b3]; rfl
      clear h2 h3
      go_enter Tryz.func66, Tryz.ntmps66
      go_wp2
      go_ret
      exact ⟨by rw [E.out]; rfl, (Below.refl _ _).alloc (Nat.le_refl _) _⟩

/-! ### Make -/
theorem and_one (n : Int) : bits .and .i64 n 1 = n % 2 := by
  show IntKind.i64.wrap (((BitVec.ofInt 64 n &&& BitVec.ofInt 64 1 : BitVec 64).toNat : Nat) : Int) = n % 2
  have e1 : BitVec.ofInt 64 1 = 1#64 := by decide
  have e2 : (1#64).toNat = 1 := by decide
  rw [e1, BitVec.toNat_and, e2, Nat.and_one_is_mod, BitVec.toNat_ofInt, IntKind.wrap_i64]
  omega
/-- What Make answers: kind, number, text. -/
def vmk (k n : Int) (s : ByteArray) : V3 :=
  if k % 5 = 1 then (1, n % 2, ⟨#[]⟩) else if k % 5 = 2 then (2, n, ⟨#[]⟩) else if k % 5 = 3 then (3, 0, s) else if k % 5 = 4 then (4, (n.tmod 6 + 6) % 6, ⟨#[]⟩) else (0, 0, ⟨#[]⟩)
theorem six (n : Int) : (wrap64 (n.tmod 6 + 6)).tmod 6 = (n.tmod 6 + 6) % 6 := by
  have h1 : -6 < n.tmod 6 := by have := Int.lt_tmod_of_pos n (b := 6) (by decide); simpa using this
  have h2 : n.tmod 6 < 6 := Int.tmod_lt_of_pos n (by decide)
  unfold wrap64
  rw [Int.tmod_eq_emod_of_nonneg (by omega)]
  omega
set_option maxHeartbeats 1000000 in
theorem make_x (k n : Int) (s : ByteArray) (h0 : 0 ≤ k) (h1 : k ≤ 255) (w : World) : Calls Tryz.prog 11 #[.agg #[.int .u8 k, .int .i64 n, .string s]] w fun e w' => e = .returned (val (vmk k n s)) ∧ w' = (w.alloc (.cells #[.int .u8 k, .int .i64 n, .string s] 25)).alloc (.cells #[.int .u8 (vmk k n s).1, .int .i64 (vmk k n s).2.1, .string (vmk k n s).2.2] 51) := by
  have S := Lib.hid (six n)
  have A := Lib.hid (and_one n)
  by_cases c1 : k % 5 = 1
  · have b1 : (k % 5 == 1) = true := by simpa using c1
    have V : Hid (vmk k n s = (1, (n % 2), ⟨#[]⟩)) := by unfold vmk; rw [if_pos c1]; rfl
    clear c1
    go_enter Tryz.func11, Tryz.ntmps11
    go_wp2
    rw [A.out]
    rw [V.out]
    exact bodyPost_ret (v := .agg #[.int .u8 1, .int .i64 (n % 2), .string ⟨#[]⟩]) (by simp [results, Tryz.results11, go_sem]) rfl ⟨rfl, rfl⟩
  have b1 : (k % 5 == 1) = false := by simpa using c1
  by_cases c2 : k % 5 = 2
  · have b2 : (k % 5 == 2) = true := by simpa using c2
    have V : Hid (vmk k n s = (2, n, ⟨#[]⟩)) := by unfold vmk; rw [if_neg c1, if_pos c2]; rfl
    clear c1 c2
    go_enter Tryz.func11, Tryz.ntmps11
    go_wp2
    rw [V.out]
    exact bodyPost_ret (v := .agg #[.int .u8 2, .int .i64 n, .string ⟨#[]⟩]) (by simp [results, Tryz.results11, go_sem]) rfl ⟨rfl, rfl⟩
  have b2 : (k % 5 == 2) = false := by simpa using c2
  by_cases c3 : k % 5 = 3
  · have b3 : (k % 5 == 3) = true := by simpa using c3
    have V : Hid (vmk k n s = (3, 0, s)) := by unfold vmk; rw [if_neg c1, if_neg c2, if_pos c3]; rfl
    clear c1 c2 c3
    go_enter Tryz.func11, Tryz.ntmps11
    go_wp2
    rw [V.out]
    exact bodyPost_ret (v := .agg #[.int .u8 3, .int .i64 0, .string s]) (by simp [results, Tryz.results11, go_sem]) rfl ⟨rfl, rfl⟩
  have b3 : (k % 5 == 3) = false := by simpa using c3
  by_cases c4 : k % 5 = 4
  · have b4 : (k % 5 == 4) = true := by simpa using c4
    have V : Hid (vmk k n s = (4, ((n.tmod 6 + 6) % 6), ⟨#[]⟩)) := by unfold vmk; rw [if_neg c1, if_neg c2, if_neg c3, if_pos c4]; rfl
    clear c1 c2 c3 c4
    go_enter Tryz.func11, Tryz.ntmps11
    go_wp2
    rw [V.out]
    exact bodyPost_ret (v := .agg #[.int .u8 4, .int .i64 ((n.tmod 6 + 6) % 6), .string ⟨#[]⟩]) (by simp [results, Tryz.results11, go_sem, S.out]) rfl ⟨rfl, by rw [S.out]⟩
  have b4 : (k % 5 == 4) = false := by simpa using c4
  have V : Hid (vmk k n s = (0, 0, ⟨#[]⟩)) := by unfold vmk; rw [if_neg c1, if_neg c2, if_neg c3, if_neg c4]; rfl
  clear c1 c2 c3 c4
  go_enter Tryz.func11, Tryz.ntmps11
  go_wp2
  rw [V.out]
  exact bodyPost_ret (v := .agg #[.int .u8 0, .int .i64 0, .string ⟨#[]⟩]) (by simp [results, Tryz.results11, go_sem]) rfl ⟨rfl, rfl⟩

theorem make_any (k n : Int) (s : ByteArray) (h0 : 0 ≤ k) (h1 : k ≤ 255) (w : World) : Calls Tryz.prog 11 #[.agg #[.int .u8 k, .int .i64 n, .string s]] w fun e w' => e = .returned (val (vmk k n s)) ∧ Up w w' :=
  (make_x k n s h0 h1 w).mono fun e w' h => ⟨h.1, by rw [h.2]; exact ((Up.refl w).alloc _).alloc _⟩

/-! ### values as a map's keys -/
theorem laidOutP : laidOutB Tryz.prog = true := by kernel_rfl
theorem rowV : (51 : TypeId) < Tryz.prog.types.size := of_decide_eq_true (by kernel_rfl)
theorem deepV : Tryz.prog.keyTypeAt (Tryz.prog.types.size + 1) 51 = true := by kernel_rfl
theorem deep2 : Tryz.prog.keyTypeAt 2 51 = true := by kernel_rfl
theorem K : Maps.Keyed Tryz.prog 51 := Maps.Keyed.of_law (deep_law_laid laidOutP (m := 2) (by omega) rowV deep2 (by rw [Tryz.underlying51]))
theorem cellsV : Tryz.prog.cellsOf 51 = 3 := by kernel_rfl
theorem sizeP : Tryz.prog.types.size + 1 = (Tryz.prog.types.size - 1) + 1 + 1 := by kernel_rfl
theorem key_of (k n : Int) (s : ByteArray) (hk : (Lit.int .u8 k).wf = true) (hn : (Lit.int .i64 n).wf = true) (hs : s.size ≤ maxLen) : ∃ l, keyOf Tryz.prog 51 (val (k, n, s)) = some l := by
  have hf : (Value.agg #[.int .u8 k, .int .i64 n, .string s]).formed Tryz.prog 51 = true := by simp [Value.formed, Tryz.underlying51, cellsV]
  have cK : Tryz.prog.cellsOf 49 = 1 := by kernel_rfl
  have c2 : Tryz.prog.cellsOf 2 = 1 := by kernel_rfl
  have c9 : Tryz.prog.cellsOf 9 = 1 := by kernel_rfl
  have hl : Tryz.prog.keyLits (Tryz.prog.types.size + 1) 51 [.int .u8 k, .int .i64 n, .string s] = some [.int .u8 k, .int .i64 n, .string s.data.toList] := by
    obtain ⟨d, hd⟩ : ∃ d, Tryz.prog.types.size + 1 = d + 1 + 1 := ⟨_, sizeP⟩
    rw [hd]
    simp [Program.keyLits, Tryz.underlying51, Tryz.underlying49, Tryz.underlying2, Tryz.underlying9, cellsV, cK, c2, c9, hk, hn, hs]
  refine ⟨.string (keyBytes [.int .u8 k, .int .i64 n, .string s.data.toList]), ?_⟩
  unfold keyOf val
  rw [Tryz.underlying51]
  simp only [Program.keyType, deepV, hf, Bool.and_self, if_true]
  rw [show (Value.agg #[.int .u8 k, .int .i64 n, .string s]).cells.toList = [.int .u8 k, .int .i64 n, .string s] from rfl, hl]
  rfl
theorem val_inj {p q : V3} (h : val p = val q) : p = q := by
  obtain ⟨a, b, c⟩ := p
  obtain ⟨a', b', c'⟩ := q
  simp [val] at h
  simp [h]
theorem guard_val (p q : V3) (x y : Operand) (W : World) : (eqGuard .eql 51 x y (val p) (val q)).run Tryz.prog W = .ok () W := by
  obtain ⟨a, b, c⟩ := p
  obtain ⟨a', b', c'⟩ := q
  simp only [val]
  go_simp
theorem toList_inj (c c' : ByteArray) : (c.toList = c'.toList) = (c = c') := propext ⟨fun h => by
  rw [Lib.toList_data, Lib.toList_data] at h
  exact ByteArray.ext (by simpa using h), fun h => by rw [h]⟩
theorem eq_val (p q : V3) (W : World) : (binOp .eql 51 (val p) (val q)).run Tryz.prog W = .ok (.bool (decide (p = q))) W := by
  obtain ⟨a, b, c⟩ := p
  obtain ⟨a', b', c'⟩ := q
  simp only [val]
  go_simp
  simp only [toList_inj]
  by_cases h1 : a = a' <;> by_cases h2 : b = b' <;> by_cases h3 : c = c' <;> simp [h1, h2, h3]
theorem neguard_val (p q : V3) (x y : Operand) (W : World) : (eqGuard .neq 51 x y (val p) (val q)).run Tryz.prog W = .ok () W := by
  obtain ⟨a, b, c⟩ := p
  obtain ⟨a', b', c'⟩ := q
  simp only [val]
  go_simp
theorem ne_val (p q : V3) (W : World) : (binOp .neq 51 (val p) (val q)).run Tryz.prog W = .ok (.bool (decide (p ≠ q))) W := by
  obtain ⟨a, b, c⟩ := p
  obtain ⟨a', b', c'⟩ := q
  simp only [val]
  go_simp
  simp only [toList_inj]
  by_cases h1 : a = a' <;> by_cases h2 : b = b' <;> by_cases h3 : c = c' <;> simp [h1, h2, h3]

/-! ### a map of values -/
def R3 (v : Value) : Option (DataW V3 × List MemPlace) :=
  match v with
  | .agg ⟨[.int .u8 a, .int .i64 b, .string c]⟩ => some (.held (a, b, c), [])
  | _ => none
theorem R3_val (p : V3) : R3 (val p) = some (.held p, []) := rfl
theorem R3_inv {v : Value} {z : DataW V3 × List MemPlace} (h : R3 v = some z) : ∃ p, v = val p ∧ z = (.held p, []) := by
  unfold R3 at h
  split at h
  · rename_i a b c
    cases h
    exact ⟨(a, b, c), rfl, rfl⟩
  · cases h
/-- What the map holds at a key: nothing, if it isn't there. -/
def atv (D : DataW V3) (l : Lit) : V3 := match D.atKey l (.held zero3) with | .held p => p | _ => zero3
theorem zeroV (w : World) : (zeroValue 51).run Tryz.prog w = .ok (val zero3) w := by kernel_rfl
theorem look (w : World) (b n : Nat) (D : DataW V3) (h : w.ownsMap Tryz.prog 51 R3 b n D) {p : V3} {l : Lit} (hl : keyOf Tryz.prog 51 (val p) = some l) :
    (Instr.lookup 63 (.map (some b)) (val p) false).run Tryz.prog w = .ok (val (atv D l)) w := by
  obtain ⟨v, ps, hrun, hv⟩ := h.lookup K Tryz.underlying63 (zeroV w) (R3_val zero3) hl
  obtain ⟨q, rfl, hz⟩ := R3_inv hv
  have : q = atv D l := by have hz1 : D.atKey l (.held zero3) = .held q := congrArg Prod.fst hz; unfold atv; rw [hz1]
  rw [hrun, this]
theorem look_ok (w : World) (b n : Nat) (D : DataW V3) (h : w.ownsMap Tryz.prog 51 R3 b n D) {p : V3} {l : Lit} (hl : keyOf Tryz.prog 51 (val p) = some l) :
    (Instr.lookup 63 (.map (some b)) (val p) true).run Tryz.prog w = .ok (.tuple #[val (atv D l), .bool (Maps.has D l)]) w := by
  obtain ⟨v, ps, hrun, hv⟩ := h.look_ok K Tryz.underlying63 (zeroV w) (R3_val zero3) hl
  obtain ⟨q, rfl, hz⟩ := R3_inv hv
  have : q = atv D l := by have hz1 : D.atKey l (.held zero3) = .held q := congrArg Prod.fst hz; unfold atv; rw [hz1]
  rw [hrun, this]
end Go.Proofs.YtmmfpkkkpeapeaaGreatDoor.rec

/- record's functions, each walked once. -/
set_option linter.unusedVariables false
set_option linter.unusedSimpArgs false
namespace Go.Proofs.YtmmfpkkkpeapeaaGreatDoor.rec
open Go.RowKit Go.Maps mem
/-- Three cells of a block, that may be written. -/
def Has3 (w : World) (b : Nat) (c0 c1 c2 : Value) : Prop :=
  b < w.heap.size ∧ (w.cell? ⟨b, 0, none⟩ = some c0 ∧ w.cell? ⟨b, 1, none⟩ = some c1 ∧ w.cell? ⟨b, 2, none⟩ = some c2) ∧ (w.frozen? ⟨b, 0, none⟩ = false ∧ w.frozen? ⟨b, 1, none⟩ = false ∧ w.frozen? ⟨b, 2, none⟩ = false)
theorem Has3.up {w w' : World} {b : Nat} {c0 c1 c2 : Value} (h : Has3 w b c0 c1 c2) (u : Up w w') : Has3 w' b c0 c1 c2 :=
  ⟨Nat.lt_of_lt_of_le h.1 u.size, ⟨(u.cell (p := ⟨b, 0, none⟩) h.1).trans h.2.1.1, (u.cell (p := ⟨b, 1, none⟩) h.1).trans h.2.1.2.1, (u.cell (p := ⟨b, 2, none⟩) h.1).trans h.2.1.2.2⟩,
    ⟨(u.frozen (p := ⟨b, 0, none⟩) h.1).trans h.2.2.1, (u.frozen (p := ⟨b, 1, none⟩) h.1).trans h.2.2.2.1, (u.frozen (p := ⟨b, 2, none⟩) h.1).trans h.2.2.2.2⟩⟩
theorem has3_alloc (w : World) (c0 c1 c2 : Value) (t : Nat) : Has3 (w.alloc (.cells #[c0, c1, c2] t)) w.heap.size c0 c1 c2 :=
  ⟨by simp, ⟨by go_simp, by go_simp, by go_simp⟩, ⟨by go_simp, by go_simp, by go_simp⟩⟩
theorem has3_alloc2 (w : World) (o : Obj) (c0 c1 c2 : Value) (t : Nat) : Has3 ((w.alloc o).alloc (.cells #[c0, c1, c2] t)) (w.heap.size + 1) c0 c1 c2 := by
  have h := has3_alloc (w.alloc o) c0 c1 c2 t
  rwa [show (w.alloc o).heap.size = w.heap.size + 1 by simp] at h
theorem Up.setCell {a b : World} (h : Up a b) {p : Addr} (hp : a.heap.size ≤ p.block) (u : Value) : Up a (b.setCell p u) := Below.setCell h hp u
theorem up_cell {w w' : World} (u : Up w w') {a : Addr} {v : Value} (h : w.cell? a = some v) : w'.cell? a = some v := (u.cell (p := a) (World.block_lt_of_cell? w a h)).trans h
theorem owns_up {H : Type} {P : Program} {k : TypeId} {R : Value → Option (DataW H × List MemPlace)} {b n : Nat} {D : DataW H} {w w' : World} (h : w.ownsMap P k R b n D) (u : Up w w') : w'.ownsMap P k R b n D := map_chg h u.chg (by simp)
theorem Has3.alloc {w : World} {b : Nat} {c0 c1 c2 : Value} (h : Has3 w b c0 c1 c2) (o : Obj) : Has3 (w.alloc o) b c0 c1 c2 := h.up ((Up.refl w).alloc o)
theorem Has3.drew {w : World} {b : Nat} {c0 c1 c2 : Value} (h : Has3 w b c0 c1 c2) : Has3 w.drew b c0 c1 c2 := h.up ((Up.refl w).drew)
theorem Has3.store {w : World} {b : Nat} {a0 a1 a2 : Value} (h : Has3 w b a0 a1 a2) (c0 c1 c2 : Value) : Has3 (((w.setCell ⟨b, 0, none⟩ c0).setCell ⟨b, 1, none⟩ c1).setCell ⟨b, 2, none⟩ c2) b c0 c1 c2 := by
  obtain ⟨h0, ⟨e0, e1, e2⟩, ⟨f0, f1, f2⟩⟩ := h
  exact ⟨by simpa [World.setCell] using h0, ⟨by go_simp, by go_simp, by go_simp⟩, ⟨by go_simp, by go_simp, by go_simp⟩⟩
theorem Has3.other {w : World} {b x i : Nat} {c0 c1 c2 : Value} (h : Has3 w b c0 c1 c2) (hne : b ≠ x) (v : Value) : Has3 (w.setCell ⟨x, i, none⟩ v) b c0 c1 c2 := by
  have c : Chg [x] w (w.setCell ⟨x, i, none⟩ v) := (Chg.refl [x] w).setCell (p := ⟨x, i, none⟩) (.inl (by simp)) v
  obtain ⟨h0, ⟨e0, e1, e2⟩, ⟨f0, f1, f2⟩⟩ := h
  have hn : b ∉ [x] := by simpa using hne
  exact ⟨Nat.lt_of_lt_of_le h0 c.size, ⟨(c.cell (p := ⟨b, 0, none⟩) h0 hn).trans e0, (c.cell (p := ⟨b, 1, none⟩) h0 hn).trans e1, (c.cell (p := ⟨b, 2, none⟩) h0 hn).trans e2⟩, ⟨(c.frozen (p := ⟨b, 0, none⟩) h0 hn).trans f0, (c.frozen (p := ⟨b, 1, none⟩) h0 hn).trans f1, (c.frozen (p := ⟨b, 2, none⟩) h0 hn).trans f2⟩⟩
/-- What was there reads as it did: rules for the walk. -/
theorem bcell {W w1 : World} (hb : Up W w1) : (∀ b o, b < W.heap.size → w1.cell? ⟨b, o, none⟩ = W.cell? ⟨b, o, none⟩) ∧ (∀ b o, b < W.heap.size → w1.frozen? ⟨b, o, none⟩ = W.frozen? ⟨b, o, none⟩) :=
  ⟨fun b o h => hb.cell (p := ⟨b, o, none⟩) h, fun b o h => hb.frozen (p := ⟨b, o, none⟩) h⟩
set_option maxRecDepth 100000
set_option maxHeartbeats 1000000
theorem get_key (b o bm n : Nat) (D : DataW V3) (p : V3) (l : Lit) (w : World) (c0 : w.cell? ⟨b, o, none⟩ = some (.int .u8 0)) (c3 : w.cell? ⟨b, o + 3, none⟩ = some (.map (some bm)))
    (hown : w.ownsMap Tryz.prog 51 R3 bm n D) (hk : isKey p.1 = true) (hl : keyOf Tryz.prog 51 (val p) = some l) :
    Calls Tryz.prog 59 #[.pointer (some ⟨b, o, none⟩), val p] w fun e w' => e = .returned (.tuple #[val (atv D l), .int .i64 0]) ∧ Up w w' := by
  have hbl : b < w.heap.size := World.block_lt_of_cell? w _ c0
  obtain ⟨k, m, s⟩ := p
  have hU : Up w ((w.alloc (.cells #[.int .u8 k, .int .i64 m, .string s] 51)).alloc (.cells #[.int .u8 0, .int .i64 0, .string ⟨#[]⟩] 51)) := ((Up.refl w).alloc _).alloc _
  have B0 := Lib.hid ((has3_alloc w (.int .u8 k) (.int .i64 m) (.string s) 51).up ((Up.refl _).alloc (.cells #[.int .u8 0, .int .i64 0, .string ⟨#[]⟩] 51)))
  have B1 := Lib.hid (has3_alloc2 w (.cells #[.int .u8 k, .int .i64 m, .string s] 51) (.int .u8 0) (.int .i64 0) (.string ⟨#[]⟩) 51)
  have HK := Lib.hid hk
  have HL := Lib.hid (And.intro hl hown)
  have HU := Lib.hid hU
  have HC := Lib.hid c3
  clear hk hl hown hU c3
  obtain ⟨q, hq⟩ : ∃ q, q = atv D l := ⟨_, rfl⟩
  have HQ := Lib.hid hq
  clear hq
  obtain ⟨q0, q1, q2⟩ := q
  show Calls Tryz.prog 59 #[.pointer (some ⟨b, o, none⟩), .agg #[.int .u8 k, .int .i64 m, .string s]] w _
  go_enter Tryz.func59, Tryz.ntmps59
  go_wp2_with (go_at_call 66; refine (key_any _ _ _ _).mono ?_; rintro e w1 ⟨rfl, hb1⟩; have k1 := HK.out; obtain ⟨z0, ⟨e0, e1, e2⟩, _⟩ := B0.out.up hb1; obtain ⟨z1, ⟨f0, f1, f2⟩, ⟨g0, g1, g2⟩⟩ := B1.out.up hb1; have d3 := up_cell (HU.out.trans hb1) HC.out; have hlk := look w1.drew bm n D (owns_up HL.out.2 (HU.out.trans hb1).drew) HL.out.1; rw [← HQ.out] at hlk; simp only [val] at hlk)
  have HB := Lib.hid hb1
  clear hb1
  go_region
  go_wp2
  refine bodyPost_ret (v := .tuple #[.agg #[.int .u8 q0, .int .i64 q1, .string q2], .int .i64 0]) (by simp [results, Tryz.results59, go_sem, f0, f1, f2]) rfl ⟨by rw [← HQ.out]; rfl, ?_⟩
  exact (((HU.out.trans HB.out).drew.setCell (by simp) _).setCell (by simp) _).setCell (by simp) _
theorem get_nokey (b o : Nat) (p : V3) (w : World) (c0 : w.cell? ⟨b, o, none⟩ = some (.int .u8 0)) (hk : isKey p.1 = false) :
    Calls Tryz.prog 59 #[.pointer (some ⟨b, o, none⟩), val p] w fun e w' => e = .returned (.tuple #[val zero3, .int .i64 7]) ∧ Up w w' := by
  have hbl : b < w.heap.size := World.block_lt_of_cell? w _ c0
  obtain ⟨k, m, s⟩ := p
  have hU : Up w ((w.alloc (.cells #[.int .u8 k, .int .i64 m, .string s] 51)).alloc (.cells #[.int .u8 0, .int .i64 0, .string ⟨#[]⟩] 51)) := ((Up.refl w).alloc _).alloc _
  have B1 := Lib.hid (has3_alloc2 w (.cells #[.int .u8 k, .int .i64 m, .string s] 51) (.int .u8 0) (.int .i64 0) (.string ⟨#[]⟩) 51)
  have HK := Lib.hid hk
  have HU := Lib.hid hU
  clear hk hU
  show Calls Tryz.prog 59 #[.pointer (some ⟨b, o, none⟩), .agg #[.int .u8 k, .int .i64 m, .string s]] w _
  go_enter Tryz.func59, Tryz.ntmps59
  go_wp2_with (go_at_call 66; refine (key_any _ _ _ _).mono ?_; rintro e w1 ⟨rfl, hb1⟩; have k1 := HK.out; obtain ⟨z1, ⟨f0, f1, f2⟩, ⟨g0, g1, g2⟩⟩ := B1.out.up hb1)
  refine bodyPost_ret (v := .tuple #[.agg #[.int .u8 0, .int .i64 0, .string ⟨#[]⟩], .int .i64 7]) (by simp [results, Tryz.results59, go_sem, f0, f1, f2]) rfl ⟨rfl, ?_⟩
  exact (((HU.out.trans hb1).setCell (by simp) _).setCell (by simp) _).setCell (by simp) _
theorem len_any (b o bm n : Nat) (D : DataW V3) (w : World) (c0 : w.cell? ⟨b, o, none⟩ = some (.int .u8 0)) (c3 : w.cell? ⟨b, o + 3, none⟩ = some (.map (some bm)))
    (hown : w.ownsMap Tryz.prog 51 R3 bm n D) :
    Calls Tryz.prog 58 #[.pointer (some ⟨b, o, none⟩)] w fun e w' => e = .returned (.tuple #[val (2, Maps.size D, ⟨#[]⟩), .int .i64 0]) ∧ Up w w' := by
  have hbl : b < w.heap.size := World.block_lt_of_cell? w _ c0
  have hU : Up w (w.alloc (.cells #[.int .u8 0, .int .i64 0, .string ⟨#[]⟩] 51)) := (Up.refl w).alloc _
  have B1 := Lib.hid (has3_alloc w (.int .u8 0) (.int .i64 0) (.string ⟨#[]⟩) 51)
  have hln := fun ty => (owns_up hown hU).len Tryz.underlying63 ty
  have HU := Lib.hid hU
  clear hU hown
  go_enter Tryz.func58, Tryz.ntmps58
  go_wp2_with (go_at_call 23; refine (number _ _).mono ?_; rintro e w1 ⟨rfl, hb1⟩; obtain ⟨z1, ⟨f0, f1, f2⟩, ⟨g0, g1, g2⟩⟩ := B1.out.up hb1; unfold val)
  refine bodyPost_ret (v := .tuple #[.agg #[.int .u8 2, .int .i64 (Maps.size D), .string ⟨#[]⟩], .int .i64 0]) (by simp [results, Tryz.results58, go_sem, f0, f1, f2]) rfl ⟨rfl, ?_⟩
  exact (((HU.out.trans hb1).setCell (by simp) _).setCell (by simp) _).setCell (by simp) _
theorem new_any (n : Int) (w : World) : Calls Tryz.prog 34 #[.int .i64 n] w fun e w' => ∃ bm, e = .returned (.agg #[.int .u8 0, .int .i64 n, .bool false, .map (some bm), .int .i64 0, .int .i64 0, .slice none 0 0, .int .u64 0, .int .u8 0, .int .i64 0, .string ⟨#[]⟩, .int .i64 0, .int .u64 0, .int .i64 0]) ∧ Up w w' ∧ w.heap.size ≤ bm ∧ w'.ownsMap Tryz.prog 51 R3 bm 0 (.map []) := by
  have hmm := @run_makeMap Tryz.prog
  go_enter Tryz.func34, Tryz.ntmps34
  go_wp2
  have hh := World.ownsMap_made (H := V3) (w.alloc (.cells #[.int .u8 0, .int .i64 n, .bool false, .map (some (w.heap.size + 1)), .int .i64 0, .int .i64 0, .slice none 0 0, .int .u64 0, .int .u8 0, .int .i64 0, .string ⟨#[]⟩, .int .i64 0, .int .u64 0, .int .i64 0] 66)) Tryz.prog 51 R3
  rw [World.size_alloc] at hh
  exact bodyPost_ret (v := .agg #[.int .u8 0, .int .i64 n, .bool false, .map (some (w.heap.size + 1)), .int .i64 0, .int .i64 0, .slice none 0 0, .int .u64 0, .int .u8 0, .int .i64 0, .string ⟨#[]⟩, .int .i64 0, .int .u64 0, .int .i64 0]) (by simp [results, Tryz.results34, go_sem]) rfl ⟨_, rfl, ((Up.refl w).alloc _).alloc _, by omega, hh⟩
theorem put_nokey (b o : Nat) (p q : V3) (w : World) (c0 : w.cell? ⟨b, o, none⟩ = some (.int .u8 0)) (hk : isKey p.1 = false) :
    Calls Tryz.prog 56 #[.pointer (some ⟨b, o, none⟩), val p, val q] w fun e w' => e = .returned (.int .i64 7) ∧ Up w w' := by
  have hbl : b < w.heap.size := World.block_lt_of_cell? w _ c0
  obtain ⟨k, m, s⟩ := p
  obtain ⟨k2, m2, s2⟩ := q
  have hU : Up w ((w.alloc (.cells #[.int .u8 k, .int .i64 m, .string s] 51)).alloc (.cells #[.int .u8 k2, .int .i64 m2, .string s2] 51)) := ((Up.refl w).alloc _).alloc _
  have HK := Lib.hid hk
  have HU := Lib.hid hU
  clear hk hU
  show Calls Tryz.prog 56 #[.pointer (some ⟨b, o, none⟩), .agg #[.int .u8 k, .int .i64 m, .string s], .agg #[.int .u8 k2, .int .i64 m2, .string s2]] w _
  go_enter Tryz.func56, Tryz.ntmps56
  go_wp2_with (go_at_call 66; refine (key_any _ _ _ _).mono ?_; rintro e w1 ⟨rfl, hb1⟩; have k1 := HK.out)
  go_ret
  exact ⟨rfl, HU.out.trans hb1⟩
theorem put_frozen (b o : Nat) (p q : V3) (w : World) (c0 : w.cell? ⟨b, o, none⟩ = some (.int .u8 0)) (c2 : w.cell? ⟨b, o + 2, none⟩ = some (.bool true)) (hk : isKey p.1 = true) :
    Calls Tryz.prog 56 #[.pointer (some ⟨b, o, none⟩), val p, val q] w fun e w' => e = .returned (.int .i64 11) ∧ Up w w' := by
  have hbl : b < w.heap.size := World.block_lt_of_cell? w _ c0
  obtain ⟨k, m, s⟩ := p
  obtain ⟨k2, m2, s2⟩ := q
  have hU : Up w ((w.alloc (.cells #[.int .u8 k, .int .i64 m, .string s] 51)).alloc (.cells #[.int .u8 k2, .int .i64 m2, .string s2] 51)) := ((Up.refl w).alloc _).alloc _
  have HK := Lib.hid hk
  have HU := Lib.hid hU
  have HC := Lib.hid c2
  clear hk hU c2
  show Calls Tryz.prog 56 #[.pointer (some ⟨b, o, none⟩), .agg #[.int .u8 k, .int .i64 m, .string s], .agg #[.int .u8 k2, .int .i64 m2, .string s2]] w _
  go_enter Tryz.func56, Tryz.ntmps56
  go_wp2_with (go_at_call 66; refine (key_any _ _ _ _).mono ?_; rintro e w1 ⟨rfl, hb1⟩; have k1 := HK.out; have d2 := up_cell (HU.out.trans hb1) HC.out)
  go_ret
  exact ⟨rfl, HU.out.trans hb1⟩
theorem put_del (b o bm n : Nat) (D : DataW V3) (p q : V3) (l : Lit) (w : World) (c0 : w.cell? ⟨b, o, none⟩ = some (.int .u8 0)) (c2 : w.cell? ⟨b, o + 2, none⟩ = some (.bool false)) (c3 : w.cell? ⟨b, o + 3, none⟩ = some (.map (some bm)))
    (hown : w.ownsMap Tryz.prog 51 R3 bm n D) (hk : isKey p.1 = true) (hl : keyOf Tryz.prog 51 (val p) = some l) (hq : q = zero3) :
    Calls Tryz.prog 56 #[.pointer (some ⟨b, o, none⟩), val p, val q] w fun e w' => e = .returned (.int .i64 0) ∧ Chg [bm] w w' ∧ w'.ownsMap Tryz.prog 51 R3 bm n (D.del l) := by
  have hbl : b < w.heap.size := World.block_lt_of_cell? w _ c0
  obtain ⟨k, m, s⟩ := p
  obtain ⟨k2, m2, s2⟩ := q
  cases hq
  have hU : Up w ((w.alloc (.cells #[.int .u8 k, .int .i64 m, .string s] 51)).alloc (.cells #[.int .u8 0, .int .i64 0, .string ⟨#[]⟩] 51)) := ((Up.refl w).alloc _).alloc _
  have B0 := Lib.hid ((has3_alloc w (.int .u8 k) (.int .i64 m) (.string s) 51).up ((Up.refl _).alloc (.cells #[.int .u8 0, .int .i64 0, .string ⟨#[]⟩] 51)))
  have B1 := Lib.hid (has3_alloc2 w (.cells #[.int .u8 k, .int .i64 m, .string s] 51) (.int .u8 0) (.int .i64 0) (.string ⟨#[]⟩) 51)
  have HK := Lib.hid hk
  have HL := Lib.hid (And.intro hl hown)
  have HU := Lib.hid hU
  have HC := Lib.hid (And.intro c2 c3)
  clear hk hl hown hU c2 c3
  show Calls Tryz.prog 56 #[.pointer (some ⟨b, o, none⟩), .agg #[.int .u8 k, .int .i64 m, .string s], .agg #[.int .u8 0, .int .i64 0, .string ⟨#[]⟩]] w _
  go_enter Tryz.func56, Tryz.ntmps56
  go_wp2_with (go_at_call 66; refine (key_any _ _ _ _).mono ?_; rintro e w1 ⟨rfl, hb1⟩; have k1 := HK.out; obtain ⟨z0, ⟨e0, e1, e2⟩, _⟩ := B0.out.up hb1; obtain ⟨z1, ⟨f0, f1, f2⟩, ⟨g0, g1, g2⟩⟩ := B1.out.up hb1; have d2 := up_cell (HU.out.trans hb1) HC.out.1; have d3 := up_cell (HU.out.trans hb1) HC.out.2)
  have UW : Up w w1 := HU.out.trans hb1
  have ho := Lib.hid (owns_up HL.out.2 UW.drew)
  have HW := Lib.hid (And.intro UW hb1)
  clear UW hb1
  go_region_law ((refine step_delete_own rfl (.tmp 33) (.tmp 34) 63 51 rfl 51 K Tryz.underlying63 R3 bm n D (by simp [Act.eval, Act.put]) ho.out (val (k, m, s)) l (by simp [Act.eval, Act.put, val]) HL.out.1 ?_; intro w2 hown2 hturn))
  all_goals
    go_wp2
    go_ret
    exact ⟨rfl, (HW.out.1.chg.drew.mono (by simp)).turned hturn (.inl (by simp)), hown2⟩
theorem put_full (b o bm n : Nat) (D : DataW V3) (p q : V3) (l : Lit) (w : World) (c0 : w.cell? ⟨b, o, none⟩ = some (.int .u8 0)) (c2 : w.cell? ⟨b, o + 2, none⟩ = some (.bool false)) (c3 : w.cell? ⟨b, o + 3, none⟩ = some (.map (some bm)))
    (hown : w.ownsMap Tryz.prog 51 R3 bm n D) (hk : isKey p.1 = true) (hl : keyOf Tryz.prog 51 (val p) = some l) (hq : (q.1 == 0) = false) (hn : Maps.has D l = false) (hs : (64 : Int) ≤ (Maps.size D : Int)) :
    Calls Tryz.prog 56 #[.pointer (some ⟨b, o, none⟩), val p, val q] w fun e w' => e = .returned (.int .i64 2) ∧ Up w w' := by
  have hbl : b < w.heap.size := World.block_lt_of_cell? w _ c0
  obtain ⟨k, m, s⟩ := p
  obtain ⟨k2, m2, s2⟩ := q
  have q0 : (k2 == 0) = false := hq
  clear hq
  have hU : Up w ((w.alloc (.cells #[.int .u8 k, .int .i64 m, .string s] 51)).alloc (.cells #[.int .u8 k2, .int .i64 m2, .string s2] 51)) := ((Up.refl w).alloc _).alloc _
  have B0 := Lib.hid ((has3_alloc w (.int .u8 k) (.int .i64 m) (.string s) 51).up ((Up.refl _).alloc (.cells #[.int .u8 k2, .int .i64 m2, .string s2] 51)))
  have B1 := Lib.hid (has3_alloc2 w (.cells #[.int .u8 k, .int .i64 m, .string s] 51) (.int .u8 k2) (.int .i64 m2) (.string s2) 51)
  have HK := Lib.hid hk
  have HL := Lib.hid (And.intro hl hown)
  have HU := Lib.hid hU
  have HC := Lib.hid (And.intro c2 c3)
  clear hk hl hown hU c2 c3
  show Calls Tryz.prog 56 #[.pointer (some ⟨b, o, none⟩), .agg #[.int .u8 k, .int .i64 m, .string s], .agg #[.int .u8 k2, .int .i64 m2, .string s2]] w _
  go_enter Tryz.func56, Tryz.ntmps56
  go_wp2_with (go_at_call 66; refine (key_any _ _ _ _).mono ?_; rintro e w1 ⟨rfl, hb1⟩; have k1 := HK.out; obtain ⟨z0, ⟨e0, e1, e2⟩, _⟩ := B0.out.up hb1; obtain ⟨z1, ⟨f0, f1, f2⟩, ⟨g0, g1, g2⟩⟩ := B1.out.up hb1; have d2 := up_cell (HU.out.trans hb1) HC.out.1; have d3 := up_cell (HU.out.trans hb1) HC.out.2)
  have UW : Up w w1 := HU.out.trans hb1
  have hlk := look_ok w1.drew bm n D (owns_up HL.out.2 UW.drew) HL.out.1
  have hlk2 := look_ok (w1.alloc (.cells #[.int .u8 0, .int .i64 0, .string ⟨#[]⟩] 51)).drew bm n D (owns_up HL.out.2 (UW.alloc _).drew) HL.out.1
  have hb1' : b < w1.heap.size := Nat.lt_of_lt_of_le hbl UW.size
  have HW := Lib.hid (And.intro UW hb1)
  clear UW hb1
  generalize atv D l = y at hlk hlk2
  obtain ⟨y0, y1, y2⟩ := y
  simp only [val] at hlk hlk2
  have hln := fun ty => (owns_up HL.out.2 (HW.out.1.alloc (.cells #[.int .u8 y0, .int .i64 y1, .string y2] 51)).drew).len Tryz.underlying63 ty
  go_region
  all_goals
    go_wp2
    go_ret
    exact ⟨rfl, (HW.out.1.alloc _).drew⟩
theorem put_has (b o bm n : Nat) (D : DataW V3) (p q : V3) (l : Lit) (w : World) (c0 : w.cell? ⟨b, o, none⟩ = some (.int .u8 0)) (c2 : w.cell? ⟨b, o + 2, none⟩ = some (.bool false)) (c3 : w.cell? ⟨b, o + 3, none⟩ = some (.map (some bm)))
    (hown : w.ownsMap Tryz.prog 51 R3 bm n D) (hk : isKey p.1 = true) (hl : keyOf Tryz.prog 51 (val p) = some l) (hq : (q.1 == 0) = false) (hn : Maps.has D l = true) (hn1 : n < maxLen) (hq2 : True) :
    Calls Tryz.prog 56 #[.pointer (some ⟨b, o, none⟩), val p, val q] w fun e w' => e = .returned (.int .i64 0) ∧ Chg [bm] w w' ∧ w'.ownsMap Tryz.prog 51 R3 bm (n + 1) (D.put l (.held q)) := by
  have hbl : b < w.heap.size := World.block_lt_of_cell? w _ c0
  obtain ⟨k, m, s⟩ := p
  obtain ⟨k2, m2, s2⟩ := q
  have q0 : (k2 == 0) = false := hq
  clear hq
  have hU : Up w ((w.alloc (.cells #[.int .u8 k, .int .i64 m, .string s] 51)).alloc (.cells #[.int .u8 k2, .int .i64 m2, .string s2] 51)) := ((Up.refl w).alloc _).alloc _
  have B0 := Lib.hid ((has3_alloc w (.int .u8 k) (.int .i64 m) (.string s) 51).up ((Up.refl _).alloc (.cells #[.int .u8 k2, .int .i64 m2, .string s2] 51)))
  have B1 := Lib.hid (has3_alloc2 w (.cells #[.int .u8 k, .int .i64 m, .string s] 51) (.int .u8 k2) (.int .i64 m2) (.string s2) 51)
  have HK := Lib.hid hk
  have HL := Lib.hid (And.intro hl hown)
  have HU := Lib.hid hU
  have HC := Lib.hid (And.intro c2 c3)
  clear hk hl hown hU c2 c3
  show Calls Tryz.prog 56 #[.pointer (some ⟨b, o, none⟩), .agg #[.int .u8 k, .int .i64 m, .string s], .agg #[.int .u8 k2, .int .i64 m2, .string s2]] w _
  go_enter Tryz.func56, Tryz.ntmps56
  go_wp2_with (go_at_call 66; refine (key_any _ _ _ _).mono ?_; rintro e w1 ⟨rfl, hb1⟩; have k1 := HK.out; obtain ⟨z0, ⟨e0, e1, e2⟩, _⟩ := B0.out.up hb1; obtain ⟨z1, ⟨f0, f1, f2⟩, ⟨g0, g1, g2⟩⟩ := B1.out.up hb1; have d2 := up_cell (HU.out.trans hb1) HC.out.1; have d3 := up_cell (HU.out.trans hb1) HC.out.2)
  have UW : Up w w1 := HU.out.trans hb1
  have hlk := look_ok w1.drew bm n D (owns_up HL.out.2 UW.drew) HL.out.1
  have hlk2 := look_ok (w1.alloc (.cells #[.int .u8 0, .int .i64 0, .string ⟨#[]⟩] 51)).drew bm n D (owns_up HL.out.2 (UW.alloc _).drew) HL.out.1
  have hb1' : b < w1.heap.size := Nat.lt_of_lt_of_le hbl UW.size
  have HW := Lib.hid (And.intro UW hb1)
  clear UW hb1
  generalize atv D l = y at hlk hlk2
  obtain ⟨y0, y1, y2⟩ := y
  simp only [val] at hlk hlk2
  obtain ⟨w2, hrun, hown2, hturn⟩ := (owns_up HL.out.2 (HW.out.1.alloc (.cells #[.int .u8 y0, .int .i64 y1, .string y2] 51)).drew.drew).store K Tryz.underlying63 hn1 HL.out.1 (R3_val (k2, m2, s2))
  simp only [val] at hrun
  have HO := Lib.hid (And.intro hown2 hturn)
  clear hown2 hturn
  have hnil : ∀ (w : World), (binOp .eql 63 (.map (some bm)) (.map none)).run Tryz.prog w = .ok (.bool false) w := fun w => run_eql_map_nil w _ _ _ (some bm) Tryz.underlying63
  go_region
  all_goals
    go_wp2
    go_region
  all_goals
    go_wp2
    go_ret
    exact ⟨rfl, ((HW.out.1.alloc _).drew.drew.chg.mono (by simp)).turned HO.out.2 (.inl (by simp)), HO.out.1⟩
theorem put_room (b o bm n : Nat) (D : DataW V3) (p q : V3) (l : Lit) (w : World) (c0 : w.cell? ⟨b, o, none⟩ = some (.int .u8 0)) (c2 : w.cell? ⟨b, o + 2, none⟩ = some (.bool false)) (c3 : w.cell? ⟨b, o + 3, none⟩ = some (.map (some bm)))
    (hown : w.ownsMap Tryz.prog 51 R3 bm n D) (hk : isKey p.1 = true) (hl : keyOf Tryz.prog 51 (val p) = some l) (hq : (q.1 == 0) = false) (hn : Maps.has D l = false) (hs : (Maps.size D : Int) < 64) (hn1 : n < maxLen) (hq2 : True) :
    Calls Tryz.prog 56 #[.pointer (some ⟨b, o, none⟩), val p, val q] w fun e w' => e = .returned (.int .i64 0) ∧ Chg [bm] w w' ∧ w'.ownsMap Tryz.prog 51 R3 bm (n + 1) (D.put l (.held q)) := by
  have hbl : b < w.heap.size := World.block_lt_of_cell? w _ c0
  obtain ⟨k, m, s⟩ := p
  obtain ⟨k2, m2, s2⟩ := q
  have q0 : (k2 == 0) = false := hq
  clear hq
  have hU : Up w ((w.alloc (.cells #[.int .u8 k, .int .i64 m, .string s] 51)).alloc (.cells #[.int .u8 k2, .int .i64 m2, .string s2] 51)) := ((Up.refl w).alloc _).alloc _
  have B0 := Lib.hid ((has3_alloc w (.int .u8 k) (.int .i64 m) (.string s) 51).up ((Up.refl _).alloc (.cells #[.int .u8 k2, .int .i64 m2, .string s2] 51)))
  have B1 := Lib.hid (has3_alloc2 w (.cells #[.int .u8 k, .int .i64 m, .string s] 51) (.int .u8 k2) (.int .i64 m2) (.string s2) 51)
  have HK := Lib.hid hk
  have HL := Lib.hid (And.intro hl hown)
  have HU := Lib.hid hU
  have HC := Lib.hid (And.intro c2 c3)
  clear hk hl hown hU c2 c3
  show Calls Tryz.prog 56 #[.pointer (some ⟨b, o, none⟩), .agg #[.int .u8 k, .int .i64 m, .string s], .agg #[.int .u8 k2, .int .i64 m2, .string s2]] w _
  go_enter Tryz.func56, Tryz.ntmps56
  go_wp2_with (go_at_call 66; refine (key_any _ _ _ _).mono ?_; rintro e w1 ⟨rfl, hb1⟩; have k1 := HK.out; obtain ⟨z0, ⟨e0, e1, e2⟩, _⟩ := B0.out.up hb1; obtain ⟨z1, ⟨f0, f1, f2⟩, ⟨g0, g1, g2⟩⟩ := B1.out.up hb1; have d2 := up_cell (HU.out.trans hb1) HC.out.1; have d3 := up_cell (HU.out.trans hb1) HC.out.2)
  have UW : Up w w1 := HU.out.trans hb1
  have hlk := look_ok w1.drew bm n D (owns_up HL.out.2 UW.drew) HL.out.1
  have hlk2 := look_ok (w1.alloc (.cells #[.int .u8 0, .int .i64 0, .string ⟨#[]⟩] 51)).drew bm n D (owns_up HL.out.2 (UW.alloc _).drew) HL.out.1
  have hb1' : b < w1.heap.size := Nat.lt_of_lt_of_le hbl UW.size
  have HW := Lib.hid (And.intro UW hb1)
  clear UW hb1
  generalize atv D l = y at hlk hlk2
  obtain ⟨y0, y1, y2⟩ := y
  simp only [val] at hlk hlk2
  have hln := fun ty => (owns_up HL.out.2 (HW.out.1.alloc (.cells #[.int .u8 y0, .int .i64 y1, .string y2] 51)).drew).len Tryz.underlying63 ty
  obtain ⟨w2, hrun, hown2, hturn⟩ := (owns_up HL.out.2 (HW.out.1.alloc (.cells #[.int .u8 y0, .int .i64 y1, .string y2] 51)).drew.drew).store K Tryz.underlying63 hn1 HL.out.1 (R3_val (k2, m2, s2))
  simp only [val] at hrun
  have HO := Lib.hid (And.intro hown2 hturn)
  clear hown2 hturn
  have hnil : ∀ (w : World), (binOp .eql 63 (.map (some bm)) (.map none)).run Tryz.prog w = .ok (.bool false) w := fun w => run_eql_map_nil w _ _ _ (some bm) Tryz.underlying63
  go_region
  all_goals
    go_wp2
    go_region
  all_goals
    go_wp2
    go_ret
    exact ⟨rfl, ((HW.out.1.alloc _).drew.drew.chg.mono (by simp)).turned HO.out.2 (.inl (by simp)), HO.out.1⟩
end Go.Proofs.YtmmfpkkkpeapeaaGreatDoor.rec

/- The arena as blocks of memory: four rows behind a struct's cells; what an operation on it may turn. -/
set_option linter.unusedVariables false
set_option linter.unusedSimpArgs false
namespace Go.Proofs.YtmmfpkkkpeapeaaGreatDoor.ar
open Go.RowKit Go.Maps mem rec
/-- An object. -/
structure Ob where
  kind : Int
  owner : Int
  frozen : Bool
  fields : Option Nat
  module : Int
  func : Int
  ha : Option Addr
  hn : Nat
  hc : Nat
  brand : Int
  content : V3
  membrane : Int
  target : Int
  deep : Int
def Ob.cells (o : Ob) : List Value := [.int .u8 o.kind, .int .i64 o.owner, .bool o.frozen, .map o.fields, .int .i64 o.module, .int .i64 o.func, .slice o.ha o.hn o.hc, .int .u64 o.brand, .int .u8 o.content.1, .int .i64 o.content.2.1, .string o.content.2.2, .int .i64 o.membrane, .int .u64 o.target, .int .i64 o.deep]
def ob0 : Ob := ⟨0, 0, false, none, 0, 0, none, 0, 0, 0, zero3, 0, 0, 0⟩
structure Sl where
  uses : Nat
  used : Bool
  o : Ob
def Sl.cells (s : Sl) : List Value := .int .u32 s.uses :: .bool s.used :: s.o.cells
def sl0 : Sl := ⟨0, false, ob0⟩
structure Ar where
  slots : List Sl
  free : List Nat
  quotas : List Int
  many : List Int
def Ar.len (A : Ar) : Nat → Nat
  | 0 => A.slots.length
  | 1 => A.free.length
  | 2 => A.quotas.length
  | _ => A.many.length
def Ar.row (A : Ar) : Nat → List Value
  | 0 => A.slots.flatMap Sl.cells
  | 1 => A.free.map (fun n : Nat => Value.int .u32 (n : Int))
  | 2 => A.quotas.map (Value.int .i64)
  | _ => A.many.map (Value.int .i64)
def eT : Nat → TypeId
  | 0 => 122
  | 1 => 115
  | _ => 3
def eS : Nat → Nat
  | 0 => 16
  | _ => 1
/-- The arena of these rows behind the struct in block p. -/
structure Parts (w : World) (p : Nat) (v : Nat → Value) (A : Ar) : Prop where
  hd : Blk w p #[v 0, v 1, v 2, v 3] 120
  ow : ∀ i, i < 4 → w.ownsRow 0 (eT i) (eS i) (v i) (A.len i) (A.row i)
  ap : ∀ i j b, i < 4 → j < 4 → (v i).ownBlock = some b → (v j).ownBlock = some b → i = j
  pp : ∀ i, i < 4 → (v i).ownBlock ≠ some p
def foot (p : Nat) (v : Nat → Value) : List Nat := p :: ((List.range 4).filterMap fun i => (v i).ownBlock)
theorem mem_foot {p : Nat} {v : Nat → Value} {b : Nat} : b ∈ foot p v ↔ b = p ∨ ∃ i, i < 4 ∧ (v i).ownBlock = some b := by
  simp [foot, List.mem_filterMap]
theorem foot_i {p : Nat} {v : Nat → Value} {i b : Nat} (hi : i < 4) (h : (v i).ownBlock = some b) : b ∈ foot p v := mem_foot.2 (.inr ⟨i, hi, h⟩)
theorem foot_p {p : Nat} {v : Nat → Value} : p ∈ foot p v := mem_foot.2 (.inl rfl)
theorem Parts.lt {w : World} {p : Nat} {v : Nat → Value} {A : Ar} (h : Parts w p v A) : ∀ b ∈ foot p v, b < w.heap.size := by
  intro b hb
  rcases mem_foot.1 hb with rfl | ⟨i, hi, hb⟩
  · exact h.hd.lt
  · exact ((h.ow i hi).lt b hb).2
theorem Parts.chg {G : List Nat} {w w' : World} {p : Nat} {v : Nat → Value} {A : Ar} (h : Parts w p v A) (c : Chg G w w') (hn : ∀ b ∈ foot p v, b ∉ G) : Parts w' p v A :=
  ⟨h.hd.chg c (hn p foot_p), fun i hi => owns_chg (h.ow i hi) c (fun g hg => hn g (foot_i hi hg)), h.ap, h.pp⟩
theorem Parts.up {w w' : World} {p : Nat} {v : Nat → Value} {A : Ar} (h : Parts w p v A) (u : Up w w') : Parts w' p v A := h.chg u.chg (by simp)
def upd (v : Nat → Value) (i : Nat) (u : Value) : Nat → Value := fun j => if j = i then u else v j
theorem upd_same (v : Nat → Value) (i : Nat) (u : Value) : upd v i u i = u := by simp [upd]
theorem upd_other (v : Nat → Value) {i j : Nat} (u : Value) (h : j ≠ i) : upd v i u j = v j := by simp [upd, h]
/-- A row is made anew, or appended to, and its value laid in the struct's cell. -/
theorem Parts.put {w w1 : World} {p : Nat} {v : Nat → Value} {A A' : Ar} (h : Parts w p v A) (i : Nat) (hi : i < 4) (hg : w.grownBy w1 (v i).ownBlock) (u : Value) (g : Nat) (hu : u.ownBlock = some g) (hgl : (v i).ownBlock = some g ∨ w.heap.size ≤ g)
    (hrow : w1.ownsRow 0 (eT i) (eS i) u (A'.len i) (A'.row i)) (hsame : ∀ j, j < 4 → j ≠ i → A'.len j = A.len j ∧ A'.row j = A.row j) :
    Parts (w1.setCell ⟨p, i, none⟩ u) p (upd v i u) A' ∧ Chg (foot p v) w (w1.setCell ⟨p, i, none⟩ u) ∧ ∀ b ∈ foot p (upd v i u), b ∈ foot p v ∨ w.heap.size ≤ b := by
  have hgp : g ≠ p := by
    rcases hgl with h1 | h1
    · intro e; exact h.pp i hi (by rw [h1, e])
    · have := h.hd.lt; omega
  have c1 : Chg (foot p v) w w1 := (Chg.refl _ w).grown hg (fun k hk => .inl (foot_i hi hk))
  have c2 : Chg (foot p v) w (w1.setCell ⟨p, i, none⟩ u) := c1.setCell (p := ⟨p, i, none⟩) (.inl foot_p) u
  have cp : Chg [p] w1 (w1.setCell ⟨p, i, none⟩ u) := (Chg.refl _ w1).setCell (p := ⟨p, i, none⟩) (.inl (by simp)) u
  have hd1 : Blk w1 p #[v 0, v 1, v 2, v 3] 120 := (hg.block p h.hd.lt (fun e => h.pp i hi e.symm)).trans h.hd
  refine ⟨⟨?_, ?_, ?_, ?_⟩, c2, ?_⟩
  · have := heap_setCell_same w1 p i _ _ u hd1
    unfold Blk
    rw [this]
    rcases (by omega : i = 0 ∨ i = 1 ∨ i = 2 ∨ i = 3) with rfl | rfl | rfl | rfl <;> simp [upd]
  · intro j hj
    by_cases e : j = i
    · subst e
      rw [upd_same]
      exact owns_chg hrow cp (fun b hb => by rw [hu] at hb; cases hb; simpa using hgp)
    · rw [upd_other v u e, (hsame j hj e).1, (hsame j hj e).2]
      have o1 : w1.ownsRow 0 (eT j) (eS j) (v j) (A.len j) (A.row j) := (h.ow j hj).kept hg (by
        cases hb : (v j).ownBlock with
        | none => exact .inl rfl
        | some b => exact .inr (fun e2 => e (h.ap j i b hj hi hb e2.symm)))
      exact owns_chg o1 cp (fun b hb => by simp; rintro rfl; exact h.pp j hj hb)
  · intro a j b ha hj h1 h2
    by_cases e1 : a = i <;> by_cases e2 : j = i
    · rw [e1, e2]
    · subst e1
      rw [upd_same, hu] at h1
      rw [upd_other v u e2] at h2
      cases h1
      rcases hgl with h3 | h3
      · exact (h.ap j a g hj ha h2 h3).symm
      · have := ((h.ow j hj).lt g h2).2; omega
    · subst e2
      rw [upd_same, hu] at h2
      rw [upd_other v u e1] at h1
      cases h2
      rcases hgl with h3 | h3
      · exact h.ap a j g ha hj h1 h3
      · have := ((h.ow a ha).lt g h1).2; omega
    · rw [upd_other v u e1] at h1
      rw [upd_other v u e2] at h2
      exact h.ap a j b ha hj h1 h2
  · intro j hj
    by_cases e : j = i
    · subst e; rw [upd_same, hu]; simpa using hgp
    · rw [upd_other v u e]; exact h.pp j hj
  · intro b hb
    rcases mem_foot.1 hb with rfl | ⟨j, hj, hb⟩
    · exact .inl foot_p
    · by_cases e : j = i
      · subst e
        rw [upd_same, hu] at hb
        cases hb
        rcases hgl with h3 | h3
        · exact .inl (foot_i hj h3)
        · exact .inr h3
      · rw [upd_other v u e] at hb
        exact .inl (foot_i hj hb)
/-- A row is written in its place. -/
theorem Parts.store {w w1 : World} {p : Nat} {v : Nat → Value} {A A' : Ar} (h : Parts w p v A) (i : Nat) (hi : i < 4) (hg : w.grownBy w1 (v i).ownBlock)
    (hrow : w1.ownsRow 0 (eT i) (eS i) (v i) (A'.len i) (A'.row i)) (hsame : ∀ j, j < 4 → j ≠ i → A'.len j = A.len j ∧ A'.row j = A.row j) :
    Parts w1 p v A' ∧ Chg (foot p v) w w1 := by
  have c1 : Chg (foot p v) w w1 := (Chg.refl _ w).grown hg (fun k hk => .inl (foot_i hi hk))
  refine ⟨⟨(hg.block p h.hd.lt (fun e => h.pp i hi e.symm)).trans h.hd, ?_, h.ap, h.pp⟩, c1⟩
  intro j hj
  by_cases e : j = i
  · subst e; exact hrow
  · rw [(hsame j hj e).1, (hsame j hj e).2]
    exact (h.ow j hj).kept hg (by
      cases hb : (v j).ownBlock with
      | none => exact .inl rfl
      | some b => exact .inr (fun e2 => e (h.ap j i b hj hi hb e2.symm)))
/-- What a row's value looks like. -/
theorem shape {w : World} {base : Nat} {e : TypeId} {size : Nat} {v : Value} {n : Nat} {xs : List Value} (h : w.ownsRow base e size v n xs) : ∃ a cap, v = .slice a n cap ∧ n ≤ cap ∧ cap ≤ maxLen ∧ (a = none ∧ n = 0 ∧ cap = 0 ∨ ∃ g, a = some ⟨g, 0, none⟩ ∧ g < w.heap.size) := by
  rcases h.2 with ⟨h1, h2⟩ | ⟨g, cap, cur, h1, h2, h3, h4, h5, _⟩
  · subst h2; exact ⟨none, 0, h1, Nat.le_refl _, by unfold maxLen; omega, .inl ⟨rfl, rfl, rfl⟩⟩
  · exact ⟨_, cap, h1, h4, h5, .inr ⟨g, rfl, (Array.getElem?_eq_some_iff.1 h3).1⟩⟩
/-! ### the slots' cells -/
theorem cells_len (s : Sl) : s.cells.length = 16 := rfl
theorem flat_len : ∀ l : List Sl, (l.flatMap Sl.cells).length = l.length * 16
  | [] => rfl
  | s :: l => by rw [List.flatMap_cons, List.length_append, flat_len l, cells_len, List.length_cons]; omega
theorem flat_get : ∀ (l : List Sl) (n j : Nat) (s : Sl), l[n]? = some s → j < 16 → (l.flatMap Sl.cells)[n * 16 + j]? = s.cells[j]?
  | [], n, j, s, h, _ => by simp at h
  | a :: l, 0, j, s, h, hj => by
    simp at h; subst h
    rw [List.flatMap_cons, List.getElem?_append_left (by rw [cells_len]; omega)]; simp
  | a :: l, n + 1, j, s, h, hj => by
    simp at h
    rw [List.flatMap_cons, List.getElem?_append_right (by rw [cells_len]; omega), cells_len, show (n + 1) * 16 + j - 16 = n * 16 + j by omega]
    exact flat_get l n j s h hj
theorem flat_set : ∀ (l : List Sl) (n : Nat) (s s' : Sl) (k : Nat) (vs : List Value), l[n]? = some s → k + vs.length ≤ 16 → s'.cells = s.cells.take k ++ vs ++ s.cells.drop (k + vs.length) →
    (l.flatMap Sl.cells).take (n * 16 + k) ++ vs ++ (l.flatMap Sl.cells).drop (n * 16 + k + vs.length) = (l.set n s').flatMap Sl.cells
  | [], n, s, s', k, vs, h, _, _ => by simp at h
  | a :: l, 0, s, s', k, vs, h, hk, e => by
    simp at h; subst h
    rw [List.set_cons_zero, List.flatMap_cons, List.flatMap_cons, e, List.take_append_of_le_length (by rw [cells_len]; omega), List.drop_append_of_le_length (by rw [cells_len]; omega)]
    simp
  | a :: l, n + 1, s, s', k, vs, h, hk, e => by
    simp at h
    have ih := flat_set l n s s' k vs h hk e
    rw [List.set_cons_succ, List.flatMap_cons, List.flatMap_cons, ← ih, List.take_append, List.drop_append, List.take_of_length_le (by rw [cells_len]; omega), List.drop_eq_nil_of_le (by rw [cells_len]; omega), cells_len,
      show (n + 1) * 16 + k - 16 = n * 16 + k by omega, show (n + 1) * 16 + k + vs.length - 16 = n * 16 + k + vs.length by omega]
    simp
/-- Some cells of an owned row, written. -/
theorem owns_setCells {base : Nat} {e : TypeId} {size g n cap : Nat} : ∀ (vs : List Value) (k : Nat) (w : World) (xs : List Value), w.ownsRow base e size (.slice (some ⟨g, 0, none⟩) n cap) n xs → k + vs.length ≤ xs.length →
    (w.setCells g k vs).ownsRow base e size (.slice (some ⟨g, 0, none⟩) n cap) n (xs.take k ++ vs ++ xs.drop (k + vs.length)) ∧ w.grownBy (w.setCells g k vs) (some g)
  | [], k, w, xs, h, hk => by
    simp only [World.setCells, List.append_nil, List.length_nil, Nat.add_zero, List.take_append_drop]
    exact ⟨h, ⟨rfl, rfl, rfl, Nat.le_refl _, fun _ _ _ => rfl⟩⟩
  | v :: r, k, w, xs, h, hk => by
    obtain ⟨h1, g1⟩ := h.stored k v
    obtain ⟨h2, g2⟩ := owns_setCells r (k + 1) _ _ h1 (by simp at hk ⊢; omega)
    rw [World.setCells]
    refine ⟨?_, g1.trans g2⟩
    have hkl : k < xs.length := by simp at hk; omega
    rw [List.set_eq_take_append_cons_drop, if_pos hkl] at h2
    have e1 : (xs.take k ++ v :: xs.drop (k + 1)).take (k + 1) = xs.take k ++ [v] := by
      rw [List.take_append, List.length_take, Nat.min_eq_left (by omega), List.take_of_length_le (by simp; omega)]
      simp [show k + 1 - k = 1 by omega]
    have e2 : (xs.take k ++ v :: xs.drop (k + 1)).drop (k + 1 + r.length) = xs.drop (k + (v :: r).length) := by
      rw [List.drop_append, List.length_take, Nat.min_eq_left (by omega), List.drop_eq_nil_of_le (by simp; omega)]
      rw [show k + 1 + r.length - k = r.length + 1 by omega]
      simp
      congr 1; omega
    rw [e1, e2] at h2
    simpa using h2
theorem owns_cut {w : World} {base : Nat} {e : TypeId} {size g n cap : Nat} {xs : List Value} (h : w.ownsRow base e size (.slice (some ⟨g, 0, none⟩) n cap) n xs) {m : Nat} (hm : m ≤ n) : w.ownsRow base e size (.slice (some ⟨g, 0, none⟩) m cap) m (xs.take (m * size)) := by
  rcases h with ⟨hl, ⟨h', _⟩ | ⟨g', cap', cur, h', hb, hg, hnc, hcm, hcs, htake⟩⟩
  · simp at h'
  · simp only [Value.slice.injEq, Option.some.injEq, Addr.mk.injEq, and_true, true_and] at h'
    obtain ⟨rfl, rfl⟩ := h'
    have hmn : m * size ≤ n * size := Nat.mul_le_mul_right _ hm
    refine ⟨by rw [List.length_take, hl]; omega, .inr ⟨g, cap, cur, rfl, hb, hg, by omega, hcm, hcs, ?_⟩⟩
    rw [← htake, List.take_take, Nat.min_eq_left hmn]
end Go.Proofs.YtmmfpkkkpeapeaaGreatDoor.ar

/- The arena's small functions; Get. -/
set_option linter.unusedVariables false
set_option linter.unusedSimpArgs false
namespace Go.Proofs.YtmmfpkkkpeapeaaGreatDoor.ar
open Go.RowKit Go.Maps mem rec
attribute [local go_sem ↓] Go.wp_at_zero Go.wp_at_succ
set_option maxRecDepth 100000
set_option maxHeartbeats 4000000
theorem up_drewN {a b : World} (h : Up a b) (n : Nat) : Up a (b.drewN n) := ⟨h.os, h.tape, h.output, h.size, h.block⟩
theorem ret_int {k : IntKind} {a b : Int} (h : a = b) : Ending.returned (.int k a) = .returned (.int k b) := by rw [h]
theorem slot_x (r : Nat) (hr : r < 18446744073709551616) (w : World) : Calls Tryz.prog 37 #[.int .u64 r] w fun e w' => e = .returned (.int .u32 ((r % 4294967296 : Nat) : Int)) ∧ w' = w := by
  go_enter Tryz.func37, Tryz.ntmps37
  go_wp2
  go_ret
  exact ⟨ret_int (by omega), rfl⟩
theorem uses_x (r : Nat) (hr : r < 18446744073709551616) (w : World) : Calls Tryz.prog 38 #[.int .u64 r] w fun e w' => e = .returned (.int .u32 ((r / 4294967296 : Nat) : Int)) ∧ w' = w := by
  go_enter Tryz.func38, Tryz.ntmps38
  go_wp2
  go_ret
  exact ⟨ret_int (by omega), rfl⟩
theorem or_ref (n u : Nat) (hn : n < 4294967296) (hu : u < 4294967296) : bits .or .u64 ((u : Int) * 4294967296) n = ((u * 4294967296 + n : Nat) : Int) := by
  show IntKind.u64.wrap (((BitVec.ofInt 64 ((u : Int) * 4294967296) ||| BitVec.ofInt 64 (n : Int) : BitVec 64).toNat : Nat) : Int) = _
  have e1 : BitVec.ofInt 64 ((u : Int) * 4294967296) = BitVec.ofNat 64 (u * 4294967296) := by
    rw [show ((u : Int) * 4294967296) = ((u * 4294967296 : Nat) : Int) by omega]; exact BitVec.ofInt_ofNat _ _
  have e2 : BitVec.ofInt 64 (n : Int) = BitVec.ofNat 64 n := BitVec.ofInt_ofNat _ _
  have e3 : u * 4294967296 ||| n = u * 4294967296 + n := by
    have := Nat.shiftLeft_add_eq_or_of_lt (i := 32) (b := n) (by simpa using hn) u
    rw [Nat.shiftLeft_eq] at this
    exact this.symm
  rw [e1, e2, BitVec.toNat_or, BitVec.toNat_ofNat, BitVec.toNat_ofNat, Nat.mod_eq_of_lt (by omega), Nat.mod_eq_of_lt (by omega), e3, IntKind.wrap_u64]
  omega
theorem of_x (n u : Nat) (hn : n < 4294967296) (hu : u < 4294967296) (w : World) : Calls Tryz.prog 42 #[.int .u32 n, .int .u32 u] w fun e w' => e = .returned (.int .u64 ((u * 4294967296 + n : Nat) : Int)) ∧ w' = w := by
  have E := Lib.hid (or_ref n u hn hu)
  go_enter Tryz.func42, Tryz.ntmps42
  go_wp2
  go_ret
  exact ⟨ret_int E.out, rfl⟩
theorem wrap_small (r : Nat) (hr : r < 9223372036854775808) : IntKind.i64.wrap r = r := by rw [IntKind.wrap_i64]; omega
theorem object_x (r : Nat) (hr : r < 9223372036854775808) (w : World) : Calls Tryz.prog 10 #[.int .u64 r] w fun e w' => e = .returned (val (5, r, ⟨#[]⟩)) ∧ w' = w.alloc (.cells #[.int .u8 5, .int .i64 r, .string ⟨#[]⟩] 51) := by
  have E := wrap_small r hr
  go_enter Tryz.func10, Tryz.ntmps10
  go_wp2
  exact bodyPost_ret (v := .agg #[.int .u8 5, .int .i64 r, .string ⟨#[]⟩]) (by simp [results, Tryz.results10, go_sem]) rfl ⟨rfl, rfl⟩
theorem ref_x (r : Nat) (hr : r < 9223372036854775808) (s : ByteArray) (w : World) : Calls Tryz.prog 15 #[.agg #[.int .u8 5, .int .i64 r, .string s]] w fun e w' => e = .returned (.int .u64 r) ∧ w' = w.alloc (.cells #[.int .u8 5, .int .i64 r, .string s] 51) := by
  have hi : (r : Int) < 9223372036854775808 := by omega
  go_enter Tryz.func15, Tryz.ntmps15
  go_wp2
  go_ret
  exact ⟨ret_int (by first | rfl | (rw [IntKind.wrap_u64]; omega)), rfl⟩
theorem ref_none (k n : Int) (s : ByteArray) (h5 : (k == 5) = false) (w : World) : Calls Tryz.prog 15 #[.agg #[.int .u8 k, .int .i64 n, .string s]] w fun e w' => e = .returned (.int .u64 0) ∧ w' = w.alloc (.cells #[.int .u8 k, .int .i64 n, .string s] 51) := by
  have h6 : (k != 5) = true := by simp [bne, h5]
  go_enter Tryz.func15, Tryz.ntmps15
  go_wp2
  go_ret
  exact ⟨rfl, rfl⟩
theorem new_arena (w : World) : Calls Tryz.prog 33 #[] w fun e w' => e = .returned (.pointer (some ⟨w.heap.size, 0, none⟩)) ∧ w' = w.alloc (.cells #[.slice none 0 0, .slice none 0 0, .slice none 0 0, .slice none 0 0] 120) := by
  go_enter Tryz.func33, Tryz.ntmps33
  go_wp2
  go_ret
  exact ⟨rfl, rfl⟩
/-! ### Get -/
/-- The object of a name, if there is one. -/
def Ar.find (A : Ar) (r : Nat) : Option Ob :=
  match A.slots[r % 4294967296]? with
  | some s => if s.used = true ∧ s.uses = r / 4294967296 then some s.o else none
  | none => none
/-- The object's cells lie there. -/
def ObAt (w : World) (g k : Nat) (o : Ob) : Prop := w.rangeAt g k o.cells
theorem ObAt.chg {F : List Nat} {w w' : World} {g k : Nat} {o : Ob} (h : ObAt w g k o) (c : Chg F w w') (hn : g ∉ F) : ObAt w' g k o := fun j v hj => by
  have := h j v hj
  exact (c.cell (p := ⟨g, k + j, none⟩) (World.block_lt_of_cell? w _ this) hn).trans this
theorem ObAt.up {w w' : World} {g k : Nat} {o : Ob} (h : ObAt w g k o) (u : Up w w') : ObAt w' g k o := h.chg u.chg (by simp)
theorem Parts.obAt {w : World} {p : Nat} {v : Nat → Value} {A : Ar} (h : Parts w p v A) {n : Nat} {s : Sl} (hs : A.slots[n]? = some s) : ∃ g cap, v 0 = .slice (some ⟨g, 0, none⟩) A.slots.length cap ∧ (v 0).ownBlock = some g ∧
    w.cell? ⟨g, n * 16, none⟩ = some (.int .u32 s.uses) ∧ w.cell? ⟨g, n * 16 + 1, none⟩ = some (.bool s.used) ∧ ObAt w g (n * 16 + 2) s.o := by
  have hn : n < A.slots.length := (List.getElem?_eq_some_iff.1 hs).1
  have ho := h.ow 0 (by omega)
  obtain ⟨g, cap, hv, _, _⟩ := ho.form (show 0 < A.len 0 by show 0 < A.slots.length; omega)
  have hv' : v 0 = .slice (some ⟨g, 0, none⟩) A.slots.length cap := hv
  rw [hv'] at ho
  have cl : ∀ j, j < 16 → w.cell? ⟨g, n * 16 + j, none⟩ = s.cells[j]? := fun j hj => by
    have := World.ownsRow.cellAt ho (n * 16 + j) (show n * 16 + j < A.slots.length * 16 by omega)
    rw [this]; exact flat_get _ n j s hs hj
  refine ⟨g, cap, hv', by rw [hv']; rfl, cl 0 (by omega), cl 1 (by omega), fun j u hj => ?_⟩
  have hj14 : j < 14 := (List.getElem?_eq_some_iff.1 hj).1
  rw [show n * 16 + 2 + j = n * 16 + (2 + j) by omega, cl (2 + j) (by omega)]
  show (_ :: _ :: s.o.cells)[2 + j]? = some u
  rw [show 2 + j = j + 1 + 1 by omega]
  simpa using hj
theorem get_yes (w : World) (p r : Nat) (v : Nat → Value) (A : Ar) (o : Ob) (h : Parts w p v A) (hr : r < 18446744073709551616) (hf : A.find r = some o) :
    Calls Tryz.prog 14 #[.pointer (some ⟨p, 0, none⟩), .int .u64 r] w fun e w' => ∃ g, e = .returned (.pointer (some ⟨g, (r % 4294967296) * 16 + 2, none⟩)) ∧ Up w w' ∧ (v 0).ownBlock = some g ∧ ObAt w g ((r % 4294967296) * 16 + 2) o := by
  obtain ⟨s, hs, hu, hus, rfl⟩ : ∃ s, A.slots[r % 4294967296]? = some s ∧ s.used = true ∧ s.uses = r / 4294967296 ∧ s.o = o := by
    unfold Ar.find at hf
    split at hf
    · rename_i s hs
      split at hf
      · rename_i hh; cases hf; exact ⟨s, hs, hh.1, hh.2, rfl⟩
      · cases hf
    · cases hf
  obtain ⟨g, cap, hv, hog, c0, c1, hob⟩ := h.obAt hs
  have hlt : r % 4294967296 < A.slots.length := (List.getElem?_eq_some_iff.1 hs).1
  have hd0 : w.cell? ⟨p, 0, none⟩ = some (v 0) := h.hd.cell 0
  rw [hv] at hd0
  rw [hu] at c1
  rw [hus] at c0
  have S1 := Lib.hid (slot_x r hr)
  have S2 := Lib.hid (uses_x r hr)
  have hn2 : r % 4294967296 < 4294967296 := Nat.mod_lt _ (by decide)
  have HO := Lib.hid (And.intro hog hob)
  have HL := Lib.hid (h.ow 0 (by omega))
  clear h hs hu hus hog hob hf
  generalize r % 4294967296 = n at *
  generalize r / 4294967296 = q at *
  generalize A.slots.length = len at *
  have i0 : (0 : Int) ≤ (n : Int) := by omega
  have i1 : (n : Int) < (len : Int) := by omega
  have i2 : ¬ (len : Int) ≤ (n : Int) := by omega
  have i3 : decide (len ≤ n) = false := by simpa using hlt
  go_enter Tryz.func14, Tryz.ntmps14
  go_wp2_with (go_at_call 37; refine (S1.out _).mono ?_; rintro e w' ⟨rfl, rfl⟩)
  go_quiet ((go_at_call 38; exact Calls.quiet_of_same (S2.out _)))
  go_wp2
  go_ret
  exact ⟨g, rfl, up_drewN (Up.refl _) _, HO.out.1, HO.out.2⟩
/-! ### has -/
def Ar.has (A : Ar) (n : Int) : Bool := decide (0 ≤ n) && decide (n < A.quotas.length)
theorem has_x (w : World) (p : Nat) (n : Int) (v : Nat → Value) (A : Ar) (h : Parts w p v A) : Calls Tryz.prog 41 #[.pointer (some ⟨p, 0, none⟩), .int .i64 n] w fun e w' => e = .returned (.bool (A.has n)) ∧ w' = w := by
  have hd0 : w.cell? ⟨p, 2, none⟩ = some (v 2) := h.hd.cell 2
  obtain ⟨a, cap, hv, _, _, _⟩ := shape (h.ow 2 (by omega))
  have hv' : v 2 = .slice a A.quotas.length cap := hv
  rw [hv'] at hd0
  clear h hv hv'
  by_cases h0 : 0 ≤ n
  · by_cases h1 : n < A.quotas.length
    · have E : Hid (A.has n = true) := by show A.has n = true; simp [Ar.has, h0, h1]
      go_enter Tryz.func41, Tryz.ntmps41
      go_wp2
      go_ret
      exact ⟨by rw [E.out]; rfl, rfl⟩
    · have E : Hid (A.has n = false) := by show A.has n = false; simp [Ar.has, h0, h1]
      have h2 := Lib.hid (decide_eq_false h1)
      clear h1
      go_enter Tryz.func41, Tryz.ntmps41
      go_wp2
      go_ret
      exact ⟨by rw [E.out]; show Ending.returned (.bool (decide (n < A.quotas.length))) = _; rw [h2.out], rfl⟩
  · have E : Hid (A.has n = false) := by show A.has n = false; simp [Ar.has, h0]
    have h2 : n < 0 := by omega
    clear h0
    go_enter Tryz.func41, Tryz.ntmps41
    go_wp2
    go_ret
    exact ⟨by rw [E.out]; rfl, rfl⟩
end Go.Proofs.YtmmfpkkkpeapeaaGreatDoor.ar

/- Get, where there is no such object. -/
set_option linter.unusedVariables false
set_option linter.unusedSimpArgs false
namespace Go.Proofs.YtmmfpkkkpeapeaaGreatDoor.ar
open Go.RowKit Go.Maps mem rec
attribute [local go_sem ↓] Go.wp_at_zero Go.wp_at_succ
set_option maxRecDepth 100000
set_option maxHeartbeats 1000000
theorem get_no (w : World) (p r : Nat) (v : Nat → Value) (A : Ar) (h : Parts w p v A) (hr : r < 18446744073709551616) (hf : A.find r = none) :
    Calls Tryz.prog 14 #[.pointer (some ⟨p, 0, none⟩), .int .u64 r] w fun e w' => e = .returned (.pointer none) ∧ Up w w' := by
  have S1 := Lib.hid (slot_x r hr)
  have S2 := Lib.hid (uses_x r hr)
  have hd0 : w.cell? ⟨p, 0, none⟩ = some (v 0) := h.hd.cell 0
  have hn2 : r % 4294967296 < 4294967296 := Nat.mod_lt _ (by decide)
  cases hs : A.slots[r % 4294967296]? with
  | none =>
    have hge : A.slots.length ≤ r % 4294967296 := List.getElem?_eq_none_iff.1 hs
    obtain ⟨a, cap, hv, _, _, _⟩ := shape (h.ow 0 (by omega))
    have hv' : v 0 = .slice a A.slots.length cap := hv
    rw [hv'] at hd0
    clear h hs hf hv hv'
    generalize r % 4294967296 = n at *
    generalize r / 4294967296 = q at *
    generalize A.slots.length = len at *
    have i3 : decide (len ≤ n) = true := by simpa using hge
    have i2 : (len : Int) ≤ (n : Int) := by omega
    go_enter Tryz.func14, Tryz.ntmps14
    go_wp2_with (go_at_call 37; refine (S1.out _).mono ?_; rintro e w' ⟨rfl, rfl⟩)
    go_quiet ((go_at_call 38; exact Calls.quiet_of_same (S2.out _)))
    go_wp2
    go_ret
    exact ⟨rfl, up_drewN (Up.refl _) _⟩
  | some s =>
    obtain ⟨g, cap, hv, hog, c0, c1, hob⟩ := h.obAt hs
    have hlt : r % 4294967296 < A.slots.length := (List.getElem?_eq_some_iff.1 hs).1
    rw [hv] at hd0
    have hno : ¬ (s.used = true ∧ s.uses = r / 4294967296) := by
      intro hh
      unfold Ar.find at hf
      rw [hs] at hf
      simp [hh] at hf
    clear h hs hog hob hf hv
    generalize r % 4294967296 = n at *
    generalize r / 4294967296 = q at *
    generalize A.slots.length = len at *
    obtain ⟨uses, used, o⟩ := s
    simp only at c0 c1 hno
    have i0 : (0 : Int) ≤ (n : Int) := by omega
    have i1 : (n : Int) < (len : Int) := by omega
    have i2 : ¬ (len : Int) ≤ (n : Int) := by omega
    have i3 : decide (len ≤ n) = false := by simpa using hlt
    cases used with
    | false =>
      clear hno
      go_enter Tryz.func14, Tryz.ntmps14
      go_wp2_with (go_at_call 37; refine (S1.out _).mono ?_; rintro e w' ⟨rfl, rfl⟩)
      go_quiet ((go_at_call 38; exact Calls.quiet_of_same (S2.out _)))
      go_wp2
      go_ret
      exact ⟨rfl, up_drewN (Up.refl _) _⟩
    | true =>
      have hne : ¬ uses = q := by simpa using hno
      have q0 : ((uses : Int) != (q : Int)) = true := by simp; omega
      clear hno hne
      go_enter Tryz.func14, Tryz.ntmps14
      go_wp2_with (go_at_call 37; refine (S1.out _).mono ?_; rintro e w' ⟨rfl, rfl⟩)
      go_quiet ((go_at_call 38; exact Calls.quiet_of_same (S2.out _)))
      go_wp2
      go_ret
      exact ⟨rfl, up_drewN (Up.refl _) _⟩
end Go.Proofs.YtmmfpkkkpeapeaaGreatDoor.ar

/- The arena's Put. -/
set_option linter.unusedVariables false
set_option linter.unusedSimpArgs false
namespace Go.Proofs.YtmmfpkkkpeapeaaGreatDoor.ar
open Go.RowKit Go.Maps mem rec
attribute [local go_sem ↓] Go.wp_at_zero Go.wp_at_succ
set_option maxRecDepth 100000
set_option maxHeartbeats 2000000
def Ar.grow (A : Ar) : Ar := if A.free = [] then { A with slots := A.slots ++ [sl0], free := [A.slots.length] } else A
def Ar.top (A : Ar) : Nat := A.grow.free.getLastD 0
def Ar.old (A : Ar) : Nat := (A.grow.slots.getD A.top sl0).uses
def Ar.name (A : Ar) : Nat := (A.old + 1) * 4294967296 + A.top
def Ar.add (A : Ar) (o : Ob) : Ar :=
  { slots := A.grow.slots.set A.top ⟨A.old + 1, true, o⟩, free := A.grow.free.dropLast, quotas := A.quotas, many := A.many.set o.owner.toNat (A.many.getD o.owner.toNat 0 + 1) }
def obBox (o : Ob) : Obj := .cells o.cells.toArray 66
theorem put_owner (w : World) (p : Nat) (v : Nat → Value) (A : Ar) (o : Ob) (h : Parts w p v A) (hn : A.has o.owner = false) :
    Calls Tryz.prog 27 #[.pointer (some ⟨p, 0, none⟩), .agg o.cells.toArray] w fun e w' => e = .returned (.tuple #[.int .u64 0, .int .i64 17]) ∧ Up w w' := by
  have HP := Lib.hid (And.intro h hn)
  clear h hn
  obtain ⟨kind, owner, frozen, fields, module, func, ha, hn, hc, brand, content, membrane, target, deep⟩ := o
  obtain ⟨k1, k2, k3⟩ := content
  simp only [Ob.cells]
  go_enter Tryz.func27, Tryz.ntmps27
  go_wp2_with fail
  refine (has_x _ p _ v A (HP.out.1.up ((Up.refl w).alloc _))).mono ?_
  rintro e w1 ⟨rfl, rfl⟩
  have hb := HP.out.2
  rw [hb]
  go_wp2_with fail
  go_ret2
  exact ⟨rfl, (Up.refl w).alloc _⟩
theorem put_full (w : World) (p : Nat) (v : Nat → Value) (A : Ar) (o : Ob) (h : Parts w p v A) (n : Nat) (q m : Int) (hn : o.owner = n) (hq : A.quotas[n]? = some q) (hm : A.many[n]? = some m) (hle : q ≤ m) :
    Calls Tryz.prog 27 #[.pointer (some ⟨p, 0, none⟩), .agg o.cells.toArray] w fun e w' => e = .returned (.tuple #[.int .u64 0, .int .i64 8]) ∧ Up w w' := by
  have hlq : n < A.quotas.length := (List.getElem?_eq_some_iff.1 hq).1
  have hlm : n < A.many.length := (List.getElem?_eq_some_iff.1 hm).1
  have hhas : A.has n = true := by simp [Ar.has]; omega
  have d2 : w.cell? ⟨p, 2, none⟩ = some (v 2) := h.hd.cell 2
  have d3 : w.cell? ⟨p, 3, none⟩ = some (v 3) := h.hd.cell 3
  obtain ⟨g2, cap2, hv2, _, l2⟩ := (h.ow 2 (by omega)).form (show 0 < A.len 2 by show 0 < A.quotas.length; omega)
  obtain ⟨g3, cap3, hv3, _, l3⟩ := (h.ow 3 (by omega)).form (show 0 < A.len 3 by show 0 < A.many.length; omega)
  have hv2' : v 2 = .slice (some ⟨g2, 0, none⟩) A.quotas.length cap2 := hv2
  have hv3' : v 3 = .slice (some ⟨g3, 0, none⟩) A.many.length cap3 := hv3
  have o2 := h.ow 2 (by omega)
  have o3 := h.ow 3 (by omega)
  rw [hv2'] at o2 d2
  rw [hv3'] at o3 d3
  have e2 : w.cell? ⟨g2, n, none⟩ = some (.int .i64 q) := by
    have := World.ownsRow.cellAt o2 n (show n < A.quotas.length * 1 by omega)
    rw [this]; show (A.quotas.map _)[n]? = _; simp [hq]
  have e3 : w.cell? ⟨g3, n, none⟩ = some (.int .i64 m) := by
    have := World.ownsRow.cellAt o3 n (show n < A.many.length * 1 by omega)
    rw [this]; show (A.many.map _)[n]? = _; simp [hm]
  have hpl := h.hd.lt
  have HP := Lib.hid (And.intro h hhas)
  clear h hhas hv2 hv3 hv2' hv3' o2 o3 hq hm
  obtain ⟨kind, owner, frozen, fields, module, func, ha, hn', hc, brand, content, membrane, target, deep⟩ := o
  obtain ⟨k1, k2, k3⟩ := content
  simp only at hn
  subst hn
  simp only [Ob.cells]
  generalize A.quotas.length = lq at *
  generalize A.many.length = lm at *
  have i0 : (0 : Int) ≤ (n : Int) := by omega
  have i1 : (n : Int) < (lq : Int) := by omega
  have i2 : (n : Int) < (lm : Int) := by omega
  go_enter Tryz.func27, Tryz.ntmps27
  go_wp2_with fail
  refine (has_x _ p _ v A (HP.out.1.up ((Up.refl w).alloc _))).mono ?_
  rintro e w1 ⟨rfl, rfl⟩
  rw [HP.out.2]
  go_wp2_with fail
  go_quiet (fail)
  go_wp2_with fail
  go_ret2
  exact ⟨rfl, up_drewN ((Up.refl w).alloc _) _⟩
theorem infoSlot : (Tryz.prog.info? 122).map (fun i => (i.zero, i.size, i.bytes)) = some (some (.agg #[.int .u32 0, .bool false, .int .u8 0, .int .i64 0, .bool false, .map none, .int .i64 0, .int .i64 0, .slice none 0 0, .int .u64 0, .int .u8 0, .int .i64 0, .string ⟨#[]⟩, .int .i64 0, .int .u64 0, .int .i64 0]), 16, 144) := by kernel_rfl
theorem infoU32 : (Tryz.prog.info? 115).map (fun i => (i.zero, i.size, i.bytes)) = some (some (.int .u32 0), 1, 4) := by kernel_rfl
theorem infoInt : (Tryz.prog.info? 3).map (fun i => (i.zero, i.size, i.bytes)) = some (some (.int .i64 0), 1, 8) := by kernel_rfl
end Go.Proofs.YtmmfpkkkpeapeaaGreatDoor.ar

/- Put's steps on memory. -/
set_option linter.unusedVariables false
set_option linter.unusedSimpArgs false
namespace Go.Proofs.YtmmfpkkkpeapeaaGreatDoor.ar
open Go.RowKit Go.Maps mem rec
attribute [local go_sem ↓] Go.wp_at_zero Go.wp_at_succ
set_option maxRecDepth 100000
set_option maxHeartbeats 400000
/-- In the midst of Put: what has turned since w; the box of the object. -/
structure Mid (w wx : World) (p : Nat) (v v' : Nat → Value) (A' : Ar) (o : Ob) : Prop where
  pt : Parts wx p v' A'
  cg : Chg (foot p v) w wx
  sb : ∀ b ∈ foot p v', b ∈ foot p v ∨ w.heap.size + 1 ≤ b
  bx : ObAt wx w.heap.size 0 o
  lt : w.heap.size < wx.heap.size
  lo : ∀ b ∈ foot p v, b < w.heap.size
theorem Mid.bn {w wx : World} {p : Nat} {v v' : Nat → Value} {A' : Ar} {o : Ob} (h : Mid w wx p v v' A' o) : w.heap.size ∉ foot p v' := fun hb => by
  rcases h.sb _ hb with h1 | h1
  · have := h.lo _ h1; omega
  · omega
theorem Mid.step {w wx wy : World} {p : Nat} {v v' v'' : Nat → Value} {A' A'' : Ar} {o : Ob} (h : Mid w wx p v v' A' o) (pt : Parts wy p v'' A'') (c : Chg (foot p v') wx wy) (sb : ∀ b ∈ foot p v'', b ∈ foot p v' ∨ wx.heap.size ≤ b) : Mid w wy p v v'' A'' o :=
  ⟨pt, h.cg.trans c (fun b hb => by rcases h.sb b hb with h1 | h1; exact .inl h1; exact .inr (by omega)),
    fun b hb => by
      rcases sb b hb with h1 | h1
      · exact h.sb b h1
      · exact .inr (by have := h.lt; omega),
    h.bx.chg c h.bn, Nat.lt_of_lt_of_le h.lt c.size, h.lo⟩
theorem Mid.up {w wx wy : World} {p : Nat} {v v' : Nat → Value} {A' : Ar} {o : Ob} (h : Mid w wx p v v' A' o) (u : Up wx wy) : Mid w wy p v v' A' o :=
  h.step (h.pt.up u) (u.chg.mono (by simp)) (fun b hb => .inl hb)
theorem Parts.cell {w : World} {p : Nat} {v : Nat → Value} {A : Ar} (h : Parts w p v A) (i : Nat) (hi : i < 4) : w.cell? ⟨p, i, none⟩ = some (v i) ∧ w.frozen? ⟨p, i, none⟩ = false := by
  refine ⟨?_, frozen_of_row w p i _ _ h.hd⟩
  rw [h.hd.cell i]
  rcases (by omega : i = 0 ∨ i = 1 ∨ i = 2 ∨ i = 3) with rfl | rfl | rfl | rfl <;> rfl
theorem zero16 : ∀ u ∈ ([.int .u32 0, .bool false, .int .u8 0, .int .i64 0, .bool false, .map none, .int .i64 0, .int .i64 0, .slice none 0 0, .int .u64 0, .int .u8 0, .int .i64 0, .string ⟨#[]⟩, .int .i64 0, .int .u64 0, .int .i64 0] : List Value), u.oneCell' = true := fun u hu => List.all_eq_true.1 (show List.all [.int .u32 0, .bool false, .int .u8 0, .int .i64 0, .bool false, .map none, .int .i64 0, .int .i64 0, .slice none 0 0, .int .u64 0, .int .u8 0, .int .i64 0, .string ⟨#[]⟩, .int .i64 0, .int .u64 0, .int .i64 0] (·.oneCell') = true from rfl) u hu
theorem Mid.app {w wq w5 W6 : World} {p : Nat} {v : Nat → Value} {A A' : Ar} {o : Ob} {v0 : Nat → Value} (M : Mid w wq p v0 v A o) (i : Nat) (hi : i < 4) (u6 : Up wq W6) {g n cap : Nat} {b : Value}
    (hv : v i = b) (hown : w5.ownsRow 0 (eT i) (eS i) (.slice (some ⟨g, 0, none⟩) n cap) (A'.len i) (A'.row i)) (hgrow : W6.grownBy w5 b.ownBlock) (hat : b.ownBlock = some g ∨ g = W6.heap.size) (hsame : ∀ j, j < 4 → j ≠ i → A'.len j = A.len j ∧ A'.row j = A.row j) :
    Mid w (w5.setCell ⟨p, i, none⟩ (.slice (some ⟨g, 0, none⟩) n cap)) p v0 (upd v i (.slice (some ⟨g, 0, none⟩) n cap)) A' o := by
  have M6 := M.up u6
  subst hv
  obtain ⟨h1, h2, h3⟩ := M6.pt.put i hi hgrow (.slice (some ⟨g, 0, none⟩) n cap) g rfl (by rcases hat with h | h; exact .inl h; exact .inr (by omega)) hown hsame
  exact M6.step h1 h2 h3
theorem ob_cells {w : World} {g k : Nat} {o : Ob} (h : ObAt w g k o) : w.cell? ⟨g, k, none⟩ = some (.int .u8 o.kind) ∧ w.cell? ⟨g, k + 1, none⟩ = some (.int .i64 o.owner) ∧ w.cell? ⟨g, k + 2, none⟩ = some (.bool o.frozen) ∧ w.cell? ⟨g, k + 3, none⟩ = some (.map o.fields) ∧
    w.cell? ⟨g, k + 4, none⟩ = some (.int .i64 o.module) ∧ w.cell? ⟨g, k + 5, none⟩ = some (.int .i64 o.func) ∧ w.cell? ⟨g, k + 6, none⟩ = some (.slice o.ha o.hn o.hc) ∧ w.cell? ⟨g, k + 7, none⟩ = some (.int .u64 o.brand) ∧ w.cell? ⟨g, k + 8, none⟩ = some (.int .u8 o.content.1) ∧
    w.cell? ⟨g, k + 9, none⟩ = some (.int .i64 o.content.2.1) ∧ w.cell? ⟨g, k + 10, none⟩ = some (.string o.content.2.2) ∧ w.cell? ⟨g, k + 11, none⟩ = some (.int .i64 o.membrane) ∧ w.cell? ⟨g, k + 12, none⟩ = some (.int .u64 o.target) ∧ w.cell? ⟨g, k + 13, none⟩ = some (.int .i64 o.deep) :=
  ⟨h 0 _ rfl, h 1 _ rfl, h 2 _ rfl, h 3 _ rfl, h 4 _ rfl, h 5 _ rfl, h 6 _ rfl, h 7 _ rfl, h 8 _ rfl, h 9 _ rfl, h 10 _ rfl, h 11 _ rfl, h 12 _ rfl, h 13 _ rfl⟩
theorem grown_refl (w : World) (r : Option Nat) : w.grownBy w r := ⟨rfl, rfl, rfl, Nat.le_refl _, fun _ _ _ => rfl⟩
theorem Mid.store {w wx w1 : World} {p : Nat} {v v2 : Nat → Value} {A A' : Ar} {o : Ob} (M : Mid w wx p v v2 A o) (i : Nat) (hi : i < 4) (hg : wx.grownBy w1 (v2 i).ownBlock) (hrow : w1.ownsRow 0 (eT i) (eS i) (v2 i) (A'.len i) (A'.row i))
    (hsame : ∀ j, j < 4 → j ≠ i → A'.len j = A.len j ∧ A'.row j = A.row j) : Mid w w1 p v v2 A' o := by
  obtain ⟨h1, h2⟩ := M.pt.store i hi hg hrow hsame
  exact M.step h1 h2 (fun b hb => .inl hb)
/-- Some cells of a slot, written. -/
theorem Mid.slot {w wx : World} {p : Nat} {v v2 : Nat → Value} {A : Ar} {o : Ob} (M : Mid w wx p v v2 A o) {g cap n : Nat} (hv : v2 0 = .slice (some ⟨g, 0, none⟩) A.slots.length cap) (s s' : Sl) (hs : A.slots[n]? = some s) (k : Nat) (vs : List Value) (hk : k + vs.length ≤ 16)
    (e : s'.cells = s.cells.take k ++ vs ++ s.cells.drop (k + vs.length)) : Mid w (wx.setCells g (n * 16 + k) vs) p v v2 { A with slots := A.slots.set n s' } o := by
  have ho := M.pt.ow 0 (by omega)
  rw [hv] at ho
  have hn : n < A.slots.length := (List.getElem?_eq_some_iff.1 hs).1
  obtain ⟨h1, h2⟩ := owns_setCells vs (n * 16 + k) wx _ ho (by show n * 16 + k + vs.length ≤ (A.slots.flatMap Sl.cells).length; rw [flat_len]; omega)
  refine M.store 0 (by omega) (by rw [hv]; exact h2) ?_ (fun j hj hne => by rcases (by omega : j = 1 ∨ j = 2 ∨ j = 3) with rfl | rfl | rfl <;> exact ⟨rfl, rfl⟩)
  rw [hv]
  show (wx.setCells g (n * 16 + k) vs).ownsRow 0 _ 16 _ (A.slots.set n s').length ((A.slots.set n s').flatMap Sl.cells)
  rw [List.length_set, ← flat_set A.slots n s s' k vs hs hk e]
  exact h1
theorem Mid.fill {w wx : World} {p : Nat} {v v2 : Nat → Value} {A : Ar} {o : Ob} {S : List Sl} {s' : Sl} {g cap n : Nat} (M : Mid w wx p v v2 { A with slots := S.set n s' } o) (hn : n < S.length) (hv : v2 0 = .slice (some ⟨g, 0, none⟩) S.length cap) (x : Ob) :
    Mid w ((wx.setCell ⟨g, n * 16 + 1, none⟩ (.bool true)).setCells g (n * 16 + 2) x.cells) p v v2 { A with slots := S.set n ⟨s'.uses, true, x⟩ } o := by
  have h1 := M.slot (g := g) (cap := cap) (by rw [hv]; simp) s' ⟨s'.uses, true, x⟩ (by show (S.set n s')[n]? = _; rw [List.getElem?_set_self hn]) 1 (.bool true :: x.cells) (by simp [Ob.cells]) rfl
  have e : ({ ({ A with slots := S.set n s' } : Ar) with slots := ({ A with slots := S.set n s' } : Ar).slots.set n ⟨s'.uses, true, x⟩ } : Ar) = { A with slots := S.set n ⟨s'.uses, true, x⟩ } := by
    show Ar.mk ((S.set n s').set n _) A.free A.quotas A.many = _
    rw [List.set_set]
  rw [e] at h1
  simp only [World.setCells, Nat.add_assoc, Nat.reduceAdd] at h1
  exact h1
theorem Mid.fill2 {w wx : World} {p : Nat} {v v2 : Nat → Value} {A : Ar} {o : Ob} {S : List Sl} {s' : Sl} {g cap n : Nat} (M : Mid w wx p v v2 { A with slots := S.set n s' } o) (hn : n < S.length) (hv : v2 0 = .slice (some ⟨g, 0, none⟩) S.length cap) (x : Ob) :
    Mid w ((wx.setCells g (n * 16 + 2) x.cells).setCell ⟨g, n * 16 + 1, none⟩ (.bool true)) p v v2 { A with slots := S.set n ⟨s'.uses, true, x⟩ } o := by
  have h1 := M.slot (g := g) (cap := cap) (by rw [hv]; simp) s' ⟨s'.uses, s'.used, x⟩ (by show (S.set n s')[n]? = _; rw [List.getElem?_set_self hn]) 2 x.cells (by simp [Ob.cells]) rfl
  have e : ({ ({ A with slots := S.set n s' } : Ar) with slots := ({ A with slots := S.set n s' } : Ar).slots.set n ⟨s'.uses, s'.used, x⟩ } : Ar) = { A with slots := S.set n ⟨s'.uses, s'.used, x⟩ } := by
    show Ar.mk ((S.set n s').set n _) A.free A.quotas A.many = _
    rw [List.set_set]
  rw [e] at h1
  have h2 := h1.slot (g := g) (cap := cap) (by rw [hv]; simp) ⟨s'.uses, s'.used, x⟩ ⟨s'.uses, true, x⟩ (by show (S.set n _)[n]? = _; rw [List.getElem?_set_self hn]) 1 [.bool true] (by simp) rfl
  have e2 : ({ ({ A with slots := S.set n ⟨s'.uses, s'.used, x⟩ } : Ar) with slots := ({ A with slots := S.set n ⟨s'.uses, s'.used, x⟩ } : Ar).slots.set n ⟨s'.uses, true, x⟩ } : Ar) = { A with slots := S.set n ⟨s'.uses, true, x⟩ } := by
    show Ar.mk ((S.set n _).set n _) A.free A.quotas A.many = _
    rw [List.set_set]
  rw [e2] at h2
  simp only [World.setCells] at h2
  exact h2
theorem grow_ok (A : Ar) (h : ∀ n ∈ A.free, n < A.slots.length) : A.grow.free ≠ [] ∧ A.top < A.grow.slots.length := by
  have e : ∀ n ∈ A.grow.free, n < A.grow.slots.length := by
    unfold Ar.grow
    split
    · intro n hn; simp at hn; subst hn; simp
    · exact h
  have hne : A.grow.free ≠ [] := by
    unfold Ar.grow
    split
    · simp
    · assumption
  refine ⟨hne, e _ ?_⟩
  unfold Ar.top
  rw [List.getLastD_eq_getLast?]
  cases hl : A.grow.free.getLast? with
  | none => exact absurd (List.getLast?_eq_none_iff.1 hl) hne
  | some x => exact List.mem_of_getLast? hl
theorem grow_q (A : Ar) : A.grow.quotas = A.quotas ∧ A.grow.many = A.many := by unfold Ar.grow; split <;> exact ⟨rfl, rfl⟩
theorem grow_len (A : Ar) : A.grow.slots.length ≤ A.slots.length + 1 := by unfold Ar.grow; split <;> simp
theorem grow_fn (A : Ar) (h : A.free.length < 1000000) : A.grow.free.length < 1000000 := by
  unfold Ar.grow
  split
  · simp
  · exact h
theorem grow_uses (A : Ar) (h : ∀ s ∈ A.slots, s.uses < 1000000) : ∀ s ∈ A.grow.slots, s.uses < 1000000 := by
  unfold Ar.grow
  split
  · intro s hs; simp at hs; rcases hs with hs | rfl; exact h s hs; decide
  · exact h
end Go.Proofs.YtmmfpkkkpeapeaaGreatDoor.ar

/- What an arena holds behind Put: plain laws. -/
set_option linter.unusedVariables false
namespace Go.Proofs.YtmmfpkkkpeapeaaGreatDoor.ar
set_option maxHeartbeats 400000
/-- There is room for k objects more; what is free is unused. -/
structure Room (A : Ar) (k : Nat) : Prop where
  sl : A.slots.length + k < 1000000
  us : ∀ s ∈ A.slots, s.uses + k < 1000000
  fr : ∀ n ∈ A.free, ∃ s, A.slots[n]? = some s ∧ s.used = false
  nd : A.free.Nodup
  fl : A.free.length + k < 1000000
/-- Behind grow: what there was stands, the free end is there and unused. -/
theorem Room.grown {A : Ar} {k : Nat} (h : Room A (k + 1)) :
    (∀ (n : Nat) s, A.slots[n]? = some s → A.grow.slots[n]? = some s) ∧ (∃ s, A.grow.slots[A.top]? = some s ∧ s.used = false) ∧
    (∀ n ∈ A.grow.free, ∃ s, A.grow.slots[n]? = some s ∧ s.used = false) ∧ A.grow.free.Nodup ∧ A.grow.slots.length ≤ A.slots.length + 1 ∧
    (∀ s ∈ A.grow.slots, s.uses + k + 1 < 1000000) ∧ A.grow.free ≠ [] ∧ A.grow.free.length ≤ A.free.length + 1 := by
  have hsl := h.sl
  unfold Ar.top
  by_cases hf : A.free = []
  · have e : A.grow = { A with slots := A.slots ++ [sl0], free := [A.slots.length] } := by unfold Ar.grow; rw [if_pos hf]
    rw [e]
    refine ⟨fun n s hs => ?_, ⟨sl0, by simp, rfl⟩, fun n hn => ?_, by simp, by simp, fun s hs => ?_, by simp, by simp⟩
    · rw [List.getElem?_append_left (List.getElem?_eq_some_iff.1 hs).1]; exact hs
    · have : n = A.slots.length := by simpa using hn
      subst this
      exact ⟨sl0, by simp, rfl⟩
    · rcases List.mem_append.1 hs with h1 | h1
      · have := h.us s h1; omega
      · have : s = sl0 := by simpa using h1
        subst this
        show 0 + k + 1 < 1000000
        omega
  · have e : A.grow = A := by unfold Ar.grow; rw [if_neg hf]
    rw [e]
    have hm : A.free.getLastD 0 ∈ A.free := by
      rw [List.getLastD_eq_getLast?, List.getLast?_eq_some_getLast hf]
      exact List.getLast_mem hf
    exact ⟨fun n s hs => hs, h.fr _ hm, h.fr, h.nd, by omega, fun s hs => by have := h.us s hs; omega, hf, by omega⟩
theorem top_mem {A : Ar} {k : Nat} (h : Room A (k + 1)) : A.grow.free.dropLast ++ [A.top] = A.grow.free := by
  obtain ⟨-, -, -, -, -, -, hne, -⟩ := h.grown
  have e : A.top = A.grow.free.getLast hne := by
    unfold Ar.top
    rw [List.getLastD_eq_getLast?, List.getLast?_eq_some_getLast hne]; rfl
  rw [e]
  exact List.dropLast_concat_getLast hne
theorem top_not {A : Ar} {k : Nat} (h : Room A (k + 1)) : ∀ n ∈ A.grow.free.dropLast, n ≠ A.top := by
  have hm := top_mem h
  obtain ⟨-, -, -, hnd, -⟩ := h.grown
  rw [← hm] at hnd
  intro n hn he
  subst he
  exact (List.nodup_append.1 hnd).2.2 _ hn _ (by simp) rfl
theorem Room.add {A : Ar} {k : Nat} (h : Room A (k + 1)) (o : Ob) : Room (A.add o) k := by
  obtain ⟨g1, ⟨st, hst, hst2⟩, g3, g4, g5, g6, g7, g8⟩ := h.grown
  have hsl := h.sl
  have hfl := h.fl
  have hold : A.old = st.uses := by unfold Ar.old; rw [List.getD_eq_getElem?_getD, hst]; rfl
  refine ⟨?_, fun s hs => ?_, fun n hn => ?_, ?_, ?_⟩
  · show (A.grow.slots.set _ _).length + k < _
    rw [List.length_set]; omega
  · have hs' : s ∈ A.grow.slots.set A.top ⟨A.old + 1, true, o⟩ := hs
    rcases List.mem_or_eq_of_mem_set hs' with h1 | h1
    · have := g6 s h1; omega
    · subst h1
      have := g6 st (List.mem_of_getElem? hst)
      show A.old + 1 + k < _
      omega
  · have hn' : n ∈ A.grow.free.dropLast := hn
    obtain ⟨s, hs, hu⟩ := g3 n (List.dropLast_subset _ hn')
    refine ⟨s, ?_, hu⟩
    show (A.grow.slots.set _ _)[n]? = _
    rw [List.getElem?_set_ne (fun e => top_not h n hn' e.symm)]
    exact hs
  · show A.grow.free.dropLast.Nodup
    exact List.Sublist.nodup (List.dropLast_sublist _) g4
  · show A.grow.free.dropLast.length + k < _
    rw [List.length_dropLast]; omega
theorem find_add_old {A : Ar} {k : Nat} (h : Room A (k + 1)) (o : Ob) {r : Nat} {x : Ob} (hf : A.find r = some x) : (A.add o).find r = some x := by
  obtain ⟨g1, ⟨st, hst, hst2⟩, -⟩ := h.grown
  unfold Ar.find at hf
  split at hf
  · rename_i s hs
    split at hf
    · rename_i hu
      have hs' := g1 _ _ hs
      have hne : A.top ≠ r % 4294967296 := by
        intro e
        rw [e, hs'] at hst
        cases hst
        rw [hu.1] at hst2
        cases hst2
      unfold Ar.find
      have e2 : (A.add o).slots[r % 4294967296]? = some s := by
        show (A.grow.slots.set _ _)[_]? = _
        rw [List.getElem?_set_ne hne]; exact hs'
      rw [e2]
      simp only [if_pos hu]
      exact hf
    · cases hf
  · cases hf
theorem top_lt {A : Ar} {k : Nat} (h : Room A (k + 1)) : A.top < 1000000 ∧ A.old < 1000000 := by
  obtain ⟨g1, ⟨st, hst, hst2⟩, -, -, g5, g6, -, -⟩ := h.grown
  have h1 := (List.getElem?_eq_some_iff.1 hst).1
  have h2 := g6 st (List.mem_of_getElem? hst)
  have hold : A.old = st.uses := by unfold Ar.old; rw [List.getD_eq_getElem?_getD, hst]; rfl
  have := h.sl
  omega
theorem name_lt {A : Ar} {k : Nat} (h : Room A (k + 1)) : A.name < 9223372036854775808 := by
  have := top_lt h
  unfold Ar.name
  omega
theorem name_mod {A : Ar} {k : Nat} (h : Room A (k + 1)) : A.name % 4294967296 = A.top ∧ A.name / 4294967296 = A.old + 1 := by
  have := top_lt h
  unfold Ar.name
  omega
theorem find_add_new {A : Ar} {k : Nat} (h : Room A (k + 1)) (o : Ob) : (A.add o).find A.name = some o := by
  obtain ⟨g1, ⟨st, hst, hst2⟩, -⟩ := h.grown
  obtain ⟨e1, e2⟩ := name_mod h
  unfold Ar.find
  rw [e1, e2]
  have e3 : (A.add o).slots[A.top]? = some ⟨A.old + 1, true, o⟩ := by
    show (A.grow.slots.set _ _)[_]? = _
    rw [List.getElem?_set_self (List.getElem?_eq_some_iff.1 hst).1]
  rw [e3]
  simp
/-- Another name than the new one's. -/
theorem name_ne {A : Ar} {k : Nat} (h : Room A (k + 1)) {r : Nat} {x : Ob} (hf : A.find r = some x) : r ≠ A.name := by
  rintro rfl
  obtain ⟨g1, ⟨st, hst, hst2⟩, -⟩ := h.grown
  obtain ⟨e1, e2⟩ := name_mod h
  unfold Ar.find at hf
  rw [e1, e2] at hf
  split at hf
  · rename_i s hs
    have := g1 _ _ hs
    rw [hst] at this
    cases this
    simp [hst2] at hf
  · cases hf
end Go.Proofs.YtmmfpkkkpeapeaaGreatDoor.ar

/- The arena's Put, where there is room. -/
set_option linter.unusedVariables false
set_option linter.unusedSimpArgs false
namespace Go.Proofs.YtmmfpkkkpeapeaaGreatDoor.ar
open Go.RowKit Go.Maps mem rec
attribute [local go_sem ↓] Go.wp_at_zero Go.wp_at_succ
set_option maxRecDepth 100000
set_option maxHeartbeats 2000000
theorem put_room (w : World) (p : Nat) (v : Nat → Value) (A : Ar) (o : Ob) (h : Parts w p v A) (n : Nat) (q m : Int) (hn : o.owner = n) (hq : A.quotas[n]? = some q) (hm : A.many[n]? = some m) (hlt : m < q) (hq1 : q ≤ 1000000) (hm0 : 0 ≤ m)
    (hs : A.slots.length < 1000000) (hu : ∀ s ∈ A.slots, s.uses < 1000000) (hfl : ∀ n ∈ A.free, n < A.slots.length) (hfn : A.free.length < 1000000) :
    Calls Tryz.prog 27 #[.pointer (some ⟨p, 0, none⟩), .agg o.cells.toArray] w fun e w' => ∃ v', e = .returned (.tuple #[.int .u64 A.name, .int .i64 0]) ∧ Parts w' p v' (A.add o) ∧ Chg (foot p v) w w' ∧ ∀ b ∈ foot p v', b ∈ foot p v ∨ w.heap.size ≤ b := by
  have hlq : n < A.quotas.length := (List.getElem?_eq_some_iff.1 hq).1
  have hlm : n < A.many.length := (List.getElem?_eq_some_iff.1 hm).1
  have hhas : A.has n = true := by simp [Ar.has]; omega
  obtain ⟨d2, -⟩ := h.cell 2 (by omega)
  obtain ⟨d3, -⟩ := h.cell 3 (by omega)
  obtain ⟨d1, -⟩ := h.cell 1 (by omega)
  obtain ⟨g2, cap2, hv2, -, l2⟩ := (h.ow 2 (by omega)).form (show 0 < A.len 2 by show 0 < A.quotas.length; omega)
  obtain ⟨g3, cap3, hv3, -, l3⟩ := (h.ow 3 (by omega)).form (show 0 < A.len 3 by show 0 < A.many.length; omega)
  obtain ⟨a1, cap1, hv1, -, -, -⟩ := shape (h.ow 1 (by omega))
  have hv2' : v 2 = .slice (some ⟨g2, 0, none⟩) A.quotas.length cap2 := hv2
  have hv3' : v 3 = .slice (some ⟨g3, 0, none⟩) A.many.length cap3 := hv3
  have hv1' : v 1 = .slice a1 A.free.length cap1 := hv1
  have o2 := h.ow 2 (by omega)
  have o3 := h.ow 3 (by omega)
  rw [hv2'] at o2 d2
  rw [hv3'] at o3 d3
  rw [hv1'] at d1
  have e2 : w.cell? ⟨g2, n, none⟩ = some (.int .i64 q) := by
    have := World.ownsRow.cellAt o2 n (show n < A.quotas.length * 1 by omega)
    rw [this]; show (A.quotas.map _)[n]? = _; simp [hq]
  have e3 : w.cell? ⟨g3, n, none⟩ = some (.int .i64 m) := by
    have := World.ownsRow.cellAt o3 n (show n < A.many.length * 1 by omega)
    rw [this]; show (A.many.map _)[n]? = _; simp [hm]
  have hpl := h.hd.lt
  have HP := Lib.hid (And.intro h hhas)
  have HQ := Lib.hid (And.intro hq (And.intro hm (And.intro hlq (And.intro hlm (And.intro hu hfl)))))
  have H1 := Lib.hid hv1'
  clear h hhas hv2 hv3 hv2' hv3' hv1 o2 o3 hq hm hu hfl hv1'
  obtain ⟨kind, owner, frozen, fields, module, func, ha, hn', hc, brand, content, membrane, target, deep⟩ := o
  obtain ⟨k1, k2, k3⟩ := content
  simp only at hn
  subst hn
  have M0 : Mid w (w.alloc (.cells #[.int .u8 kind, .int .i64 n, .bool frozen, .map fields, .int .i64 module, .int .i64 func, .slice ha hn' hc, .int .u64 brand, .int .u8 k1, .int .i64 k2, .string k3, .int .i64 membrane, .int .u64 target, .int .i64 deep] 66)) p v v A ⟨kind, n, frozen, fields, module, func, ha, hn', hc, brand, (k1, k2, k3), membrane, target, deep⟩ :=
    ⟨HP.out.1.up ((Up.refl w).alloc _), (Chg.refl _ w).alloc _, fun b hb => .inl hb, fun j u hj => by
      rw [show (⟨w.heap.size, 0 + j, none⟩ : Addr) = ⟨w.heap.size, j, none⟩ by simp, World.cell?_alloc_at _ _ _ _ rfl]
      simpa [Ob.cells] using hj, by simp, fun b hb => HP.out.1.lt b hb⟩
  have M0 := Lib.hid M0
  simp only [Ob.cells]
  generalize A.quotas.length = lq at *
  generalize A.many.length = lm at *
  have i0 : (0 : Int) ≤ (n : Int) := by omega
  have i1 : (n : Int) < (lq : Int) := by omega
  have i2 : (n : Int) < (lm : Int) := by omega
  have hne : ¬ q ≤ m := by omega
  go_enter Tryz.func27, Tryz.ntmps27
  go_wp2_with fail
  refine (has_x _ p _ v A (HP.out.1.up ((Up.refl w).alloc _))).mono ?_
  rintro e w1 ⟨rfl, rfl⟩
  rw [HP.out.2]
  go_wp2_with fail
  go_cut [29] from 13 to 28 (fun c wx => c = .bool (decide (q ≤ m)) ∧ Mid w wx p v v A ⟨kind, n, frozen, fields, module, func, ha, hn', hc, brand, (k1, k2, k3), membrane, target, deep⟩)
  case first =>
    go_quiet (fail)
    go_wp2_with fail
    go_meet
    exact ⟨rfl, M0.out.up (up_drewN (Up.refl _) _)⟩
  obtain ⟨rfl, hM⟩ := hcut
  have M1 := Lib.hid hM
  clear M0
  clear hM d1 d2 d3 e2 e3
  obtain ⟨wq, rfl⟩ : ∃ wq : World, wq = wc := ⟨_, rfl⟩
  obtain ⟨d1, -⟩ := M1.out.pt.cell 1 (by omega)
  rw [H1.out] at d1
  go_upto_if 35 with (fail)
  go_cut [] from 34 to 60 (fun wx => ∃ v', Mid w wx p v v' A.grow ⟨kind, n, frozen, fields, module, func, ha, hn', hc, brand, (k1, k2, k3), membrane, target, deep⟩)
  case first =>
    by_cases hf : A.free = []
    · have hb : ((A.free.length : Int) == 0) = true := by simp [hf]
      obtain ⟨-, f1⟩ := M1.out.pt.cell 1 (by omega)
      obtain ⟨d0, -⟩ := M1.out.pt.cell 0 (by omega)
      obtain ⟨a0, cap0, hv0, -, -, -⟩ := shape (M1.out.pt.ow 0 (by omega))
      have hv0' : v 0 = .slice a0 A.slots.length cap0 := hv0
      have E : Hid (A.grow = { A with slots := A.slots ++ [sl0], free := [A.slots.length] }) := by show A.grow = _; unfold Ar.grow; rw [if_pos hf]
      have hfl0 : A.free.length = 0 := by simp [hf]
      have HF := Lib.hid hf
      have H0 := Lib.hid hv0'
      rw [hv0'] at d0
      have hown : wq.ownsRow 0 115 1 (.slice a1 0 cap1) 0 [] := by
        have := M1.out.pt.ow 1 (by omega)
        rw [H1.out] at this
        simpa [Ar.len, Ar.row, hf, eT, eS] using this
      have HO := Lib.hid hown
      rw [hfl0] at d1
      have HPP : Hid (some p ≠ (Value.slice a1 0 cap1).ownBlock) := by
        have := M1.out.pt.pp 1 (by omega)
        rw [H1.out, hfl0] at this
        exact fun e => this e.symm
      have hpq : p < wq.heap.size := M1.out.pt.hd.lt
      clear hf hv0 hv0' hown hlt hq1 hm0 l2 l3 hlq hlm i0 i1 i2 hne
      generalize hls : A.slots.length = ls at *
      have HLS := Lib.hid hls
      clear hls
      obtain ⟨iu, hi, hz0, hz1, hz2⟩ := info_parts infoU32
      have HI := Lib.hid (And.intro hi (And.intro hz0 (And.intro hz1 hz2)))
      clear hi hz0 hz1 hz2 hfl0
      have hwr : IntKind.u32.wrap (ls : Int) = (ls : Int) := by rw [IntKind.wrap_u32]; omega
      go_wp2_with fail
      go_cut [] from 34 to 50 (fun wx => ∃ v', v' 0 = v 0 ∧ Mid w wx p v v' { A with free := [ls] } ⟨kind, n, frozen, fields, module, func, ha, hn', hc, brand, (k1, k2, k3), membrane, target, deep⟩)
      case first =>
        go_region_law
          ((refine step_append_lies _ (by rfl) (.tmp 40) (.tmp 47) 118 (by rfl) 0 115 iu (.int .u32 0) 1 4 Tryz.underlying118 HI.out.1 HI.out.2.1 HI.out.2.2.1 HI.out.2.2.2 (by rfl) (by decide) (.slice a1 0 cap1) 0 [] (by rfl) (by first | exact HO.out.drew.alloc _ | exact (HO.out.alloc _).drew) ⟨wq.heap.size, 0, none⟩ 1 1 [.int .u32 (ls : Int)] (by rfl) (by rfl) (World.news_of_block (cs := #[.int .u32 (ls : Int)]) (t := 115) (fr := (0, 0)) (by exact heap_alloc_new wq _)) (by intro u hu; simp at hu; subst hu; rfl) (by decide) (by unfold maxLen; omega) (by omega) (by omega) (wq.heap.size + 1) (by simp) ?_; intro g cap w5 hown5 hgrow5 hat5 hlt5; have y1 : w5.cell? ⟨p, 1, none⟩ = some (.slice a1 0 cap1) := (by refine (hgrow5.cell_far _ (by simp; omega) HPP.out).trans ?_; go_simp); have y2 : w5.frozen? ⟨p, 1, none⟩ = false := (by refine (hgrow5.frozen_far _ (by simp; omega) HPP.out).trans ?_; go_simp)))
        all_goals
          go_wp2_with fail
          go_meet
          exact ⟨_, upd_other v _ (by decide), M1.out.app (A' := { A with free := [ls] }) 1 (by omega) ((Up.refl wq).alloc _).drew (by rw [H1.out, HF.out]; rfl) hown5 hgrow5 (by simpa using hat5) (fun j hj hne => by rcases (by omega : j = 0 ∨ j = 2 ∨ j = 3) with rfl | rfl | rfl <;> exact ⟨rfl, rfl⟩)⟩
      case rest =>
        obtain ⟨v2, hv2, hM2⟩ := hcut
        have M2 := Lib.hid hM2
        have H2 := Lib.hid (hv2.trans H0.out)
        clear hM2 hv2 d0 d1 f1 hpq
        obtain ⟨d0, f0⟩ := M2.out.pt.cell 0 (by omega)
        rw [H2.out] at d0
        have HO2 : Hid (wc.ownsRow 0 122 16 (.slice a0 ls cap0) ls (A.slots.flatMap Sl.cells)) := by
          have := M2.out.pt.ow 0 (by omega)
          rw [H2.out] at this
          show wc.ownsRow 0 122 16 (.slice a0 ls cap0) ls (A.slots.flatMap Sl.cells)
          rw [← HLS.out]
          rw [← HLS.out] at this
          exact this
        have HPP2 : Hid (some p ≠ (Value.slice a0 ls cap0).ownBlock) := by
          have := M2.out.pt.pp 0 (by omega)
          rw [H2.out] at this
          exact fun e => this e.symm
        have hpq : p < wc.heap.size := M2.out.pt.hd.lt
        obtain ⟨is, hi, hz0, hz1, hz2⟩ := info_parts infoSlot
        have HJ := Lib.hid (And.intro hi (And.intro hz0 (And.intro hz1 hz2)))
        clear hi hz0 hz1 hz2
        go_wp2_with (at_builtin; refine wpList_append_lies _ rfl (.tmp 55) (.tmp 57) 117 rfl 0 122 is (.agg #[.int .u32 0, .bool false, .int .u8 0, .int .i64 0, .bool false, .map none, .int .i64 0, .int .i64 0, .slice none 0 0, .int .u64 0, .int .u8 0, .int .i64 0, .string ⟨#[]⟩, .int .i64 0, .int .u64 0, .int .i64 0]) 16 144 Tryz.underlying117 HJ.out.1 HJ.out.2.1 HJ.out.2.2.1 HJ.out.2.2.2 rfl (by decide) (.slice a0 ls cap0) ls _ rfl (HO2.out.alloc _) ⟨wc.heap.size, 0, none⟩ 1 1 [.int .u32 0, .bool false, .int .u8 0, .int .i64 0, .bool false, .map none, .int .i64 0, .int .i64 0, .slice none 0 0, .int .u64 0, .int .u8 0, .int .i64 0, .string ⟨#[]⟩, .int .i64 0, .int .u64 0, .int .i64 0] rfl rfl (World.news_of_block (cs := #[.int .u32 0, .bool false, .int .u8 0, .int .i64 0, .bool false, .map none, .int .i64 0, .int .i64 0, .slice none 0 0, .int .u64 0, .int .u8 0, .int .i64 0, .string ⟨#[]⟩, .int .i64 0, .int .u64 0, .int .i64 0]) (t := 122) (fr := (0, 0)) (by exact heap_alloc_new wc _)) zero16 (by decide) (by unfold maxLen; omega) (by omega) (by omega) (wc.heap.size + 1) (by simp) ?_; intro g cap w5 hown5 hgrow5 hat5 hlt5; have y1 : w5.cell? ⟨p, 0, none⟩ = some (.slice a0 ls cap0) := (by refine (hgrow5.cell_far _ (by simp; omega) HPP2.out).trans ?_; go_simp); have y2 : w5.frozen? ⟨p, 0, none⟩ = false := (by refine (hgrow5.frozen_far _ (by simp; omega) HPP2.out).trans ?_; go_simp))
        go_meet
        rw [E.out]
        have e1 : (A.slots ++ [sl0]).length = ls + 1 := by rw [List.length_append, HLS.out]; rfl
        have e2 : (A.slots ++ [sl0]).flatMap Sl.cells = A.slots.flatMap Sl.cells ++ sl0.cells := by rw [List.flatMap_append]; simp
        exact ⟨_, M2.out.app (A' := { A with slots := A.slots ++ [sl0], free := [ls] }) 0 (by omega) ((Up.refl wc).alloc _) H2.out (by show w5.ownsRow 0 _ 16 _ (A.slots ++ [sl0]).length ((A.slots ++ [sl0]).flatMap Sl.cells); rw [e1, e2]; exact hown5) hgrow5 (by simpa using hat5) (fun j hj hne => by rcases (by omega : j = 1 ∨ j = 2 ∨ j = 3) with rfl | rfl | rfl <;> exact ⟨rfl, rfl⟩)⟩
    · have hb : ((A.free.length : Int) == 0) = false := by simp [hf]
      have E : Hid (A.grow = A) := by show A.grow = A; unfold Ar.grow; rw [if_neg hf]
      clear hf
      go_wp2_with fail
      go_meet
      rw [E.out]
      exact ⟨v, M1.out⟩
  case rest =>
    obtain ⟨v1, hM⟩ := hcut
    obtain ⟨hgf, hgt⟩ := grow_ok A HQ.out.2.2.2.2.2
    have hgq := grow_q A
    obtain ⟨s, hs1⟩ : ∃ s, A.grow.slots[A.top]? = some s := ⟨_, List.getElem?_eq_getElem hgt⟩
    have hold : A.old = s.uses := by unfold Ar.old; rw [List.getD_eq_getElem?_getD, hs1]; rfl
    have hsu : s.uses < 1000000 := grow_uses A HQ.out.2.2.2.2.1 s (List.mem_of_getElem? hs1)
    have hgl : A.grow.slots.length ≤ 1000000 := by have := grow_len A; omega
    have M3 := Lib.hid hM
    have H4 := Lib.hid (And.intro hgf (And.intro hgt (And.intro hs1 (And.intro hold hgq))))
    obtain ⟨k, hk⟩ : ∃ k, A.grow.free.length = k + 1 := ⟨A.grow.free.length - 1, by have := List.length_pos_iff.2 hgf; omega⟩
    obtain ⟨d1, f1⟩ := hM.pt.cell 1 (by omega)
    obtain ⟨g1, cap2', hv1, -, lg1⟩ := (hM.pt.ow 1 (by omega)).form (show 0 < A.grow.len 1 by show 0 < A.grow.free.length; omega)
    have hv1' : v1 1 = .slice (some ⟨g1, 0, none⟩) (k + 1) cap2' := by rw [hv1]; show Value.slice _ A.grow.free.length _ = _; rw [hk]
    have htp : wc.cell? ⟨g1, k, none⟩ = some (.int .u32 (A.top : Int)) := by
      have o1 := hM.pt.ow 1 (by omega)
      rw [hv1] at o1
      have := World.ownsRow.cellAt o1 k (show k < A.grow.free.length * 1 by omega)
      rw [this]
      show (A.grow.free.map _)[k]? = _
      rw [List.getElem?_map, show k = A.grow.free.length - 1 by omega, ← List.getLast?_eq_getElem?]
      unfold Ar.top
      rw [List.getLastD_eq_getLast?]
      cases hl : A.grow.free.getLast? with
      | none => exact absurd (List.getLast?_eq_none_iff.1 hl) hgf
      | some x => rfl
    have hcap : k + 1 ≤ cap2' := by
      obtain ⟨a, c, h1, h2, -, -⟩ := shape (hM.pt.ow 1 (by omega))
      rw [hv1'] at h1
      simp only [Value.slice.injEq] at h1
      have : A.grow.len 1 = k + 1 := hk
      omega
    rw [hv1'] at d1
    have H5 := Lib.hid (And.intro hv1' hk)
    have hpc : p < wc.heap.size := hM.pt.hd.lt
    clear hM hgf hgt hs1 hold hgq hv1 hv1' hk
    generalize htop : A.top = top at *
    have H6 := Lib.hid htop
    clear htop
    have htl : top < 1000000 := by have := H4.out.2.1; omega
    have hkl : k < 1000000 := by have := grow_fn A hfn; have := H5.out.2; omega
    have k0 : (0 : Int) ≤ (k : Int) := by omega
    have k1' : (k : Int) < (k : Int) + 1 := by omega
    have k2' : IntKind.i64.wrap (k : Int) = k := IntWalk.i64_in _ (by omega)
    have k3' : IntKind.i64.wrap ((k : Int) + 1 - 1) = k := by rw [show (k : Int) + 1 - 1 = k by omega]; exact k2'
    go_wp2_with fail
    go_quiet (fail)
    have M4 := Lib.hid (M3.out.up (up_drewN (Up.refl wc) nq))
    go_wp2_with fail
    go_cut [] from 73 to 86 (fun wx => Mid w wx p v (upd v1 1 (.slice (some ⟨g1, 0, none⟩) k cap2')) { A.grow with free := A.grow.free.dropLast } ⟨kind, n, frozen, fields, module, func, ha, hn', hc, brand, (k1, k2, k3), membrane, target, deep⟩)
    case first =>
      go_region
      all_goals
        go_wp2_with fail
        go_meet
        refine M4.out.app (A' := { A.grow with free := A.grow.free.dropLast }) 1 (by omega) (Up.refl _).drew H5.out.1 ?_ (grown_refl _ _) (.inl rfl) (fun j hj hne => by rcases (by omega : j = 0 ∨ j = 2 ∨ j = 3) with rfl | rfl | rfl <;> exact ⟨rfl, rfl⟩)
        have o1 := (M4.out.up (Up.refl (wc.drewN nq)).drew).pt.ow 1 (by omega)
        rw [H5.out.1] at o1
        have e1 : A.grow.free.dropLast.length = k := by rw [List.length_dropLast, H5.out.2]; rfl
        have e2 : A.grow.free.dropLast.map (fun n : Nat => Value.int .u32 (n : Int)) = (A.grow.free.map (fun n : Nat => Value.int .u32 (n : Int))).take (k * 1) := by
          rw [List.dropLast_eq_take, H5.out.2, List.map_take]; simp
        show World.ownsRow _ 0 _ 1 _ A.grow.free.dropLast.length (A.grow.free.dropLast.map (fun n : Nat => Value.int .u32 (n : Int)))
        rw [e1, e2]
        have o1' : ((wc.drewN nq).drew).ownsRow 0 115 1 (.slice (some ⟨g1, 0, none⟩) (k + 1) cap2') (k + 1) (A.grow.free.map (fun n : Nat => Value.int .u32 (n : Int))) := by
          have := o1
          rw [show A.grow.len 1 = k + 1 from H5.out.2] at this
          exact this
        exact owns_cut o1' (Nat.le_succ k)
    case rest =>
      have M5 := Lib.hid hcut
      clear hcut d1 f1 htp
      obtain ⟨s0, hs0⟩ : ∃ s0, s0 = s := ⟨_, rfl⟩
      have hs2 : ({ A.grow with free := A.grow.free.dropLast } : Ar).slots[top]? = some s := H4.out.2.2.1
      obtain ⟨g0, cap0, hv0, hog0, c0, c1, hob⟩ := M5.out.pt.obAt hs2
      have hv0' : upd v1 1 (.slice (some ⟨g1, 0, none⟩) k cap2') 0 = .slice (some ⟨g0, 0, none⟩) A.grow.slots.length cap0 := hv0
      have hw0 : wc.cell? ⟨p, 0, none⟩ = some (.slice (some ⟨g0, 0, none⟩) A.grow.slots.length cap0) := by rw [← hv0']; exact (M5.out.pt.cell 0 (by omega)).1
      have hf0 : wc.frozen? ⟨g0, top * 16, none⟩ = false ∧ wc.frozen? ⟨g0, top * 16 + 1, none⟩ = false := by
        have o0 := M5.out.pt.ow 0 (by omega)
        rw [hv0'] at o0
        exact ⟨World.ownsRow.frozenAt o0 _, World.ownsRow.frozenAt o0 _⟩
      obtain ⟨hf0, hf1⟩ := hf0
      have H7 := Lib.hid (And.intro hv0' (And.intro hog0 (And.intro hob hs2)))
      have H8 := Lib.hid hs0
      have hlt0 : top < A.grow.slots.length := H4.out.2.1
      clear hv0 hv0' hog0 hob hs2 hs0
      generalize hL : A.grow.slots.length = L at *
      have HL := Lib.hid hL
      clear hL
      have t0 : (0 : Int) ≤ (top : Int) := by omega
      have t1 : (top : Int) < (L : Int) := by omega
      go_upto_region 11 with (fail)
      have hus : (s.uses : Int) < 1000000 := by omega
      go_cut [] from 93 to 99 (fun wx => Mid w wx p v (upd v1 1 (.slice (some ⟨g1, 0, none⟩) k cap2')) { A.grow with free := A.grow.free.dropLast, slots := A.grow.slots.set top ⟨s.uses + 1, s.used, s.o⟩ } ⟨kind, n, frozen, fields, module, func, ha, hn', hc, brand, (k1, k2, k3), membrane, target, deep⟩)
      case first =>
        go_wp2_with fail
        go_meet
        have := M5.out.slot (by rw [H7.out.1, ← HL.out]) s ⟨s.uses + 1, s.used, s.o⟩ H7.out.2.2.2 0 [.int .u32 ((s.uses + 1 : Nat) : Int)] (by simp) rfl
        simpa [World.setCells] using this
      case rest =>
        have M6 := Lib.hid hcut
        clear hcut hw0 hf0 hf1 c0 c1
        obtain ⟨z0, z1, z2, z3, z4, z5, z6, z7, z8, z9, z10, z11, z12, z13⟩ := ob_cells M6.out.bx
        simp only [Nat.zero_add] at z0 z1 z2 z3 z4 z5 z6 z7 z8 z9 z10 z11 z12 z13
        have hs3 : ({ A.grow with free := A.grow.free.dropLast, slots := A.grow.slots.set top ⟨s.uses + 1, s.used, s.o⟩ } : Ar).slots[top]? = some ⟨s.uses + 1, s.used, s.o⟩ := by
          show (A.grow.slots.set top _)[top]? = _
          rw [List.getElem?_set_self (by rw [HL.out]; exact hlt0)]
        obtain ⟨g0', cap0', hv0, hog0, c0, c1, hob⟩ := M6.out.pt.obAt hs3
        obtain ⟨rfl, rfl⟩ : g0 = g0' ∧ cap0 = cap0' := by
          have := H7.out.1.symm.trans hv0
          simp at this
          exact ⟨this.1, this.2.2⟩
        have HS3 := Lib.hid hs3
        have hz : ∀ j, wc.frozen? ⟨g0, j, none⟩ = false := fun j => by
          have o0 := M6.out.pt.ow 0 (by omega)
          rw [hv0] at o0
          exact World.ownsRow.frozenAt o0 _
        have hg1 : ¬ w.heap.size = g0 := fun e => M6.out.bn (by rw [e]; exact foot_i (i := 0) (by omega) hog0)
        have hg2 : ¬ g0 = w.heap.size := fun e => hg1 e.symm
        obtain ⟨y2, y3, y4, y5, y6, y7, y8, y9, y10, y11, y12, y13, y14, y15⟩ := ob_cells hob
        clear hob hog0 hv0 hs3
        go_upto_region 12 with (fail)
        go_cut [] from 100 to 106 (fun wx => Mid w wx p v (upd v1 1 (.slice (some ⟨g1, 0, none⟩) k cap2')) { A.grow with free := A.grow.free.dropLast, slots := A.grow.slots.set top ⟨s.uses + 1, true, ⟨kind, n, frozen, fields, module, func, ha, hn', hc, brand, (k1, k2, k3), membrane, target, deep⟩⟩ } ⟨kind, n, frozen, fields, module, func, ha, hn', hc, brand, (k1, k2, k3), membrane, target, deep⟩)
        case first =>
          have H9 := Lib.hid (show (upd v1 1 (.slice (some ⟨g1, 0, none⟩) k cap2')) 0 = .slice (some ⟨g0, 0, none⟩) A.grow.slots.length cap0 by rw [HL.out]; exact H7.out.1)
          have H10 := Lib.hid (show top < A.grow.slots.length by rw [HL.out]; exact hlt0)
          have hA := (Mid.fill (A := { A.grow with free := A.grow.free.dropLast }) M6.out H10.out H9.out ⟨kind, n, frozen, fields, module, func, ha, hn', hc, brand, (k1, k2, k3), membrane, target, deep⟩).up (Up.refl _).drew
          simp only [World.setCells, Ob.cells, Nat.add_assoc, Nat.reduceAdd] at hA
          have hA := Lib.hid hA
          have hB := (Mid.fill2 (A := { A.grow with free := A.grow.free.dropLast }) M6.out H10.out H9.out ⟨kind, n, frozen, fields, module, func, ha, hn', hc, brand, (k1, k2, k3), membrane, target, deep⟩).up (Up.refl _).drew
          simp only [World.setCells, Ob.cells, Nat.add_assoc, Nat.reduceAdd] at hB
          have hB := Lib.hid hB
          go_region
          all_goals
            go_wp2_with fail
            go_meet
            simp only [Nat.add_assoc, Nat.reduceAdd]
            first
              | (with_reducible exact hA.out)
              | (with_reducible exact hB.out)
        case rest =>
          have M7 := Lib.hid hcut
          clear hcut z0 z2 z3 z4 z5 z6 z7 z8 z9 z10 z11 z12 z13 z1 y2 y3 y4 y5 y6 y7 y8 y9 y10 y11 y12 y13 y14 y15 c0 c1 hz
          obtain ⟨-, z1, -⟩ := ob_cells M7.out.bx
          simp only [Nat.zero_add] at z1
          obtain ⟨d3, -⟩ := M7.out.pt.cell 3 (by omega)
          have hnm : n < A.many.length := (List.getElem?_eq_some_iff.1 HQ.out.2.1).1
          obtain ⟨g3', cap3', hv3, -, lg3⟩ := (M7.out.pt.ow 3 (by omega)).form (show 0 < A.grow.many.length by rw [H4.out.2.2.2.2.2]; omega)
          have hv3' : (upd v1 1 (.slice (some ⟨g1, 0, none⟩) k cap2')) 3 = .slice (some ⟨g3', 0, none⟩) A.many.length cap3' := by
            rw [hv3]; show Value.slice _ A.grow.many.length _ = _; rw [H4.out.2.2.2.2.2]
          have o3 : wc.ownsRow 0 3 1 (.slice (some ⟨g3', 0, none⟩) A.many.length cap3') A.many.length (A.many.map (Value.int .i64)) := by
            have := M7.out.pt.ow 3 (by omega)
            rw [hv3'] at this
            have e : A.grow.many = A.many := H4.out.2.2.2.2.2
            have this' : wc.ownsRow 0 3 1 (.slice (some ⟨g3', 0, none⟩) A.many.length cap3') A.grow.many.length (A.grow.many.map (Value.int .i64)) := this
            rw [e] at this'
            exact this'
          have e3 : wc.cell? ⟨g3', n, none⟩ = some (.int .i64 m) := by
            have := World.ownsRow.cellAt o3 n (show n < A.many.length * 1 by omega)
            rw [this]; simp [HQ.out.2.1]
          have f3 : wc.frozen? ⟨g3', n, none⟩ = false := World.ownsRow.frozenAt o3 _
          rw [hv3'] at d3
          have H11 := Lib.hid (And.intro hv3' o3)
          have i3 : (n : Int) < (A.many.length : Int) := by omega
          have hmw : IntKind.i64.wrap (m + 1) = m + 1 := IntWalk.i64_in _ (by omega)
          clear hv3 hv3' o3
          go_upto_region 13 with (fail)
          go_cut [] from 107 to 116 (fun wx => Mid w wx p v (upd v1 1 (.slice (some ⟨g1, 0, none⟩) k cap2')) { slots := A.grow.slots.set top ⟨s.uses + 1, true, ⟨kind, n, frozen, fields, module, func, ha, hn', hc, brand, (k1, k2, k3), membrane, target, deep⟩⟩, free := A.grow.free.dropLast, quotas := A.grow.quotas, many := A.many.set n (m + 1) } ⟨kind, n, frozen, fields, module, func, ha, hn', hc, brand, (k1, k2, k3), membrane, target, deep⟩)
          case first =>
            have hst := (World.ownsRow.stored H11.out.2 n (.int .i64 (m + 1)))
            have hC := Lib.hid ((M7.out.store (A' := { slots := A.grow.slots.set top ⟨s.uses + 1, true, ⟨kind, n, frozen, fields, module, func, ha, hn', hc, brand, (k1, k2, k3), membrane, target, deep⟩⟩, free := A.grow.free.dropLast, quotas := A.grow.quotas, many := A.many.set n (m + 1) }) 3 (by omega) (by rw [H11.out.1]; exact hst.2) (by
                rw [H11.out.1]
                show World.ownsRow _ 0 3 1 _ (A.many.set n (m + 1)).length ((A.many.set n (m + 1)).map (Value.int .i64))
                rw [List.length_set, List.map_set]
                exact hst.1) (fun j hj hne => by rcases (by omega : j = 0 ∨ j = 1 ∨ j = 2) with rfl | rfl | rfl <;> exact ⟨rfl, rfl⟩)).up (Up.refl _).drew)
            clear hst
            go_region
            all_goals
              go_wp2_with fail
              go_meet
              exact hC.out
          case rest =>
            have M8 := Lib.hid hcut
            clear hcut d3 e3 f3 z1
            have hs8 : ({ slots := A.grow.slots.set top ⟨s.uses + 1, true, ⟨kind, n, frozen, fields, module, func, ha, hn', hc, brand, (k1, k2, k3), membrane, target, deep⟩⟩, free := A.grow.free.dropLast, quotas := A.grow.quotas, many := A.many.set n (m + 1) } : Ar).slots[top]? = some ⟨s.uses + 1, true, ⟨kind, n, frozen, fields, module, func, ha, hn', hc, brand, (k1, k2, k3), membrane, target, deep⟩⟩ := by
              show (A.grow.slots.set top _)[top]? = _
              rw [List.getElem?_set_self (by rw [HL.out]; exact hlt0)]
            obtain ⟨g8, cap8, hv8, hog8, c8, -, -⟩ := M8.out.pt.obAt hs8
            obtain ⟨rfl, rfl⟩ : g0 = g8 ∧ cap0 = cap8 := by
              have := H7.out.1.symm.trans hv8
              simp at this
              exact ⟨this.1, this.2.2⟩
            clear hs8 hv8 hog8
            have S3 := Lib.hid (of_x top (s.uses + 1) (by omega) (by omega))
            generalize hU : s.uses + 1 = U at *
            have HU := Lib.hid hU
            clear hU
            go_wp2_with (go_at_call 42; refine (S3.out _).mono ?_; rintro e w' ⟨rfl, rfl⟩)
            go_ret2
            refine ⟨(upd v1 1 (.slice (some ⟨g1, 0, none⟩) k cap2')), ?_, ?_, M8.out.cg, fun b hb => by rcases M8.out.sb b hb with h1 | h1; exact .inl h1; exact .inr (by omega)⟩
            · unfold Ar.name
              rw [H6.out, H4.out.2.2.2.1, HU.out]
              rfl
            · have e : A.add ⟨kind, n, frozen, fields, module, func, ha, hn', hc, brand, (k1, k2, k3), membrane, target, deep⟩ = { slots := A.grow.slots.set top ⟨U, true, ⟨kind, n, frozen, fields, module, func, ha, hn', hc, brand, (k1, k2, k3), membrane, target, deep⟩⟩, free := A.grow.free.dropLast, quotas := A.grow.quotas, many := A.many.set n (m + 1) } := by
                unfold Ar.add
                have e1 : A.many.getD n 0 = m := by rw [List.getD_eq_getElem?_getD, HQ.out.2.1]; rfl
                simp only [Int.toNat_natCast]
                rw [H6.out, H4.out.2.2.2.1, HU.out, H4.out.2.2.2.2.1, e1]
              rw [e]
              exact M8.out.pt
end Go.Proofs.YtmmfpkkkpeapeaaGreatDoor.ar
