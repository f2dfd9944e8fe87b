/- maps.Equal on two maps of pairs that read alike: walked. -/
import Derived.Test.YtkcljohkcpdfaaaGreatDoorHz
import Derived.Maps.RangeWalk
import Derived.Maps.OwnSet
import Derived.Maps.Ext
set_option linter.unusedVariables false
set_option linter.unusedSimpArgs false
namespace Go.Proofs.YtkcljohkcpdfaaaGreatDoor.gr
open Go.RowKit Go.Maps mem
attribute [local go_sem ↓] Go.wp_at_zero Go.wp_at_succ
set_option maxRecDepth 100000
set_option maxHeartbeats 2000000
theorem key_inv {key : Value} {l : Lit} (h : keyOf Tryz.prog 41 key = some l) : ∃ p : Int × Int, key = pairV p.1 p.2 := by
  unfold keyOf at h
  rw [Tryz.underlying41] at h
  simp only [Program.keyType, deepP, Bool.true_and] at h
  by_cases hf : key.formed Tryz.prog 41 = true
  case neg => simp [hf] at h
  rw [if_pos hf] at h
  cases key <;> (try (simp [Value.formed, Tryz.underlying41] at hf; done))
  case agg cs =>
    have hc : cs.size = 2 := by simpa [Value.formed, Tryz.underlying41, cellsP] using hf
    obtain ⟨a, b, rfl⟩ : ∃ a b, cs = #[a, b] := by
      refine ⟨cs[0], cs[1], ?_⟩
      apply Array.ext
      · simpa using hc
      · intro i h1 h2
        have : i = 0 ∨ i = 1 := by omega
        rcases this with rfl | rfl <;> rfl
    obtain ⟨ls, hl, -⟩ := Option.map_eq_some_iff.1 h
    rw [show (Value.agg #[a, b]).cells.toList = [a, b] from rfl] at hl
    obtain ⟨d, hd⟩ : ∃ d, Tryz.prog.types.size + 1 = d + 1 + 1 := ⟨_, sizeP⟩
    have c2 : Tryz.prog.cellsOf 3 = 1 := by kernel_rfl
    have inv : ∀ (x : Value) (l : List Lit), Tryz.prog.keyLits (d + 1) 3 [x] = some l → ∃ n, x = .int .i64 n := by
      intro x l h
      rw [Program.keyLits.eq_def] at h
      cases x <;> simp [Tryz.underlying3] at h
      exact ⟨_, by rw [h.1.1]⟩
    rw [hd, Program.keyLits.eq_def] at hl
    have hlen : ([a, b] : List Value).length = Tryz.prog.cellsOf 41 := by rw [cellsP]; rfl
    simp only [Tryz.underlying41] at hl
    rw [if_pos hlen] at hl
    simp only [c2, show List.range 2 = [0, 1] from rfl] at hl
    cases ha : Tryz.prog.keyLits (d + 1) 3 [a] with
    | none => simp [ha] at hl
    | some la =>
      cases hb : Tryz.prog.keyLits (d + 1) 3 [b] with
      | none => simp [ha, hb] at hl
      | some lb =>
        obtain ⟨x, rfl⟩ := inv a la ha
        obtain ⟨y, rfl⟩ := inv b lb hb
        exact ⟨(x, y), rfl⟩
theorem grown_up {w w' : World} (h : w.grownBy w' none) : Up w w' := ⟨h.os, h.tape, h.output, h.size, fun k hk => h.block k hk (by simp)⟩
theorem up_grownBy {w w' : World} (h : Up w w') : w.grownBy w' none := ⟨h.os, h.tape, h.output, h.size, fun k hk _ => h.block k hk⟩
theorem equal_d (b1 b2 n1 n2 : Nat) (D : DataW Nat) (w : World) (h1 : w.ownsMap Tryz.prog 41 (plainElem (H := Nat) Tryz.prog 3) b1 n1 D) (h2 : w.ownsMap Tryz.prog 41 (plainElem (H := Nat) Tryz.prog 3) b2 n2 D) :
    Calls Tryz.prog 13 #[.map (some b1), .map (some b2)] w fun e w' => e = .returned (.bool true) ∧ Up w w' := by
  have l1 := fun ty => h1.len (t := 40) Tryz.underlying40 ty
  have l2 := fun ty => h2.len (t := 40) Tryz.underlying40 ty
  have hb2 := h2.lt
  have z : ∀ c : Int, (c != c) = false := fun c => by simp
  go_enter Tryz.func13, Tryz.ntmps13
  go_wp2_with (first
    | (at_range; refine wpList_range_own _ rfl _ 40 rfl 41 3 KP Tryz.underlying40 (plainElem (H := Nat) Tryz.prog 3) b1 n1 _ rfl h1 ?_; intro w0 hrg0 hg0 hs0)
    | go_in)
  go_frame
  go_loopw [16] (fun _ wr => ∃ (left : Lit → Bool) (cnt : Nat), wr.ranges Tryz.prog 41 (plainElem (H := Nat) Tryz.prog 3) b1 w.heap.size n1 D left cnt ∧ wr.ownsMap Tryz.prog 41 (plainElem (H := Nat) Tryz.prog 3) b2 n2 D ∧ w.grownBy wr none)
    (fun _ wr => wr.rangeLeft b1 w.heap.size)
  case atStart => exact ⟨_, _, hrg0, h2.kept hg0 (by simp), hg0⟩
  case round =>
    obtain ⟨left, cnt, hrg, h2r, hgw⟩ := hrel
    go_wp2_with (first
      | (at_next; refine wpList_next_ranges _ rfl _ rfl 41 KP (plainElem (H := Nat) Tryz.prog 3) (fun p : Int × Int => .agg #[.int .i64 p.1, .int .i64 p.2]) (Value.int .i64) (fun key _ hk => key_inv hk) (fun v y hv => by obtain ⟨c, rfl, _⟩ := plainElem_int_inv Tryz.underlying3 hv; exact ⟨c, rfl⟩) b1 w.heap.size n1 _ _ _ rfl hrg ?_ ?_)
      | go_in)
    · intro _ hl0
      go_wp2
      go_ret
      exact ⟨rfl, grown_up hgw⟩
    · intro x x' c kl yd yp w1 cnt1 hkey hlx hv hat hrg1 hlt hg1 hs1 hen
      have hgw1 : w.grownBy w1 none := hgw.andThen hg1 (fun j hj => by cases hj; exact Or.inl (Nat.le_refl _))
      have h2w1 := h2r.kept hg1 (fun e => by have := Option.some.inj e; omega)
      have hy : yd = .lit (.int .i64 c) := by
        obtain ⟨c', e, he, -⟩ := plainElem_int_inv Tryz.underlying3 hv
        cases e
        exact congrArg Prod.fst he
      have HAT : Hid ((∀ zd, D.atKey kl zd = .lit (.int .i64 c)) ∧ Maps.has D kl = true) := ⟨fun zd => (hat zd).trans hy, Maps.has_true_of_atKey hat⟩
      clear hat hy hv hlx
      go_wp2_with (first
        | (at_lookup; refine wpList_lookup_own_ok_int _ rfl _ _ 40 rfl 41 3 .i64 KP Tryz.underlying40 Tryz.underlying3 (zeroI _) b2 n2 D rfl (h2w1.kept (World.grownBy_alloc _ _ none) (by simp)) _ kl rfl hkey ?_; intro c2 hc2 _; rw [HAT.out.2]; (have e2 : c2 = c := by (have q := hc2.symm.trans (HAT.out.1 _); simpa using q)); subst e2; clear hc2; go_frame)
        | go_in)
      go_roundw
      case rel => exact ⟨_, cnt1, hrg1.alloc _, h2w1.kept (World.grownBy_alloc _ _ none) (by simp), hgw1.andThen (World.grownBy_alloc _ _ none) (fun j hj => by cases hj)⟩
      case measure => rw [(hrg1.alloc _).left_eq, hrg.left_eq]; exact hlt
end Go.Proofs.YtkcljohkcpdfaaaGreatDoor.gr
