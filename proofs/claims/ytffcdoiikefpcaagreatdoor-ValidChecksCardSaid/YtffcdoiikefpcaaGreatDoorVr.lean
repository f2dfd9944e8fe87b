/- valid's checker: reg, to; an op's Ends: walked. -/
import Derived.Test.YtffcdoiikefpcaaGreatDoorProg
import Derived.Test.YtffcdoiikefpcaaGreatDoorVd
import Derived.Lib.Hide
import Derived.OwnWalk
import Derived.LoopTactic
import Derived.RegionTactic
import Derived.ChangeAlike
import Derived.Deep.RegionWith
import Derived.Deep.CutRange
import Derived.ProofKit
import Derived.Laws.BitsLemmas
import Derived.Outline
import Derived.Deep.QuietTactic
import Derived.BigQuiet
import Derived.Deep.RegionHeld3
import Derived.Deep.DrawnRows
import Derived.Deep.RegionLaw
set_option linter.unusedVariables false
set_option linter.unusedSimpArgs false
namespace Go.Proofs.YtffcdoiikefpcaaGreatDoor.vl
open Go.RowKit Go.Maps mem
attribute [local go_sem ↓] Go.wp_at_zero Go.wp_at_succ
set_option maxRecDepth 100000
set_option maxHeartbeats 1000000
theorem allR_snoc {R x : Int} {l : List Int} {t : Nat} (h : l[t]? = some x) : allR R (l.take (t + 1)) = (allR R (l.take t) && rOk R x) := by
  unfold allR
  rw [List.take_add_one, h, List.all_append]
  simp
theorem allR_no {R x : Int} {l : List Int} {t : Nat} (h : l[t]? = some x) (hx : rOk R x = false) : allR R l = false := by
  unfold allR
  rw [List.all_eq_false]
  exact ⟨x, List.mem_of_getElem? h, by rw [hx]; decide⟩
theorem reg_x (mv hv cv dv : Value) (p R : Int) (lv : Value) (l : List Int) (w : World) (hl : IntsAt w lv l) (hn : l.length ≤ 1000000) :
    Calls Tryz.prog 15 #[.agg #[mv, .int .i64 p, hv, .int .i64 R, cv, dv], lv] w fun e w' => e = .returned (.bool (allR R l)) ∧ Up w w' := by
  obtain ⟨a, cap, rfl, h⟩ := hl
  have H := Lib.hid h
  clear h
  go_enter Tryz.func15, Tryz.ntmps15
  go_upto_region 1 with (fail)
  have d3 : (w.alloc (.cells #[mv, .int .i64 p, hv, .int .i64 R, cv, dv] 50)).cell? ⟨w.heap.size, 3, none⟩ = some (.int .i64 R) := (Blk.new w #[mv, .int .i64 p, hv, .int .i64 R, cv, dv] 50).cell 3
  have hU : Up w (w.alloc (.cells #[mv, .int .i64 p, hv, .int .i64 R, cv, dv] 50)) := (Up.refl w).alloc _
  generalize World.alloc w _ = W1 at d3 hU ⊢
  generalize w.heap.size = bb at d3 ⊢
  have HU := Lib.hid (And.intro hU d3)
  clear hU d3
  go_wp2_with fail
  go_loopw [9] (fun i wr => ∃ t : Nat, t ≤ l.length ∧ i = .int .i64 t ∧ Up W1 wr ∧ allR R (l.take t) = true) (fun i _ => l.length - (intOf i).toNat)
  case atStart => exact ⟨0, by omega, rfl, Up.refl _, rfl⟩
  case round =>
    obtain ⟨t, ht, rfl, hU, hA⟩ := hrel
    have d3 := up_cell hU HU.out.2
    by_cases hlt : t < l.length
    · obtain ⟨b, off, rfl, hb, hx⟩ := H.out.resolve_left (by omega)
      obtain ⟨x, hx0⟩ : ∃ x, l[t]? = some x := ⟨_, List.getElem?_eq_getElem hlt⟩
      have cx := up_cell (Up.trans HU.out.1 hU) (hx t x hx0)
      have it0 : (t : Int) < (l.length : Int) := by omega
      by_cases h0 : x < 0
      · have r0 : rOk R x = false := by unfold rOk; simp; omega
        have i0 : decide (x < 0) = true := by simpa using h0
        have hF := allR_no hx0 r0
        go_wp2_with fail
        go_ret
        exact ⟨(by first | rfl | (rw [hF]; rfl)), Up.trans HU.out.1 hU⟩
      · have i0 : decide (x < 0) = false := by simpa using h0
        by_cases h1 : R ≤ x
        · have r0 : rOk R x = false := by unfold rOk; simp; omega
          have hF := allR_no hx0 r0
          go_wp2_with fail
          go_ret
          exact ⟨(by first | rfl | (rw [hF]; rfl)), Up.trans HU.out.1 hU⟩
        · have r0 : rOk R x = true := by unfold rOk; simp; omega
          have hA2 : allR R (l.take (t + 1)) = true := by rw [allR_snoc hx0, hA, r0]; rfl
          go_wp2_with fail
          go_roundw
          case rel => exact ⟨t + 1, by omega, by go_num, hU, hA2⟩
          case measure => simp [intOf]; omega
    · have hte : t = l.length := by omega
      subst hte
      rw [List.take_length] at hA
      go_wp2_with fail
      go_ret
      exact ⟨(by first | rfl | (rw [hA]; rfl)), Up.trans HU.out.1 hU⟩
theorem to_x (mv hv cv : Value) (p R : Int) (da : Option Addr) (n dc : Nat) (k : Int) (w : World) :
    Calls Tryz.prog 16 #[.agg #[mv, .int .i64 p, hv, .int .i64 R, cv, .slice da n dc], .int .i64 k] w fun e w' => e = .returned (.bool (toOk n k)) ∧ Up w w' := by
  by_cases h0 : 0 ≤ k
  · have i0 : decide (0 ≤ k) = true := by simpa using h0
    have e : toOk n k = decide (k < (n : Int)) := by unfold toOk; rw [i0]; rfl
    rw [e]
    go_enter Tryz.func16, Tryz.ntmps16
    go_wp2_with fail
    go_ret
    exact ⟨rfl, (Up.refl _).alloc _⟩
  · have i0 : decide (0 ≤ k) = false := by simpa using h0
    have e : toOk n k = false := by unfold toOk; rw [i0]; rfl
    rw [e]
    go_enter Tryz.func16, Tryz.ntmps16
    go_wp2_with fail
    go_ret
    exact ⟨rfl, (Up.refl _).alloc _⟩
theorem ends_x (o : Int) (w : World) : Calls Tryz.prog 11 #[.int .u8 o] w fun e w' => e = .returned (.bool (ends o)) ∧ Up w w' := by
  by_cases h0 : o = 15
  · subst h0
    go_enter Tryz.func11, Tryz.ntmps11
    go_wp2_with fail
    go_ret
    exact ⟨rfl, Up.refl _⟩
  by_cases h1 : o = 16
  · subst h1
    go_enter Tryz.func11, Tryz.ntmps11
    go_wp2_with fail
    go_ret
    exact ⟨rfl, Up.refl _⟩
  by_cases h2 : o = 18
  · subst h2
    go_enter Tryz.func11, Tryz.ntmps11
    go_wp2_with fail
    go_ret
    exact ⟨rfl, Up.refl _⟩
  have i0 : (o == 15) = false := by simpa using h0
  have i1 : (o == 16) = false := by simpa using h1
  have i2 : (o == 18) = false := by simpa using h2
  by_cases h3 : o = 19
  · subst h3
    go_enter Tryz.func11, Tryz.ntmps11
    go_wp2_with fail
    go_ret
    exact ⟨rfl, Up.refl _⟩
  have i3 : (o == 19) = false := by simpa using h3
  have e : ends o = false := by unfold ends; simp [h0, h1, h2, h3]
  rw [e]
  go_enter Tryz.func11, Tryz.ntmps11
  go_wp2_with fail
  go_ret
  exact ⟨rfl, Up.refl _⟩
end Go.Proofs.YtffcdoiikefpcaaGreatDoor.vl
