/- valid's checker: instr of any op (printed by vj_gen.py). -/
import Derived.Test.YtffcdoiikefpcaaGreatDoorVi
set_option linter.unusedVariables false
set_option linter.unusedSimpArgs false
namespace Go.Proofs.YtffcdoiikefpcaaGreatDoor.vl
open Go.RowKit Go.Maps mem
attribute [local go_sem ↓] Go.wp_at_zero Go.wp_at_succ
set_option maxRecDepth 100000
set_option maxHeartbeats 1000000
section
variable (hv : Value) (a c : Int) (Fs : List Fn) (f : Fn) (ma ca da : Option Addr) (mc cc dc : Nat) (w : World)
theorem instr5_0 (b : Int) (hA : rOk f.regs a = false) : Calls Tryz.prog 10 #[.agg #[.slice ma Fs.length mc, .int .i64 f.params, hv, .int .i64 f.regs, .slice ca f.consts cc, .slice da f.code.length dc], .agg #[.int .u8 5, .int .i64 a, .int .i64 b, .int .i64 c]] w fun e w' => e = .returned (.bool (insOk Fs f ⟨5, a, b, c⟩)) ∧ Up w w' := by
  have hI : insOk Fs f ⟨5, a, b, c⟩ = false := by simp [insOk, hA]
  go_enter Tryz.func10, Tryz.ntmps10
  go_upto_region 1 with (fail)
  obtain ⟨B2, B3, U2⟩ := two_new w #[.slice ma Fs.length mc, .int .i64 f.params, hv, .int .i64 f.regs, .slice ca f.consts cc, .slice da f.code.length dc] #[.int .u8 5, .int .i64 a, .int .i64 b, .int .i64 c] 50 45
  generalize World.alloc (World.alloc w _) _ = W2 at B2 B3 U2 ⊢
  generalize w.heap.size + 1 = b3 at B3 ⊢
  generalize w.heap.size = b2 at B2 ⊢
  have d0 : W2.cell? ⟨b2, 0, none⟩ = some (.slice ma Fs.length mc) := B2.cell 0
  have d1 : W2.cell? ⟨b2, 1, none⟩ = some (.int .i64 f.params) := B2.cell 1
  have d2 : W2.cell? ⟨b2, 2, none⟩ = some hv := B2.cell 2
  have d3 : W2.cell? ⟨b2, 3, none⟩ = some (.int .i64 f.regs) := B2.cell 3
  have d4 : W2.cell? ⟨b2, 4, none⟩ = some (.slice ca f.consts cc) := B2.cell 4
  have d5 : W2.cell? ⟨b2, 5, none⟩ = some (.slice da f.code.length dc) := B2.cell 5
  have e0 : W2.cell? ⟨b3, 0, none⟩ = some (.int .u8 5) := B3.cell 0
  have e1 : W2.cell? ⟨b3, 1, none⟩ = some (.int .i64 a) := B3.cell 1
  have e2 : W2.cell? ⟨b3, 2, none⟩ = some (.int .i64 b) := B3.cell 2
  have e3 : W2.cell? ⟨b3, 3, none⟩ = some (.int .i64 c) := B3.cell 3
  have l2 : b2 < W2.heap.size := B2.lt
  have l3 : b3 < W2.heap.size := B3.lt
  clear B2 B3
  have HS : Hid (∀ w', Up W2 w' → w'.cell? ⟨b2, 0, none⟩ = some (.slice ma Fs.length mc) ∧ w'.cell? ⟨b2, 1, none⟩ = some (.int .i64 f.params) ∧ w'.cell? ⟨b2, 2, none⟩ = some hv ∧ w'.cell? ⟨b2, 3, none⟩ = some (.int .i64 f.regs) ∧ w'.cell? ⟨b2, 4, none⟩ = some (.slice ca f.consts cc) ∧ w'.cell? ⟨b2, 5, none⟩ = some (.slice da f.code.length dc) ∧ w'.cell? ⟨b3, 1, none⟩ = some (.int .i64 a) ∧ w'.cell? ⟨b3, 2, none⟩ = some (.int .i64 b)) := fun w' hu => ⟨up_cell hu d0, up_cell hu d1, up_cell hu d2, up_cell hu d3, up_cell hu d4, up_cell hu d5, up_cell hu e1, up_cell hu e2⟩
  go_upto_region 13 with (fail)
  clear d0 d1 d2 d3 d4 d5 e1 e2 e0 e3
  refine AnyT.start (S := fun w' => w'.cell? ⟨b2, 0, none⟩ = some (.slice ma Fs.length mc) ∧ w'.cell? ⟨b2, 1, none⟩ = some (.int .i64 f.params) ∧ w'.cell? ⟨b2, 2, none⟩ = some hv ∧ w'.cell? ⟨b2, 3, none⟩ = some (.int .i64 f.regs) ∧ w'.cell? ⟨b2, 4, none⟩ = some (.slice ca f.consts cc) ∧ w'.cell? ⟨b2, 5, none⟩ = some (.slice da f.code.length dc) ∧ w'.cell? ⟨b3, 1, none⟩ = some (.int .i64 a) ∧ w'.cell? ⟨b3, 2, none⟩ = some (.int .i64 b)) 32 (by kernel_rfl) (HS.out _ (Up.refl W2).drew) (fun hHeld => ?_)
  have hUd : Up W2 W2.drew := (Up.refl W2).drew
  generalize World.drew W2 = wd at hUd hHeld ⊢
  refine AnyT.take (i := 0) (oi := ⟨_, _, _, _, _, _⟩) (v := ?_) rfl (by kernel_rfl) (by kernel_rfl) (by kernel_rfl) (by kernel_rfl) (fun _ _ _ h => h) (Or.inl ⟨by rfl, ?y0_1⟩) (by assumption) ?_
  case' y0_1 => ((intro w hSw; (try dsimp only at hSw); go_simp) <;> (with_reducible rfl))
  try simp only [Act.put, List.setIfInBounds_toArray, List.set_cons_zero, List.set_cons_succ]
  refine AnyT.pick (i := 1) (oi := ⟨_, _, _, _, _, _⟩) (v := ?_) rfl (by kernel_rfl) (by kernel_rfl) (by kernel_rfl) (fun _ _ _ h => h) (Or.inl ⟨by rfl, ?y1_2⟩) ?_
  case' y1_2 => ((intro w hSw; go_simp) <;> (with_reducible rfl))
  try simp only [Act.put, List.setIfInBounds_toArray, List.set_cons_zero, List.set_cons_succ]
  refine AnyT.take (i := 2) (oi := ⟨_, _, _, _, _, _⟩) (v := ?_) rfl (by kernel_rfl) (by kernel_rfl) (by kernel_rfl) (by kernel_rfl) (fun _ _ _ h => h) (Or.inl ⟨by rfl, ?y2_3⟩) (by assumption) ?_
  case' y2_3 => ((intro w hSw; (try dsimp only at hSw); go_simp) <;> (with_reducible rfl))
  try simp only [Act.put, List.setIfInBounds_toArray, List.set_cons_zero, List.set_cons_succ]
  refine AllT.go (rs := [3]) (by kernel_rfl) (by simp) ?_
  refine AllT.early (o := ⟨_, _, _, _, _, _⟩) rfl (fun K hK => ?_) ?_
  · go_simp
    refine hK.out _ _ (HS.out _ (hUd.alloc _)) (fun _ => ?_)
    clear hK K
    try simp only [Act.put, List.setIfInBounds_toArray, List.set_cons_zero, List.set_cons_succ]
    refine AllT.go (rs := [4]) (by kernel_rfl) (by simp) ?_
    refine AllT.early (o := ⟨_, _, _, _, _, _⟩) rfl (fun K hK => ?_) ?_
    · go_simp
      go_at_call 15
      refine (reg1 _ hv _ _ f.params f.regs a _ hA _ _).mono ?_
      rintro e w3 ⟨rfl, hU3⟩
      refine hK.out _ _ (HS.out _ (Up.trans hUd hU3)) (fun _ => ?_)
      clear hK K hHeld
      try simp only [Act.put, List.setIfInBounds_toArray, List.set_cons_zero, List.set_cons_succ]
      refine AnyT.pick (i := 5) (oi := ⟨_, _, _, _, _, _⟩) (v := ?_) rfl (by kernel_rfl) (by kernel_rfl) (by kernel_rfl) (fun _ _ _ h => h) (Or.inl ⟨by rfl, ?y5_4⟩) ?_
      case' y5_4 => ((intro w hSw; go_simp) <;> (with_reducible rfl))
      try simp only [Act.put, List.setIfInBounds_toArray, List.set_cons_zero, List.set_cons_succ]
      refine AnyT.pick (i := 6) (oi := ⟨_, _, _, _, _, _⟩) (v := undef) rfl (by kernel_rfl) (by kernel_rfl) (by kernel_rfl) (fun _ _ _ h => h) (Or.inr ⟨by rfl, rfl⟩) ?_
      try simp only [Act.put, List.setIfInBounds_toArray, List.set_cons_zero, List.set_cons_succ]
      refine AnyT.pick (i := 7) (oi := ⟨_, _, _, _, _, _⟩) (v := undef) rfl (by kernel_rfl) (by kernel_rfl) (by kernel_rfl) (fun _ _ _ h => h) (Or.inr ⟨by rfl, rfl⟩) ?_
      try simp only [Act.put, List.setIfInBounds_toArray, List.set_cons_zero, List.set_cons_succ]
      refine AnyT.pick (i := 8) (oi := ⟨_, _, _, _, _, _⟩) (v := undef) rfl (by kernel_rfl) (by kernel_rfl) (by kernel_rfl) (fun _ _ _ h => h) (Or.inr ⟨by rfl, rfl⟩) ?_
      try simp only [Act.put, List.setIfInBounds_toArray, List.set_cons_zero, List.set_cons_succ]
      refine AnyT.pick (i := 9) (oi := ⟨_, _, _, _, _, _⟩) (v := ?_) rfl (by kernel_rfl) (by kernel_rfl) (by kernel_rfl) (fun _ _ _ h => h) (Or.inl ⟨by rfl, ?y9_5⟩) ?_
      case' y9_5 => ((intro w hSw; go_simp) <;> (with_reducible rfl))
      try simp only [Act.put, List.setIfInBounds_toArray, List.set_cons_zero, List.set_cons_succ]
      refine AnyT.pick (i := 10) (oi := ⟨_, _, _, _, _, _⟩) (v := ?_) rfl (by kernel_rfl) (by kernel_rfl) (by kernel_rfl) (fun _ _ _ h => h) (Or.inl ⟨by rfl, ?y10_6⟩) ?_
      case' y10_6 => ((intro w hSw; go_simp) <;> (with_reducible rfl))
      try simp only [Act.put, List.setIfInBounds_toArray, List.set_cons_zero, List.set_cons_succ]
      refine AnyT.pick (i := 11) (oi := ⟨_, _, _, _, _, _⟩) (v := undef) rfl (by kernel_rfl) (by kernel_rfl) (by kernel_rfl) (fun _ _ _ h => h) (Or.inr ⟨by rfl, rfl⟩) ?_
      try simp only [Act.put, List.setIfInBounds_toArray, List.set_cons_zero, List.set_cons_succ]
      refine AnyT.pick (i := 12) (oi := ⟨_, _, _, _, _, _⟩) (v := undef) rfl (by kernel_rfl) (by kernel_rfl) (by kernel_rfl) (fun _ _ _ h => h) (Or.inr ⟨by rfl, rfl⟩) ?_
      try simp only [Act.put, List.setIfInBounds_toArray, List.set_cons_zero, List.set_cons_succ]
      refine AnyT.pick (i := 13) (oi := ⟨_, _, _, _, _, _⟩) (v := undef) rfl (by kernel_rfl) (by kernel_rfl) (by kernel_rfl) (fun _ _ _ h => h) (Or.inr ⟨by rfl, rfl⟩) ?_
      try simp only [Act.put, List.setIfInBounds_toArray, List.set_cons_zero, List.set_cons_succ]
      refine AnyT.pick (i := 14) (oi := ⟨_, _, _, _, _, _⟩) (v := undef) rfl (by kernel_rfl) (by kernel_rfl) (by kernel_rfl) (fun _ _ _ h => h) (Or.inr ⟨by rfl, rfl⟩) ?_
      try simp only [Act.put, List.setIfInBounds_toArray, List.set_cons_zero, List.set_cons_succ]
      refine AnyT.pick (i := 15) (oi := ⟨_, _, _, _, _, _⟩) (v := undef) rfl (by kernel_rfl) (by kernel_rfl) (by kernel_rfl) (fun _ _ _ h => h) (Or.inr ⟨by rfl, rfl⟩) ?_
      try simp only [Act.put, List.setIfInBounds_toArray, List.set_cons_zero, List.set_cons_succ]
      refine AnyT.pick (i := 16) (oi := ⟨_, _, _, _, _, _⟩) (v := undef) rfl (by kernel_rfl) (by kernel_rfl) (by kernel_rfl) (fun _ _ _ h => h) (Or.inr ⟨by rfl, rfl⟩) ?_
      try simp only [Act.put, List.setIfInBounds_toArray, List.set_cons_zero, List.set_cons_succ]
      refine AnyT.pick (i := 17) (oi := ⟨_, _, _, _, _, _⟩) (v := undef) rfl (by kernel_rfl) (by kernel_rfl) (by kernel_rfl) (fun _ _ _ h => h) (Or.inr ⟨by rfl, rfl⟩) ?_
      try simp only [Act.put, List.setIfInBounds_toArray, List.set_cons_zero, List.set_cons_succ]
      refine AnyT.pick (i := 18) (oi := ⟨_, _, _, _, _, _⟩) (v := ?_) rfl (by kernel_rfl) (by kernel_rfl) (by kernel_rfl) (fun _ _ _ h => h) (Or.inl ⟨by rfl, ?y18_7⟩) ?_
      case' y18_7 => ((intro w hSw; go_simp) <;> (with_reducible rfl))
      try simp only [Act.put, List.setIfInBounds_toArray, List.set_cons_zero, List.set_cons_succ]
      refine AnyT.pick (i := 19) (oi := ⟨_, _, _, _, _, _⟩) (v := ?_) rfl (by kernel_rfl) (by kernel_rfl) (by kernel_rfl) (fun _ _ _ h => h) (Or.inl ⟨by rfl, ?y19_8⟩) ?_
      case' y19_8 => ((intro w hSw; go_simp) <;> (with_reducible rfl))
      try simp only [Act.put, List.setIfInBounds_toArray, List.set_cons_zero, List.set_cons_succ]
      refine AnyT.pick (i := 20) (oi := ⟨_, _, _, _, _, _⟩) (v := undef) rfl (by kernel_rfl) (by kernel_rfl) (by kernel_rfl) (fun _ _ _ h => h) (Or.inr ⟨by rfl, rfl⟩) ?_
      try simp only [Act.put, List.setIfInBounds_toArray, List.set_cons_zero, List.set_cons_succ]
      refine AnyT.pick (i := 21) (oi := ⟨_, _, _, _, _, _⟩) (v := undef) rfl (by kernel_rfl) (by kernel_rfl) (by kernel_rfl) (fun _ _ _ h => h) (Or.inr ⟨by rfl, rfl⟩) ?_
      try simp only [Act.put, List.setIfInBounds_toArray, List.set_cons_zero, List.set_cons_succ]
      refine AnyT.pick (i := 22) (oi := ⟨_, _, _, _, _, _⟩) (v := undef) rfl (by kernel_rfl) (by kernel_rfl) (by kernel_rfl) (fun _ _ _ h => h) (Or.inr ⟨by rfl, rfl⟩) ?_
      try simp only [Act.put, List.setIfInBounds_toArray, List.set_cons_zero, List.set_cons_succ]
      refine AnyT.pick (i := 23) (oi := ⟨_, _, _, _, _, _⟩) (v := undef) rfl (by kernel_rfl) (by kernel_rfl) (by kernel_rfl) (fun _ _ _ h => h) (Or.inr ⟨by rfl, rfl⟩) ?_
      try simp only [Act.put, List.setIfInBounds_toArray, List.set_cons_zero, List.set_cons_succ]
      refine AnyT.pick (i := 24) (oi := ⟨_, _, _, _, _, _⟩) (v := undef) rfl (by kernel_rfl) (by kernel_rfl) (by kernel_rfl) (fun _ _ _ h => h) (Or.inr ⟨by rfl, rfl⟩) ?_
      try simp only [Act.put, List.setIfInBounds_toArray, List.set_cons_zero, List.set_cons_succ]
      refine AnyT.pick (i := 25) (oi := ⟨_, _, _, _, _, _⟩) (v := undef) rfl (by kernel_rfl) (by kernel_rfl) (by kernel_rfl) (fun _ _ _ h => h) (Or.inr ⟨by rfl, rfl⟩) ?_
      try simp only [Act.put, List.setIfInBounds_toArray, List.set_cons_zero, List.set_cons_succ]
      refine AnyT.pick (i := 26) (oi := ⟨_, _, _, _, _, _⟩) (v := undef) rfl (by kernel_rfl) (by kernel_rfl) (by kernel_rfl) (fun _ _ _ h => h) (Or.inr ⟨by rfl, rfl⟩) ?_
      try simp only [Act.put, List.setIfInBounds_toArray, List.set_cons_zero, List.set_cons_succ]
      refine AnyT.pick (i := 27) (oi := ⟨_, _, _, _, _, _⟩) (v := undef) rfl (by kernel_rfl) (by kernel_rfl) (by kernel_rfl) (fun _ _ _ h => h) (Or.inr ⟨by rfl, rfl⟩) ?_
      try simp only [Act.put, List.setIfInBounds_toArray, List.set_cons_zero, List.set_cons_succ]
      refine AnyT.pick (i := 28) (oi := ⟨_, _, _, _, _, _⟩) (v := undef) rfl (by kernel_rfl) (by kernel_rfl) (by kernel_rfl) (fun _ _ _ h => h) (Or.inr ⟨by rfl, rfl⟩) ?_
      try simp only [Act.put, List.setIfInBounds_toArray, List.set_cons_zero, List.set_cons_succ]
      refine AnyT.pick (i := 29) (oi := ⟨_, _, _, _, _, _⟩) (v := undef) rfl (by kernel_rfl) (by kernel_rfl) (by kernel_rfl) (fun _ _ _ h => h) (Or.inr ⟨by rfl, rfl⟩) ?_
      try simp only [Act.put, List.setIfInBounds_toArray, List.set_cons_zero, List.set_cons_succ]
      refine AnyT.pick (i := 30) (oi := ⟨_, _, _, _, _, _⟩) (v := ?_) rfl (by kernel_rfl) (by kernel_rfl) (by kernel_rfl) (fun _ _ _ h => h) (Or.inl ⟨by rfl, ?y30_9⟩) ?_
      case' y30_9 => ((intro w hSw; go_simp) <;> (with_reducible rfl))
      try simp only [Act.put, List.setIfInBounds_toArray, List.set_cons_zero, List.set_cons_succ]
      refine AnyT.pick (i := 31) (oi := ⟨_, _, _, _, _, _⟩) (v := ?_) rfl (by kernel_rfl) (by kernel_rfl) (by kernel_rfl) (fun _ _ _ h => h) (Or.inl ⟨by rfl, ?y31_10⟩) ?_
      case' y31_10 => ((intro w hSw; go_simp) <;> (with_reducible rfl))
      try simp only [Act.put, List.setIfInBounds_toArray, List.set_cons_zero, List.set_cons_succ]
      refine AnyT.done (by kernel_rfl) ?_ _
      go_wp2_with fail
      go_ret
      exact ⟨(by first | rfl | (rw [hI]; rfl)), Up.trans U2 (Up.trans hUd hU3)⟩
    exact AllT.nil
  exact AllT.nil
theorem instr5_1 (b : Int) (hA : rOk f.regs a = true) (hb : ¬ 0 < b) : Calls Tryz.prog 10 #[.agg #[.slice ma Fs.length mc, .int .i64 f.params, hv, .int .i64 f.regs, .slice ca f.consts cc, .slice da f.code.length dc], .agg #[.int .u8 5, .int .i64 a, .int .i64 b, .int .i64 c]] w fun e w' => e = .returned (.bool (insOk Fs f ⟨5, a, b, c⟩)) ∧ Up w w' := by
  have hI : insOk Fs f ⟨5, a, b, c⟩ = false := by simp [insOk, hA, hb]
  have i0 : decide (0 < b) = false := by simpa using hb
  go_enter Tryz.func10, Tryz.ntmps10
  go_upto_region 1 with (fail)
  obtain ⟨B2, B3, U2⟩ := two_new w #[.slice ma Fs.length mc, .int .i64 f.params, hv, .int .i64 f.regs, .slice ca f.consts cc, .slice da f.code.length dc] #[.int .u8 5, .int .i64 a, .int .i64 b, .int .i64 c] 50 45
  generalize World.alloc (World.alloc w _) _ = W2 at B2 B3 U2 ⊢
  generalize w.heap.size + 1 = b3 at B3 ⊢
  generalize w.heap.size = b2 at B2 ⊢
  have d0 : W2.cell? ⟨b2, 0, none⟩ = some (.slice ma Fs.length mc) := B2.cell 0
  have d1 : W2.cell? ⟨b2, 1, none⟩ = some (.int .i64 f.params) := B2.cell 1
  have d2 : W2.cell? ⟨b2, 2, none⟩ = some hv := B2.cell 2
  have d3 : W2.cell? ⟨b2, 3, none⟩ = some (.int .i64 f.regs) := B2.cell 3
  have d4 : W2.cell? ⟨b2, 4, none⟩ = some (.slice ca f.consts cc) := B2.cell 4
  have d5 : W2.cell? ⟨b2, 5, none⟩ = some (.slice da f.code.length dc) := B2.cell 5
  have e0 : W2.cell? ⟨b3, 0, none⟩ = some (.int .u8 5) := B3.cell 0
  have e1 : W2.cell? ⟨b3, 1, none⟩ = some (.int .i64 a) := B3.cell 1
  have e2 : W2.cell? ⟨b3, 2, none⟩ = some (.int .i64 b) := B3.cell 2
  have e3 : W2.cell? ⟨b3, 3, none⟩ = some (.int .i64 c) := B3.cell 3
  have l2 : b2 < W2.heap.size := B2.lt
  have l3 : b3 < W2.heap.size := B3.lt
  clear B2 B3
  have HS : Hid (∀ w', Up W2 w' → w'.cell? ⟨b2, 0, none⟩ = some (.slice ma Fs.length mc) ∧ w'.cell? ⟨b2, 1, none⟩ = some (.int .i64 f.params) ∧ w'.cell? ⟨b2, 2, none⟩ = some hv ∧ w'.cell? ⟨b2, 3, none⟩ = some (.int .i64 f.regs) ∧ w'.cell? ⟨b2, 4, none⟩ = some (.slice ca f.consts cc) ∧ w'.cell? ⟨b2, 5, none⟩ = some (.slice da f.code.length dc) ∧ w'.cell? ⟨b3, 1, none⟩ = some (.int .i64 a) ∧ w'.cell? ⟨b3, 2, none⟩ = some (.int .i64 b)) := fun w' hu => ⟨up_cell hu d0, up_cell hu d1, up_cell hu d2, up_cell hu d3, up_cell hu d4, up_cell hu d5, up_cell hu e1, up_cell hu e2⟩
  go_upto_region 13 with (fail)
  clear d0 d1 d2 d3 d4 d5 e1 e2 e0 e3
  refine AnyT.start (S := fun w' => w'.cell? ⟨b2, 0, none⟩ = some (.slice ma Fs.length mc) ∧ w'.cell? ⟨b2, 1, none⟩ = some (.int .i64 f.params) ∧ w'.cell? ⟨b2, 2, none⟩ = some hv ∧ w'.cell? ⟨b2, 3, none⟩ = some (.int .i64 f.regs) ∧ w'.cell? ⟨b2, 4, none⟩ = some (.slice ca f.consts cc) ∧ w'.cell? ⟨b2, 5, none⟩ = some (.slice da f.code.length dc) ∧ w'.cell? ⟨b3, 1, none⟩ = some (.int .i64 a) ∧ w'.cell? ⟨b3, 2, none⟩ = some (.int .i64 b)) 32 (by kernel_rfl) (HS.out _ (Up.refl W2).drew) (fun hHeld => ?_)
  have hUd : Up W2 W2.drew := (Up.refl W2).drew
  generalize World.drew W2 = wd at hUd hHeld ⊢
  refine AnyT.take (i := 0) (oi := ⟨_, _, _, _, _, _⟩) (v := ?_) rfl (by kernel_rfl) (by kernel_rfl) (by kernel_rfl) (by kernel_rfl) (fun _ _ _ h => h) (Or.inl ⟨by rfl, ?y0_11⟩) (by assumption) ?_
  case' y0_11 => ((intro w hSw; (try dsimp only at hSw); go_simp) <;> (with_reducible rfl))
  try simp only [Act.put, List.setIfInBounds_toArray, List.set_cons_zero, List.set_cons_succ]
  refine AnyT.pick (i := 1) (oi := ⟨_, _, _, _, _, _⟩) (v := ?_) rfl (by kernel_rfl) (by kernel_rfl) (by kernel_rfl) (fun _ _ _ h => h) (Or.inl ⟨by rfl, ?y1_12⟩) ?_
  case' y1_12 => ((intro w hSw; go_simp) <;> (with_reducible rfl))
  try simp only [Act.put, List.setIfInBounds_toArray, List.set_cons_zero, List.set_cons_succ]
  refine AnyT.take (i := 2) (oi := ⟨_, _, _, _, _, _⟩) (v := ?_) rfl (by kernel_rfl) (by kernel_rfl) (by kernel_rfl) (by kernel_rfl) (fun _ _ _ h => h) (Or.inl ⟨by rfl, ?y2_13⟩) (by assumption) ?_
  case' y2_13 => ((intro w hSw; (try dsimp only at hSw); go_simp) <;> (with_reducible rfl))
  try simp only [Act.put, List.setIfInBounds_toArray, List.set_cons_zero, List.set_cons_succ]
  refine AllT.go (rs := [3]) (by kernel_rfl) (by simp) ?_
  refine AllT.early (o := ⟨_, _, _, _, _, _⟩) rfl (fun K hK => ?_) ?_
  · go_simp
    refine hK.out _ _ (HS.out _ (hUd.alloc _)) (fun _ => ?_)
    clear hK K
    try simp only [Act.put, List.setIfInBounds_toArray, List.set_cons_zero, List.set_cons_succ]
    refine AllT.go (rs := [4]) (by kernel_rfl) (by simp) ?_
    refine AllT.early (o := ⟨_, _, _, _, _, _⟩) rfl (fun K hK => ?_) ?_
    · go_simp
      go_at_call 15
      refine (reg1 _ hv _ _ f.params f.regs a _ hA _ _).mono ?_
      rintro e w3 ⟨rfl, hU3⟩
      refine hK.out _ _ (HS.out _ (Up.trans hUd hU3)) (fun _ => ?_)
      clear hK K hHeld
      try simp only [Act.put, List.setIfInBounds_toArray, List.set_cons_zero, List.set_cons_succ]
      refine AnyT.pick (i := 5) (oi := ⟨_, _, _, _, _, _⟩) (v := ?_) rfl (by kernel_rfl) (by kernel_rfl) (by kernel_rfl) (fun _ _ _ h => h) (Or.inl ⟨by rfl, ?y5_14⟩) ?_
      case' y5_14 => ((intro w hSw; go_simp) <;> (with_reducible rfl))
      try simp only [Act.put, List.setIfInBounds_toArray, List.set_cons_zero, List.set_cons_succ]
      refine AnyT.pick (i := 6) (oi := ⟨_, _, _, _, _, _⟩) (v := ?_) rfl (by kernel_rfl) (by kernel_rfl) (by kernel_rfl) (fun _ _ _ h => h) (Or.inl ⟨by rfl, ?y6_15⟩) ?_
      case' y6_15 => ((intro w hSw; go_simp) <;> (with_reducible rfl))
      try simp only [Act.put, List.setIfInBounds_toArray, List.set_cons_zero, List.set_cons_succ]
      refine AnyT.take (i := 7) (oi := ⟨_, _, _, _, _, _⟩) (v := ?_) rfl (by kernel_rfl) (by kernel_rfl) (by kernel_rfl) (by kernel_rfl) (fun _ _ _ h => h) (Or.inl ⟨by rfl, ?y7_16⟩) (by assumption) ?_
      case' y7_16 => ((intro w hSw; (try dsimp only at hSw); go_simp) <;> (with_reducible rfl))
      try simp only [Act.put, List.setIfInBounds_toArray, List.set_cons_zero, List.set_cons_succ]
      refine AnyT.pick (i := 8) (oi := ⟨_, _, _, _, _, _⟩) (v := ?_) rfl (by kernel_rfl) (by kernel_rfl) (by kernel_rfl) (fun _ _ _ h => h) (Or.inl ⟨by rfl, ?y8_17⟩) ?_
      case' y8_17 => ((intro w hSw; go_simp) <;> (with_reducible rfl))
      try simp only [Act.put, List.setIfInBounds_toArray, List.set_cons_zero, List.set_cons_succ]
      refine AnyT.pick (i := 9) (oi := ⟨_, _, _, _, _, _⟩) (v := ?_) rfl (by kernel_rfl) (by kernel_rfl) (by kernel_rfl) (fun _ _ _ h => h) (Or.inl ⟨by rfl, ?y9_18⟩) ?_
      case' y9_18 => ((intro w hSw; go_simp) <;> (with_reducible rfl))
      try simp only [Act.put, List.setIfInBounds_toArray, List.set_cons_zero, List.set_cons_succ]
      refine AnyT.pick (i := 10) (oi := ⟨_, _, _, _, _, _⟩) (v := ?_) rfl (by kernel_rfl) (by kernel_rfl) (by kernel_rfl) (fun _ _ _ h => h) (Or.inl ⟨by rfl, ?y10_19⟩) ?_
      case' y10_19 => ((intro w hSw; go_simp) <;> (with_reducible rfl))
      try simp only [Act.put, List.setIfInBounds_toArray, List.set_cons_zero, List.set_cons_succ]
      refine AnyT.pick (i := 11) (oi := ⟨_, _, _, _, _, _⟩) (v := undef) rfl (by kernel_rfl) (by kernel_rfl) (by kernel_rfl) (fun _ _ _ h => h) (Or.inr ⟨by rfl, rfl⟩) ?_
      try simp only [Act.put, List.setIfInBounds_toArray, List.set_cons_zero, List.set_cons_succ]
      refine AnyT.pick (i := 12) (oi := ⟨_, _, _, _, _, _⟩) (v := undef) rfl (by kernel_rfl) (by kernel_rfl) (by kernel_rfl) (fun _ _ _ h => h) (Or.inr ⟨by rfl, rfl⟩) ?_
      try simp only [Act.put, List.setIfInBounds_toArray, List.set_cons_zero, List.set_cons_succ]
      refine AnyT.pick (i := 13) (oi := ⟨_, _, _, _, _, _⟩) (v := undef) rfl (by kernel_rfl) (by kernel_rfl) (by kernel_rfl) (fun _ _ _ h => h) (Or.inr ⟨by rfl, rfl⟩) ?_
      try simp only [Act.put, List.setIfInBounds_toArray, List.set_cons_zero, List.set_cons_succ]
      refine AnyT.pick (i := 14) (oi := ⟨_, _, _, _, _, _⟩) (v := undef) rfl (by kernel_rfl) (by kernel_rfl) (by kernel_rfl) (fun _ _ _ h => h) (Or.inr ⟨by rfl, rfl⟩) ?_
      try simp only [Act.put, List.setIfInBounds_toArray, List.set_cons_zero, List.set_cons_succ]
      refine AnyT.pick (i := 15) (oi := ⟨_, _, _, _, _, _⟩) (v := undef) rfl (by kernel_rfl) (by kernel_rfl) (by kernel_rfl) (fun _ _ _ h => h) (Or.inr ⟨by rfl, rfl⟩) ?_
      try simp only [Act.put, List.setIfInBounds_toArray, List.set_cons_zero, List.set_cons_succ]
      refine AnyT.pick (i := 16) (oi := ⟨_, _, _, _, _, _⟩) (v := undef) rfl (by kernel_rfl) (by kernel_rfl) (by kernel_rfl) (fun _ _ _ h => h) (Or.inr ⟨by rfl, rfl⟩) ?_
      try simp only [Act.put, List.setIfInBounds_toArray, List.set_cons_zero, List.set_cons_succ]
      refine AnyT.pick (i := 17) (oi := ⟨_, _, _, _, _, _⟩) (v := undef) rfl (by kernel_rfl) (by kernel_rfl) (by kernel_rfl) (fun _ _ _ h => h) (Or.inr ⟨by rfl, rfl⟩) ?_
      try simp only [Act.put, List.setIfInBounds_toArray, List.set_cons_zero, List.set_cons_succ]
      refine AnyT.pick (i := 18) (oi := ⟨_, _, _, _, _, _⟩) (v := ?_) rfl (by kernel_rfl) (by kernel_rfl) (by kernel_rfl) (fun _ _ _ h => h) (Or.inl ⟨by rfl, ?y18_20⟩) ?_
      case' y18_20 => ((intro w hSw; go_simp) <;> (with_reducible rfl))
      try simp only [Act.put, List.setIfInBounds_toArray, List.set_cons_zero, List.set_cons_succ]
      refine AnyT.pick (i := 19) (oi := ⟨_, _, _, _, _, _⟩) (v := ?_) rfl (by kernel_rfl) (by kernel_rfl) (by kernel_rfl) (fun _ _ _ h => h) (Or.inl ⟨by rfl, ?y19_21⟩) ?_
      case' y19_21 => ((intro w hSw; go_simp) <;> (with_reducible rfl))
      try simp only [Act.put, List.setIfInBounds_toArray, List.set_cons_zero, List.set_cons_succ]
      refine AnyT.pick (i := 20) (oi := ⟨_, _, _, _, _, _⟩) (v := undef) rfl (by kernel_rfl) (by kernel_rfl) (by kernel_rfl) (fun _ _ _ h => h) (Or.inr ⟨by rfl, rfl⟩) ?_
      try simp only [Act.put, List.setIfInBounds_toArray, List.set_cons_zero, List.set_cons_succ]
      refine AnyT.pick (i := 21) (oi := ⟨_, _, _, _, _, _⟩) (v := undef) rfl (by kernel_rfl) (by kernel_rfl) (by kernel_rfl) (fun _ _ _ h => h) (Or.inr ⟨by rfl, rfl⟩) ?_
      try simp only [Act.put, List.setIfInBounds_toArray, List.set_cons_zero, List.set_cons_succ]
      refine AnyT.pick (i := 22) (oi := ⟨_, _, _, _, _, _⟩) (v := undef) rfl (by kernel_rfl) (by kernel_rfl) (by kernel_rfl) (fun _ _ _ h => h) (Or.inr ⟨by rfl, rfl⟩) ?_
      try simp only [Act.put, List.setIfInBounds_toArray, List.set_cons_zero, List.set_cons_succ]
      refine AnyT.pick (i := 23) (oi := ⟨_, _, _, _, _, _⟩) (v := undef) rfl (by kernel_rfl) (by kernel_rfl) (by kernel_rfl) (fun _ _ _ h => h) (Or.inr ⟨by rfl, rfl⟩) ?_
      try simp only [Act.put, List.setIfInBounds_toArray, List.set_cons_zero, List.set_cons_succ]
      refine AnyT.pick (i := 24) (oi := ⟨_, _, _, _, _, _⟩) (v := undef) rfl (by kernel_rfl) (by kernel_rfl) (by kernel_rfl) (fun _ _ _ h => h) (Or.inr ⟨by rfl, rfl⟩) ?_
      try simp only [Act.put, List.setIfInBounds_toArray, List.set_cons_zero, List.set_cons_succ]
      refine AnyT.pick (i := 25) (oi := ⟨_, _, _, _, _, _⟩) (v := undef) rfl (by kernel_rfl) (by kernel_rfl) (by kernel_rfl) (fun _ _ _ h => h) (Or.inr ⟨by rfl, rfl⟩) ?_
      try simp only [Act.put, List.setIfInBounds_toArray, List.set_cons_zero, List.set_cons_succ]
      refine AnyT.pick (i := 26) (oi := ⟨_, _, _, _, _, _⟩) (v := undef) rfl (by kernel_rfl) (by kernel_rfl) (by kernel_rfl) (fun _ _ _ h => h) (Or.inr ⟨by rfl, rfl⟩) ?_
      try simp only [Act.put, List.setIfInBounds_toArray, List.set_cons_zero, List.set_cons_succ]
      refine AnyT.pick (i := 27) (oi := ⟨_, _, _, _, _, _⟩) (v := undef) rfl (by kernel_rfl) (by kernel_rfl) (by kernel_rfl) (fun _ _ _ h => h) (Or.inr ⟨by rfl, rfl⟩) ?_
      try simp only [Act.put, List.setIfInBounds_toArray, List.set_cons_zero, List.set_cons_succ]
      refine AnyT.pick (i := 28) (oi := ⟨_, _, _, _, _, _⟩) (v := undef) rfl (by kernel_rfl) (by kernel_rfl) (by kernel_rfl) (fun _ _ _ h => h) (Or.inr ⟨by rfl, rfl⟩) ?_
      try simp only [Act.put, List.setIfInBounds_toArray, List.set_cons_zero, List.set_cons_succ]
      refine AnyT.pick (i := 29) (oi := ⟨_, _, _, _, _, _⟩) (v := undef) rfl (by kernel_rfl) (by kernel_rfl) (by kernel_rfl) (fun _ _ _ h => h) (Or.inr ⟨by rfl, rfl⟩) ?_
      try simp only [Act.put, List.setIfInBounds_toArray, List.set_cons_zero, List.set_cons_succ]
      refine AnyT.pick (i := 30) (oi := ⟨_, _, _, _, _, _⟩) (v := ?_) rfl (by kernel_rfl) (by kernel_rfl) (by kernel_rfl) (fun _ _ _ h => h) (Or.inl ⟨by rfl, ?y30_22⟩) ?_
      case' y30_22 => ((intro w hSw; go_simp) <;> (with_reducible rfl))
      try simp only [Act.put, List.setIfInBounds_toArray, List.set_cons_zero, List.set_cons_succ]
      refine AnyT.pick (i := 31) (oi := ⟨_, _, _, _, _, _⟩) (v := ?_) rfl (by kernel_rfl) (by kernel_rfl) (by kernel_rfl) (fun _ _ _ h => h) (Or.inl ⟨by rfl, ?y31_23⟩) ?_
      case' y31_23 => ((intro w hSw; go_simp) <;> (with_reducible rfl))
      try simp only [Act.put, List.setIfInBounds_toArray, List.set_cons_zero, List.set_cons_succ]
      refine AnyT.done (by kernel_rfl) ?_ _
      go_wp2_with fail
      go_ret
      exact ⟨(by first | rfl | (rw [hI]; rfl)), Up.trans U2 (Up.trans hUd hU3)⟩
    exact AllT.nil
  exact AllT.nil
theorem instr5_2 (b : Int) (hA : rOk f.regs a = true) (hb : 0 < b) (hl : ¬ b < (Fs.length : Int)) : Calls Tryz.prog 10 #[.agg #[.slice ma Fs.length mc, .int .i64 f.params, hv, .int .i64 f.regs, .slice ca f.consts cc, .slice da f.code.length dc], .agg #[.int .u8 5, .int .i64 a, .int .i64 b, .int .i64 c]] w fun e w' => e = .returned (.bool (insOk Fs f ⟨5, a, b, c⟩)) ∧ Up w w' := by
  have hI : insOk Fs f ⟨5, a, b, c⟩ = false := by simp [insOk, hA, hl]
  have i0 : decide (0 < b) = true := by simpa using hb
  have i1 : decide (b < (Fs.length : Int)) = false := by simpa using hl
  go_enter Tryz.func10, Tryz.ntmps10
  go_upto_region 1 with (fail)
  obtain ⟨B2, B3, U2⟩ := two_new w #[.slice ma Fs.length mc, .int .i64 f.params, hv, .int .i64 f.regs, .slice ca f.consts cc, .slice da f.code.length dc] #[.int .u8 5, .int .i64 a, .int .i64 b, .int .i64 c] 50 45
  generalize World.alloc (World.alloc w _) _ = W2 at B2 B3 U2 ⊢
  generalize w.heap.size + 1 = b3 at B3 ⊢
  generalize w.heap.size = b2 at B2 ⊢
  have d0 : W2.cell? ⟨b2, 0, none⟩ = some (.slice ma Fs.length mc) := B2.cell 0
  have d1 : W2.cell? ⟨b2, 1, none⟩ = some (.int .i64 f.params) := B2.cell 1
  have d2 : W2.cell? ⟨b2, 2, none⟩ = some hv := B2.cell 2
  have d3 : W2.cell? ⟨b2, 3, none⟩ = some (.int .i64 f.regs) := B2.cell 3
  have d4 : W2.cell? ⟨b2, 4, none⟩ = some (.slice ca f.consts cc) := B2.cell 4
  have d5 : W2.cell? ⟨b2, 5, none⟩ = some (.slice da f.code.length dc) := B2.cell 5
  have e0 : W2.cell? ⟨b3, 0, none⟩ = some (.int .u8 5) := B3.cell 0
  have e1 : W2.cell? ⟨b3, 1, none⟩ = some (.int .i64 a) := B3.cell 1
  have e2 : W2.cell? ⟨b3, 2, none⟩ = some (.int .i64 b) := B3.cell 2
  have e3 : W2.cell? ⟨b3, 3, none⟩ = some (.int .i64 c) := B3.cell 3
  have l2 : b2 < W2.heap.size := B2.lt
  have l3 : b3 < W2.heap.size := B3.lt
  clear B2 B3
  have HS : Hid (∀ w', Up W2 w' → w'.cell? ⟨b2, 0, none⟩ = some (.slice ma Fs.length mc) ∧ w'.cell? ⟨b2, 1, none⟩ = some (.int .i64 f.params) ∧ w'.cell? ⟨b2, 2, none⟩ = some hv ∧ w'.cell? ⟨b2, 3, none⟩ = some (.int .i64 f.regs) ∧ w'.cell? ⟨b2, 4, none⟩ = some (.slice ca f.consts cc) ∧ w'.cell? ⟨b2, 5, none⟩ = some (.slice da f.code.length dc) ∧ w'.cell? ⟨b3, 1, none⟩ = some (.int .i64 a) ∧ w'.cell? ⟨b3, 2, none⟩ = some (.int .i64 b)) := fun w' hu => ⟨up_cell hu d0, up_cell hu d1, up_cell hu d2, up_cell hu d3, up_cell hu d4, up_cell hu d5, up_cell hu e1, up_cell hu e2⟩
  go_upto_region 13 with (fail)
  clear d0 d1 d2 d3 d4 d5 e1 e2 e0 e3
  refine AnyT.start (S := fun w' => w'.cell? ⟨b2, 0, none⟩ = some (.slice ma Fs.length mc) ∧ w'.cell? ⟨b2, 1, none⟩ = some (.int .i64 f.params) ∧ w'.cell? ⟨b2, 2, none⟩ = some hv ∧ w'.cell? ⟨b2, 3, none⟩ = some (.int .i64 f.regs) ∧ w'.cell? ⟨b2, 4, none⟩ = some (.slice ca f.consts cc) ∧ w'.cell? ⟨b2, 5, none⟩ = some (.slice da f.code.length dc) ∧ w'.cell? ⟨b3, 1, none⟩ = some (.int .i64 a) ∧ w'.cell? ⟨b3, 2, none⟩ = some (.int .i64 b)) 32 (by kernel_rfl) (HS.out _ (Up.refl W2).drew) (fun hHeld => ?_)
  have hUd : Up W2 W2.drew := (Up.refl W2).drew
  generalize World.drew W2 = wd at hUd hHeld ⊢
  refine AnyT.take (i := 0) (oi := ⟨_, _, _, _, _, _⟩) (v := ?_) rfl (by kernel_rfl) (by kernel_rfl) (by kernel_rfl) (by kernel_rfl) (fun _ _ _ h => h) (Or.inl ⟨by rfl, ?y0_24⟩) (by assumption) ?_
  case' y0_24 => ((intro w hSw; (try dsimp only at hSw); go_simp) <;> (with_reducible rfl))
  try simp only [Act.put, List.setIfInBounds_toArray, List.set_cons_zero, List.set_cons_succ]
  refine AnyT.pick (i := 1) (oi := ⟨_, _, _, _, _, _⟩) (v := ?_) rfl (by kernel_rfl) (by kernel_rfl) (by kernel_rfl) (fun _ _ _ h => h) (Or.inl ⟨by rfl, ?y1_25⟩) ?_
  case' y1_25 => ((intro w hSw; go_simp) <;> (with_reducible rfl))
  try simp only [Act.put, List.setIfInBounds_toArray, List.set_cons_zero, List.set_cons_succ]
  refine AnyT.take (i := 2) (oi := ⟨_, _, _, _, _, _⟩) (v := ?_) rfl (by kernel_rfl) (by kernel_rfl) (by kernel_rfl) (by kernel_rfl) (fun _ _ _ h => h) (Or.inl ⟨by rfl, ?y2_26⟩) (by assumption) ?_
  case' y2_26 => ((intro w hSw; (try dsimp only at hSw); go_simp) <;> (with_reducible rfl))
  try simp only [Act.put, List.setIfInBounds_toArray, List.set_cons_zero, List.set_cons_succ]
  refine AllT.go (rs := [3]) (by kernel_rfl) (by simp) ?_
  refine AllT.early (o := ⟨_, _, _, _, _, _⟩) rfl (fun K hK => ?_) ?_
  · go_simp
    refine hK.out _ _ (HS.out _ (hUd.alloc _)) (fun _ => ?_)
    clear hK K
    try simp only [Act.put, List.setIfInBounds_toArray, List.set_cons_zero, List.set_cons_succ]
    refine AllT.go (rs := [4]) (by kernel_rfl) (by simp) ?_
    refine AllT.early (o := ⟨_, _, _, _, _, _⟩) rfl (fun K hK => ?_) ?_
    · go_simp
      go_at_call 15
      refine (reg1 _ hv _ _ f.params f.regs a _ hA _ _).mono ?_
      rintro e w3 ⟨rfl, hU3⟩
      refine hK.out _ _ (HS.out _ (Up.trans hUd hU3)) (fun _ => ?_)
      clear hK K hHeld
      try simp only [Act.put, List.setIfInBounds_toArray, List.set_cons_zero, List.set_cons_succ]
      refine AnyT.pick (i := 5) (oi := ⟨_, _, _, _, _, _⟩) (v := ?_) rfl (by kernel_rfl) (by kernel_rfl) (by kernel_rfl) (fun _ _ _ h => h) (Or.inl ⟨by rfl, ?y5_27⟩) ?_
      case' y5_27 => ((intro w hSw; go_simp) <;> (with_reducible rfl))
      try simp only [Act.put, List.setIfInBounds_toArray, List.set_cons_zero, List.set_cons_succ]
      refine AnyT.pick (i := 6) (oi := ⟨_, _, _, _, _, _⟩) (v := ?_) rfl (by kernel_rfl) (by kernel_rfl) (by kernel_rfl) (fun _ _ _ h => h) (Or.inl ⟨by rfl, ?y6_28⟩) ?_
      case' y6_28 => ((intro w hSw; go_simp) <;> (with_reducible rfl))
      try simp only [Act.put, List.setIfInBounds_toArray, List.set_cons_zero, List.set_cons_succ]
      refine AnyT.take (i := 7) (oi := ⟨_, _, _, _, _, _⟩) (v := ?_) rfl (by kernel_rfl) (by kernel_rfl) (by kernel_rfl) (by kernel_rfl) (fun _ _ _ h => h) (Or.inl ⟨by rfl, ?y7_29⟩) (by assumption) ?_
      case' y7_29 => ((intro w hSw; (try dsimp only at hSw); go_simp) <;> (with_reducible rfl))
      try simp only [Act.put, List.setIfInBounds_toArray, List.set_cons_zero, List.set_cons_succ]
      refine AnyT.pick (i := 8) (oi := ⟨_, _, _, _, _, _⟩) (v := ?_) rfl (by kernel_rfl) (by kernel_rfl) (by kernel_rfl) (fun _ _ _ h => h) (Or.inl ⟨by rfl, ?y8_30⟩) ?_
      case' y8_30 => ((intro w hSw; go_simp) <;> (with_reducible rfl))
      try simp only [Act.put, List.setIfInBounds_toArray, List.set_cons_zero, List.set_cons_succ]
      refine AnyT.pick (i := 9) (oi := ⟨_, _, _, _, _, _⟩) (v := ?_) rfl (by kernel_rfl) (by kernel_rfl) (by kernel_rfl) (fun _ _ _ h => h) (Or.inl ⟨by rfl, ?y9_31⟩) ?_
      case' y9_31 => ((intro w hSw; go_simp) <;> (with_reducible rfl))
      try simp only [Act.put, List.setIfInBounds_toArray, List.set_cons_zero, List.set_cons_succ]
      refine AnyT.pick (i := 10) (oi := ⟨_, _, _, _, _, _⟩) (v := ?_) rfl (by kernel_rfl) (by kernel_rfl) (by kernel_rfl) (fun _ _ _ h => h) (Or.inl ⟨by rfl, ?y10_32⟩) ?_
      case' y10_32 => ((intro w hSw; go_simp) <;> (with_reducible rfl))
      try simp only [Act.put, List.setIfInBounds_toArray, List.set_cons_zero, List.set_cons_succ]
      refine AnyT.pick (i := 11) (oi := ⟨_, _, _, _, _, _⟩) (v := ?_) rfl (by kernel_rfl) (by kernel_rfl) (by kernel_rfl) (fun _ _ _ h => h) (Or.inl ⟨by rfl, ?y11_33⟩) ?_
      case' y11_33 => ((intro w hSw; go_simp) <;> (with_reducible rfl))
      try simp only [Act.put, List.setIfInBounds_toArray, List.set_cons_zero, List.set_cons_succ]
      refine AnyT.take (i := 12) (oi := ⟨_, _, _, _, _, _⟩) (v := ?_) rfl (by kernel_rfl) (by kernel_rfl) (by kernel_rfl) (by kernel_rfl) (fun _ _ _ h => h) (Or.inl ⟨by rfl, ?y12_34⟩) (by assumption) ?_
      case' y12_34 => ((intro w hSw; (try dsimp only at hSw); go_simp) <;> (with_reducible rfl))
      try simp only [Act.put, List.setIfInBounds_toArray, List.set_cons_zero, List.set_cons_succ]
      refine AnyT.pick (i := 13) (oi := ⟨_, _, _, _, _, _⟩) (v := ?_) rfl (by kernel_rfl) (by kernel_rfl) (by kernel_rfl) (fun _ _ _ h => h) (Or.inl ⟨by rfl, ?y13_35⟩) ?_
      case' y13_35 => ((intro w hSw; go_simp) <;> (with_reducible rfl))
      try simp only [Act.put, List.setIfInBounds_toArray, List.set_cons_zero, List.set_cons_succ]
      refine AnyT.pick (i := 14) (oi := ⟨_, _, _, _, _, _⟩) (v := ?_) rfl (by kernel_rfl) (by kernel_rfl) (by kernel_rfl) (fun _ _ _ h => h) (Or.inl ⟨by rfl, ?y14_36⟩) ?_
      case' y14_36 => ((intro w hSw; go_simp) <;> (with_reducible rfl))
      try simp only [Act.put, List.setIfInBounds_toArray, List.set_cons_zero, List.set_cons_succ]
      refine AnyT.take (i := 15) (oi := ⟨_, _, _, _, _, _⟩) (v := ?_) rfl (by kernel_rfl) (by kernel_rfl) (by kernel_rfl) (by kernel_rfl) (fun _ _ _ h => h) (Or.inl ⟨by rfl, ?y15_37⟩) (by assumption) ?_
      case' y15_37 => ((intro w hSw; (try dsimp only at hSw); go_simp) <;> (with_reducible rfl))
      try simp only [Act.put, List.setIfInBounds_toArray, List.set_cons_zero, List.set_cons_succ]
      refine AnyT.pick (i := 16) (oi := ⟨_, _, _, _, _, _⟩) (v := ?_) rfl (by kernel_rfl) (by kernel_rfl) (by kernel_rfl) (fun _ _ _ h => h) (Or.inl ⟨by rfl, ?y16_38⟩) ?_
      case' y16_38 => ((intro w hSw; go_simp) <;> (with_reducible rfl))
      try simp only [Act.put, List.setIfInBounds_toArray, List.set_cons_zero, List.set_cons_succ]
      refine AnyT.pick (i := 17) (oi := ⟨_, _, _, _, _, _⟩) (v := ?_) rfl (by kernel_rfl) (by kernel_rfl) (by kernel_rfl) (fun _ _ _ h => h) (Or.inl ⟨by rfl, ?y17_39⟩) ?_
      case' y17_39 => ((intro w hSw; go_simp) <;> (with_reducible rfl))
      try simp only [Act.put, List.setIfInBounds_toArray, List.set_cons_zero, List.set_cons_succ]
      refine AnyT.pick (i := 18) (oi := ⟨_, _, _, _, _, _⟩) (v := ?_) rfl (by kernel_rfl) (by kernel_rfl) (by kernel_rfl) (fun _ _ _ h => h) (Or.inl ⟨by rfl, ?y18_40⟩) ?_
      case' y18_40 => ((intro w hSw; go_simp) <;> (with_reducible rfl))
      try simp only [Act.put, List.setIfInBounds_toArray, List.set_cons_zero, List.set_cons_succ]
      refine AnyT.pick (i := 19) (oi := ⟨_, _, _, _, _, _⟩) (v := ?_) rfl (by kernel_rfl) (by kernel_rfl) (by kernel_rfl) (fun _ _ _ h => h) (Or.inl ⟨by rfl, ?y19_41⟩) ?_
      case' y19_41 => ((intro w hSw; go_simp) <;> (with_reducible rfl))
      try simp only [Act.put, List.setIfInBounds_toArray, List.set_cons_zero, List.set_cons_succ]
      refine AnyT.pick (i := 20) (oi := ⟨_, _, _, _, _, _⟩) (v := undef) rfl (by kernel_rfl) (by kernel_rfl) (by kernel_rfl) (fun _ _ _ h => h) (Or.inr ⟨by rfl, rfl⟩) ?_
      try simp only [Act.put, List.setIfInBounds_toArray, List.set_cons_zero, List.set_cons_succ]
      refine AnyT.pick (i := 21) (oi := ⟨_, _, _, _, _, _⟩) (v := undef) rfl (by kernel_rfl) (by kernel_rfl) (by kernel_rfl) (fun _ _ _ h => h) (Or.inr ⟨by rfl, rfl⟩) ?_
      try simp only [Act.put, List.setIfInBounds_toArray, List.set_cons_zero, List.set_cons_succ]
      refine AnyT.pick (i := 22) (oi := ⟨_, _, _, _, _, _⟩) (v := undef) rfl (by kernel_rfl) (by kernel_rfl) (by kernel_rfl) (fun _ _ _ h => h) (Or.inr ⟨by rfl, rfl⟩) ?_
      try simp only [Act.put, List.setIfInBounds_toArray, List.set_cons_zero, List.set_cons_succ]
      refine AnyT.pick (i := 23) (oi := ⟨_, _, _, _, _, _⟩) (v := undef) rfl (by kernel_rfl) (by kernel_rfl) (by kernel_rfl) (fun _ _ _ h => h) (Or.inr ⟨by rfl, rfl⟩) ?_
      try simp only [Act.put, List.setIfInBounds_toArray, List.set_cons_zero, List.set_cons_succ]
      refine AnyT.pick (i := 24) (oi := ⟨_, _, _, _, _, _⟩) (v := undef) rfl (by kernel_rfl) (by kernel_rfl) (by kernel_rfl) (fun _ _ _ h => h) (Or.inr ⟨by rfl, rfl⟩) ?_
      try simp only [Act.put, List.setIfInBounds_toArray, List.set_cons_zero, List.set_cons_succ]
      refine AnyT.pick (i := 25) (oi := ⟨_, _, _, _, _, _⟩) (v := undef) rfl (by kernel_rfl) (by kernel_rfl) (by kernel_rfl) (fun _ _ _ h => h) (Or.inr ⟨by rfl, rfl⟩) ?_
      try simp only [Act.put, List.setIfInBounds_toArray, List.set_cons_zero, List.set_cons_succ]
      refine AnyT.pick (i := 26) (oi := ⟨_, _, _, _, _, _⟩) (v := undef) rfl (by kernel_rfl) (by kernel_rfl) (by kernel_rfl) (fun _ _ _ h => h) (Or.inr ⟨by rfl, rfl⟩) ?_
      try simp only [Act.put, List.setIfInBounds_toArray, List.set_cons_zero, List.set_cons_succ]
      refine AnyT.pick (i := 27) (oi := ⟨_, _, _, _, _, _⟩) (v := undef) rfl (by kernel_rfl) (by kernel_rfl) (by kernel_rfl) (fun _ _ _ h => h) (Or.inr ⟨by rfl, rfl⟩) ?_
      try simp only [Act.put, List.setIfInBounds_toArray, List.set_cons_zero, List.set_cons_succ]
      refine AnyT.pick (i := 28) (oi := ⟨_, _, _, _, _, _⟩) (v := undef) rfl (by kernel_rfl) (by kernel_rfl) (by kernel_rfl) (fun _ _ _ h => h) (Or.inr ⟨by rfl, rfl⟩) ?_
      try simp only [Act.put, List.setIfInBounds_toArray, List.set_cons_zero, List.set_cons_succ]
      refine AnyT.pick (i := 29) (oi := ⟨_, _, _, _, _, _⟩) (v := undef) rfl (by kernel_rfl) (by kernel_rfl) (by kernel_rfl) (fun _ _ _ h => h) (Or.inr ⟨by rfl, rfl⟩) ?_
      try simp only [Act.put, List.setIfInBounds_toArray, List.set_cons_zero, List.set_cons_succ]
      refine AnyT.pick (i := 30) (oi := ⟨_, _, _, _, _, _⟩) (v := ?_) rfl (by kernel_rfl) (by kernel_rfl) (by kernel_rfl) (fun _ _ _ h => h) (Or.inl ⟨by rfl, ?y30_42⟩) ?_
      case' y30_42 => ((intro w hSw; go_simp) <;> (with_reducible rfl))
      try simp only [Act.put, List.setIfInBounds_toArray, List.set_cons_zero, List.set_cons_succ]
      refine AnyT.pick (i := 31) (oi := ⟨_, _, _, _, _, _⟩) (v := ?_) rfl (by kernel_rfl) (by kernel_rfl) (by kernel_rfl) (fun _ _ _ h => h) (Or.inl ⟨by rfl, ?y31_43⟩) ?_
      case' y31_43 => ((intro w hSw; go_simp) <;> (with_reducible rfl))
      try simp only [Act.put, List.setIfInBounds_toArray, List.set_cons_zero, List.set_cons_succ]
      refine AnyT.done (by kernel_rfl) ?_ _
      go_wp2_with fail
      go_ret
      exact ⟨(by first | rfl | (rw [hI]; rfl)), Up.trans U2 (Up.trans hUd hU3)⟩
    exact AllT.nil
  exact AllT.nil
theorem instr5_3 (k gb go : Nat) (g : Fn) (hv' : Value) (hA : rOk f.regs a = true) (hb : 0 < k) (hl : k < Fs.length) (hk : Fs[k]? = some g) (hc : w.cell? ⟨gb, go + k * 5 + 1, none⟩ = some hv') (hh : IntsAt w hv' g.held) (hn : g.held.length ≤ 1000000) : Calls Tryz.prog 10 #[.agg #[.slice (some ⟨gb, go, none⟩) Fs.length mc, .int .i64 f.params, hv, .int .i64 f.regs, .slice ca f.consts cc, .slice da f.code.length dc], .agg #[.int .u8 5, .int .i64 a, .int .i64 (k : Int), .int .i64 c]] w fun e w' => e = .returned (.bool (insOk Fs f ⟨5, a, (k : Int), c⟩)) ∧ Up w w' := by
  have hg : heldOf Fs k = g.held := by unfold heldOf; rw [hk]
  have hI : insOk Fs f ⟨5, a, (k : Int), c⟩ = allR f.regs g.held := by simp [insOk, hA, hb, hl, hg]
  have i0 : decide (0 < (k : Int)) = true := by simp; omega
  have i1 : decide ((k : Int) < (Fs.length : Int)) = true := by simp; omega
  have i2 : (k : Int) < (Fs.length : Int) := by omega
  go_enter Tryz.func10, Tryz.ntmps10
  go_upto_region 1 with (fail)
  obtain ⟨B2, B3, U2⟩ := two_new w #[.slice (some ⟨gb, go, none⟩) Fs.length mc, .int .i64 f.params, hv, .int .i64 f.regs, .slice ca f.consts cc, .slice da f.code.length dc] #[.int .u8 5, .int .i64 a, .int .i64 (k : Int), .int .i64 c] 50 45
  generalize World.alloc (World.alloc w _) _ = W2 at B2 B3 U2 ⊢
  generalize w.heap.size + 1 = b3 at B3 ⊢
  generalize w.heap.size = b2 at B2 ⊢
  have d0 : W2.cell? ⟨b2, 0, none⟩ = some (.slice (some ⟨gb, go, none⟩) Fs.length mc) := B2.cell 0
  have d1 : W2.cell? ⟨b2, 1, none⟩ = some (.int .i64 f.params) := B2.cell 1
  have d2 : W2.cell? ⟨b2, 2, none⟩ = some hv := B2.cell 2
  have d3 : W2.cell? ⟨b2, 3, none⟩ = some (.int .i64 f.regs) := B2.cell 3
  have d4 : W2.cell? ⟨b2, 4, none⟩ = some (.slice ca f.consts cc) := B2.cell 4
  have d5 : W2.cell? ⟨b2, 5, none⟩ = some (.slice da f.code.length dc) := B2.cell 5
  have e0 : W2.cell? ⟨b3, 0, none⟩ = some (.int .u8 5) := B3.cell 0
  have e1 : W2.cell? ⟨b3, 1, none⟩ = some (.int .i64 a) := B3.cell 1
  have e2 : W2.cell? ⟨b3, 2, none⟩ = some (.int .i64 (k : Int)) := B3.cell 2
  have e3 : W2.cell? ⟨b3, 3, none⟩ = some (.int .i64 c) := B3.cell 3
  have l2 : b2 < W2.heap.size := B2.lt
  have l3 : b3 < W2.heap.size := B3.lt
  clear B2 B3
  have hc2 := up_cell U2 hc
  have HG : Hid (IntsAt W2 hv' g.held ∧ g.held.length ≤ 1000000) := ⟨hh.up U2, hn⟩
  have i4 : decide (0 < k) = true := by simpa using hb
  have i5 : decide (k < Fs.length) = true := by simpa using hl
  clear hc hh hn
  have HS : Hid (∀ w', Up W2 w' → w'.cell? ⟨b2, 0, none⟩ = some (.slice (some ⟨gb, go, none⟩) Fs.length mc) ∧ w'.cell? ⟨b2, 1, none⟩ = some (.int .i64 f.params) ∧ w'.cell? ⟨b2, 2, none⟩ = some hv ∧ w'.cell? ⟨b2, 3, none⟩ = some (.int .i64 f.regs) ∧ w'.cell? ⟨b2, 4, none⟩ = some (.slice ca f.consts cc) ∧ w'.cell? ⟨b2, 5, none⟩ = some (.slice da f.code.length dc) ∧ w'.cell? ⟨b3, 1, none⟩ = some (.int .i64 a) ∧ w'.cell? ⟨b3, 2, none⟩ = some (.int .i64 (k : Int)) ∧ w'.cell? ⟨gb, go + k * 5 + 1, none⟩ = some hv') := fun w' hu => ⟨up_cell hu d0, up_cell hu d1, up_cell hu d2, up_cell hu d3, up_cell hu d4, up_cell hu d5, up_cell hu e1, up_cell hu e2, up_cell hu hc2⟩
  go_upto_region 13 with (fail)
  clear hc2 d0 d1 d2 d3 d4 d5 e1 e2 e0 e3
  refine AnyT.start (S := fun w' => w'.cell? ⟨b2, 0, none⟩ = some (.slice (some ⟨gb, go, none⟩) Fs.length mc) ∧ w'.cell? ⟨b2, 1, none⟩ = some (.int .i64 f.params) ∧ w'.cell? ⟨b2, 2, none⟩ = some hv ∧ w'.cell? ⟨b2, 3, none⟩ = some (.int .i64 f.regs) ∧ w'.cell? ⟨b2, 4, none⟩ = some (.slice ca f.consts cc) ∧ w'.cell? ⟨b2, 5, none⟩ = some (.slice da f.code.length dc) ∧ w'.cell? ⟨b3, 1, none⟩ = some (.int .i64 a) ∧ w'.cell? ⟨b3, 2, none⟩ = some (.int .i64 (k : Int)) ∧ w'.cell? ⟨gb, go + k * 5 + 1, none⟩ = some hv') 32 (by kernel_rfl) (HS.out _ (Up.refl W2).drew) (fun hHeld => ?_)
  have hUd : Up W2 W2.drew := (Up.refl W2).drew
  generalize World.drew W2 = wd at hUd hHeld ⊢
  refine AnyT.take (i := 0) (oi := ⟨_, _, _, _, _, _⟩) (v := ?_) rfl (by kernel_rfl) (by kernel_rfl) (by kernel_rfl) (by kernel_rfl) (fun _ _ _ h => h) (Or.inl ⟨by rfl, ?y0_44⟩) (by assumption) ?_
  case' y0_44 => ((intro w hSw; (try dsimp only at hSw); go_simp) <;> (with_reducible rfl))
  try simp only [Act.put, List.setIfInBounds_toArray, List.set_cons_zero, List.set_cons_succ]
  refine AnyT.pick (i := 1) (oi := ⟨_, _, _, _, _, _⟩) (v := ?_) rfl (by kernel_rfl) (by kernel_rfl) (by kernel_rfl) (fun _ _ _ h => h) (Or.inl ⟨by rfl, ?y1_45⟩) ?_
  case' y1_45 => ((intro w hSw; go_simp) <;> (with_reducible rfl))
  try simp only [Act.put, List.setIfInBounds_toArray, List.set_cons_zero, List.set_cons_succ]
  refine AnyT.take (i := 2) (oi := ⟨_, _, _, _, _, _⟩) (v := ?_) rfl (by kernel_rfl) (by kernel_rfl) (by kernel_rfl) (by kernel_rfl) (fun _ _ _ h => h) (Or.inl ⟨by rfl, ?y2_46⟩) (by assumption) ?_
  case' y2_46 => ((intro w hSw; (try dsimp only at hSw); go_simp) <;> (with_reducible rfl))
  try simp only [Act.put, List.setIfInBounds_toArray, List.set_cons_zero, List.set_cons_succ]
  refine AllT.go (rs := [3]) (by kernel_rfl) (by simp) ?_
  refine AllT.early (o := ⟨_, _, _, _, _, _⟩) rfl (fun K hK => ?_) ?_
  · go_simp
    refine hK.out _ _ (HS.out _ (hUd.alloc _)) (fun _ => ?_)
    clear hK K
    try simp only [Act.put, List.setIfInBounds_toArray, List.set_cons_zero, List.set_cons_succ]
    refine AllT.go (rs := [4]) (by kernel_rfl) (by simp) ?_
    refine AllT.early (o := ⟨_, _, _, _, _, _⟩) rfl (fun K hK => ?_) ?_
    · go_simp
      go_at_call 15
      refine (reg1 _ hv _ _ f.params f.regs a _ hA _ _).mono ?_
      rintro e w3 ⟨rfl, hU3⟩
      refine hK.out _ _ (HS.out _ (Up.trans hUd hU3)) (fun _ => ?_)
      clear hK K hHeld
      try simp only [Act.put, List.setIfInBounds_toArray, List.set_cons_zero, List.set_cons_succ]
      refine AnyT.pick (i := 5) (oi := ⟨_, _, _, _, _, _⟩) (v := ?_) rfl (by kernel_rfl) (by kernel_rfl) (by kernel_rfl) (fun _ _ _ h => h) (Or.inl ⟨by rfl, ?y5_47⟩) ?_
      case' y5_47 => ((intro w hSw; go_simp) <;> (with_reducible rfl))
      try simp only [Act.put, List.setIfInBounds_toArray, List.set_cons_zero, List.set_cons_succ]
      refine AnyT.pick (i := 6) (oi := ⟨_, _, _, _, _, _⟩) (v := ?_) rfl (by kernel_rfl) (by kernel_rfl) (by kernel_rfl) (fun _ _ _ h => h) (Or.inl ⟨by rfl, ?y6_48⟩) ?_
      case' y6_48 => ((intro w hSw; go_simp) <;> (with_reducible rfl))
      try simp only [Act.put, List.setIfInBounds_toArray, List.set_cons_zero, List.set_cons_succ]
      refine AnyT.take (i := 7) (oi := ⟨_, _, _, _, _, _⟩) (v := ?_) rfl (by kernel_rfl) (by kernel_rfl) (by kernel_rfl) (by kernel_rfl) (fun _ _ _ h => h) (Or.inl ⟨by rfl, ?y7_49⟩) (by assumption) ?_
      case' y7_49 => ((intro w hSw; (try dsimp only at hSw); go_simp) <;> (with_reducible rfl))
      try simp only [Act.put, List.setIfInBounds_toArray, List.set_cons_zero, List.set_cons_succ]
      refine AnyT.pick (i := 8) (oi := ⟨_, _, _, _, _, _⟩) (v := ?_) rfl (by kernel_rfl) (by kernel_rfl) (by kernel_rfl) (fun _ _ _ h => h) (Or.inl ⟨by rfl, ?y8_50⟩) ?_
      case' y8_50 => ((intro w hSw; go_simp) <;> (with_reducible rfl))
      try simp only [Act.put, List.setIfInBounds_toArray, List.set_cons_zero, List.set_cons_succ]
      refine AnyT.pick (i := 9) (oi := ⟨_, _, _, _, _, _⟩) (v := ?_) rfl (by kernel_rfl) (by kernel_rfl) (by kernel_rfl) (fun _ _ _ h => h) (Or.inl ⟨by rfl, ?y9_51⟩) ?_
      case' y9_51 => ((intro w hSw; go_simp) <;> (with_reducible rfl))
      try simp only [Act.put, List.setIfInBounds_toArray, List.set_cons_zero, List.set_cons_succ]
      refine AnyT.pick (i := 10) (oi := ⟨_, _, _, _, _, _⟩) (v := ?_) rfl (by kernel_rfl) (by kernel_rfl) (by kernel_rfl) (fun _ _ _ h => h) (Or.inl ⟨by rfl, ?y10_52⟩) ?_
      case' y10_52 => ((intro w hSw; go_simp) <;> (with_reducible rfl))
      try simp only [Act.put, List.setIfInBounds_toArray, List.set_cons_zero, List.set_cons_succ]
      refine AnyT.pick (i := 11) (oi := ⟨_, _, _, _, _, _⟩) (v := ?_) rfl (by kernel_rfl) (by kernel_rfl) (by kernel_rfl) (fun _ _ _ h => h) (Or.inl ⟨by rfl, ?y11_53⟩) ?_
      case' y11_53 => ((intro w hSw; go_simp) <;> (with_reducible rfl))
      try simp only [Act.put, List.setIfInBounds_toArray, List.set_cons_zero, List.set_cons_succ]
      refine AnyT.take (i := 12) (oi := ⟨_, _, _, _, _, _⟩) (v := ?_) rfl (by kernel_rfl) (by kernel_rfl) (by kernel_rfl) (by kernel_rfl) (fun _ _ _ h => h) (Or.inl ⟨by rfl, ?y12_54⟩) (by assumption) ?_
      case' y12_54 => ((intro w hSw; (try dsimp only at hSw); go_simp) <;> (with_reducible rfl))
      try simp only [Act.put, List.setIfInBounds_toArray, List.set_cons_zero, List.set_cons_succ]
      refine AnyT.pick (i := 13) (oi := ⟨_, _, _, _, _, _⟩) (v := ?_) rfl (by kernel_rfl) (by kernel_rfl) (by kernel_rfl) (fun _ _ _ h => h) (Or.inl ⟨by rfl, ?y13_55⟩) ?_
      case' y13_55 => ((intro w hSw; go_simp) <;> (with_reducible rfl))
      try simp only [Act.put, List.setIfInBounds_toArray, List.set_cons_zero, List.set_cons_succ]
      refine AnyT.pick (i := 14) (oi := ⟨_, _, _, _, _, _⟩) (v := ?_) rfl (by kernel_rfl) (by kernel_rfl) (by kernel_rfl) (fun _ _ _ h => h) (Or.inl ⟨by rfl, ?y14_56⟩) ?_
      case' y14_56 => ((intro w hSw; go_simp) <;> (with_reducible rfl))
      try simp only [Act.put, List.setIfInBounds_toArray, List.set_cons_zero, List.set_cons_succ]
      refine AnyT.take (i := 15) (oi := ⟨_, _, _, _, _, _⟩) (v := ?_) rfl (by kernel_rfl) (by kernel_rfl) (by kernel_rfl) (by kernel_rfl) (fun _ _ _ h => h) (Or.inl ⟨by rfl, ?y15_57⟩) (by assumption) ?_
      case' y15_57 => ((intro w hSw; (try dsimp only at hSw); go_simp) <;> (with_reducible rfl))
      try simp only [Act.put, List.setIfInBounds_toArray, List.set_cons_zero, List.set_cons_succ]
      refine AnyT.pick (i := 16) (oi := ⟨_, _, _, _, _, _⟩) (v := ?_) rfl (by kernel_rfl) (by kernel_rfl) (by kernel_rfl) (fun _ _ _ h => h) (Or.inl ⟨by rfl, ?y16_58⟩) ?_
      case' y16_58 => ((intro w hSw; go_simp) <;> (with_reducible rfl))
      try simp only [Act.put, List.setIfInBounds_toArray, List.set_cons_zero, List.set_cons_succ]
      refine AnyT.pick (i := 17) (oi := ⟨_, _, _, _, _, _⟩) (v := ?_) rfl (by kernel_rfl) (by kernel_rfl) (by kernel_rfl) (fun _ _ _ h => h) (Or.inl ⟨by rfl, ?y17_59⟩) ?_
      case' y17_59 => ((intro w hSw; go_simp) <;> (with_reducible rfl))
      try simp only [Act.put, List.setIfInBounds_toArray, List.set_cons_zero, List.set_cons_succ]
      refine AnyT.pick (i := 18) (oi := ⟨_, _, _, _, _, _⟩) (v := ?_) rfl (by kernel_rfl) (by kernel_rfl) (by kernel_rfl) (fun _ _ _ h => h) (Or.inl ⟨by rfl, ?y18_60⟩) ?_
      case' y18_60 => ((intro w hSw; go_simp) <;> (with_reducible rfl))
      try simp only [Act.put, List.setIfInBounds_toArray, List.set_cons_zero, List.set_cons_succ]
      refine AnyT.pick (i := 19) (oi := ⟨_, _, _, _, _, _⟩) (v := ?_) rfl (by kernel_rfl) (by kernel_rfl) (by kernel_rfl) (fun _ _ _ h => h) (Or.inl ⟨by rfl, ?y19_61⟩) ?_
      case' y19_61 => ((intro w hSw; go_simp) <;> (with_reducible rfl))
      try simp only [Act.put, List.setIfInBounds_toArray, List.set_cons_zero, List.set_cons_succ]
      refine AnyT.take (i := 20) (oi := ⟨_, _, _, _, _, _⟩) (v := ?_) rfl (by kernel_rfl) (by kernel_rfl) (by kernel_rfl) (by kernel_rfl) (fun _ _ _ h => h) (Or.inl ⟨by rfl, ?y20_62⟩) (by assumption) ?_
      case' y20_62 => ((intro w hSw; (try dsimp only at hSw); go_simp) <;> (with_reducible rfl))
      try simp only [Act.put, List.setIfInBounds_toArray, List.set_cons_zero, List.set_cons_succ]
      refine AnyT.pick (i := 21) (oi := ⟨_, _, _, _, _, _⟩) (v := ?_) rfl (by kernel_rfl) (by kernel_rfl) (by kernel_rfl) (fun _ _ _ h => h) (Or.inl ⟨by rfl, ?y21_63⟩) ?_
      case' y21_63 => ((intro w hSw; go_simp) <;> (with_reducible rfl))
      try simp only [Act.put, List.setIfInBounds_toArray, List.set_cons_zero, List.set_cons_succ]
      refine AnyT.pick (i := 22) (oi := ⟨_, _, _, _, _, _⟩) (v := ?_) rfl (by kernel_rfl) (by kernel_rfl) (by kernel_rfl) (fun _ _ _ h => h) (Or.inl ⟨by rfl, ?y22_64⟩) ?_
      case' y22_64 => ((intro w hSw; go_simp) <;> (with_reducible rfl))
      try simp only [Act.put, List.setIfInBounds_toArray, List.set_cons_zero, List.set_cons_succ]
      refine AnyT.take (i := 23) (oi := ⟨_, _, _, _, _, _⟩) (v := ?_) rfl (by kernel_rfl) (by kernel_rfl) (by kernel_rfl) (by kernel_rfl) (fun _ _ _ h => h) (Or.inl ⟨by rfl, ?y23_65⟩) (by assumption) ?_
      case' y23_65 => ((intro w hSw; (try dsimp only at hSw); go_simp) <;> (with_reducible rfl))
      try simp only [Act.put, List.setIfInBounds_toArray, List.set_cons_zero, List.set_cons_succ]
      refine AnyT.pick (i := 24) (oi := ⟨_, _, _, _, _, _⟩) (v := ?_) rfl (by kernel_rfl) (by kernel_rfl) (by kernel_rfl) (fun _ _ _ h => h) (Or.inl ⟨by rfl, ?y24_66⟩) ?_
      case' y24_66 => ((intro w hSw; go_simp) <;> (with_reducible rfl))
      try simp only [Act.put, List.setIfInBounds_toArray, List.set_cons_zero, List.set_cons_succ]
      refine AnyT.take (i := 25) (oi := ⟨_, _, _, _, _, _⟩) (v := ?_) rfl (by kernel_rfl) (by kernel_rfl) (by kernel_rfl) (by kernel_rfl) (fun _ _ _ h => h) (Or.inl ⟨by rfl, ?y25_67⟩) (by assumption) ?_
      case' y25_67 => ((intro w hSw; (try dsimp only at hSw); go_simp) <;> (with_reducible rfl))
      try simp only [Act.put, List.setIfInBounds_toArray, List.set_cons_zero, List.set_cons_succ]
      refine AnyT.pick (i := 26) (oi := ⟨_, _, _, _, _, _⟩) (v := ?_) rfl (by kernel_rfl) (by kernel_rfl) (by kernel_rfl) (fun _ _ _ h => h) (Or.inl ⟨by rfl, ?y26_68⟩) ?_
      case' y26_68 => ((intro w hSw; go_simp) <;> (with_reducible rfl))
      try simp only [Act.put, List.setIfInBounds_toArray, List.set_cons_zero, List.set_cons_succ]
      refine AnyT.pick (i := 27) (oi := ⟨_, _, _, _, _, _⟩) (v := ?_) rfl (by kernel_rfl) (by kernel_rfl) (by kernel_rfl) (fun _ _ _ h => h) (Or.inl ⟨by rfl, ?y27_69⟩) ?_
      case' y27_69 => ((intro w hSw; go_simp) <;> (with_reducible rfl))
      try simp only [Act.put, List.setIfInBounds_toArray, List.set_cons_zero, List.set_cons_succ]
      refine AnyT.take (i := 28) (oi := ⟨_, _, _, _, _, _⟩) (v := ?_) rfl (by kernel_rfl) (by kernel_rfl) (by kernel_rfl) (by kernel_rfl) (fun _ _ _ h => h) (Or.inl ⟨by rfl, ?y28_70⟩) (by assumption) ?_
      case' y28_70 => ((intro w hSw; (try dsimp only at hSw); go_simp) <;> (with_reducible rfl))
      try simp only [Act.put, List.setIfInBounds_toArray, List.set_cons_zero, List.set_cons_succ]
      refine AllT.go (rs := [29]) (by kernel_rfl) (by simp) ?_
      refine AllT.early (o := ⟨_, _, _, _, _, _⟩) rfl (fun K hK => ?_) ?_
      · go_simp
        go_at_call 15
        refine (reg_x _ hv _ _ f.params f.regs hv' g.held _ (HG.out.1.up (Up.trans hUd hU3)) HG.out.2).mono ?_
        rintro e w4 ⟨rfl, hU4⟩
        refine hK.out _ _ (HS.out _ (Up.trans hUd (Up.trans hU3 hU4))) (fun _ => ?_)
        clear hK K
        try simp only [Act.put, List.setIfInBounds_toArray, List.set_cons_zero, List.set_cons_succ]
        refine AnyT.pick (i := 30) (oi := ⟨_, _, _, _, _, _⟩) (v := ?_) rfl (by kernel_rfl) (by kernel_rfl) (by kernel_rfl) (fun _ _ _ h => h) (Or.inl ⟨by rfl, ?y30_71⟩) ?_
        case' y30_71 => ((intro w hSw; go_simp) <;> (with_reducible rfl))
        try simp only [Act.put, List.setIfInBounds_toArray, List.set_cons_zero, List.set_cons_succ]
        refine AnyT.pick (i := 31) (oi := ⟨_, _, _, _, _, _⟩) (v := ?_) rfl (by kernel_rfl) (by kernel_rfl) (by kernel_rfl) (fun _ _ _ h => h) (Or.inl ⟨by rfl, ?y31_72⟩) ?_
        case' y31_72 => ((intro w hSw; go_simp) <;> (with_reducible rfl))
        try simp only [Act.put, List.setIfInBounds_toArray, List.set_cons_zero, List.set_cons_succ]
        refine AnyT.done (by kernel_rfl) ?_ _
        go_wp2_with fail
        go_ret
        exact ⟨(by first | rfl | (rw [hI]; rfl)), Up.trans U2 (Up.trans hUd (Up.trans hU3 hU4))⟩
      exact AllT.nil
    exact AllT.nil
  exact AllT.nil
end
/-- instr of any op. -/
theorem instr_x (Fs : List Fn) (f : Fn) (mv hv cv dv : Value) (x : Ins) (w : World) (hF : FnsAt w mv Fs) (hf : FnIs w f hv cv dv) (hh : ∀ g ∈ Fs, g.held.length ≤ 1000000) (hR : -4000000000 ≤ f.regs ∧ f.regs ≤ 4000000000) (ho : 0 ≤ x.op ∧ x.op ≤ 23) (hb : -4000000000 ≤ x.b ∧ x.b ≤ 4000000000) :
    Calls Tryz.prog 10 #[.agg #[mv, .int .i64 f.params, hv, .int .i64 f.regs, cv, dv], .agg #[.int .u8 x.op, .int .i64 x.a, .int .i64 x.b, .int .i64 x.c]] w fun e w' => e = .returned (.bool (insOk Fs f x)) ∧ Up w w' := by
  obtain ⟨-, ⟨ca, cc, rfl⟩, da, dc, rfl, -⟩ := hf
  obtain ⟨ma, mc, rfl, hm⟩ := hF
  obtain ⟨op, a, b, c⟩ := x
  simp only at ho hb ⊢
  by_cases h5 : op = 5
  · subst h5
    cases hA : rOk f.regs a
    · exact instr5_0 hv a c Fs f ma ca da mc cc dc w b hA
    by_cases h0 : 0 < b
    · by_cases hl : b < (Fs.length : Int)
      · obtain ⟨k, rfl⟩ : ∃ k : Nat, b = (k : Int) := ⟨b.toNat, by omega⟩
        obtain ⟨gb, go, rfl, hgb, hx⟩ := hm.resolve_left (by omega)
        obtain ⟨g, hg⟩ : ∃ g, Fs[k]? = some g := ⟨_, List.getElem?_eq_getElem (by omega)⟩
        obtain ⟨hv', cv', dv', h1, h2, h3, h4, h5, h6⟩ := hx k g hg
        exact instr5_3 hv a c Fs f ca da mc cc dc w k gb go g hv' hA (by omega) (by omega) hg h3 h1.1 (hh g (List.mem_of_getElem? hg))
      · exact instr5_2 hv a c Fs f ma ca da mc cc dc w b hA h0 hl
    · exact instr5_1 hv a c Fs f ma ca da mc cc dc w b hA h0
  obtain rfl | rfl | rfl | rfl | rfl | rfl | rfl | rfl | rfl | rfl | rfl | rfl | rfl | rfl | rfl | rfl | rfl | rfl | rfl | rfl | rfl | rfl | rfl : op = 0 ∨ op = 1 ∨ op = 2 ∨ op = 3 ∨ op = 4 ∨ op = 6 ∨ op = 7 ∨ op = 8 ∨ op = 9 ∨ op = 10 ∨ op = 11 ∨ op = 12 ∨ op = 13 ∨ op = 14 ∨ op = 15 ∨ op = 16 ∨ op = 17 ∨ op = 18 ∨ op = 19 ∨ op = 20 ∨ op = 21 ∨ op = 22 ∨ op = 23 := by omega
  · exact instr_0 _ hv a b c Fs f ca da cc dc w
  · exact instr_1 _ hv a b c Fs f ca da cc dc w
  · exact instr_2 _ hv a b c Fs f ca da cc dc w
  · exact instr_3 _ hv a b c Fs f ca da cc dc w
  · exact instr_4 _ hv a b c Fs f ca da cc dc w
  · exact instr_6 _ hv a b c Fs f ca da cc dc w hb hR
  · exact instr_7 _ hv a b c Fs f ca da cc dc w
  · exact instr_8 _ hv a b c Fs f ca da cc dc w
  · exact instr_9 _ hv a b c Fs f ca da cc dc w
  · exact instr_10 _ hv a b c Fs f ca da cc dc w
  · exact instr_11 _ hv a b c Fs f ca da cc dc w
  · exact instr_12 _ hv a b c Fs f ca da cc dc w
  · exact instr_13 _ hv a b c Fs f ca da cc dc w
  · exact instr_14 _ hv a b c Fs f ca da cc dc w
  · exact instr_15 _ hv a b c Fs f ca da cc dc w
  · exact instr_16 _ hv a b c Fs f ca da cc dc w
  · exact instr_17 _ hv a b c Fs f ca da cc dc w
  · exact instr_18 _ hv a b c Fs f ca da cc dc w
  · exact instr_19 _ hv a b c Fs f ca da cc dc w
  · exact instr_20 _ hv a b c Fs f ca da cc dc w
  · exact instr_21 _ hv a b c Fs f ca da cc dc w
  · exact instr_22 _ hv a b c Fs f ca da cc dc w
  · exact instr_23 _ hv a b c Fs f ca da cc dc w
end Go.Proofs.YtffcdoiikefpcaaGreatDoor.vl
