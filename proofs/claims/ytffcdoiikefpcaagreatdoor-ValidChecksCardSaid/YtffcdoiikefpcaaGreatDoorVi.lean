/- valid's checker: instr, walked op by op (printed by vi_gen.py). -/
import Derived.Test.YtffcdoiikefpcaaGreatDoorVr
import Derived.Test.YtffcdoiikefpcaaGreatDoorWt
set_option linter.unusedVariables false
set_option linter.unusedSimpArgs false
namespace Go.Proofs.YtffcdoiikefpcaaGreatDoor.vl
open Go.RowKit Go.Maps mem
attribute [local go_sem ↓] Go.wp_at_zero Go.wp_at_succ
set_option maxRecDepth 100000
set_option maxHeartbeats 1000000
theorem ints_new (w : World) (l : List Int) (t : TypeId) : IntsAt (w.alloc (.cells (l.map (Value.int .i64)).toArray t)) (.slice (some ⟨w.heap.size, 0, none⟩) l.length l.length) l := by
  refine ⟨_, _, rfl, .inr ⟨_, 0, rfl, by simp [World.size_alloc], fun i x hx => ?_⟩⟩
  rw [(Blk.new w _ t).cell (0 + i), Nat.zero_add, List.getElem?_toArray, List.getElem?_map, hx]
  rfl
theorem two_new (w : World) (c6 c4 : Array Value) (t6 t4 : TypeId) : Blk ((w.alloc (.cells c6 t6)).alloc (.cells c4 t4)) w.heap.size c6 t6 ∧ Blk ((w.alloc (.cells c6 t6)).alloc (.cells c4 t4)) (w.heap.size + 1) c4 t4 ∧ Up w ((w.alloc (.cells c6 t6)).alloc (.cells c4 t4)) := by
  refine ⟨(Blk.new w c6 t6).chg ((Up.refl _).alloc _).chg (by simp), ?_, ((Up.refl w).alloc _).alloc _⟩
  have h := Blk.new (w.alloc (.cells c6 t6)) c4 t4
  rw [World.size_alloc] at h
  exact h
section
variable (mv hv cv dv : Value) (p R a b c : Int) (q : Bool)
theorem reg1 (h : rOk R a = q) (wx : World) (t : TypeId) : Calls Tryz.prog 15 #[.agg #[mv, .int .i64 p, hv, .int .i64 R, cv, dv], .slice (some ⟨wx.heap.size, 0, none⟩) 1 1] (wx.alloc (.cells #[.int .i64 a] t)) fun e w' => e = .returned (.bool q) ∧ Up wx w' := by
  refine (reg_x mv hv cv dv p R _ [a] _ (ints_new wx [a] t) (by simp)).mono ?_
  rintro e w' ⟨rfl, hU⟩
  exact ⟨by rw [← h]; simp [allR], Up.trans ((Up.refl wx).alloc _) hU⟩
theorem reg2 (h : (rOk R a && rOk R b) = q) (wx : World) (t : TypeId) : Calls Tryz.prog 15 #[.agg #[mv, .int .i64 p, hv, .int .i64 R, cv, dv], .slice (some ⟨wx.heap.size, 0, none⟩) 2 2] (wx.alloc (.cells #[.int .i64 a, .int .i64 b] t)) fun e w' => e = .returned (.bool q) ∧ Up wx w' := by
  refine (reg_x mv hv cv dv p R _ [a, b] _ (ints_new wx [a, b] t) (by simp)).mono ?_
  rintro e w' ⟨rfl, hU⟩
  exact ⟨by rw [← h]; simp [allR], Up.trans ((Up.refl wx).alloc _) hU⟩
theorem reg3 (h : (rOk R a && (rOk R b && rOk R c)) = q) (wx : World) (t : TypeId) : Calls Tryz.prog 15 #[.agg #[mv, .int .i64 p, hv, .int .i64 R, cv, dv], .slice (some ⟨wx.heap.size, 0, none⟩) 3 3] (wx.alloc (.cells #[.int .i64 a, .int .i64 b, .int .i64 c] t)) fun e w' => e = .returned (.bool q) ∧ Up wx w' := by
  refine (reg_x mv hv cv dv p R _ [a, b, c] _ (ints_new wx [a, b, c] t) (by simp)).mono ?_
  rintro e w' ⟨rfl, hU⟩
  exact ⟨by rw [← h]; simp [allR], Up.trans ((Up.refl wx).alloc _) hU⟩
end
section
variable (mv hv : Value) (a b c : Int) (Fs : List Fn) (f : Fn) (ca da : Option Addr) (cc dc : Nat) (w : World)
theorem instr_2 : Calls Tryz.prog 10 #[.agg #[mv, .int .i64 f.params, hv, .int .i64 f.regs, .slice ca f.consts cc, .slice da f.code.length dc], .agg #[.int .u8 2, .int .i64 a, .int .i64 b, .int .i64 c]] w fun e w' => e = .returned (.bool (insOk Fs f ⟨2, a, b, c⟩)) ∧ Up w w' := by
  have hI : insOk Fs f ⟨2, a, b, c⟩ = rOk f.regs a := by simp [insOk]
  obtain ⟨q, hA⟩ : ∃ q, rOk f.regs a = q := ⟨_, rfl⟩
  rw [hA] at hI
  go_enter Tryz.func10, Tryz.ntmps10
  go_upto_region 1 with (fail)
  obtain ⟨B2, B3, U2⟩ := two_new w #[mv, .int .i64 f.params, hv, .int .i64 f.regs, .slice ca f.consts cc, .slice da f.code.length dc] #[.int .u8 2, .int .i64 a, .int .i64 b, .int .i64 c] 50 45
  generalize World.alloc (World.alloc w _) _ = W2 at B2 B3 U2 ⊢
  generalize w.heap.size + 1 = b3 at B3 ⊢
  generalize w.heap.size = b2 at B2 ⊢
  have d0 : W2.cell? ⟨b2, 0, none⟩ = some mv := B2.cell 0
  have d1 : W2.cell? ⟨b2, 1, none⟩ = some (.int .i64 f.params) := B2.cell 1
  have d2 : W2.cell? ⟨b2, 2, none⟩ = some hv := B2.cell 2
  have d3 : W2.cell? ⟨b2, 3, none⟩ = some (.int .i64 f.regs) := B2.cell 3
  have d4 : W2.cell? ⟨b2, 4, none⟩ = some (.slice ca f.consts cc) := B2.cell 4
  have d5 : W2.cell? ⟨b2, 5, none⟩ = some (.slice da f.code.length dc) := B2.cell 5
  have e0 : W2.cell? ⟨b3, 0, none⟩ = some (.int .u8 2) := B3.cell 0
  have e1 : W2.cell? ⟨b3, 1, none⟩ = some (.int .i64 a) := B3.cell 1
  have e2 : W2.cell? ⟨b3, 2, none⟩ = some (.int .i64 b) := B3.cell 2
  have e3 : W2.cell? ⟨b3, 3, none⟩ = some (.int .i64 c) := B3.cell 3
  have l2 : b2 < W2.heap.size := B2.lt
  have l3 : b3 < W2.heap.size := B3.lt
  clear B2 B3
  go_wp2_with (go_at_call 15; refine (reg1 mv hv _ _ f.params f.regs a _ hA _ _).mono ?_; rintro e w3 ⟨rfl, hU3⟩)
  go_ret
  exact ⟨(by first | rfl | (rw [hI]; rfl)), Up.trans U2 hU3⟩
theorem instr_18 : Calls Tryz.prog 10 #[.agg #[mv, .int .i64 f.params, hv, .int .i64 f.regs, .slice ca f.consts cc, .slice da f.code.length dc], .agg #[.int .u8 18, .int .i64 a, .int .i64 b, .int .i64 c]] w fun e w' => e = .returned (.bool (insOk Fs f ⟨18, a, b, c⟩)) ∧ Up w w' := by
  have hI : insOk Fs f ⟨18, a, b, c⟩ = rOk f.regs a := by simp [insOk]
  obtain ⟨q, hA⟩ : ∃ q, rOk f.regs a = q := ⟨_, rfl⟩
  rw [hA] at hI
  go_enter Tryz.func10, Tryz.ntmps10
  go_upto_region 1 with (fail)
  obtain ⟨B2, B3, U2⟩ := two_new w #[mv, .int .i64 f.params, hv, .int .i64 f.regs, .slice ca f.consts cc, .slice da f.code.length dc] #[.int .u8 18, .int .i64 a, .int .i64 b, .int .i64 c] 50 45
  generalize World.alloc (World.alloc w _) _ = W2 at B2 B3 U2 ⊢
  generalize w.heap.size + 1 = b3 at B3 ⊢
  generalize w.heap.size = b2 at B2 ⊢
  have d0 : W2.cell? ⟨b2, 0, none⟩ = some mv := B2.cell 0
  have d1 : W2.cell? ⟨b2, 1, none⟩ = some (.int .i64 f.params) := B2.cell 1
  have d2 : W2.cell? ⟨b2, 2, none⟩ = some hv := B2.cell 2
  have d3 : W2.cell? ⟨b2, 3, none⟩ = some (.int .i64 f.regs) := B2.cell 3
  have d4 : W2.cell? ⟨b2, 4, none⟩ = some (.slice ca f.consts cc) := B2.cell 4
  have d5 : W2.cell? ⟨b2, 5, none⟩ = some (.slice da f.code.length dc) := B2.cell 5
  have e0 : W2.cell? ⟨b3, 0, none⟩ = some (.int .u8 18) := B3.cell 0
  have e1 : W2.cell? ⟨b3, 1, none⟩ = some (.int .i64 a) := B3.cell 1
  have e2 : W2.cell? ⟨b3, 2, none⟩ = some (.int .i64 b) := B3.cell 2
  have e3 : W2.cell? ⟨b3, 3, none⟩ = some (.int .i64 c) := B3.cell 3
  have l2 : b2 < W2.heap.size := B2.lt
  have l3 : b3 < W2.heap.size := B3.lt
  clear B2 B3
  go_wp2_with (go_at_call 15; refine (reg1 mv hv _ _ f.params f.regs a _ hA _ _).mono ?_; rintro e w3 ⟨rfl, hU3⟩)
  go_ret
  exact ⟨(by first | rfl | (rw [hI]; rfl)), Up.trans U2 hU3⟩
theorem instr_19 : Calls Tryz.prog 10 #[.agg #[mv, .int .i64 f.params, hv, .int .i64 f.regs, .slice ca f.consts cc, .slice da f.code.length dc], .agg #[.int .u8 19, .int .i64 a, .int .i64 b, .int .i64 c]] w fun e w' => e = .returned (.bool (insOk Fs f ⟨19, a, b, c⟩)) ∧ Up w w' := by
  have hI : insOk Fs f ⟨19, a, b, c⟩ = rOk f.regs a := by simp [insOk]
  obtain ⟨q, hA⟩ : ∃ q, rOk f.regs a = q := ⟨_, rfl⟩
  rw [hA] at hI
  go_enter Tryz.func10, Tryz.ntmps10
  go_upto_region 1 with (fail)
  obtain ⟨B2, B3, U2⟩ := two_new w #[mv, .int .i64 f.params, hv, .int .i64 f.regs, .slice ca f.consts cc, .slice da f.code.length dc] #[.int .u8 19, .int .i64 a, .int .i64 b, .int .i64 c] 50 45
  generalize World.alloc (World.alloc w _) _ = W2 at B2 B3 U2 ⊢
  generalize w.heap.size + 1 = b3 at B3 ⊢
  generalize w.heap.size = b2 at B2 ⊢
  have d0 : W2.cell? ⟨b2, 0, none⟩ = some mv := B2.cell 0
  have d1 : W2.cell? ⟨b2, 1, none⟩ = some (.int .i64 f.params) := B2.cell 1
  have d2 : W2.cell? ⟨b2, 2, none⟩ = some hv := B2.cell 2
  have d3 : W2.cell? ⟨b2, 3, none⟩ = some (.int .i64 f.regs) := B2.cell 3
  have d4 : W2.cell? ⟨b2, 4, none⟩ = some (.slice ca f.consts cc) := B2.cell 4
  have d5 : W2.cell? ⟨b2, 5, none⟩ = some (.slice da f.code.length dc) := B2.cell 5
  have e0 : W2.cell? ⟨b3, 0, none⟩ = some (.int .u8 19) := B3.cell 0
  have e1 : W2.cell? ⟨b3, 1, none⟩ = some (.int .i64 a) := B3.cell 1
  have e2 : W2.cell? ⟨b3, 2, none⟩ = some (.int .i64 b) := B3.cell 2
  have e3 : W2.cell? ⟨b3, 3, none⟩ = some (.int .i64 c) := B3.cell 3
  have l2 : b2 < W2.heap.size := B2.lt
  have l3 : b3 < W2.heap.size := B3.lt
  clear B2 B3
  go_wp2_with (go_at_call 15; refine (reg1 mv hv _ _ f.params f.regs a _ hA _ _).mono ?_; rintro e w3 ⟨rfl, hU3⟩)
  go_ret
  exact ⟨(by first | rfl | (rw [hI]; rfl)), Up.trans U2 hU3⟩
theorem instr_1 : Calls Tryz.prog 10 #[.agg #[mv, .int .i64 f.params, hv, .int .i64 f.regs, .slice ca f.consts cc, .slice da f.code.length dc], .agg #[.int .u8 1, .int .i64 a, .int .i64 b, .int .i64 c]] w fun e w' => e = .returned (.bool (insOk Fs f ⟨1, a, b, c⟩)) ∧ Up w w' := by
  have hI : insOk Fs f ⟨1, a, b, c⟩ = (rOk f.regs a && rOk f.regs b) := by simp [insOk]
  obtain ⟨q, hA⟩ : ∃ q, (rOk f.regs a && rOk f.regs b) = q := ⟨_, rfl⟩
  rw [hA] at hI
  go_enter Tryz.func10, Tryz.ntmps10
  go_upto_region 1 with (fail)
  obtain ⟨B2, B3, U2⟩ := two_new w #[mv, .int .i64 f.params, hv, .int .i64 f.regs, .slice ca f.consts cc, .slice da f.code.length dc] #[.int .u8 1, .int .i64 a, .int .i64 b, .int .i64 c] 50 45
  generalize World.alloc (World.alloc w _) _ = W2 at B2 B3 U2 ⊢
  generalize w.heap.size + 1 = b3 at B3 ⊢
  generalize w.heap.size = b2 at B2 ⊢
  have d0 : W2.cell? ⟨b2, 0, none⟩ = some mv := B2.cell 0
  have d1 : W2.cell? ⟨b2, 1, none⟩ = some (.int .i64 f.params) := B2.cell 1
  have d2 : W2.cell? ⟨b2, 2, none⟩ = some hv := B2.cell 2
  have d3 : W2.cell? ⟨b2, 3, none⟩ = some (.int .i64 f.regs) := B2.cell 3
  have d4 : W2.cell? ⟨b2, 4, none⟩ = some (.slice ca f.consts cc) := B2.cell 4
  have d5 : W2.cell? ⟨b2, 5, none⟩ = some (.slice da f.code.length dc) := B2.cell 5
  have e0 : W2.cell? ⟨b3, 0, none⟩ = some (.int .u8 1) := B3.cell 0
  have e1 : W2.cell? ⟨b3, 1, none⟩ = some (.int .i64 a) := B3.cell 1
  have e2 : W2.cell? ⟨b3, 2, none⟩ = some (.int .i64 b) := B3.cell 2
  have e3 : W2.cell? ⟨b3, 3, none⟩ = some (.int .i64 c) := B3.cell 3
  have l2 : b2 < W2.heap.size := B2.lt
  have l3 : b3 < W2.heap.size := B3.lt
  clear B2 B3
  go_wp2_with (go_at_call 15; refine (reg2 mv hv _ _ f.params f.regs a b _ hA _ _).mono ?_; rintro e w3 ⟨rfl, hU3⟩)
  go_ret
  exact ⟨(by first | rfl | (rw [hI]; rfl)), Up.trans U2 hU3⟩
theorem instr_7 : Calls Tryz.prog 10 #[.agg #[mv, .int .i64 f.params, hv, .int .i64 f.regs, .slice ca f.consts cc, .slice da f.code.length dc], .agg #[.int .u8 7, .int .i64 a, .int .i64 b, .int .i64 c]] w fun e w' => e = .returned (.bool (insOk Fs f ⟨7, a, b, c⟩)) ∧ Up w w' := by
  have hI : insOk Fs f ⟨7, a, b, c⟩ = (rOk f.regs a && rOk f.regs b) := by simp [insOk]
  obtain ⟨q, hA⟩ : ∃ q, (rOk f.regs a && rOk f.regs b) = q := ⟨_, rfl⟩
  rw [hA] at hI
  go_enter Tryz.func10, Tryz.ntmps10
  go_upto_region 1 with (fail)
  obtain ⟨B2, B3, U2⟩ := two_new w #[mv, .int .i64 f.params, hv, .int .i64 f.regs, .slice ca f.consts cc, .slice da f.code.length dc] #[.int .u8 7, .int .i64 a, .int .i64 b, .int .i64 c] 50 45
  generalize World.alloc (World.alloc w _) _ = W2 at B2 B3 U2 ⊢
  generalize w.heap.size + 1 = b3 at B3 ⊢
  generalize w.heap.size = b2 at B2 ⊢
  have d0 : W2.cell? ⟨b2, 0, none⟩ = some mv := B2.cell 0
  have d1 : W2.cell? ⟨b2, 1, none⟩ = some (.int .i64 f.params) := B2.cell 1
  have d2 : W2.cell? ⟨b2, 2, none⟩ = some hv := B2.cell 2
  have d3 : W2.cell? ⟨b2, 3, none⟩ = some (.int .i64 f.regs) := B2.cell 3
  have d4 : W2.cell? ⟨b2, 4, none⟩ = some (.slice ca f.consts cc) := B2.cell 4
  have d5 : W2.cell? ⟨b2, 5, none⟩ = some (.slice da f.code.length dc) := B2.cell 5
  have e0 : W2.cell? ⟨b3, 0, none⟩ = some (.int .u8 7) := B3.cell 0
  have e1 : W2.cell? ⟨b3, 1, none⟩ = some (.int .i64 a) := B3.cell 1
  have e2 : W2.cell? ⟨b3, 2, none⟩ = some (.int .i64 b) := B3.cell 2
  have e3 : W2.cell? ⟨b3, 3, none⟩ = some (.int .i64 c) := B3.cell 3
  have l2 : b2 < W2.heap.size := B2.lt
  have l3 : b3 < W2.heap.size := B3.lt
  clear B2 B3
  go_wp2_with (go_at_call 15; refine (reg2 mv hv _ _ f.params f.regs a b _ hA _ _).mono ?_; rintro e w3 ⟨rfl, hU3⟩)
  go_ret
  exact ⟨(by first | rfl | (rw [hI]; rfl)), Up.trans U2 hU3⟩
theorem instr_8 : Calls Tryz.prog 10 #[.agg #[mv, .int .i64 f.params, hv, .int .i64 f.regs, .slice ca f.consts cc, .slice da f.code.length dc], .agg #[.int .u8 8, .int .i64 a, .int .i64 b, .int .i64 c]] w fun e w' => e = .returned (.bool (insOk Fs f ⟨8, a, b, c⟩)) ∧ Up w w' := by
  have hI : insOk Fs f ⟨8, a, b, c⟩ = (rOk f.regs a && rOk f.regs b) := by simp [insOk]
  obtain ⟨q, hA⟩ : ∃ q, (rOk f.regs a && rOk f.regs b) = q := ⟨_, rfl⟩
  rw [hA] at hI
  go_enter Tryz.func10, Tryz.ntmps10
  go_upto_region 1 with (fail)
  obtain ⟨B2, B3, U2⟩ := two_new w #[mv, .int .i64 f.params, hv, .int .i64 f.regs, .slice ca f.consts cc, .slice da f.code.length dc] #[.int .u8 8, .int .i64 a, .int .i64 b, .int .i64 c] 50 45
  generalize World.alloc (World.alloc w _) _ = W2 at B2 B3 U2 ⊢
  generalize w.heap.size + 1 = b3 at B3 ⊢
  generalize w.heap.size = b2 at B2 ⊢
  have d0 : W2.cell? ⟨b2, 0, none⟩ = some mv := B2.cell 0
  have d1 : W2.cell? ⟨b2, 1, none⟩ = some (.int .i64 f.params) := B2.cell 1
  have d2 : W2.cell? ⟨b2, 2, none⟩ = some hv := B2.cell 2
  have d3 : W2.cell? ⟨b2, 3, none⟩ = some (.int .i64 f.regs) := B2.cell 3
  have d4 : W2.cell? ⟨b2, 4, none⟩ = some (.slice ca f.consts cc) := B2.cell 4
  have d5 : W2.cell? ⟨b2, 5, none⟩ = some (.slice da f.code.length dc) := B2.cell 5
  have e0 : W2.cell? ⟨b3, 0, none⟩ = some (.int .u8 8) := B3.cell 0
  have e1 : W2.cell? ⟨b3, 1, none⟩ = some (.int .i64 a) := B3.cell 1
  have e2 : W2.cell? ⟨b3, 2, none⟩ = some (.int .i64 b) := B3.cell 2
  have e3 : W2.cell? ⟨b3, 3, none⟩ = some (.int .i64 c) := B3.cell 3
  have l2 : b2 < W2.heap.size := B2.lt
  have l3 : b3 < W2.heap.size := B3.lt
  clear B2 B3
  go_wp2_with (go_at_call 15; refine (reg2 mv hv _ _ f.params f.regs a b _ hA _ _).mono ?_; rintro e w3 ⟨rfl, hU3⟩)
  go_ret
  exact ⟨(by first | rfl | (rw [hI]; rfl)), Up.trans U2 hU3⟩
theorem instr_3 : Calls Tryz.prog 10 #[.agg #[mv, .int .i64 f.params, hv, .int .i64 f.regs, .slice ca f.consts cc, .slice da f.code.length dc], .agg #[.int .u8 3, .int .i64 a, .int .i64 b, .int .i64 c]] w fun e w' => e = .returned (.bool (insOk Fs f ⟨3, a, b, c⟩)) ∧ Up w w' := by
  have hI : insOk Fs f ⟨3, a, b, c⟩ = (rOk f.regs a && (rOk f.regs b && rOk f.regs c)) := by simp [insOk, Bool.and_assoc]
  obtain ⟨q, hA⟩ : ∃ q, (rOk f.regs a && (rOk f.regs b && rOk f.regs c)) = q := ⟨_, rfl⟩
  rw [hA] at hI
  go_enter Tryz.func10, Tryz.ntmps10
  go_upto_region 1 with (fail)
  obtain ⟨B2, B3, U2⟩ := two_new w #[mv, .int .i64 f.params, hv, .int .i64 f.regs, .slice ca f.consts cc, .slice da f.code.length dc] #[.int .u8 3, .int .i64 a, .int .i64 b, .int .i64 c] 50 45
  generalize World.alloc (World.alloc w _) _ = W2 at B2 B3 U2 ⊢
  generalize w.heap.size + 1 = b3 at B3 ⊢
  generalize w.heap.size = b2 at B2 ⊢
  have d0 : W2.cell? ⟨b2, 0, none⟩ = some mv := B2.cell 0
  have d1 : W2.cell? ⟨b2, 1, none⟩ = some (.int .i64 f.params) := B2.cell 1
  have d2 : W2.cell? ⟨b2, 2, none⟩ = some hv := B2.cell 2
  have d3 : W2.cell? ⟨b2, 3, none⟩ = some (.int .i64 f.regs) := B2.cell 3
  have d4 : W2.cell? ⟨b2, 4, none⟩ = some (.slice ca f.consts cc) := B2.cell 4
  have d5 : W2.cell? ⟨b2, 5, none⟩ = some (.slice da f.code.length dc) := B2.cell 5
  have e0 : W2.cell? ⟨b3, 0, none⟩ = some (.int .u8 3) := B3.cell 0
  have e1 : W2.cell? ⟨b3, 1, none⟩ = some (.int .i64 a) := B3.cell 1
  have e2 : W2.cell? ⟨b3, 2, none⟩ = some (.int .i64 b) := B3.cell 2
  have e3 : W2.cell? ⟨b3, 3, none⟩ = some (.int .i64 c) := B3.cell 3
  have l2 : b2 < W2.heap.size := B2.lt
  have l3 : b3 < W2.heap.size := B3.lt
  clear B2 B3
  go_wp2_with (go_at_call 15; refine (reg3 mv hv _ _ f.params f.regs a b c _ hA _ _).mono ?_; rintro e w3 ⟨rfl, hU3⟩)
  go_ret
  exact ⟨(by first | rfl | (rw [hI]; rfl)), Up.trans U2 hU3⟩
theorem instr_4 : Calls Tryz.prog 10 #[.agg #[mv, .int .i64 f.params, hv, .int .i64 f.regs, .slice ca f.consts cc, .slice da f.code.length dc], .agg #[.int .u8 4, .int .i64 a, .int .i64 b, .int .i64 c]] w fun e w' => e = .returned (.bool (insOk Fs f ⟨4, a, b, c⟩)) ∧ Up w w' := by
  have hI : insOk Fs f ⟨4, a, b, c⟩ = (rOk f.regs a && (rOk f.regs b && rOk f.regs c)) := by simp [insOk, Bool.and_assoc]
  obtain ⟨q, hA⟩ : ∃ q, (rOk f.regs a && (rOk f.regs b && rOk f.regs c)) = q := ⟨_, rfl⟩
  rw [hA] at hI
  go_enter Tryz.func10, Tryz.ntmps10
  go_upto_region 1 with (fail)
  obtain ⟨B2, B3, U2⟩ := two_new w #[mv, .int .i64 f.params, hv, .int .i64 f.regs, .slice ca f.consts cc, .slice da f.code.length dc] #[.int .u8 4, .int .i64 a, .int .i64 b, .int .i64 c] 50 45
  generalize World.alloc (World.alloc w _) _ = W2 at B2 B3 U2 ⊢
  generalize w.heap.size + 1 = b3 at B3 ⊢
  generalize w.heap.size = b2 at B2 ⊢
  have d0 : W2.cell? ⟨b2, 0, none⟩ = some mv := B2.cell 0
  have d1 : W2.cell? ⟨b2, 1, none⟩ = some (.int .i64 f.params) := B2.cell 1
  have d2 : W2.cell? ⟨b2, 2, none⟩ = some hv := B2.cell 2
  have d3 : W2.cell? ⟨b2, 3, none⟩ = some (.int .i64 f.regs) := B2.cell 3
  have d4 : W2.cell? ⟨b2, 4, none⟩ = some (.slice ca f.consts cc) := B2.cell 4
  have d5 : W2.cell? ⟨b2, 5, none⟩ = some (.slice da f.code.length dc) := B2.cell 5
  have e0 : W2.cell? ⟨b3, 0, none⟩ = some (.int .u8 4) := B3.cell 0
  have e1 : W2.cell? ⟨b3, 1, none⟩ = some (.int .i64 a) := B3.cell 1
  have e2 : W2.cell? ⟨b3, 2, none⟩ = some (.int .i64 b) := B3.cell 2
  have e3 : W2.cell? ⟨b3, 3, none⟩ = some (.int .i64 c) := B3.cell 3
  have l2 : b2 < W2.heap.size := B2.lt
  have l3 : b3 < W2.heap.size := B3.lt
  clear B2 B3
  go_wp2_with (go_at_call 15; refine (reg3 mv hv _ _ f.params f.regs a b c _ hA _ _).mono ?_; rintro e w3 ⟨rfl, hU3⟩)
  go_ret
  exact ⟨(by first | rfl | (rw [hI]; rfl)), Up.trans U2 hU3⟩
theorem instr_9 : Calls Tryz.prog 10 #[.agg #[mv, .int .i64 f.params, hv, .int .i64 f.regs, .slice ca f.consts cc, .slice da f.code.length dc], .agg #[.int .u8 9, .int .i64 a, .int .i64 b, .int .i64 c]] w fun e w' => e = .returned (.bool (insOk Fs f ⟨9, a, b, c⟩)) ∧ Up w w' := by
  have hI : insOk Fs f ⟨9, a, b, c⟩ = (rOk f.regs a && (rOk f.regs b && rOk f.regs c)) := by simp [insOk, Bool.and_assoc]
  obtain ⟨q, hA⟩ : ∃ q, (rOk f.regs a && (rOk f.regs b && rOk f.regs c)) = q := ⟨_, rfl⟩
  rw [hA] at hI
  go_enter Tryz.func10, Tryz.ntmps10
  go_upto_region 1 with (fail)
  obtain ⟨B2, B3, U2⟩ := two_new w #[mv, .int .i64 f.params, hv, .int .i64 f.regs, .slice ca f.consts cc, .slice da f.code.length dc] #[.int .u8 9, .int .i64 a, .int .i64 b, .int .i64 c] 50 45
  generalize World.alloc (World.alloc w _) _ = W2 at B2 B3 U2 ⊢
  generalize w.heap.size + 1 = b3 at B3 ⊢
  generalize w.heap.size = b2 at B2 ⊢
  have d0 : W2.cell? ⟨b2, 0, none⟩ = some mv := B2.cell 0
  have d1 : W2.cell? ⟨b2, 1, none⟩ = some (.int .i64 f.params) := B2.cell 1
  have d2 : W2.cell? ⟨b2, 2, none⟩ = some hv := B2.cell 2
  have d3 : W2.cell? ⟨b2, 3, none⟩ = some (.int .i64 f.regs) := B2.cell 3
  have d4 : W2.cell? ⟨b2, 4, none⟩ = some (.slice ca f.consts cc) := B2.cell 4
  have d5 : W2.cell? ⟨b2, 5, none⟩ = some (.slice da f.code.length dc) := B2.cell 5
  have e0 : W2.cell? ⟨b3, 0, none⟩ = some (.int .u8 9) := B3.cell 0
  have e1 : W2.cell? ⟨b3, 1, none⟩ = some (.int .i64 a) := B3.cell 1
  have e2 : W2.cell? ⟨b3, 2, none⟩ = some (.int .i64 b) := B3.cell 2
  have e3 : W2.cell? ⟨b3, 3, none⟩ = some (.int .i64 c) := B3.cell 3
  have l2 : b2 < W2.heap.size := B2.lt
  have l3 : b3 < W2.heap.size := B3.lt
  clear B2 B3
  go_wp2_with (go_at_call 15; refine (reg3 mv hv _ _ f.params f.regs a b c _ hA _ _).mono ?_; rintro e w3 ⟨rfl, hU3⟩)
  go_ret
  exact ⟨(by first | rfl | (rw [hI]; rfl)), Up.trans U2 hU3⟩
theorem instr_10 : Calls Tryz.prog 10 #[.agg #[mv, .int .i64 f.params, hv, .int .i64 f.regs, .slice ca f.consts cc, .slice da f.code.length dc], .agg #[.int .u8 10, .int .i64 a, .int .i64 b, .int .i64 c]] w fun e w' => e = .returned (.bool (insOk Fs f ⟨10, a, b, c⟩)) ∧ Up w w' := by
  have hI : insOk Fs f ⟨10, a, b, c⟩ = (rOk f.regs a && (rOk f.regs b && rOk f.regs c)) := by simp [insOk, Bool.and_assoc]
  obtain ⟨q, hA⟩ : ∃ q, (rOk f.regs a && (rOk f.regs b && rOk f.regs c)) = q := ⟨_, rfl⟩
  rw [hA] at hI
  go_enter Tryz.func10, Tryz.ntmps10
  go_upto_region 1 with (fail)
  obtain ⟨B2, B3, U2⟩ := two_new w #[mv, .int .i64 f.params, hv, .int .i64 f.regs, .slice ca f.consts cc, .slice da f.code.length dc] #[.int .u8 10, .int .i64 a, .int .i64 b, .int .i64 c] 50 45
  generalize World.alloc (World.alloc w _) _ = W2 at B2 B3 U2 ⊢
  generalize w.heap.size + 1 = b3 at B3 ⊢
  generalize w.heap.size = b2 at B2 ⊢
  have d0 : W2.cell? ⟨b2, 0, none⟩ = some mv := B2.cell 0
  have d1 : W2.cell? ⟨b2, 1, none⟩ = some (.int .i64 f.params) := B2.cell 1
  have d2 : W2.cell? ⟨b2, 2, none⟩ = some hv := B2.cell 2
  have d3 : W2.cell? ⟨b2, 3, none⟩ = some (.int .i64 f.regs) := B2.cell 3
  have d4 : W2.cell? ⟨b2, 4, none⟩ = some (.slice ca f.consts cc) := B2.cell 4
  have d5 : W2.cell? ⟨b2, 5, none⟩ = some (.slice da f.code.length dc) := B2.cell 5
  have e0 : W2.cell? ⟨b3, 0, none⟩ = some (.int .u8 10) := B3.cell 0
  have e1 : W2.cell? ⟨b3, 1, none⟩ = some (.int .i64 a) := B3.cell 1
  have e2 : W2.cell? ⟨b3, 2, none⟩ = some (.int .i64 b) := B3.cell 2
  have e3 : W2.cell? ⟨b3, 3, none⟩ = some (.int .i64 c) := B3.cell 3
  have l2 : b2 < W2.heap.size := B2.lt
  have l3 : b3 < W2.heap.size := B3.lt
  clear B2 B3
  go_wp2_with (go_at_call 15; refine (reg3 mv hv _ _ f.params f.regs a b c _ hA _ _).mono ?_; rintro e w3 ⟨rfl, hU3⟩)
  go_ret
  exact ⟨(by first | rfl | (rw [hI]; rfl)), Up.trans U2 hU3⟩
theorem instr_11 : Calls Tryz.prog 10 #[.agg #[mv, .int .i64 f.params, hv, .int .i64 f.regs, .slice ca f.consts cc, .slice da f.code.length dc], .agg #[.int .u8 11, .int .i64 a, .int .i64 b, .int .i64 c]] w fun e w' => e = .returned (.bool (insOk Fs f ⟨11, a, b, c⟩)) ∧ Up w w' := by
  have hI : insOk Fs f ⟨11, a, b, c⟩ = (rOk f.regs a && (rOk f.regs b && rOk f.regs c)) := by simp [insOk, Bool.and_assoc]
  obtain ⟨q, hA⟩ : ∃ q, (rOk f.regs a && (rOk f.regs b && rOk f.regs c)) = q := ⟨_, rfl⟩
  rw [hA] at hI
  go_enter Tryz.func10, Tryz.ntmps10
  go_upto_region 1 with (fail)
  obtain ⟨B2, B3, U2⟩ := two_new w #[mv, .int .i64 f.params, hv, .int .i64 f.regs, .slice ca f.consts cc, .slice da f.code.length dc] #[.int .u8 11, .int .i64 a, .int .i64 b, .int .i64 c] 50 45
  generalize World.alloc (World.alloc w _) _ = W2 at B2 B3 U2 ⊢
  generalize w.heap.size + 1 = b3 at B3 ⊢
  generalize w.heap.size = b2 at B2 ⊢
  have d0 : W2.cell? ⟨b2, 0, none⟩ = some mv := B2.cell 0
  have d1 : W2.cell? ⟨b2, 1, none⟩ = some (.int .i64 f.params) := B2.cell 1
  have d2 : W2.cell? ⟨b2, 2, none⟩ = some hv := B2.cell 2
  have d3 : W2.cell? ⟨b2, 3, none⟩ = some (.int .i64 f.regs) := B2.cell 3
  have d4 : W2.cell? ⟨b2, 4, none⟩ = some (.slice ca f.consts cc) := B2.cell 4
  have d5 : W2.cell? ⟨b2, 5, none⟩ = some (.slice da f.code.length dc) := B2.cell 5
  have e0 : W2.cell? ⟨b3, 0, none⟩ = some (.int .u8 11) := B3.cell 0
  have e1 : W2.cell? ⟨b3, 1, none⟩ = some (.int .i64 a) := B3.cell 1
  have e2 : W2.cell? ⟨b3, 2, none⟩ = some (.int .i64 b) := B3.cell 2
  have e3 : W2.cell? ⟨b3, 3, none⟩ = some (.int .i64 c) := B3.cell 3
  have l2 : b2 < W2.heap.size := B2.lt
  have l3 : b3 < W2.heap.size := B3.lt
  clear B2 B3
  go_wp2_with (go_at_call 15; refine (reg3 mv hv _ _ f.params f.regs a b c _ hA _ _).mono ?_; rintro e w3 ⟨rfl, hU3⟩)
  go_ret
  exact ⟨(by first | rfl | (rw [hI]; rfl)), Up.trans U2 hU3⟩
theorem instr_12 : Calls Tryz.prog 10 #[.agg #[mv, .int .i64 f.params, hv, .int .i64 f.regs, .slice ca f.consts cc, .slice da f.code.length dc], .agg #[.int .u8 12, .int .i64 a, .int .i64 b, .int .i64 c]] w fun e w' => e = .returned (.bool (insOk Fs f ⟨12, a, b, c⟩)) ∧ Up w w' := by
  have hI : insOk Fs f ⟨12, a, b, c⟩ = (rOk f.regs a && (rOk f.regs b && rOk f.regs c)) := by simp [insOk, Bool.and_assoc]
  obtain ⟨q, hA⟩ : ∃ q, (rOk f.regs a && (rOk f.regs b && rOk f.regs c)) = q := ⟨_, rfl⟩
  rw [hA] at hI
  go_enter Tryz.func10, Tryz.ntmps10
  go_upto_region 1 with (fail)
  obtain ⟨B2, B3, U2⟩ := two_new w #[mv, .int .i64 f.params, hv, .int .i64 f.regs, .slice ca f.consts cc, .slice da f.code.length dc] #[.int .u8 12, .int .i64 a, .int .i64 b, .int .i64 c] 50 45
  generalize World.alloc (World.alloc w _) _ = W2 at B2 B3 U2 ⊢
  generalize w.heap.size + 1 = b3 at B3 ⊢
  generalize w.heap.size = b2 at B2 ⊢
  have d0 : W2.cell? ⟨b2, 0, none⟩ = some mv := B2.cell 0
  have d1 : W2.cell? ⟨b2, 1, none⟩ = some (.int .i64 f.params) := B2.cell 1
  have d2 : W2.cell? ⟨b2, 2, none⟩ = some hv := B2.cell 2
  have d3 : W2.cell? ⟨b2, 3, none⟩ = some (.int .i64 f.regs) := B2.cell 3
  have d4 : W2.cell? ⟨b2, 4, none⟩ = some (.slice ca f.consts cc) := B2.cell 4
  have d5 : W2.cell? ⟨b2, 5, none⟩ = some (.slice da f.code.length dc) := B2.cell 5
  have e0 : W2.cell? ⟨b3, 0, none⟩ = some (.int .u8 12) := B3.cell 0
  have e1 : W2.cell? ⟨b3, 1, none⟩ = some (.int .i64 a) := B3.cell 1
  have e2 : W2.cell? ⟨b3, 2, none⟩ = some (.int .i64 b) := B3.cell 2
  have e3 : W2.cell? ⟨b3, 3, none⟩ = some (.int .i64 c) := B3.cell 3
  have l2 : b2 < W2.heap.size := B2.lt
  have l3 : b3 < W2.heap.size := B3.lt
  clear B2 B3
  go_wp2_with (go_at_call 15; refine (reg3 mv hv _ _ f.params f.regs a b c _ hA _ _).mono ?_; rintro e w3 ⟨rfl, hU3⟩)
  go_ret
  exact ⟨(by first | rfl | (rw [hI]; rfl)), Up.trans U2 hU3⟩
theorem instr_13 : Calls Tryz.prog 10 #[.agg #[mv, .int .i64 f.params, hv, .int .i64 f.regs, .slice ca f.consts cc, .slice da f.code.length dc], .agg #[.int .u8 13, .int .i64 a, .int .i64 b, .int .i64 c]] w fun e w' => e = .returned (.bool (insOk Fs f ⟨13, a, b, c⟩)) ∧ Up w w' := by
  have hI : insOk Fs f ⟨13, a, b, c⟩ = (rOk f.regs a && (rOk f.regs b && rOk f.regs c)) := by simp [insOk, Bool.and_assoc]
  obtain ⟨q, hA⟩ : ∃ q, (rOk f.regs a && (rOk f.regs b && rOk f.regs c)) = q := ⟨_, rfl⟩
  rw [hA] at hI
  go_enter Tryz.func10, Tryz.ntmps10
  go_upto_region 1 with (fail)
  obtain ⟨B2, B3, U2⟩ := two_new w #[mv, .int .i64 f.params, hv, .int .i64 f.regs, .slice ca f.consts cc, .slice da f.code.length dc] #[.int .u8 13, .int .i64 a, .int .i64 b, .int .i64 c] 50 45
  generalize World.alloc (World.alloc w _) _ = W2 at B2 B3 U2 ⊢
  generalize w.heap.size + 1 = b3 at B3 ⊢
  generalize w.heap.size = b2 at B2 ⊢
  have d0 : W2.cell? ⟨b2, 0, none⟩ = some mv := B2.cell 0
  have d1 : W2.cell? ⟨b2, 1, none⟩ = some (.int .i64 f.params) := B2.cell 1
  have d2 : W2.cell? ⟨b2, 2, none⟩ = some hv := B2.cell 2
  have d3 : W2.cell? ⟨b2, 3, none⟩ = some (.int .i64 f.regs) := B2.cell 3
  have d4 : W2.cell? ⟨b2, 4, none⟩ = some (.slice ca f.consts cc) := B2.cell 4
  have d5 : W2.cell? ⟨b2, 5, none⟩ = some (.slice da f.code.length dc) := B2.cell 5
  have e0 : W2.cell? ⟨b3, 0, none⟩ = some (.int .u8 13) := B3.cell 0
  have e1 : W2.cell? ⟨b3, 1, none⟩ = some (.int .i64 a) := B3.cell 1
  have e2 : W2.cell? ⟨b3, 2, none⟩ = some (.int .i64 b) := B3.cell 2
  have e3 : W2.cell? ⟨b3, 3, none⟩ = some (.int .i64 c) := B3.cell 3
  have l2 : b2 < W2.heap.size := B2.lt
  have l3 : b3 < W2.heap.size := B3.lt
  clear B2 B3
  go_wp2_with (go_at_call 15; refine (reg3 mv hv _ _ f.params f.regs a b c _ hA _ _).mono ?_; rintro e w3 ⟨rfl, hU3⟩)
  go_ret
  exact ⟨(by first | rfl | (rw [hI]; rfl)), Up.trans U2 hU3⟩
theorem instr_14 : Calls Tryz.prog 10 #[.agg #[mv, .int .i64 f.params, hv, .int .i64 f.regs, .slice ca f.consts cc, .slice da f.code.length dc], .agg #[.int .u8 14, .int .i64 a, .int .i64 b, .int .i64 c]] w fun e w' => e = .returned (.bool (insOk Fs f ⟨14, a, b, c⟩)) ∧ Up w w' := by
  have hI : insOk Fs f ⟨14, a, b, c⟩ = (rOk f.regs a && (rOk f.regs b && rOk f.regs c)) := by simp [insOk, Bool.and_assoc]
  obtain ⟨q, hA⟩ : ∃ q, (rOk f.regs a && (rOk f.regs b && rOk f.regs c)) = q := ⟨_, rfl⟩
  rw [hA] at hI
  go_enter Tryz.func10, Tryz.ntmps10
  go_upto_region 1 with (fail)
  obtain ⟨B2, B3, U2⟩ := two_new w #[mv, .int .i64 f.params, hv, .int .i64 f.regs, .slice ca f.consts cc, .slice da f.code.length dc] #[.int .u8 14, .int .i64 a, .int .i64 b, .int .i64 c] 50 45
  generalize World.alloc (World.alloc w _) _ = W2 at B2 B3 U2 ⊢
  generalize w.heap.size + 1 = b3 at B3 ⊢
  generalize w.heap.size = b2 at B2 ⊢
  have d0 : W2.cell? ⟨b2, 0, none⟩ = some mv := B2.cell 0
  have d1 : W2.cell? ⟨b2, 1, none⟩ = some (.int .i64 f.params) := B2.cell 1
  have d2 : W2.cell? ⟨b2, 2, none⟩ = some hv := B2.cell 2
  have d3 : W2.cell? ⟨b2, 3, none⟩ = some (.int .i64 f.regs) := B2.cell 3
  have d4 : W2.cell? ⟨b2, 4, none⟩ = some (.slice ca f.consts cc) := B2.cell 4
  have d5 : W2.cell? ⟨b2, 5, none⟩ = some (.slice da f.code.length dc) := B2.cell 5
  have e0 : W2.cell? ⟨b3, 0, none⟩ = some (.int .u8 14) := B3.cell 0
  have e1 : W2.cell? ⟨b3, 1, none⟩ = some (.int .i64 a) := B3.cell 1
  have e2 : W2.cell? ⟨b3, 2, none⟩ = some (.int .i64 b) := B3.cell 2
  have e3 : W2.cell? ⟨b3, 3, none⟩ = some (.int .i64 c) := B3.cell 3
  have l2 : b2 < W2.heap.size := B2.lt
  have l3 : b3 < W2.heap.size := B3.lt
  clear B2 B3
  go_wp2_with (go_at_call 15; refine (reg3 mv hv _ _ f.params f.regs a b c _ hA _ _).mono ?_; rintro e w3 ⟨rfl, hU3⟩)
  go_ret
  exact ⟨(by first | rfl | (rw [hI]; rfl)), Up.trans U2 hU3⟩
theorem instr_22 : Calls Tryz.prog 10 #[.agg #[mv, .int .i64 f.params, hv, .int .i64 f.regs, .slice ca f.consts cc, .slice da f.code.length dc], .agg #[.int .u8 22, .int .i64 a, .int .i64 b, .int .i64 c]] w fun e w' => e = .returned (.bool (insOk Fs f ⟨22, a, b, c⟩)) ∧ Up w w' := by
  have hI : insOk Fs f ⟨22, a, b, c⟩ = false := by simp [insOk]
  go_enter Tryz.func10, Tryz.ntmps10
  go_upto_region 1 with (fail)
  obtain ⟨B2, B3, U2⟩ := two_new w #[mv, .int .i64 f.params, hv, .int .i64 f.regs, .slice ca f.consts cc, .slice da f.code.length dc] #[.int .u8 22, .int .i64 a, .int .i64 b, .int .i64 c] 50 45
  generalize World.alloc (World.alloc w _) _ = W2 at B2 B3 U2 ⊢
  generalize w.heap.size + 1 = b3 at B3 ⊢
  generalize w.heap.size = b2 at B2 ⊢
  have d0 : W2.cell? ⟨b2, 0, none⟩ = some mv := B2.cell 0
  have d1 : W2.cell? ⟨b2, 1, none⟩ = some (.int .i64 f.params) := B2.cell 1
  have d2 : W2.cell? ⟨b2, 2, none⟩ = some hv := B2.cell 2
  have d3 : W2.cell? ⟨b2, 3, none⟩ = some (.int .i64 f.regs) := B2.cell 3
  have d4 : W2.cell? ⟨b2, 4, none⟩ = some (.slice ca f.consts cc) := B2.cell 4
  have d5 : W2.cell? ⟨b2, 5, none⟩ = some (.slice da f.code.length dc) := B2.cell 5
  have e0 : W2.cell? ⟨b3, 0, none⟩ = some (.int .u8 22) := B3.cell 0
  have e1 : W2.cell? ⟨b3, 1, none⟩ = some (.int .i64 a) := B3.cell 1
  have e2 : W2.cell? ⟨b3, 2, none⟩ = some (.int .i64 b) := B3.cell 2
  have e3 : W2.cell? ⟨b3, 3, none⟩ = some (.int .i64 c) := B3.cell 3
  have l2 : b2 < W2.heap.size := B2.lt
  have l3 : b3 < W2.heap.size := B3.lt
  clear B2 B3
  go_wp2_with fail
  go_ret
  exact ⟨(by first | rfl | (rw [hI]; rfl)), U2⟩
theorem instr_23 : Calls Tryz.prog 10 #[.agg #[mv, .int .i64 f.params, hv, .int .i64 f.regs, .slice ca f.consts cc, .slice da f.code.length dc], .agg #[.int .u8 23, .int .i64 a, .int .i64 b, .int .i64 c]] w fun e w' => e = .returned (.bool (insOk Fs f ⟨23, a, b, c⟩)) ∧ Up w w' := by
  have hI : insOk Fs f ⟨23, a, b, c⟩ = false := by simp [insOk]
  go_enter Tryz.func10, Tryz.ntmps10
  go_upto_region 1 with (fail)
  obtain ⟨B2, B3, U2⟩ := two_new w #[mv, .int .i64 f.params, hv, .int .i64 f.regs, .slice ca f.consts cc, .slice da f.code.length dc] #[.int .u8 23, .int .i64 a, .int .i64 b, .int .i64 c] 50 45
  generalize World.alloc (World.alloc w _) _ = W2 at B2 B3 U2 ⊢
  generalize w.heap.size + 1 = b3 at B3 ⊢
  generalize w.heap.size = b2 at B2 ⊢
  have d0 : W2.cell? ⟨b2, 0, none⟩ = some mv := B2.cell 0
  have d1 : W2.cell? ⟨b2, 1, none⟩ = some (.int .i64 f.params) := B2.cell 1
  have d2 : W2.cell? ⟨b2, 2, none⟩ = some hv := B2.cell 2
  have d3 : W2.cell? ⟨b2, 3, none⟩ = some (.int .i64 f.regs) := B2.cell 3
  have d4 : W2.cell? ⟨b2, 4, none⟩ = some (.slice ca f.consts cc) := B2.cell 4
  have d5 : W2.cell? ⟨b2, 5, none⟩ = some (.slice da f.code.length dc) := B2.cell 5
  have e0 : W2.cell? ⟨b3, 0, none⟩ = some (.int .u8 23) := B3.cell 0
  have e1 : W2.cell? ⟨b3, 1, none⟩ = some (.int .i64 a) := B3.cell 1
  have e2 : W2.cell? ⟨b3, 2, none⟩ = some (.int .i64 b) := B3.cell 2
  have e3 : W2.cell? ⟨b3, 3, none⟩ = some (.int .i64 c) := B3.cell 3
  have l2 : b2 < W2.heap.size := B2.lt
  have l3 : b3 < W2.heap.size := B3.lt
  clear B2 B3
  go_wp2_with fail
  go_ret
  exact ⟨(by first | rfl | (rw [hI]; rfl)), U2⟩
theorem instr_21 : Calls Tryz.prog 10 #[.agg #[mv, .int .i64 f.params, hv, .int .i64 f.regs, .slice ca f.consts cc, .slice da f.code.length dc], .agg #[.int .u8 21, .int .i64 a, .int .i64 b, .int .i64 c]] w fun e w' => e = .returned (.bool (insOk Fs f ⟨21, a, b, c⟩)) ∧ Up w w' := by
  have hI : insOk Fs f ⟨21, a, b, c⟩ = true := by simp [insOk]
  go_enter Tryz.func10, Tryz.ntmps10
  go_upto_region 1 with (fail)
  obtain ⟨B2, B3, U2⟩ := two_new w #[mv, .int .i64 f.params, hv, .int .i64 f.regs, .slice ca f.consts cc, .slice da f.code.length dc] #[.int .u8 21, .int .i64 a, .int .i64 b, .int .i64 c] 50 45
  generalize World.alloc (World.alloc w _) _ = W2 at B2 B3 U2 ⊢
  generalize w.heap.size + 1 = b3 at B3 ⊢
  generalize w.heap.size = b2 at B2 ⊢
  have d0 : W2.cell? ⟨b2, 0, none⟩ = some mv := B2.cell 0
  have d1 : W2.cell? ⟨b2, 1, none⟩ = some (.int .i64 f.params) := B2.cell 1
  have d2 : W2.cell? ⟨b2, 2, none⟩ = some hv := B2.cell 2
  have d3 : W2.cell? ⟨b2, 3, none⟩ = some (.int .i64 f.regs) := B2.cell 3
  have d4 : W2.cell? ⟨b2, 4, none⟩ = some (.slice ca f.consts cc) := B2.cell 4
  have d5 : W2.cell? ⟨b2, 5, none⟩ = some (.slice da f.code.length dc) := B2.cell 5
  have e0 : W2.cell? ⟨b3, 0, none⟩ = some (.int .u8 21) := B3.cell 0
  have e1 : W2.cell? ⟨b3, 1, none⟩ = some (.int .i64 a) := B3.cell 1
  have e2 : W2.cell? ⟨b3, 2, none⟩ = some (.int .i64 b) := B3.cell 2
  have e3 : W2.cell? ⟨b3, 3, none⟩ = some (.int .i64 c) := B3.cell 3
  have l2 : b2 < W2.heap.size := B2.lt
  have l3 : b3 < W2.heap.size := B3.lt
  clear B2 B3
  go_wp2_with fail
  go_ret
  exact ⟨(by first | rfl | (rw [hI]; rfl)), U2⟩
theorem instr_15 : Calls Tryz.prog 10 #[.agg #[mv, .int .i64 f.params, hv, .int .i64 f.regs, .slice ca f.consts cc, .slice da f.code.length dc], .agg #[.int .u8 15, .int .i64 a, .int .i64 b, .int .i64 c]] w fun e w' => e = .returned (.bool (insOk Fs f ⟨15, a, b, c⟩)) ∧ Up w w' := by
  have hI : insOk Fs f ⟨15, a, b, c⟩ = toOk f.code.length a := by simp [insOk]
  go_enter Tryz.func10, Tryz.ntmps10
  go_upto_region 1 with (fail)
  obtain ⟨B2, B3, U2⟩ := two_new w #[mv, .int .i64 f.params, hv, .int .i64 f.regs, .slice ca f.consts cc, .slice da f.code.length dc] #[.int .u8 15, .int .i64 a, .int .i64 b, .int .i64 c] 50 45
  generalize World.alloc (World.alloc w _) _ = W2 at B2 B3 U2 ⊢
  generalize w.heap.size + 1 = b3 at B3 ⊢
  generalize w.heap.size = b2 at B2 ⊢
  have d0 : W2.cell? ⟨b2, 0, none⟩ = some mv := B2.cell 0
  have d1 : W2.cell? ⟨b2, 1, none⟩ = some (.int .i64 f.params) := B2.cell 1
  have d2 : W2.cell? ⟨b2, 2, none⟩ = some hv := B2.cell 2
  have d3 : W2.cell? ⟨b2, 3, none⟩ = some (.int .i64 f.regs) := B2.cell 3
  have d4 : W2.cell? ⟨b2, 4, none⟩ = some (.slice ca f.consts cc) := B2.cell 4
  have d5 : W2.cell? ⟨b2, 5, none⟩ = some (.slice da f.code.length dc) := B2.cell 5
  have e0 : W2.cell? ⟨b3, 0, none⟩ = some (.int .u8 15) := B3.cell 0
  have e1 : W2.cell? ⟨b3, 1, none⟩ = some (.int .i64 a) := B3.cell 1
  have e2 : W2.cell? ⟨b3, 2, none⟩ = some (.int .i64 b) := B3.cell 2
  have e3 : W2.cell? ⟨b3, 3, none⟩ = some (.int .i64 c) := B3.cell 3
  have l2 : b2 < W2.heap.size := B2.lt
  have l3 : b3 < W2.heap.size := B3.lt
  clear B2 B3
  go_wp2_with (go_at_call 16; refine (to_x mv hv _ f.params f.regs da f.code.length dc a _).mono ?_; rintro e w3 ⟨rfl, hU3⟩)
  go_ret
  exact ⟨(by first | rfl | (rw [hI]; rfl)), Up.trans U2 hU3⟩
theorem instr_16 : Calls Tryz.prog 10 #[.agg #[mv, .int .i64 f.params, hv, .int .i64 f.regs, .slice ca f.consts cc, .slice da f.code.length dc], .agg #[.int .u8 16, .int .i64 a, .int .i64 b, .int .i64 c]] w fun e w' => e = .returned (.bool (insOk Fs f ⟨16, a, b, c⟩)) ∧ Up w w' := by
  have hI : insOk Fs f ⟨16, a, b, c⟩ = toOk f.code.length a := by simp [insOk]
  go_enter Tryz.func10, Tryz.ntmps10
  go_upto_region 1 with (fail)
  obtain ⟨B2, B3, U2⟩ := two_new w #[mv, .int .i64 f.params, hv, .int .i64 f.regs, .slice ca f.consts cc, .slice da f.code.length dc] #[.int .u8 16, .int .i64 a, .int .i64 b, .int .i64 c] 50 45
  generalize World.alloc (World.alloc w _) _ = W2 at B2 B3 U2 ⊢
  generalize w.heap.size + 1 = b3 at B3 ⊢
  generalize w.heap.size = b2 at B2 ⊢
  have d0 : W2.cell? ⟨b2, 0, none⟩ = some mv := B2.cell 0
  have d1 : W2.cell? ⟨b2, 1, none⟩ = some (.int .i64 f.params) := B2.cell 1
  have d2 : W2.cell? ⟨b2, 2, none⟩ = some hv := B2.cell 2
  have d3 : W2.cell? ⟨b2, 3, none⟩ = some (.int .i64 f.regs) := B2.cell 3
  have d4 : W2.cell? ⟨b2, 4, none⟩ = some (.slice ca f.consts cc) := B2.cell 4
  have d5 : W2.cell? ⟨b2, 5, none⟩ = some (.slice da f.code.length dc) := B2.cell 5
  have e0 : W2.cell? ⟨b3, 0, none⟩ = some (.int .u8 16) := B3.cell 0
  have e1 : W2.cell? ⟨b3, 1, none⟩ = some (.int .i64 a) := B3.cell 1
  have e2 : W2.cell? ⟨b3, 2, none⟩ = some (.int .i64 b) := B3.cell 2
  have e3 : W2.cell? ⟨b3, 3, none⟩ = some (.int .i64 c) := B3.cell 3
  have l2 : b2 < W2.heap.size := B2.lt
  have l3 : b3 < W2.heap.size := B3.lt
  clear B2 B3
  go_wp2_with (go_at_call 16; refine (to_x mv hv _ f.params f.regs da f.code.length dc a _).mono ?_; rintro e w3 ⟨rfl, hU3⟩)
  go_ret
  exact ⟨(by first | rfl | (rw [hI]; rfl)), Up.trans U2 hU3⟩
theorem instr_17 : Calls Tryz.prog 10 #[.agg #[mv, .int .i64 f.params, hv, .int .i64 f.regs, .slice ca f.consts cc, .slice da f.code.length dc], .agg #[.int .u8 17, .int .i64 a, .int .i64 b, .int .i64 c]] w fun e w' => e = .returned (.bool (insOk Fs f ⟨17, a, b, c⟩)) ∧ Up w w' := by
  cases hA : rOk f.regs a
  · have hI : insOk Fs f ⟨17, a, b, c⟩ = false := by simp [insOk, hA]
    go_enter Tryz.func10, Tryz.ntmps10
    go_upto_region 1 with (fail)
    obtain ⟨B2, B3, U2⟩ := two_new w #[mv, .int .i64 f.params, hv, .int .i64 f.regs, .slice ca f.consts cc, .slice da f.code.length dc] #[.int .u8 17, .int .i64 a, .int .i64 b, .int .i64 c] 50 45
    generalize World.alloc (World.alloc w _) _ = W2 at B2 B3 U2 ⊢
    generalize w.heap.size + 1 = b3 at B3 ⊢
    generalize w.heap.size = b2 at B2 ⊢
    have d0 : W2.cell? ⟨b2, 0, none⟩ = some mv := B2.cell 0
    have d1 : W2.cell? ⟨b2, 1, none⟩ = some (.int .i64 f.params) := B2.cell 1
    have d2 : W2.cell? ⟨b2, 2, none⟩ = some hv := B2.cell 2
    have d3 : W2.cell? ⟨b2, 3, none⟩ = some (.int .i64 f.regs) := B2.cell 3
    have d4 : W2.cell? ⟨b2, 4, none⟩ = some (.slice ca f.consts cc) := B2.cell 4
    have d5 : W2.cell? ⟨b2, 5, none⟩ = some (.slice da f.code.length dc) := B2.cell 5
    have e0 : W2.cell? ⟨b3, 0, none⟩ = some (.int .u8 17) := B3.cell 0
    have e1 : W2.cell? ⟨b3, 1, none⟩ = some (.int .i64 a) := B3.cell 1
    have e2 : W2.cell? ⟨b3, 2, none⟩ = some (.int .i64 b) := B3.cell 2
    have e3 : W2.cell? ⟨b3, 3, none⟩ = some (.int .i64 c) := B3.cell 3
    have l2 : b2 < W2.heap.size := B2.lt
    have l3 : b3 < W2.heap.size := B3.lt
    clear B2 B3
    go_wp2_with (go_at_call 15; refine (reg1 mv hv _ _ f.params f.regs a _ hA _ _).mono ?_; rintro e w3 ⟨rfl, hU3⟩)
    go_ret
    exact ⟨(by first | rfl | (rw [hI]; rfl)), Up.trans U2 hU3⟩
  · have hI : insOk Fs f ⟨17, a, b, c⟩ = toOk f.code.length b := by simp [insOk, hA]
    go_enter Tryz.func10, Tryz.ntmps10
    go_upto_region 1 with (fail)
    obtain ⟨B2, B3, U2⟩ := two_new w #[mv, .int .i64 f.params, hv, .int .i64 f.regs, .slice ca f.consts cc, .slice da f.code.length dc] #[.int .u8 17, .int .i64 a, .int .i64 b, .int .i64 c] 50 45
    generalize World.alloc (World.alloc w _) _ = W2 at B2 B3 U2 ⊢
    generalize w.heap.size + 1 = b3 at B3 ⊢
    generalize w.heap.size = b2 at B2 ⊢
    have d0 : W2.cell? ⟨b2, 0, none⟩ = some mv := B2.cell 0
    have d1 : W2.cell? ⟨b2, 1, none⟩ = some (.int .i64 f.params) := B2.cell 1
    have d2 : W2.cell? ⟨b2, 2, none⟩ = some hv := B2.cell 2
    have d3 : W2.cell? ⟨b2, 3, none⟩ = some (.int .i64 f.regs) := B2.cell 3
    have d4 : W2.cell? ⟨b2, 4, none⟩ = some (.slice ca f.consts cc) := B2.cell 4
    have d5 : W2.cell? ⟨b2, 5, none⟩ = some (.slice da f.code.length dc) := B2.cell 5
    have e0 : W2.cell? ⟨b3, 0, none⟩ = some (.int .u8 17) := B3.cell 0
    have e1 : W2.cell? ⟨b3, 1, none⟩ = some (.int .i64 a) := B3.cell 1
    have e2 : W2.cell? ⟨b3, 2, none⟩ = some (.int .i64 b) := B3.cell 2
    have e3 : W2.cell? ⟨b3, 3, none⟩ = some (.int .i64 c) := B3.cell 3
    have l2 : b2 < W2.heap.size := B2.lt
    have l3 : b3 < W2.heap.size := B3.lt
    clear B2 B3
    go_wp2_with (first | (go_at_call 15; refine (reg1 mv hv _ _ f.params f.regs a _ hA _ _).mono ?_; rintro e w3 ⟨rfl, hU3⟩; have e2 := up_cell hU3 e2; have e3 := up_cell hU3 e3; have d0 := up_cell hU3 d0; have d1 := up_cell hU3 d1; have d2 := up_cell hU3 d2; have d3 := up_cell hU3 d3; have d4 := up_cell hU3 d4; have d5 := up_cell hU3 d5) | (go_at_call 16; refine (to_x mv hv _ f.params f.regs da f.code.length dc b _).mono ?_; rintro e w4 ⟨rfl, hU4⟩))
    go_ret
    exact ⟨(by first | rfl | (rw [hI]; rfl)), Up.trans U2 (Up.trans hU3 hU4)⟩
theorem instr_20 : Calls Tryz.prog 10 #[.agg #[mv, .int .i64 f.params, hv, .int .i64 f.regs, .slice ca f.consts cc, .slice da f.code.length dc], .agg #[.int .u8 20, .int .i64 a, .int .i64 b, .int .i64 c]] w fun e w' => e = .returned (.bool (insOk Fs f ⟨20, a, b, c⟩)) ∧ Up w w' := by
  cases hA : rOk f.regs a
  · have hI : insOk Fs f ⟨20, a, b, c⟩ = false := by simp [insOk, hA]
    go_enter Tryz.func10, Tryz.ntmps10
    go_upto_region 1 with (fail)
    obtain ⟨B2, B3, U2⟩ := two_new w #[mv, .int .i64 f.params, hv, .int .i64 f.regs, .slice ca f.consts cc, .slice da f.code.length dc] #[.int .u8 20, .int .i64 a, .int .i64 b, .int .i64 c] 50 45
    generalize World.alloc (World.alloc w _) _ = W2 at B2 B3 U2 ⊢
    generalize w.heap.size + 1 = b3 at B3 ⊢
    generalize w.heap.size = b2 at B2 ⊢
    have d0 : W2.cell? ⟨b2, 0, none⟩ = some mv := B2.cell 0
    have d1 : W2.cell? ⟨b2, 1, none⟩ = some (.int .i64 f.params) := B2.cell 1
    have d2 : W2.cell? ⟨b2, 2, none⟩ = some hv := B2.cell 2
    have d3 : W2.cell? ⟨b2, 3, none⟩ = some (.int .i64 f.regs) := B2.cell 3
    have d4 : W2.cell? ⟨b2, 4, none⟩ = some (.slice ca f.consts cc) := B2.cell 4
    have d5 : W2.cell? ⟨b2, 5, none⟩ = some (.slice da f.code.length dc) := B2.cell 5
    have e0 : W2.cell? ⟨b3, 0, none⟩ = some (.int .u8 20) := B3.cell 0
    have e1 : W2.cell? ⟨b3, 1, none⟩ = some (.int .i64 a) := B3.cell 1
    have e2 : W2.cell? ⟨b3, 2, none⟩ = some (.int .i64 b) := B3.cell 2
    have e3 : W2.cell? ⟨b3, 3, none⟩ = some (.int .i64 c) := B3.cell 3
    have l2 : b2 < W2.heap.size := B2.lt
    have l3 : b3 < W2.heap.size := B3.lt
    clear B2 B3
    go_wp2_with (go_at_call 15; refine (reg1 mv hv _ _ f.params f.regs a _ hA _ _).mono ?_; rintro e w3 ⟨rfl, hU3⟩)
    go_ret
    exact ⟨(by first | rfl | (rw [hI]; rfl)), Up.trans U2 hU3⟩
  · have hI : insOk Fs f ⟨20, a, b, c⟩ = toOk f.code.length b := by simp [insOk, hA]
    go_enter Tryz.func10, Tryz.ntmps10
    go_upto_region 1 with (fail)
    obtain ⟨B2, B3, U2⟩ := two_new w #[mv, .int .i64 f.params, hv, .int .i64 f.regs, .slice ca f.consts cc, .slice da f.code.length dc] #[.int .u8 20, .int .i64 a, .int .i64 b, .int .i64 c] 50 45
    generalize World.alloc (World.alloc w _) _ = W2 at B2 B3 U2 ⊢
    generalize w.heap.size + 1 = b3 at B3 ⊢
    generalize w.heap.size = b2 at B2 ⊢
    have d0 : W2.cell? ⟨b2, 0, none⟩ = some mv := B2.cell 0
    have d1 : W2.cell? ⟨b2, 1, none⟩ = some (.int .i64 f.params) := B2.cell 1
    have d2 : W2.cell? ⟨b2, 2, none⟩ = some hv := B2.cell 2
    have d3 : W2.cell? ⟨b2, 3, none⟩ = some (.int .i64 f.regs) := B2.cell 3
    have d4 : W2.cell? ⟨b2, 4, none⟩ = some (.slice ca f.consts cc) := B2.cell 4
    have d5 : W2.cell? ⟨b2, 5, none⟩ = some (.slice da f.code.length dc) := B2.cell 5
    have e0 : W2.cell? ⟨b3, 0, none⟩ = some (.int .u8 20) := B3.cell 0
    have e1 : W2.cell? ⟨b3, 1, none⟩ = some (.int .i64 a) := B3.cell 1
    have e2 : W2.cell? ⟨b3, 2, none⟩ = some (.int .i64 b) := B3.cell 2
    have e3 : W2.cell? ⟨b3, 3, none⟩ = some (.int .i64 c) := B3.cell 3
    have l2 : b2 < W2.heap.size := B2.lt
    have l3 : b3 < W2.heap.size := B3.lt
    clear B2 B3
    go_wp2_with (first | (go_at_call 15; refine (reg1 mv hv _ _ f.params f.regs a _ hA _ _).mono ?_; rintro e w3 ⟨rfl, hU3⟩; have e2 := up_cell hU3 e2; have e3 := up_cell hU3 e3; have d0 := up_cell hU3 d0; have d1 := up_cell hU3 d1; have d2 := up_cell hU3 d2; have d3 := up_cell hU3 d3; have d4 := up_cell hU3 d4; have d5 := up_cell hU3 d5) | (go_at_call 16; refine (to_x mv hv _ f.params f.regs da f.code.length dc b _).mono ?_; rintro e w4 ⟨rfl, hU4⟩))
    go_ret
    exact ⟨(by first | rfl | (rw [hI]; rfl)), Up.trans U2 (Up.trans hU3 hU4)⟩
theorem instr_0 : Calls Tryz.prog 10 #[.agg #[mv, .int .i64 f.params, hv, .int .i64 f.regs, .slice ca f.consts cc, .slice da f.code.length dc], .agg #[.int .u8 0, .int .i64 a, .int .i64 b, .int .i64 c]] w fun e w' => e = .returned (.bool (insOk Fs f ⟨0, a, b, c⟩)) ∧ Up w w' := by
  cases hA : rOk f.regs a
  · have hI : insOk Fs f ⟨0, a, b, c⟩ = false := by simp [insOk, hA]
    go_enter Tryz.func10, Tryz.ntmps10
    go_upto_region 1 with (fail)
    obtain ⟨B2, B3, U2⟩ := two_new w #[mv, .int .i64 f.params, hv, .int .i64 f.regs, .slice ca f.consts cc, .slice da f.code.length dc] #[.int .u8 0, .int .i64 a, .int .i64 b, .int .i64 c] 50 45
    generalize World.alloc (World.alloc w _) _ = W2 at B2 B3 U2 ⊢
    generalize w.heap.size + 1 = b3 at B3 ⊢
    generalize w.heap.size = b2 at B2 ⊢
    have d0 : W2.cell? ⟨b2, 0, none⟩ = some mv := B2.cell 0
    have d1 : W2.cell? ⟨b2, 1, none⟩ = some (.int .i64 f.params) := B2.cell 1
    have d2 : W2.cell? ⟨b2, 2, none⟩ = some hv := B2.cell 2
    have d3 : W2.cell? ⟨b2, 3, none⟩ = some (.int .i64 f.regs) := B2.cell 3
    have d4 : W2.cell? ⟨b2, 4, none⟩ = some (.slice ca f.consts cc) := B2.cell 4
    have d5 : W2.cell? ⟨b2, 5, none⟩ = some (.slice da f.code.length dc) := B2.cell 5
    have e0 : W2.cell? ⟨b3, 0, none⟩ = some (.int .u8 0) := B3.cell 0
    have e1 : W2.cell? ⟨b3, 1, none⟩ = some (.int .i64 a) := B3.cell 1
    have e2 : W2.cell? ⟨b3, 2, none⟩ = some (.int .i64 b) := B3.cell 2
    have e3 : W2.cell? ⟨b3, 3, none⟩ = some (.int .i64 c) := B3.cell 3
    have l2 : b2 < W2.heap.size := B2.lt
    have l3 : b3 < W2.heap.size := B3.lt
    clear B2 B3
    go_wp2_with (go_at_call 15; refine (reg1 mv hv _ _ f.params f.regs a _ hA _ _).mono ?_; rintro e w3 ⟨rfl, hU3⟩)
    go_ret
    exact ⟨(by first | rfl | (rw [hI]; rfl)), Up.trans U2 hU3⟩
  by_cases h0 : 0 ≤ b
  · have i0 : decide (0 ≤ b) = true := by simpa using h0
    have hI : insOk Fs f ⟨0, a, b, c⟩ = decide (b < (f.consts : Int)) := by simp [insOk, hA, h0]
    go_enter Tryz.func10, Tryz.ntmps10
    go_upto_region 1 with (fail)
    obtain ⟨B2, B3, U2⟩ := two_new w #[mv, .int .i64 f.params, hv, .int .i64 f.regs, .slice ca f.consts cc, .slice da f.code.length dc] #[.int .u8 0, .int .i64 a, .int .i64 b, .int .i64 c] 50 45
    generalize World.alloc (World.alloc w _) _ = W2 at B2 B3 U2 ⊢
    generalize w.heap.size + 1 = b3 at B3 ⊢
    generalize w.heap.size = b2 at B2 ⊢
    have d0 : W2.cell? ⟨b2, 0, none⟩ = some mv := B2.cell 0
    have d1 : W2.cell? ⟨b2, 1, none⟩ = some (.int .i64 f.params) := B2.cell 1
    have d2 : W2.cell? ⟨b2, 2, none⟩ = some hv := B2.cell 2
    have d3 : W2.cell? ⟨b2, 3, none⟩ = some (.int .i64 f.regs) := B2.cell 3
    have d4 : W2.cell? ⟨b2, 4, none⟩ = some (.slice ca f.consts cc) := B2.cell 4
    have d5 : W2.cell? ⟨b2, 5, none⟩ = some (.slice da f.code.length dc) := B2.cell 5
    have e0 : W2.cell? ⟨b3, 0, none⟩ = some (.int .u8 0) := B3.cell 0
    have e1 : W2.cell? ⟨b3, 1, none⟩ = some (.int .i64 a) := B3.cell 1
    have e2 : W2.cell? ⟨b3, 2, none⟩ = some (.int .i64 b) := B3.cell 2
    have e3 : W2.cell? ⟨b3, 3, none⟩ = some (.int .i64 c) := B3.cell 3
    have l2 : b2 < W2.heap.size := B2.lt
    have l3 : b3 < W2.heap.size := B3.lt
    clear B2 B3
    go_wp2_with (go_at_call 15; refine (reg1 mv hv _ _ f.params f.regs a _ hA _ _).mono ?_; rintro e w3 ⟨rfl, hU3⟩; have e2 := up_cell hU3 e2; have e3 := up_cell hU3 e3; have d0 := up_cell hU3 d0; have d1 := up_cell hU3 d1; have d2 := up_cell hU3 d2; have d3 := up_cell hU3 d3; have d4 := up_cell hU3 d4; have d5 := up_cell hU3 d5)
    go_ret
    exact ⟨(by first | rfl | (rw [hI]; rfl)), Up.trans U2 hU3⟩
  · have i0 : decide (0 ≤ b) = false := by simpa using h0
    have hI : insOk Fs f ⟨0, a, b, c⟩ = false := by simp [insOk, hA, h0]
    go_enter Tryz.func10, Tryz.ntmps10
    go_upto_region 1 with (fail)
    obtain ⟨B2, B3, U2⟩ := two_new w #[mv, .int .i64 f.params, hv, .int .i64 f.regs, .slice ca f.consts cc, .slice da f.code.length dc] #[.int .u8 0, .int .i64 a, .int .i64 b, .int .i64 c] 50 45
    generalize World.alloc (World.alloc w _) _ = W2 at B2 B3 U2 ⊢
    generalize w.heap.size + 1 = b3 at B3 ⊢
    generalize w.heap.size = b2 at B2 ⊢
    have d0 : W2.cell? ⟨b2, 0, none⟩ = some mv := B2.cell 0
    have d1 : W2.cell? ⟨b2, 1, none⟩ = some (.int .i64 f.params) := B2.cell 1
    have d2 : W2.cell? ⟨b2, 2, none⟩ = some hv := B2.cell 2
    have d3 : W2.cell? ⟨b2, 3, none⟩ = some (.int .i64 f.regs) := B2.cell 3
    have d4 : W2.cell? ⟨b2, 4, none⟩ = some (.slice ca f.consts cc) := B2.cell 4
    have d5 : W2.cell? ⟨b2, 5, none⟩ = some (.slice da f.code.length dc) := B2.cell 5
    have e0 : W2.cell? ⟨b3, 0, none⟩ = some (.int .u8 0) := B3.cell 0
    have e1 : W2.cell? ⟨b3, 1, none⟩ = some (.int .i64 a) := B3.cell 1
    have e2 : W2.cell? ⟨b3, 2, none⟩ = some (.int .i64 b) := B3.cell 2
    have e3 : W2.cell? ⟨b3, 3, none⟩ = some (.int .i64 c) := B3.cell 3
    have l2 : b2 < W2.heap.size := B2.lt
    have l3 : b3 < W2.heap.size := B3.lt
    clear B2 B3
    go_wp2_with (go_at_call 15; refine (reg1 mv hv _ _ f.params f.regs a _ hA _ _).mono ?_; rintro e w3 ⟨rfl, hU3⟩; have e2 := up_cell hU3 e2; have e3 := up_cell hU3 e3; have d0 := up_cell hU3 d0; have d1 := up_cell hU3 d1; have d2 := up_cell hU3 d2; have d3 := up_cell hU3 d3; have d4 := up_cell hU3 d4; have d5 := up_cell hU3 d5)
    go_ret
    exact ⟨(by first | rfl | (rw [hI]; rfl)), Up.trans U2 hU3⟩
theorem instr_6 (hb : -4000000000 ≤ b ∧ b ≤ 4000000000) (hR : -4000000000 ≤ f.regs ∧ f.regs ≤ 4000000000) : Calls Tryz.prog 10 #[.agg #[mv, .int .i64 f.params, hv, .int .i64 f.regs, .slice ca f.consts cc, .slice da f.code.length dc], .agg #[.int .u8 6, .int .i64 a, .int .i64 b, .int .i64 c]] w fun e w' => e = .returned (.bool (insOk Fs f ⟨6, a, b, c⟩)) ∧ Up w w' := by
  cases hA : (rOk f.regs a && rOk f.regs b)
  · have hI : insOk Fs f ⟨6, a, b, c⟩ = false := by simp [insOk, hA]
    go_enter Tryz.func10, Tryz.ntmps10
    go_upto_region 1 with (fail)
    obtain ⟨B2, B3, U2⟩ := two_new w #[mv, .int .i64 f.params, hv, .int .i64 f.regs, .slice ca f.consts cc, .slice da f.code.length dc] #[.int .u8 6, .int .i64 a, .int .i64 b, .int .i64 c] 50 45
    generalize World.alloc (World.alloc w _) _ = W2 at B2 B3 U2 ⊢
    generalize w.heap.size + 1 = b3 at B3 ⊢
    generalize w.heap.size = b2 at B2 ⊢
    have d0 : W2.cell? ⟨b2, 0, none⟩ = some mv := B2.cell 0
    have d1 : W2.cell? ⟨b2, 1, none⟩ = some (.int .i64 f.params) := B2.cell 1
    have d2 : W2.cell? ⟨b2, 2, none⟩ = some hv := B2.cell 2
    have d3 : W2.cell? ⟨b2, 3, none⟩ = some (.int .i64 f.regs) := B2.cell 3
    have d4 : W2.cell? ⟨b2, 4, none⟩ = some (.slice ca f.consts cc) := B2.cell 4
    have d5 : W2.cell? ⟨b2, 5, none⟩ = some (.slice da f.code.length dc) := B2.cell 5
    have e0 : W2.cell? ⟨b3, 0, none⟩ = some (.int .u8 6) := B3.cell 0
    have e1 : W2.cell? ⟨b3, 1, none⟩ = some (.int .i64 a) := B3.cell 1
    have e2 : W2.cell? ⟨b3, 2, none⟩ = some (.int .i64 b) := B3.cell 2
    have e3 : W2.cell? ⟨b3, 3, none⟩ = some (.int .i64 c) := B3.cell 3
    have l2 : b2 < W2.heap.size := B2.lt
    have l3 : b3 < W2.heap.size := B3.lt
    clear B2 B3
    go_wp2_with (go_at_call 15; refine (reg2 mv hv _ _ f.params f.regs a b _ hA _ _).mono ?_; rintro e w3 ⟨rfl, hU3⟩)
    go_ret
    exact ⟨(by first | rfl | (rw [hI]; rfl)), Up.trans U2 hU3⟩
  by_cases h0 : 0 ≤ c
  · have i0 : decide (0 ≤ c) = true := by simpa using h0
    have hw : IntKind.i64.wrap (f.regs - b) = f.regs - b := by rw [IntKind.wrap_i64] <;> omega
    have hI : insOk Fs f ⟨6, a, b, c⟩ = decide (c < f.regs - b) := by simp [insOk, hA, h0]
    go_enter Tryz.func10, Tryz.ntmps10
    go_upto_region 1 with (fail)
    obtain ⟨B2, B3, U2⟩ := two_new w #[mv, .int .i64 f.params, hv, .int .i64 f.regs, .slice ca f.consts cc, .slice da f.code.length dc] #[.int .u8 6, .int .i64 a, .int .i64 b, .int .i64 c] 50 45
    generalize World.alloc (World.alloc w _) _ = W2 at B2 B3 U2 ⊢
    generalize w.heap.size + 1 = b3 at B3 ⊢
    generalize w.heap.size = b2 at B2 ⊢
    have d0 : W2.cell? ⟨b2, 0, none⟩ = some mv := B2.cell 0
    have d1 : W2.cell? ⟨b2, 1, none⟩ = some (.int .i64 f.params) := B2.cell 1
    have d2 : W2.cell? ⟨b2, 2, none⟩ = some hv := B2.cell 2
    have d3 : W2.cell? ⟨b2, 3, none⟩ = some (.int .i64 f.regs) := B2.cell 3
    have d4 : W2.cell? ⟨b2, 4, none⟩ = some (.slice ca f.consts cc) := B2.cell 4
    have d5 : W2.cell? ⟨b2, 5, none⟩ = some (.slice da f.code.length dc) := B2.cell 5
    have e0 : W2.cell? ⟨b3, 0, none⟩ = some (.int .u8 6) := B3.cell 0
    have e1 : W2.cell? ⟨b3, 1, none⟩ = some (.int .i64 a) := B3.cell 1
    have e2 : W2.cell? ⟨b3, 2, none⟩ = some (.int .i64 b) := B3.cell 2
    have e3 : W2.cell? ⟨b3, 3, none⟩ = some (.int .i64 c) := B3.cell 3
    have l2 : b2 < W2.heap.size := B2.lt
    have l3 : b3 < W2.heap.size := B3.lt
    clear B2 B3
    go_wp2_with (go_at_call 15; refine (reg2 mv hv _ _ f.params f.regs a b _ hA _ _).mono ?_; rintro e w3 ⟨rfl, hU3⟩; have e2 := up_cell hU3 e2; have e3 := up_cell hU3 e3; have d0 := up_cell hU3 d0; have d1 := up_cell hU3 d1; have d2 := up_cell hU3 d2; have d3 := up_cell hU3 d3; have d4 := up_cell hU3 d4; have d5 := up_cell hU3 d5)
    go_ret
    exact ⟨(by first | rfl | (rw [hI]; rfl)), Up.trans U2 hU3⟩
  · have i0 : decide (0 ≤ c) = false := by simpa using h0
    have hI : insOk Fs f ⟨6, a, b, c⟩ = false := by simp [insOk, hA, h0]
    go_enter Tryz.func10, Tryz.ntmps10
    go_upto_region 1 with (fail)
    obtain ⟨B2, B3, U2⟩ := two_new w #[mv, .int .i64 f.params, hv, .int .i64 f.regs, .slice ca f.consts cc, .slice da f.code.length dc] #[.int .u8 6, .int .i64 a, .int .i64 b, .int .i64 c] 50 45
    generalize World.alloc (World.alloc w _) _ = W2 at B2 B3 U2 ⊢
    generalize w.heap.size + 1 = b3 at B3 ⊢
    generalize w.heap.size = b2 at B2 ⊢
    have d0 : W2.cell? ⟨b2, 0, none⟩ = some mv := B2.cell 0
    have d1 : W2.cell? ⟨b2, 1, none⟩ = some (.int .i64 f.params) := B2.cell 1
    have d2 : W2.cell? ⟨b2, 2, none⟩ = some hv := B2.cell 2
    have d3 : W2.cell? ⟨b2, 3, none⟩ = some (.int .i64 f.regs) := B2.cell 3
    have d4 : W2.cell? ⟨b2, 4, none⟩ = some (.slice ca f.consts cc) := B2.cell 4
    have d5 : W2.cell? ⟨b2, 5, none⟩ = some (.slice da f.code.length dc) := B2.cell 5
    have e0 : W2.cell? ⟨b3, 0, none⟩ = some (.int .u8 6) := B3.cell 0
    have e1 : W2.cell? ⟨b3, 1, none⟩ = some (.int .i64 a) := B3.cell 1
    have e2 : W2.cell? ⟨b3, 2, none⟩ = some (.int .i64 b) := B3.cell 2
    have e3 : W2.cell? ⟨b3, 3, none⟩ = some (.int .i64 c) := B3.cell 3
    have l2 : b2 < W2.heap.size := B2.lt
    have l3 : b3 < W2.heap.size := B3.lt
    clear B2 B3
    go_wp2_with (go_at_call 15; refine (reg2 mv hv _ _ f.params f.regs a b _ hA _ _).mono ?_; rintro e w3 ⟨rfl, hU3⟩; have e2 := up_cell hU3 e2; have e3 := up_cell hU3 e3; have d0 := up_cell hU3 d0; have d1 := up_cell hU3 d1; have d2 := up_cell hU3 d2; have d3 := up_cell hU3 d3; have d4 := up_cell hU3 d4; have d5 := up_cell hU3 d5)
    go_ret
    exact ⟨(by first | rfl | (rw [hI]; rfl)), Up.trans U2 hU3⟩
end
end Go.Proofs.YtffcdoiikefpcaaGreatDoor.vl
