/- valid.Check, walked (printed by vc_gen.py). -/
import Derived.Test.YtffcdoiikefpcaaGreatDoorVj
set_option linter.unusedVariables false
set_option linter.unusedSimpArgs false
namespace Go.Proofs.YtffcdoiikefpcaaGreatDoor.vl
open Go.RowKit Go.Maps mem
attribute [local go_sem ↓] Go.wp_at_zero Go.wp_at_succ
set_option maxRecDepth 100000
set_option maxHeartbeats 4000000
structure InsFine (x : Ins) : Prop where
  op : 0 ≤ x.op ∧ x.op ≤ 23
  b : -4000000000 ≤ x.b ∧ x.b ≤ 4000000000
  c : -4000000000 ≤ x.c ∧ x.c ≤ 4000000000
structure FnFine (f : Fn) : Prop where
  pa : -4000000000 ≤ f.params ∧ f.params ≤ 4000000000
  re : -4000000000 ≤ f.regs ∧ f.regs ≤ 4000000000
  he : f.held.length ≤ 1000000
  co : f.code.length ≤ 1000000
  ins : ∀ x ∈ f.code, InsFine x
def outV (o : Out) : Value := .tuple #[.int .i64 o.1, .int .i64 o.2.1, .int .i64 o.2.2]
def badSize (f : Fn) : Prop := f.params < 0 ∨ f.regs < 0 ∨ 100 < f.regs ∨ f.regs < f.params + f.held.length ∨ f.code.length = 0 ∨ 2000 < f.code.length
theorem chkF_size {Fs : List Fn} {n : Nat} {f : Fn} (h : badSize f) : chkF Fs n f = some ((n : Int), 0, 2) := by unfold chkF; unfold badSize at h; rw [if_pos h]
theorem chkF_mod {Fs : List Fn} {n : Nat} {f : Fn} (h : ¬ badSize f) (h0 : n = 0) (h1 : 0 < f.params + f.held.length) : chkF Fs n f = some (0, 0, 16) := by
  unfold chkF
  unfold badSize at h
  rw [if_neg h, if_pos ⟨h0, h1⟩]
theorem chkF_code {Fs : List Fn} {n : Nat} {f : Fn} (h : ¬ badSize f) (h1 : ¬ (n = 0 ∧ 0 < f.params + f.held.length)) : chkF Fs n f = chkI Fs f n 0 f.code := by
  unfold chkF
  unfold badSize at h
  rw [if_neg h, if_neg h1]
theorem chk_some {Fs : List Fn} {n : Nat} {f : Fn} {o : Out} (hr : chk Fs = chkL Fs n (Fs.drop n)) (hf : Fs[n]? = some f) (h : chkF Fs n f = some o) : chk Fs = o := by rw [hr, chkL_step hf, h]
theorem chk_none {Fs : List Fn} {n : Nat} {f : Fn} (hr : chk Fs = chkL Fs n (Fs.drop n)) (hf : Fs[n]? = some f) (h : chkF Fs n f = none) : chk Fs = chkL Fs (n + 1) (Fs.drop (n + 1)) := by rw [hr, chkL_step hf, h]
theorem chkI_bad {Fs : List Fn} {n i : Nat} {f : Fn} {x : Ins} {r : Option Out} (hr : r = chkI Fs f n i (f.code.drop i)) (hx : f.code[i]? = some x) (h : insOk Fs f x = false) : r = some ((n : Int), (i : Int), 16) := by rw [hr, chkI_step hx, h]; rfl
theorem chkI_last {Fs : List Fn} {n i : Nat} {f : Fn} {x : Ins} {r : Option Out} (hr : r = chkI Fs f n i (f.code.drop i)) (hx : f.code[i]? = some x) (hl : i + 1 = f.code.length) (h : ends x.op = false) : r = some ((n : Int), (i : Int), 16) := by
  rw [hr, chkI_step hx, if_pos]
  rw [h]
  simp [hl]
theorem chkI_next {Fs : List Fn} {n i : Nat} {f : Fn} {x : Ins} {r : Option Out} (hr : r = chkI Fs f n i (f.code.drop i)) (hx : f.code[i]? = some x) (h : insOk Fs f x = true) (hl : i + 1 = f.code.length → ends x.op = true) : r = chkI Fs f n (i + 1) (f.code.drop (i + 1)) := by
  rw [hr, chkI_step hx, if_neg]
  rw [h]
  by_cases e : i + 1 = f.code.length
  · rw [hl e]; simp
  · simp [e]
theorem blk_new' (w : World) (cs : Array Value) (t : TypeId) : Blk (w.alloc (.cells cs t)) w.heap.size cs t ∧ Up w (w.alloc (.cells cs t)) := ⟨Blk.new w cs t, (Up.refl w).alloc _⟩
theorem check_x (Fs : List Fn) (mv : Value) (w : World) (hF : FnsAt w mv Fs) (hok : ∀ f ∈ Fs, FnFine f) :
    Calls Tryz.prog 7 #[.agg #[mv]] w fun e w' => e = .returned (outV (chk Fs)) ∧ Up w w' := by
  obtain ⟨ma, mc, hmv, hm⟩ := hF
  have HF : Hid (FnsAt w mv Fs ∧ (∀ f ∈ Fs, FnFine f)) := ⟨⟨ma, mc, hmv, hm⟩, hok⟩
  have HM := Lib.hid hm
  clear hm hok
  subst hmv
  have E0 : ∀ W, (Instr.field 31 (.agg #[.slice ma Fs.length mc]) 0).run Tryz.prog W = .ok (.slice ma Fs.length mc) W := fun W => by kernel_rfl
  by_cases c1 : Fs.length = 0
  · have hO : chk Fs = (0, 0, 2) := by unfold chk; rw [if_pos (.inl c1)]
    have j1 : decide ((Fs.length : Int) < 1) = true := by simp [c1]
    go_enter Tryz.func7, Tryz.ntmps7
    go_wp2_with fail
    exact bodyPost_ret (v := .tuple #[.int .i64 0, .int .i64 0, .int .i64 2]) (by simp [results, Tryz.results7, go_sem]) rfl ⟨(by first | rfl | (rw [hO]; rfl)), (Up.refl _).alloc _⟩
  have j1 : decide ((Fs.length : Int) < 1) = false := by simp; omega
  by_cases c2 : 100 < Fs.length
  · have hO : chk Fs = (0, 0, 2) := by unfold chk; rw [if_pos (.inr c2)]
    have j2 : decide (100 < (Fs.length : Int)) = true := by simp; omega
    have j3 : (100 : Int) < (Fs.length : Int) := by omega
    go_enter Tryz.func7, Tryz.ntmps7
    go_wp2_with fail
    exact bodyPost_ret (v := .tuple #[.int .i64 0, .int .i64 0, .int .i64 2]) (by simp [results, Tryz.results7, go_sem]) rfl ⟨(by first | rfl | (rw [hO]; rfl)), (Up.refl _).alloc _⟩
  have j2 : decide (100 < (Fs.length : Int)) = false := by simp; omega
  have hS : chk Fs = chkL Fs 0 (Fs.drop 0) := by unfold chk; rw [if_neg (by omega)]; rfl
  go_enter Tryz.func7, Tryz.ntmps7
  go_upto_region 1 with (fail)
  obtain ⟨hB, hU⟩ := blk_new' w #[.slice ma Fs.length mc] 31
  generalize World.alloc w _ = W1 at hB hU ⊢
  generalize w.heap.size = bm at hB ⊢
  have d0 : W1.cell? ⟨bm, 0, none⟩ = some (.slice ma Fs.length mc) := hB.cell 0
  have HU : Hid (Up w W1 ∧ Blk W1 bm #[.slice ma Fs.length mc] 31) := ⟨hU, hB⟩
  have HS := Lib.hid hS
  clear hB hU hS
  go_wp2_with fail
  clear d0
  go_loopw [23] (fun i wr => ∃ t : Nat, t ≤ Fs.length ∧ i = .int .i64 t ∧ Up W1 wr ∧ chk Fs = chkL Fs t (Fs.drop t)) (fun i _ => Fs.length - (intOf i).toNat)
  case atStart => exact ⟨0, by omega, rfl, Up.refl _, HS.out⟩
  case round =>
    obtain ⟨t, ht, rfl, hUr, hSr⟩ := hrel
    have SS : Hid (Up W1 wr ∧ chk Fs = chkL Fs t (Fs.drop t)) := ⟨hUr, hSr⟩
    clear hSr
    by_cases hlt : t < Fs.length
    · obtain ⟨gb, goff, rfl, hgb, hx⟩ := HM.out.resolve_left c1
      obtain ⟨f, hf⟩ : ∃ f, Fs[t]? = some f := ⟨_, List.getElem?_eq_getElem hlt⟩
      obtain ⟨hv, cv, dv, hfi, f0, f1, f2, f3, f4⟩ := (hx t f hf).up (Up.trans HU.out.1 hUr)
      clear hx
      have fine := HF.out.2 f (List.mem_of_getElem? hf)
      obtain ⟨⟨ha, hc, rfl, -⟩, ⟨ca, cc, rfl⟩, da, dc, rfl, hcode⟩ := id hfi
      have HFI : Hid (FnIs wr f (.slice ha f.held.length hc) (.slice ca f.consts cc) (.slice da f.code.length dc) ∧ FnFine f ∧ Fs[t]? = some f) := ⟨hfi, fine, hf⟩
      have HCO := Lib.hid hcode
      obtain ⟨⟨pa0, pa1⟩, ⟨re0, re1⟩, he, hco, -⟩ := fine
      clear hf hfi hcode
      have it0 : (t : Int) < (Fs.length : Int) := by omega
      go_upto_region 6 with (fail)
      obtain ⟨hB, hU⟩ := blk_new' wr #[.int .i64 f.params, .slice ha f.held.length hc, .int .i64 f.regs, .slice ca f.consts cc, .slice da f.code.length dc] 42
      generalize World.alloc wr _ = wa at hB hU ⊢
      generalize wr.heap.size = bf at hB ⊢
      have d0 : wa.cell? ⟨bf, 0, none⟩ = some (.int .i64 f.params) := hB.cell 0
      have d1 : wa.cell? ⟨bf, 1, none⟩ = some (.slice ha f.held.length hc) := hB.cell 1
      have d2 : wa.cell? ⟨bf, 2, none⟩ = some (.int .i64 f.regs) := hB.cell 2
      have d3 : wa.cell? ⟨bf, 3, none⟩ = some (.slice ca f.consts cc) := hB.cell 3
      have d4 : wa.cell? ⟨bf, 4, none⟩ = some (.slice da f.code.length dc) := hB.cell 4
      have HB : Hid (Up wr wa ∧ Blk wa bf #[.int .i64 f.params, .slice ha f.held.length hc, .int .i64 f.regs, .slice ca f.consts cc, .slice da f.code.length dc] 42) := ⟨hU, hB⟩
      clear hB hU f0 f1 f2 f3 f4 hUr
      have UA : Hid (Up w wa) := Up.trans HU.out.1 (Up.trans SS.out.1 HB.out.1)
      have hw1 : IntKind.i64.wrap (f.regs - (f.held.length : Int)) = f.regs - (f.held.length : Int) := by rw [IntKind.wrap_i64] <;> omega
      have hw2 : IntKind.i64.wrap (f.params + (f.held.length : Int)) = f.params + (f.held.length : Int) := by rw [IntKind.wrap_i64] <;> omega
      by_cases k0 : f.params < 0
      · have x0 : decide (f.params < 0) = true := by simpa using k0
        have hO : chk Fs = ((t : Int), 0, 2) := chk_some SS.out.2 HFI.out.2.2 (chkF_size (.inl k0))
        clear SS
        go_wp2_with fail
        exact bodyPost_ret (v := .tuple #[.int .i64 (t : Int), .int .i64 0, .int .i64 2]) (by simp [results, Tryz.results7, go_sem]) rfl ⟨(by first | rfl | (rw [hO]; rfl)), UA.out⟩
      have x0 : decide (f.params < 0) = false := by simpa using k0
      by_cases k1 : f.regs < 0
      · have x1 : decide (f.regs < 0) = true := by simpa using k1
        have hO : chk Fs = ((t : Int), 0, 2) := chk_some SS.out.2 HFI.out.2.2 (chkF_size (.inr (.inl k1)))
        clear SS
        go_wp2_with fail
        exact bodyPost_ret (v := .tuple #[.int .i64 (t : Int), .int .i64 0, .int .i64 2]) (by simp [results, Tryz.results7, go_sem]) rfl ⟨(by first | rfl | (rw [hO]; rfl)), UA.out⟩
      have x1 : decide (f.regs < 0) = false := by simpa using k1
      by_cases k2 : 100 < f.regs
      · have x2 : decide (100 < f.regs) = true := by simpa using k2
        have hO : chk Fs = ((t : Int), 0, 2) := chk_some SS.out.2 HFI.out.2.2 (chkF_size (.inr (.inr (.inl k2))))
        clear SS
        go_wp2_with fail
        exact bodyPost_ret (v := .tuple #[.int .i64 (t : Int), .int .i64 0, .int .i64 2]) (by simp [results, Tryz.results7, go_sem]) rfl ⟨(by first | rfl | (rw [hO]; rfl)), UA.out⟩
      have x2 : decide (100 < f.regs) = false := by simpa using k2
      by_cases k3 : f.regs - (f.held.length : Int) < f.params
      · have x3 : decide (f.regs - (f.held.length : Int) < f.params) = true := by simpa using k3
        have hO : chk Fs = ((t : Int), 0, 2) := chk_some SS.out.2 HFI.out.2.2 (chkF_size (.inr (.inr (.inr (.inl (by omega))))))
        clear SS
        go_wp2_with fail
        exact bodyPost_ret (v := .tuple #[.int .i64 (t : Int), .int .i64 0, .int .i64 2]) (by simp [results, Tryz.results7, go_sem]) rfl ⟨(by first | rfl | (rw [hO]; rfl)), UA.out⟩
      have x3 : decide (f.regs - (f.held.length : Int) < f.params) = false := by simpa using k3
      by_cases k4 : (f.code.length : Int) < 1
      · have x4 : decide ((f.code.length : Int) < 1) = true := by simpa using k4
        have hO : chk Fs = ((t : Int), 0, 2) := chk_some SS.out.2 HFI.out.2.2 (chkF_size (.inr (.inr (.inr (.inr (.inl (by omega)))))))
        clear SS
        go_wp2_with fail
        exact bodyPost_ret (v := .tuple #[.int .i64 (t : Int), .int .i64 0, .int .i64 2]) (by simp [results, Tryz.results7, go_sem]) rfl ⟨(by first | rfl | (rw [hO]; rfl)), UA.out⟩
      have x4 : decide ((f.code.length : Int) < 1) = false := by simpa using k4
      by_cases k5 : 2000 < (f.code.length : Int)
      · have x5 : decide (2000 < (f.code.length : Int)) = true := by simpa using k5
        have hO : chk Fs = ((t : Int), 0, 2) := chk_some SS.out.2 HFI.out.2.2 (chkF_size (.inr (.inr (.inr (.inr (.inr (by omega)))))))
        clear SS
        go_wp2_with fail
        exact bodyPost_ret (v := .tuple #[.int .i64 (t : Int), .int .i64 0, .int .i64 2]) (by simp [results, Tryz.results7, go_sem]) rfl ⟨(by first | rfl | (rw [hO]; rfl)), UA.out⟩
      have x5 : decide (2000 < (f.code.length : Int)) = false := by simpa using k5
      have hgood : Hid (¬ badSize f) := by unfold badSize; show ¬ _; omega
      go_upto_region 8 with (fail)
      by_cases k7 : t = 0 ∧ 0 < f.params + (f.held.length : Int)
      · obtain ⟨rfl, k8⟩ := k7
        have x8 : decide (0 < f.params + (f.held.length : Int)) = true := by simpa using k8
        have hO : chk Fs = (0, 0, 16) := chk_some SS.out.2 HFI.out.2.2 (chkF_mod hgood.out rfl k8)
        clear SS
        go_wp2_with fail
        exact bodyPost_ret (v := .tuple #[.int .i64 0, .int .i64 0, .int .i64 16]) (by simp [results, Tryz.results7, go_sem]) rfl ⟨(by first | rfl | (rw [hO]; rfl)), UA.out⟩
      have HC : Hid (chkF Fs t f = chkI Fs f t 0 (f.code.drop 0)) := chkF_code hgood.out k7
      clear hgood
      by_cases k9 : t = 0
      · have x8 : decide (0 < f.params + (f.held.length : Int)) = false := by simp; omega
        have x9 : ((t : Int) == 0) = true := by simp; omega
        have x10 : decide ((t : Int) = 0) = true := by simp; omega
        have x11 : decide (t = 0) = true := by simp; omega
        clear k9 k7
        obtain ⟨wA, hwA⟩ : ∃ wA, wA = wr := ⟨_, rfl⟩
        subst hwA
        have bm0 : wa.cell? ⟨bm, 0, none⟩ = some (.slice (some ⟨gb, goff, none⟩) Fs.length mc) := up_cell (Up.trans SS.out.1 HB.out.1) (HU.out.2.cell 0)
        go_upto_region 11 with (fail)
        obtain ⟨hB2, hU2⟩ := blk_new' wa #[.slice (some ⟨gb, goff, none⟩) Fs.length mc, .int .i64 f.params, .slice ha f.held.length hc, .int .i64 f.regs, .slice ca f.consts cc, .slice da f.code.length dc] 50
        generalize World.alloc wa _ = w2 at hB2 hU2 ⊢
        generalize wa.heap.size = bc at hB2 ⊢
        have d4 := up_cell hU2 d4
        have H2 : Hid (Up wa w2 ∧ Blk w2 bc #[.slice (some ⟨gb, goff, none⟩) Fs.length mc, .int .i64 f.params, .slice ha f.held.length hc, .int .i64 f.regs, .slice ca f.consts cc, .slice da f.code.length dc] 50) := ⟨hU2, hB2⟩
        have U2 : Hid (Up w w2) := Up.trans UA.out hU2
        have IX : Hid (∀ (x : Ins) wx, x ∈ f.code → Up w2 wx → Calls Tryz.prog 10 #[.agg #[.slice (some ⟨gb, goff, none⟩) Fs.length mc, .int .i64 f.params, .slice ha f.held.length hc, .int .i64 f.regs, .slice ca f.consts cc, .slice da f.code.length dc], .agg #[.int .u8 x.op, .int .i64 x.a, .int .i64 x.b, .int .i64 x.c]] wx fun e w' => e = .returned (.bool (insOk Fs f x)) ∧ Up wx w') := fun x wx hx hu =>
          instr_x Fs f _ _ _ _ x wx (HF.out.1.up (Up.trans U2.out hu)) (HFI.out.1.up (Up.trans HB.out.1 (Up.trans hU2 hu))) (fun g hg => (HF.out.2 g hg).he) HFI.out.2.1.re (HFI.out.2.1.ins x hx).op (HFI.out.2.1.ins x hx).b
        clear hB2 hU2 d0 d1 d2 d3 bm0
        go_wp2_with fail
        clear d4
        go_loopw [84] (fun i wr => ∃ j : Nat, j ≤ f.code.length ∧ i = .int .i64 j ∧ Up w2 wr ∧ chkF Fs t f = chkI Fs f t j (f.code.drop j)) (fun i _ => f.code.length - (intOf i).toNat)
        case atStart => exact ⟨0, by omega, rfl, Up.refl _, HC.out⟩
        case round =>
          obtain ⟨j, hj, rfl, hUq, hSq⟩ := hrel
          have SQ : Hid (Up w2 wr ∧ chkF Fs t f = chkI Fs f t j (f.code.drop j)) := ⟨hUq, hSq⟩
          clear hSq
          by_cases hjl : j < f.code.length
          · obtain ⟨cb, coff, rfl, hcb, hxc⟩ := HCO.out.resolve_left (by omega)
            obtain ⟨x, hx⟩ : ∃ x, f.code[j]? = some x := ⟨_, List.getElem?_eq_getElem hjl⟩
            obtain ⟨g0, g1, g2, g3⟩ := (hxc j x hx).up (Up.trans HB.out.1 (Up.trans H2.out.1 hUq))
            clear hxc
            have HX := Lib.hid hx
            have ij0 : (j : Int) < (f.code.length : Int) := by omega
            go_upto_region 14 with (fail)
            obtain ⟨hB3, hU3⟩ := blk_new' wr #[.int .u8 x.op, .int .i64 x.a, .int .i64 x.b, .int .i64 x.c] 45
            generalize World.alloc wr _ = w3 at hB3 hU3 ⊢
            generalize wr.heap.size = bx at hB3 ⊢
            have U3 : Up w2 w3 := Up.trans hUq hU3
            have q0 : w3.cell? ⟨bx, 0, none⟩ = some (.int .u8 x.op) := hB3.cell 0
            have q1 : w3.cell? ⟨bx, 1, none⟩ = some (.int .i64 x.a) := hB3.cell 1
            have q2 : w3.cell? ⟨bx, 2, none⟩ = some (.int .i64 x.b) := hB3.cell 2
            have q3 : w3.cell? ⟨bx, 3, none⟩ = some (.int .i64 x.c) := hB3.cell 3
            have p0 : w3.cell? ⟨bc, 0, none⟩ = some (.slice (some ⟨gb, goff, none⟩) Fs.length mc) := up_cell U3 (H2.out.2.cell 0)
            have p1 : w3.cell? ⟨bc, 1, none⟩ = some (.int .i64 f.params) := up_cell U3 (H2.out.2.cell 1)
            have p2 : w3.cell? ⟨bc, 2, none⟩ = some (.slice ha f.held.length hc) := up_cell U3 (H2.out.2.cell 2)
            have p3 : w3.cell? ⟨bc, 3, none⟩ = some (.int .i64 f.regs) := up_cell U3 (H2.out.2.cell 3)
            have p4 : w3.cell? ⟨bc, 4, none⟩ = some (.slice ca f.consts cc) := up_cell U3 (H2.out.2.cell 4)
            have p5 : w3.cell? ⟨bc, 5, none⟩ = some (.slice (some ⟨cb, coff, none⟩) f.code.length dc) := up_cell U3 (H2.out.2.cell 5)
            have d4 : w3.cell? ⟨bf, 4, none⟩ = some (.slice (some ⟨cb, coff, none⟩) f.code.length dc) := up_cell (Up.trans H2.out.1 U3) (HB.out.2.cell 4)
            have hwl : IntKind.i64.wrap ((f.code.length : Int) - 1) = (f.code.length : Int) - 1 := by rw [IntKind.wrap_i64] <;> omega
            have CI := Lib.hid (IX.out x w3 (List.mem_of_getElem? hx) U3)
            clear hB3 hU3 g0 g1 g2 g3 hx hUq
            have UQ := Lib.hid (Up.trans U2.out U3)
            have UU := Lib.hid U3
            clear U3
            cases hins : insOk Fs f x
            · have hO : chk Fs = ((t : Int), (j : Int), 16) := chk_some SS.out.2 HFI.out.2.2 (chkI_bad SQ.out.2 HX.out hins)
              rw [hins] at CI
              go_wp2_with (go_at_call 10; refine CI.out.mono ?_; rintro e w4 ⟨rfl, hU4⟩)
              exact bodyPost_ret (v := .tuple #[.int .i64 (t : Int), .int .i64 (j : Int), .int .i64 16]) (by simp [results, Tryz.results7, go_sem]) rfl ⟨(by first | rfl | (rw [hO]; rfl)), Up.trans UQ.out hU4⟩
            rw [hins] at CI
            by_cases hla : j + 1 = f.code.length
            · have y0 : ((j : Int) == (f.code.length : Int) - 1) = true := by simp; omega
              have y1 : decide ((j : Int) = (f.code.length : Int) - 1) = true := by simp; omega
              have y2 : (j : Int) = (f.code.length : Int) - 1 := by omega
              cases hen : ends x.op
              · have hO : chk Fs = ((t : Int), (j : Int), 16) := chk_some SS.out.2 HFI.out.2.2 (chkI_last SQ.out.2 HX.out hla hen)
                have EN : Hid (∀ wx, Calls Tryz.prog 11 #[.int .u8 x.op] wx fun e w' => e = .returned (.bool false) ∧ Up wx w') := fun wx => by have h9 := ends_x x.op wx; rw [hen] at h9; exact h9
                clear y2
                go_wp2_with (first | (go_at_call 10; refine CI.out.mono ?_; rintro e w4 ⟨rfl, hU4⟩; have d4 := up_cell hU4 d4; have q0 := up_cell hU4 q0) | (go_at_call 11; refine (EN.out _).mono ?_; rintro e w5 ⟨rfl, hU5⟩))
                exact bodyPost_ret (v := .tuple #[.int .i64 (t : Int), .int .i64 (j : Int), .int .i64 16]) (by simp [results, Tryz.results7, go_sem]) rfl ⟨(by first | rfl | (rw [hO]; rfl)), Up.trans UQ.out (Up.trans hU4 hU5)⟩
              · have hN := chkI_next SQ.out.2 HX.out hins (fun _ => hen)
                have EN : Hid (∀ wx, Calls Tryz.prog 11 #[.int .u8 x.op] wx fun e w' => e = .returned (.bool true) ∧ Up wx w') := fun wx => by have h9 := ends_x x.op wx; rw [hen] at h9; exact h9
                clear y2
                go_wp2_with (first | (go_at_call 10; refine CI.out.mono ?_; rintro e w4 ⟨rfl, hU4⟩; have d4 := up_cell hU4 d4; have q0 := up_cell hU4 q0) | (go_at_call 11; refine (EN.out _).mono ?_; rintro e w5 ⟨rfl, hU5⟩))
                go_roundw
                case rel => exact ⟨j + 1, by omega, by go_num, Up.trans UU.out (Up.trans hU4 hU5), hN⟩
                case measure => simp [intOf]; omega
            · have y0 : ((j : Int) == (f.code.length : Int) - 1) = false := by simp; omega
              have y1 : decide ((j : Int) = (f.code.length : Int) - 1) = false := by simp; omega
              have hN := chkI_next SQ.out.2 HX.out hins (fun h => absurd h hla)
              go_wp2_with (go_at_call 10; refine CI.out.mono ?_; rintro e w4 ⟨rfl, hU4⟩; have d4 := up_cell hU4 d4; have q0 := up_cell hU4 q0)
              go_roundw
              case rel => exact ⟨j + 1, by omega, by go_num, Up.trans UU.out hU4, hN⟩
              case measure => simp [intOf]; omega
          · have hje : f.code.length = j := by omega
            have hN := chk_none SS.out.2 HFI.out.2.2 (SQ.out.2.trans (chkI_end Fs f t j (by omega)))
            go_wp2_with fail
            go_roundw
            case rel => exact ⟨t + 1, by omega, by go_num, Up.trans SS.out.1 (Up.trans HB.out.1 (Up.trans H2.out.1 hUq)), hN⟩
            case measure => simp [intOf]; omega
      · have x9 : ((t : Int) == 0) = false := by simp; omega
        clear k7
        obtain ⟨wA, hwA⟩ : ∃ wA, wA = wr := ⟨_, rfl⟩
        subst hwA
        have bm0 : wa.cell? ⟨bm, 0, none⟩ = some (.slice (some ⟨gb, goff, none⟩) Fs.length mc) := up_cell (Up.trans SS.out.1 HB.out.1) (HU.out.2.cell 0)
        go_upto_region 11 with (fail)
        obtain ⟨hB2, hU2⟩ := blk_new' wa #[.slice (some ⟨gb, goff, none⟩) Fs.length mc, .int .i64 f.params, .slice ha f.held.length hc, .int .i64 f.regs, .slice ca f.consts cc, .slice da f.code.length dc] 50
        generalize World.alloc wa _ = w2 at hB2 hU2 ⊢
        generalize wa.heap.size = bc at hB2 ⊢
        have d4 := up_cell hU2 d4
        have H2 : Hid (Up wa w2 ∧ Blk w2 bc #[.slice (some ⟨gb, goff, none⟩) Fs.length mc, .int .i64 f.params, .slice ha f.held.length hc, .int .i64 f.regs, .slice ca f.consts cc, .slice da f.code.length dc] 50) := ⟨hU2, hB2⟩
        have U2 : Hid (Up w w2) := Up.trans UA.out hU2
        have IX : Hid (∀ (x : Ins) wx, x ∈ f.code → Up w2 wx → Calls Tryz.prog 10 #[.agg #[.slice (some ⟨gb, goff, none⟩) Fs.length mc, .int .i64 f.params, .slice ha f.held.length hc, .int .i64 f.regs, .slice ca f.consts cc, .slice da f.code.length dc], .agg #[.int .u8 x.op, .int .i64 x.a, .int .i64 x.b, .int .i64 x.c]] wx fun e w' => e = .returned (.bool (insOk Fs f x)) ∧ Up wx w') := fun x wx hx hu =>
          instr_x Fs f _ _ _ _ x wx (HF.out.1.up (Up.trans U2.out hu)) (HFI.out.1.up (Up.trans HB.out.1 (Up.trans hU2 hu))) (fun g hg => (HF.out.2 g hg).he) HFI.out.2.1.re (HFI.out.2.1.ins x hx).op (HFI.out.2.1.ins x hx).b
        clear hB2 hU2 d0 d1 d2 d3 bm0
        go_wp2_with fail
        clear d4
        go_loopw [84] (fun i wr => ∃ j : Nat, j ≤ f.code.length ∧ i = .int .i64 j ∧ Up w2 wr ∧ chkF Fs t f = chkI Fs f t j (f.code.drop j)) (fun i _ => f.code.length - (intOf i).toNat)
        case atStart => exact ⟨0, by omega, rfl, Up.refl _, HC.out⟩
        case round =>
          obtain ⟨j, hj, rfl, hUq, hSq⟩ := hrel
          have SQ : Hid (Up w2 wr ∧ chkF Fs t f = chkI Fs f t j (f.code.drop j)) := ⟨hUq, hSq⟩
          clear hSq
          by_cases hjl : j < f.code.length
          · obtain ⟨cb, coff, rfl, hcb, hxc⟩ := HCO.out.resolve_left (by omega)
            obtain ⟨x, hx⟩ : ∃ x, f.code[j]? = some x := ⟨_, List.getElem?_eq_getElem hjl⟩
            obtain ⟨g0, g1, g2, g3⟩ := (hxc j x hx).up (Up.trans HB.out.1 (Up.trans H2.out.1 hUq))
            clear hxc
            have HX := Lib.hid hx
            have ij0 : (j : Int) < (f.code.length : Int) := by omega
            go_upto_region 14 with (fail)
            obtain ⟨hB3, hU3⟩ := blk_new' wr #[.int .u8 x.op, .int .i64 x.a, .int .i64 x.b, .int .i64 x.c] 45
            generalize World.alloc wr _ = w3 at hB3 hU3 ⊢
            generalize wr.heap.size = bx at hB3 ⊢
            have U3 : Up w2 w3 := Up.trans hUq hU3
            have q0 : w3.cell? ⟨bx, 0, none⟩ = some (.int .u8 x.op) := hB3.cell 0
            have q1 : w3.cell? ⟨bx, 1, none⟩ = some (.int .i64 x.a) := hB3.cell 1
            have q2 : w3.cell? ⟨bx, 2, none⟩ = some (.int .i64 x.b) := hB3.cell 2
            have q3 : w3.cell? ⟨bx, 3, none⟩ = some (.int .i64 x.c) := hB3.cell 3
            have p0 : w3.cell? ⟨bc, 0, none⟩ = some (.slice (some ⟨gb, goff, none⟩) Fs.length mc) := up_cell U3 (H2.out.2.cell 0)
            have p1 : w3.cell? ⟨bc, 1, none⟩ = some (.int .i64 f.params) := up_cell U3 (H2.out.2.cell 1)
            have p2 : w3.cell? ⟨bc, 2, none⟩ = some (.slice ha f.held.length hc) := up_cell U3 (H2.out.2.cell 2)
            have p3 : w3.cell? ⟨bc, 3, none⟩ = some (.int .i64 f.regs) := up_cell U3 (H2.out.2.cell 3)
            have p4 : w3.cell? ⟨bc, 4, none⟩ = some (.slice ca f.consts cc) := up_cell U3 (H2.out.2.cell 4)
            have p5 : w3.cell? ⟨bc, 5, none⟩ = some (.slice (some ⟨cb, coff, none⟩) f.code.length dc) := up_cell U3 (H2.out.2.cell 5)
            have d4 : w3.cell? ⟨bf, 4, none⟩ = some (.slice (some ⟨cb, coff, none⟩) f.code.length dc) := up_cell (Up.trans H2.out.1 U3) (HB.out.2.cell 4)
            have hwl : IntKind.i64.wrap ((f.code.length : Int) - 1) = (f.code.length : Int) - 1 := by rw [IntKind.wrap_i64] <;> omega
            have CI := Lib.hid (IX.out x w3 (List.mem_of_getElem? hx) U3)
            clear hB3 hU3 g0 g1 g2 g3 hx hUq
            have UQ := Lib.hid (Up.trans U2.out U3)
            have UU := Lib.hid U3
            clear U3
            cases hins : insOk Fs f x
            · have hO : chk Fs = ((t : Int), (j : Int), 16) := chk_some SS.out.2 HFI.out.2.2 (chkI_bad SQ.out.2 HX.out hins)
              rw [hins] at CI
              go_wp2_with (go_at_call 10; refine CI.out.mono ?_; rintro e w4 ⟨rfl, hU4⟩)
              exact bodyPost_ret (v := .tuple #[.int .i64 (t : Int), .int .i64 (j : Int), .int .i64 16]) (by simp [results, Tryz.results7, go_sem]) rfl ⟨(by first | rfl | (rw [hO]; rfl)), Up.trans UQ.out hU4⟩
            rw [hins] at CI
            by_cases hla : j + 1 = f.code.length
            · have y0 : ((j : Int) == (f.code.length : Int) - 1) = true := by simp; omega
              have y1 : decide ((j : Int) = (f.code.length : Int) - 1) = true := by simp; omega
              have y2 : (j : Int) = (f.code.length : Int) - 1 := by omega
              cases hen : ends x.op
              · have hO : chk Fs = ((t : Int), (j : Int), 16) := chk_some SS.out.2 HFI.out.2.2 (chkI_last SQ.out.2 HX.out hla hen)
                have EN : Hid (∀ wx, Calls Tryz.prog 11 #[.int .u8 x.op] wx fun e w' => e = .returned (.bool false) ∧ Up wx w') := fun wx => by have h9 := ends_x x.op wx; rw [hen] at h9; exact h9
                clear y2
                go_wp2_with (first | (go_at_call 10; refine CI.out.mono ?_; rintro e w4 ⟨rfl, hU4⟩; have d4 := up_cell hU4 d4; have q0 := up_cell hU4 q0) | (go_at_call 11; refine (EN.out _).mono ?_; rintro e w5 ⟨rfl, hU5⟩))
                exact bodyPost_ret (v := .tuple #[.int .i64 (t : Int), .int .i64 (j : Int), .int .i64 16]) (by simp [results, Tryz.results7, go_sem]) rfl ⟨(by first | rfl | (rw [hO]; rfl)), Up.trans UQ.out (Up.trans hU4 hU5)⟩
              · have hN := chkI_next SQ.out.2 HX.out hins (fun _ => hen)
                have EN : Hid (∀ wx, Calls Tryz.prog 11 #[.int .u8 x.op] wx fun e w' => e = .returned (.bool true) ∧ Up wx w') := fun wx => by have h9 := ends_x x.op wx; rw [hen] at h9; exact h9
                clear y2
                go_wp2_with (first | (go_at_call 10; refine CI.out.mono ?_; rintro e w4 ⟨rfl, hU4⟩; have d4 := up_cell hU4 d4; have q0 := up_cell hU4 q0) | (go_at_call 11; refine (EN.out _).mono ?_; rintro e w5 ⟨rfl, hU5⟩))
                go_roundw
                case rel => exact ⟨j + 1, by omega, by go_num, Up.trans UU.out (Up.trans hU4 hU5), hN⟩
                case measure => simp [intOf]; omega
            · have y0 : ((j : Int) == (f.code.length : Int) - 1) = false := by simp; omega
              have y1 : decide ((j : Int) = (f.code.length : Int) - 1) = false := by simp; omega
              have hN := chkI_next SQ.out.2 HX.out hins (fun h => absurd h hla)
              go_wp2_with (go_at_call 10; refine CI.out.mono ?_; rintro e w4 ⟨rfl, hU4⟩; have d4 := up_cell hU4 d4; have q0 := up_cell hU4 q0)
              go_roundw
              case rel => exact ⟨j + 1, by omega, by go_num, Up.trans UU.out hU4, hN⟩
              case measure => simp [intOf]; omega
          · have hje : f.code.length = j := by omega
            have hN := chk_none SS.out.2 HFI.out.2.2 (SQ.out.2.trans (chkI_end Fs f t j (by omega)))
            go_wp2_with fail
            go_roundw
            case rel => exact ⟨t + 1, by omega, by go_num, Up.trans SS.out.1 (Up.trans HB.out.1 (Up.trans H2.out.1 hUq)), hN⟩
            case measure => simp [intOf]; omega
    · have hte : Fs.length = t := by omega
      have hO : chk Fs = (0, 0, 0) := SS.out.2.trans (chkL_end Fs t (by omega))
      go_wp2_with fail
      exact bodyPost_ret (v := .tuple #[.int .i64 0, .int .i64 0, .int .i64 0]) (by simp [results, Tryz.results7, go_sem]) rfl ⟨(by first | rfl | (rw [hO]; rfl)), Up.trans HU.out.1 hUr⟩
end Go.Proofs.YtffcdoiikefpcaaGreatDoor.vl
