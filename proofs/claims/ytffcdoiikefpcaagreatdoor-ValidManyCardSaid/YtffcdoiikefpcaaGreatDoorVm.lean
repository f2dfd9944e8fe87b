/- ValidMany: the walk. -/
import Derived.Test.YtffcdoiikefpcaaGreatDoorVx
import Derived.Test.YtffcdoiikefpcaaGreatDoorVp
import Derived.Test.YtffcdoiikefpcaaGreatDoorAwake
set_option linter.unusedVariables false
set_option linter.unusedSimpArgs false
namespace Go.Proofs.YtffcdoiikefpcaaGreatDoor.vl
open Go.RowKit Go.Maps mem
attribute [local go_sem ↓] Go.wp_at_zero Go.wp_at_succ
set_option maxRecDepth 100000
set_option maxHeartbeats 4000000
theorem infoIns : (Tryz.prog.info? 45).map (fun i => (i.zero, i.size, i.bytes)) = some (some (.agg #[.int .u8 0, .int .i64 0, .int .i64 0, .int .i64 0]), 4, 32) := by kernel_rfl
theorem infoFn : (Tryz.prog.info? 42).map (fun i => (i.zero, i.size, i.bytes)) = some (some (.agg #[.int .i64 0, .slice none 0 0, .int .i64 0, .slice none 0 0, .slice none 0 0]), 5, 88) := by kernel_rfl
theorem make_ins (K : Nat) (hK : K ≤ 100000) (W : World) : (Instr.makeSlice 38 (.int .i64 (K : Int)) (.int .i64 (K : Int))).run Tryz.prog W = .ok (.slice (some ⟨W.heap.size, 0, none⟩) K K) (W.alloc (.cells (madeCells #[.int .u8 0, .int .i64 0, .int .i64 0, .int .i64 0] (K * 4)) 45)) := by
  obtain ⟨iV, hi, hz0, hz1, hz2⟩ := info_of infoIns
  have q := run_make (P := Tryz.prog) W 38 45 iV _ Tryz.underlying38 hi hz0 .i64 .i64 (K : Int) (K : Int) (by omega) (by omega) (by rw [hz2]; omega) (by omega)
  rw [hz1, Int.toNat_natCast] at q
  exact q
def rfMany (y : Int) (cb K : Nat) : Rf := (⟨0, [], y, 0, List.replicate K ret0⟩, .slice none 0 0, .slice none 0 0, .slice (some ⟨cb, 0, none⟩) K K)
def rsMany (cb K : Nat) : Rf := (⟨0, [], 1, 0, List.replicate 1 ret0⟩, .slice none 0 0, .slice none 0 0, .slice (some ⟨cb, 0, none⟩) 1 K)
theorem many (x y z : Int) (w : World) (hL : Laid w) (hx : 0 ≤ x ∧ x ≤ 255) (hy : 0 ≤ y ∧ y ≤ 255) (hz : 0 ≤ z ∧ z ≤ 65535) :
    Calls Tryz.prog 4 #[.int .u8 x, .int .u8 y, .int .u16 z] w fun e w' => e = .returned (.bool true) ∧ Up w w' := by
  obtain ⟨q, hq⟩ : ∃ q : Nat, z % 20 = (q : Int) := ⟨(z % 20).toNat, by omega⟩
  obtain ⟨p, hp⟩ : ∃ p : Nat, x % 6 = (p : Int) := ⟨(x % 6).toNat, by omega⟩
  obtain ⟨K, hK⟩ : ∃ K : Nat, K = 1990 + q := ⟨_, rfl⟩
  obtain ⟨P, hP⟩ : ∃ P : Nat, P = 97 + p := ⟨_, rfl⟩
  have hK1 : 1990 ≤ K ∧ K ≤ 2009 := by omega
  have hP1 : 97 ≤ P ∧ P ≤ 102 := by omega
  have hw1 : IntKind.i64.wrap (1990 + (q : Int)) = (K : Int) := by rw [IntKind.wrap_i64] <;> omega
  have hw2 : IntKind.i64.wrap (97 + (p : Int)) = (P : Int) := by rw [IntKind.wrap_i64] <;> omega
  have MKI := make_ins K (by omega)
  clear hK hP
  go_enter Tryz.func4, Tryz.ntmps4
  go_upto_region 3 with (go_at_call 5; refine (awake11 _ hL).mono ?_; rintro e w0 ⟨rfl, hb0⟩)
  go_upto_region 5 with (fail)
  have hb0 : Up w w0 := hb0
  obtain ⟨hB, hB8, hU⟩ := two_new w0 (madeCells #[.int .u8 0, .int .i64 0, .int .i64 0, .int .i64 0] (K * 4)) #[.int .i64 0, .slice none 0 0, .int .i64 y, .slice none 0 0, .slice (some ⟨w0.heap.size, 0, none⟩) K K] 45 42
  have hne : w0.heap.size + 1 ≠ w0.heap.size := by omega
  have hcb := hb0.size
  generalize World.alloc (World.alloc w0 _) _ = W1 at hB hB8 hU ⊢
  generalize w0.heap.size + 1 = b8 at hB8 hne ⊢
  generalize w0.heap.size = cb at hB hB8 hne hcb ⊢
  have d4 : W1.cell? ⟨b8, 4, none⟩ = some (.slice (some ⟨cb, 0, none⟩) K K) := hB8.cell 4
  have H0 : Hid (M1 W1 W1 cb K 0) := ⟨Chg.refl _ _, _, hB, fun j hj => made4_get K j hj⟩
  have H1 : Hid (Blk W1 b8 #[.int .i64 0, .slice none 0 0, .int .i64 y, .slice none 0 0, .slice (some ⟨cb, 0, none⟩) K K] 42 ∧ b8 ≠ cb ∧ Up w W1 ∧ w.heap.size ≤ cb) := ⟨hB8, hne, Up.trans hb0 hU, hcb⟩
  clear hB hB8 hU hne hcb MKI hq hw1 hb0
  go_wp2_with fail
  clear d4
  go_loopw [32] (fun i wr => ∃ t : Nat, t ≤ K ∧ i = .int .i64 t ∧ M1 W1 wr cb K t) (fun i _ => K - (intOf i).toNat)
  case atStart => exact ⟨0, by omega, rfl, H0.out⟩
  case round =>
    obtain ⟨t, ht, rfl, hM⟩ := hrel
    have HM := Lib.hid hM
    have hB8 := H1.out.1.chg hM.cg (by simpa using H1.out.2.1)
    have d4 : wr.cell? ⟨b8, 4, none⟩ = some (.slice (some ⟨cb, 0, none⟩) K K) := hB8.cell 4
    by_cases hlt : t < K
    · obtain ⟨cs, hb, hc⟩ := hM.blk
      have c0 : wr.cell? ⟨cb, t * 4, none⟩ = some (.int .u8 0) := by
        rw [hb.cell, hc _ (by omega)]
        unfold cellI
        rw [if_pos (by omega), if_neg (by omega)]
      have f0 : wr.frozen? ⟨cb, t * 4, none⟩ = false := frozen_of_row wr cb _ _ _ hb
      have it0 : (t : Int) < (K : Int) := by omega
      clear hb hc hM hB8
      go_wp2_with fail
      go_roundw
      case rel => exact ⟨t + 1, by omega, by go_num, HM.out.next hlt⟩
      case measure => simp [intOf]; omega
    · have hte : K = t := by omega
      subst hte
      have HW : Hid (Up w wr) := ((H1.out.2.2.1.chg.mono (G := [cb]) (by simp)).trans hM.cg (fun b hb => .inl hb)).to_up (fun b hb => by rw [List.mem_singleton.1 hb]; exact H1.out.2.2.2)
      obtain ⟨wA, hwA⟩ : ∃ wA, wA = wr := ⟨_, rfl⟩
      subst hwA
      have k1 : (1 : Int) ≤ (K : Int) := by omega
      have k2 : 1 ≤ K := by omega
      go_upto_region 11 with (fail)
      obtain ⟨hB10, hU2⟩ := blk_new' wA #[.int .i64 0, .slice none 0 0, .int .i64 1, .slice none 0 0, .slice (some ⟨cb, 0, none⟩) 1 K] 42
      generalize World.alloc wA _ = W2 at hB10 hU2 ⊢
      generalize wA.heap.size = b10 at hB10 ⊢
      have hB8' := hB8.chg hU2.chg (by simp)
      have g0 : W2.cell? ⟨b8, 0, none⟩ = some (.int .i64 0) := hB8'.cell 0
      have g1 : W2.cell? ⟨b8, 1, none⟩ = some (.slice none 0 0) := hB8'.cell 1
      have g2 : W2.cell? ⟨b8, 2, none⟩ = some (.int .i64 y) := hB8'.cell 2
      have g3 : W2.cell? ⟨b8, 3, none⟩ = some (.slice none 0 0) := hB8'.cell 3
      have g4 : W2.cell? ⟨b8, 4, none⟩ = some (.slice (some ⟨cb, 0, none⟩) K K) := hB8'.cell 4
      have H10 := Lib.hid hB10
      have U2 := Lib.hid (Up.trans HW.out hU2)
      have HA : Hid (RfIs W2 (rfMany y cb K) ∧ RfIs W2 (rsMany cb K)) := ⟨RfIs.up ⟨ints_nil wA, ⟨none, 0, rfl⟩, hM.code (Nat.le_refl _)⟩ hU2, RfIs.up ⟨ints_nil wA, ⟨none, 0, rfl⟩, hM.code k2⟩ hU2⟩
      clear hB10 hU2 hB8' hB8 hM d4 HM
      go_upto_region 12 with (fail)
      have hS : M2 W2 ((W2.alloc (.cells #[.int .i64 0, .slice none 0 0, .int .i64 y, .slice none 0 0, .slice (some ⟨cb, 0, none⟩) K K] 42)).alloc (.cells #[.slice (some ⟨W2.heap.size, 0, none⟩) 1 1] 31)) (W2.heap.size + 1) (.slice (some ⟨W2.heap.size, 0, none⟩) 1 1) [rfMany y cb K] := M2.start W2 (rfMany y cb K)
      clear g0 g1 g2 g3 g4
      generalize World.alloc (World.alloc W2 _) _ = W3 at hS ⊢
      generalize W2.heap.size + 1 = bm at hS ⊢
      have HS := Lib.hid hS
      clear hS
      go_wp2_with fail
      clear hp hw2
      go_loopw [52] (fun i wr => ∃ (t : Nat) (sv : Value), t ≤ P ∧ i = .int .i64 t ∧ M2 W2 wr bm sv (rfMany y cb K :: List.replicate t (rsMany cb K))) (fun i _ => P - (intOf i).toNat)
      case atStart => exact ⟨0, _, by omega, rfl, HS.out⟩
      case round =>
        obtain ⟨t, sv, ht, rfl, hM⟩ := hrel
        have HM := Lib.hid hM
        have m0 : wr.cell? ⟨bm, 0, none⟩ = some sv := hM.bo.cell 0
        by_cases hlt : t < P
        · have s0 : wr.cell? ⟨b10, 0, none⟩ = some (.int .i64 0) := up_cell hM.up (H10.out.cell 0)
          have s1 : wr.cell? ⟨b10, 1, none⟩ = some (.slice none 0 0) := up_cell hM.up (H10.out.cell 1)
          have s2 : wr.cell? ⟨b10, 2, none⟩ = some (.int .i64 1) := up_cell hM.up (H10.out.cell 2)
          have s3 : wr.cell? ⟨b10, 3, none⟩ = some (.slice none 0 0) := up_cell hM.up (H10.out.cell 3)
          have s4 : wr.cell? ⟨b10, 4, none⟩ = some (.slice (some ⟨cb, 0, none⟩) 1 K) := up_cell hM.up (H10.out.cell 4)
          have it0 : (t : Int) < (P : Int) := by omega
          have HN : Hid ((rfMany y cb K :: List.replicate t (rsMany cb K)).length = t + 1) := by show _ = _; simp
          obtain ⟨iV, hi, hz0, hz1, hz2⟩ := info_of infoFn
          have HIV := Lib.hid (And.intro hi (And.intro hz0 (And.intro hz1 hz2)))
          clear hM hi hz0 hz1 hz2
          have HG : Hid (M2 W2 (wr.alloc (.cells #[.int .i64 0, .slice none 0 0, .int .i64 1, .slice none 0 0, .slice (some ⟨cb, 0, none⟩) 1 K] 42)) bm sv (rfMany y cb K :: List.replicate t (rsMany cb K))) := HM.out.grow ((Up.refl _).alloc _)
          go_wp2_with (at_builtin; refine wpList_append_lies _ rfl (.tmp 55) (.tmp 57) 29 rfl W2.heap.size 42 _ (.agg #[.int .i64 0, .slice none 0 0, .int .i64 0, .slice none 0 0, .slice none 0 0]) 5 88 Tryz.underlying29 HIV.out.1 HIV.out.2.1 HIV.out.2.2.1 HIV.out.2.2.2 rfl (by decide) sv _ ((rfMany y cb K :: List.replicate t (rsMany cb K)).flatMap fcells) rfl HG.out.row ⟨wr.heap.size, 0, none⟩ 1 1 (fcells (rsMany cb K)) rfl rfl (World.news_of_block (cs := #[.int .i64 0, .slice none 0 0, .int .i64 1, .slice none 0 0, .slice (some ⟨cb, 0, none⟩) 1 K]) (t := 42) (fr := (0, 0)) (heap_alloc_new wr _)) (by intro u hu; simp [fcells, rsMany] at hu; rcases hu with rfl | rfl | rfl | rfl | rfl <;> rfl) (by decide) (by rw [HN.out]; unfold maxLen; omega) (by rw [HN.out]; omega) HG.out.up.size (wr.heap.size + 1) (by simp) ?_; intro g1 gcap w5 hown5 hgrow5 hat5 hlt5; have b5 := HG.out.mid hgrow5; have m5 : w5.cell? ⟨bm, 0, none⟩ = some sv := b5.cell 0; have f5 : w5.frozen? ⟨bm, 0, none⟩ = false := frozen_of_row w5 bm 0 _ _ b5)
          go_roundw
          case rel =>
            have h9 := HG.out.next hown5 rfl hgrow5 (hat5.imp id (fun e => by rw [e]; simp))
            have e9 : rfMany y cb K :: List.replicate (t + 1) (rsMany cb K) = (rfMany y cb K :: List.replicate t (rsMany cb K)) ++ [rsMany cb K] := by rw [List.replicate_succ']; rfl
            rw [← e9, HN.out] at h9
            exact ⟨t + 1, _, by omega, by go_num, h9⟩
          case measure => simp [intOf]; omega
        · have hte : t = P := by omega
          subst hte
          have hFs : FnsAt wr sv ((rfMany y cb K :: List.replicate t (rsMany cb K)).map (·.1)) := fns_of hM.row (fun r hr => by
            rcases List.mem_cons.1 hr with rfl | h8
            · exact HA.out.1.up hM.up
            · rw [List.eq_of_mem_replicate h8]; exact HA.out.2.up hM.up)
          have hfine : ∀ f ∈ (rfMany y cb K :: List.replicate t (rsMany cb K)).map (·.1), FnFine f := by
            intro f hf
            have r0 : ∀ n : Nat, ∀ i ∈ List.replicate n ret0, InsFine i := fun n i hi => by rw [List.eq_of_mem_replicate hi]; exact ⟨by decide, by decide, by decide⟩
            rw [List.map_cons, List.map_replicate] at hf
            rcases List.mem_cons.1 hf with rfl | h8
            · exact ⟨⟨by show (-4000000000 : Int) ≤ 0; decide, by show (0 : Int) ≤ 4000000000; decide⟩, ⟨by show _ ≤ y; omega, by show y ≤ _; omega⟩, by show (0 : Nat) ≤ 1000000; decide, by show (List.replicate K ret0).length ≤ _; rw [List.length_replicate]; omega, r0 K⟩
            · rw [List.eq_of_mem_replicate h8]
              exact ⟨⟨by show (-4000000000 : Int) ≤ 0; decide, by show (0 : Int) ≤ 4000000000; decide⟩, ⟨by show (-4000000000 : Int) ≤ 1; decide, by show (1 : Int) ≤ 4000000000; decide⟩, by show (0 : Nat) ≤ 1000000; decide, by show (1 : Nat) ≤ 1000000; decide, r0 1⟩
          have hc : ∀ wx, Up wr wx → Calls Tryz.prog 7 #[.agg #[sv]] wx fun e w' => e = .returned (outV (chk ((rfMany y cb K :: List.replicate t (rsMany cb K)).map (·.1)))) ∧ Up wx w' := fun wx hu => check_x _ sv wx (hFs.up hu) hfine
          have hd : ∀ wx, Up wr wx → Calls Tryz.prog 8 #[.agg #[sv]] wx fun e w' => e = .returned (outV (chk ((rfMany y cb K :: List.replicate t (rsMany cb K)).map (·.1)))) ∧ Up wx w' := fun wx hu => lcheck_x _ sv wx (hFs.up hu) hfine
          generalize chk _ = o at hc hd
          obtain ⟨o1, o2, o3⟩ := o
          simp only [outV] at hc hd
          have HC := Lib.hid hc
          have HD := Lib.hid hd
          have UW : Hid (Up w wr) := Up.trans U2.out hM.up
          have HM := Lib.hid hM
          have z1 : (o1 == o1) = true := beq_self_eq_true _
          have z2 : (o2 == o2) = true := beq_self_eq_true _
          have z3 : (o3 == o3) = true := beq_self_eq_true _
          clear hc hd hFs hfine hM
          go_upto_region 17 with (go_at_call 7; refine (HC.out _ (Up.refl _)).mono ?_; rintro e w5 ⟨rfl, hU5⟩)
          have m0 := up_cell hU5 m0
          go_wp2_with (go_at_call 8; refine (HD.out _ hU5).mono ?_; rintro e w6 ⟨rfl, hU6⟩)
          go_ret
          exact ⟨rfl, Up.trans UW.out (Up.trans hU5 hU6)⟩
end Go.Proofs.YtffcdoiikefpcaaGreatDoor.vl
