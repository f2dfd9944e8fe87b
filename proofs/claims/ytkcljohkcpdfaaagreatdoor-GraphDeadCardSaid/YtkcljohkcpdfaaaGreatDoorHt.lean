/- GraphTurns: the walk, the law (printed by ht_gen.py). -/
import Derived.Test.YtkcljohkcpdfaaaGreatDoorHl
import Derived.Test.YtkcljohkcpdfaaaGreatDoorAwake
set_option linter.unusedVariables false
set_option linter.unusedSimpArgs false
namespace Go.Proofs.YtkcljohkcpdfaaaGreatDoor.gr
open Go.RowKit Go.Maps mem
attribute [local go_sem ↓] Go.wp_at_zero Go.wp_at_succ
set_option maxRecDepth 100000
set_option maxHeartbeats 2000000
theorem owns_base {w : World} {b b' : Nat} {e : TypeId} {sz n : Nat} {v : Value} {xs : List Value} (h : w.ownsRow b e sz v n xs) (hb : b' ≤ b) : w.ownsRow b' e sz v n xs := by
  obtain ⟨h1, h2⟩ := h
  refine ⟨h1, h2.imp id ?_⟩
  rintro ⟨g, cap, cur, q1, q2, q3⟩
  exact ⟨g, cap, cur, q1, Nat.le_trans hb q2, q3⟩
theorem six_100 {L : List Mb} (h : ∀ m ∈ L, Six m) : ∀ m ∈ L, (0 ≤ m.1 ∧ m.1 ≤ 100) ∧ (0 ≤ m.2.1 ∧ m.2.1 ≤ 100) := fun m hm => by
  obtain ⟨⟨a, b⟩, c, d⟩ := h m hm
  exact ⟨⟨a, by omega⟩, c, by omega⟩
theorem news_at {w : World} {base g n c : Nat} {L : List Mb} (h : w.ownsRow base 31 3 (.slice (some ⟨g, 0, none⟩) n c) n (L.flatMap cellsM)) {j : Nat} {u : Value} (hu : (L.flatMap cellsM)[j]? = some u) : w.cell? ((⟨g, 0, none⟩ : Addr).add j) = some u := by
  have hj : j < (L.flatMap cellsM).length := (List.getElem?_eq_some_iff.1 hu).1
  have hadd : (⟨g, 0, none⟩ : Addr).add j = ⟨g, j, none⟩ := by unfold Addr.add; split <;> simp_all
  rw [hadd, World.ownsRow.cellAt h j (by rw [← h.1]; exact hj)]
  exact hu
theorem one_M (L : List Mb) : ∀ u ∈ L.flatMap cellsM, u.oneCell' = true := fun u hu => by
  obtain ⟨m, -, hm⟩ := List.mem_flatMap.1 hu
  simp [cellsM] at hm
  rcases hm with rfl | rfl | rfl <;> rfl
theorem turns (la : Option Addr) (n lc : Nat) (ps : Nat → Int × Int) (d mx my : Int) (w : World) (hL : Laid w) (hd : 0 ≤ d ∧ d ≤ 255) (hmx : 0 ≤ mx ∧ mx ≤ 255) (hmy : 0 ≤ my ∧ my ≤ 255) (hl : n = 0 ∨ ∃ b off, la = some ⟨b, off, none⟩ ∧ b < w.heap.size ∧ ∀ i, i < n → P2At w b (off + i * 2) (ps i)) :
    Calls Tryz.prog 3 #[.slice la n lc, .int .u8 d, .agg #[.int .u8 mx, .int .u8 my]] w fun e w' => e = .returned (.bool true) ∧ Up w w' := by
  have HL := Lib.hid hl
  clear hl
  obtain ⟨iM, hM⟩ := info_of infoM
  have HIM := Lib.hid hM
  clear hM
  have LW : ∀ wx, Up w wx → Laid wx := fun wx hu => Ev.laidN_up _ _ _ _ _ (Ev.laidN_keep _ _ _ _ _ _ hu hL)
  by_cases h20 : 20 < n
  · have i1 : (20 : Int) < (n : Int) := by omega
    have i2 : decide (20 < (n : Int)) = true := decide_eq_true (by omega)
    go_enter Tryz.func3, Tryz.ntmps3
    go_wp2_with (go_at_call 5; refine (awake19 _ (LW _ ((Up.refl w).alloc _))).mono ?_; rintro e w0 ⟨rfl, hb0⟩)
    go_ret
    exact ⟨rfl, Up.trans ((Up.refl w).alloc _) hb0⟩
  have i1 : ¬ (20 : Int) < (n : Int) := by omega
  have i2 : decide (20 < (n : Int)) = false := decide_eq_false (by omega)
  go_enter Tryz.func3, Tryz.ntmps3
  go_upto_region 1 with (fail)
  obtain ⟨hB5, hU5⟩ := blk_new' w #[.int .u8 mx, .int .u8 my] 23
  generalize World.alloc w _ = w5 at hB5 hU5 ⊢
  generalize w.heap.size = b5 at hB5 ⊢
  have HA := Lib.hid (LW _ hU5)
  go_upto_region 3 with (go_at_call 5; refine (awake19 _ HA.out).mono ?_; rintro e w0 ⟨rfl, hb0⟩)
  have hb0 : Up w5 w0 := hb0
  have H0 : Hid (Up w w0 ∧ Blk w0 b5 #[.int .u8 mx, .int .u8 my] 23) := ⟨Up.trans hU5 hb0, hB5.chg hb0.chg (by simp)⟩
  clear hB5 hU5 hb0 LW HA
  have LX : Hid (Calls Tryz.prog 6 #[.slice la n lc, .int .u8 d] w0 fun e w' => ∃ (v : Value) (L : List Mb), e = .returned v ∧ L.length = n ∧ (n = 0 → v = .slice none 0 0) ∧ (∀ m ∈ L, Six m) ∧ w'.ownsRow w0.heap.size 31 3 v L.length (L.flatMap cellsM) ∧ Up w0 w') := by
    refine list_x la n lc ps d w0 (by omega) hd ?_
    rcases HL.out with h | ⟨b, off, h1, h2, h3⟩
    · exact .inl h
    · refine .inr ⟨b, off, h1, Nat.lt_of_lt_of_le h2 H0.out.1.size, fun i hi => ?_⟩
      obtain ⟨q1, q2, q3⟩ := h3 i hi
      exact ⟨up_cell H0.out.1 q1, up_cell H0.out.1 q2, q3⟩
  go_upto_region 6 with (go_at_call 6; refine LX.out.mono ?_; rintro e W ⟨v1, L1, rfl, h1l, h1n, h1s, h1o, hUW⟩)
  have hMs := ms_of h1o
  have hUw := Up.trans H0.out.1 hUW
  have HS : Hid (∀ w', Up W w' → w'.cell? ⟨b5, 0, none⟩ = some (.int .u8 mx) ∧ w'.cell? ⟨b5, 1, none⟩ = some (.int .u8 my)) := fun w' hu => ⟨up_cell (Up.trans hUW hu) (H0.out.2.cell 0), up_cell (Up.trans hUW hu) (H0.out.2.cell 1)⟩
  have CL : Hid (∀ wx, Up W wx → Calls Tryz.prog 7 #[v1] wx fun e w' => ∃ cv, e = .returned cv ∧ w'.ownsRow W.heap.size 31 3 cv L1.length (L1.flatMap cellsM) ∧ Up wx w') := fun wx hu =>
    (clone_x v1 L1 wx (hMs.up hu) (fun h => h1n (by omega)) (by omega)).mono (fun e w' ⟨cv, q1, q2, q3⟩ => ⟨cv, q1, owns_base q2 hu.size, q3⟩)
  have LI : Hid (∀ (wx : World) (hb : Nat), (wx.cell? ⟨hb, 0, none⟩ = some (.int .u8 mx) ∧ wx.cell? ⟨hb, 1, none⟩ = some (.int .u8 my) ∧ hb < wx.heap.size) → Calls Tryz.prog 6 #[.slice (some ⟨hb, 0, none⟩) 1 1, .int .u8 0] wx fun e w' => ∃ (v : Value) (L : List Mb), e = .returned v ∧ L.length = 1 ∧ (1 = 0 → v = .slice none 0 0) ∧ (∀ m ∈ L, Six m) ∧ w'.ownsRow wx.heap.size 31 3 v L.length (L.flatMap cellsM) ∧ Up wx w') := fun wx hb h =>
    list_x (some ⟨hb, 0, none⟩) 1 1 (fun _ => (mx, my)) 0 wx (by omega) (by omega) (.inr ⟨hb, 0, rfl, h.2.2, fun i hi => by
      have e0 : i = 0 := by omega
      subst e0
      exact ⟨h.1, h.2.1, hmx.1, hmx.2, hmy.1, hmy.2⟩⟩)
  have HLn : Hid (L1.length ≤ 20) := by show _ ≤ _; omega
  have HM1 : Hid (MsAt W v1 L1 ∧ (∀ m ∈ L1, Six m) ∧ Up w W) := ⟨hMs, h1s, hUw⟩
  clear hMs hUw hUW h1o h1s h1n h1l LX H0 i1 i2 HL
  go_cut [8] from 21 to 26 (fun wv wx => ∃ L2 : List Mb, wx.ownsRow W.heap.size 31 3 wv (L1 ++ L2).length ((L1 ++ L2).flatMap cellsM) ∧ (∀ m ∈ L2, Six m) ∧ L2.length = 1 ∧ Up W wx)
  case first =>
    refine AnyT.start (S := fun w' => w'.cell? ⟨b5, 0, none⟩ = some (.int .u8 mx) ∧ w'.cell? ⟨b5, 1, none⟩ = some (.int .u8 my)) 7 (by kernel_rfl) (HS.out _ (Up.refl W).drew) (fun hHeld => ?_)
    have hUd : Up W W.drew := (Up.refl W).drew
    generalize World.drew W = wd at hUd hHeld ⊢
    refine AnyT.pick (i := 0) (oi := ⟨_, _, _, _, _, _⟩) (v := ?_) rfl (by kernel_rfl) (by kernel_rfl) (by kernel_rfl) (fun _ _ _ h => h) (Or.inl ⟨by rfl, ?y0_1⟩) ?_
    case' y0_1 => ((intro w hSw; go_simp) <;> (with_reducible rfl))
    try simp only [Act.put, List.setIfInBounds_toArray, List.set_cons_zero, List.set_cons_succ]
    refine AnyT.take (i := 2) (oi := ⟨_, _, _, _, _, _⟩) (v := ?_) rfl (by kernel_rfl) (by kernel_rfl) (by kernel_rfl) (by kernel_rfl) (fun _ _ _ h => h) (Or.inl ⟨by rfl, ?y2_2⟩) (by assumption) ?_
    case' y2_2 => ((intro w hSw; (try dsimp only at hSw); go_simp) <;> (with_reducible rfl))
    try simp only [Act.put, List.setIfInBounds_toArray, List.set_cons_zero, List.set_cons_succ]
    refine AllT.go (rs := [1, 3]) (by kernel_rfl) (by simp) ?_
    refine AllT.early (o := ⟨_, _, _, _, _, _⟩) rfl (fun K hK => ?_) ?_
    · go_simp
      go_at_call 7
      refine (CL.out wd hUd).mono ?_
      rintro e wx ⟨cv, rfl, hcv, hUx⟩
      refine hK.out _ _ (HS.out _ (Up.trans hUd hUx)) (fun _ => ?_)
      clear hK K hHeld
      try simp only [Act.put, List.setIfInBounds_toArray, List.set_cons_zero, List.set_cons_succ]
      refine AllT.go (rs := [3]) (by kernel_rfl) (by simp) ?_
      refine AllT.early (o := ⟨_, _, _, _, _, _⟩) rfl (fun K hK => ?_) ?_
      · go_simp
        refine hK.out _ _ (HS.out _ (Up.trans hUd (hUx.alloc _))) (fun _ => ?_)
        clear hK K
        try simp only [Act.put, List.setIfInBounds_toArray, List.set_cons_zero, List.set_cons_succ]
        have hBy := Blk.new wx #[.int .u8 mx, .int .u8 my] 23
        have hUxy := (Up.refl wx).alloc (.cells #[.int .u8 mx, .int .u8 my] 23)
        generalize World.alloc wx _ = wy at hBy hUxy ⊢
        generalize wx.heap.size = hb at hBy ⊢
        have hUy : Up W wy := Up.trans hUd (Up.trans hUx hUxy)
        have hArr : wy.cell? ⟨hb, 0, none⟩ = some (.int .u8 mx) ∧ wy.cell? ⟨hb, 1, none⟩ = some (.int .u8 my) ∧ hb < wy.heap.size := ⟨hBy.cell 0, hBy.cell 1, hBy.lt⟩
        have HO := Lib.hid (show wy.ownsRow W.heap.size 31 3 cv L1.length (L1.flatMap cellsM) from owns_chg hcv hUxy.chg (by simp))
        refine AllT.go (rs := [4]) (by kernel_rfl) (by simp) ?_
        refine AllT.early (o := ⟨_, _, _, _, _, _⟩) rfl (fun K hK => ?_) ?_
        · go_simp
          go_at_call 6
          refine (LI.out wy hb hArr).mono ?_
          rintro e wz ⟨v2, L2, rfl, h2l, -, h2s, h2o, hUz⟩
          refine hK.out _ _ (HS.out _ (Up.trans hUy hUz)) (fun _ => ?_)
          clear hK K
          try simp only [Act.put, List.setIfInBounds_toArray, List.set_cons_zero, List.set_cons_succ]
          obtain ⟨g2, c2, rfl, -, hg2⟩ := h2o.form (by omega)
          have H2 : Hid (L2.length = 1 ∧ (∀ m ∈ L2, Six m) ∧ wz.ownsRow W.heap.size 31 3 cv L1.length (L1.flatMap cellsM) ∧ Up W wz ∧ wz.ownsRow wy.heap.size 31 3 (.slice (some ⟨g2, 0, none⟩) L2.length c2) L2.length (L2.flatMap cellsM)) := ⟨h2l, h2s, owns_chg HO.out hUz.chg (by simp), Up.trans hUy hUz, h2o⟩
          clear h2l h2s h2o hUz hg2
          refine AllT.go (rs := [5]) (by kernel_rfl) (by simp) ?_
          refine AllT.early (o := ⟨_, _, _, _, _, _⟩) rfl (fun K hK => ?_) ?_
          · refine step_append_lies _ rfl (.tmp 22) (.tmp 25) 26 rfl W.heap.size 31 _ (.agg #[.int .i64 0, .int .i64 0, .bool false]) 3 24 Tryz.underlying26 HIM.out.1 HIM.out.2.1 HIM.out.2.2.1 HIM.out.2.2.2 rfl (by decide) cv _ (L1.flatMap cellsM) rfl H2.out.2.2.1 ⟨g2, 0, none⟩ L2.length c2 (L2.flatMap cellsM) rfl (by rw [H2.out.2.2.2.2.1]) (fun j u hu => news_at H2.out.2.2.2.2 hu) (one_M L2) (by rw [H2.out.1]; decide) (by rw [H2.out.1]; have h9 := HLn.out; unfold maxLen; omega) (by rw [H2.out.1]; have h9 := HLn.out; omega) H2.out.2.2.2.1.size wz.heap.size rfl ?_
            intro g1 gcap w5 hrow5 hgrow5 hat5 hlt5
            have hU5 : Up W w5 := by refine Chg.up (Chg.weak (F := cv.ownBlock.toList) ((H2.out.2.2.2.1.chg.mono (by simp)).grown hgrow5 (fun b hb => .inl (by simp [hb]))) (fun x hx => .inr (H2.out.2.2.1.lt x (by simpa using hx)).1))
            refine hK.out _ _ (HS.out _ hU5) (fun _ => ?_)
            clear hK K
            try simp only [Act.put, List.setIfInBounds_toArray, List.set_cons_zero, List.set_cons_succ]
            refine AnyT.pick (i := 6) (oi := ⟨_, _, _, _, _, _⟩) (v := ?_) rfl (by kernel_rfl) (by kernel_rfl) (by kernel_rfl) (fun _ _ _ h => h) (Or.inl ⟨by rfl, ?y6_3⟩) ?_
            case' y6_3 => ((intro w hSw; go_simp) <;> (with_reducible rfl))
            try simp only [Act.put, List.setIfInBounds_toArray, List.set_cons_zero, List.set_cons_succ]
            refine AnyT.done (by kernel_rfl) ?_ _
            go_wp2_with fail
            go_meet
            exact ⟨L2, by rw [List.length_append, List.flatMap_append]; exact hrow5, H2.out.2.1, H2.out.1, hU5⟩
          exact AllT.nil
        exact AllT.nil
      exact AllT.nil
    refine AllT.early (o := ⟨_, _, _, _, _, _⟩) rfl (fun K hK => ?_) ?_
    · go_simp
      refine hK.out _ _ (HS.out _ (hUd.alloc _)) (fun _ => ?_)
      clear hK K hHeld
      try simp only [Act.put, List.setIfInBounds_toArray, List.set_cons_zero, List.set_cons_succ]
      have hBy := Blk.new wd #[.int .u8 mx, .int .u8 my] 23
      have hUdy := (Up.refl wd).alloc (.cells #[.int .u8 mx, .int .u8 my] 23)
      generalize World.alloc wd _ = wx at hBy hUdy ⊢
      generalize wd.heap.size = hb at hBy ⊢
      refine AllT.go (rs := [1]) (by kernel_rfl) (by simp) ?_
      refine AllT.early (o := ⟨_, _, _, _, _, _⟩) rfl (fun K hK => ?_) ?_
      · go_simp
        go_at_call 7
        refine (CL.out wx (Up.trans hUd hUdy)).mono ?_
        rintro e wy ⟨cv, rfl, hcv, hUx⟩
        refine hK.out _ _ (HS.out _ (Up.trans hUd (Up.trans hUdy hUx))) (fun _ => ?_)
        clear hK K
        try simp only [Act.put, List.setIfInBounds_toArray, List.set_cons_zero, List.set_cons_succ]
        have hUy : Up W wy := Up.trans hUd (Up.trans hUdy hUx)
        have hArr : wy.cell? ⟨hb, 0, none⟩ = some (.int .u8 mx) ∧ wy.cell? ⟨hb, 1, none⟩ = some (.int .u8 my) ∧ hb < wy.heap.size := ⟨up_cell hUx (hBy.cell 0), up_cell hUx (hBy.cell 1), Nat.lt_of_lt_of_le hBy.lt hUx.size⟩
        have HO := Lib.hid (show wy.ownsRow W.heap.size 31 3 cv L1.length (L1.flatMap cellsM) from hcv)
        refine AllT.go (rs := [4]) (by kernel_rfl) (by simp) ?_
        refine AllT.early (o := ⟨_, _, _, _, _, _⟩) rfl (fun K hK => ?_) ?_
        · go_simp
          go_at_call 6
          refine (LI.out wy hb hArr).mono ?_
          rintro e wz ⟨v2, L2, rfl, h2l, -, h2s, h2o, hUz⟩
          refine hK.out _ _ (HS.out _ (Up.trans hUy hUz)) (fun _ => ?_)
          clear hK K
          try simp only [Act.put, List.setIfInBounds_toArray, List.set_cons_zero, List.set_cons_succ]
          obtain ⟨g2, c2, rfl, -, hg2⟩ := h2o.form (by omega)
          have H2 : Hid (L2.length = 1 ∧ (∀ m ∈ L2, Six m) ∧ wz.ownsRow W.heap.size 31 3 cv L1.length (L1.flatMap cellsM) ∧ Up W wz ∧ wz.ownsRow wy.heap.size 31 3 (.slice (some ⟨g2, 0, none⟩) L2.length c2) L2.length (L2.flatMap cellsM)) := ⟨h2l, h2s, owns_chg HO.out hUz.chg (by simp), Up.trans hUy hUz, h2o⟩
          clear h2l h2s h2o hUz hg2
          refine AllT.go (rs := [5]) (by kernel_rfl) (by simp) ?_
          refine AllT.early (o := ⟨_, _, _, _, _, _⟩) rfl (fun K hK => ?_) ?_
          · refine step_append_lies _ rfl (.tmp 22) (.tmp 25) 26 rfl W.heap.size 31 _ (.agg #[.int .i64 0, .int .i64 0, .bool false]) 3 24 Tryz.underlying26 HIM.out.1 HIM.out.2.1 HIM.out.2.2.1 HIM.out.2.2.2 rfl (by decide) cv _ (L1.flatMap cellsM) rfl H2.out.2.2.1 ⟨g2, 0, none⟩ L2.length c2 (L2.flatMap cellsM) rfl (by rw [H2.out.2.2.2.2.1]) (fun j u hu => news_at H2.out.2.2.2.2 hu) (one_M L2) (by rw [H2.out.1]; decide) (by rw [H2.out.1]; have h9 := HLn.out; unfold maxLen; omega) (by rw [H2.out.1]; have h9 := HLn.out; omega) H2.out.2.2.2.1.size wz.heap.size rfl ?_
            intro g1 gcap w5 hrow5 hgrow5 hat5 hlt5
            have hU5 : Up W w5 := by refine Chg.up (Chg.weak (F := cv.ownBlock.toList) ((H2.out.2.2.2.1.chg.mono (by simp)).grown hgrow5 (fun b hb => .inl (by simp [hb]))) (fun x hx => .inr (H2.out.2.2.1.lt x (by simpa using hx)).1))
            refine hK.out _ _ (HS.out _ hU5) (fun _ => ?_)
            clear hK K
            try simp only [Act.put, List.setIfInBounds_toArray, List.set_cons_zero, List.set_cons_succ]
            refine AnyT.pick (i := 6) (oi := ⟨_, _, _, _, _, _⟩) (v := ?_) rfl (by kernel_rfl) (by kernel_rfl) (by kernel_rfl) (fun _ _ _ h => h) (Or.inl ⟨by rfl, ?y6_4⟩) ?_
            case' y6_4 => ((intro w hSw; go_simp) <;> (with_reducible rfl))
            try simp only [Act.put, List.setIfInBounds_toArray, List.set_cons_zero, List.set_cons_succ]
            refine AnyT.done (by kernel_rfl) ?_ _
            go_wp2_with fail
            go_meet
            exact ⟨L2, by rw [List.length_append, List.flatMap_append]; exact hrow5, H2.out.2.1, H2.out.1, hU5⟩
          exact AllT.nil
        exact AllT.nil
      exact AllT.nil
    exact AllT.nil
  case rest =>
    obtain ⟨L2, hrow, h2s, h2l, hU⟩ := hcut
    have hMw := ms_of hrow
    have HC : Hid (MsAt wc v1 L1 ∧ Up w wc) := ⟨HM1.out.1.up hU, Up.trans HM1.out.2.2 hU⟩
    have R1 : Hid (∀ (a : Nat) (wx : World), a ≤ 100 → Up wc wx → Calls Tryz.prog 8 #[v1, .int .i64 6, .int .i64 (a : Int)] wx fun e w' => ∃ v, e = .returned v ∧ ReachPost w' v 6 a L1 ∧ Up wx w') := fun a wx ha hu =>
      reach_x v1 L1 6 a wx (HC.out.1.up hu) (by have h9 := HLn.out; omega) (six_100 HM1.out.2.1) (by omega) ha
    have RW : Hid (∀ (a : Nat) (wx : World), a ≤ 100 → Up wc wx → Calls Tryz.prog 8 #[u8, .int .i64 6, .int .i64 (a : Int)] wx fun e w' => ∃ v, e = .returned v ∧ ReachPost w' v 6 a (L1 ++ L2) ∧ Up wx w') := fun a wx ha hu =>
      reach_x u8 (L1 ++ L2) 6 a wx (hMw.up hu) (by have h9 := HLn.out; rw [List.length_append]; omega) (six_100 (fun m hm => (List.mem_append.1 hm).elim (HM1.out.2.1 m) (h2s m))) (by omega) ha
    have HI : Hid (∀ x y, adjL L1 x y → adjL (L1 ++ L2) x y) := fun x y => adjL_mono (fun m hm => List.mem_append_left _ hm) x y
    clear hrow h2s h2l hU hMw CL LI HS
    go_wp2_with fail
    go_loopw [27] (fun i wr => ∃ t : Nat, t ≤ 6 ∧ i = .int .i64 t ∧ Up wc wr) (fun i _ => 6 - (intOf i).toNat)
    case atStart => exact ⟨0, by omega, rfl, Up.refl _⟩
    case round =>
      obtain ⟨t, ht, rfl, hU⟩ := hrel
      have HU := Lib.hid hU
      by_cases hlt : t < 6
      · have it0 : (t : Int) < 6 := by omega
        clear hU
        go_upto_region 11 with (go_at_call 8; refine (R1.out t _ (by omega) HU.out).mono ?_; rintro e w2 ⟨rv, rfl, hpost, hU2⟩)
        obtain ⟨S, hI, hS⟩ := hpost
        have hS := hS.resolve_left (by omega)
        have HP : Hid (IntsAt w2 rv (outL 6 S) ∧ (∀ x, x < 6 → (S x = true ↔ Rch 6 (adjL L1) t x)) ∧ Up wc w2 ∧ (outL 6 S).length ≤ 6) := ⟨hI, hS.2, Up.trans HU.out hU2, outL_len 6 S⟩
        obtain ⟨ra, rc, rfl, hr⟩ := hI
        have HR := Lib.hid hr
        clear hr hS hU2
        obtain ⟨wA, hwA⟩ : ∃ wA, wA = wr := ⟨_, rfl⟩
        subst hwA
        go_wp2_with fail
        go_loopw [35] (fun i wr => ∃ j : Nat, j ≤ (outL 6 S).length ∧ i = .int .i64 j ∧ Up w2 wr) (fun i _ => (outL 6 S).length - (intOf i).toNat)
        case atStart => exact ⟨0, by omega, rfl, Up.refl _⟩
        case round =>
          obtain ⟨j, hj, rfl, hUj⟩ := hrel
          have HJ := Lib.hid hUj
          by_cases hjl : j < (outL 6 S).length
          · obtain ⟨rb, ro, rfl, hrb, hrx⟩ := HR.out.resolve_left (by omega)
            obtain ⟨y, hy⟩ : ∃ y, (outL 6 S)[j]? = some y := ⟨_, List.getElem?_eq_getElem hjl⟩
            have cy := up_cell hUj (hrx j y hy)
            obtain ⟨x, rfl, hx6, hSx⟩ := outL_mem (List.mem_of_getElem? hy)
            have ij0 : (j : Int) < ((outL 6 S).length : Int) := by omega
            have ij6 : j < 6 := by have h9 := HP.out.2.2.2; omega
            have hRx := (HP.out.2.1 x hx6).1 hSx
            have HX : Hid (x < 6 ∧ Rch 6 (adjL L1) t x) := ⟨hx6, hRx⟩
            clear hrx hy hSx hUj
            go_upto_region 14 with (fail)
            have E1 : Hid (∀ (v : Value) (wx : World), ReachPost wx v 6 x L1 → Up w2 wx → Calls Tryz.prog 9 #[v, .slice (some ⟨rb, ro, none⟩) (outL 6 S).length rc] wx fun e w' => e = .returned (.bool true) ∧ Up wx w') := fun v wx hp hu => by
              obtain ⟨S3, hI3, hS3⟩ := hp
              have hS3 := (hS3.resolve_left (by omega)).2
              have e9 : outL 6 S3 = outL 6 S := outL_eq (fun z hz => (hS3 z hz).trans ((Rch.same (adjL_sym L1) HX.out.2 z).trans (HP.out.2.1 z hz).symm))
              rw [e9] at hI3
              exact equal_x v _ (outL 6 S) wx hI3 (HP.out.1.up hu) (by have h9 := HP.out.2.2.2; omega)
            have E2 : Hid (∀ (v : Value) (wx : World), ReachPost wx v 6 t (L1 ++ L2) → Calls Tryz.prog 10 #[v, .int .i64 (x : Int)] wx fun e w' => e = .returned (.bool true) ∧ Up wx w') := fun v wx hp => by
              obtain ⟨S4, hI4, hS4⟩ := hp
              have hS4 := (hS4.resolve_left (by omega)).2
              exact contains_x v (outL 6 S4) (x : Int) wx hI4 (outL_of hx6 ((hS4 x hx6).2 (Rch.mono HI.out HX.out.2))) (by have h9 := outL_len 6 S4; omega)
            clear hRx
            go_wp2_with (first
              | (go_at_call 9; refine (E1.out _ _ hp3 (Up.trans HJ.out hU3)).mono ?_; rintro e w4 ⟨rfl, hU4⟩)
              | (go_at_call 10; refine (E2.out _ _ hp5).mono ?_; rintro e w6 ⟨rfl, hU6⟩)
              | (go_at_call 8; with_reducible refine Calls.mono (R1.out x _ (by omega) (Up.trans HP.out.2.2.1 HJ.out)) ?_; rintro e w3 ⟨v3, rfl, hp3, hU3⟩)
              | (go_at_call 8; with_reducible refine Calls.mono (RW.out t _ (by omega) (Up.trans HP.out.2.2.1 (Up.trans HJ.out (Up.trans hU3 hU4)))) ?_; rintro e w5 ⟨v5, rfl, hp5, hU5⟩))
            go_roundw
            case rel => exact ⟨j + 1, by omega, by go_num, Up.trans HJ.out (Up.trans hU3 (Up.trans hU4 (Up.trans hU5 hU6)))⟩
            case measure => simp [intOf]; omega
          · have hje : j = (outL 6 S).length := by omega
            clear hUj
            go_wp2_with fail
            go_roundw
            case rel => exact ⟨t + 1, by omega, by go_num, Up.trans HP.out.2.2.1 HJ.out⟩
            case measure => simp [intOf]; omega
      · have hte : t = 6 := by omega
        subst hte
        clear hU
        go_wp2_with fail
        go_ret
        exact ⟨rfl, Up.trans HC.out.2 HU.out⟩
end Go.Proofs.YtkcljohkcpdfaaaGreatDoor.gr
