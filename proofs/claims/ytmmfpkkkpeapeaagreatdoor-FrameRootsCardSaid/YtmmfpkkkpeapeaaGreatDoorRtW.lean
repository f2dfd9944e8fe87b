/- FrameRoots: the walk. (1 texts in one.) -/
import Derived.Test.YtmmfpkkkpeapeaaGreatDoorRtK
import Derived.Test.YtmmfpkkkpeapeaaGreatDoorAwake

/- FrameRoots: the walk. -/
set_option linter.unusedVariables false
set_option linter.unusedSimpArgs false
namespace Go.Proofs.YtmmfpkkkpeapeaaGreatDoor.ar
open Go.RowKit Go.Maps mem rec mb
attribute [local go_sem ↓] Go.wp_at_zero Go.wp_at_succ
set_option maxRecDepth 100000
set_option maxHeartbeats 4000000
theorem infoFr : (Tryz.prog.info? 92).map (fun i => (i.zero, i.size, i.bytes)) = some (some (.agg #[.int .i64 0, .int .i64 0, .int .i64 0, .slice none 0 0, .int .i64 0, .int .i64 0, .slice none 0 0, .slice none 0 0]), 8, 112) := by kernel_rfl
theorem infoVa : (Tryz.prog.info? 51).map (fun i => (i.zero, i.size, i.bytes)) = some (some (.agg #[.int .u8 0, .int .i64 0, .string ⟨#[]⟩]), 3, 32) := by kernel_rfl
theorem roots_walk (a0 : Option Addr) (n c0 : Nat) (sp : Nat → Value) (w : World) (hL : Laid w) (hn : n ≤ 6) (h0 : n = 0 ∨ ∃ b off, a0 = some ⟨b, off, none⟩ ∧ b < w.heap.size ∧ ∀ i, i < n → BsAt w b (off + i * 1) (sp i)) :
    Calls Tryz.prog 6 #[.slice a0 n c0] w fun e w' => e = .returned (.bool true) ∧ Up w w' := by
  have H0 := Lib.hid h0
  clear h0
  have il : ¬ (6 : Int) < (n : Int) := by omega
  have il2 : decide ((6 : Int) < (n : Int)) = false := decide_eq_false il
  go_enter Tryz.func6, Tryz.ntmps6
  go_upto_region 5 with (go_at_call 18; refine (awake16 _ hL).mono ?_; rintro e w0 ⟨rfl, hb0⟩)
  have HU0 : Hid (Up w w0) := hb0
  clear hb0 hL
  go_upto_region 6 with (go_at_call 19; refine (new_world2 _).mono ?_; rintro e w1 ⟨wb, p, cb, rfl, hU1, hB1, hP1, hM1, hge, hpc, hcw⟩)
  have hfn : foot p nils = [p] := rfl
  have B1 := Lib.hid (And.intro hB1 (And.intro hP1 (And.intro hM1 (And.intro hge (And.intro hpc (And.intro hcw hU1))))))
  have q0 : w1.cell? ⟨wb, 0, none⟩ = some (.pointer (some ⟨p, 0, none⟩)) := hB1.cell 0
  clear hB1 hP1 hM1 hge hpc hcw hU1
  have OX := Lib.hid (owner_any w1 p nils A0 40 B1.out.2.1 (by decide) (by decide) rfl)
  go_upto_region 8 with (go_at_call 26; refine OX.out.mono ?_; rintro e w2 ⟨v2, rfl, hP2, hC2, hF2⟩)
  have B2 : Hid (Br w0 w2 wb p cb v2 0) := by
    have lw := B1.out.1.lt
    have lc := B1.out.2.2.1.lt
    have hge := B1.out.2.2.2.1
    have hpc := B1.out.2.2.2.2.1
    have hcw := B1.out.2.2.2.2.2.1
    have nf : ∀ b, b < w1.heap.size → b ≠ p → b ∉ foot p v2 := fun b hb hn hx => by
      rcases hF2 b hx with h1 | h1
      · rw [hfn] at h1; exact hn (List.mem_singleton.1 h1)
      · omega
    refine ⟨B1.out.1.chg hC2 (by rw [hfn]; simp; omega), hP2, map_chg B1.out.2.2.1 hC2 (by rw [hfn]; simp; omega), nf wb lw (by omega), nf cb lc (by omega), ⟨by omega, by omega, fun b hb => ?_⟩, Below.trans B1.out.2.2.2.2.2.2 (hC2.below B1.out.2.2.2.2.2.2.size (fun b hb => by rw [hfn] at hb; rw [List.mem_singleton.1 hb]; exact hge))⟩
    rcases hF2 b hb with h1 | h1
    · rw [hfn] at h1; rw [List.mem_singleton.1 h1]; exact hge
    · exact Nat.le_trans B1.out.2.2.2.2.2.2.size h1
  clear hP2 hC2 hF2 q0 B1 OX hfn
  obtain ⟨iR, hi, hz0, hz1, hz2⟩ := info_parts infoRef
  have HI := Lib.hid (And.intro hi (And.intro hz0 (And.intro hz1 hz2)))
  clear hi hz0 hz1 hz2
  go_wp2_with fail
  go_loopw [4, 31] (fun rv i wr => ∃ (t : Nat) (v : Nat → Value), t ≤ 12 ∧ i = .int .i64 (t : Int) ∧ Br w0 wr wb p cb v t ∧ wr.ownsRow w0.heap.size 41 1 rv t ((List.range t).map (fun i : Nat => Value.int .u64 ((4294967296 + i : Nat) : Int))) ∧ ∀ b, rv.ownBlock = some b → b ∉ foot p v ∧ b ≠ wb ∧ b ≠ cb) (fun _ i _ => 12 - (intOf i).toNat)
  case atStart => exact ⟨0, v2, by omega, rfl, B2.out, World.ownsRow_nil _ _ _ _, fun b hb => (by cases hb)⟩
  case round =>
    obtain ⟨t, v, ht, rfl, hB, hrow, hnb⟩ := hrel
    have HB := Lib.hid (And.intro hB (And.intro hrow hnb))
    clear hB hrow hnb B2
    by_cases hlt : t < 12
    · have it0 : (t : Int) < 12 := by omega
      have q0 : wr.cell? ⟨wb, 0, none⟩ = some (.pointer (some ⟨p, 0, none⟩)) := HB.out.1.hB.cell 0
      have PX := Lib.hid (put_k wr p v (brandAr t) brandOb HB.out.1.pt 0 (39 - t) 100 rfl (brs_room t 101 (by omega)) (brs_quo t (39 - t + 1) (by omega)))
      rw [brs_name] at PX
      simp only [Ob.cells, brandOb, zero3] at PX
      go_upto_region 11 with (go_at_call 27; refine PX.out.mono ?_; rintro e w3 ⟨v3, rfl, hP3, hC3, hF3⟩)
      have HP3 : Hid (Parts w3 p v3 ((brandAr t).add brandOb)) := hP3
      have HC3 := Lib.hid (And.intro hC3 hF3)
      clear hP3 hC3 hF3 PX q0
      have B3 := Lib.hid (HB.out.1.put HP3.out HC3.out.1 HC3.out.2)
      have HROW : Hid ((w3.alloc (.cells #[.int .u64 ((4294967296 + t : Nat) : Int)] 41)).ownsRow w0.heap.size 41 1 u4 t ((List.range t).map (fun i : Nat => Value.int .u64 ((4294967296 + i : Nat) : Int)))) := owns_chg (owns_chg HB.out.2.1 HC3.out.1 (fun b hb => (HB.out.2.2 b hb).1)) ((Up.refl w3).alloc _).chg (by simp)
      have HBL : Hid (t + 1 ≤ maxLen ∧ (t + 1) * 8 ≤ 140737488355328) := ⟨by unfold maxLen; omega, by omega⟩
      have HUP : Hid (Up w0 (w3.alloc (.cells #[.int .u64 ((4294967296 + t : Nat) : Int)] 41))) := B3.out.up.alloc _
      go_wp2_with (at_builtin; refine wpList_append_lies _ rfl (.tmp 42) (.tmp 44) 35 rfl w0.heap.size 41 _ (.int .u64 0) 1 8 Tryz.underlying35 HI.out.1 HI.out.2.1 HI.out.2.2.1 HI.out.2.2.2 rfl (by decide) u4 _ ((List.range t).map (fun i : Nat => Value.int .u64 ((4294967296 + i : Nat) : Int))) rfl HROW.out ⟨w3.heap.size, 0, none⟩ 1 1 [.int .u64 ((4294967296 + t : Nat) : Int)] rfl rfl (World.news_of_block (cs := #[.int .u64 ((4294967296 + t : Nat) : Int)]) (t := 41) (fr := (0, 0)) (heap_alloc_new w3 _)) (by intro u hu; simp at hu; subst hu; rfl) (by decide) HBL.out.1 HBL.out.2 HUP.out.size (w3.heap.size + 1) (by simp) ?_; intro g1 gcap1 w9 hown9 hgrow9 hat9 hlt9)
      have H9 := Lib.hid (And.intro hown9 (And.intro hgrow9 hat9))
      clear hown9 hgrow9 hat9
      go_roundw
      case rel =>
        have C9 : Chg u4.ownBlock.toList w3 w9 := (((Up.refl w3).alloc (.cells #[.int .u64 ((4294967296 + t : Nat) : Int)] 41)).chg.mono (by simp)).grown H9.out.2.1 (fun b hb => .inl (by simp [hb]))
        have inF : ∀ b ∈ u4.ownBlock.toList, u4.ownBlock = some b := fun b hb => by simpa using hb
        have lw : ∀ b, u4.ownBlock = some b → b < wr.heap.size := fun b hb => (HB.out.2.1.lt b hb).2
        have nf3 : ∀ b, b < wr.heap.size → b ∉ foot p v → b ∉ foot p v3 := fun b hb hn hx => by
          rcases HC3.out.2 b hx with h1 | h1
          · exact hn h1
          · omega
        have B9 : Br w0 w9 wb p cb v3 (t + 1) := ⟨B3.out.hB.chg C9 (fun hx => (HB.out.2.2 wb (inF wb hx)).2.1 rfl), B3.out.pt.chg C9 (fun b hb hx => nf3 b (lw b (inF b hx)) (HB.out.2.2 b (inF b hx)).1 hb), map_chg B3.out.mp C9 (fun hx => (HB.out.2.2 cb (inF cb hx)).2.2 rfl), B3.out.nw, B3.out.nc, B3.out.ge, Below.trans B3.out.up (C9.below B3.out.up.size (fun b hb => (HB.out.2.1.lt b (inF b hb)).1))⟩
        refine ⟨t + 1, v3, by omega, by go_num, B9, ?_, fun b hb => ?_⟩
        · rw [List.range_succ, List.map_append]
          exact H9.out.1
        · cases hb
          rcases H9.out.2.2 with h1 | h1
          · exact ⟨nf3 g1 (lw g1 h1) (HB.out.2.2 g1 h1).1, (HB.out.2.2 g1 h1).2⟩
          · have z0 : g1 = w3.heap.size + 1 := h1
            have z1 := B3.out.hB.lt
            have z2 := B3.out.mp.lt
            exact ⟨fun hx => by have := B3.out.pt.lt g1 hx; omega, (by show g1 ≠ wb; omega), (by show g1 ≠ cb; omega)⟩
      case measure => simp [intOf]; omega
    · have hte : t = 12 := by omega
      subst hte
      have B4 := Lib.hid HB.out.1
      have RF : Hid (RefsAt wr u4 ((List.range 12).map (fun i => 4294967296 + i))) := refs_of_row (base := w0.heap.size) (by rw [List.length_map, List.length_range, List.map_map]; exact HB.out.2.1)
      have RFN : Hid (∀ b, u4.ownBlock = some b → b ∉ foot p v) := fun b hb => (HB.out.2.2 b hb).1
      clear HB
      obtain ⟨wz, ez⟩ : ∃ y, y = wr := ⟨_, rfl⟩
      subst ez
      obtain ⟨a4, c4, e4, -, -, hr4⟩ := RF.out
      rw [List.length_map, List.length_range] at e4 hr4
      obtain ⟨b4, o4, rfl, hb4, hx4⟩ := hr4.resolve_left (by decide)
      subst e4
      have HB4 : Hid (b4 < wz.heap.size ∧ b4 ∉ foot p v) := ⟨hb4, RFN.out b4 rfl⟩
      have HX4 : Hid (∀ i, i < 12 → ∀ wx, Up wz wx → wx.cell? ⟨b4, o4 + i, none⟩ = some (.int .u64 ((4294967296 + i : Nat) : Int))) := fun i hi wx u => up_cell1 u (hx4 i _ (by rw [List.getElem?_map, List.getElem?_range hi]; rfl))
      obtain ⟨iF, hi, hz0, hz1, hz2⟩ := info_parts infoFr
      have HIF := Lib.hid (And.intro hi (And.intro hz0 (And.intro hz1 hz2)))
      clear hi hz0 hz1 hz2
      obtain ⟨iV, hi, hz0, hz1, hz2⟩ := info_parts infoVa
      have HIV := Lib.hid (And.intro hi (And.intro hz0 (And.intro hz1 hz2)))
      clear hi hz0 hz1 hz2 hx4 hr4 hb4
      go_wp2_with fail
      go_loopw [5, 8, 49] (fun wv fv i wr => ∃ (t : Nat) (W : List Nat) (L : List (Value × List V3)), t ≤ n ∧ i = .int .i64 (t : Int) ∧ Lp2 wz wr wv fv W L ∧ L.length = t ∧ (∀ x ∈ L, x.2.length ≤ 20 ∧ ∀ y ∈ x.2, OkV y) ∧ W = (L.map (·.2)).flatMap nmsOf ∧ ∀ r ∈ W, ∃ i, i < 12 ∧ r = 4294967296 + i) (fun _ _ i _ => n - (intOf i).toNat)
      case atStart => exact ⟨0, [], [], by omega, rfl, Lp2.start wz, rfl, by simp, rfl, by simp⟩
      case round =>
        obtain ⟨t, W, L, ht, rfl, hLp, hLl, hOk, hW, hWr⟩ := hrel
        have HL2 := Lib.hid (And.intro hLp (And.intro hLl (And.intro hOk (And.intro hW hWr))))
        clear hLp hLl hOk hW hWr
        by_cases hlt : t < n
        · obtain ⟨ba, oa, rfl, hba, hx⟩ := H0.out.resolve_left (by omega)
          obtain ⟨hc0, ab, m, cm, bs, esp, hbytes⟩ := hx t hlt
          rw [Nat.mul_one] at hc0
          rw [esp] at hc0
          have UW : Hid (Up w wr) := HU0.out.trans (B4.out.up.trans HL2.out.1.up)
          have cx := up_cell1 UW.out hc0
          have HBY := Lib.hid hbytes
          have it0 : (t : Int) < (n : Int) := by omega
          clear hc0 hx hbytes esp hba
          by_cases hm : m ≤ 20
          · have im : ¬ (20 : Int) < (m : Int) := by omega
            have im2 : decide ((20 : Int) < (m : Int)) = false := decide_eq_false im
            go_upto_region 20 with (fail)
            have L3 := Lib.hid (Lp2.frame HL2.out.1)
            clear cx
            generalize World.alloc wr _ = w5 at L3 ⊢
            generalize wr.heap.size = fb at L3 ⊢
            go_wp2_with fail
            go_loopw [5, 58] (fun wv i wr => ∃ (j : Nat) (W1 : List Nat) (cur : Value) (R : List V3), j ≤ m ∧ i = .int .i64 (j : Int) ∧ Lp3 wz wr wv u8 W1 L fb cur R ∧ R.length = j ∧ (∀ y ∈ R, OkV y) ∧ W1 = W ++ nmsOf R ∧ ∀ r ∈ W1, ∃ i, i < 12 ∧ r = 4294967296 + i) (fun _ i _ => m - (intOf i).toNat)
            case atStart => exact ⟨0, W, .slice none 0 0, [], by omega, rfl, L3.out, rfl, by simp, (by simp [nmsOf]), HL2.out.2.2.2.2⟩
            case round =>
              obtain ⟨j, W1, cur, R, hj, rfl, hL3, hRl, hRo, hW1, hW1r⟩ := hrel
              have H3 := Lib.hid (And.intro hL3 (And.intro hRl (And.intro hRo (And.intro hW1 hW1r))))
              clear hL3 hRl hRo hW1 hW1r L3
              by_cases hlj : j < m
              · obtain ⟨bb, ob, rfl, hbb, hbx⟩ := HBY.out.resolve_left (by omega)
                obtain ⟨hc, hx0, hx1⟩ := hbx j hlj
                rw [Nat.mul_one] at hc
                have cx := up_cell1 (HU0.out.trans (B4.out.up.trans H3.out.1.l2.up)) hc
                generalize bs j = x at cx hx0 hx1
                have ij0 : (j : Int) < (m : Int) := by omega
                have NX := Lib.hid (number_x x wr)
                simp only [val] at NX
                have hwx : IntKind.i64.wrap x = x := by rw [IntKind.wrap_i64] <;> omega
                clear hc hbx hbb
                go_upto_if 66 with (go_at_call 23; refine NX.out.mono ?_; rintro e w6 ⟨rfl, ew⟩; rw [ew]; clear ew w6)
                clear cx
                have U7 : Up wr ((wr.alloc (.cells #[.int .u8 2, .int .i64 x, .string ⟨#[]⟩] 51)).alloc (.cells #[.int .u8 2, .int .i64 x, .string ⟨#[]⟩] 51)) := ((Up.refl wr).alloc _).alloc _
                have hX7 := has3_alloc (wr.alloc (.cells #[.int .u8 2, .int .i64 x, .string ⟨#[]⟩] 51)) (.int .u8 2) (.int .i64 x) (.string ⟨#[]⟩) 51
                have hvb : wr.heap.size + 1 = (wr.alloc (.cells #[.int .u8 2, .int .i64 x, .string ⟨#[]⟩] 51)).heap.size := by simp
                rw [← hvb] at hX7
                generalize (wr.alloc (.cells #[.int .u8 2, .int .i64 x, .string ⟨#[]⟩] 51)).alloc (.cells #[.int .u8 2, .int .i64 x, .string ⟨#[]⟩] 51) = w7 at U7 hX7 ⊢
                have L7 := Lib.hid (H3.out.1.upd U7)
                have X7 := Lib.hid hX7
                have HVB : Hid (wr.heap.size ≤ wr.heap.size + 1 ∧ wr.heap.size + 1 < w7.heap.size) := ⟨Nat.le_succ _, hX7.1⟩
                have HNV : Hid (u5.ownBlock ≠ some (wr.heap.size + 1)) := fun e => by have := (H3.out.1.l2.wrow.lt _ e).2; omega
                have UU7 := Lib.hid U7
                clear hvb U7 hX7
                generalize wr.heap.size + 1 = vb at X7 HNV HVB ⊢
                have HW1l : Hid (W1.length ≤ 10000) := by
                  have h1 := frs_len (L.map (·.2)) (fun R hR => by obtain ⟨y, hy, rfl⟩ := List.mem_map.1 hR; have := (HL2.out.2.2.1 y hy).1; omega)
                  have h2 := nms_len R
                  rw [List.length_map] at h1
                  show _ ≤ _
                  rw [H3.out.2.2.2.1, HL2.out.2.2.2.1, List.length_append]
                  have := HL2.out.2.1
                  have := H3.out.2.1
                  omega
                go_cut [5, 66] from 67 to 80 (fun wv c wx => ∃ (y : V3) (W2 : List Nat), Has3 wx vb (.int .u8 y.1) (.int .i64 y.2.1) (.string y.2.2) ∧ Lp3 wz wx wv u8 W2 L fb cur R ∧ OkV y ∧ W2 = W1 ++ nmOf y ∧ ∀ r ∈ W2, ∃ i, i < 12 ∧ r = 4294967296 + i)
                case first =>
                  by_cases hx24 : x < 24
                  · obtain ⟨k, hk⟩ : ∃ k : Nat, x % 12 = (k : Int) := ⟨(x % 12).toNat, by omega⟩
                    have hk12 : k < 12 := by omega
                    have hk2 : x.tmod 12 = (k : Int) := by rw [Int.tmod_eq_emod_of_nonneg hx0]; exact hk
                    have i24 : decide (x < 24) = true := decide_eq_true hx24
                    obtain ⟨r, hr⟩ : ∃ r, r = 4294967296 + k := ⟨_, rfl⟩
                    have HRK := Lib.hid hr
                    have HRN : Hid (∃ i, i < 12 ∧ r = 4294967296 + i) := ⟨k, hk12, hr⟩
                    have HR4 : Hid (∀ wx, Up wz wx → wx.cell? ⟨b4, o4 + k, none⟩ = some (.int .u64 (r : Int))) := by rw [hr]; exact HX4.out k hk12
                    have c4k := HR4.out w7 (L7.out.l2.up)
                    have ik : (k : Int) < 12 := by omega
                    have OBX := Lib.hid (object_x r (by omega))
                    simp only [val] at OBX
                    clear hr
                    obtain ⟨xl, ⟨x0, x1, x2⟩, ⟨f0, f1, f2⟩⟩ := X7.out
                    have hwk : IntKind.u8.wrap x = x := by rw [IntKind.wrap_u8]; omega
                    go_upto_region 26 with (go_at_call 10; refine (OBX.out _).mono ?_; rintro e w8 ⟨rfl, ew⟩; rw [ew]; clear ew w8)
                    have X8 := (X7.out.store (.int .u8 5) (.int .i64 (r : Int)) (.string ⟨#[]⟩)).up ((Up.refl _).alloc (.cells #[.int .u8 5, .int .i64 (r : Int), .string ⟨#[]⟩] 51))
                    have U8 := (((UU7.out.setCell (p := ⟨vb, 0, none⟩) HVB.out.1 (.int .u8 5)).setCell (p := ⟨vb, 1, none⟩) HVB.out.1 (.int .i64 (r : Int))).setCell (p := ⟨vb, 2, none⟩) HVB.out.1 (.string ⟨#[]⟩)).alloc (.cells #[.int .u8 5, .int .i64 (r : Int), .string ⟨#[]⟩] 51)
                    clear c4k x0 x1 x2 f0 f1 f2 xl
                    generalize ((((w7.setCell ⟨vb, 0, none⟩ (.int .u8 5)).setCell ⟨vb, 1, none⟩ (.int .i64 (r : Int))).setCell ⟨vb, 2, none⟩ (.string ⟨#[]⟩)).alloc (.cells #[.int .u8 5, .int .i64 (r : Int), .string ⟨#[]⟩] 51)) = w8 at X8 U8 ⊢
                    have c4k := HR4.out w8 (H3.out.1.l2.up.trans U8)
                    have HX8 := Lib.hid (And.intro X8 U8)
                    have HROW : Hid ((w8.alloc (.cells #[.int .u64 (r : Int)] 41)).ownsRow wz.heap.size 41 1 u5 W1.length (W1.map (fun n : Nat => Value.int .u64 (n : Int))) ∧ Up wr (w8.alloc (.cells #[.int .u64 (r : Int)] 41)) ∧ wz.heap.size ≤ (w8.alloc (.cells #[.int .u64 (r : Int)] 41)).heap.size) := ⟨owns_chg H3.out.1.l2.wrow (U8.alloc _).chg (by simp), U8.alloc _, (H3.out.1.l2.up.trans (U8.alloc _)).size⟩
                    have HBL : Hid (W1.length + 1 ≤ maxLen ∧ (W1.length + 1) * 8 ≤ 140737488355328) := by have := HW1l.out; exact ⟨by unfold maxLen; omega, by omega⟩
                    clear X8 U8
                    go_wp2_with (at_builtin; refine wpList_append_lies _ rfl (.tmp 73) (.tmp 79) 35 rfl wz.heap.size 41 _ (.int .u64 0) 1 8 Tryz.underlying35 HI.out.1 HI.out.2.1 HI.out.2.2.1 HI.out.2.2.2 rfl (by decide) u5 _ (W1.map (fun n : Nat => Value.int .u64 (n : Int))) rfl HROW.out.1 ⟨w8.heap.size, 0, none⟩ 1 1 [.int .u64 (r : Int)] rfl rfl (World.news_of_block (cs := #[.int .u64 (r : Int)]) (t := 41) (fr := (0, 0)) (heap_alloc_new w8 _)) (by intro u hu; simp at hu; subst hu; rfl) (by decide) HBL.out.1 HBL.out.2 HROW.out.2.2 (w8.heap.size + 1) (by simp) ?_; intro g1 gcap1 w9 hown9 hgrow9 hat9 hlt9)
                    go_meet
                    obtain ⟨ii, hii, hri⟩ := HRN.out
                    refine ⟨(5, (r : Int), ⟨#[]⟩), W1 ++ [r], ?_, H3.out.1.want HROW.out.2.1 hown9 hgrow9 (by simpa using hat9), .inr ⟨r, rfl, by omega, by omega⟩, rfl, fun z hz => ?_⟩
                    · exact has3_chg (HX8.out.1.up ((Up.refl w8).alloc _)) ((Chg.refl u5.ownBlock.toList _).grown hgrow9 (fun b hb => .inl (by simp [hb]))) (fun hx => HNV.out (by simpa using hx))
                    · rcases List.mem_append.1 hz with h | h
                      · exact H3.out.2.2.2.2 z h
                      · exact ⟨ii, hii, by rw [List.mem_singleton.1 h]; exact hri⟩
                  · have i24 : decide (x < 24) = false := decide_eq_false hx24
                    go_wp2_with fail
                    go_meet
                    exact ⟨(2, x, ⟨#[]⟩), W1, X7.out, L7.out, .inl rfl, (by show W1 = W1 ++ []; rw [List.append_nil]), H3.out.2.2.2.2⟩
                case rest =>
                  obtain ⟨⟨y1, y2, y3⟩, W2, hX, hL, hok, hW2, hW2r⟩ := hcut
                  have H7 := Lib.hid (And.intro hX (And.intro hL (And.intro hok (And.intro hW2 hW2r))))
                  clear hX hL hok hW2 hW2r L7 X7
                  obtain ⟨xl, ⟨x0, x1, x2⟩, -⟩ := H7.out.1
                  simp only at x0 x1 x2
                  have q3 := H7.out.2.1.fblk.cell 3
                  have HUA : Hid (Up wc (wc.alloc (.cells #[.int .u8 y1, .int .i64 y2, .string y3] 51))) := (Up.refl wc).alloc _
                  have HROW : Hid ((wc.alloc (.cells #[.int .u8 y1, .int .i64 y2, .string y3] 51)).ownsRow wz.heap.size 51 3 cur R.length (R.flatMap v3C) ∧ wz.heap.size ≤ (wc.alloc (.cells #[.int .u8 y1, .int .i64 y2, .string y3] 51)).heap.size) := ⟨owns_chg H7.out.2.1.crow HUA.out.chg (by simp), (H7.out.2.1.l2.up.trans HUA.out).size⟩
                  have HBL : Hid (R.length + 1 ≤ maxLen ∧ (R.length + 1) * 32 ≤ 140737488355328) := by have := H3.out.2.1; exact ⟨by unfold maxLen; omega, by omega⟩
                  have HCF : Hid (cur.ownBlock ≠ some fb ∧ fb < wc.heap.size ∧ wc.frozen? ⟨fb, 3, none⟩ = false) := ⟨fun e => (H7.out.2.1.cn fb e).2.2.1 rfl, H7.out.2.1.fblk.lt, frozen_of_row wc fb 3 _ _ H7.out.2.1.fblk⟩
                  have Q3 := Lib.hid q3
                  go_wp2_with (at_builtin; refine wpList_append_lies _ rfl (.tmp 82) (.tmp 84) 64 rfl wz.heap.size 51 _ (.agg #[.int .u8 0, .int .i64 0, .string ⟨#[]⟩]) 3 32 Tryz.underlying64 HIV.out.1 HIV.out.2.1 HIV.out.2.2.1 HIV.out.2.2.2 rfl (by decide) cur _ (R.flatMap v3C) rfl HROW.out.1 ⟨wc.heap.size, 0, none⟩ 1 1 [.int .u8 y1, .int .i64 y2, .string y3] rfl rfl (World.news_of_block (cs := #[.int .u8 y1, .int .i64 y2, .string y3]) (t := 51) (fr := (0, 0)) (heap_alloc_new wc _)) (by intro u hu; simp at hu; rcases hu with rfl | rfl | rfl <;> rfl) (by decide) HBL.out.1 HBL.out.2 HROW.out.2 (wc.heap.size + 1) (by simp) ?_; intro g1 gcap1 w9 hown9 hgrow9 hat9 hlt9; have C9 : Chg cur.ownBlock.toList wc w9 := ((HUA.out.chg.mono (by simp)).grown hgrow9 (fun b hb => .inl (by simp [hb]))); have z1 : w9.cell? ⟨fb, 3, none⟩ = some cur := (C9.cell HCF.out.2.1 (fun hx => HCF.out.1 (by simpa using hx))).trans Q3.out; have z2 : w9.frozen? ⟨fb, 3, none⟩ = false := (C9.frozen HCF.out.2.1 (fun hx => HCF.out.1 (by simpa using hx))).trans HCF.out.2.2)
                  have H9 := Lib.hid (And.intro hown9 (And.intro hgrow9 hat9))
                  clear hown9 hgrow9 hat9
                  go_roundw
                  case rel =>
                    exact ⟨j + 1, W2, _, R ++ [(y1, y2, y3)], by omega, by go_num, H7.out.2.1.reg HUA.out H9.out.1 H9.out.2.1 (by simpa using H9.out.2.2), by rw [List.length_append, H3.out.2.1]; rfl, fun z hz => by rcases List.mem_append.1 hz with h | h; exact H3.out.2.2.1 z h; rw [List.mem_singleton.1 h]; exact H7.out.2.2.1, by rw [H7.out.2.2.2.1, H3.out.2.2.2.1, List.append_assoc]; unfold nmsOf; rw [List.flatMap_append, List.flatMap_singleton], H7.out.2.2.2.2⟩
                  case measure => simp [intOf]; omega
              · have hje : j = m := by omega
                subst hje
                have q0 := H3.out.1.fblk.cell 0
                have q1 := H3.out.1.fblk.cell 1
                have q2 := H3.out.1.fblk.cell 2
                have q3 := H3.out.1.fblk.cell 3
                have q4 := H3.out.1.fblk.cell 4
                have q5 := H3.out.1.fblk.cell 5
                have q6 := H3.out.1.fblk.cell 6
                have q7 := H3.out.1.fblk.cell 7
                have HBL : Hid (L.length + 1 ≤ maxLen ∧ (L.length + 1) * 112 ≤ 140737488355328) := by have := HL2.out.2.1; exact ⟨by unfold maxLen; omega, by omega⟩
                have HLL : Hid (t = L.length) := HL2.out.2.1.symm
                have HROW : Hid ((wr.alloc (.cells #[.int .i64 0, .int .i64 0, .int .i64 0, cur, .int .i64 0, .int .i64 0, .slice none 0 0, .slice none 0 0] 92)).ownsRow wz.heap.size 92 8 u8 L.length (L.flatMap fun x => frC x.1) ∧ wz.heap.size ≤ (wr.alloc (.cells #[.int .i64 0, .int .i64 0, .int .i64 0, cur, .int .i64 0, .int .i64 0, .slice none 0 0, .slice none 0 0] 92)).heap.size) := ⟨owns_chg H3.out.1.l2.frow ((Up.refl wr).alloc _).chg (by simp), (H3.out.1.l2.up.alloc _).size⟩
                have HONE : Hid (∀ u ∈ ([.int .i64 0, .int .i64 0, .int .i64 0, cur, .int .i64 0, .int .i64 0, .slice none 0 0, .slice none 0 0] : List Value), u.oneCell' = true) := by
                  intro u hu
                  obtain ⟨ac, cc, ec, -⟩ := shape H3.out.1.crow
                  simp only [List.mem_cons, List.not_mem_nil, or_false] at hu
                  rcases hu with h | h | h | h | h | h | h | h <;> rw [h] <;> first | rfl | (rw [ec]; rfl)
                go_wp2_with (at_builtin; refine wpList_append_lies _ rfl (.tmp 88) (.tmp 90) 100 rfl wz.heap.size 92 _ (.agg #[.int .i64 0, .int .i64 0, .int .i64 0, .slice none 0 0, .int .i64 0, .int .i64 0, .slice none 0 0, .slice none 0 0]) 8 112 Tryz.underlying100 HIF.out.1 HIF.out.2.1 HIF.out.2.2.1 HIF.out.2.2.2 rfl (by decide) u8 _ (L.flatMap fun x => frC x.1) rfl HROW.out.1 ⟨wr.heap.size, 0, none⟩ 1 1 [.int .i64 0, .int .i64 0, .int .i64 0, cur, .int .i64 0, .int .i64 0, .slice none 0 0, .slice none 0 0] rfl rfl (World.news_of_block (cs := #[.int .i64 0, .int .i64 0, .int .i64 0, cur, .int .i64 0, .int .i64 0, .slice none 0 0, .slice none 0 0]) (t := 92) (fr := (0, 0)) (heap_alloc_new wr _)) HONE.out (by decide) HBL.out.1 HBL.out.2 HROW.out.2 (wr.heap.size + 1) (by simp) ?_; intro g1 gcap1 w9 hown9 hgrow9 hat9 hlt9)
                have H9 := Lib.hid (And.intro hown9 (And.intro hgrow9 hat9))
                clear hown9 hgrow9 hat9
                go_roundw
                case rel =>
                  repeat apply Exists.intro
                  refine ⟨⟨t + 1, W1, L ++ [(cur, R)], by omega, by go_num, H3.out.1.done ((Up.refl wr).alloc _) H9.out.1 H9.out.2.1 (by simpa using H9.out.2.2), by rw [List.length_append, HLL.out]; rfl, fun x hx => ?_, ?_, H3.out.2.2.2.2⟩, rfl⟩
                  · rcases List.mem_append.1 hx with h1 | h1
                    · exact HL2.out.2.2.1 x h1
                    · rw [List.mem_singleton.1 h1]
                      exact ⟨by rw [H3.out.2.1]; exact hm, H3.out.2.2.1⟩
                  · rw [H3.out.2.2.2.1, HL2.out.2.2.2.1, List.map_append, List.flatMap_append]
                    simp
                case measure => simp [intOf]; omega
          · have im : (20 : Int) < (m : Int) := by omega
            go_wp2_with fail
            go_ret
            exact ⟨rfl, UW.out⟩
        · have hte : t = n := by omega
          subst hte
          have HWL : Hid (W.length ≤ 10000) := by
            have h1 := frs_len (L.map (·.2)) (fun R hR => by obtain ⟨y, hy, rfl⟩ := List.mem_map.1 hR; have := (HL2.out.2.2.1 y hy).1; omega)
            rw [List.length_map] at h1
            show _ ≤ _
            rw [HL2.out.2.2.2.1]
            have := HL2.out.2.1
            omega
          have RX := Lib.hid (roots_x wr u8 (L.map (·.2)) HL2.out.1.frames (by rw [List.length_map, HL2.out.2.1]; omega) (fun R hR => by obtain ⟨y, hy, rfl⟩ := List.mem_map.1 hR; have := (HL2.out.2.2.1 y hy).1; omega) (fun R hR => by obtain ⟨y, hy, rfl⟩ := List.mem_map.1 hR; exact (HL2.out.2.2.1 y hy).2))
          rw [← HL2.out.2.2.2.1] at RX
          go_wp2_with (go_at_call 28; refine RX.out.mono ?_; rintro e w31 ⟨vr, rfl, hU31, hrow31⟩)
          have U31 : Hid (Up wz w31) := HL2.out.1.up.trans hU31
          have RW : Hid (RefsAt w31 u5 W ∧ ∀ b off m cp, u5 = .slice (some ⟨b, off, none⟩) m cp → wz.heap.size ≤ b) := ⟨(refs_of_row HL2.out.1.wrow).up hU31, fun b off m cp e => (HL2.out.1.wrow.lt b (by rw [e]; rfl)).1⟩
          have RR : Hid (RefsAt w31 vr W ∧ ∀ b off m cp, vr = .slice (some ⟨b, off, none⟩) m cp → wz.heap.size ≤ b) := ⟨refs_of_row hrow31, fun b off m cp e => Nat.le_trans HL2.out.1.up.size (hrow31.lt b (by rw [e]; rfl)).1⟩
          have HWr : Hid (∀ r ∈ W, ∃ i, i < 12 ∧ r = 4294967296 + i) := HL2.out.2.2.2.2
          have HW63 : Hid (∀ r ∈ W, r < 9223372036854775808) := fun r hr => by obtain ⟨i, hi, rfl⟩ := HWr.out r hr; omega
          have HDD : Hid (∀ i, Rea (brandAr 12) (hsOf (brandAr 12) (fun _ => []) (fun _ => false)) W i ↔ i ∈ W) := fun i => brs_rea (by decide) HWr.out i
          clear hU31 hrow31 RX
          go_loopw [97] (fun i wr => ∃ t : Nat, t ≤ 12 ∧ i = .int .i64 (t : Int) ∧ Up w31 wr) (fun i _ => 12 - (intOf i).toNat)
          case atStart => exact ⟨0, by omega, rfl, Up.refl _⟩
          case round =>
            obtain ⟨t, ht, rfl, hU⟩ := hrel
            have HU := Lib.hid hU
            clear hU
            by_cases hlt : t < 12
            · have cx := HX4.out t hlt wr (U31.out.trans HU.out)
              have it0 : (t : Int) < 12 := by omega
              have BW := B4.out.upd (U31.out.trans HU.out)
              obtain ⟨r, hr⟩ : ∃ r, r = 4294967296 + t := ⟨_, rfl⟩
              rw [← hr] at cx
              have hr64 : r < 18446744073709551616 := by omega
              have RX := Lib.hid (reaches_x wr wb p r _ _ (brandAr 12) (.slice none 0 0) vr (fun _ => []) (fun _ => false) W 0 12 BW.hB (BW.sees (by decide)) (RR.out.1.up HU.out) HW63.out (by simp) (by simp) (by decide) (fun r o hf => (refsOf_mem (brs_room 12 100 (by decide))).2 ⟨o, hf⟩) (by have := HWL.out; omega) hr64)
              obtain ⟨dd, hdd⟩ : ∃ dd : Bool, dd = decide (r ∈ W) := ⟨_, rfl⟩
              have CX := Lib.hid (fun wx (u : Up wr wx) => contains_r u5 W r wx (RW.out.1.up (HU.out.trans u)) (by have := HWL.out; omega))
              rw [← hdd] at CX
              have HD := Lib.hid hdd
              have zz : (dd != dd) = false := by simp
              clear hr hr64 BW hdd
              go_wp2_with (first
                | (go_at_call 29; refine RX.out.mono ?_; rintro e w5 ⟨c, rfl, hc, hU5⟩; have hcd : c = dd := (by rw [HD.out, Bool.eq_iff_iff, hc, HDD.out]; simp); subst hcd; clear hc)
                | (go_at_call 30; refine (CX.out _ hU5).mono ?_; rintro e w6 ⟨rfl, hU6⟩))
              go_roundw
              case rel => exact ⟨t + 1, by omega, by go_num, HU.out.trans (hU5.trans hU6)⟩
              case measure => simp [intOf]; omega
            · have hte : t = 12 := by omega
              subst hte
              obtain ⟨w37, e37⟩ : ∃ y, y = wr := ⟨_, rfl⟩
              subst e37
              have B37 := Lib.hid (B4.out.upd (U31.out.trans HU.out))
              have CX := Lib.hid (wcollect_x w37 wb p cb 0 _ v (brandAr 12) (.slice none 0 0) vr (fun _ => []) (fun _ => false) W 0 100 (.map []) (fun _ _ => none) B37.out.hB B37.out.nw B37.out.pt (B37.out.sees (by decide)) (RR.out.1.up HU.out) HW63.out (by simp) (by simp) (by have := HWL.out; exact ⟨by show W.length + 0 * 12 ≤ 500000; omega, by decide⟩) (brs_room 12 100 (by decide)) (by decide)
                (fun r o hf => by obtain ⟨i, -, -, rfl⟩ := (brs_find (by decide)).1 hf; exact ⟨0, 12, rfl, rfl, by decide, by decide⟩) B37.out.nc B37.out.mp CacheIs.nil (fun m t q h => by cases h))
              go_wp2_with (go_at_call 21; refine CX.out.mono ?_; rintro e w38 ⟨c, v', A', gone, rfl, hCl, hRe⟩)
              have HCL := Lib.hid (And.intro hCl hRe)
              have HFT : Hid (∀ x ∈ foot p v, x < wz.heap.size) := B4.out.pt.lt
              have q38 : w38.cell? ⟨wb, 0, none⟩ = some (.pointer (some ⟨p, 0, none⟩)) := (B37.out.hB.chg hCl.cg B37.out.nw).cell 0
              have Q38 := Lib.hid q38
              have HX8 : Hid (∀ i, i < 12 → ∀ wx, Up w38 wx → wx.cell? ⟨b4, o4 + i, none⟩ = some (.int .u64 ((4294967296 + i : Nat) : Int))) := fun i hi wx u => up_cell1 u ((HCL.out.1.cg.cell (p := ⟨b4, o4 + i, none⟩) (Nat.lt_of_lt_of_le HB4.out.1 (U31.out.trans HU.out).size) HB4.out.2).trans (HX4.out i hi w37 (U31.out.trans HU.out)))
              have RW8 : Hid (RefsAt w38 u5 W) := (RW.out.1.up HU.out).chg HCL.out.1.cg (fun b off m cp e hx => by have := RW.out.2 b off m cp e; have := HFT.out b hx; omega)
              have RR8 : Hid (RefsAt w38 vr W) := (RR.out.1.up HU.out).chg HCL.out.1.cg (fun b off m cp e hx => by have := RR.out.2 b off m cp e; have := HFT.out b hx; omega)
              have HUP : Hid (Up w w38) := HU0.out.trans (Below.trans B37.out.up (HCL.out.1.cg.below B37.out.up.size B37.out.ge.2.2))
              clear hCl hRe CX q38
              go_loopw [115] (fun i wr => ∃ t : Nat, t ≤ 12 ∧ i = .int .i64 (t : Int) ∧ Up w38 wr) (fun i _ => 12 - (intOf i).toNat)
              case atStart => exact ⟨0, by omega, rfl, Up.refl _⟩
              case round =>
                obtain ⟨t, ht, rfl, hU⟩ := hrel
                have HU8 := Lib.hid hU
                clear hU
                by_cases hlt : t < 12
                · have cx := HX8.out t hlt wr HU8.out
                  have q8 := up_cell1 HU8.out Q38.out
                  have it0 : (t : Int) < 12 := by omega
                  obtain ⟨r, hr⟩ : ∃ r, r = 4294967296 + t := ⟨_, rfl⟩
                  rw [← hr] at cx
                  have hr63 : r < 9223372036854775808 := by omega
                  have PT := HCL.out.1.pt.up HU8.out
                  have CX := Lib.hid (fun wx (u : Up wr wx) => contains_r u5 W r wx (RW8.out.up (HU8.out.trans u)) (by have := HWL.out; omega))
                  have hiff := (HCL.out.2 r).trans (HDD.out r)
                  by_cases hrW : r ∈ W
                  · rw [decide_eq_true hrW] at CX
                    have hne := hiff.2 hrW
                    obtain ⟨o, ho⟩ : ∃ o, A'.find r = some o := by
                      cases h : A'.find r with
                      | none => exact absurd h hne
                      | some o => exact ⟨o, rfl⟩
                    have GX := Lib.hid (get_yes wr p r v' A' o PT (by omega) ho)
                    clear hr hiff hrW hne ho PT hr63
                    go_wp2_with (first
                      | (go_at_call 14; refine GX.out.mono ?_; rintro e w5 ⟨g5, rfl, hU5, -, -⟩)
                      | (go_at_call 30; refine (CX.out _ hU5).mono ?_; rintro e w6 ⟨rfl, hU6⟩))
                    go_roundw
                    case rel => exact ⟨t + 1, by omega, by go_num, HU8.out.trans (hU5.trans hU6)⟩
                    case measure => simp [intOf]; omega
                  · rw [decide_eq_false hrW] at CX
                    have hno : A'.find r = none := by
                      cases h : A'.find r with
                      | none => rfl
                      | some o => exact absurd (hiff.1 (by rw [h]; simp)) hrW
                    have GX := Lib.hid (get_no wr p r v' A' PT (by omega) hno)
                    clear hr hiff hrW hno PT hr63
                    go_wp2_with (first
                      | (go_at_call 14; refine GX.out.mono ?_; rintro e w5 ⟨rfl, hU5⟩)
                      | (go_at_call 30; refine (CX.out _ hU5).mono ?_; rintro e w6 ⟨rfl, hU6⟩))
                    go_roundw
                    case rel => exact ⟨t + 1, by omega, by go_num, HU8.out.trans (hU5.trans hU6)⟩
                    case measure => simp [intOf]; omega
                · have hte : t = 12 := by omega
                  subst hte
                  have EX := Lib.hid (equal_r vr u5 W wr (RR8.out.up HU8.out) (RW8.out.up HU8.out) (by have := HWL.out; omega))
                  go_wp2_with (go_at_call 31; refine EX.out.mono ?_; rintro e w9 ⟨rfl, hU9⟩)
                  go_ret
                  exact ⟨rfl, HUP.out.trans (HU8.out.trans hU9)⟩
end Go.Proofs.YtmmfpkkkpeapeaaGreatDoor.ar
