/- WrapPasses: the walk (printed by yw_gen.py). (1 texts in one.) -/
import Derived.Test.YtmmfpkkkpeapeaaGreatDoorPsD
import Derived.Test.YtmmfpkkkpeapeaaGreatDoorAwake

/- WrapPasses: the walk (printed by yw_gen.py). -/
set_option linter.unusedVariables false
set_option linter.unusedSimpArgs false
namespace Go.Proofs.YtmmfpkkkpeapeaaGreatDoor.wy
open Go.RowKit Go.Maps mem rec ar mb
attribute [local go_sem ↓] Go.wp_at_zero Go.wp_at_succ
set_option maxRecDepth 100000
set_option maxHeartbeats 20000000
theorem infoT : (Tryz.prog.info? 43).map (fun i => (i.zero, i.size, i.bytes)) = some (some (.agg #[.int .u64 0, .int .i64 0, .int .i64 0, .int .u64 0, .int .i64 0]), 5, 40) := by kernel_rfl
theorem set_out {w : World} {g o b k : Nat} {u : Value} (h : g ≠ b) : (w.setCell ⟨g, o, none⟩ u).cell? ⟨b, k, none⟩ = w.cell? ⟨b, k, none⟩ := World.cell?_setCell_other _ _ _ _ (by simp [h])
theorem owns_base {w : World} {b b' : Nat} {e : TypeId} {sz n : Nat} {v : Value} {xs : List Value} (h : w.ownsRow b e sz v n xs) (hb : b' ≤ b) : w.ownsRow b' e sz v n xs := by
  obtain ⟨h1, h2⟩ := h
  refine ⟨h1, h2.imp id ?_⟩
  rintro ⟨g, cap, cur, q1, q2, q3⟩
  exact ⟨g, cap, cur, q1, Nat.le_trans hb q2, q3⟩
theorem passes (pa : Option Addr) (n cap : Nat) (ps : Nat → Int × Int) (ga : Option Addr) (gn gcap : Nat) (gs : Nat → Int × Int × Int × Bool) (pk pn : Int) (pss : ByteArray) (w : World) (hL : Laid w) (hn0 : 0 < n) (hn : n ≤ 6) (hg : gn ≤ 40) (hk : 0 ≤ pk ∧ pk ≤ 255)
    (hp : n = 0 ∨ ∃ b off, pa = some ⟨b, off, none⟩ ∧ b < w.heap.size ∧ ∀ i, i < n → P2At w b (off + i * 2) (ps i)) (hw : gn = 0 ∨ ∃ b off, ga = some ⟨b, off, none⟩ ∧ b < w.heap.size ∧ ∀ i, i < gn → GoAt w b (off + i * 4) (gs i)) :
    Calls Tryz.prog 3 #[.slice pa n cap, .slice ga gn gcap, .agg #[.int .u8 pk, .int .i64 pn, .string pss]] w fun e w' => e = .returned (.bool true) ∧ Up w w' := by
  have HP := Lib.hid hp
  have HW := Lib.hid hw
  have hk := Lib.hid hk
  clear hp hw
  have il0 : ¬ ((n : Int) = 0) := by omega
  have il1 : ¬ (6 : Int) < (n : Int) := by omega
  have il2 : ¬ (40 : Int) < (gn : Int) := by omega
  have il4 : ((n : Int) == 0) = false := by simp; omega
  have il5 : decide ((6 : Int) < (n : Int)) = false := decide_eq_false il1
  have il6 : decide ((40 : Int) < (gn : Int)) = false := decide_eq_false il2
  have LW : Hid (∀ wx, Up w wx → Laid wx) := fun wx hu => Ev.laidN_up _ _ _ _ _ (Ev.laidN_keep _ _ _ _ _ _ hu hL)
  have MK : Hid (∀ w0, Up w w0 → Calls Tryz.prog 8 #[.slice pa n cap] w0 fun e w' => ∃ (q p cb : Nat) (vr v : Nat → Value) (bs : List Nat), e = .returned (.pointer (some ⟨q, 0, none⟩)) ∧ bs.length = 4 ∧ St w0 w' q p cb vr v (mk4 bs) none2 ((List.range n).map fun i => sideOf (ps i)) 59 0) := by
    intro w0 hu
    refine make_walk pa n cap ps w0 hn ?_
    rcases HP.out with h | ⟨b, off, h1, h2, h3⟩
    · exact .inl h
    · exact .inr ⟨b, off, h1, Nat.lt_of_lt_of_le h2 hu.size, fun i hi => by obtain ⟨c0, c1, c2⟩ := h3 i hi; exact ⟨up_cell hu c0, up_cell hu c1, c2⟩⟩
  go_enter Tryz.func3, Tryz.ntmps3
  go_upto_region 1 with (fail)
  have hB5 := has3_alloc w (.int .u8 pk) (.int .i64 pn) (.string pss) 25
  have hU5 : Up w (w.alloc (.cells #[.int .u8 pk, .int .i64 pn, .string pss] 25)) := (Up.refl w).alloc _
  generalize World.alloc w _ = w5 at hB5 hU5 ⊢
  generalize w.heap.size = b5 at hB5 ⊢
  have H5 := Lib.hid (And.intro hB5 hU5)
  clear hB5 hU5 hL
  go_upto_region 5 with (go_at_call 7; refine (awake15 _ (LW.out _ H5.out.2)).mono ?_; rintro e w0 ⟨rfl, hb0⟩)
  have hb0 : Up w5 w0 := hb0
  go_upto_region 6 with (go_at_call 8; refine (MK.out _ (H5.out.2.trans hb0)).mono ?_; rintro e w1 ⟨q, p, cb, vr, v, bs, rfl, hbs, hS⟩)
  obtain ⟨L, hL2⟩ : ∃ L, L = (List.range n).map fun i => sideOf (ps i) := ⟨_, rfl⟩
  rw [← hL2] at hS
  have hne : ∀ x ∈ L, x.1 ≠ x.2.1 := by
    intro x hx
    rw [hL2] at hx
    obtain ⟨i, -, rfl⟩ := List.mem_map.1 hx
    exact side_ne _
  have hLn : L.length = n := by rw [hL2]; simp
  have HB0 : Hid (Up w w0 ∧ Has3 w0 b5 (.int .u8 pk) (.int .i64 pn) (.string pss) ∧ L.length = n ∧ 0 < n ∧ (∀ x ∈ L, x.1 ≠ x.2.1) ∧ bs.length = 4) := ⟨H5.out.2.trans hb0, H5.out.1.up hb0, hLn, hn0, hne, hbs⟩
  clear hL2 MK HP LW H5 hb0 hne hLn hbs il0 il1 il2 il4 il5 il6
  obtain ⟨go_, gc, hvo, hgo, hob⟩ := hS.objs
  have q3 := (hS.rw_.cell 1 (by decide)).1
  rw [hvo] at q3
  have H1 := Lib.hid (And.intro hS (And.intro hvo hob))
  clear hS hvo hob
  obtain ⟨iT, hi, hz0, hz1, hz2⟩ := info_parts infoT
  have HIT := Lib.hid (And.intro hi (And.intro hz0 (And.intro hz1 hz2)))
  clear hi hz0 hz1 hz2
  go_wp2_with fail
  clear q3
  go_loopw [8, 47] (fun av i wr => ∃ (t : Nat), t ≤ 4 ∧ i = .int .i64 (t : Int) ∧ wr.ownsRow w1.heap.size 43 5 av t ((four.take t).flatMap cellsT) ∧ Up w1 wr) (fun _ i _ => 4 - (intOf i).toNat)
  case atStart => exact ⟨0, by omega, rfl, World.ownsRow_nil _ _ _ _, Up.refl _⟩
  case round =>
    obtain ⟨t, ht, rfl, hrow, hU⟩ := hrel
    have HR := Lib.hid (And.intro hrow hU)
    clear hrow
    by_cases hlt : t < 4
    · as_aux_lemma =>
        have it0 : (t : Int) < 4 := by omega
        have co := up_cell hU (H1.out.2.2 t hlt)
        clear hU
        have hf : four[t]? = some ⟨4294967296 + t, (t : Int), -1, 0, 0⟩ := by unfold four; rw [List.getElem?_map, List.getElem?_range hlt]; rfl
        have HF := Lib.hid hf
        clear hf
        obtain ⟨r, hr⟩ : ∃ r : Nat, r = 4294967296 + t := ⟨_, rfl⟩
        rw [← hr] at co HF
        clear hr
        have HG : Hid ((wr.alloc (.cells #[.int .u64 (r : Int), .int .i64 (t : Int), .int .i64 (-1), .int .u64 0, .int .i64 0] 43)).ownsRow w1.heap.size 43 5 u8 t ((four.take t).flatMap cellsT) ∧ Up w1 (wr.alloc (.cells #[.int .u64 (r : Int), .int .i64 (t : Int), .int .i64 (-1), .int .u64 0, .int .i64 0] 43))) := ⟨owns_chg HR.out.1 ((Up.refl wr).alloc _).chg (by simp), HR.out.2.alloc _⟩
        have HN : Hid (t + 1 ≤ maxLen ∧ (t + 1) * 40 ≤ 140737488355328) := ⟨by unfold maxLen; omega, by omega⟩
        go_wp2_with (at_builtin; refine wpList_append_lies _ rfl (.tmp 52) (.tmp 56) 29 rfl w1.heap.size 43 _ (.agg #[.int .u64 0, .int .i64 0, .int .i64 0, .int .u64 0, .int .i64 0]) 5 40 Tryz.underlying29 HIT.out.1 HIT.out.2.1 HIT.out.2.2.1 HIT.out.2.2.2 rfl (by decide) u8 _ ((four.take t).flatMap cellsT) rfl HG.out.1 ⟨wr.heap.size, 0, none⟩ 1 1 [.int .u64 (r : Int), .int .i64 (t : Int), .int .i64 (-1), .int .u64 0, .int .i64 0] rfl rfl (World.news_of_block (cs := #[.int .u64 (r : Int), .int .i64 (t : Int), .int .i64 (-1), .int .u64 0, .int .i64 0]) (t := 43) (fr := (0, 0)) (heap_alloc_new wr _)) (by intro u hu; simp at hu; rcases hu with rfl | rfl | rfl | rfl | rfl <;> rfl) (by decide) HN.out.1 HN.out.2 HG.out.2.size (wr.heap.size + 1) (by simp) ?_; intro g1 gcap1 w9 hown9 hgrow9 hat9 hlt9)
        go_roundw
        case rel =>
          have e9 : (four.take t).flatMap cellsT ++ [.int .u64 (r : Int), .int .i64 (t : Int), .int .i64 (-1), .int .u64 0, .int .i64 0] = (four.take (t + 1)).flatMap cellsT := by
            rw [List.take_add_one, HF.out, List.flatMap_append]
            rfl
          have CU : Chg [] w1 w9 := by
            refine Chg.weak (F := (Value.ownBlock u8).toList) ?_ (fun x hx => .inr (HR.out.1.lt x (by simpa using hx)).1)
            exact (HG.out.2.chg.mono (by simp)).grown hgrow9 (fun b hb => .inl (by simp [hb]))
          rw [e9] at hown9
          exact ⟨t + 1, by omega, by go_num, hown9, CU.up⟩
        case measure => simp [intOf]; omega
    · have hte : t = 4 := by omega
      have e4 : (t : Int) = 4 := by omega
      have hrow := HR.out.1
      rw [hte] at hrow
      rw [e4]
      rw [show four.take 4 = four from rfl] at hrow
      have P0 : Hid (Ps w0 wr q p cb vr v (mk4 bs) none2 L 59 0 u8 four) := by
        refine ⟨H1.out.1.up HR.out.2, owns_base (b' := 0) hrow (Nat.zero_le _), fun b hb => ?_, Ths.start HB0.out.2.2.2.2.2, HB0.out.2.2.2.2.1⟩
        have h1 := (hrow.lt b hb).1
        exact ⟨fun hx => by have := H1.out.1.wr.lt b hx; omega, fun hx => by have := H1.out.1.rw_.lt b hx; omega, Nat.le_trans H1.out.1.bel.size h1⟩
      clear hrow HR H1 hlt hte e4 ht hU
      have HLL : Hid (L.length = n) := HB0.out.2.2.1
      obtain ⟨bs', hbs'⟩ : ∃ x, x = bs := ⟨_, rfl⟩
      go_wp2_with fail
      go_loopw [8, 61] (fun av i wq => ∃ (j : Nat) (v : Nat → Value) (A : Ar) (C : Ca) (L : List Mb) (T : List Th), j ≤ gn ∧ i = .int .i64 (j : Int) ∧ 4 ≤ T.length ∧ T.length ≤ 4 + j ∧ L.length = n ∧ Ps w0 wq q p cb vr v A C L (59 - j) (j : Int) av T) (fun _ i _ => gn - (intOf i).toNat)
      case atStart => exact ⟨0, v, _, _, L, four, by omega, rfl, by decide, by decide, HLL.out, P0.out⟩
      case round =>
        obtain ⟨j, v, A, C, L, T, hj, rfl, hT4, hTj, hLn, hP⟩ := hrel
        clear P0 HLL
        have PP := Lib.hid hP
        clear hP
        by_cases hlt : j < gn
        · obtain ⟨wb, woff, rfl, hwb, hwx⟩ := HW.out.resolve_left (by omega)
          obtain ⟨⟨c0, c1, c2, c3⟩, hgr⟩ := hwx j hlt
          have hUq := Up.trans HB0.out.1 PP.out.st.bel
          have c0 := up_cell hUq c0
          have c1 := up_cell hUq c1
          have c2 := up_cell hUq c2
          have c3 := up_cell hUq c3
          generalize gs j = gx at c0 c1 c2 c3 hgr
          obtain ⟨gm, gt, gw, gd⟩ := gx
          simp only at c0 c1 c2 c3 hgr
          have it0 : (j : Int) < (gn : Int) := by omega
          clear hwx
          go_upto_region 15 with (fail)
          obtain ⟨mm, hmm, hme⟩ := sb.tmod_small (a := gm) (n := n + 1) hgr.1.1 (by omega)
          have hmm1 := Lib.hid hmm
          rw [show ((n + 1 : Nat) : Int) = (n : Int) + 1 by omega] at hme
          have hme2 : gm % ((n : Int) + 1) = (mm : Int) := by rw [← hme, Int.tmod_eq_emod_of_nonneg hgr.1.1]
          obtain ⟨tt, htt⟩ : ∃ tt : Nat, gt % 5 = (tt : Int) := ⟨(gt % 5).toNat, by omega⟩
          have htt2 : gt.tmod 5 = (tt : Int) := by rw [Int.tmod_eq_emod_of_nonneg hgr.2.1.1]; exact htt
          have htt5 : tt < 5 := by omega
          have hw1 : IntKind.i64.wrap ((n : Int) + 1) = (n : Int) + 1 := by rw [IntKind.wrap_i64] <;> omega
          have hw2 : ¬ ((n : Int) + 1 = 0) := by omega
          have hw4 : IntKind.i64.wrap gm = gm := by rw [IntKind.wrap_i64] <;> omega
          have hw5 : IntKind.i64.wrap (tt : Int) = (tt : Int) := by rw [IntKind.wrap_i64] <;> omega
          have hw3 : ((n : Int) + 1 == 0) = false := by simp; omega
          have hB12 := Blk.new wr #[.int .u8 gm, .int .u8 gt, .int .u8 gw, .bool gd] 45
          have hU12 : Up wr (wr.alloc (.cells #[.int .u8 gm, .int .u8 gt, .int .u8 gw, .bool gd] 45)) := (Up.refl wr).alloc _
          clear c0 c1 c2 c3 hUq
          generalize World.alloc wr _ = w12 at hB12 hU12 ⊢
          obtain ⟨g0, c0, g3, c3, e0, e3, n03, n0q, n3q, l0, l3, -⟩ := PP.out.rows (by omega)
          have HG := Lib.hid (And.intro e0 (And.intro e3 (And.intro n03 (And.intro n0q (And.intro n3q (And.intro l0 (And.intro l3 (PP.out.st.rw_.lt q foot_p))))))))
          clear e0 e3 n03 n0q n3q l0 l3
          have NB : Hid (∀ b ∈ cb :: foot p v, b < wr.heap.size) := PP.out.st.wr.lt
          have NG : Hid (∀ b, u8.ownBlock = some b → b < wr.heap.size) := fun b hb => (PP.out.row.lt b hb).2
          generalize hb12 : wr.heap.size = b12 at hB12 HG NB NG ⊢
          clear hb12
          have H12 := Lib.hid (And.intro hB12 hU12)
          clear hB12 hU12
          go_cut [13, 14] from 65 to 75 (fun y z wx => ∃ b13 : Nat, y = .pointer (some ⟨b13, 0, none⟩) ∧ z = .int .i64 (tt : Int) ∧ b12 < b13 ∧ Blk wx b13 #[.int .i64 (mm : Int)] 3 ∧ Up w12 wx)
          case first =>
            as_aux_lemma =>
              have c0 : w12.drew.cell? ⟨b12, 0, none⟩ = some (.int .u8 gm) := up_cell (Up.refl w12).drew (H12.out.1.cell 0)
              have c1 : w12.drew.cell? ⟨b12, 1, none⟩ = some (.int .u8 gt) := up_cell (Up.refl w12).drew (H12.out.1.cell 1)
              refine AnyT.start (S := fun w' => w'.cell? ⟨b12, 0, none⟩ = some (.int .u8 gm) ∧ w'.cell? ⟨b12, 1, none⟩ = some (.int .u8 gt)) 14 (by kernel_rfl) ⟨c0, c1⟩ (fun hHeld => ?_)
              have hUd : Up w12 w12.drew := (Up.refl w12).drew
              generalize World.drew w12 = wd at hUd hHeld c0 c1 ⊢
              refine AnyT.pick (i := 0) (oi := ⟨_, _, _, _, _, _⟩) (v := ?_) rfl (by kernel_rfl) (by kernel_rfl) (by kernel_rfl) (fun _ _ _ h => h) (Or.inl ⟨by rfl, ?y0_1⟩) ?_
              case' y0_1 => ((intro w hSw; go_simp) <;> (with_reducible rfl))
              try simp only [Act.put, List.setIfInBounds_toArray, List.set_cons_zero, List.set_cons_succ]
              refine AnyT.take (i := 1) (oi := ⟨_, _, _, _, _, _⟩) (v := ?_) rfl (by kernel_rfl) (by kernel_rfl) (by kernel_rfl) (by kernel_rfl) (fun _ _ _ h => h) (Or.inl ⟨by rfl, ?y1_2⟩) (by assumption) ?_
              case' y1_2 => ((intro w hSw; (try dsimp only at hSw); go_simp) <;> (with_reducible rfl))
              try simp only [Act.put, List.setIfInBounds_toArray, List.set_cons_zero, List.set_cons_succ]
              refine AnyT.pick (i := 2) (oi := ⟨_, _, _, _, _, _⟩) (v := ?_) rfl (by kernel_rfl) (by kernel_rfl) (by kernel_rfl) (fun _ _ _ h => h) (Or.inl ⟨by rfl, ?y2_3⟩) ?_
              case' y2_3 => ((intro w hSw; go_simp) <;> (with_reducible rfl))
              try simp only [Act.put, List.setIfInBounds_toArray, List.set_cons_zero, List.set_cons_succ]
              refine AnyT.pick (i := 3) (oi := ⟨_, _, _, _, _, _⟩) (v := ?_) rfl (by kernel_rfl) (by kernel_rfl) (by kernel_rfl) (fun _ _ _ h => h) (Or.inl ⟨by rfl, ?y3_4⟩) ?_
              case' y3_4 => ((intro w hSw; go_simp) <;> (with_reducible rfl))
              try simp only [Act.put, List.setIfInBounds_toArray, List.set_cons_zero, List.set_cons_succ]
              refine AnyT.pick (i := 4) (oi := ⟨_, _, _, _, _, _⟩) (v := ?_) rfl (by kernel_rfl) (by kernel_rfl) (by kernel_rfl) (fun _ _ _ h => h) (Or.inl ⟨by rfl, ?y4_5⟩) ?_
              case' y4_5 => ((intro w hSw; go_simp) <;> (with_reducible rfl))
              try simp only [Act.put, List.setIfInBounds_toArray, List.set_cons_zero, List.set_cons_succ]
              refine AnyT.pick (i := 5) (oi := ⟨_, _, _, _, _, _⟩) (v := ?_) rfl (by kernel_rfl) (by kernel_rfl) (by kernel_rfl) (fun _ _ _ h => h) (Or.inl ⟨by rfl, ?y5_6⟩) ?_
              case' y5_6 => ((intro w hSw; go_simp) <;> (with_reducible rfl))
              try simp only [Act.put, List.setIfInBounds_toArray, List.set_cons_zero, List.set_cons_succ]
              refine AnyT.pick (i := 6) (oi := ⟨_, _, _, _, _, _⟩) (v := ?_) rfl (by kernel_rfl) (by kernel_rfl) (by kernel_rfl) (fun _ _ _ h => h) (Or.inl ⟨by rfl, ?y6_7⟩) ?_
              case' y6_7 => ((intro w hSw; go_simp) <;> (with_reducible rfl))
              try simp only [Act.put, List.setIfInBounds_toArray, List.set_cons_zero, List.set_cons_succ]
              refine AnyT.pick (i := 7) (oi := ⟨_, _, _, _, _, _⟩) (v := ?_) rfl (by kernel_rfl) (by kernel_rfl) (by kernel_rfl) (fun _ _ _ h => h) (Or.inl ⟨by rfl, ?y7_8⟩) ?_
              case' y7_8 => ((intro w hSw; go_simp) <;> (with_reducible rfl))
              try simp only [Act.put, List.setIfInBounds_toArray, List.set_cons_zero, List.set_cons_succ]
              refine AnyT.take (i := 8) (oi := ⟨_, _, _, _, _, _⟩) (v := ?_) rfl (by kernel_rfl) (by kernel_rfl) (by kernel_rfl) (by kernel_rfl) (fun _ _ _ h => h) (Or.inl ⟨by rfl, ?y8_9⟩) (by assumption) ?_
              case' y8_9 => ((intro w hSw; (try dsimp only at hSw); go_simp) <;> (with_reducible rfl))
              try simp only [Act.put, List.setIfInBounds_toArray, List.set_cons_zero, List.set_cons_succ]
              refine AnyT.pick (i := 9) (oi := ⟨_, _, _, _, _, _⟩) (v := ?_) rfl (by kernel_rfl) (by kernel_rfl) (by kernel_rfl) (fun _ _ _ h => h) (Or.inl ⟨by rfl, ?y9_10⟩) ?_
              case' y9_10 => ((intro w hSw; go_simp) <;> (with_reducible rfl))
              try simp only [Act.put, List.setIfInBounds_toArray, List.set_cons_zero, List.set_cons_succ]
              refine AnyT.pick (i := 10) (oi := ⟨_, _, _, _, _, _⟩) (v := ?_) rfl (by kernel_rfl) (by kernel_rfl) (by kernel_rfl) (fun _ _ _ h => h) (Or.inl ⟨by rfl, ?y10_11⟩) ?_
              case' y10_11 => ((intro w hSw; go_simp) <;> (with_reducible rfl))
              try simp only [Act.put, List.setIfInBounds_toArray, List.set_cons_zero, List.set_cons_succ]
              refine AllT.go (rs := [11]) (by kernel_rfl) (by simp) ?_
              refine AllT.early (o := ⟨_, _, _, _, _, _⟩) rfl (fun K hK => ?_) ?_
              · go_simp
                refine hK.out _ _ ⟨up_cell ((Up.refl wd).alloc _) c0, up_cell ((Up.refl wd).alloc _) c1⟩ (fun _ => ?_)
                clear hK K hHeld
                try simp only [Act.put, List.setIfInBounds_toArray, List.set_cons_zero, List.set_cons_succ]
                refine AllT.go (rs := [12]) (by kernel_rfl) (by simp) ?_
                refine AllT.early (o := ⟨_, _, _, _, _, _⟩) rfl (fun K hK => ?_) ?_
                · go_simp
                  refine hK.out _ _ (by constructor <;> first | exact up_cell (((Up.refl wd).alloc _).setCell (p := ⟨wd.heap.size, 0, none⟩) (Nat.le_refl _) _) (by assumption) | exact up_cell ((Up.refl wd).alloc _) (by assumption)) (fun _ => ?_)
                  clear hK K
                  try simp only [Act.put, List.setIfInBounds_toArray, List.set_cons_zero, List.set_cons_succ]
                  refine AnyT.pick (i := 13) (oi := ⟨_, _, _, _, _, _⟩) (v := ?_) rfl (by kernel_rfl) (by kernel_rfl) (by kernel_rfl) (fun _ _ _ h => h) (Or.inl ⟨by rfl, ?y13_12⟩) ?_
                  case' y13_12 => ((intro w hSw; go_simp) <;> (with_reducible rfl))
                  try simp only [Act.put, List.setIfInBounds_toArray, List.set_cons_zero, List.set_cons_succ]
                  refine AnyT.done (by kernel_rfl) ?_ _
                  go_wp2_with fail
                  go_meet
                  exact ⟨wd.heap.size, rfl, rfl, Nat.lt_of_lt_of_le H12.out.1.lt hUd.size, Blk.new wd #[.int .i64 (mm : Int)] 3, hUd.alloc _⟩
                exact AllT.nil
              exact AllT.nil
          case rest =>
            obtain ⟨b13, rfl, rfl, hb13, hB13, hU13⟩ := hcut
            obtain ⟨w13, e13⟩ : ∃ x, x = wc := ⟨_, rfl⟩
            subst e13
            have HGE := Lib.hid hb13
            clear hb13
            have P3 : Hid (Ps w0 w13 q p cb vr v A C L (59 - j) (j : Int) u8 T) := PP.out.up (Up.trans H12.out.2 hU13)
            have g12 : Hid (Blk w13 b12 #[.int .u8 gm, .int .u8 gt, .int .u8 gw, .bool gd] 45) := H12.out.1.chg hU13.chg (by simp)
            have H13 := Lib.hid hB13
            clear hB13 hU13 H12 PP hme hme2 htt htt2 hw1 hw2 hw3 hw4 hw5
            have d13 : w13.cell? ⟨b13, 0, none⟩ = some (.int .i64 (mm : Int)) := H13.out.cell 0
            have d2 : w13.cell? ⟨b12, 2, none⟩ = some (.int .u8 gw) := g12.out.cell 2
            have d3 : w13.cell? ⟨b12, 3, none⟩ = some (.bool gd) := g12.out.cell 3
            by_cases hdie : gd = true ∧ gw % 4 = 0 ∧ mm < n
            · as_aux_lemma =>
                obtain ⟨rfl, hw4, hmn⟩ := hdie
                have hw4' : gw.tmod 4 = 0 := by rw [Int.tmod_eq_emod_of_nonneg hgr.2.2.1]; exact hw4
                have hmn' : (mm : Int) < (n : Int) := by omega
                have hmd : decide ((mm : Int) < (n : Int)) = true := decide_eq_true hmn'
                go_upto_region 17 with (fail)
                clear hgr hw4 hw4' hmd d2 d3 g12
                obtain ⟨e0, e3, n03, n0q, n3q, l0, l3, lq⟩ := HG.out
                have lb := HGE.out
                have hLp : mm < L.length := by omega
                obtain ⟨_, _, _, _, e0', e3', -, -, -, -, -, hrows⟩ := P3.out.rows (by omega)
                rw [e0] at e0'
                rw [e3] at e3'
                cases e0'
                cases e3'
                obtain ⟨s, hs⟩ : ∃ s, L[mm]? = some s := ⟨_, List.getElem?_eq_getElem hLp⟩
                obtain ⟨k0, k0f, k3, k3f⟩ := hrows mm s hs
                have nb0 : g0 ≠ b13 := by omega
                have q2 : w13.cell? ⟨q, 2, none⟩ = some (vr 0) := (P3.out.st.rw_.cell 0 (by decide)).1
                have q5 : w13.cell? ⟨q, 5, none⟩ = some (vr 3) := (P3.out.st.rw_.cell 3 (by decide)).1
                rw [e0] at q2
                rw [e3] at q5
                have P4 : Hid (Ps w0 w13.drew q p cb vr v A C L (59 - j) (j : Int) u8 T) := P3.out.up (Up.refl w13).drew
                have hLi : (mm : Int) < (L.length : Int) := by omega
                have HE := Lib.hid (And.intro e0 (And.intro e3 hLp))
                clear hrows hs e0 e3 l0 l3 lq lb hLp
                replace k0 : w13.drew.cell? ⟨g0, mm * 3 + 2, none⟩ = some (.bool s.2.2) := k0
                replace k0f : w13.drew.frozen? ⟨g0, mm * 3 + 2, none⟩ = false := k0f
                replace k3 : w13.drew.cell? ⟨g3, mm, none⟩ = some (.bool s.2.2) := k3
                replace k3f : w13.drew.frozen? ⟨g3, mm, none⟩ = false := k3f
                have HS : Hid (w13.drew.cell? ⟨q, 2, none⟩ = some (.slice (some ⟨g0, 0, none⟩) L.length c0) ∧ w13.drew.cell? ⟨q, 5, none⟩ = some (.slice (some ⟨g3, 0, none⟩) L.length c3) ∧ w13.drew.cell? ⟨b13, 0, none⟩ = some (.int .i64 (mm : Int))) := ⟨q2, q5, d13⟩
                refine AnyT.start (S := fun w' => w'.cell? ⟨q, 2, none⟩ = some (.slice (some ⟨g0, 0, none⟩) L.length c0) ∧ w'.cell? ⟨q, 5, none⟩ = some (.slice (some ⟨g3, 0, none⟩) L.length c3) ∧ w'.cell? ⟨b13, 0, none⟩ = some (.int .i64 (mm : Int))) 14 (by kernel_rfl) HS.out (fun hHeld => ?_)
                generalize World.drew w13 = wd at P4 HS k0 k0f k3 k3f hHeld ⊢
                refine AnyT.pick (i := 0) (oi := ⟨_, _, _, _, _, _⟩) (v := ?_) rfl (by kernel_rfl) (by kernel_rfl) (by kernel_rfl) (fun _ _ _ h => h) (Or.inl ⟨by rfl, ?y0_13⟩) ?_
                case' y0_13 => ((intro w hSw; go_simp) <;> (with_reducible rfl))
                try simp only [Act.put, List.setIfInBounds_toArray, List.set_cons_zero, List.set_cons_succ]
                refine AnyT.pick (i := 1) (oi := ⟨_, _, _, _, _, _⟩) (v := ?_) rfl (by kernel_rfl) (by kernel_rfl) (by kernel_rfl) (fun _ _ _ h => h) (Or.inl ⟨by rfl, ?y1_14⟩) ?_
                case' y1_14 => ((intro w hSw; go_simp) <;> (with_reducible rfl))
                try simp only [Act.put, List.setIfInBounds_toArray, List.set_cons_zero, List.set_cons_succ]
                refine AnyT.pick (i := 2) (oi := ⟨_, _, _, _, _, _⟩) (v := ?_) rfl (by kernel_rfl) (by kernel_rfl) (by kernel_rfl) (fun _ _ _ h => h) (Or.inl ⟨by rfl, ?y2_15⟩) ?_
                case' y2_15 => ((intro w hSw; go_simp) <;> (with_reducible rfl))
                try simp only [Act.put, List.setIfInBounds_toArray, List.set_cons_zero, List.set_cons_succ]
                refine AnyT.take (i := 3) (oi := ⟨_, _, _, _, _, _⟩) (v := ?_) rfl (by kernel_rfl) (by kernel_rfl) (by kernel_rfl) (by kernel_rfl) (fun _ _ _ h => h) (Or.inl ⟨by rfl, ?y3_16⟩) (by assumption) ?_
                case' y3_16 => ((intro w hSw; (try dsimp only at hSw); go_simp) <;> (with_reducible rfl))
                try simp only [Act.put, List.setIfInBounds_toArray, List.set_cons_zero, List.set_cons_succ]
                refine AnyT.take (i := 4) (oi := ⟨_, _, _, _, _, _⟩) (v := ?_) rfl (by kernel_rfl) (by kernel_rfl) (by kernel_rfl) (by kernel_rfl) (fun _ _ _ h => h) (Or.inl ⟨by rfl, ?y4_17⟩) (by assumption) ?_
                case' y4_17 => ((intro w hSw; (try dsimp only at hSw); go_simp) <;> (with_reducible rfl))
                try simp only [Act.put, List.setIfInBounds_toArray, List.set_cons_zero, List.set_cons_succ]
                refine AnyT.pick (i := 5) (oi := ⟨_, _, _, _, _, _⟩) (v := ?_) rfl (by kernel_rfl) (by kernel_rfl) (by kernel_rfl) (fun _ _ _ h => h) (Or.inl ⟨by rfl, ?y5_18⟩) ?_
                case' y5_18 => ((intro w hSw; go_simp) <;> (with_reducible rfl))
                try simp only [Act.put, List.setIfInBounds_toArray, List.set_cons_zero, List.set_cons_succ]
                refine AnyT.pick (i := 6) (oi := ⟨_, _, _, _, _, _⟩) (v := ?_) rfl (by kernel_rfl) (by kernel_rfl) (by kernel_rfl) (fun _ _ _ h => h) (Or.inl ⟨by rfl, ?y6_19⟩) ?_
                case' y6_19 => ((intro w hSw; go_simp) <;> (with_reducible rfl))
                try simp only [Act.put, List.setIfInBounds_toArray, List.set_cons_zero, List.set_cons_succ]
                refine AnyT.pick (i := 7) (oi := ⟨_, _, _, _, _, _⟩) (v := ?_) rfl (by kernel_rfl) (by kernel_rfl) (by kernel_rfl) (fun _ _ _ h => h) (Or.inl ⟨by rfl, ?y7_20⟩) ?_
                case' y7_20 => ((intro w hSw; go_simp) <;> (with_reducible rfl))
                try simp only [Act.put, List.setIfInBounds_toArray, List.set_cons_zero, List.set_cons_succ]
                refine AnyT.take (i := 8) (oi := ⟨_, _, _, _, _, _⟩) (v := ?_) rfl (by kernel_rfl) (by kernel_rfl) (by kernel_rfl) (by kernel_rfl) (fun _ _ _ h => h) (Or.inl ⟨by rfl, ?y8_21⟩) (by assumption) ?_
                case' y8_21 => ((intro w hSw; (try dsimp only at hSw); go_simp) <;> (with_reducible rfl))
                try simp only [Act.put, List.setIfInBounds_toArray, List.set_cons_zero, List.set_cons_succ]
                refine AnyT.take (i := 9) (oi := ⟨_, _, _, _, _, _⟩) (v := ?_) rfl (by kernel_rfl) (by kernel_rfl) (by kernel_rfl) (by kernel_rfl) (fun _ _ _ h => h) (Or.inl ⟨by rfl, ?y9_22⟩) (by assumption) ?_
                case' y9_22 => ((intro w hSw; (try dsimp only at hSw); go_simp) <;> (with_reducible rfl))
                try simp only [Act.put, List.setIfInBounds_toArray, List.set_cons_zero, List.set_cons_succ]
                refine AnyT.pick (i := 10) (oi := ⟨_, _, _, _, _, _⟩) (v := ?_) rfl (by kernel_rfl) (by kernel_rfl) (by kernel_rfl) (fun _ _ _ h => h) (Or.inl ⟨by rfl, ?y10_23⟩) ?_
                case' y10_23 => ((intro w hSw; go_simp) <;> (with_reducible rfl))
                try simp only [Act.put, List.setIfInBounds_toArray, List.set_cons_zero, List.set_cons_succ]
                refine AnyT.pick (i := 11) (oi := ⟨_, _, _, _, _, _⟩) (v := ?_) rfl (by kernel_rfl) (by kernel_rfl) (by kernel_rfl) (fun _ _ _ h => h) (Or.inl ⟨by rfl, ?y11_24⟩) ?_
                case' y11_24 => ((intro w hSw; go_simp) <;> (with_reducible rfl))
                try simp only [Act.put, List.setIfInBounds_toArray, List.set_cons_zero, List.set_cons_succ]
                refine AllT.go (rs := [12]) (by kernel_rfl) (by simp) ?_
                refine AllT.early (o := ⟨_, _, _, _, _, _⟩) rfl (fun K hK => ?_) ?_
                · go_simp
                  refine hK.out _ _ (by obtain ⟨z0, z1, z2⟩ := HS.out; exact ⟨(set_out (by simpa using n0q)).trans z0, (set_out (by simpa using n0q)).trans z1, (set_out (by simpa using nb0)).trans z2⟩) (fun _ => ?_)
                  clear hK K hHeld
                  try simp only [Act.put, List.setIfInBounds_toArray, List.set_cons_zero, List.set_cons_succ]
                  refine AnyT.pick (i := 13) (oi := ⟨_, _, _, _, _, _⟩) (v := ?_) rfl (by kernel_rfl) (by kernel_rfl) (by kernel_rfl) (fun _ _ _ h => h) (Or.inl ⟨by rfl, ?y13_25⟩) ?_
                  case' y13_25 => ((intro w hSw; go_simp) <;> (with_reducible rfl))
                  try simp only [Act.put, List.setIfInBounds_toArray, List.set_cons_zero, List.set_cons_succ]
                  refine AllT.go (rs := [14]) (by kernel_rfl) (by simp) ?_
                  refine AllT.late (o := ⟨_, _, _, _, _, _⟩) rfl (by decide) (fun K hK => ?_) ?_
                  · go_simp
                    refine hK.out _ _ trivial (fun _ => ?_)
                    clear hK K
                    try simp only [Act.put, List.setIfInBounds_toArray, List.set_cons_zero, List.set_cons_succ]
                    refine AnyT.done (by kernel_rfl) ?_ _
                    go_wp2_with fail
                    go_roundw
                    case rel => exact ⟨j + 1, v, A, C, mb.kill L mm, T, by omega, by go_num, hT4, by omega, by rw [kill_len]; exact hLn, (P4.out.die HE.out.1 HE.out.2.1 HE.out.2.2).less (by omega) (by omega)⟩
                    case measure => simp [intOf]; omega
                  exact AllT.nil
                exact AllT.nil
            · have HD := Lib.hid hdie
              clear hdie
              go_upto_region 16 with (fail)
              go_cut [89] from 76 to 88 (fun x wx => x = .bool false ∧ Up w13 wx)
              case first =>
                as_aux_lemma =>
                  cases gd
                  · go_wp2_with fail
                    go_meet
                    exact ⟨rfl, Up.refl _⟩
                  · by_cases h4 : gw % 4 = 0
                    · have h4' : gw.tmod 4 = 0 := by rw [Int.tmod_eq_emod_of_nonneg hgr.2.2.1]; exact h4
                      have hmn : ¬ mm < n := fun h => HD.out ⟨rfl, h4, h⟩
                      have hmn' : ¬ (mm : Int) < (n : Int) := by omega
                      have hmd : decide ((mm : Int) < (n : Int)) = false := decide_eq_false hmn'
                      go_wp2_with fail
                      go_meet
                      exact ⟨rfl, Up.refl _⟩
                    · have h4' : ¬ gw.tmod 4 = 0 := by rw [Int.tmod_eq_emod_of_nonneg hgr.2.2.1]; exact h4
                      have h4a : (gw.tmod 4 == 0) = false := beq_eq_false_iff_ne.2 h4'
                      have h4b : (gw % 4 == 0) = false := beq_eq_false_iff_ne.2 h4
                      have h4c : decide (gw.tmod 4 = 0) = false := decide_eq_false h4'
                      have h4d : decide (gw % 4 = 0) = false := decide_eq_false h4
                      go_wp2_with fail
                      go_meet
                      exact ⟨rfl, Up.refl _⟩
              case rest =>
                as_aux_lemma =>
                  obtain ⟨rfl, hU14⟩ := hcut
                  obtain ⟨w14, e14⟩ : ∃ x, x = wc := ⟨_, rfl⟩
                  subst e14
                  obtain ⟨kk, hkk⟩ : ∃ kk, 59 - j = kk + 1 := ⟨58 - j, by omega⟩
                  have HK : Hid (59 - (j + 1) = kk ∧ ((j + 1 : Nat) : Int) = (j : Int) + 1) := ⟨by omega, by omega⟩
                  rw [hkk] at P3
                  clear hkk
                  have P14 := Lib.hid (P3.out.up hU14)
                  have B13 := Lib.hid (H13.out.chg hU14.chg (by simp))
                  have dw : w14.cell? ⟨b12, 2, none⟩ = some (.int .u8 gw) := (g12.out.chg hU14.chg (by simp)).cell 2
                  have HGQ : Hid (q < b12) := HG.out.2.2.2.2.2.2.2
                  clear HD P3 g12 H13 d13 d2 d3 hU14 HG
                  obtain ⟨xi, hxi, hxe⟩ := sb.tmod_small (a := gw) (n := T.length) hgr.2.2.1 (by omega)
                  have hxe2 : gw % (T.length : Int) = (xi : Int) := by rw [← hxe, Int.tmod_eq_emod_of_nonneg hgr.2.2.1]
                  have hT0 : ¬ ((T.length : Int) = 0) := by omega
                  have hT1 : ((T.length : Int) == 0) = false := beq_eq_false_iff_ne.2 hT0
                  have hw4 : IntKind.i64.wrap gw = gw := by rw [IntKind.wrap_i64] <;> omega
                  have hw6 : IntKind.i64.wrap (xi : Int) = (xi : Int) := by rw [IntKind.wrap_i64] <;> omega
                  obtain ⟨x, hx⟩ : ∃ x, T[xi]? = some x := ⟨_, List.getElem?_eq_getElem hxi⟩
                  have hxm := List.mem_of_getElem? hx
                  obtain ⟨a8, c8, rfl, hal⟩ := ths_of P14.out.row
                  obtain ⟨g8, rfl, hg8, hxs⟩ := hal.resolve_left (by omega)
                  obtain ⟨t0, t1, t2, t3, t4⟩ := hxs xi x hx
                  have hxl : (xi : Int) < (T.length : Int) := by omega
                  have HXM := Lib.hid hxm
                  have HTJ : Hid (4 ≤ T.length ∧ T.length ≤ 4 + j ∧ L.length = n ∧ j < gn) := ⟨hT4, hTj, hLn, hlt⟩
                  clear hxs hal hx hxm hT4 hTj
                  go_upto_region 19 with (fail)
                  clear t0 t1 t2 t3 t4 dw hxe hxe2 hT0 hT1 hw4 hw6 hxl hxi hg8 hgr hmm it0 hlt
                  have hB15 := Blk.new w14 #[.int .u64 (x.r : Int), .int .i64 x.owner, .int .i64 x.m, .int .u64 (x.target : Int), .int .i64 x.deep] 43
                  have hU15 : Up w14 (w14.alloc (.cells #[.int .u64 (x.r : Int), .int .i64 x.owner, .int .i64 x.m, .int .u64 (x.target : Int), .int .i64 x.deep] 43)) := (Up.refl w14).alloc _
                  generalize World.alloc w14 _ = w15 at hB15 hU15 ⊢
                  have NX : Hid (b13 < w14.heap.size) := B13.out.lt
                  generalize w14.heap.size = b15 at hB15 NX ⊢
                  have P15 := Lib.hid (P14.out.up hU15)
                  have B15 := Lib.hid hB15
                  have C13 := Lib.hid (B13.out.chg hU15.chg (by simp))
                  clear P14 B13 hB15 hU15
                  have N3 : Hid (q ∉ cb :: foot p v ∧ b13 ∉ cb :: foot p v ∧ b15 ∉ cb :: foot p v ∧ b5 ∉ cb :: foot p v) :=
                    ⟨P15.out.st.dj q foot_p, fun h => by have := NB.out b13 h; have := HGE.out; omega, fun h => by have := NB.out b15 h; have := HGE.out; have := NX.out; omega, fun h => by have := P15.out.st.f2 b5 h; have := HB0.out.2.1.1; omega⟩
                  have HP0 : Hid (∀ w', Up w15 w' → HeldP q p cb (vr 0) b13 b15 (mm : Int) (x.r : Int) w') := fun w' u => HeldP.up ⟨P15.out.st.rw_.hd.cell 2, P15.out.st.rw_.hd.cell 0, P15.out.st.rw_.hd.cell 1, C13.out.cell 0, B15.out.cell 0⟩ u
                  have HP1 : Hid (∀ w', Chg (cb :: foot p v) w15 w' → HeldP q p cb (vr 0) b13 b15 (mm : Int) (x.r : Int) w') := fun w' c => (HP0.out w15 (Up.refl _)).chg c N3.out.1 N3.out.2.1 N3.out.2.2.1
                  have HRL : Hid (x.r < 9223372036854775808) := name_of P15.out.th P15.out.st.wr.rm HXM.out
                  have OX := Lib.hid (object_x x.r HRL.out)
                  simp only [val] at OX
                  have hLp : Hid (0 < L.length) := by show 0 < L.length; have h1 := HTJ.out.2.2.1; omega
                  obtain ⟨⟨⟨r1, r2, r3⟩, re, RA, RC⟩, hR⟩ : ∃ R : Res, R = ansT L C A (mm : Int) (tt : Int) x := ⟨_, rfl⟩
                  have HR := Lib.hid hR
                  have HMM : Hid (mm ≤ n ∧ (Lit.int .i64 (mm : Int)).wf = true) := by
                    have h1 := hmm1.out
                    exact ⟨by omega, wf_i64 (by omega)⟩
                  have PX := Lib.hid (fun wx (u : Up w15 wx) => mid_t P15.out.st P15.out.th hLp.out (by omega) HMM.out.2 HXM.out wx u _ hR)
                  simp only [val] at PX
                  clear hR
                  go_cut [16, 17] from 112 to 132 (fun y z wx => ∃ (b16 : Nat) (v' : Nat → Value), y = .pointer (some ⟨b16, 0, none⟩) ∧ z = .int .i64 re ∧ Mt w0 w15 wx q p cb vr v v' ⟨(r1, r2, r3), re, RA, RC⟩ L kk ((j : Int) + 1) b16)
                  case first =>
                    as_aux_lemma =>
                      refine AnyT.start (S := fun w' => w'.cell? ⟨q, 2, none⟩ = some (vr 0) ∧ w'.cell? ⟨q, 0, none⟩ = some (.pointer (some ⟨p, 0, none⟩)) ∧ w'.cell? ⟨q, 1, none⟩ = some (.map (some cb)) ∧ w'.cell? ⟨b13, 0, none⟩ = some (.int .i64 (mm : Int)) ∧ w'.cell? ⟨b15, 0, none⟩ = some (.int .u64 (x.r : Int))) 22 (by kernel_rfl) (HP0.out _ (Up.refl w15).drew) (fun hHeld => ?_)
                      have hUd : Up w15 w15.drew := (Up.refl w15).drew
                      generalize World.drew w15 = wd at hUd hHeld ⊢
                      refine AnyT.pick (i := 0) (oi := ⟨_, _, _, _, _, _⟩) (v := ?_) rfl (by kernel_rfl) (by kernel_rfl) (by kernel_rfl) (fun _ _ _ h => h) (Or.inl ⟨by rfl, ?y0_26⟩) ?_
                      case' y0_26 => ((intro w hSw; go_simp) <;> (with_reducible rfl))
                      try simp only [Act.put, List.setIfInBounds_toArray, List.set_cons_zero, List.set_cons_succ]
                      refine AnyT.pick (i := 1) (oi := ⟨_, _, _, _, _, _⟩) (v := ?_) rfl (by kernel_rfl) (by kernel_rfl) (by kernel_rfl) (fun _ _ _ h => h) (Or.inl ⟨by rfl, ?y1_27⟩) ?_
                      case' y1_27 => ((intro w hSw; go_simp) <;> (with_reducible rfl))
                      try simp only [Act.put, List.setIfInBounds_toArray, List.set_cons_zero, List.set_cons_succ]
                      refine AnyT.pick (i := 2) (oi := ⟨_, _, _, _, _, _⟩) (v := ?_) rfl (by kernel_rfl) (by kernel_rfl) (by kernel_rfl) (fun _ _ _ h => h) (Or.inl ⟨by rfl, ?y2_28⟩) ?_
                      case' y2_28 => ((intro w hSw; go_simp) <;> (with_reducible rfl))
                      try simp only [Act.put, List.setIfInBounds_toArray, List.set_cons_zero, List.set_cons_succ]
                      refine AnyT.take (i := 3) (oi := ⟨_, _, _, _, _, _⟩) (v := ?_) rfl (by kernel_rfl) (by kernel_rfl) (by kernel_rfl) (by kernel_rfl) (fun _ _ _ h => h) (Or.inl ⟨by rfl, ?y3_29⟩) (by assumption) ?_
                      case' y3_29 => ((intro w hSw; (try dsimp only at hSw); go_simp) <;> (with_reducible rfl))
                      try simp only [Act.put, List.setIfInBounds_toArray, List.set_cons_zero, List.set_cons_succ]
                      refine AnyT.pick (i := 4) (oi := ⟨_, _, _, _, _, _⟩) (v := ?_) rfl (by kernel_rfl) (by kernel_rfl) (by kernel_rfl) (fun _ _ _ h => h) (Or.inl ⟨by rfl, ?y4_30⟩) ?_
                      case' y4_30 => ((intro w hSw; go_simp) <;> (with_reducible rfl))
                      try simp only [Act.put, List.setIfInBounds_toArray, List.set_cons_zero, List.set_cons_succ]
                      refine AnyT.pick (i := 5) (oi := ⟨_, _, _, _, _, _⟩) (v := ?_) rfl (by kernel_rfl) (by kernel_rfl) (by kernel_rfl) (fun _ _ _ h => h) (Or.inl ⟨by rfl, ?y5_31⟩) ?_
                      case' y5_31 => ((intro w hSw; go_simp) <;> (with_reducible rfl))
                      try simp only [Act.put, List.setIfInBounds_toArray, List.set_cons_zero, List.set_cons_succ]
                      refine AnyT.pick (i := 6) (oi := ⟨_, _, _, _, _, _⟩) (v := ?_) rfl (by kernel_rfl) (by kernel_rfl) (by kernel_rfl) (fun _ _ _ h => h) (Or.inl ⟨by rfl, ?y6_32⟩) ?_
                      case' y6_32 => ((intro w hSw; go_simp) <;> (with_reducible rfl))
                      try simp only [Act.put, List.setIfInBounds_toArray, List.set_cons_zero, List.set_cons_succ]
                      refine AnyT.take (i := 7) (oi := ⟨_, _, _, _, _, _⟩) (v := ?_) rfl (by kernel_rfl) (by kernel_rfl) (by kernel_rfl) (by kernel_rfl) (fun _ _ _ h => h) (Or.inl ⟨by rfl, ?y7_33⟩) (by assumption) ?_
                      case' y7_33 => ((intro w hSw; (try dsimp only at hSw); go_simp) <;> (with_reducible rfl))
                      try simp only [Act.put, List.setIfInBounds_toArray, List.set_cons_zero, List.set_cons_succ]
                      refine AnyT.pick (i := 8) (oi := ⟨_, _, _, _, _, _⟩) (v := ?_) rfl (by kernel_rfl) (by kernel_rfl) (by kernel_rfl) (fun _ _ _ h => h) (Or.inl ⟨by rfl, ?y8_34⟩) ?_
                      case' y8_34 => ((intro w hSw; go_simp) <;> (with_reducible rfl))
                      try simp only [Act.put, List.setIfInBounds_toArray, List.set_cons_zero, List.set_cons_succ]
                      refine AnyT.pick (i := 9) (oi := ⟨_, _, _, _, _, _⟩) (v := ?_) rfl (by kernel_rfl) (by kernel_rfl) (by kernel_rfl) (fun _ _ _ h => h) (Or.inl ⟨by rfl, ?y9_35⟩) ?_
                      case' y9_35 => ((intro w hSw; go_simp) <;> (with_reducible rfl))
                      try simp only [Act.put, List.setIfInBounds_toArray, List.set_cons_zero, List.set_cons_succ]
                      refine AnyT.pick (i := 10) (oi := ⟨_, _, _, _, _, _⟩) (v := ?_) rfl (by kernel_rfl) (by kernel_rfl) (by kernel_rfl) (fun _ _ _ h => h) (Or.inl ⟨by rfl, ?y10_36⟩) ?_
                      case' y10_36 => ((intro w hSw; go_simp) <;> (with_reducible rfl))
                      try simp only [Act.put, List.setIfInBounds_toArray, List.set_cons_zero, List.set_cons_succ]
                      refine AnyT.take (i := 11) (oi := ⟨_, _, _, _, _, _⟩) (v := ?_) rfl (by kernel_rfl) (by kernel_rfl) (by kernel_rfl) (by kernel_rfl) (fun _ _ _ h => h) (Or.inl ⟨by rfl, ?y11_37⟩) (by assumption) ?_
                      case' y11_37 => ((intro w hSw; (try dsimp only at hSw); go_simp) <;> (with_reducible rfl))
                      try simp only [Act.put, List.setIfInBounds_toArray, List.set_cons_zero, List.set_cons_succ]
                      refine AnyT.take (i := 12) (oi := ⟨_, _, _, _, _, _⟩) (v := ?_) rfl (by kernel_rfl) (by kernel_rfl) (by kernel_rfl) (by kernel_rfl) (fun _ _ _ h => h) (Or.inl ⟨by rfl, ?y12_38⟩) (by assumption) ?_
                      case' y12_38 => ((intro w hSw; (try dsimp only at hSw); go_simp) <;> (with_reducible rfl))
                      try simp only [Act.put, List.setIfInBounds_toArray, List.set_cons_zero, List.set_cons_succ]
                      refine AnyT.pick (i := 13) (oi := ⟨_, _, _, _, _, _⟩) (v := ?_) rfl (by kernel_rfl) (by kernel_rfl) (by kernel_rfl) (fun _ _ _ h => h) (Or.inl ⟨by rfl, ?y13_39⟩) ?_
                      case' y13_39 => ((intro w hSw; go_simp) <;> (with_reducible rfl))
                      try simp only [Act.put, List.setIfInBounds_toArray, List.set_cons_zero, List.set_cons_succ]
                      refine AnyT.pick (i := 14) (oi := ⟨_, _, _, _, _, _⟩) (v := ?_) rfl (by kernel_rfl) (by kernel_rfl) (by kernel_rfl) (fun _ _ _ h => h) (Or.inl ⟨by rfl, ?y14_40⟩) ?_
                      case' y14_40 => ((intro w hSw; go_simp) <;> (with_reducible rfl))
                      try simp only [Act.put, List.setIfInBounds_toArray, List.set_cons_zero, List.set_cons_succ]
                      refine AnyT.take (i := 15) (oi := ⟨_, _, _, _, _, _⟩) (v := ?_) rfl (by kernel_rfl) (by kernel_rfl) (by kernel_rfl) (by kernel_rfl) (fun _ _ _ h => h) (Or.inl ⟨by rfl, ?y15_41⟩) (by assumption) ?_
                      case' y15_41 => ((intro w hSw; (try dsimp only at hSw); go_simp) <;> (with_reducible rfl))
                      try simp only [Act.put, List.setIfInBounds_toArray, List.set_cons_zero, List.set_cons_succ]
                      refine AllT.go (rs := [16, 21]) (by kernel_rfl) (by simp) ?_
                      refine AllT.early (o := ⟨_, _, _, _, _, _⟩) rfl (fun K hK => ?_) ?_
                      · go_simp
                        go_at_call 10
                        refine (OX.out _).mono ?_
                        rintro e w1o ⟨rfl, rfl⟩
                        refine hK.out _ _ (HP0.out _ (hUd.alloc _)) (fun _ => ?_)
                        clear hK K
                        have hUo : Up w15 (wd.alloc (.cells #[.int .u8 5, .int .i64 (x.r : Int), .string ⟨#[]⟩] 51)) := hUd.alloc _
                        generalize World.alloc wd _ = wo at hUo ⊢
                        try simp only [Act.put, List.setIfInBounds_toArray, List.set_cons_zero, List.set_cons_succ]
                        clear hHeld
                        refine AllT.go (rs := [17, 21]) (by kernel_rfl) (by simp) ?_
                        refine AllT.early (o := ⟨_, _, _, _, _, _⟩) rfl (fun K hK => ?_) ?_
                        · go_simp
                          go_at_call 9
                          refine (PX.out _ hUo).mono ?_
                          rintro e wp ⟨v', rfl, hAf, hBf, hCg⟩
                          refine hK.out _ _ (HP1.out _ hCg) (fun _ => ?_)
                          clear hK K
                          try simp only [Act.put, List.setIfInBounds_toArray, List.set_cons_zero, List.set_cons_succ]
                          refine AnyT.pick (i := 18) (oi := ⟨_, _, _, _, _, _⟩) (v := ?_) rfl (by kernel_rfl) (by kernel_rfl) (by kernel_rfl) (fun _ _ _ h => h) (Or.inl ⟨by rfl, ?y18_42⟩) ?_
                          case' y18_42 => ((intro w hSw; go_simp) <;> (with_reducible rfl))
                          try simp only [Act.put, List.setIfInBounds_toArray, List.set_cons_zero, List.set_cons_succ]
                          refine AnyT.pick (i := 19) (oi := ⟨_, _, _, _, _, _⟩) (v := ?_) rfl (by kernel_rfl) (by kernel_rfl) (by kernel_rfl) (fun _ _ _ h => h) (Or.inl ⟨by rfl, ?y19_43⟩) ?_
                          case' y19_43 => ((intro w hSw; go_simp) <;> (with_reducible rfl))
                          try simp only [Act.put, List.setIfInBounds_toArray, List.set_cons_zero, List.set_cons_succ]
                          refine AnyT.pick (i := 20) (oi := ⟨_, _, _, _, _, _⟩) (v := ?_) rfl (by kernel_rfl) (by kernel_rfl) (by kernel_rfl) (fun _ _ _ h => h) (Or.inl ⟨by rfl, ?y20_44⟩) ?_
                          case' y20_44 => ((intro w hSw; go_simp) <;> (with_reducible rfl))
                          try simp only [Act.put, List.setIfInBounds_toArray, List.set_cons_zero, List.set_cons_succ]
                          refine AllT.go (rs := [21]) (by kernel_rfl) (by simp) ?_
                          refine AllT.early (o := ⟨_, _, _, _, _, _⟩) rfl (fun K hK => ?_) ?_
                          · go_simp
                            refine hK.out _ _ (HP1.out _ (hCg.alloc _)) (fun _ => ?_)
                            clear hK K
                            try simp only [Act.put, List.setIfInBounds_toArray, List.set_cons_zero, List.set_cons_succ]
                            refine AllT.go (rs := [22]) (by kernel_rfl) (by simp) ?_
                            refine AllT.late (o := ⟨_, _, _, _, _, _⟩) rfl (by decide) (fun K hK => ?_) ?_
                            · go_simp
                              refine hK.out _ _ trivial (fun _ => ?_)
                              clear hK K
                              try simp only [Act.put, List.setIfInBounds_toArray, List.set_cons_zero, List.set_cons_succ]
                              refine AnyT.pick (i := 23) (oi := ⟨_, _, _, _, _, _⟩) (v := ?_) rfl (by kernel_rfl) (by kernel_rfl) (by kernel_rfl) (fun _ _ _ h => h) (Or.inl ⟨by rfl, ?y23_45⟩) ?_
                              case' y23_45 => ((intro w hSw; go_simp) <;> (with_reducible rfl))
                              try simp only [Act.put, List.setIfInBounds_toArray, List.set_cons_zero, List.set_cons_succ]
                              refine AnyT.done (by kernel_rfl) ?_ _
                              go_wp2_with fail
                              go_meet
                              exact ⟨wp.heap.size, v', rfl, rfl, hAf _⟩
                            exact AllT.nil
                          exact AllT.nil
                        refine AllT.early (o := ⟨_, _, _, _, _, _⟩) rfl (fun K hK => ?_) ?_
                        · go_simp
                          refine hK.out _ _ (HP0.out _ (hUo.alloc _)) (fun _ => ?_)
                          clear hK K
                          have X4 := has3_alloc wo (.int .u8 0) (.int .i64 0) (.string ⟨#[]⟩) 51
                          have hUp : Up w15 (wo.alloc (.cells #[.int .u8 0, .int .i64 0, .string ⟨#[]⟩] 51)) := hUo.alloc _
                          generalize World.alloc wo _ = wb at hUp X4 ⊢
                          try simp only [Act.put, List.setIfInBounds_toArray, List.set_cons_zero, List.set_cons_succ]
                          refine AllT.go (rs := [17]) (by kernel_rfl) (by simp) ?_
                          refine AllT.early (o := ⟨_, _, _, _, _, _⟩) rfl (fun K hK => ?_) ?_
                          · go_simp
                            go_at_call 9
                            refine (PX.out _ hUp).mono ?_
                            rintro e wp ⟨v', rfl, hAf, hBf, hCg⟩
                            refine hK.out _ _ (HP1.out _ hCg) (fun _ => ?_)
                            clear hK K
                            try simp only [Act.put, List.setIfInBounds_toArray, List.set_cons_zero, List.set_cons_succ]
                            obtain ⟨hz, hMd⟩ := hBf _ _ _ _ hUo.size X4
                            clear X4 hBf hAf
                            obtain ⟨z0, ⟨z1, z2, z3⟩, ⟨z4, z5, z6⟩⟩ := hz
                            try simp only [Act.put, List.setIfInBounds_toArray, List.set_cons_zero, List.set_cons_succ]
                            refine AnyT.pick (i := 18) (oi := ⟨_, _, _, _, _, _⟩) (v := ?_) rfl (by kernel_rfl) (by kernel_rfl) (by kernel_rfl) (fun _ _ _ h => h) (Or.inl ⟨by rfl, ?y18_46⟩) ?_
                            case' y18_46 => ((intro w hSw; go_simp) <;> (with_reducible rfl))
                            try simp only [Act.put, List.setIfInBounds_toArray, List.set_cons_zero, List.set_cons_succ]
                            refine AnyT.pick (i := 19) (oi := ⟨_, _, _, _, _, _⟩) (v := ?_) rfl (by kernel_rfl) (by kernel_rfl) (by kernel_rfl) (fun _ _ _ h => h) (Or.inl ⟨by rfl, ?y19_47⟩) ?_
                            case' y19_47 => ((intro w hSw; go_simp) <;> (with_reducible rfl))
                            try simp only [Act.put, List.setIfInBounds_toArray, List.set_cons_zero, List.set_cons_succ]
                            refine AnyT.pick (i := 20) (oi := ⟨_, _, _, _, _, _⟩) (v := ?_) rfl (by kernel_rfl) (by kernel_rfl) (by kernel_rfl) (fun _ _ _ h => h) (Or.inl ⟨by rfl, ?y20_48⟩) ?_
                            case' y20_48 => ((intro w hSw; go_simp) <;> (with_reducible rfl))
                            try simp only [Act.put, List.setIfInBounds_toArray, List.set_cons_zero, List.set_cons_succ]
                            refine AllT.go (rs := [22]) (by kernel_rfl) (by simp) ?_
                            refine AllT.late (o := ⟨_, _, _, _, _, _⟩) rfl (by decide) (fun K hK => ?_) ?_
                            · go_simp
                              refine hK.out _ _ trivial (fun _ => ?_)
                              clear hK K
                              try simp only [Act.put, List.setIfInBounds_toArray, List.set_cons_zero, List.set_cons_succ]
                              refine AnyT.pick (i := 23) (oi := ⟨_, _, _, _, _, _⟩) (v := ?_) rfl (by kernel_rfl) (by kernel_rfl) (by kernel_rfl) (fun _ _ _ h => h) (Or.inl ⟨by rfl, ?y23_49⟩) ?_
                              case' y23_49 => ((intro w hSw; go_simp) <;> (with_reducible rfl))
                              try simp only [Act.put, List.setIfInBounds_toArray, List.set_cons_zero, List.set_cons_succ]
                              refine AnyT.done (by kernel_rfl) ?_ _
                              go_wp2_with fail
                              go_meet
                              exact ⟨wo.heap.size, v', rfl, rfl, hMd⟩
                            exact AllT.nil
                          exact AllT.nil
                        exact AllT.nil
                      refine AllT.early (o := ⟨_, _, _, _, _, _⟩) rfl (fun K hK => ?_) ?_
                      · go_simp
                        refine hK.out _ _ (HP0.out _ (hUd.alloc _)) (fun _ => ?_)
                        clear hK K
                        have X3 := has3_alloc wd (.int .u8 0) (.int .i64 0) (.string ⟨#[]⟩) 51
                        have hUa : Up w15 (wd.alloc (.cells #[.int .u8 0, .int .i64 0, .string ⟨#[]⟩] 51)) := hUd.alloc _
                        generalize World.alloc wd _ = wa at hUa X3 ⊢
                        try simp only [Act.put, List.setIfInBounds_toArray, List.set_cons_zero, List.set_cons_succ]
                        refine AllT.go (rs := [16]) (by kernel_rfl) (by simp) ?_
                        refine AllT.early (o := ⟨_, _, _, _, _, _⟩) rfl (fun K hK => ?_) ?_
                        · go_simp
                          go_at_call 10
                          refine (OX.out _).mono ?_
                          rintro e w1o ⟨rfl, rfl⟩
                          refine hK.out _ _ (HP0.out _ (hUa.alloc _)) (fun _ => ?_)
                          clear hK K
                          have hUo : Up w15 (wa.alloc (.cells #[.int .u8 5, .int .i64 (x.r : Int), .string ⟨#[]⟩] 51)) := hUa.alloc _
                          have X4 := X3.up ((Up.refl wa).alloc (.cells #[.int .u8 5, .int .i64 (x.r : Int), .string ⟨#[]⟩] 51))
                          clear X3
                          generalize World.alloc wa _ = wo at hUo X4 ⊢
                          try simp only [Act.put, List.setIfInBounds_toArray, List.set_cons_zero, List.set_cons_succ]
                          clear hHeld
                          refine AllT.go (rs := [17]) (by kernel_rfl) (by simp) ?_
                          refine AllT.early (o := ⟨_, _, _, _, _, _⟩) rfl (fun K hK => ?_) ?_
                          · go_simp
                            go_at_call 9
                            refine (PX.out _ hUo).mono ?_
                            rintro e wp ⟨v', rfl, hAf, hBf, hCg⟩
                            refine hK.out _ _ (HP1.out _ hCg) (fun _ => ?_)
                            clear hK K
                            try simp only [Act.put, List.setIfInBounds_toArray, List.set_cons_zero, List.set_cons_succ]
                            obtain ⟨hz, hMd⟩ := hBf _ _ _ _ hUd.size X4
                            clear X4 hBf hAf
                            obtain ⟨z0, ⟨z1, z2, z3⟩, ⟨z4, z5, z6⟩⟩ := hz
                            try simp only [Act.put, List.setIfInBounds_toArray, List.set_cons_zero, List.set_cons_succ]
                            refine AnyT.pick (i := 18) (oi := ⟨_, _, _, _, _, _⟩) (v := ?_) rfl (by kernel_rfl) (by kernel_rfl) (by kernel_rfl) (fun _ _ _ h => h) (Or.inl ⟨by rfl, ?y18_50⟩) ?_
                            case' y18_50 => ((intro w hSw; go_simp) <;> (with_reducible rfl))
                            try simp only [Act.put, List.setIfInBounds_toArray, List.set_cons_zero, List.set_cons_succ]
                            refine AnyT.pick (i := 19) (oi := ⟨_, _, _, _, _, _⟩) (v := ?_) rfl (by kernel_rfl) (by kernel_rfl) (by kernel_rfl) (fun _ _ _ h => h) (Or.inl ⟨by rfl, ?y19_51⟩) ?_
                            case' y19_51 => ((intro w hSw; go_simp) <;> (with_reducible rfl))
                            try simp only [Act.put, List.setIfInBounds_toArray, List.set_cons_zero, List.set_cons_succ]
                            refine AnyT.pick (i := 20) (oi := ⟨_, _, _, _, _, _⟩) (v := ?_) rfl (by kernel_rfl) (by kernel_rfl) (by kernel_rfl) (fun _ _ _ h => h) (Or.inl ⟨by rfl, ?y20_52⟩) ?_
                            case' y20_52 => ((intro w hSw; go_simp) <;> (with_reducible rfl))
                            try simp only [Act.put, List.setIfInBounds_toArray, List.set_cons_zero, List.set_cons_succ]
                            refine AllT.go (rs := [22]) (by kernel_rfl) (by simp) ?_
                            refine AllT.late (o := ⟨_, _, _, _, _, _⟩) rfl (by decide) (fun K hK => ?_) ?_
                            · go_simp
                              refine hK.out _ _ trivial (fun _ => ?_)
                              clear hK K
                              try simp only [Act.put, List.setIfInBounds_toArray, List.set_cons_zero, List.set_cons_succ]
                              refine AnyT.pick (i := 23) (oi := ⟨_, _, _, _, _, _⟩) (v := ?_) rfl (by kernel_rfl) (by kernel_rfl) (by kernel_rfl) (fun _ _ _ h => h) (Or.inl ⟨by rfl, ?y23_53⟩) ?_
                              case' y23_53 => ((intro w hSw; go_simp) <;> (with_reducible rfl))
                              try simp only [Act.put, List.setIfInBounds_toArray, List.set_cons_zero, List.set_cons_succ]
                              refine AnyT.done (by kernel_rfl) ?_ _
                              go_wp2_with fail
                              go_meet
                              exact ⟨wd.heap.size, v', rfl, rfl, hMd⟩
                            exact AllT.nil
                          exact AllT.nil
                        exact AllT.nil
                      exact AllT.nil
                  case rest =>
                    obtain ⟨b16, v', rfl, rfl, hM⟩ := hcut
                    obtain ⟨w19, e19⟩ : ∃ x, x = wc := ⟨_, rfl⟩
                    subst e19
                    have MM := Lib.hid hM
                    clear hM PX OX
                    have H19 := Lib.hid (HP1.out _ MM.out.cg)
                    have HV : Hid (∀ w', Up w19 w' → HeldY q p cb (vr 0) b13 b5 (mm : Int) pk pn pss w') := fun w' u => by
                      obtain ⟨h1, h2, h3, h4, -⟩ := H19.out
                      have h5 := (HB0.out.2.1.up MM.out.st.bel).2.1
                      exact HeldY.up ⟨h1, h2, h3, h4, h5.1, h5.2.1, h5.2.2⟩ u
                    obtain ⟨⟨y1, y2, y3⟩, hy⟩ : ∃ y : V3, y = vmk pk pn pss := ⟨_, rfl⟩
                    have hy5 : (((y1, y2, y3) : V3).1 == 5) = false := by rw [hy]; exact vmk_ne5 _ _ _
                    have YX := Lib.hid (make_any pk pn pss hk.out.1 hk.out.2)
                    rw [← hy] at YX
                    simp only [val] at YX
                    clear hy
                    obtain ⟨⟨⟨s1, s2, s3⟩, se⟩, hS⟩ : ∃ S : V3 × Int, S = ansP L (mm : Int) (tt : Int) (y1, y2, y3) := ⟨_, rfl⟩
                    have PY := Lib.hid (fun wx (u : Up w19 wx) => pass_p (m := (mm : Int)) (into := (tt : Int)) MM.out.st hLp.out hy5 wx u)
                    rw [← hS] at PY
                    simp only [val] at PY
                    have HS := Lib.hid hS
                    clear hS hy5
                    go_upto_region 20 with (fail)
                    go_cut [18, 19] from 133 to 152 (fun y z wx => ∃ (b18 : Nat), y = .pointer (some ⟨b18, 0, none⟩) ∧ z = .int .i64 se ∧ Has3 wx b18 (.int .u8 s1) (.int .i64 s2) (.string s3) ∧ Up w19 wx)
                    case first =>
                      as_aux_lemma =>
                        refine AnyT.start (S := fun w' => w'.cell? ⟨q, 2, none⟩ = some (vr 0) ∧ w'.cell? ⟨q, 0, none⟩ = some (.pointer (some ⟨p, 0, none⟩)) ∧ w'.cell? ⟨q, 1, none⟩ = some (.map (some cb)) ∧ w'.cell? ⟨b13, 0, none⟩ = some (.int .i64 (mm : Int)) ∧ w'.cell? ⟨b5, 0, none⟩ = some (.int .u8 pk) ∧ w'.cell? ⟨b5, 1, none⟩ = some (.int .i64 pn) ∧ w'.cell? ⟨b5, 2, none⟩ = some (.string pss)) 21 (by kernel_rfl) (HV.out _ (Up.refl w19).drew) (fun hHeld => ?_)
                        have hUd : Up w19 w19.drew := (Up.refl w19).drew
                        generalize World.drew w19 = wd at hUd hHeld ⊢
                        refine AnyT.pick (i := 0) (oi := ⟨_, _, _, _, _, _⟩) (v := ?_) rfl (by kernel_rfl) (by kernel_rfl) (by kernel_rfl) (fun _ _ _ h => h) (Or.inl ⟨by rfl, ?y0_54⟩) ?_
                        case' y0_54 => ((intro w hSw; go_simp) <;> (with_reducible rfl))
                        try simp only [Act.put, List.setIfInBounds_toArray, List.set_cons_zero, List.set_cons_succ]
                        refine AnyT.pick (i := 1) (oi := ⟨_, _, _, _, _, _⟩) (v := ?_) rfl (by kernel_rfl) (by kernel_rfl) (by kernel_rfl) (fun _ _ _ h => h) (Or.inl ⟨by rfl, ?y1_55⟩) ?_
                        case' y1_55 => ((intro w hSw; go_simp) <;> (with_reducible rfl))
                        try simp only [Act.put, List.setIfInBounds_toArray, List.set_cons_zero, List.set_cons_succ]
                        refine AnyT.pick (i := 2) (oi := ⟨_, _, _, _, _, _⟩) (v := ?_) rfl (by kernel_rfl) (by kernel_rfl) (by kernel_rfl) (fun _ _ _ h => h) (Or.inl ⟨by rfl, ?y2_56⟩) ?_
                        case' y2_56 => ((intro w hSw; go_simp) <;> (with_reducible rfl))
                        try simp only [Act.put, List.setIfInBounds_toArray, List.set_cons_zero, List.set_cons_succ]
                        refine AnyT.take (i := 3) (oi := ⟨_, _, _, _, _, _⟩) (v := ?_) rfl (by kernel_rfl) (by kernel_rfl) (by kernel_rfl) (by kernel_rfl) (fun _ _ _ h => h) (Or.inl ⟨by rfl, ?y3_57⟩) (by assumption) ?_
                        case' y3_57 => ((intro w hSw; (try dsimp only at hSw); go_simp) <;> (with_reducible rfl))
                        try simp only [Act.put, List.setIfInBounds_toArray, List.set_cons_zero, List.set_cons_succ]
                        refine AnyT.pick (i := 4) (oi := ⟨_, _, _, _, _, _⟩) (v := ?_) rfl (by kernel_rfl) (by kernel_rfl) (by kernel_rfl) (fun _ _ _ h => h) (Or.inl ⟨by rfl, ?y4_58⟩) ?_
                        case' y4_58 => ((intro w hSw; go_simp) <;> (with_reducible rfl))
                        try simp only [Act.put, List.setIfInBounds_toArray, List.set_cons_zero, List.set_cons_succ]
                        refine AnyT.pick (i := 5) (oi := ⟨_, _, _, _, _, _⟩) (v := ?_) rfl (by kernel_rfl) (by kernel_rfl) (by kernel_rfl) (fun _ _ _ h => h) (Or.inl ⟨by rfl, ?y5_59⟩) ?_
                        case' y5_59 => ((intro w hSw; go_simp) <;> (with_reducible rfl))
                        try simp only [Act.put, List.setIfInBounds_toArray, List.set_cons_zero, List.set_cons_succ]
                        refine AnyT.pick (i := 6) (oi := ⟨_, _, _, _, _, _⟩) (v := ?_) rfl (by kernel_rfl) (by kernel_rfl) (by kernel_rfl) (fun _ _ _ h => h) (Or.inl ⟨by rfl, ?y6_60⟩) ?_
                        case' y6_60 => ((intro w hSw; go_simp) <;> (with_reducible rfl))
                        try simp only [Act.put, List.setIfInBounds_toArray, List.set_cons_zero, List.set_cons_succ]
                        refine AnyT.take (i := 7) (oi := ⟨_, _, _, _, _, _⟩) (v := ?_) rfl (by kernel_rfl) (by kernel_rfl) (by kernel_rfl) (by kernel_rfl) (fun _ _ _ h => h) (Or.inl ⟨by rfl, ?y7_61⟩) (by assumption) ?_
                        case' y7_61 => ((intro w hSw; (try dsimp only at hSw); go_simp) <;> (with_reducible rfl))
                        try simp only [Act.put, List.setIfInBounds_toArray, List.set_cons_zero, List.set_cons_succ]
                        refine AnyT.pick (i := 8) (oi := ⟨_, _, _, _, _, _⟩) (v := ?_) rfl (by kernel_rfl) (by kernel_rfl) (by kernel_rfl) (fun _ _ _ h => h) (Or.inl ⟨by rfl, ?y8_62⟩) ?_
                        case' y8_62 => ((intro w hSw; go_simp) <;> (with_reducible rfl))
                        try simp only [Act.put, List.setIfInBounds_toArray, List.set_cons_zero, List.set_cons_succ]
                        refine AnyT.pick (i := 9) (oi := ⟨_, _, _, _, _, _⟩) (v := ?_) rfl (by kernel_rfl) (by kernel_rfl) (by kernel_rfl) (fun _ _ _ h => h) (Or.inl ⟨by rfl, ?y9_63⟩) ?_
                        case' y9_63 => ((intro w hSw; go_simp) <;> (with_reducible rfl))
                        try simp only [Act.put, List.setIfInBounds_toArray, List.set_cons_zero, List.set_cons_succ]
                        refine AnyT.pick (i := 10) (oi := ⟨_, _, _, _, _, _⟩) (v := ?_) rfl (by kernel_rfl) (by kernel_rfl) (by kernel_rfl) (fun _ _ _ h => h) (Or.inl ⟨by rfl, ?y10_64⟩) ?_
                        case' y10_64 => ((intro w hSw; go_simp) <;> (with_reducible rfl))
                        try simp only [Act.put, List.setIfInBounds_toArray, List.set_cons_zero, List.set_cons_succ]
                        refine AnyT.take (i := 11) (oi := ⟨_, _, _, _, _, _⟩) (v := ?_) rfl (by kernel_rfl) (by kernel_rfl) (by kernel_rfl) (by kernel_rfl) (fun _ _ _ h => h) (Or.inl ⟨by rfl, ?y11_65⟩) (by assumption) ?_
                        case' y11_65 => ((intro w hSw; (try dsimp only at hSw); go_simp) <;> (with_reducible rfl))
                        try simp only [Act.put, List.setIfInBounds_toArray, List.set_cons_zero, List.set_cons_succ]
                        refine AnyT.take (i := 12) (oi := ⟨_, _, _, _, _, _⟩) (v := ?_) rfl (by kernel_rfl) (by kernel_rfl) (by kernel_rfl) (by kernel_rfl) (fun _ _ _ h => h) (Or.inl ⟨by rfl, ?y12_66⟩) (by assumption) ?_
                        case' y12_66 => ((intro w hSw; (try dsimp only at hSw); go_simp) <;> (with_reducible rfl))
                        try simp only [Act.put, List.setIfInBounds_toArray, List.set_cons_zero, List.set_cons_succ]
                        refine AnyT.pick (i := 13) (oi := ⟨_, _, _, _, _, _⟩) (v := ?_) rfl (by kernel_rfl) (by kernel_rfl) (by kernel_rfl) (fun _ _ _ h => h) (Or.inl ⟨by rfl, ?y13_67⟩) ?_
                        case' y13_67 => ((intro w hSw; go_simp) <;> (with_reducible rfl))
                        try simp only [Act.put, List.setIfInBounds_toArray, List.set_cons_zero, List.set_cons_succ]
                        refine AnyT.take (i := 14) (oi := ⟨_, _, _, _, _, _⟩) (v := ?_) rfl (by kernel_rfl) (by kernel_rfl) (by kernel_rfl) (by kernel_rfl) (fun _ _ _ h => h) (Or.inl ⟨by rfl, ?y14_68⟩) (by assumption) ?_
                        case' y14_68 => ((intro w hSw; (try dsimp only at hSw); go_simp) <;> (with_reducible rfl))
                        try simp only [Act.put, List.setIfInBounds_toArray, List.set_cons_zero, List.set_cons_succ]
                        refine AllT.go (rs := [15, 20]) (by kernel_rfl) (by simp) ?_
                        refine AllT.early (o := ⟨_, _, _, _, _, _⟩) rfl (fun K hK => ?_) ?_
                        · go_simp
                          go_at_call 11
                          refine (YX.out _).mono ?_
                          rintro e wo ⟨rfl, hu1⟩
                          have hUo := hUd.trans hu1
                          refine hK.out _ _ (HV.out _ hUo) (fun _ => ?_)
                          clear hK K
                          try simp only [Act.put, List.setIfInBounds_toArray, List.set_cons_zero, List.set_cons_succ]
                          clear hHeld
                          refine AllT.go (rs := [16, 20]) (by kernel_rfl) (by simp) ?_
                          refine AllT.early (o := ⟨_, _, _, _, _, _⟩) rfl (fun K hK => ?_) ?_
                          · go_simp
                            go_at_call 9
                            refine (PY.out _ hUo).mono ?_
                            rintro e wp ⟨rfl, hu2⟩
                            have hUp := hUo.trans hu2
                            refine hK.out _ _ (HV.out _ hUp) (fun _ => ?_)
                            clear hK K
                            try simp only [Act.put, List.setIfInBounds_toArray, List.set_cons_zero, List.set_cons_succ]
                            refine AnyT.pick (i := 17) (oi := ⟨_, _, _, _, _, _⟩) (v := ?_) rfl (by kernel_rfl) (by kernel_rfl) (by kernel_rfl) (fun _ _ _ h => h) (Or.inl ⟨by rfl, ?y17_69⟩) ?_
                            case' y17_69 => ((intro w hSw; go_simp) <;> (with_reducible rfl))
                            try simp only [Act.put, List.setIfInBounds_toArray, List.set_cons_zero, List.set_cons_succ]
                            refine AnyT.pick (i := 18) (oi := ⟨_, _, _, _, _, _⟩) (v := ?_) rfl (by kernel_rfl) (by kernel_rfl) (by kernel_rfl) (fun _ _ _ h => h) (Or.inl ⟨by rfl, ?y18_70⟩) ?_
                            case' y18_70 => ((intro w hSw; go_simp) <;> (with_reducible rfl))
                            try simp only [Act.put, List.setIfInBounds_toArray, List.set_cons_zero, List.set_cons_succ]
                            refine AnyT.pick (i := 19) (oi := ⟨_, _, _, _, _, _⟩) (v := ?_) rfl (by kernel_rfl) (by kernel_rfl) (by kernel_rfl) (fun _ _ _ h => h) (Or.inl ⟨by rfl, ?y19_71⟩) ?_
                            case' y19_71 => ((intro w hSw; go_simp) <;> (with_reducible rfl))
                            try simp only [Act.put, List.setIfInBounds_toArray, List.set_cons_zero, List.set_cons_succ]
                            refine AllT.go (rs := [20]) (by kernel_rfl) (by simp) ?_
                            refine AllT.early (o := ⟨_, _, _, _, _, _⟩) rfl (fun K hK => ?_) ?_
                            · go_simp
                              refine hK.out _ _ (HV.out _ (hUp.alloc _)) (fun _ => ?_)
                              clear hK K
                              try simp only [Act.put, List.setIfInBounds_toArray, List.set_cons_zero, List.set_cons_succ]
                              refine AllT.go (rs := [21]) (by kernel_rfl) (by simp) ?_
                              refine AllT.late (o := ⟨_, _, _, _, _, _⟩) rfl (by decide) (fun K hK => ?_) ?_
                              · go_simp
                                refine hK.out _ _ trivial (fun _ => ?_)
                                clear hK K
                                try simp only [Act.put, List.setIfInBounds_toArray, List.set_cons_zero, List.set_cons_succ]
                                refine AnyT.pick (i := 22) (oi := ⟨_, _, _, _, _, _⟩) (v := ?_) rfl (by kernel_rfl) (by kernel_rfl) (by kernel_rfl) (fun _ _ _ h => h) (Or.inl ⟨by rfl, ?y22_72⟩) ?_
                                case' y22_72 => ((intro w hSw; go_simp) <;> (with_reducible rfl))
                                try simp only [Act.put, List.setIfInBounds_toArray, List.set_cons_zero, List.set_cons_succ]
                                refine AnyT.done (by kernel_rfl) ?_ _
                                go_wp2_with fail
                                go_meet
                                exact ⟨wp.heap.size, rfl, rfl, has3_alloc wp _ _ _ _, hUp.alloc _⟩
                              exact AllT.nil
                            exact AllT.nil
                          refine AllT.early (o := ⟨_, _, _, _, _, _⟩) rfl (fun K hK => ?_) ?_
                          · go_simp
                            refine hK.out _ _ (HV.out _ (hUo.alloc _)) (fun _ => ?_)
                            clear hK K
                            have X4 := has3_alloc wo (.int .u8 0) (.int .i64 0) (.string ⟨#[]⟩) 51
                            have hUq : Up w19 (wo.alloc (.cells #[.int .u8 0, .int .i64 0, .string ⟨#[]⟩] 51)) := hUo.alloc _
                            generalize World.alloc wo _ = wb at hUq X4 ⊢
                            try simp only [Act.put, List.setIfInBounds_toArray, List.set_cons_zero, List.set_cons_succ]
                            refine AllT.go (rs := [16]) (by kernel_rfl) (by simp) ?_
                            refine AllT.early (o := ⟨_, _, _, _, _, _⟩) rfl (fun K hK => ?_) ?_
                            · go_simp
                              go_at_call 9
                              refine (PY.out _ hUq).mono ?_
                              rintro e wp ⟨rfl, hu2⟩
                              have hUp := hUq.trans hu2
                              have X5 := X4.up hu2
                              clear X4
                              refine hK.out _ _ (HV.out _ hUp) (fun _ => ?_)
                              clear hK K
                              try simp only [Act.put, List.setIfInBounds_toArray, List.set_cons_zero, List.set_cons_succ]
                              have X6 := X5.store (.int .u8 s1) (.int .i64 s2) (.string s3)
                              have hU6 : Up w19 (((wp.setCell ⟨wo.heap.size, 0, none⟩ (.int .u8 s1)).setCell ⟨wo.heap.size, 1, none⟩ (.int .i64 s2)).setCell ⟨wo.heap.size, 2, none⟩ (.string s3)) := ((hUp.setCell (p := ⟨wo.heap.size, 0, none⟩) hUo.size _).setCell (p := ⟨wo.heap.size, 1, none⟩) hUo.size _).setCell (p := ⟨wo.heap.size, 2, none⟩) hUo.size _
                              have H56 := Lib.hid (And.intro X6 hU6)
                              clear X6 hU6
                              obtain ⟨z0, ⟨z1, z2, z3⟩, ⟨z4, z5, z6⟩⟩ := X5
                              try simp only [Act.put, List.setIfInBounds_toArray, List.set_cons_zero, List.set_cons_succ]
                              refine AnyT.pick (i := 17) (oi := ⟨_, _, _, _, _, _⟩) (v := ?_) rfl (by kernel_rfl) (by kernel_rfl) (by kernel_rfl) (fun _ _ _ h => h) (Or.inl ⟨by rfl, ?y17_73⟩) ?_
                              case' y17_73 => ((intro w hSw; go_simp) <;> (with_reducible rfl))
                              try simp only [Act.put, List.setIfInBounds_toArray, List.set_cons_zero, List.set_cons_succ]
                              refine AnyT.pick (i := 18) (oi := ⟨_, _, _, _, _, _⟩) (v := ?_) rfl (by kernel_rfl) (by kernel_rfl) (by kernel_rfl) (fun _ _ _ h => h) (Or.inl ⟨by rfl, ?y18_74⟩) ?_
                              case' y18_74 => ((intro w hSw; go_simp) <;> (with_reducible rfl))
                              try simp only [Act.put, List.setIfInBounds_toArray, List.set_cons_zero, List.set_cons_succ]
                              refine AnyT.pick (i := 19) (oi := ⟨_, _, _, _, _, _⟩) (v := ?_) rfl (by kernel_rfl) (by kernel_rfl) (by kernel_rfl) (fun _ _ _ h => h) (Or.inl ⟨by rfl, ?y19_75⟩) ?_
                              case' y19_75 => ((intro w hSw; go_simp) <;> (with_reducible rfl))
                              try simp only [Act.put, List.setIfInBounds_toArray, List.set_cons_zero, List.set_cons_succ]
                              refine AllT.go (rs := [21]) (by kernel_rfl) (by simp) ?_
                              refine AllT.late (o := ⟨_, _, _, _, _, _⟩) rfl (by decide) (fun K hK => ?_) ?_
                              · go_simp
                                refine hK.out _ _ trivial (fun _ => ?_)
                                clear hK K
                                try simp only [Act.put, List.setIfInBounds_toArray, List.set_cons_zero, List.set_cons_succ]
                                refine AnyT.pick (i := 22) (oi := ⟨_, _, _, _, _, _⟩) (v := ?_) rfl (by kernel_rfl) (by kernel_rfl) (by kernel_rfl) (fun _ _ _ h => h) (Or.inl ⟨by rfl, ?y22_76⟩) ?_
                                case' y22_76 => ((intro w hSw; go_simp) <;> (with_reducible rfl))
                                try simp only [Act.put, List.setIfInBounds_toArray, List.set_cons_zero, List.set_cons_succ]
                                refine AnyT.done (by kernel_rfl) ?_ _
                                go_wp2_with fail
                                go_meet
                                exact ⟨wo.heap.size, rfl, rfl, H56.out.1, H56.out.2⟩
                              exact AllT.nil
                            exact AllT.nil
                          exact AllT.nil
                        refine AllT.early (o := ⟨_, _, _, _, _, _⟩) rfl (fun K hK => ?_) ?_
                        · go_simp
                          refine hK.out _ _ (HV.out _ (hUd.alloc _)) (fun _ => ?_)
                          clear hK K
                          have X3 := has3_alloc wd (.int .u8 0) (.int .i64 0) (.string ⟨#[]⟩) 51
                          have hUa : Up w19 (wd.alloc (.cells #[.int .u8 0, .int .i64 0, .string ⟨#[]⟩] 51)) := hUd.alloc _
                          generalize World.alloc wd _ = wa at hUa X3 ⊢
                          try simp only [Act.put, List.setIfInBounds_toArray, List.set_cons_zero, List.set_cons_succ]
                          refine AllT.go (rs := [15]) (by kernel_rfl) (by simp) ?_
                          refine AllT.early (o := ⟨_, _, _, _, _, _⟩) rfl (fun K hK => ?_) ?_
                          · go_simp
                            go_at_call 11
                            refine (YX.out _).mono ?_
                            rintro e wo ⟨rfl, hu1⟩
                            have hUo := hUa.trans hu1
                            have X4 := X3.up hu1
                            clear X3
                            refine hK.out _ _ (HV.out _ hUo) (fun _ => ?_)
                            clear hK K
                            try simp only [Act.put, List.setIfInBounds_toArray, List.set_cons_zero, List.set_cons_succ]
                            clear hHeld
                            refine AllT.go (rs := [16]) (by kernel_rfl) (by simp) ?_
                            refine AllT.early (o := ⟨_, _, _, _, _, _⟩) rfl (fun K hK => ?_) ?_
                            · go_simp
                              go_at_call 9
                              refine (PY.out _ hUo).mono ?_
                              rintro e wp ⟨rfl, hu2⟩
                              have hUp := hUo.trans hu2
                              have X5 := X4.up hu2
                              clear X4
                              refine hK.out _ _ (HV.out _ hUp) (fun _ => ?_)
                              clear hK K
                              try simp only [Act.put, List.setIfInBounds_toArray, List.set_cons_zero, List.set_cons_succ]
                              have X6 := X5.store (.int .u8 s1) (.int .i64 s2) (.string s3)
                              have hU6 : Up w19 (((wp.setCell ⟨wd.heap.size, 0, none⟩ (.int .u8 s1)).setCell ⟨wd.heap.size, 1, none⟩ (.int .i64 s2)).setCell ⟨wd.heap.size, 2, none⟩ (.string s3)) := ((hUp.setCell (p := ⟨wd.heap.size, 0, none⟩) hUd.size _).setCell (p := ⟨wd.heap.size, 1, none⟩) hUd.size _).setCell (p := ⟨wd.heap.size, 2, none⟩) hUd.size _
                              have H56 := Lib.hid (And.intro X6 hU6)
                              clear X6 hU6
                              obtain ⟨z0, ⟨z1, z2, z3⟩, ⟨z4, z5, z6⟩⟩ := X5
                              try simp only [Act.put, List.setIfInBounds_toArray, List.set_cons_zero, List.set_cons_succ]
                              refine AnyT.pick (i := 17) (oi := ⟨_, _, _, _, _, _⟩) (v := ?_) rfl (by kernel_rfl) (by kernel_rfl) (by kernel_rfl) (fun _ _ _ h => h) (Or.inl ⟨by rfl, ?y17_77⟩) ?_
                              case' y17_77 => ((intro w hSw; go_simp) <;> (with_reducible rfl))
                              try simp only [Act.put, List.setIfInBounds_toArray, List.set_cons_zero, List.set_cons_succ]
                              refine AnyT.pick (i := 18) (oi := ⟨_, _, _, _, _, _⟩) (v := ?_) rfl (by kernel_rfl) (by kernel_rfl) (by kernel_rfl) (fun _ _ _ h => h) (Or.inl ⟨by rfl, ?y18_78⟩) ?_
                              case' y18_78 => ((intro w hSw; go_simp) <;> (with_reducible rfl))
                              try simp only [Act.put, List.setIfInBounds_toArray, List.set_cons_zero, List.set_cons_succ]
                              refine AnyT.pick (i := 19) (oi := ⟨_, _, _, _, _, _⟩) (v := ?_) rfl (by kernel_rfl) (by kernel_rfl) (by kernel_rfl) (fun _ _ _ h => h) (Or.inl ⟨by rfl, ?y19_79⟩) ?_
                              case' y19_79 => ((intro w hSw; go_simp) <;> (with_reducible rfl))
                              try simp only [Act.put, List.setIfInBounds_toArray, List.set_cons_zero, List.set_cons_succ]
                              refine AllT.go (rs := [21]) (by kernel_rfl) (by simp) ?_
                              refine AllT.late (o := ⟨_, _, _, _, _, _⟩) rfl (by decide) (fun K hK => ?_) ?_
                              · go_simp
                                refine hK.out _ _ trivial (fun _ => ?_)
                                clear hK K
                                try simp only [Act.put, List.setIfInBounds_toArray, List.set_cons_zero, List.set_cons_succ]
                                refine AnyT.pick (i := 22) (oi := ⟨_, _, _, _, _, _⟩) (v := ?_) rfl (by kernel_rfl) (by kernel_rfl) (by kernel_rfl) (fun _ _ _ h => h) (Or.inl ⟨by rfl, ?y22_80⟩) ?_
                                case' y22_80 => ((intro w hSw; go_simp) <;> (with_reducible rfl))
                                try simp only [Act.put, List.setIfInBounds_toArray, List.set_cons_zero, List.set_cons_succ]
                                refine AnyT.done (by kernel_rfl) ?_ _
                                go_wp2_with fail
                                go_meet
                                exact ⟨wd.heap.size, rfl, rfl, H56.out.1, H56.out.2⟩
                              exact AllT.nil
                            exact AllT.nil
                          exact AllT.nil
                        exact AllT.nil
                    case rest =>
                      obtain ⟨b18, rfl, rfl, hX18, hU20⟩ := hcut
                      obtain ⟨w20, e20⟩ : ∃ x, x = wc := ⟨_, rfl⟩
                      subst e20
                      have X18 := Lib.hid hX18
                      have U20 := Lib.hid hU20
                      have S20 := Lib.hid (MM.out.st.up hU20)
                      clear hX18 hU20 PY
                      obtain ⟨fr, hfr⟩ : ∃ fr, fr = (otherR L (mm : Int) (tt : Int)).getD (-1) := ⟨_, rfl⟩
                      have FR := Lib.hid hfr
                      clear hfr
                      have d13 : w20.cell? ⟨b13, 0, none⟩ = some (.int .i64 (mm : Int)) := up_cell U20.out H19.out.2.2.2.1
                      go_upto_if 156 with (fail)
                      go_cut [20, 21, 156] from 157 to 181 (fun y i c wx => y = .int .i64 fr ∧ Up w20 wx)
                      case first =>
                        as_aux_lemma =>
                          by_cases hmn : mm < n
                          · have hmn' : (mm : Int) < (n : Int) := by omega
                            have hmd : decide ((mm : Int) < (n : Int)) = true := decide_eq_true hmn'
                            have hmL : mm < L.length := by have := HTJ.out.2.2.1; omega
                            obtain ⟨⟨sA, sB, sD⟩, hs⟩ : ∃ s, L[mm]? = some s := ⟨_, List.getElem?_eq_getElem hmL⟩
                            have FS : Hid (fr = frm (sA, sB, sD) (tt : Int) 2) := FR.out.trans (frm_of hs)
                            have NE : Hid (sA ≠ sB) := P15.out.ne _ (List.mem_of_getElem? hs)
                            obtain ⟨g2, c2, e2, hsd⟩ := St.sides S20.out hLp.out
                            obtain ⟨m0, m1⟩ := hsd mm _ hs
                            have q4 : w20.cell? ⟨q, 4, none⟩ = some (vr 2) := S20.out.rw_.hd.cell 4
                            rw [e2] at q4
                            simp only at m0 m1
                            have HS4 : Hid (∀ wx, Up w20 wx → wx.cell? ⟨q, 4, none⟩ = some (.slice (some ⟨g2, 0, none⟩) L.length c2) ∧ wx.cell? ⟨b13, 0, none⟩ = some (.int .i64 (mm : Int)) ∧ wx.cell? ⟨g2, mm * 2, none⟩ = some (.int .i64 sA) ∧ wx.cell? ⟨g2, mm * 2 + 1, none⟩ = some (.int .i64 sB)) := fun wx u => ⟨up_cell u q4, up_cell u d13, up_cell u m0, up_cell u m1⟩
                            have hLl : (mm : Int) < (L.length : Int) := by omega
                            clear hsd m0 m1 q4 hs e2 hmL
                            go_wp2_with fail
                            clear d13
                            go_loopw [20, 21, 157] (fun y i c wx => ∃ t : Int, (0 ≤ t ∧ t ≤ 2) ∧ c = .int .i64 t ∧ y = .int .i64 (frm (sA, sB, sD) (tt : Int) t.toNat) ∧ Up w20 wx) (fun _ _ c _ => (2 - intOf c).toNat)
                            case atStart => exact ⟨0, by omega, rfl, rfl, Up.refl _⟩
                            case round =>
                              obtain ⟨t, ht, rfl, rfl, hU⟩ := hrel
                              obtain ⟨f1, f2, f3, f4⟩ := HS4.out _ hU
                              have HU := Lib.hid hU
                              clear hU
                              rcases (by omega : t = 0 ∨ t = 1 ∨ t = 2) with rfl | rfl | rfl
                              · by_cases h1 : sA = (tt : Int)
                                · have HE := Lib.hid h1
                                  rw [h1] at f3
                                  clear h1
                                  go_upto_region 26 with (fail)
                                  go_quiet (fail)
                                  go_upto_region 27 with (fail)
                                  go_quiet (fail)
                                  go_wp2_with fail
                                  go_roundw
                                  case rel => exact ⟨1, by omega, by go_num, (by show Value.int .i64 sB = .int .i64 (if (tt : Int) = sA then sB else -1); rw [if_pos HE.out.symm]), ar.up_drewN HU.out _⟩
                                  case measure => simp [intOf]
                                · have z1 : (sA == (tt : Int)) = false := beq_eq_false_iff_ne.2 h1
                                  have z2 : decide (sA = (tt : Int)) = false := decide_eq_false h1
                                  have HE := Lib.hid h1
                                  clear h1
                                  go_upto_region 26 with (fail)
                                  go_quiet (fail)
                                  go_wp2_with fail
                                  go_roundw
                                  case rel => exact ⟨1, by omega, by go_num, (by show Value.int .i64 (-1) = .int .i64 (if (tt : Int) = sA then sB else -1); rw [if_neg (fun h => HE.out h.symm)]), ar.up_drewN HU.out _⟩
                                  case measure => simp [intOf]
                              · by_cases h1 : sB = (tt : Int)
                                · have HE := Lib.hid h1
                                  rw [h1] at f4
                                  clear h1
                                  go_upto_region 26 with (fail)
                                  go_quiet (fail)
                                  go_upto_region 27 with (fail)
                                  go_quiet (fail)
                                  go_wp2_with fail
                                  go_roundw
                                  case rel => exact ⟨2, by omega, by go_num, (by show Value.int .i64 sA = .int .i64 (if (tt : Int) = sA then sB else if (tt : Int) = sB then sA else -1); rw [if_neg (fun h => NE.out (h.symm.trans HE.out.symm)), if_pos HE.out.symm]), ar.up_drewN HU.out _⟩
                                  case measure => simp [intOf]
                                · have z1 : (sB == (tt : Int)) = false := beq_eq_false_iff_ne.2 h1
                                  have z2 : decide (sB = (tt : Int)) = false := decide_eq_false h1
                                  have HE := Lib.hid h1
                                  clear h1
                                  go_upto_region 26 with (fail)
                                  go_quiet (fail)
                                  go_wp2_with fail
                                  go_roundw
                                  case rel => exact ⟨2, by omega, by go_num, (by show Value.int .i64 (if (tt : Int) = sA then sB else -1) = .int .i64 (if (tt : Int) = sA then sB else if (tt : Int) = sB then sA else -1); rw [if_neg (c := (tt : Int) = sB) (fun h => HE.out h.symm)]), ar.up_drewN HU.out _⟩
                                  case measure => simp [intOf]
                              · go_wp2_with fail
                                go_meet
                                exact ⟨by rw [FS.out]; rfl, HU.out⟩
                          · have hmn' : ¬ (mm : Int) < (n : Int) := by omega
                            have hmd : decide ((mm : Int) < (n : Int)) = false := decide_eq_false hmn'
                            have FN : Hid (fr = -1) := FR.out.trans (frm_none (by have := HTJ.out.2.2.1; omega))
                            go_wp2_with fail
                            go_meet
                            exact ⟨by rw [FN.out], Up.refl _⟩
                      case rest =>
                        obtain ⟨rfl, hU22⟩ := hcut
                        obtain ⟨w22, e22⟩ : ∃ x, x = wc := ⟨_, rfl⟩
                        subst e22
                        clear d13
                        go_upto_region 30 with (fail)
                        have hX22 := has3_alloc w22 (.int .u8 0) (.int .i64 0) (.string ⟨#[]⟩) 51
                        have hU23 : Up w20 (w22.alloc (.cells #[.int .u8 0, .int .i64 0, .string ⟨#[]⟩] 51)) := hU22.alloc _
                        generalize World.alloc w22 _ = w23 at hX22 hU23 ⊢
                        generalize w22.heap.size = b22 at hX22 ⊢
                        have U23 : Hid (Up w19 w23) := U20.out.trans hU23
                        have C23 : Hid (∀ wx, Up w23 wx → Has3 wx b16 (.int .u8 r1) (.int .i64 r2) (.string r3) ∧ Has3 wx b18 (.int .u8 s1) (.int .i64 s2) (.string s3) ∧ Has3 wx b22 (.int .u8 0) (.int .i64 0) (.string ⟨#[]⟩)) := fun wx u => ⟨MM.out.xc.up (U23.out.trans u), X18.out.up (hU23.trans u), hX22.up u⟩
                        have B23 : Hid (∀ wx, Up w23 wx → Blk wx b15 #[.int .u64 (x.r : Int), .int .i64 x.owner, .int .i64 x.m, .int .u64 (x.target : Int), .int .i64 x.deep] 43) := fun wx u => (B15.out.chg MM.out.cg N3.out.2.2.1).chg (U23.out.trans u).chg (by simp)
                        have V23 : Hid (∀ wx, Up w23 wx → HeldY q p cb (vr 0) b13 b5 (mm : Int) pk pn pss wx) := fun wx u => HV.out _ (U23.out.trans u)
                        clear hX22 hU23 hU22 X18 U20 S20 HV B15 C13 HP0 HP1
                        cases hot : otherR L (mm : Int) (tt : Int) with
                        | none =>
                          as_aux_lemma =>
                            have FN : fr = -1 := FR.out.trans (by rw [hot]; rfl)
                            have e1 := HR.out.trans (ans_none (x := x) (C := C) (A := A) (yv := (y1, y2, y3)) hot).1
                            have e2 := HS.out.trans (ans_none (x := x) (C := C) (A := A) (yv := (y1, y2, y3)) hot).2
                            simp only [zero3, Res.mk.injEq, Prod.mk.injEq] at e1 e2
                            obtain ⟨⟨rfl, rfl, rfl⟩, rfl, rfl, rfl⟩ := e1
                            obtain ⟨⟨rfl, rfl, rfl⟩, rfl⟩ := e2
                            subst FN
                            obtain ⟨-, ⟨k16_0, k16_1, k16_2⟩, -⟩ := (C23.out _ (Up.refl _)).1
                            obtain ⟨-, ⟨k18_0, k18_1, k18_2⟩, -⟩ := (C23.out _ (Up.refl _)).2.1
                            obtain ⟨-, ⟨k22_0, k22_1, k22_2⟩, -⟩ := (C23.out _ (Up.refl _)).2.2
                            clear hot
                            go_wp2_with (((with_reducible refine wpl_ne (0, 0, ⟨#[]⟩) (0, 0, ⟨#[]⟩) ?_ ?_ ?_ false (by simp) ?_); (· first | rfl | go_simp); (· rfl); (· rfl)))
                            go_roundw
                            case rel => exact ⟨j + 1, v', _, _, L, T, (by have := HTJ.out; omega), by go_num, HTJ.out.1, (by have := HTJ.out; omega), HTJ.out.2.2.1, by rw [HK.out.1, HK.out.2]; exact (Ps.same P15.out MM.out rfl rfl).up (U23.out.trans (Up.refl _))⟩
                            case measure => have := HTJ.out.2.2.2; simp [intOf]; omega
                        | some f =>
                          have hmL : mm < L.length := other_lt hot
                          obtain ⟨⟨sA, sB, sD⟩, hs⟩ : ∃ s, L[mm]? = some s := ⟨_, List.getElem?_eq_getElem hmL⟩
                          have hda : deadR L (mm : Int) = sD := dead_at hs
                          have FN : f = fr := (FR.out.trans (by rw [hot]; rfl)).symm
                          subst FN
                          have hf0 : 0 ≤ f := (P15.out.st.side hot).2.1
                          have hf1 : ¬ f < 0 := by omega
                          have hf2 : decide (f < 0) = false := decide_eq_false hf1
                          have HI : Hid (0 ≤ (tt : Int) ∧ (tt : Int) < 4) := (P15.out.st.side hot).1
                          obtain ⟨g3, c3, e3, hdd⟩ := St.deads MM.out.st hLp.out
                          have q5 : w23.cell? ⟨q, 5, none⟩ = some (vr 3) := up_cell U23.out (MM.out.st.rw_.hd.cell 5)
                          rw [e3] at q5
                          have dd : w23.cell? ⟨g3, mm, none⟩ = some (.bool sD) := up_cell U23.out (hdd mm _ hs)
                          have d13 : w23.cell? ⟨b13, 0, none⟩ = some (.int .i64 (mm : Int)) := (V23.out _ (Up.refl _)).2.2.2.1
                          have hLl : (mm : Int) < (L.length : Int) := by omega
                          have HO := Lib.hid (And.intro hot hda)
                          clear hdd hs e3 hmL hot hda
                          go_upto_region 33 with (fail)
                          go_quiet (fail)
                          have hU33 : Up w23 (w23.drewN nq) := ar.up_drewN (Up.refl _) _
                          generalize World.drewN w23 nq = w33 at hU33 ⊢
                          clear q5 dd d13 hLl hf0 hf1 hf2
                          have U33 := Lib.hid hU33
                          clear hU33
                          cases sD
                          rotate_left
                          · as_aux_lemma =>
                              have e2 := HS.out.trans (ans_dead (x := x) (C := C) (A := A) (yv := (y1, y2, y3)) HO.out.1 HO.out.2).2
                              have e1 := HR.out.trans (ans_dead (x := x) (C := C) (A := A) (yv := (y1, y2, y3)) HO.out.1 HO.out.2).1
                              simp only [zero3, Res.mk.injEq, Prod.mk.injEq] at e1
                              obtain ⟨⟨rfl, rfl, rfl⟩, rfl, rfl, rfl⟩ := e1
                              simp only [zero3, Prod.mk.injEq] at e2
                              obtain ⟨⟨rfl, rfl, rfl⟩, rfl⟩ := e2
                              obtain ⟨-, ⟨k16_0, k16_1, k16_2⟩, -⟩ := (C23.out _ U33.out).1
                              obtain ⟨-, ⟨k18_0, k18_1, k18_2⟩, -⟩ := (C23.out _ U33.out).2.1
                              obtain ⟨-, ⟨k22_0, k22_1, k22_2⟩, -⟩ := (C23.out _ U33.out).2.2
                              go_wp2_with (((with_reducible refine wpl_ne (0, 0, ⟨#[]⟩) (0, 0, ⟨#[]⟩) ?_ ?_ ?_ false (by simp) ?_); (· first | rfl | go_simp); (· rfl); (· rfl)))
                              go_roundw
                              case rel => exact ⟨j + 1, v', _, _, L, T, (by have := HTJ.out; omega), by go_num, HTJ.out.1, (by have := HTJ.out; omega), HTJ.out.2.2.1, by rw [HK.out.1, HK.out.2]; exact (Ps.same P15.out MM.out rfl rfl).up (U23.out.trans U33.out)⟩
                              case measure => have := HTJ.out.2.2.2; simp [intOf]; omega
                          · as_aux_lemma =>
                              have e2 := (HS.out.trans (ans_plain (yv := (y1, y2, y3)) HO.out.1 HO.out.2)).symm
                              simp only [Prod.mk.injEq] at e2
                              obtain ⟨⟨rfl, rfl, rfl⟩, rfl⟩ := e2
                              have k18a : ∀ xx : sb.Wd w33, xx.w.cell? ⟨b18, 0, none⟩ = some (.int .u8 y1) := fun xx => (C23.out _ (U33.out.trans xx.up)).2.1.2.1.1
                              have k18b : ∀ xx : sb.Wd w33, xx.w.cell? ⟨b18, 1, none⟩ = some (.int .i64 y2) := fun xx => (C23.out _ (U33.out.trans xx.up)).2.1.2.1.2.1
                              have k18c : ∀ xx : sb.Wd w33, xx.w.cell? ⟨b18, 2, none⟩ = some (.string y3) := fun xx => (C23.out _ (U33.out.trans xx.up)).2.1.2.1.2.2
                              have k5a : ∀ xx : sb.Wd w33, xx.w.cell? ⟨b5, 0, none⟩ = some (.int .u8 pk) := fun xx => (V23.out _ (U33.out.trans xx.up)).2.2.2.2.1
                              have k5b : ∀ xx : sb.Wd w33, xx.w.cell? ⟨b5, 1, none⟩ = some (.int .i64 pn) := fun xx => (V23.out _ (U33.out.trans xx.up)).2.2.2.2.2.1
                              have k5c : ∀ xx : sb.Wd w33, xx.w.cell? ⟨b5, 2, none⟩ = some (.string pss) := fun xx => (V23.out _ (U33.out.trans xx.up)).2.2.2.2.2.2
                              have NV : ∀ W, (binOp .neq 51 (.agg #[.int .u8 y1, .int .i64 y2, .string y3]) (.agg #[.int .u8 y1, .int .i64 y2, .string y3])).run Tryz.prog W = .ok (.bool false) W := fun W => sb.ne_same (y1, y2, y3) W
                              go_upto_region 36 with (fail)
                              refine sb.wp_region_up (by kernel_rfl) (by kernel_rfl) ?_
                              repeat (go_big_quiet_step ((rename_i xq; refine (YX.out _).mono ?_; rintro e w2 ⟨rfl, hu⟩; exact ⟨rfl, ⟨_, xq.up.trans hu⟩, rfl⟩)))
                              refine wpQuiet_nil ?_
                              intro _ hw'
                              obtain ⟨x36, rfl⟩ := hw'
                              clear k18a k18b k18c k5a k5b k5c NV
                              have U36 : Hid (Up w23 x36.w) := U33.out.trans x36.up
                              generalize x36.w = w36 at U36 ⊢
                              have o1 : w36.cell? ⟨b15, 1, none⟩ = some (.int .i64 x.owner) := (B23.out _ U36.out).cell 1
                              have o2 : w36.cell? ⟨b15, 2, none⟩ = some (.int .i64 x.m) := (B23.out _ U36.out).cell 2
                              have d13 : w36.cell? ⟨b13, 0, none⟩ = some (.int .i64 (mm : Int)) := (V23.out _ U36.out).2.2.2.1
                              by_cases hne : x.owner = f
                              rotate_left
                              · as_aux_lemma =>
                                  have e1 := HR.out.trans (ans_owner (x := x) (C := C) (A := A) HO.out.1 HO.out.2 hne)
                                  simp only [zero3, Res.mk.injEq, Prod.mk.injEq] at e1
                                  obtain ⟨⟨rfl, rfl, rfl⟩, rfl, rfl, rfl⟩ := e1
                                  have z1 : (x.owner == f) = false := beq_eq_false_iff_ne.2 hne
                                  have z2 : decide (x.owner = f) = false := decide_eq_false hne
                                  have z3 : (x.owner != f) = true := by simpa using hne
                                  have z4 : decide (¬ x.owner = f) = true := decide_eq_true hne
                                  clear hne
                                  obtain ⟨-, ⟨k16_0, k16_1, k16_2⟩, -⟩ := (C23.out _ U36.out).1
                                  obtain ⟨-, ⟨k22_0, k22_1, k22_2⟩, -⟩ := (C23.out _ U36.out).2.2
                                  go_wp2_with (((with_reducible refine wpl_ne (0, 0, ⟨#[]⟩) (0, 0, ⟨#[]⟩) ?_ ?_ ?_ false (by simp) ?_); (· first | rfl | go_simp); (· rfl); (· rfl)))
                                  go_roundw
                                  case rel => exact ⟨j + 1, v', _, _, L, T, (by have := HTJ.out; omega), by go_num, HTJ.out.1, (by have := HTJ.out; omega), HTJ.out.2.2.1, by rw [HK.out.1, HK.out.2]; exact (Ps.same P15.out MM.out rfl rfl).up (U23.out.trans U36.out)⟩
                                  case measure => have := HTJ.out.2.2.2; simp [intOf]; omega
                              · have HW := Lib.hid hne
                                rw [hne] at o1
                                clear hne
                                by_cases hne : x.m = (mm : Int)
                                · as_aux_lemma =>
                                    have e1 := HR.out.trans (ans_back (x := x) (C := C) (A := A) HO.out.1 HO.out.2 HW.out hne)
                                    simp only [zero3, Res.mk.injEq, Prod.mk.injEq] at e1
                                    obtain ⟨⟨rfl, rfl, rfl⟩, rfl, rfl, rfl⟩ := e1
                                    have tl : x.target < 9223372036854775808 := target_lt P15.out.th P15.out.st.wr.nt P15.out.st.wr.rm HXM.out (by omega)
                                    have TX := Lib.hid (object_x x.target tl)
                                    simp only [val] at TX
                                    rw [hne] at o2
                                    clear hne tl
                                    have s1_ : ((mm : Int) != (mm : Int)) = false := by simp
                                    have s2_ : ((mm : Int) == (mm : Int)) = true := by simp
                                    have sf : (f != f) = false := by simp
                                    have k16a : ∀ xx : sb.Wd w36, xx.w.cell? ⟨b16, 0, none⟩ = some (.int .u8 5) := fun xx => (C23.out _ (U36.out.trans xx.up)).1.2.1.1
                                    have k16b : ∀ xx : sb.Wd w36, xx.w.cell? ⟨b16, 1, none⟩ = some (.int .i64 (x.target : Int)) := fun xx => (C23.out _ (U36.out.trans xx.up)).1.2.1.2.1
                                    have k16c : ∀ xx : sb.Wd w36, xx.w.cell? ⟨b16, 2, none⟩ = some (.string ⟨#[]⟩) := fun xx => (C23.out _ (U36.out.trans xx.up)).1.2.1.2.2
                                    have k15 : ∀ xx : sb.Wd w36, xx.w.cell? ⟨b15, 3, none⟩ = some (.int .u64 (x.target : Int)) := fun xx => (B23.out _ (U36.out.trans xx.up)).cell 3
                                    have NV : ∀ W, (binOp .neq 51 (.agg #[.int .u8 5, .int .i64 (x.target : Int), .string ⟨#[]⟩]) (.agg #[.int .u8 5, .int .i64 (x.target : Int), .string ⟨#[]⟩])).run Tryz.prog W = .ok (.bool false) W := fun W => sb.ne_same (5, (x.target : Int), ⟨#[]⟩) W
                                    go_upto_region 42 with (fail)
                                    refine sb.wp_region_up (by kernel_rfl) (by kernel_rfl) ?_
                                    repeat (go_big_quiet_step ((rename_i xq; refine (TX.out _).mono ?_; rintro e w2 ⟨rfl, rfl⟩; exact ⟨rfl, ⟨_, xq.up.alloc _⟩, rfl⟩)))
                                    refine wpQuiet_nil ?_
                                    intro _ hw'
                                    obtain ⟨x42, rfl⟩ := hw'
                                    clear k16a k16b k16c k15 NV
                                    go_wp2_with fail
                                    go_roundw
                                    case rel => exact ⟨j + 1, v', _, _, L, T, (by have := HTJ.out; omega), by go_num, HTJ.out.1, (by have := HTJ.out; omega), HTJ.out.2.2.1, by rw [HK.out.1, HK.out.2]; exact (Ps.same P15.out MM.out rfl rfl).up (U23.out.trans (U36.out.trans x42.up))⟩
                                    case measure => have := HTJ.out.2.2.2; simp [intOf]; omega
                                · have HN := Lib.hid hne
                                  have z1 : (x.m == (mm : Int)) = false := beq_eq_false_iff_ne.2 hne
                                  have z2 : decide (x.m = (mm : Int)) = false := decide_eq_false hne
                                  have z3 : (x.m != (mm : Int)) = true := by simpa using hne
                                  have z4 : decide (¬ x.m = (mm : Int)) = true := decide_eq_true hne
                                  have sf : (f != f) = false := by simp
                                  clear hne
                                  go_upto_region 44 with (fail)
                                  clear z1 z2 z3 z4 sf o1 o2
                                  have o0 : w36.cell? ⟨b15, 0, none⟩ = some (.int .u64 (x.r : Int)) := (B23.out _ U36.out).cell 0
                                  have TR : Hid (∀ wx, Up w23 wx → wx.ownsRow 0 43 5 (.slice (some ⟨g8, 0, none⟩) T.length c8) T.length (T.flatMap cellsT)) := fun wx u => owns_chg (owns_chg P15.out.row MM.out.cg (fun b hb => (P15.out.nb b hb).1)) (U23.out.trans u).chg (by simp)
                                  have IX := Lib.hid (index_tz (.slice (some ⟨g8, 0, none⟩) T.length c8) T b13 b15 (mm : Int) x.r w36 (ths_of (TR.out _ U36.out)) d13 o0 (by have := HTJ.out; omega))
                                  clear d13 o0
                                  go_cut [23] from 261 to 263 (fun z wx => ∃ zi : Int, z = .int .i64 zi ∧ ((zi = -1 ∧ ∀ y ∈ T, hitT (mm : Int) x.r y = false) ∨ ∃ (k : Nat) (y : Th), T[k]? = some y ∧ hitT (mm : Int) x.r y = true ∧ zi = (k : Int)) ∧ Up w36 wx)
                                  case first =>
                                    go_wp2_with (go_at_call 12; refine IX.out.mono ?_; rintro e w44 ⟨zi, rfl, hz, hu⟩)
                                    go_meet
                                    exact ⟨zi, rfl, hz, hu⟩
                                  case rest =>
                                    obtain ⟨zi, rfl, hz, hU44⟩ := hcut
                                    obtain ⟨w44, e44⟩ : ∃ x, x = wc := ⟨_, rfl⟩
                                    subst e44
                                    have U44 : Hid (Up w23 w44) := U36.out.trans hU44
                                    clear hU44 IX
                                    rcases hz with ⟨rfl, hno⟩ | ⟨k, y, hk5, hh, rfl⟩
                                    rotate_left
                                    · as_aux_lemma =>
                                        have hc : C (mm : Int) x.r = some y.r := hit_of P15.out.th P15.out.st.wr.nt (by omega) (List.mem_of_getElem? hk5) hh
                                        have e1 := HR.out.trans (ans_hit (x := x) (C := C) (A := A) HO.out.1 HO.out.2 HW.out HN.out hc)
                                        simp only [zero3, Res.mk.injEq, Prod.mk.injEq] at e1
                                        obtain ⟨⟨rfl, rfl, rfl⟩, rfl, rfl, rfl⟩ := e1
                                        have yl : y.r < 9223372036854775808 := name_of P15.out.th P15.out.st.wr.rm (List.mem_of_getElem? hk5)
                                        have TX := Lib.hid (object_x y.r yl)
                                        simp only [val] at TX
                                        have hkT : k < T.length := (List.getElem?_eq_some_iff.1 hk5).1
                                        have hkl : (k : Int) < (T.length : Int) := by omega
                                        have hk0 : (k : Int) ≥ 0 := by omega
                                        have hk1 : decide ((k : Int) ≥ 0) = true := decide_eq_true hk0
                                        have HY5 := Lib.hid hk5
                                        clear hc yl hk5 hh hkT
                                        have k16a : ∀ xx : sb.Wd w44, xx.w.cell? ⟨b16, 0, none⟩ = some (.int .u8 5) := fun xx => (C23.out _ (U44.out.trans xx.up)).1.2.1.1
                                        have k16b : ∀ xx : sb.Wd w44, xx.w.cell? ⟨b16, 1, none⟩ = some (.int .i64 (y.r : Int)) := fun xx => (C23.out _ (U44.out.trans xx.up)).1.2.1.2.1
                                        have k16c : ∀ xx : sb.Wd w44, xx.w.cell? ⟨b16, 2, none⟩ = some (.string ⟨#[]⟩) := fun xx => (C23.out _ (U44.out.trans xx.up)).1.2.1.2.2
                                        have k8 : ∀ xx : sb.Wd w44, xx.w.cell? ⟨g8, k * 5, none⟩ = some (.int .u64 (y.r : Int)) := fun xx => (ths_cells (TR.out _ (U44.out.trans xx.up)) k y HY5.out).1
                                        have NV : ∀ W, (binOp .neq 51 (.agg #[.int .u8 5, .int .i64 (y.r : Int), .string ⟨#[]⟩]) (.agg #[.int .u8 5, .int .i64 (y.r : Int), .string ⟨#[]⟩])).run Tryz.prog W = .ok (.bool false) W := fun W => sb.ne_same (5, (y.r : Int), ⟨#[]⟩) W
                                        go_upto_region 50 with (fail)
                                        refine sb.wp_region_up (by kernel_rfl) (by kernel_rfl) ?_
                                        repeat (go_big_quiet_step ((rename_i xq; refine (TX.out _).mono ?_; rintro e w2 ⟨rfl, rfl⟩; exact ⟨rfl, ⟨_, xq.up.alloc _⟩, rfl⟩)))
                                        refine wpQuiet_nil ?_
                                        intro _ hw'
                                        obtain ⟨x50, rfl⟩ := hw'
                                        clear k16a k16b k16c k8 NV
                                        go_wp2_with fail
                                        go_roundw
                                        case rel => exact ⟨j + 1, v', _, _, L, T, (by have := HTJ.out; omega), by go_num, HTJ.out.1, (by have := HTJ.out; omega), HTJ.out.2.2.1, by rw [HK.out.1, HK.out.2]; exact (Ps.same P15.out MM.out rfl rfl).up (U23.out.trans (U44.out.trans x50.up))⟩
                                        case measure => have := HTJ.out.2.2.2; simp [intOf]; omega
                                    · have hc : C (mm : Int) x.r = none := nohit_of P15.out.th P15.out.st.wr.nt hno
                                      have HC := Lib.hid hc
                                      clear hno hc
                                      have o4 : w44.cell? ⟨b15, 4, none⟩ = some (.int .i64 x.deep) := (B23.out _ U44.out).cell 4
                                      by_cases hne : x.deep = 6
                                      · as_aux_lemma =>
                                          have e1 := HR.out.trans (ans_chain (x := x) (C := C) (A := A) HO.out.1 HO.out.2 HW.out HN.out HC.out hne)
                                          simp only [zero3, Res.mk.injEq, Prod.mk.injEq] at e1
                                          obtain ⟨⟨rfl, rfl, rfl⟩, rfl, rfl, rfl⟩ := e1
                                          rw [hne] at o4
                                          clear hne
                                          obtain ⟨-, ⟨k16_0, k16_1, k16_2⟩, -⟩ := (C23.out _ U44.out).1
                                          obtain ⟨-, ⟨k22_0, k22_1, k22_2⟩, -⟩ := (C23.out _ U44.out).2.2
                                          go_wp2_with (((with_reducible refine wpl_ne (0, 0, ⟨#[]⟩) (0, 0, ⟨#[]⟩) ?_ ?_ ?_ false (by simp) ?_); (· first | rfl | go_simp); (· rfl); (· rfl)))
                                          go_roundw
                                          case rel => exact ⟨j + 1, v', _, _, L, T, (by have := HTJ.out; omega), by go_num, HTJ.out.1, (by have := HTJ.out; omega), HTJ.out.2.2.1, by rw [HK.out.1, HK.out.2]; exact (Ps.same P15.out MM.out rfl rfl).up (U23.out.trans U44.out)⟩
                                          case measure => have := HTJ.out.2.2.2; simp [intOf]; omega
                                      · as_aux_lemma =>
                                          have H6 := Lib.hid hne
                                          have z1 : (x.deep == 6) = false := beq_eq_false_iff_ne.2 hne
                                          have z2 : decide (x.deep = 6) = false := decide_eq_false hne
                                          have z3 : (x.deep != 6) = true := by simpa using hne
                                          have z4 : decide (¬ x.deep = 6) = true := decide_eq_true hne
                                          clear hne
                                          go_upto_region 45 with (fail)
                                          clear z1 z2 z3 z4 o4
                                          have RM := Lib.hid P15.out.st.wr.rm
                                          have e1 := HR.out.trans (ans_new (x := x) (C := C) (A := A) HO.out.1 HO.out.2 HW.out HN.out HC.out H6.out)
                                          simp only [zero3, Res.mk.injEq, Prod.mk.injEq] at e1
                                          obtain ⟨⟨rfl, rfl, rfl⟩, rfl, rfl, rfl⟩ := e1
                                          obtain ⟨gO, off, hG, hOb⟩ := obj_of MM.out.st (find_add_new RM.out (proxyOb (tt : Int) (mm : Int) x.r (x.deep + 1)))
                                          have UA : Hid (Up w19 w44) := U23.out.trans U44.out
                                          have GX := Lib.hid (fun wx (u : Up w44 wx) => hG wx (UA.out.trans u))
                                          have RXn := Lib.hid (ref_x A.name (name_lt RM.out) ⟨#[]⟩)
                                          have HOb := Lib.hid hOb
                                          clear hG hOb
                                          have kq : ∀ xx : sb.Wd w44, xx.w.cell? ⟨q, 0, none⟩ = some (.pointer (some ⟨p, 0, none⟩)) := fun xx => (V23.out _ (U44.out.trans xx.up)).2.1
                                          have k16a : ∀ xx : sb.Wd w44, xx.w.cell? ⟨b16, 0, none⟩ = some (.int .u8 5) := fun xx => (C23.out _ (U44.out.trans xx.up)).1.2.1.1
                                          have k16b : ∀ xx : sb.Wd w44, xx.w.cell? ⟨b16, 1, none⟩ = some (.int .i64 (A.name : Int)) := fun xx => (C23.out _ (U44.out.trans xx.up)).1.2.1.2.1
                                          have k16c : ∀ xx : sb.Wd w44, xx.w.cell? ⟨b16, 2, none⟩ = some (.string ⟨#[]⟩) := fun xx => (C23.out _ (U44.out.trans xx.up)).1.2.1.2.2
                                          refine sb.wp_region_up (by kernel_rfl) (by kernel_rfl) ?_
                                          repeat (go_big_quiet_step ((first | (rename_i xq; (with_reducible refine (RXn.out _).mono ?_); rintro e w2 ⟨rfl, rfl⟩; exact ⟨rfl, ⟨_, xq.up.alloc _⟩, rfl⟩) | (rename_i xq; (with_reducible refine (GX.out _ xq.up).mono ?_); rintro e w2 ⟨rfl, hu⟩; exact ⟨rfl, ⟨_, xq.up.trans hu⟩, rfl⟩))))
                                          refine wpQuiet_nil ?_
                                          intro _ hw'
                                          obtain ⟨x45, rfl⟩ := hw'
                                          clear kq k16a k16b k16c GX
                                          have U45 : Hid (Up w23 x45.w) := U44.out.trans x45.up
                                          have UB : Hid (Up w19 x45.w) := UA.out.trans x45.up
                                          generalize x45.w = w45 at U45 UB ⊢
                                          obtain ⟨hd0, hd6⟩ := P15.out.th.dp x HXM.out
                                          have hwd : IntKind.i64.wrap (x.deep + 1) = x.deep + 1 := by rw [IntKind.wrap_i64] <;> omega
                                          clear hd0 hd6
                                          have CX : Hid (∀ wx, Up w45 wx → Calls Tryz.prog 16 #[.slice (some ⟨g8, 0, none⟩) T.length c8, .func (.func 17) #[] #[.pointer (some ⟨b16, 0, none⟩)]] wx fun e w' => e = .returned (.bool false) ∧ Up wx w') := fun wx u => contains_o (.slice (some ⟨g8, 0, none⟩) T.length c8) T b16 A.name wx (ths_of (TR.out _ (U45.out.trans u))) (C23.out _ (U45.out.trans u)).1.2.1 (Ths.new P15.out.th RM.out) (name_lt RM.out) (by have := HTJ.out; omega)
                                          have kO0 : ∀ xx : sb.Wd w45, xx.w.cell? ⟨gO, off, none⟩ = some (.int .u8 6) := fun xx => up_cell (UB.out.trans xx.up) (HOb.out 0 _ rfl)
                                          have kO1 : ∀ xx : sb.Wd w45, xx.w.cell? ⟨gO, off + 1, none⟩ = some (.int .i64 (tt : Int)) := fun xx => up_cell (UB.out.trans xx.up) (HOb.out 1 _ rfl)
                                          have kO9 : ∀ xx : sb.Wd w45, xx.w.cell? ⟨gO, off + 11, none⟩ = some (.int .i64 (mm : Int)) := fun xx => up_cell (UB.out.trans xx.up) (HOb.out 11 _ rfl)
                                          have kOa : ∀ xx : sb.Wd w45, xx.w.cell? ⟨gO, off + 12, none⟩ = some (.int .u64 (x.r : Int)) := fun xx => up_cell (UB.out.trans xx.up) (HOb.out 12 _ rfl)
                                          have kOb : ∀ xx : sb.Wd w45, xx.w.cell? ⟨gO, off + 13, none⟩ = some (.int .i64 (x.deep + 1)) := fun xx => up_cell (UB.out.trans xx.up) (HOb.out 13 _ rfl)
                                          have kd : ∀ xx : sb.Wd w45, xx.w.cell? ⟨b13, 0, none⟩ = some (.int .i64 (mm : Int)) := fun xx => (V23.out _ (U45.out.trans xx.up)).2.2.2.1
                                          have kr : ∀ xx : sb.Wd w45, xx.w.cell? ⟨b15, 0, none⟩ = some (.int .u64 (x.r : Int)) := fun xx => (B23.out _ (U45.out.trans xx.up)).cell 0
                                          have kp : ∀ xx : sb.Wd w45, xx.w.cell? ⟨b15, 4, none⟩ = some (.int .i64 x.deep) := fun xx => (B23.out _ (U45.out.trans xx.up)).cell 4
                                          have sf0 : ((mm : Int) != (mm : Int)) = false := by simp
                                          have sf1 : ((tt : Int) != (tt : Int)) = false := by simp
                                          have sf2 : ((x.r : Int) != (x.r : Int)) = false := by simp
                                          have sf3 : ((x.deep + 1) != (x.deep + 1)) = false := by simp
                                          have sn0 : (mm != mm) = false := by simp
                                          have sn1 : (tt != tt) = false := by simp
                                          have sn2 : (x.r != x.r) = false := by simp
                                          go_upto_region 46 with (fail)
                                          refine sb.wp_region_up (by kernel_rfl) (by kernel_rfl) ?_
                                          repeat (go_big_quiet_step ((rename_i xq; refine (CX.out _ xq.up).mono ?_; rintro e w2 ⟨rfl, hu⟩; exact ⟨rfl, ⟨_, xq.up.trans hu⟩, rfl⟩)))
                                          refine wpQuiet_nil ?_
                                          intro _ hw'
                                          obtain ⟨x46, rfl⟩ := hw'
                                          clear kO0 kO1 kO9 kOa kOb kd kr kp sf0 sf1 sf2 sf3 sn0 sn1 sn2 CX
                                          have U46 : Hid (Up w23 x46.w) := U45.out.trans x46.up
                                          have UC : Hid (Up w19 x46.w) := UB.out.trans x46.up
                                          generalize x46.w = w46 at U46 UC ⊢
                                          have HQ : Hid (∀ w', Up w46 w' → w'.cell? ⟨b16, 0, none⟩ = some (.int .u8 5) ∧ w'.cell? ⟨b16, 1, none⟩ = some (.int .i64 (A.name : Int)) ∧ w'.cell? ⟨b16, 2, none⟩ = some (.string ⟨#[]⟩) ∧ w'.cell? ⟨b13, 0, none⟩ = some (.int .i64 (mm : Int)) ∧ w'.cell? ⟨b15, 0, none⟩ = some (.int .u64 (x.r : Int)) ∧ w'.cell? ⟨b15, 4, none⟩ = some (.int .i64 x.deep)) := fun w' u => by
                                            have h1 := (C23.out _ (U46.out.trans u)).1.2.1
                                            have h2 := B23.out _ (U46.out.trans u)
                                            exact ⟨h1.1, h1.2.1, h1.2.2, (V23.out _ (U46.out.trans u)).2.2.2.1, h2.cell 0, h2.cell 4⟩
                                          have HQC : Hid (∀ w', Chg [g8] w46 w' → w'.cell? ⟨b16, 0, none⟩ = some (.int .u8 5) ∧ w'.cell? ⟨b16, 1, none⟩ = some (.int .i64 (A.name : Int)) ∧ w'.cell? ⟨b16, 2, none⟩ = some (.string ⟨#[]⟩) ∧ w'.cell? ⟨b13, 0, none⟩ = some (.int .i64 (mm : Int)) ∧ w'.cell? ⟨b15, 0, none⟩ = some (.int .u64 (x.r : Int)) ∧ w'.cell? ⟨b15, 4, none⟩ = some (.int .i64 x.deep)) := fun w' c => by
                                            obtain ⟨h1, h2, h3, h4, h5, h6⟩ := HQ.out _ (Up.refl w46)
                                            have z1 : g8 < b12 := NG.out g8 rfl
                                            have z2 := HGE.out
                                            have z3 := NX.out
                                            have z4 := (P15.out.row.lt g8 rfl).2
                                            have z5 := MM.out.xn
                                            have n16 : b16 ∉ [g8] := fun h => by have := List.mem_singleton.1 h; omega
                                            have n13 : b13 ∉ [g8] := fun h => by have := List.mem_singleton.1 h; omega
                                            have n15 : b15 ∉ [g8] := fun h => by have := List.mem_singleton.1 h; omega
                                            exact ⟨(c.cell (World.block_lt_of_cell? _ _ h1) n16).trans h1, (c.cell (World.block_lt_of_cell? _ _ h2) n16).trans h2, (c.cell (World.block_lt_of_cell? _ _ h3) n16).trans h3, (c.cell (World.block_lt_of_cell? _ _ h4) n13).trans h4, (c.cell (World.block_lt_of_cell? _ _ h5) n15).trans h5, (c.cell (World.block_lt_of_cell? _ _ h6) n15).trans h6⟩
                                          have HROW := Lib.hid (TR.out _ U46.out)
                                          have HBL : Hid (T.length + 1 ≤ maxLen ∧ (T.length + 1) * 40 ≤ 140737488355328) := by have := HTJ.out; exact ⟨by unfold maxLen; omega, by omega⟩
                                          have ht2 := Lib.hid (Ths.add (k := kk) P15.out.th RM.out (into := (tt : Int)) (m := (mm : Int)) HI.out (by omega) HXM.out H6.out)
                                          go_upto_region 48 with (fail)
                                          refine AnyT.start (S := fun w' => w'.cell? ⟨b16, 0, none⟩ = some (.int .u8 5) ∧ w'.cell? ⟨b16, 1, none⟩ = some (.int .i64 (A.name : Int)) ∧ w'.cell? ⟨b16, 2, none⟩ = some (.string ⟨#[]⟩) ∧ w'.cell? ⟨b13, 0, none⟩ = some (.int .i64 (mm : Int)) ∧ w'.cell? ⟨b15, 0, none⟩ = some (.int .u64 (x.r : Int)) ∧ w'.cell? ⟨b15, 4, none⟩ = some (.int .i64 x.deep)) 13 (by kernel_rfl) (HQ.out _ (Up.refl w46).drew) (fun hHeld => ?_)
                                          have hUd : Up w46 w46.drew := (Up.refl w46).drew
                                          generalize World.drew w46 = wd at hUd hHeld ⊢
                                          refine AnyT.pick (i := 0) (oi := ⟨_, _, _, _, _, _⟩) (v := ?_) rfl (by kernel_rfl) (by kernel_rfl) (by kernel_rfl) (fun _ _ _ h => h) (Or.inl ⟨by rfl, ?y0_81⟩) ?_
                                          case' y0_81 => ((intro w hSw; go_simp) <;> (with_reducible rfl))
                                          try simp only [Act.put, List.setIfInBounds_toArray, List.set_cons_zero, List.set_cons_succ]
                                          refine AnyT.take (i := 1) (oi := ⟨_, _, _, _, _, _⟩) (v := ?_) rfl (by kernel_rfl) (by kernel_rfl) (by kernel_rfl) (by kernel_rfl) (fun _ _ _ h => h) (Or.inl ⟨by rfl, ?y1_82⟩) (by assumption) ?_
                                          case' y1_82 => ((intro w hSw; (try dsimp only at hSw); go_simp) <;> (with_reducible rfl))
                                          try simp only [Act.put, List.setIfInBounds_toArray, List.set_cons_zero, List.set_cons_succ]
                                          refine AnyT.pick (i := 3) (oi := ⟨_, _, _, _, _, _⟩) (v := ?_) rfl (by kernel_rfl) (by kernel_rfl) (by kernel_rfl) (fun _ _ _ h => h) (Or.inl ⟨by rfl, ?y3_83⟩) ?_
                                          case' y3_83 => ((intro w hSw; go_simp) <;> (with_reducible rfl))
                                          try simp only [Act.put, List.setIfInBounds_toArray, List.set_cons_zero, List.set_cons_succ]
                                          refine AnyT.take (i := 4) (oi := ⟨_, _, _, _, _, _⟩) (v := ?_) rfl (by kernel_rfl) (by kernel_rfl) (by kernel_rfl) (by kernel_rfl) (fun _ _ _ h => h) (Or.inl ⟨by rfl, ?y4_84⟩) (by assumption) ?_
                                          case' y4_84 => ((intro w hSw; (try dsimp only at hSw); go_simp) <;> (with_reducible rfl))
                                          try simp only [Act.put, List.setIfInBounds_toArray, List.set_cons_zero, List.set_cons_succ]
                                          refine AnyT.pick (i := 5) (oi := ⟨_, _, _, _, _, _⟩) (v := ?_) rfl (by kernel_rfl) (by kernel_rfl) (by kernel_rfl) (fun _ _ _ h => h) (Or.inl ⟨by rfl, ?y5_85⟩) ?_
                                          case' y5_85 => ((intro w hSw; go_simp) <;> (with_reducible rfl))
                                          try simp only [Act.put, List.setIfInBounds_toArray, List.set_cons_zero, List.set_cons_succ]
                                          refine AnyT.take (i := 6) (oi := ⟨_, _, _, _, _, _⟩) (v := ?_) rfl (by kernel_rfl) (by kernel_rfl) (by kernel_rfl) (by kernel_rfl) (fun _ _ _ h => h) (Or.inl ⟨by rfl, ?y6_86⟩) (by assumption) ?_
                                          case' y6_86 => ((intro w hSw; (try dsimp only at hSw); go_simp) <;> (with_reducible rfl))
                                          try simp only [Act.put, List.setIfInBounds_toArray, List.set_cons_zero, List.set_cons_succ]
                                          refine AnyT.pick (i := 7) (oi := ⟨_, _, _, _, _, _⟩) (v := ?_) rfl (by kernel_rfl) (by kernel_rfl) (by kernel_rfl) (fun _ _ _ h => h) (Or.inl ⟨by rfl, ?y7_87⟩) ?_
                                          case' y7_87 => ((intro w hSw; go_simp) <;> (with_reducible rfl))
                                          try simp only [Act.put, List.setIfInBounds_toArray, List.set_cons_zero, List.set_cons_succ]
                                          refine AnyT.take (i := 8) (oi := ⟨_, _, _, _, _, _⟩) (v := ?_) rfl (by kernel_rfl) (by kernel_rfl) (by kernel_rfl) (by kernel_rfl) (fun _ _ _ h => h) (Or.inl ⟨by rfl, ?y8_88⟩) (by assumption) ?_
                                          case' y8_88 => ((intro w hSw; (try dsimp only at hSw); go_simp) <;> (with_reducible rfl))
                                          try simp only [Act.put, List.setIfInBounds_toArray, List.set_cons_zero, List.set_cons_succ]
                                          refine AnyT.pick (i := 9) (oi := ⟨_, _, _, _, _, _⟩) (v := ?_) rfl (by kernel_rfl) (by kernel_rfl) (by kernel_rfl) (fun _ _ _ h => h) (Or.inl ⟨by rfl, ?y9_89⟩) ?_
                                          case' y9_89 => ((intro w hSw; go_simp) <;> (with_reducible rfl))
                                          try simp only [Act.put, List.setIfInBounds_toArray, List.set_cons_zero, List.set_cons_succ]
                                          refine AllT.go (rs := [2]) (by kernel_rfl) (by simp) ?_
                                          refine AllT.early (o := ⟨_, _, _, _, _, _⟩) rfl (fun K hK => ?_) ?_
                                          · go_simp
                                            go_at_call 15
                                            refine (RXn.out _).mono ?_
                                            rintro e w1o ⟨rfl, rfl⟩
                                            refine hK.out _ _ (HQ.out _ (hUd.alloc _)) (fun _ => ?_)
                                            clear hK K hHeld
                                            have hUo : Up w46 (wd.alloc (.cells #[.int .u8 5, .int .i64 (A.name : Int), .string ⟨#[]⟩] 51)) := hUd.alloc _
                                            generalize World.alloc wd _ = wo at hUo ⊢
                                            try simp only [Act.put, List.setIfInBounds_toArray, List.set_cons_zero, List.set_cons_succ]
                                            refine AnyT.pick (i := 10) (oi := ⟨_, _, _, _, _, _⟩) (v := ?_) rfl (by kernel_rfl) (by kernel_rfl) (by kernel_rfl) (fun _ _ _ h => h) (Or.inl ⟨by rfl, ?y10_90⟩) ?_
                                            case' y10_90 => ((intro w hSw; go_simp) <;> (with_reducible rfl))
                                            try simp only [Act.put, List.setIfInBounds_toArray, List.set_cons_zero, List.set_cons_succ]
                                            refine AllT.go (rs := [11]) (by kernel_rfl) (by simp) ?_
                                            refine AllT.early (o := ⟨_, _, _, _, _, _⟩) rfl (fun K hK => ?_) ?_
                                            · go_simp
                                              refine hK.out _ _ (HQ.out _ (hUo.alloc _)) (fun _ => ?_)
                                              clear hK K
                                              try simp only [Act.put, List.setIfInBounds_toArray, List.set_cons_zero, List.set_cons_succ]
                                              refine AllT.go (rs := [12]) (by kernel_rfl) (by simp) ?_
                                              refine AllT.early (o := ⟨_, _, _, _, _, _⟩) rfl (fun K hK => ?_) ?_
                                              · refine step_append_lies _ rfl (.tmp 324) (.tmp 335) 29 rfl 0 43 _ (.agg #[.int .u64 0, .int .i64 0, .int .i64 0, .int .u64 0, .int .i64 0]) 5 40 Tryz.underlying29 HIT.out.1 HIT.out.2.1 HIT.out.2.2.1 HIT.out.2.2.2 rfl (by decide) (.slice (some ⟨g8, 0, none⟩) T.length c8) T.length (T.flatMap cellsT) rfl (owns_chg HROW.out (hUo.alloc _).chg (by simp)) ⟨wo.heap.size, 0, none⟩ 1 1 [.int .u64 (A.name : Int), .int .i64 (tt : Int), .int .i64 (mm : Int), .int .u64 (x.r : Int), .int .i64 (x.deep + 1)] rfl rfl (World.news_of_block (cs := #[.int .u64 (A.name : Int), .int .i64 (tt : Int), .int .i64 (mm : Int), .int .u64 (x.r : Int), .int .i64 (x.deep + 1)]) (t := 43) (fr := (0, 0)) (heap_alloc_new wo _)) (by intro u hu; simp at hu; rcases hu with rfl | rfl | rfl | rfl | rfl <;> rfl) (by decide) HBL.out.1 HBL.out.2 (Nat.zero_le _) (wo.heap.size + 1) (by simp) ?_
                                                intro g gcap w5 hrow hgrow hat hlt5
                                                refine hK.out _ _ (HQC.out _ (((hUo.alloc (.cells #[.int .u64 (A.name : Int), .int .i64 (tt : Int), .int .i64 (mm : Int), .int .u64 (x.r : Int), .int .i64 (x.deep + 1)] 43)).chg.mono (by simp)).grown hgrow (fun b hb => .inl (by cases hb; simp)))) (fun _ => ?_)
                                                clear hK K
                                                have HG5 := Lib.hid (And.intro hrow (And.intro hgrow hat))
                                                clear hrow hgrow hat hlt5
                                                try simp only [Act.put, List.setIfInBounds_toArray, List.set_cons_zero, List.set_cons_succ]
                                                refine AnyT.pick (i := 13) (oi := ⟨_, _, _, _, _, _⟩) (v := ?_) rfl (by kernel_rfl) (by kernel_rfl) (by kernel_rfl) (fun _ _ _ h => h) (Or.inl ⟨by rfl, ?y13_91⟩) ?_
                                                case' y13_91 => ((intro w hSw; go_simp) <;> (with_reducible rfl))
                                                try simp only [Act.put, List.setIfInBounds_toArray, List.set_cons_zero, List.set_cons_succ]
                                                refine AnyT.done (by kernel_rfl) ?_ _
                                                go_wp2_with fail
                                                go_roundw
                                                case rel => exact ⟨j + 1, v', _, _, L, T ++ [⟨A.name, (tt : Int), (mm : Int), x.r, x.deep + 1⟩], (by have := HTJ.out; omega), by go_num, (by have := HTJ.out; simp; omega), (by have := HTJ.out; simp; omega), HTJ.out.2.2.1, by rw [HK.out.1, HK.out.2]; exact Ps.more P15.out MM.out (UC.out.trans hUo) ht2.out HG5.out.1 rfl HG5.out.2.1 HG5.out.2.2 (by simp)⟩
                                                case measure => have := HTJ.out.2.2.2; simp [intOf]; omega
                                              exact AllT.nil
                                            exact AllT.nil
                                          exact AllT.nil
        · have hte : j = gn := by omega
          subst hte
          go_wp2_with fail
          go_ret
          exact ⟨rfl, Up.trans HB0.out.1 PP.out.st.bel⟩
end Go.Proofs.YtmmfpkkkpeapeaaGreatDoor.wy
