/- SealBrands: the walk of the law. -/
import Derived.Test.YtojbphnkabfkpaaGreatDoorSd
import Derived.Test.YtojbphnkabfkpaaGreatDoorOp
import Derived.Test.YtojbphnkabfkpaaGreatDoorAwake
set_option linter.unusedVariables false
set_option linter.unusedSimpArgs false
namespace Go.Proofs.YtojbphnkabfkpaaGreatDoor.sb
open Go.RowKit Go.Maps mem rec ar op
attribute [local go_sem ↓] Go.wp_at_zero Go.wp_at_succ
set_option maxRecDepth 100000
set_option maxHeartbeats 20000000
theorem infoRef : (Tryz.prog.info? 28).map (fun i => (i.zero, i.size, i.bytes)) = some (some (.int .u64 0), 1, 8) := by kernel_rfl
theorem brands (ob off len ocap : Nat) (xs : Nat → Int) (vb voff vlen vcap : Nat) (vv : Nat → V3) (pa : Option Addr) (plen pcap : Nat) (ps : Nat → Int) (w : World) (hL : Laid w) (hob : ob < w.heap.size) (hlen0 : 0 < len) (hlen : len ≤ 6)
    (ho : ∀ j, j < len → U8At w ob (off + j * 1) (xs j)) (hvl : vlen ≤ 10) (hv : 0 < vlen → vb < w.heap.size ∧ ∀ j, j < vlen → VAt w vb (voff + j * 3) (vv j)) (hpl : plen ≤ 20)
    (hp : plen = 0 ∨ ∃ b o, pa = some ⟨b, o, none⟩ ∧ b < w.heap.size ∧ ∀ j, j < plen → U8At w b (o + j * 1) (ps j)) (va : Option Addr) (hva : 0 < vlen → va = some ⟨vb, voff, none⟩) :
    Calls Tryz.prog 4 #[.slice (some ⟨ob, off, none⟩) len ocap, .slice va vlen vcap, .slice pa plen pcap] w fun e w' => e = .returned (.bool true) ∧ Up w w' := by
  have HO := Lib.hid ho
  have HV := Lib.hid (And.intro hv hva)
  have HP := Lib.hid hp
  clear ho hv hp hva
  have il0 : ¬ ((len : Int) = 0) := by omega
  have il1 : (len : Int) ≤ 6 := by omega
  have il2 : (vlen : Int) ≤ 10 := by omega
  have il3 : (plen : Int) ≤ 20 := by omega
  have il4 : ((len : Int) == 0) = false := by simp; omega
  go_enter Tryz.func4, Tryz.ntmps4
  go_upto_region 5 with (go_at_call 22; refine (awake14 _ hL).mono ?_; rintro e w0 ⟨rfl, hb0⟩)
  have h0 := hb0.size
  go_upto_region 8 with (first
    | (go_at_call 23; refine (new_arena _).mono ?_; rintro e w1 ⟨rfl, rfl⟩; obtain ⟨pt1, fo1⟩ := start_parts w0; have P1 := Lib.hid (owner_any _ _ _ _ 100 pt1 (by decide) (by decide) rfl))
    | (go_at_call 24; first | (refine P1.out.mono ?_; rintro e w1 ⟨v1, rfl, hP1, hC1, hF1⟩; have P2 := Lib.hid (owner_any _ _ _ _ 100 hP1 (by decide) (by decide) rfl); clear P1) | (refine P2.out.mono ?_; rintro e w2 ⟨v2, rfl, hP2, hC2, hF2⟩)))
  have start : Lp w w2 w0.heap.size v2 ⟨[], [], [100, 100], [0, 0]⟩ (fun j => ((xs j) % 2).toNat) [] 60 (.slice none 0 0) (.slice none 0 0) := by
    have f1 : ∀ b ∈ foot w0.heap.size v1, w0.heap.size ≤ b := fun b hb => by
      rcases hF1 b hb with h1 | h1
      · exact fo1 b h1
      · rw [World.size_alloc] at h1; omega
    have z1 := hC1.size
    rw [World.size_alloc] at z1
    have f2 : ∀ b ∈ foot w0.heap.size v2, w0.heap.size ≤ b := fun b hb => by
      rcases hF2 b hb with h1 | h1
      · exact f1 b h1
      · omega
    refine Lp.start _ hP2 (Room.mono room_two (by decide)) (Quo.mono (quo_two 0 (by decide)) (by decide)) (Quo.mono (quo_two 1 (by decide)) (by decide)) (fun b hb => Nat.le_trans h0 (f2 b hb)) ?_
    have b1 : Below w.heap.size w (w0.alloc (.cells #[.slice none 0 0, .slice none 0 0, .slice none 0 0, .slice none 0 0] 133)) := Below.alloc hb0 h0 _
    exact Below.trans (Below.trans b1 (hC1.below (by rw [World.size_alloc]; omega) (fun b hb => Nat.le_trans h0 (fo1 b hb)))) (hC2.below (by omega) (fun b hb => Nat.le_trans h0 (f1 b hb)))
  have ST := Lib.hid start
  clear start hP1 hC1 hF1 hP2 hC2 hF2 P2 pt1 fo1
  go_wp2_with fail
  go_loopw [8, 9, 54] (fun vs vu i wr => ∃ (t : Nat) (v : Nat → Value) (A : Ar) (l : List (Nat × Nat × Nat)), t ≤ len ∧ l.length = t ∧ i = .int .i64 t ∧ Lp w wr w0.heap.size v A (fun j => ((xs j) % 2).toNat) l (60 - 4 * t) vs vu) (fun _ _ i _ => len - (intOf i).toNat)
  case atStart => exact ⟨0, v2, _, [], by omega, rfl, rfl, ST.out⟩
  case round =>
    obtain ⟨t, v, A, l, ht, hl, rfl, hlp⟩ := hrel
    have LP := Lib.hid hlp
    clear hlp ST
    by_cases hlt : t < len
    · obtain ⟨hx, hx0, hx1⟩ := HO.out t hlt
      have cx := up_cell LP.out.bel hx
      simp only [Nat.mul_one] at cx
      obtain ⟨n, hn⟩ : ∃ n : Nat, (xs t) % 2 = (n : Int) := ⟨((xs t) % 2).toNat, by omega⟩
      have hns : ((xs t) % 2).toNat = n := by omega
      obtain ⟨x, hxx⟩ : ∃ x, x = xs t := ⟨_, rfl⟩
      rw [← hxx] at cx hn hx0 hx1 hns
      have HX := Lib.hid hxx
      clear hx hxx
      have hkk : 60 - 4 * t = (56 - 4 * t) + 4 := by omega
      have hn2 : n < 2 := by omega
      rw [hkk] at LP
      have hQ : Quo A n (56 - 4 * t + 4) := by
        rcases (by omega : n = 0 ∨ n = 1) with e | e
        · rw [e]; exact LP.out.q0
        · rw [e]; exact LP.out.q1
      obtain ⟨R, S, U, hTr, hBP⟩ := brand_parts wr w0.heap.size n _ v A LP.out.pt LP.out.rm hQ
      have BP := Lib.hid hBP
      have HN := Lib.hid (And.intro hns (And.intro hTr hn))
      rw [← hn] at BP
      clear hBP hns hTr hn hQ
      go_upto_region 13 with (go_at_call 25; refine BP.out.mono ?_; rintro e w3 ⟨v3, bm, g, rfl, hPC, hGA, hPA, ⟨hO1, hO2, hO3⟩, hLN⟩)
      have c1 := hO1 1 _ rfl
      have c3 := hO1 3 _ rfl
      have c4 := hO2 0 _ rfl
      have c5 := hO2 1 _ rfl
      have c6 := hO3 0 _ rfl
      have c7 := hO3 1 _ rfl
      simp only [recOb, obK, Nat.add_zero] at c1 c3 c4 c5 c6 c7
      rw [← HN.out.2.2] at c1 c5 c7
      have GA := Lib.hid hGA
      have PA := Lib.hid hPA
      have PC := Lib.hid hPC
      have LN := Lib.hid hLN
      have CC := Lib.hid (And.intro c1 (And.intro c3 (And.intro c4 (And.intro c5 (And.intro c6 c7)))))
      clear hGA hPA hPC hLN hO1 hO2 hO3 c1 c3 c4 c5 c6 c7 BP
      go_upto_region 14 with (go_at_call 26; refine (PA.out _ (Up.refl _)).mono ?_; rintro e w4 ⟨rfl, hU4⟩)
      go_cut [142] from 73 to 141 (fun a142 wx => a142 = .bool false ∧ Up w3 wx)
      case first =>
        go_wp2_with (first
          | (go_at_call 27; (first | (with_reducible refine (GA.out _ ?_ R (.inl rfl)).mono ?_; (· assumption); rintro e w5 ⟨rfl, hU5⟩) | (with_reducible refine (GA.out _ ?_ S (.inr (.inl rfl))).mono ?_; (· assumption); rintro e w5 ⟨rfl, hU5⟩) | (with_reducible refine (GA.out _ ?_ U (.inr (.inr rfl))).mono ?_; (· assumption); rintro e w5 ⟨rfl, hU5⟩)); (try clear d1 d3 d4 d5 d6 d7 dl); have d1 := up_cell hU5 CC.out.1; have d3 := up_cell hU5 CC.out.2.1; have d4 := up_cell hU5 CC.out.2.2.1; have d5 := up_cell hU5 CC.out.2.2.2.1; have d6 := up_cell hU5 CC.out.2.2.2.2.1; have d7 := up_cell hU5 CC.out.2.2.2.2.2; have dl := LN.out _ hU5))
        go_meet
        exact ⟨rfl, by assumption⟩
      case rest =>
        obtain ⟨rfl, hU9⟩ := hcut
        subst hl
        have RS : Hid (wc.ownsRow w.heap.size 28 1 u8 l.length (selS l)) := owns_chg (owns_chg LP.out.rs PC.out.2.1 (fun b hb => LP.out.ns_ b hb)) hU9.chg (by simp)
        have RU : Hid (wc.ownsRow w.heap.size 28 1 u9 l.length (selU l)) := owns_chg (owns_chg LP.out.ru PC.out.2.1 (fun b hb => LP.out.nu b hb)) hU9.chg (by simp)
        have HAP : Hid (u9.ownBlock = none ∨ u9.ownBlock ≠ u8.ownBlock) := by
          rcases LP.out.ap with h1 | h1
          · show _ ∨ _
            cases h2 : u9.ownBlock with
            | none => exact .inl rfl
            | some b => exact .inr (by rw [h1]; simp)
          · exact .inr (fun e => h1 e.symm)
        have hwc : w.heap.size ≤ wc.heap.size := Nat.le_trans LP.out.bel.size (Nat.le_trans PC.out.2.1.size hU9.size)
        obtain ⟨ir, hi, hz0, hz1, hz2⟩ := info_parts infoRef
        have HI := Lib.hid (And.intro hi (And.intro hz0 (And.intro hz1 hz2)))
        clear hi hz0 hz1 hz2 CC GA PA LN
        have HU9 := Lib.hid hU9
        clear hU9
        go_wp2_with (at_builtin; first
          | (refine wpList_append_lies _ rfl (.tmp 143) (.tmp 145) 56 rfl w.heap.size 28 ir (.int .u64 0) 1 8 Tryz.underlying56 HI.out.1 HI.out.2.1 HI.out.2.2.1 HI.out.2.2.2 rfl (by decide) u8 l.length (selS l) rfl (RS.out.alloc _) ⟨wc.heap.size, 0, none⟩ 1 1 [.int .u64 S] rfl rfl (World.news_of_block (cs := #[.int .u64 S]) (t := 28) (fr := (0, 0)) (by exact heap_alloc_new wc _)) (by intro u hu; simp at hu; subst hu; rfl) (by decide) (by unfold maxLen; omega) (by omega) (by simp; omega) (wc.heap.size + 1) (by simp) ?_; intro g1 cap1 w5 hown5 hgrow5 hat5 hlt5)
          | (refine wpList_append_lies _ rfl (.tmp 147) (.tmp 149) 56 rfl w.heap.size 28 ir (.int .u64 0) 1 8 Tryz.underlying56 HI.out.1 HI.out.2.1 HI.out.2.2.1 HI.out.2.2.2 rfl (by decide) u9 l.length (selU l) rfl (((RU.out.alloc _).kept hgrow5 HAP.out).alloc _) ⟨w5.heap.size, 0, none⟩ 1 1 [.int .u64 U] rfl rfl (World.news_of_block (cs := #[.int .u64 U]) (t := 28) (fr := (0, 0)) (by exact heap_alloc_new w5 _)) (by intro u hu; simp at hu; subst hu; rfl) (by decide) (by unfold maxLen; omega) (by omega) (by have := hgrow5.size; simp at this ⊢; omega) (w5.heap.size + 1) (by simp) ?_; intro g2 cap2 w6 hown6 hgrow6 hat6 hlt6))
        go_roundw
        case rel =>
          have e1 : (triple A n).2.1 = S := by rw [HN.out.2.1]
          have e2 : (triple A n).2.2 = U := by rw [HN.out.2.1]
          refine ⟨l.length + 1, v3, after A n bm, l ++ [triple A n], by omega, by simp, by go_num, ?_⟩
          rw [show 60 - 4 * (l.length + 1) = 56 - 4 * l.length by omega]
          exact Lp.next LP.out (by show ((xs l.length) % 2).toNat = n; rw [← HX.out]; exact HN.out.1) hn2 PC.out.1 PC.out.2.1 PC.out.2.2 HU9.out (by rw [e1]; exact hown5) rfl hgrow5 hat5 (by simp) (by rw [e2]; exact hown6) rfl hgrow6 hat6 (by simp)
        case measure => simp [intOf]; omega
    · have hte : t = len := by omega
      subst hte
      subst hl
      obtain ⟨gs, caps, hus, -, -⟩ := LP.out.rs.form hlen0
      obtain ⟨gu, capu, huu, -, -⟩ := LP.out.ru.form hlen0
      subst hus huu
      go_wp2_with fail
      go_loopw [154] (fun i w2 => ∃ (t : Nat) (v : Nat → Value) (A : Ar), t ≤ vlen ∧ i = .int .i64 t ∧ Lp w w2 w0.heap.size v A (fun j => ((xs j) % 2).toNat) l (36 - t) (.slice (some ⟨gs, 0, none⟩) l.length caps) (.slice (some ⟨gu, 0, none⟩) l.length capu)) (fun i _ => vlen - (intOf i).toNat)
      case atStart => exact ⟨0, v, A, by omega, rfl, LP.out.less (by omega)⟩
      case round =>
        obtain ⟨t, v, A, ht, rfl, hlp⟩ := hrel
        clear LP
        have LP := Lib.hid hlp
        clear hlp
        by_cases hlt : t < vlen
        · obtain ⟨hvb, hvj⟩ := HV.out.1 (by omega)
          have hva := HV.out.2 (by omega)
          subst hva
          obtain ⟨⟨hx0, hx1, hx2⟩, hxk, hxn, hxs⟩ := hvj t hlt
          have cx0 := up_cell LP.out.bel hx0
          have cx1 := up_cell LP.out.bel hx1
          have cx2 := up_cell LP.out.bel hx2
          obtain ⟨x, hxx⟩ : ∃ x, x = vv t := ⟨_, rfl⟩
          rw [← hxx] at cx0 cx1 cx2 hxk hxn hxs
          obtain ⟨k0, n0, s0⟩ := x
          clear hx0 hx1 hx2 hxx hvj
          simp only at cx0 cx1 cx2 hxk hxn hxs
          have hk36 : 36 - t = (35 - t) + 1 := by omega
          rw [hk36] at LP
          go_upto_if 162 with (fail)
          have UX : Up wr (wr.alloc (.cells #[.int .u8 k0, .int .i64 n0, .string s0] 36)) := (Up.refl wr).alloc _
          have BX := Lib.hid (has3_alloc wr (.int .u8 k0) (.int .i64 n0) (.string s0) 36)
          clear cx0 cx1 cx2
          go_cut [19, 162] from 163 to 170 (fun r c wx => ∃ k : Nat, k < l.length ∧ r = .int .i64 k ∧ wx = wr.alloc (.cells #[.int .u8 k0, .int .i64 n0, .string s0] 36))
          case first =>
            by_cases htp : t < plen
            · obtain ⟨pb, po, rfl, hpb, hpj⟩ := HP.out.resolve_left (by omega)
              obtain ⟨hc, hc0, hc1⟩ := hpj t htp
              have cp := up_cell LP.out.bel hc
              simp only [Nat.mul_one] at cp
              obtain ⟨k, hk, hke⟩ := tmod_small (a := ps t) hc0 hlen0
              have HKE := Lib.hid hke
              have hpwr : pb < wr.heap.size := Nat.lt_of_lt_of_le hpb LP.out.bel.size
              generalize ps t = pt at cp hc0 hc1 HKE
              clear hpj hc hke
              go_wp2_with fail
              go_meet
              exact ⟨k, hk, by rw [← HKE.out, Int.tmod_eq_emod_of_nonneg hc0], rfl⟩
            · go_wp2_with fail
              go_meet
              exact ⟨0, hlen0, rfl, rfl⟩
          case rest =>
            obtain ⟨k, hk, rfl, rfl⟩ := hcut
            obtain ⟨y, hy⟩ : ∃ y, l[k]? = some y := ⟨_, List.getElem?_eq_getElem hk⟩
            obtain ⟨hxo, hxo0, hxo1⟩ := HO.out k hk
            have cyo := up_cell LP.out.bel hxo
            have cys := LP.out.selAt hy
            simp only [Nat.mul_one] at cyo
            have HY := LP.out.br.hx k y hy
            obtain ⟨n, hn⟩ : ∃ n : Nat, (xs k) % 2 = (n : Int) := ⟨((xs k) % 2).toNat, by omega⟩
            have hns : ((xs k) % 2).toNat = n := by omega
            have hn2 : n < 2 := by omega
            simp only [hns] at HY
            obtain ⟨yb, yS, yU⟩ := y
            have hQ : Quo A n (35 - t + 1) := by
              rcases (by omega : n = 0 ∨ n = 1) with e | e
              · rw [e]; exact LP.out.q0
              · rw [e]; exact LP.out.q1
            obtain ⟨q, hq⟩ : ∃ q, q = vmk k0 n0 s0 := ⟨_, rfl⟩
            have MX : Hid (∀ wx, Calls Tryz.prog 14 #[.agg #[.int .u8 k0, .int .i64 n0, .string s0]] wx fun e w' => e = .returned (val q) ∧ w' = (wx.alloc (.cells #[.int .u8 k0, .int .i64 n0, .string s0] 36)).alloc (.cells #[.int .u8 q.1, .int .i64 q.2.1, .string q.2.2] 31)) := by
              show ∀ wx, _
              rw [hq]
              exact fun wx => make_x k0 n0 s0 hxk.1 hxk.2 wx
            clear hq
            have SC := Lib.hid (seal_box (q := q) LP.out hn2 hQ BX.out UX HY.hs HY.ls)
            have hnm : A.name < 9223372036854775808 := name_lt LP.out.rm
            have hnf := find_add_new LP.out.rm (boxOb n yb q)
            have HNM := Lib.hid (And.intro hnf (And.intro hns (And.intro hn HY)))
            generalize hNM : A.name = NM at SC hnm HNM
            obtain ⟨q0, q1, q2⟩ := q
            simp only [val] at SC MX
            have CK := Lib.hid (And.intro cyo (And.intro hy (And.intro hxo0 hxo1)))
            have HFO := Lib.hid (fun b (hb : b ∈ foot w0.heap.size v) => LP.out.pt.lt b hb)
            have hgs : gs < wr.heap.size := World.block_lt_of_cell? wr _ cys
            obtain ⟨b0, ⟨b1, b2, b3⟩, -⟩ := BX.out
            have cys1 := up_cell UX cys
            have ik0 : (0 : Int) ≤ (k : Int) := by omega
            have ik1 : (k : Int) < (l.length : Int) := by omega
            have ik2 : ¬ (l.length : Int) ≤ (k : Int) := by omega
            have hg1 : gs < wr.heap.size + 1 := by omega
            have hg2 : gs < wr.heap.size + 1 + 1 := by omega
            have hg3 : gs < wr.heap.size + 1 + 1 + 1 := by omega
            have hz1 : wr.heap.size < wr.heap.size + 1 := by omega
            have hz2 : wr.heap.size < wr.heap.size + 1 + 1 := by omega
            have hz3 : wr.heap.size < wr.heap.size + 1 + 1 + 1 := by omega
            clear hy hxo cyo hnf hns hn HY hQ hNM HV
            go_wp2_with fail
            go_cut [20, 21] from 171 to 181 (fun r20 r21 wx => ∃ (xb : Nat) (v3 : Nat → Value), r20 = .pointer (some ⟨xb, 0, none⟩) ∧ r21 = .int .i64 0 ∧ BoxEnd w wr wx w0.heap.size v3 (A.add (boxOb n yb (q0, q1, q2))) (fun j => ((xs j) % 2).toNat) l (35 - t) (.slice (some ⟨gs, 0, none⟩) l.length caps) (.slice (some ⟨gu, 0, none⟩) l.length capu) (.int .u8 k0) (.int .i64 n0) (.string s0) xb NM)
            case first =>
              go_region_with
                (first
                  | (go_at_call 14; refine (MX.out _).mono ?_; rintro e w2 ⟨rfl, rfl⟩)
                  | (go_at_call 28; refine (SC.out _ ?_).mono ?_; (· (repeat (first | (with_reducible exact Up.refl _) | (with_reducible refine Up.drew ?_) | (with_reducible refine Up.alloc ?_ _)))); rintro e w3 ⟨v3, rfl, hA3, hB3⟩; first | (refine step_of (hB3 (wr.heap.size + 1) (.int .u8 0) (.int .i64 0) (.string ⟨#[]⟩) hz1 ?_) (fun hE => ?_); (· unfold Has3; refine ⟨?_, ⟨?_, ?_, ?_⟩, ⟨?_, ?_, ?_⟩⟩ <;> go_simp); obtain ⟨⟨z0, ⟨z1, z2, z3⟩, ⟨z4, z5, z6⟩⟩, hE2⟩ := hE) | (refine step_of (hB3 (wr.heap.size + 1 + 1 + 1) (.int .u8 0) (.int .i64 0) (.string ⟨#[]⟩) hz3 ?_) (fun hE => ?_); (· unfold Has3; refine ⟨?_, ⟨?_, ?_, ?_⟩, ⟨?_, ?_, ?_⟩⟩ <;> go_simp); obtain ⟨⟨z0, ⟨z1, z2, z3⟩, ⟨z4, z5, z6⟩⟩, hE2⟩ := hE) | skip))
              all_goals
                go_wp2_with fail
                go_meet
                first
                  | (with_reducible exact ⟨_, v3, rfl, rfl, hA3 NM _⟩)
                  | (with_reducible exact ⟨_, v3, rfl, rfl, hE2 NM⟩)
            case rest =>
              obtain ⟨xb, v3, rfl, rfl, hxb, hX, hV3, hlp⟩ := hcut
              clear hgs hg1 hg2 hg3 hz1 hz2 hz3 SC BX UX b0 b1 b2 b3 cys1 cys LP HFO
              generalize wr.heap.size = xa at hxb hV3 ⊢
              have hnf := HNM.out.1
              obtain ⟨sl, hsl, -⟩ := find_slot hnf
              obtain ⟨g, cap, -, hog, -⟩ := hlp.pt.obAt hsl
              have OB := obAt_find hog hlp.pt hnf
              have o0 := OB 0 _ rfl
              have o1 := OB 1 _ rfl
              simp only [boxOb, Nat.add_zero] at o0 o1
              rw [← HNM.out.2.2.1] at o1
              have GA : Hid (∀ wx, Up wc wx → Calls Tryz.prog 27 #[.pointer (some ⟨w0.heap.size, 0, none⟩), .int .u64 NM] wx fun e w' => e = .returned (.pointer (some ⟨g, (NM % 4294967296) * 16 + 2, none⟩)) ∧ Up wc w') := by
                intro wx hx
                refine (ar.get_at wx w0.heap.size NM v3 _ _ g hog (hlp.pt.up hx) (by omega) hnf).mono ?_
                rintro e w' ⟨rfl, hU'⟩; exact ⟨rfl, hx.trans hU'⟩
              have RX := Lib.hid (ref_x NM hnm ⟨#[]⟩)
              have HLP := Lib.hid hlp
              have HX3 := Lib.hid (And.intro hX hV3)
              obtain ⟨x0, ⟨x1, x2, x3⟩, -⟩ := hX
              have cyo : wc.cell? ⟨ob, off + k, none⟩ = some (.int .u8 (xs k)) := by
                have h1 := (HO.out k hk).1
                simp only [Nat.mul_one] at h1
                exact up_cell HLP.out.bel h1
              have hxo0 := CK.out.2.2.1
              have hxo1 := CK.out.2.2.2
              have CO := Lib.hid (And.intro o0 (And.intro o1 cyo))
              clear hlp hV3 OB o0 o1 cyo hog hsl hnf
              go_upto_region 26 with (first
                | (go_at_call 29; refine (RX.out _).mono ?_; rintro e w4 ⟨rfl, rfl⟩)
                | (go_at_call 27; refine (GA.out _ ((Up.refl _).alloc _)).mono ?_; rintro e w5 ⟨rfl, hU5⟩))
              have o0 := up_cell hU5 CO.out.1
              have o1 := up_cell hU5 CO.out.2.1
              have cyo := up_cell hU5 CO.out.2.2
              go_quiet (fail)
              go_wp2_with fail
              have HUB := Lib.hid (up_drewN hU5 nq)
              clear o0 o1 cyo hU5 GA CO x0 x1 x2 x3
              go_loopw [214] (fun j wi => ∃ t2 : Nat, t2 ≤ l.length ∧ j = .int .i64 t2 ∧ Up wc wi) (fun j _ => l.length - (intOf j).toNat)
              case atStart => exact ⟨0, by omega, rfl, HUB.out⟩
              case round =>
                obtain ⟨t2, ht2, rfl, hUi⟩ := hrel
                have HUI := Lib.hid hUi
                clear hUi
                by_cases hl2 : t2 < l.length
                · obtain ⟨y2, hy2⟩ : ∃ y, l[t2]? = some y := ⟨_, List.getElem?_eq_getElem hl2⟩
                  have cu := up_cell HUI.out (HLP.out.unAt hy2)
                  obtain ⟨zb, ⟨x1, x2, x3⟩, -⟩ := HX3.out.1.up HUI.out
                  obtain ⟨zx, ⟨z1, z2, z3⟩, -⟩ := HX3.out.2.up HUI.out
                  have UN := Lib.hid (unseal_of HLP.out HUI.out hy2 CK.out.2.1 HNM.out.2.1 hnm HNM.out.1)
                  clear hy2
                  generalize y2.2.2 = yu at cu UN
                  by_cases htk : t2 = k
                  · rw [if_pos htk, if_pos htk] at UN
                    simp only [val] at UN
                    subst htk
                    have kn1 : ((t2 : Int) != (t2 : Int)) = false := by simp
                    have kn2 : (t2 != t2) = false := by simp
                    have kn3 : decide (¬ (t2 : Int) = (t2 : Int)) = false := by simp
                    have kz : ((t2 : Int) == (t2 : Int)) = true := by simp
                    go_upto_region 32 with (go_at_call 30; refine UN.out.mono ?_; rintro e w6 ⟨rfl, hU6⟩)
                    have Y6 := Lib.hid (has3_alloc w6 (.int .u8 q0) (.int .i64 q1) (.string q2) 31)
                    have X6 := Lib.hid ((HX3.out.2.up HUI.out).up (hU6.alloc (.cells #[.int .u8 q0, .int .i64 q1, .string q2] 31)))
                    have U6 := Lib.hid ((HUI.out.trans hU6).alloc (.cells #[.int .u8 q0, .int .i64 q1, .string q2] 31))
                    obtain ⟨-, ⟨y1, y2, y3⟩, -⟩ := Y6.out
                    obtain ⟨-, ⟨z1, z2, z3⟩, -⟩ := X6.out
                    have NV : ∀ W, (binOp .neq 31 (.agg #[.int .u8 q0, .int .i64 q1, .string q2]) (.agg #[.int .u8 q0, .int .i64 q1, .string q2])).run Tryz.prog W = .ok (.bool false) W := fun W => ne_same (q0, q1, q2) W
                    have NV2 : ∀ W, (binOp .neq 31 (.agg #[.int .u8 q0, .int .i64 q1, .string q2]) (.agg #[.int .u8 0, .int .i64 0, .string ⟨#[]⟩])).run Tryz.prog W = .ok (.bool (decide (((q0, q1, q2) : V3) ≠ (0, 0, ⟨#[]⟩)))) W := fun W => ne_val (q0, q1, q2) (0, 0, ⟨#[]⟩) W
                    generalize decide (((q0, q1, q2) : V3) ≠ (0, 0, ⟨#[]⟩)) = dd at NV2
                    clear y1 y2 y3 z1 z2 z3 hU6 x1 x2 x3 cu
                    clear NV2
                    have s1 : ∀ x : Wd (w6.alloc (.cells #[.int .u8 q0, .int .i64 q1, .string q2] 31)), x.w.cell? ⟨w6.heap.size, 0, none⟩ = some (.int .u8 q0) := fun x => up_cell x.up Y6.out.2.1.1
                    have s2 : ∀ x : Wd (w6.alloc (.cells #[.int .u8 q0, .int .i64 q1, .string q2] 31)), x.w.cell? ⟨w6.heap.size, 1, none⟩ = some (.int .i64 q1) := fun x => up_cell x.up Y6.out.2.1.2.1
                    have s3 : ∀ x : Wd (w6.alloc (.cells #[.int .u8 q0, .int .i64 q1, .string q2] 31)), x.w.cell? ⟨w6.heap.size, 2, none⟩ = some (.string q2) := fun x => up_cell x.up Y6.out.2.1.2.2
                    have s4 : ∀ x : Wd (w6.alloc (.cells #[.int .u8 q0, .int .i64 q1, .string q2] 31)), x.w.cell? ⟨xa, 0, none⟩ = some (.int .u8 k0) := fun x => up_cell x.up X6.out.2.1.1
                    have s5 : ∀ x : Wd (w6.alloc (.cells #[.int .u8 q0, .int .i64 q1, .string q2] 31)), x.w.cell? ⟨xa, 1, none⟩ = some (.int .i64 n0) := fun x => up_cell x.up X6.out.2.1.2.1
                    have s6 : ∀ x : Wd (w6.alloc (.cells #[.int .u8 q0, .int .i64 q1, .string q2] 31)), x.w.cell? ⟨xa, 2, none⟩ = some (.string s0) := fun x => up_cell x.up X6.out.2.1.2.2
                    refine wp_region_up (by kernel_rfl) (by kernel_rfl) ?_
                    repeat (go_big_quiet_step ((rename_i xq; refine (MX.out _).mono ?_; rintro e w2 ⟨rfl, rfl⟩; exact ⟨rfl, ⟨_, (xq.up.alloc _).alloc _⟩, rfl⟩)))
                    refine wpQuiet_nil ?_
                    intro _ hw'
                    obtain ⟨xq, rfl⟩ := hw'
                    go_wp2_with fail
                    go_roundw
                    case rel => exact ⟨t2 + 1, by omega, by go_num, U6.out.trans xq.up⟩
                    case measure => simp [intOf]; omega
                  · rw [if_neg htk, if_neg htk] at UN
                    simp only [val, zero3] at UN
                    have kz : decide ((t2 : Int) = (k : Int)) = false := by simp; omega
                    have ky : decide (t2 = k) = false := by simpa using htk
                    have kb : ((t2 : Int) == (k : Int)) = false := by simp; omega
                    have kn1 : ((t2 : Int) != (k : Int)) = true := by simp; omega
                    have kn2 : (t2 != k) = true := by simpa using htk
                    have kn3 : decide (¬ (t2 : Int) = (k : Int)) = true := by simp; omega
                    have kn4 : decide (¬ t2 = k) = true := by simpa using htk
                    have kn5 : ¬ (t2 : Int) = (k : Int) := by omega
                    go_upto_region 32 with (go_at_call 30; refine UN.out.mono ?_; rintro e w6 ⟨rfl, hU6⟩)
                    have Y6 := Lib.hid (has3_alloc w6 (.int .u8 0) (.int .i64 0) (.string ⟨#[]⟩) 31)
                    have X6 := Lib.hid ((HX3.out.2.up HUI.out).up (hU6.alloc (.cells #[.int .u8 0, .int .i64 0, .string ⟨#[]⟩] 31)))
                    have U6 := Lib.hid ((HUI.out.trans hU6).alloc (.cells #[.int .u8 0, .int .i64 0, .string ⟨#[]⟩] 31))
                    obtain ⟨-, ⟨y1, y2, y3⟩, -⟩ := Y6.out
                    have KP : Hid (∀ w', Up (w6.alloc (.cells #[.int .u8 0, .int .i64 0, .string ⟨#[]⟩] 31)) w' → (Up (w6.alloc (.cells #[.int .u8 0, .int .i64 0, .string ⟨#[]⟩] 31)) w' ∧ w'.cell? ⟨w6.heap.size, 0, none⟩ = some (.int .u8 0) ∧ w'.cell? ⟨w6.heap.size, 1, none⟩ = some (.int .i64 0) ∧ w'.cell? ⟨w6.heap.size, 2, none⟩ = some (.string ⟨#[]⟩) ∧ w'.cell? ⟨xa, 0, none⟩ = some (.int .u8 k0) ∧ w'.cell? ⟨xa, 1, none⟩ = some (.int .i64 n0) ∧ w'.cell? ⟨xa, 2, none⟩ = some (.string s0))) := fun w' hu =>
                      ⟨hu, up_cell hu Y6.out.2.1.1, up_cell hu Y6.out.2.1.2.1, up_cell hu Y6.out.2.1.2.2, up_cell hu X6.out.2.1.1, up_cell hu X6.out.2.1.2.1, up_cell hu X6.out.2.1.2.2⟩
                    have NV : ∀ W, (binOp .neq 31 (.agg #[.int .u8 0, .int .i64 0, .string ⟨#[]⟩]) (.agg #[.int .u8 0, .int .i64 0, .string ⟨#[]⟩])).run Tryz.prog W = .ok (.bool false) W := fun W => ne_same (0, 0, ⟨#[]⟩) W
                    have NV2 : ∀ W, (binOp .neq 31 (.agg #[.int .u8 0, .int .i64 0, .string ⟨#[]⟩]) (.agg #[.int .u8 q0, .int .i64 q1, .string q2])).run Tryz.prog W = .ok (.bool (decide (((0, 0, ⟨#[]⟩) : V3) ≠ (q0, q1, q2)))) W := fun W => ne_val (0, 0, ⟨#[]⟩) (q0, q1, q2) W
                    generalize decide (((0, 0, ⟨#[]⟩) : V3) ≠ (q0, q1, q2)) = dd at NV2
                    clear z1 z2 z3 hU6 x1 x2 x3 cu
                    clear NV2
                    go_quiet (fail)
                    go_wp2_with fail
                    go_roundw
                    case rel => exact ⟨t2 + 1, by omega, by go_num, up_drewN U6.out _⟩
                    case measure => simp [intOf]; omega
                · have hte : t2 = l.length := by omega
                  subst hte
                  go_wp2_with fail
                  go_roundw
                  case rel => exact ⟨t + 1, v3, _, by omega, by go_num, by rw [show 36 - (t + 1) = 35 - t by omega]; exact HLP.out.up HUI.out⟩
                  case measure => simp [intOf]; omega
        · skip
          have hte : t = vlen := by omega
          subst hte
          go_wp2_with fail
          go_ret
          exact ⟨rfl, LP.out.bel⟩
end Go.Proofs.YtojbphnkabfkpaaGreatDoor.sb
