/- What is handed in: slices, opened element by element. (8 texts in one.) -/
import Derived.Test.YtmmfpkkkpeapeaaGreatDoorPsX
import Derived.Test.YtmmfpkkkpeapeaaGreatDoorPsA
import Derived.Lib.LaidU8

/- seal's functions over the arena. -/
set_option linter.unusedVariables false
set_option linter.unusedSimpArgs false
namespace Go.Proofs.YtmmfpkkkpeapeaaGreatDoor.ar
open Go.RowKit Go.Maps mem rec
attribute [local go_sem ↓] Go.wp_at_zero Go.wp_at_succ
set_option maxRecDepth 100000
set_option maxHeartbeats 2000000
theorem has3_chg {F : List Nat} {w w' : World} {b : Nat} {c0 c1 c2 : Value} (h : Has3 w b c0 c1 c2) (u : Chg F w w') (hn : b ∉ F) : Has3 w' b c0 c1 c2 := by
  have hb : b < w.heap.size := h.1
  have e := u.block b hb hn
  obtain ⟨h0, ⟨h1, h2, h3⟩, h4, h5, h6⟩ := h
  refine ⟨Nat.lt_of_lt_of_le h0 u.size, ⟨?_, ?_, ?_⟩, ?_, ?_, ?_⟩ <;> first | (rw [← h1]; simp [World.cell?, e]; done) | (rw [← h2]; simp [World.cell?, e]; done) | (rw [← h3]; simp [World.cell?, e]; done) | (rw [← h4]; simp [World.frozen?, e]; done) | (rw [← h5]; simp [World.frozen?, e]; done) | (rw [← h6]; simp [World.frozen?, e]; done)
def boxOb (n : Nat) (br : Int) (c : V3) : Ob := ⟨5, n, false, none, 0, 0, none, 0, 0, br, c, 0, 0, 0⟩
theorem seal_room (w : World) (p r : Nat) (v : Nat → Value) (A : Ar) (o : Ob) (c : V3) (h : Parts w p v A) (hr : r < 18446744073709551616) (hf : A.find r = some o) (hk : o.kind = 3)
    (n : Nat) (q m : Int) (hn : o.owner = n) (hq : A.quotas[n]? = some q) (hm : A.many[n]? = some m) (hlt : m < q) (hq1 : q ≤ 1000000) (hm0 : 0 ≤ m)
    (hs : A.slots.length < 1000000) (hu : ∀ s ∈ A.slots, s.uses < 1000000) (hfl : ∀ n ∈ A.free, n < A.slots.length) (hfn : A.free.length < 1000000) (hnm : A.name < 9223372036854775808) :
    Calls Tryz.prog 49 #[.pointer (some ⟨p, 0, none⟩), .int .u64 r, val c] w fun e w' => ∃ v', e = .returned (.tuple #[val (5, (A.name : Int), ⟨#[]⟩), .int .i64 0]) ∧ Parts w' p v' (A.add (boxOb n o.brand c)) ∧ Chg (foot p v) w w' ∧ ∀ b ∈ foot p v', b ∈ foot p v ∨ w.heap.size ≤ b := by
  obtain ⟨c0, c1, c2⟩ := c
  have hU : Up w ((w.alloc (.cells #[.int .u8 c0, .int .i64 c1, .string c2] 51)).alloc (.cells #[.int .u8 0, .int .i64 0, .string ⟨#[]⟩] 51)) := ((Up.refl w).alloc _).alloc _
  have B0 := Lib.hid ((has3_alloc w (.int .u8 c0) (.int .i64 c1) (.string c2) 51).up ((Up.refl _).alloc (.cells #[.int .u8 0, .int .i64 0, .string ⟨#[]⟩] 51)))
  have B1 := Lib.hid (has3_alloc2 w (.cells #[.int .u8 c0, .int .i64 c1, .string c2] 51) (.int .u8 0) (.int .i64 0) (.string ⟨#[]⟩) 51)
  have G := Lib.hid (get_yes _ p r v A o (h.up hU) hr hf)
  have HL := Lib.hid h.lt
  have PW : Hid (∀ wx, Up w wx → Calls Tryz.prog 27 #[.pointer (some ⟨p, 0, none⟩), .agg (boxOb n o.brand (c0, c1, c2)).cells.toArray] wx fun e w' => ∃ v', e = .returned (.tuple #[.int .u64 A.name, .int .i64 0]) ∧ Parts w' p v' (A.add (boxOb n o.brand (c0, c1, c2))) ∧ Chg (foot p v) wx w' ∧ ∀ b ∈ foot p v', b ∈ foot p v ∨ wx.heap.size ≤ b) :=
    fun wx hx => ar.put_room wx p v A _ (h.up hx) n q m rfl hq hm hlt hq1 hm0 hs hu hfl hfn
  simp only [boxOb, Ob.cells] at PW
  have HU := Lib.hid hU
  have hp : p < w.heap.size := h.hd.lt
  obtain ⟨kind, owner, frozen, fields, module, func, ha, hn', hc, brand, content, membrane, target, deep⟩ := o
  simp only at hk hn PW
  subst hk hn
  have HX := Lib.hid hnm
  clear h hf hq hm hlt hq1 hm0 hs hu hfl hfn hU hnm
  show Calls Tryz.prog 49 #[.pointer (some ⟨p, 0, none⟩), .int .u64 r, .agg #[.int .u8 c0, .int .i64 c1, .string c2]] w _
  go_enter Tryz.func49, Tryz.ntmps49
  go_wp2_with (go_at_call 14; refine G.out.mono ?_; rintro e w2 ⟨g, rfl, hU2, hog, hob⟩; have d0 : w2.cell? ⟨g, (r % 4294967296) * 16 + 2, none⟩ = some (.int .u8 3) := up_cell hU2 (hob 0 _ rfl); have d1 : w2.cell? ⟨g, (r % 4294967296) * 16 + 2 + 1, none⟩ = some (.int .i64 n) := up_cell hU2 (hob 1 _ rfl); have d7 : w2.cell? ⟨g, (r % 4294967296) * 16 + 2 + 7, none⟩ = some (.int .u64 brand) := up_cell hU2 (hob 7 _ rfl); obtain ⟨z0, ⟨x0, x1, x2⟩, ⟨y0, y1, y2⟩⟩ := B0.out.up hU2; have B2 := Lib.hid (B1.out.up hU2); have HU2 := Lib.hid (HU.out.trans hU2); clear hob hU2 hog)
  generalize (r % 4294967296) * 16 + 2 = k at *
  go_cut [9, 10] from 24 to 39 (fun t9 t10 wx => t9 = .int .u64 A.name ∧ t10 = .int .i64 0 ∧ ∃ v', Parts wx p v' (A.add (boxOb n brand (c0, c1, c2))) ∧ Chg (foot p v) w2 wx ∧ ∀ b ∈ foot p v', b ∈ foot p v ∨ w2.heap.size ≤ b)
  case first =>
    go_region_with (go_at_call 27; refine (PW.out _ HU2.out.drew).mono ?_; rintro e w3 ⟨v', rfl, hP, hC, hF⟩)
    all_goals
      go_wp2_with fail
      go_meet
      exact ⟨rfl, rfl, v', hP, (Chg.refl _ w2).drew.trans hC (fun b hb => .inl hb), fun b hb => hF b hb⟩
  case rest =>
    obtain ⟨rfl, rfl, v', hP, hC, hF⟩ := hcut
    obtain ⟨s0, ⟨s1, s2, s3⟩, ⟨t1, t2, t3⟩⟩ := has3_chg B2.out hC (fun hb => by have := HL.out _ hb; omega)
    have HE := Lib.hid (And.intro hP (And.intro hC hF))
    clear hP hC hF
    have OX := Lib.hid (object_x A.name HX.out)
    simp only [val] at OX
    go_wp2_with (go_at_call 10; refine (OX.out _).mono ?_; rintro e w4 ⟨rfl, rfl⟩)
    have B3 := (Has3.store (show Has3 wc (w.heap.size + 1) _ _ _ from ⟨s0, ⟨s1, s2, s3⟩, ⟨t1, t2, t3⟩⟩) (.int .u8 5) (.int .i64 A.name) (.string ⟨#[]⟩)).alloc (.cells #[.int .u8 5, .int .i64 A.name, .string ⟨#[]⟩] 51)
    obtain ⟨-, ⟨q1, q2, q3⟩, -⟩ := B3
    have CF : Chg [w.heap.size + 1] wc ((((wc.setCell ⟨w.heap.size + 1, 0, none⟩ (.int .u8 5)).setCell ⟨w.heap.size + 1, 1, none⟩ (.int .i64 A.name)).setCell ⟨w.heap.size + 1, 2, none⟩ (.string ⟨#[]⟩)).alloc (.cells #[.int .u8 5, .int .i64 A.name, .string ⟨#[]⟩] 51)) :=
      ((((Chg.refl _ wc).setCell (p := ⟨w.heap.size + 1, 0, none⟩) (.inl (by simp)) _).setCell (p := ⟨w.heap.size + 1, 1, none⟩) (.inl (by simp)) _).setCell (p := ⟨w.heap.size + 1, 2, none⟩) (.inl (by simp)) _).alloc _
    have hz2 : w.heap.size + 1 < w2.heap.size := B2.out.1
    refine bodyPost_ret (v := .tuple #[.agg #[.int .u8 5, .int .i64 A.name, .string ⟨#[]⟩], .int .i64 0]) (by simp [results, Tryz.results49, go_sem, q1, q2, q3]) rfl ⟨v', rfl, ?_, ?_, ?_⟩
    · exact HE.out.1.chg CF (fun b hb hx => by
        have hx' : b = w.heap.size + 1 := by simpa using hx
        rcases HE.out.2.2 b hb with h1 | h1
        · have := HL.out _ h1; omega
        · omega)
    · exact ((HU2.out.chg.mono (by simp)).trans HE.out.2.1 (fun b hb => .inl hb)).trans CF (fun b hb => .inr (by rw [List.mem_singleton.1 hb]; exact Nat.le_succ _))
    · exact fun b hb => (HE.out.2.2 b hb).imp id (fun h1 => by omega)
end Go.Proofs.YtmmfpkkkpeapeaaGreatDoor.ar

/- seal.Unseal. -/
set_option linter.unusedVariables false
set_option linter.unusedSimpArgs false
namespace Go.Proofs.YtmmfpkkkpeapeaaGreatDoor.ar
open Go.RowKit Go.Maps mem rec
attribute [local go_sem ↓] Go.wp_at_zero Go.wp_at_succ
set_option maxRecDepth 100000
set_option maxHeartbeats 2000000
theorem find_slot {A : Ar} {r : Nat} {o : Ob} (hf : A.find r = some o) : ∃ s, A.slots[r % 4294967296]? = some s ∧ s.o = o := by
  unfold Ar.find at hf
  split at hf
  · rename_i s hs
    split at hf
    · cases hf; exact ⟨s, hs, rfl⟩
    · cases hf
  · cases hf
theorem get_at (w : World) (p r : Nat) (v : Nat → Value) (A : Ar) (o : Ob) (g : Nat) (hg : (v 0).ownBlock = some g) (h : Parts w p v A) (hr : r < 18446744073709551616) (hf : A.find r = some o) :
    Calls Tryz.prog 14 #[.pointer (some ⟨p, 0, none⟩), .int .u64 r] w fun e w' => e = .returned (.pointer (some ⟨g, (r % 4294967296) * 16 + 2, none⟩)) ∧ Up w w' := by
  refine (get_yes w p r v A o h hr hf).mono ?_
  rintro e w' ⟨g', rfl, hU, hg', -⟩
  rw [hg] at hg'
  cases hg'
  exact ⟨rfl, hU⟩
theorem obAt_find {w : World} {p r : Nat} {v : Nat → Value} {A : Ar} {o : Ob} {g : Nat} (hg : (v 0).ownBlock = some g) (h : Parts w p v A) (hf : A.find r = some o) : ObAt w g ((r % 4294967296) * 16 + 2) o := by
  obtain ⟨s, hs, rfl⟩ := find_slot hf
  obtain ⟨g', cap, hv, hog, c0, c1, hob⟩ := h.obAt hs
  rw [hg] at hog
  cases hog
  exact hob
/-- What Unseal gives of an unsealer and a box. -/
def opened (o1 o2 : Ob) : V3 × Int := if o2.brand = o1.brand ∧ o2.owner = o1.owner then (o2.content, 0) else (zero3, 13)
theorem unseal_box (w : World) (p r b : Nat) (v : Nat → Value) (A : Ar) (o1 o2 : Ob) (h : Parts w p v A) (hr : r < 18446744073709551616) (hb : b < 9223372036854775808) (hf : A.find r = some o1) (hf2 : A.find b = some o2) (hk : o1.kind = 4) (hk2 : o2.kind = 5) :
    Calls Tryz.prog 50 #[.pointer (some ⟨p, 0, none⟩), .int .u64 r, val (5, (b : Int), ⟨#[]⟩)] w fun e w' => e = .returned (.tuple #[val (opened o1 o2).1, .int .i64 (opened o1 o2).2]) ∧ Up w w' := by
  have hU : Up w ((w.alloc (.cells #[.int .u8 5, .int .i64 b, .string ⟨#[]⟩] 51)).alloc (.cells #[.int .u8 0, .int .i64 0, .string ⟨#[]⟩] 51)) := ((Up.refl w).alloc _).alloc _
  have B0 := Lib.hid ((has3_alloc w (.int .u8 5) (.int .i64 b) (.string ⟨#[]⟩) 51).up ((Up.refl _).alloc (.cells #[.int .u8 0, .int .i64 0, .string ⟨#[]⟩] 51)))
  have B1 := Lib.hid (has3_alloc2 w (.cells #[.int .u8 5, .int .i64 b, .string ⟨#[]⟩] 51) (.int .u8 0) (.int .i64 0) (.string ⟨#[]⟩) 51)
  have hp : p < w.heap.size := h.hd.lt
  obtain ⟨s, hs, -⟩ := find_slot hf
  obtain ⟨g, cap, -, hog, -⟩ := h.obAt hs
  have OB1 := obAt_find hog (h.up hU) hf
  have OB2 := obAt_find hog (h.up hU) hf2
  generalize hW : (w.alloc (.cells #[.int .u8 5, .int .i64 b, .string ⟨#[]⟩] 51)).alloc (.cells #[.int .u8 0, .int .i64 0, .string ⟨#[]⟩] 51) = W1 at hU B0 B1 OB1 OB2
  have HW := Lib.hid hW
  have GA : Hid (∀ wx, Up W1 wx → ∀ x : Nat, (x = r ∨ x = b) → Calls Tryz.prog 14 #[.pointer (some ⟨p, 0, none⟩), .int .u64 x] wx fun e w' => e = .returned (.pointer (some ⟨g, (x % 4294967296) * 16 + 2, none⟩)) ∧ Up W1 w') := by
    intro wx hx x hxx
    rcases hxx with rfl | rfl
    · refine (get_at wx p _ v A o1 g hog (h.up (hU.trans hx)) hr hf).mono ?_
      rintro e w' ⟨rfl, hU'⟩; exact ⟨rfl, hx.trans hU'⟩
    · refine (get_at wx p _ v A o2 g hog (h.up (hU.trans hx)) (by omega) hf2).mono ?_
      rintro e w' ⟨rfl, hU'⟩; exact ⟨rfl, hx.trans hU'⟩
  have RF := Lib.hid (ref_x b hb ⟨#[]⟩)
  have HU := Lib.hid hU
  obtain ⟨kind, owner, frozen, fields, module, func, ha, hn', hc, brand, content, membrane, target, deep⟩ := o1
  obtain ⟨kind2, owner2, frozen2, fields2, module2, func2, ha2, hn2, hc2, brand2, ⟨k0, k1, k2⟩, membrane2, target2, deep2⟩ := o2
  simp only at hk hk2
  subst hk hk2
  have a0 := OB1 0 _ rfl
  have a1 := OB1 1 _ rfl
  have a7 := OB1 7 _ rfl
  have b0 := OB2 0 _ rfl
  have b1 := OB2 1 _ rfl
  have b7 := OB2 7 _ rfl
  have b8 := OB2 8 _ rfl
  have b9 := OB2 9 _ rfl
  have b10 := OB2 10 _ rfl
  have CC := Lib.hid (And.intro a0 (And.intro a1 (And.intro a7 (And.intro b0 (And.intro b1 (And.intro b7 (And.intro b8 (And.intro b9 b10))))))))
  clear a0 a1 a7 b0 b1 b7 b8 b9 b10 OB1 OB2 hf hf2 hs h hU
  show Calls Tryz.prog 50 #[.pointer (some ⟨p, 0, none⟩), .int .u64 r, .agg #[.int .u8 5, .int .i64 b, .string ⟨#[]⟩]] w _
  go_enter Tryz.func50, Tryz.ntmps50
  go_wp2_with fail
  (try rw [HW.out])
  have hz := B1.out.1
  obtain ⟨z0, ⟨x0, x1, x2⟩, -⟩ := B0.out
  go_cut [8, 9] from 10 to 17 (fun t8 t9 wx => t8 = .pointer (some ⟨g, (r % 4294967296) * 16 + 2, none⟩) ∧ t9 = .pointer (some ⟨g, (b % 4294967296) * 16 + 2, none⟩) ∧ Up W1 wx)
  case first =>
    go_region_with
      (first
        | (go_at_call 14; refine (GA.out _ (by (repeat (first | assumption | exact Up.refl _ | (with_reducible refine Up.drew ?_) | (with_reducible refine Up.alloc ?_ _)))) _ (by first | exact .inl rfl | exact .inr rfl)).mono ?_; rintro e w2 ⟨rfl, hU2⟩; obtain ⟨z0, ⟨x0, x1, x2⟩, -⟩ := B0.out.up hU2)
        | (go_at_call 15; refine (RF.out _).mono ?_; rintro e w4 ⟨rfl, rfl⟩))
    all_goals
      go_wp2_with fail
      go_meet
      exact ⟨rfl, rfl, by assumption⟩
  case rest =>
    obtain ⟨rfl, rfl, hx⟩ := hcut
    obtain ⟨y0, ⟨e0, e1, e2⟩, ⟨e3, e4, e5⟩⟩ := B0.out.up hx
    obtain ⟨s0, ⟨s1, s2, s3⟩, ⟨t1, t2, t3⟩⟩ := B1.out.up hx
    have a0 := up_cell hx CC.out.1
    have a1 := up_cell hx CC.out.2.1
    have a7 := up_cell hx CC.out.2.2.1
    have b0 := up_cell hx CC.out.2.2.2.1
    have b1 := up_cell hx CC.out.2.2.2.2.1
    have b7 := up_cell hx CC.out.2.2.2.2.2.1
    have b8 := up_cell hx CC.out.2.2.2.2.2.2.1
    have b9 := up_cell hx CC.out.2.2.2.2.2.2.2.1
    have b10 := up_cell hx CC.out.2.2.2.2.2.2.2.2
    have HX := Lib.hid hx
    clear CC GA hx x0 x1 x2 z0 hz hW
    generalize (r % 4294967296) * 16 + 2 = q1 at *
    generalize (b % 4294967296) * 16 + 2 = q2 at *
    (try simp only [Nat.add_zero] at a0 b0)
    by_cases h1 : brand2 = brand
    · subst h1
      by_cases h2 : owner2 = owner
      · subst h2
        have hop := Lib.hid (show opened ⟨4, owner2, frozen, fields, module, func, ha, hn', hc, brand2, content, membrane, target, deep⟩ ⟨5, owner2, frozen2, fields2, module2, func2, ha2, hn2, hc2, brand2, (k0, k1, k2), membrane2, target2, deep2⟩ = ((k0, k1, k2), 0) by simp [opened])
        go_wp2_with fail
        go_quiet (fail)
        go_wp2_with fail
        have B3 := (Has3.store (Has3.up (show Has3 wc (w.heap.size + 1) _ _ _ from ⟨s0, ⟨s1, s2, s3⟩, ⟨t1, t2, t3⟩⟩) (up_drewN (Up.refl wc) nq)) (.int .u8 k0) (.int .i64 k1) (.string k2))
        obtain ⟨-, ⟨g1, g2, g3⟩, -⟩ := B3
        refine bodyPost_ret (v := .tuple #[.agg #[.int .u8 k0, .int .i64 k1, .string k2], .int .i64 0]) (by simp [results, Tryz.results50, go_sem, g1, g2, g3]) rfl ⟨by rw [hop.out]; rfl, ?_⟩
        exact (((up_drewN (HU.out.trans HX.out) nq).setCell (p := ⟨w.heap.size + 1, 0, none⟩) (Nat.le_succ _) _).setCell (p := ⟨w.heap.size + 1, 1, none⟩) (Nat.le_succ _) _).setCell (p := ⟨w.heap.size + 1, 2, none⟩) (Nat.le_succ _) _
      · have hb2 : (owner2 == owner) = false := by simpa using h2
        have hop := Lib.hid (show opened ⟨4, owner, frozen, fields, module, func, ha, hn', hc, brand2, content, membrane, target, deep⟩ ⟨5, owner2, frozen2, fields2, module2, func2, ha2, hn2, hc2, brand2, (k0, k1, k2), membrane2, target2, deep2⟩ = (zero3, 13) by simp [opened, h2])
        go_wp2_with fail
        go_quiet (fail)
        go_wp2_with fail
        have B3 := (Has3.store (Has3.up (show Has3 wc (w.heap.size + 1) _ _ _ from ⟨s0, ⟨s1, s2, s3⟩, ⟨t1, t2, t3⟩⟩) (up_drewN (Up.refl wc) nq)) (.int .u8 0) (.int .i64 0) (.string ⟨#[]⟩))
        obtain ⟨-, ⟨g1, g2, g3⟩, -⟩ := B3
        refine bodyPost_ret (v := .tuple #[.agg #[.int .u8 0, .int .i64 0, .string ⟨#[]⟩], .int .i64 13]) (by simp [results, Tryz.results50, go_sem, g1, g2, g3]) rfl ⟨by rw [hop.out]; rfl, ?_⟩
        exact (((up_drewN (HU.out.trans HX.out) nq).setCell (p := ⟨w.heap.size + 1, 0, none⟩) (Nat.le_succ _) _).setCell (p := ⟨w.heap.size + 1, 1, none⟩) (Nat.le_succ _) _).setCell (p := ⟨w.heap.size + 1, 2, none⟩) (Nat.le_succ _) _
    · have hb1 : (brand2 == brand) = false := by simpa using h1
      have hop := Lib.hid (show opened ⟨4, owner, frozen, fields, module, func, ha, hn', hc, brand, content, membrane, target, deep⟩ ⟨5, owner2, frozen2, fields2, module2, func2, ha2, hn2, hc2, brand2, (k0, k1, k2), membrane2, target2, deep2⟩ = (zero3, 13) by simp [opened, h1])
      go_wp2_with fail
      go_quiet (fail)
      go_wp2_with fail
      have B3 := (Has3.store (Has3.up (show Has3 wc (w.heap.size + 1) _ _ _ from ⟨s0, ⟨s1, s2, s3⟩, ⟨t1, t2, t3⟩⟩) (up_drewN (Up.refl wc) nq)) (.int .u8 0) (.int .i64 0) (.string ⟨#[]⟩))
      obtain ⟨-, ⟨g1, g2, g3⟩, -⟩ := B3
      refine bodyPost_ret (v := .tuple #[.agg #[.int .u8 0, .int .i64 0, .string ⟨#[]⟩], .int .i64 13]) (by simp [results, Tryz.results50, go_sem, g1, g2, g3]) rfl ⟨by rw [hop.out]; rfl, ?_⟩
      exact (((up_drewN (HU.out.trans HX.out) nq).setCell (p := ⟨w.heap.size + 1, 0, none⟩) (Nat.le_succ _) _).setCell (p := ⟨w.heap.size + 1, 1, none⟩) (Nat.le_succ _) _).setCell (p := ⟨w.heap.size + 1, 2, none⟩) (Nat.le_succ _) _
end Go.Proofs.YtmmfpkkkpeapeaaGreatDoor.ar

/- Put where there is room, by Room and Quo. -/
set_option linter.unusedVariables false
namespace Go.Proofs.YtmmfpkkkpeapeaaGreatDoor.ar
open Go.RowKit Go.Maps mem rec
set_option maxHeartbeats 400000
/-- The owner n may have k objects more. -/
def Quo (A : Ar) (n k : Nat) : Prop := ∃ q m : Int, A.quotas[n]? = some q ∧ A.many[n]? = some m ∧ 0 ≤ m ∧ m + k ≤ q ∧ q ≤ 1000000
theorem Quo.add {A : Ar} {n k : Nat} (h : Quo A n (k + 1)) (o : Ob) (hn : o.owner = n) : Quo (A.add o) n k := by
  obtain ⟨q, m, h1, h2, h3, h4, h5⟩ := h
  refine ⟨q, m + 1, h1, ?_, by omega, by omega, h5⟩
  show (A.many.set o.owner.toNat (A.many.getD o.owner.toNat 0 + 1))[n]? = _
  have e : o.owner.toNat = n := by rw [hn]; rfl
  rw [e, List.getElem?_set_self (List.getElem?_eq_some_iff.1 h2).1, List.getD_eq_getElem?_getD, h2]
  rfl
theorem Quo.other {A : Ar} {n k j : Nat} (h : Quo A n k) (o : Ob) (hn : o.owner = j) (hj : j ≠ n) : Quo (A.add o) n k := by
  obtain ⟨q, m, h1, h2, h3, h4, h5⟩ := h
  refine ⟨q, m, h1, ?_, h3, h4, h5⟩
  show (A.many.set o.owner.toNat (A.many.getD o.owner.toNat 0 + 1))[n]? = _
  have e : o.owner.toNat = j := by rw [hn]; rfl
  rw [e, List.getElem?_set_ne hj]
  exact h2
theorem put_k (w : World) (p : Nat) (v : Nat → Value) (A : Ar) (o : Ob) (h : Parts w p v A) (n j k : Nat) (hn : o.owner = n) (hR : Room A (k + 1)) (hQ : Quo A n (j + 1)) :
    Calls Tryz.prog 27 #[.pointer (some ⟨p, 0, none⟩), .agg o.cells.toArray] w fun e w' => ∃ v', e = .returned (.tuple #[.int .u64 A.name, .int .i64 0]) ∧ Parts w' p v' (A.add o) ∧ Chg (foot p v) w w' ∧ ∀ b ∈ foot p v', b ∈ foot p v ∨ w.heap.size ≤ b := by
  obtain ⟨q, m, h1, h2, h3, h4, h5⟩ := hQ
  have hs := hR.sl
  have hf := hR.fl
  exact ar.put_room w p v A o h n q m hn h1 h2 (by omega) h5 h3 (by omega) (fun s hs => by have := hR.us s hs; omega) (fun i hi => by obtain ⟨s, hs, -⟩ := hR.fr i hi; exact (List.getElem?_eq_some_iff.1 hs).1) (by omega)
theorem seal_k (w : World) (p r : Nat) (v : Nat → Value) (A : Ar) (o : Ob) (c : V3) (h : Parts w p v A) (hr : r < 18446744073709551616) (hf : A.find r = some o) (hk : o.kind = 3) (n j k : Nat) (hn : o.owner = n) (hR : Room A (k + 1)) (hQ : Quo A n (j + 1)) :
    Calls Tryz.prog 49 #[.pointer (some ⟨p, 0, none⟩), .int .u64 r, val c] w fun e w' => ∃ v', e = .returned (.tuple #[val (5, (A.name : Int), ⟨#[]⟩), .int .i64 0]) ∧ Parts w' p v' (A.add (boxOb n o.brand c)) ∧ Chg (foot p v) w w' ∧ ∀ b ∈ foot p v', b ∈ foot p v ∨ w.heap.size ≤ b := by
  obtain ⟨q, m, h1, h2, h3, h4, h5⟩ := hQ
  have hs := hR.sl
  have hf' := hR.fl
  exact seal_room w p r v A o c h hr hf hk n q m hn h1 h2 (by omega) h5 h3 (by omega) (fun s hs => by have := hR.us s hs; omega) (fun i hi => by obtain ⟨s, hs, -⟩ := hR.fr i hi; exact (List.getElem?_eq_some_iff.1 hs).1) (by omega) (name_lt hR)
/-- The bare arena with two owners of 100. -/
theorem room_two : Room ⟨[], [], [100, 100], [0, 0]⟩ 999 := ⟨by decide, by simp, by simp, by simp, by decide⟩
theorem quo_two (n : Nat) (hn : n < 2) : Quo ⟨[], [], [100, 100], [0, 0]⟩ n 100 := by
  rcases (by omega : n = 0 ∨ n = 1) with rfl | rfl <;> exact ⟨100, 0, rfl, rfl, by decide, by decide, by decide⟩
end Go.Proofs.YtmmfpkkkpeapeaaGreatDoor.ar

/- Membranes, the cache of proxies: plain; what Pass does, as a function. -/
set_option linter.unusedVariables false
namespace Go.Proofs.YtmmfpkkkpeapeaaGreatDoor.mb
open Go.RowKit Go.Maps mem rec ar
set_option maxRecDepth 100000
set_option maxHeartbeats 400000
/-- A membrane: its two sides, whether it is dead. -/
abbrev Mb := Int × Int × Bool
def cellsM (m : Mb) : List Value := [.int .i64 m.1, .int .i64 m.2.1, .bool m.2.2]
/-- A list of membranes, that is looked at. -/
def ListAt (w : World) (lv : Value) (L : List Mb) : Prop := ∃ b cap, lv = .slice (some ⟨b, 0, none⟩) L.length cap ∧ b < w.heap.size ∧ ∀ i m, L[i]? = some m → w.rangeAt b (i * 3) (cellsM m)
theorem ListAt.chg {F : List Nat} {w w' : World} {lv : Value} {L : List Mb} (h : ListAt w lv L) (c : Chg F w w') (hn : ∀ b, lv.ownBlock = some b → b ∉ F) : ListAt w' lv L := by
  obtain ⟨b, cap, rfl, hb, h1⟩ := h
  refine ⟨b, cap, rfl, Nat.lt_of_lt_of_le hb c.size, fun i m hi j v hj => ?_⟩
  have h2 := h1 i m hi j v hj
  exact (c.cell (p := ⟨b, i * 3 + j, none⟩) hb (hn b rfl)).trans h2
theorem ListAt.up {w w' : World} {lv : Value} {L : List Mb} (h : ListAt w lv L) (u : Up w w') : ListAt w' lv L := h.chg u.chg (by simp)
/-- The membrane of a number. -/
def mbAt (L : List Mb) (m : Int) : Option Mb := if 0 ≤ m then L[m.toNat]? else none
/-- The other side's owner. -/
def otherR (L : List Mb) (m owner : Int) : Option Int :=
  match mbAt L m with
  | some x => if owner = x.1 then some x.2.1 else if owner = x.2.1 then some x.1 else none
  | none => none
def deadR (L : List Mb) (m : Int) : Bool :=
  match mbAt L m with
  | some x => x.2.2
  | none => true
/-! ### the cache -/
/-- A key: a membrane, what it stands for. -/
def entV (m : Int) (r : Nat) : Value := .agg #[.int .i64 m, .int .u64 r]
def R1 (v : Value) : Option (DataW Nat × List MemPlace) :=
  match v with
  | .int .u64 (.ofNat x) => some (.held x, [])
  | _ => none
theorem R1_val (p : Nat) : R1 (.int .u64 (p : Int)) = some (.held p, []) := rfl
theorem R1_inv {v : Value} {z : DataW Nat × List MemPlace} (h : R1 v = some z) : ∃ p : Nat, v = .int .u64 (p : Int) ∧ z = (.held p, []) := by
  unfold R1 at h
  split at h
  · rename_i p
    cases h
    exact ⟨p, rfl, rfl⟩
  · cases h
theorem rowE : (113 : TypeId) < Tryz.prog.types.size := of_decide_eq_true (by kernel_rfl)
theorem deepE : Tryz.prog.keyTypeAt (Tryz.prog.types.size + 1) 113 = true := by kernel_rfl
theorem deepE2 : Tryz.prog.keyTypeAt 2 113 = true := by kernel_rfl
theorem KE : Maps.Keyed Tryz.prog 113 := Maps.Keyed.of_law (deep_law_laid laidOutP (m := 2) (by omega) rowE deepE2 (by rw [Tryz.underlying113]))
theorem cellsE : Tryz.prog.cellsOf 113 = 2 := by kernel_rfl
theorem wf_i64 {a : Int} (h : -9223372036854775808 ≤ a ∧ a ≤ 9223372036854775807) : (Lit.int .i64 a).wf = true := by
  show (decide (IntKind.i64.min ≤ a) && decide (a ≤ IntKind.i64.max)) = true
  simpa [IntKind.min, IntKind.max, IntKind.signed, IntKind.bits] using h
theorem wf_u64 {a : Int} (h : 0 ≤ a ∧ a ≤ 18446744073709551615) : (Lit.int .u64 a).wf = true := by
  show (decide (IntKind.u64.min ≤ a) && decide (a ≤ IntKind.u64.max)) = true
  simpa [IntKind.min, IntKind.max, IntKind.signed, IntKind.bits] using h
theorem key_ent (m : Int) (r : Nat) (hm : (Lit.int .i64 m).wf = true) (hr : r < 18446744073709551616) : ∃ l, keyOf Tryz.prog 113 (entV m r) = some l := by
  have hr' : (Lit.int .u64 (r : Int)).wf = true := wf_u64 (by omega)
  have hf : (entV m r).formed Tryz.prog 113 = true := by simp [entV, Value.formed, Tryz.underlying113, cellsE]
  have c2 : Tryz.prog.cellsOf 3 = 1 := by kernel_rfl
  have c9 : Tryz.prog.cellsOf 41 = 1 := by kernel_rfl
  have hl : Tryz.prog.keyLits (Tryz.prog.types.size + 1) 113 [.int .i64 m, .int .u64 r] = some [.int .i64 m, .int .u64 r] := by
    obtain ⟨d, hd⟩ : ∃ d, Tryz.prog.types.size + 1 = d + 1 + 1 := ⟨_, sizeP⟩
    rw [hd]
    simp [Program.keyLits, Tryz.underlying113, Tryz.underlying3, Tryz.underlying41, cellsE, c2, c9, hm, hr']
  refine ⟨.string (keyBytes [.int .i64 m, .int .u64 r]), ?_⟩
  unfold keyOf
  rw [Tryz.underlying113]
  simp only [Program.keyType, deepE, hf, Bool.and_self, if_true]
  rw [show (entV m r).cells.toList = [.int .i64 m, .int .u64 r] from rfl, hl]
  rfl
theorem ent_inj {m m' : Int} {r r' : Nat} {l : Lit} (h : keyOf Tryz.prog 113 (entV m r) = some l) (h' : keyOf Tryz.prog 113 (entV m' r') = some l) : m = m' ∧ r = r' := by
  have := KE.inj h h'
  simp [entV] at this
  omega
/-- What the cache holds at a key. -/
def atn (D : DataW Nat) (l : Lit) : Nat := match D.atKey l (.held 0) with | .held p => p | _ => 0
/-- The cache of proxies as a function. -/
abbrev Ca := Int → Nat → Option Nat
structure CacheIs (D : DataW Nat) (C : Ca) : Prop where
  td : Tidy D
  at_ : ∀ m r l, keyOf Tryz.prog 113 (entV m r) = some l → Maps.has D l = (C m r).isSome ∧ atn D l = (C m r).getD 0
def Ca.put (C : Ca) (m : Int) (r p : Nat) : Ca := fun m' r' => if m' = m ∧ r' = r then some p else C m' r'
theorem CacheIs.nil : CacheIs (.map []) (fun _ _ => none) := ⟨⟨[], rfl, List.Pairwise.nil⟩, fun m r l h => ⟨rfl, rfl⟩⟩
theorem CacheIs.put {D : DataW Nat} {C : Ca} (h : CacheIs D C) {m : Int} {r : Nat} {l : Lit} (hl : keyOf Tryz.prog 113 (entV m r) = some l) (p : Nat) : CacheIs (D.put l (.held p)) (C.put m r p) := by
  have hm : IsMap D := by obtain ⟨es, he, -⟩ := h.td; exact ⟨es, he⟩
  refine ⟨Tidy.put h.td (KE.key hl) _, fun m' r' l' hl' => ?_⟩
  by_cases e : m' = m ∧ r' = r
  · obtain ⟨rfl, rfl⟩ := e
    rw [hl] at hl'
    cases hl'
    have e1 : (C.put m' r' p) m' r' = some p := by simp [Ca.put]
    rw [e1]
    refine ⟨by rw [has_put_same hm (KE.key hl)]; rfl, ?_⟩
    unfold atn
    rw [atKey_put_same hm (KE.key hl)]
    rfl
  · have hne : l' ≠ l := by
      rintro rfl
      obtain ⟨a, b⟩ := ent_inj hl' hl
      exact e ⟨a, b⟩
    have e1 : (C.put m r p) m' r' = C m' r' := by unfold Ca.put; rw [if_neg e]
    rw [e1]
    obtain ⟨h1, h2⟩ := h.at_ m' r' l' hl'
    refine ⟨by rw [has_put_other hne]; exact h1, ?_⟩
    unfold atn at h2 ⊢
    rw [atKey_put_other hne]
    exact h2
theorem zeroE (w : World) : (zeroValue 41).run Tryz.prog w = .ok (.int .u64 ((0 : Nat) : Int)) w := by kernel_rfl
theorem look_ent (w : World) (b n : Nat) (D : DataW Nat) (h : w.ownsMap Tryz.prog 113 R1 b n D) {m : Int} {r : Nat} {l : Lit} (hl : keyOf Tryz.prog 113 (entV m r) = some l) :
    (Instr.lookup 32 (.map (some b)) (entV m r) true).run Tryz.prog w = .ok (.tuple #[.int .u64 (atn D l : Nat), .bool (Maps.has D l)]) w := by
  obtain ⟨v, ps, hrun, hv⟩ := h.look_ok KE Tryz.underlying32 (zeroE w) (R1_val 0) hl
  obtain ⟨q, rfl, hz⟩ := R1_inv hv
  have : q = atn D l := by have hz1 : D.atKey l (.held 0) = .held q := congrArg Prod.fst hz; unfold atn; rw [hz1]
  rw [hrun, this]
/-! ### what Pass does -/
def proxyOb (into m : Int) (r : Nat) (d : Int) : Ob := ⟨6, into, false, none, 0, 0, none, 0, 0, 0, zero3, m, r, d⟩
/-- Whether an owner has as many as he may. -/
def Ar.full (A : Ar) (n : Nat) : Prop := ∃ q m : Int, A.quotas[n]? = some q ∧ A.many[n]? = some m ∧ q ≤ m
structure Res where
  v : V3
  e : Int
  A : Ar
  C : Ca
/-- What Pass answers, where `fu` tells whether the owner is full. -/
def passR (A : Ar) (C : Ca) (L : List Mb) (fu : Bool) (m into : Int) (v : V3) : Res :=
  match otherR L m into with
  | none => ⟨zero3, 4, A, C⟩
  | some from_ =>
    if deadR L m = true then ⟨zero3, 12, A, C⟩ else
    if v.1 ≠ 5 then ⟨v, 0, A, C⟩ else
    match A.find v.2.1.toNat with
    | none => ⟨zero3, 17, A, C⟩
    | some o =>
      if o.owner ≠ from_ then ⟨zero3, 17, A, C⟩ else
      if o.kind = 6 ∧ o.membrane = m then ⟨(5, o.target, ⟨#[]⟩), 0, A, C⟩ else
      match C m v.2.1.toNat with
      | some p => ⟨(5, (p : Int), ⟨#[]⟩), 0, A, C⟩
      | none =>
        if 6 ≤ o.deep then ⟨zero3, 14, A, C⟩ else
        if fu = true then ⟨zero3, 8, A, C⟩ else
        ⟨(5, (A.name : Int), ⟨#[]⟩), 0, A.add (proxyOb into m v.2.1.toNat (o.deep + 1)), C.put m v.2.1.toNat A.name⟩
end Go.Proofs.YtmmfpkkkpeapeaaGreatDoor.mb

/- seal.Brand. -/
set_option linter.unusedVariables false
set_option linter.unusedSimpArgs false
namespace Go.Proofs.YtmmfpkkkpeapeaaGreatDoor.ar
open Go.RowKit Go.Maps mem rec
attribute [local go_sem ↓] Go.wp_at_zero Go.wp_at_succ
set_option maxRecDepth 100000
set_option maxHeartbeats 2000000
def obK (k : Int) (n : Nat) (br : Int) : Ob := ⟨k, n, false, none, 0, 0, none, 0, 0, br, zero3, 0, 0, 0⟩
theorem size_one (l : Lit) (d : DataW V3) : Maps.size ((DataW.map [] : DataW V3).put l d) = 1 := by rfl
/-- The arena behind i rounds. -/
def rnd (A1 : Ar) (n : Nat) (br : Int) : Nat → Ar
  | 0 => A1
  | 1 => A1.add (obK 3 n br)
  | _ => (A1.add (obK 3 n br)).add (obK 4 n br)
def sealB : ByteArray := ⟨#[115, 101, 97, 108]⟩
def unsealB : ByteArray := ⟨#[117, 110, 115, 101, 97, 108]⟩
/-- The map behind i rounds. -/
def MapB (D : DataW V3) (A1 : Ar) (n : Nat) (br : Int) : Nat → Prop
  | 0 => D = .map []
  | 1 => ∃ l, keyOf Tryz.prog 51 (val (3, 0, sealB)) = some l ∧ D = (DataW.map []).put l (.held (5, (A1.name : Int), ⟨#[]⟩))
  | _ => ∃ l l2, keyOf Tryz.prog 51 (val (3, 0, sealB)) = some l ∧ keyOf Tryz.prog 51 (val (3, 0, unsealB)) = some l2 ∧ D = ((DataW.map []).put l (.held (5, (A1.name : Int), ⟨#[]⟩))).put l2 (.held (5, ((A1.add (obK 3 n br)).name : Int), ⟨#[]⟩))
theorem mapB_two {D : DataW V3} {A1 : Ar} {n : Nat} {br : Int} (h : MapB D A1 n br 2) : Maps.size D = 2 ∧ (∀ l, keyOf Tryz.prog 51 (val (3, 0, sealB)) = some l → atv D l = (5, (A1.name : Int), ⟨#[]⟩)) ∧
    (∀ l, keyOf Tryz.prog 51 (val (3, 0, unsealB)) = some l → atv D l = (5, ((A1.add (obK 3 n br)).name : Int), ⟨#[]⟩)) := by
  obtain ⟨l, l2, h1, h2, rfl⟩ := h
  have hne : l ≠ l2 := by
    rintro rfl
    have := K.inj h1 h2
    simp [val, sealB, unsealB] at this
  have ht : Tidy ((DataW.map [] : DataW V3).put l (.held (5, (A1.name : Int), ⟨#[]⟩))) := Tidy.put ⟨[], rfl, List.Pairwise.nil⟩ (K.key h1) _
  refine ⟨?_, fun l' hl' => ?_, fun l' hl' => ?_⟩
  · rw [size_put ht, has_put_other (fun e => hne e.symm)]
    rfl
  · rw [h1] at hl'
    cases hl'
    unfold atv
    rw [atKey_put_other hne, atKey_put_same ⟨[], rfl⟩ (K.key h1)]
  · rw [h2] at hl'
    cases hl'
    unfold atv
    rw [atKey_put_same (show IsMap _ from by obtain ⟨es, he, -⟩ := ht; exact ⟨es, he⟩) (K.key h2)]
/-- What holds before round i. -/
structure Rnd (w1 wr : World) (p : Nat) (v1 : Nat → Value) (A1 : Ar) (n : Nat) (br : Int) (P B bm i : Nat) : Prop where
  ex : ∃ v' D m, Parts wr p v' (rnd A1 n br i) ∧ Chg (foot p v1) w1 wr ∧ (∀ b ∈ foot p v', b ∈ foot p v1 ∨ w1.heap.size ≤ b) ∧ wr.ownsMap Tryz.prog 51 R3 bm m D ∧ MapB D A1 n br i ∧ m ≤ i ∧ bm ∉ foot p v' ∧ P ∉ foot p v' ∧ B ∉ foot p v'
  rc : wr.rangeAt P 0 [.int .u8 0, .int .i64 n, .bool false, .map (some bm), .int .i64 0, .int .i64 0, .slice none 0 0, .int .u64 0, .int .u8 0, .int .i64 0, .string ⟨#[]⟩, .int .i64 0, .int .u64 0, .int .i64 0]
  ar : wr.rangeAt B 0 [.string sealB, .int .u8 3, .string unsealB, .int .u8 4]
  lt : w1.heap.size ≤ bm ∧ bm < P ∧ B = P + 1 ∧ B < wr.heap.size
theorem rnd_start {w1 w2 : World} {p n bm : Nat} {v1 : Nat → Value} {A1 : Ar} {br : Int} (hP : Parts w1 p v1 A1) (hU : Up w1 w2) (hbm : w1.heap.size ≤ bm) (hlt : bm < w2.heap.size) (hown : w2.ownsMap Tryz.prog 51 R3 bm 0 (.map [])) (ta tb : TypeId) :
    Rnd w1 ((w2.alloc (.cells #[.int .u8 0, .int .i64 n, .bool false, .map (some bm), .int .i64 0, .int .i64 0, .slice none 0 0, .int .u64 0, .int .u8 0, .int .i64 0, .string ⟨#[]⟩, .int .i64 0, .int .u64 0, .int .i64 0] ta)).alloc (.cells #[.string sealB, .int .u8 3, .string unsealB, .int .u8 4] tb)) p v1 A1 n br w2.heap.size (w2.heap.size + 1) bm 0 := by
  have hz := hU.size
  have ha := (Up.refl w2).alloc (.cells #[.int .u8 0, .int .i64 n, .bool false, .map (some bm), .int .i64 0, .int .i64 0, .slice none 0 0, .int .u64 0, .int .u8 0, .int .i64 0, .string ⟨#[]⟩, .int .i64 0, .int .u64 0, .int .i64 0] ta)
  have hb := ha.alloc (.cells #[.string sealB, .int .u8 3, .string unsealB, .int .u8 4] tb)
  refine ⟨⟨v1, .map [], 0, hP.up (hU.trans hb), (hU.trans hb).chg.mono (by simp), fun b hb => .inl hb, owns_up hown hb, rfl, Nat.le_refl _, ?_, ?_, ?_⟩, fun j u hj => ?_, fun j u hj => ?_, hbm, hlt, rfl, by simp⟩
  · intro hx; have := hP.lt _ hx; omega
  · intro hx; have := hP.lt _ hx; omega
  · intro hx; have := hP.lt _ hx; omega
  · have e : (w2.alloc (.cells #[.int .u8 0, .int .i64 n, .bool false, .map (some bm), .int .i64 0, .int .i64 0, .slice none 0 0, .int .u64 0, .int .u8 0, .int .i64 0, .string ⟨#[]⟩, .int .i64 0, .int .u64 0, .int .i64 0] ta)).cell? ⟨w2.heap.size, 0 + j, none⟩ = some u := by
      rw [show (⟨w2.heap.size, 0 + j, none⟩ : Addr) = ⟨w2.heap.size, j, none⟩ by simp, World.cell?_alloc_at _ _ _ _ rfl]
      simpa using hj
    exact up_cell ((Up.refl _).alloc _) e
  · rw [show (⟨w2.heap.size + 1, 0 + j, none⟩ : Addr) = ⟨w2.heap.size + 1, j, none⟩ by simp, World.cell?_alloc_at _ _ _ _ (by simp)]
    simpa using hj
theorem range_chg {F : List Nat} {w w' : World} {b o : Nat} {cs : List Value} (h : w.rangeAt b o cs) (c : Chg F w w') (hn : b ∉ F) : w'.rangeAt b o cs := fun j v hj => by
  have h1 := h j v hj
  exact (c.cell (p := ⟨b, o + j, none⟩) (World.block_lt_of_cell? w _ h1) hn).trans h1
/-- One round more. -/
theorem rnd_next {w1 wr wx w3 w4 w5 : World} {p n P B bm i m' : Nat} {v1 v' v3 : Nat → Value} {A1 : Ar} {br : Int} {D' : DataW V3} (hC : Chg (foot p v1) w1 wr) (hF : ∀ b ∈ foot p v', b ∈ foot p v1 ∨ w1.heap.size ≤ b)
    (n1 : bm ∉ foot p v') (n2 : P ∉ foot p v') (n3 : B ∉ foot p v')
    (rc : wr.rangeAt P 0 [.int .u8 0, .int .i64 n, .bool false, .map (some bm), .int .i64 0, .int .i64 0, .slice none 0 0, .int .u64 0, .int .u8 0, .int .i64 0, .string ⟨#[]⟩, .int .i64 0, .int .u64 0, .int .i64 0])
    (ar : wr.rangeAt B 0 [.string sealB, .int .u8 3, .string unsealB, .int .u8 4]) (lt : w1.heap.size ≤ bm ∧ bm < P ∧ B = P + 1 ∧ B < wr.heap.size)
    (hUr : Up wr wx) (hC3 : Chg (foot p v') wx w3) (hP3 : Parts w3 p v3 (rnd A1 n br (i + 1))) (hF3 : ∀ b ∈ foot p v3, b ∈ foot p v' ∨ wx.heap.size ≤ b) (hU4 : Up w3 w4) (ht : w4.mapTurned w5 bm)
    (hown : w5.ownsMap Tryz.prog 51 R3 bm m' D') (hm : m' ≤ i + 1) (hMB : MapB D' A1 n br (i + 1)) : Rnd w1 w5 p v1 A1 n br P B bm (i + 1) := by
  obtain ⟨l1, l2, l3, l4⟩ := lt
  have hzx := hUr.size
  have hz1 := hC.size
  have C5 : Chg [bm] w4 w5 := (Chg.refl _ w4).turned ht (.inl (by simp))
  have C35 : Chg [bm] w3 w5 := (hU4.chg.mono (by simp)).trans C5 (fun x hx => .inl hx)
  have Cx5 : Chg (bm :: foot p v') wx w5 := (hC3.mono (fun x hx => List.mem_cons_of_mem _ hx)).trans C35 (fun x hx => .inl (by rw [List.mem_singleton.1 hx]; exact List.mem_cons_self ..))
  have Cr5 : Chg (bm :: foot p v') wr w5 := (hUr.chg.mono (by simp)).trans Cx5 (fun x hx => .inl hx)
  have nf : ∀ b, b < wr.heap.size → b ∉ foot p v' → b ∉ foot p v3 := fun b hb hn hx => by
    rcases hF3 b hx with h1 | h1
    · exact hn h1
    · omega
  have nP : P ∉ bm :: foot p v' := fun hx => by
    rcases List.mem_cons.1 hx with h1 | h1
    · omega
    · exact n2 h1
  have nB : B ∉ bm :: foot p v' := fun hx => by
    rcases List.mem_cons.1 hx with h1 | h1
    · omega
    · exact n3 h1
  refine ⟨⟨v3, D', m', hP3.chg C35 (fun b hb hx => ?_), hC.trans Cr5 (fun x hx => ?_), fun b hb => ?_, hown, hMB, hm, nf _ (by omega) n1, nf _ (by omega) n2, nf _ (by omega) n3⟩, range_chg rc Cr5 nP, range_chg ar Cr5 nB, l1, l2, l3, Nat.lt_of_lt_of_le l4 Cr5.size⟩
  · rw [List.mem_singleton.1 hx] at hb
    exact nf bm (by omega) n1 hb
  · rcases List.mem_cons.1 hx with h1 | h1
    · exact .inr (by omega)
    · exact hF x h1
  · rcases hF3 b hb with h1 | h1
    · exact hF b h1
    · exact .inr (by omega)
def recOb (n bm : Nat) : Ob := ⟨0, n, false, some bm, 0, 0, none, 0, 0, 0, zero3, 0, 0, 0⟩
theorem brand_room (w : World) (p n j k : Nat) (v : Nat → Value) (A : Ar) (h : Parts w p v A) (hR : Room A (k + 4)) (hQ : Quo A n (j + 4)) :
    Calls Tryz.prog 47 #[.pointer (some ⟨p, 0, none⟩), .int .i64 n] w fun e w' => ∃ (v' : Nat → Value) (bm m : Nat) (D : DataW V3), e = .returned (.tuple #[.int .u64 (rnd (A.add (obK 2 n 0)) n A.name 2).name, .int .i64 0]) ∧ Parts w' p v' ((rnd (A.add (obK 2 n 0)) n A.name 2).add (recOb n bm)) ∧ Chg (foot p v) w w' ∧
      (∀ b ∈ foot p v', b ∈ foot p v ∨ w.heap.size ≤ b) ∧ w'.ownsMap Tryz.prog 51 R3 bm m D ∧ m ≤ 2 ∧ MapB D (A.add (obK 2 n 0)) n A.name 2 ∧ bm ∉ foot p v' ∧ w.heap.size ≤ bm := by
  have P1 := Lib.hid (put_k w p v A (obK 2 n 0) h n (j + 3) (k + 3) rfl hR hQ)
  simp only [obK, Ob.cells, zero3] at P1
  have NN := Lib.hid (new_any n)
  go_enter Tryz.func47, Tryz.ntmps47
  go_wp2_with (first
    | (go_at_call 27; refine P1.out.mono ?_; rintro e w1 ⟨v1, rfl, hP1, hC1, hF1⟩)
    | (go_at_call 34; refine (NN.out _).mono ?_; rintro e w2 ⟨bm, rfl, hU2, hbm, hown⟩))
  have U2 : ∀ ty : TypeId, Up w1 ((w2.alloc (.cells #[.int .u8 0, .int .i64 n, .bool false, .map (some bm), .int .i64 0, .int .i64 0, .slice none 0 0, .int .u64 0, .int .u8 0, .int .i64 0, .string ⟨#[]⟩, .int .i64 0, .int .u64 0, .int .i64 0] 66)).alloc (.cells #[.string ⟨#[115, 101, 97, 108]⟩, .int .u8 3, .string ⟨#[117, 110, 115, 101, 97, 108]⟩, .int .u8 4] ty)) := fun ty => (hU2.alloc _).alloc _
  have P2 := Lib.hid (fun wx (hx : Up w1 wx) => put_k wx p v1 _ (obK 3 n A.name) (hP1.up hx) n (j + 2) (k + 2) rfl (hR.add _) (hQ.add _ rfl))
  simp only [obK, Ob.cells, zero3] at P2
  have HP := Lib.hid (And.intro hP1 (And.intro hC1 (And.intro hF1 (And.intro hU2 (And.intro hbm hown)))))
  have U2 := Lib.hid U2
  clear hP1 hC1 hF1 hbm hown hU2
  go_loopw [29] (fun i wr => ∃ t : Nat, t ≤ 2 ∧ i = .int .i64 t ∧ Rnd w1 wr p v1 (A.add (obK 2 n 0)) n A.name w2.heap.size (w2.heap.size + 1) bm t) (fun i _ => 2 - (intOf i).toNat)
  case atStart =>
    exact ⟨0, by omega, rfl, rnd_start HP.out.1 HP.out.2.2.2.1 HP.out.2.2.2.2.1 HP.out.2.2.2.2.2.lt HP.out.2.2.2.2.2 _ _⟩
  case round =>
    obtain ⟨t, ht, rfl, hr⟩ := hrel
    obtain ⟨⟨v', D, m, hPr, hCr, hFr, hMr, hDr, hmr, hn1, hn2, hn3⟩, hrc, har, hl1, hl2, hl3, hl4⟩ := hr
    have a0 := har 0 _ rfl
    have a1 := har 1 _ rfl
    have a2 := har 2 _ rfl
    have a3 := har 3 _ rfl
    have r3 := hrc 3 _ rfl
    have HR := Lib.hid (And.intro (And.intro hPr (And.intro hCr (And.intro hFr (And.intro hMr (And.intro hDr (And.intro hmr (And.intro hn1 (And.intro hn2 hn3)))))))) (And.intro hrc har))
    have HL := Lib.hid (And.intro hl1 (And.intro hl2 (And.intro hl3 hl4)))
    clear hPr hCr hFr hMr hDr hmr hn1 hn2 hn3 hrc har hl1 hl2 hl3
    rcases (by omega : t = 0 ∨ t = 1 ∨ t = 2) with rfl | rfl | rfl
    · have PP := Lib.hid (fun wx (hx : Up wr wx) => put_k wx p v' _ (obK 3 n A.name) (HR.out.1.1.up hx) n (j + 2) (k + 2) rfl (hR.add _) (hQ.add _ rfl))
      simp only [obK, Ob.cells, zero3] at PP
      go_wp2_with (go_at_call 27; refine (PP.out _ ((Up.refl _).alloc _)).mono ?_; rintro e w3 ⟨v3, rfl, hP3, hC3, hF3⟩)
      obtain ⟨NM, hNM⟩ : ∃ x, x = (rnd (A.add (obK 2 n 0)) n A.name 0).name := ⟨_, rfl⟩
      simp only [obK, zero3] at hNM
      rw [← hNM]
      have hNL : NM < 9223372036854775808 := by rw [hNM]; exact name_lt (k := k + 2) (hR.add _)
      have hown3 := map_chg (HR.out.1.2.2.2.1.alloc _) hC3 HR.out.1.2.2.2.2.2.2.1
      have U3 : Up w3 (((w3.alloc (.cells #[.int .u8 3, .int .i64 0, .string sealB] 51)).alloc (.cells #[.int .u8 5, .int .i64 NM, .string ⟨#[]⟩] 51)).drew) := (((Up.refl w3).alloc _).alloc _).drew
      obtain ⟨l, hl⟩ := key_of 3 0 sealB (by decide) (by decide) (by decide)
      obtain ⟨w5, hrun, hown5, hturn⟩ := (owns_up hown3 U3).store K Tryz.underlying63 (by have := HR.out.1.2.2.2.2.2.1; unfold maxLen; omega) hl (R3_val (5, NM, ⟨#[]⟩))
      simp only [val] at hrun
      have hz2 : w2.heap.size < wr.heap.size := by have := HL.out.2.2; omega
      have b3 : w3.cell? ⟨w2.heap.size, 3, none⟩ = some (.map (some bm)) := (hC3.cell (p := ⟨w2.heap.size, 3, none⟩) (by simp; omega) HR.out.1.2.2.2.2.2.2.2.1).trans ((World.cell?_alloc_lt _ _ _ (by simpa using hz2)).trans r3)
      have b0 : w3.cell? ⟨wr.heap.size, 0, none⟩ = some (.string sealB) := (hC3.cell (p := ⟨wr.heap.size, 0, none⟩) (by simp) (fun hx => Nat.lt_irrefl _ (show wr.heap.size < wr.heap.size from HR.out.1.1.lt _ hx))).trans (by go_simp)
      have HH := Lib.hid (And.intro hown5 (And.intro hturn (And.intro hP3 (And.intro hC3 (And.intro hF3 hNM)))))
      have WX := Lib.hid (words_x sealB)
      have OX := Lib.hid (object_x NM hNL)
      simp only [val] at WX OX
      have HKL := Lib.hid hl
      clear hown5 hturn hP3 hC3 hF3 hNM hown3 U3 hl
      have hz4 : wr.heap.size < w3.heap.size := by have := HH.out.2.2.2.1.size; rw [World.size_alloc] at this; omega
      have hz3 : w2.heap.size < w3.heap.size := by omega
      have hz5 : wr.heap.size < w3.heap.size + 1 := by omega
      have hz6 : w2.heap.size < w3.heap.size + 1 := by omega
      go_region_with (first
          | (go_at_call 57; refine (WX.out _).mono ?_; rintro e w4 ⟨rfl, rfl⟩)
          | (go_at_call 10; refine (OX.out _).mono ?_; rintro e w4 ⟨rfl, rfl⟩))
      all_goals
        go_wp2_with fail
        refine ⟨⟨1, by omega, rfl, rnd_next HR.out.1.2.1 HR.out.1.2.2.1 HR.out.1.2.2.2.2.2.2.1 HR.out.1.2.2.2.2.2.2.2.1 HR.out.1.2.2.2.2.2.2.2.2 HR.out.2.1 HR.out.2.2 ⟨HL.out.1, HL.out.2.1, rfl, hl4⟩ ((Up.refl _).alloc _) HH.out.2.2.2.1 HH.out.2.2.1 HH.out.2.2.2.2.1 (((Up.refl w3).alloc _).alloc _).drew HH.out.2.1 HH.out.1 (Nat.succ_le_succ HR.out.1.2.2.2.2.2.1) ?_⟩, by simp [intOf]⟩
        have hD : D = .map [] := HR.out.1.2.2.2.2.1
        subst hD
        refine ⟨l, HKL.out, ?_⟩
        rw [HH.out.2.2.2.2.2]
        rfl
    · have PP := Lib.hid (fun wx (hx : Up wr wx) => put_k wx p v' _ (obK 4 n A.name) (HR.out.1.1.up hx) n (j + 1) (k + 1) rfl ((hR.add _).add _) ((hQ.add _ rfl).add _ rfl))
      simp only [obK, Ob.cells, zero3] at PP
      go_wp2_with (go_at_call 27; refine (PP.out _ ((Up.refl _).alloc _)).mono ?_; rintro e w3 ⟨v3, rfl, hP3, hC3, hF3⟩)
      obtain ⟨NM, hNM⟩ : ∃ x, x = (rnd (A.add (obK 2 n 0)) n A.name 1).name := ⟨_, rfl⟩
      simp only [obK, zero3] at hNM
      rw [← hNM]
      have hNL : NM < 9223372036854775808 := by rw [hNM]; exact name_lt (k := k + 1) ((hR.add _).add _)
      have hown3 := map_chg (HR.out.1.2.2.2.1.alloc _) hC3 HR.out.1.2.2.2.2.2.2.1
      have U3 : Up w3 (((w3.alloc (.cells #[.int .u8 3, .int .i64 0, .string unsealB] 51)).alloc (.cells #[.int .u8 5, .int .i64 NM, .string ⟨#[]⟩] 51)).drew) := (((Up.refl w3).alloc _).alloc _).drew
      obtain ⟨l, hl⟩ := key_of 3 0 unsealB (by decide) (by decide) (by decide)
      obtain ⟨w5, hrun, hown5, hturn⟩ := (owns_up hown3 U3).store K Tryz.underlying63 (by have := HR.out.1.2.2.2.2.2.1; unfold maxLen; omega) hl (R3_val (5, NM, ⟨#[]⟩))
      simp only [val] at hrun
      have hz2 : w2.heap.size < wr.heap.size := by have := HL.out.2.2; omega
      have b3 : w3.cell? ⟨w2.heap.size, 3, none⟩ = some (.map (some bm)) := (hC3.cell (p := ⟨w2.heap.size, 3, none⟩) (by simp; omega) HR.out.1.2.2.2.2.2.2.2.1).trans ((World.cell?_alloc_lt _ _ _ (by simpa using hz2)).trans r3)
      have b0 : w3.cell? ⟨wr.heap.size, 0, none⟩ = some (.string unsealB) := (hC3.cell (p := ⟨wr.heap.size, 0, none⟩) (by simp) (fun hx => Nat.lt_irrefl _ (show wr.heap.size < wr.heap.size from HR.out.1.1.lt _ hx))).trans (by go_simp)
      have HH := Lib.hid (And.intro hown5 (And.intro hturn (And.intro hP3 (And.intro hC3 (And.intro hF3 hNM)))))
      have WX := Lib.hid (words_x unsealB)
      have OX := Lib.hid (object_x NM hNL)
      simp only [val] at WX OX
      have HKL := Lib.hid hl
      clear hown5 hturn hP3 hC3 hF3 hNM hown3 U3 hl
      have hz4 : wr.heap.size < w3.heap.size := by have := HH.out.2.2.2.1.size; rw [World.size_alloc] at this; omega
      have hz3 : w2.heap.size < w3.heap.size := by omega
      have hz5 : wr.heap.size < w3.heap.size + 1 := by omega
      have hz6 : w2.heap.size < w3.heap.size + 1 := by omega
      go_region_with (first
          | (go_at_call 57; refine (WX.out _).mono ?_; rintro e w4 ⟨rfl, rfl⟩)
          | (go_at_call 10; refine (OX.out _).mono ?_; rintro e w4 ⟨rfl, rfl⟩))
      all_goals
        go_wp2_with fail
        refine ⟨⟨2, by omega, rfl, rnd_next HR.out.1.2.1 HR.out.1.2.2.1 HR.out.1.2.2.2.2.2.2.1 HR.out.1.2.2.2.2.2.2.2.1 HR.out.1.2.2.2.2.2.2.2.2 HR.out.2.1 HR.out.2.2 ⟨HL.out.1, HL.out.2.1, rfl, hl4⟩ ((Up.refl _).alloc _) HH.out.2.2.2.1 HH.out.2.2.1 HH.out.2.2.2.2.1 (((Up.refl w3).alloc _).alloc _).drew HH.out.2.1 HH.out.1 (Nat.succ_le_succ HR.out.1.2.2.2.2.2.1) ?_⟩, by simp [intOf]⟩
        obtain ⟨l0, hl0, hD⟩ : MapB D (A.add (obK 2 n 0)) n A.name 1 := HR.out.1.2.2.2.2.1
        refine ⟨l0, l, hl0, HKL.out, ?_⟩
        rw [hD, HH.out.2.2.2.2.2]
        rfl
    · have r0 := HR.out.2.1 0 _ rfl
      have r1 := HR.out.2.1 1 _ rfl
      have r2 := HR.out.2.1 2 _ rfl
      have r4 := HR.out.2.1 4 _ rfl
      have r5 := HR.out.2.1 5 _ rfl
      have r6 := HR.out.2.1 6 _ rfl
      have r7 := HR.out.2.1 7 _ rfl
      have r8 := HR.out.2.1 8 _ rfl
      have r9 := HR.out.2.1 9 _ rfl
      have r10 := HR.out.2.1 10 _ rfl
      have r11 := HR.out.2.1 11 _ rfl
      have r12 := HR.out.2.1 12 _ rfl
      have r13 := HR.out.2.1 13 _ rfl
      simp only [Nat.zero_add] at r0 r1 r2 r3 r4 r5 r6 r7 r8 r9 r10 r11 r12 r13
      have PP := Lib.hid (put_k wr p v' _ (recOb n bm) HR.out.1.1 n j k rfl (((hR.add _).add _).add _) (((hQ.add _ rfl).add _ rfl).add _ rfl))
      simp only [recOb, Ob.cells, zero3] at PP
      go_wp2_with (go_at_call 27; refine PP.out.mono ?_; rintro e w6 ⟨v6, rfl, hP6, hC6, hF6⟩)
      have z1 := HP.out.2.1.size
      have z2 := HR.out.1.2.1.size
      have fA : ∀ b ∈ foot p v', b ∈ foot p v ∨ w.heap.size ≤ b := fun b hb => by
        rcases HR.out.1.2.2.1 b hb with h1 | h1
        · exact HP.out.2.2.1 b h1
        · exact .inr (by omega)
      refine bodyPost_ret (v := .tuple #[.int .u64 (rnd (A.add (obK 2 n 0)) n A.name 2).name, .int .i64 0]) (by simp [results, Tryz.results47, go_sem]) rfl ⟨v6, bm, m, D, rfl, hP6, ?_, fun b hb => ?_, map_chg HR.out.1.2.2.2.1 hC6 HR.out.1.2.2.2.2.2.2.1, HR.out.1.2.2.2.2.2.1, HR.out.1.2.2.2.2.1, fun hx => ?_, by have := HL.out.1; omega⟩
      · exact (HP.out.2.1.trans HR.out.1.2.1 (fun b hb => HP.out.2.2.1 b hb)).trans hC6 fA
      · rcases hF6 b hb with h1 | h1
        · exact fA b h1
        · exact .inr (by omega)
      · rcases hF6 bm hx with h1 | h1
        · exact HR.out.1.2.2.2.2.2.2.1 h1
        · have := HR.out.1.2.2.2.1.lt; omega
end Go.Proofs.YtmmfpkkkpeapeaaGreatDoor.ar

/- SealBrands: what brands there are: plain laws. -/
set_option linter.unusedVariables false
namespace Go.Proofs.YtmmfpkkkpeapeaaGreatDoor.sb
open Go.RowKit Go.Maps mem rec ar
set_option maxHeartbeats 400000
theorem Room.mono {A : Ar} {k j : Nat} (h : Room A k) (hj : j ≤ k) : Room A j :=
  ⟨by have := h.sl; omega, fun s hs => by have := h.us s hs; omega, h.fr, h.nd, by have := h.fl; omega⟩
theorem Quo.mono {A : Ar} {n k j : Nat} (h : Quo A n k) (hj : j ≤ k) : Quo A n j := by
  obtain ⟨q, m, h1, h2, h3, h4, h5⟩ := h
  exact ⟨q, m, h1, h2, h3, by omega, h5⟩
/-- Whoever's object comes, an owner may have one less at most. -/
theorem Quo.less {A : Ar} {n k : Nat} (h : Quo A n (k + 1)) (o : Ob) (j : Nat) (hn : o.owner = j) : Quo (A.add o) n k := by
  by_cases e : j = n
  · subst e; exact h.add o hn
  · exact Quo.mono (h.other o hn e) (by omega)
/-- A brand of an owner: its name, its sealer's, its unsealer's. -/
structure Has (A : Ar) (n : Nat) (x : Nat × Nat × Nat) : Prop where
  hb : A.find x.1 = some (obK 2 n 0)
  hs : A.find x.2.1 = some (obK 3 n x.1)
  hu : A.find x.2.2 = some (obK 4 n x.1)
  ls : x.2.1 < 9223372036854775808
  lu : x.2.2 < 9223372036854775808
theorem Has.add {A : Ar} {n k : Nat} {x : Nat × Nat × Nat} (h : Has A n x) (hR : Room A (k + 1)) (o : Ob) : Has (A.add o) n x :=
  ⟨find_add_old hR o h.hb, find_add_old hR o h.hs, find_add_old hR o h.hu, h.ls, h.lu⟩
structure Brands (A : Ar) (ns : Nat → Nat) (l : List (Nat × Nat × Nat)) : Prop where
  hx : ∀ i x, l[i]? = some x → Has A (ns i) x
  ne : ∀ (i j : Nat) (x y : Nat × Nat × Nat), l[i]? = some x → l[j]? = some y → x.1 = y.1 → i = j
theorem Brands.nil (A : Ar) (ns : Nat → Nat) : Brands A ns [] := ⟨by simp, by simp⟩
theorem Brands.add {A : Ar} {ns : Nat → Nat} {k : Nat} {l : List (Nat × Nat × Nat)} (h : Brands A ns l) (hR : Room A (k + 1)) (o : Ob) : Brands (A.add o) ns l :=
  ⟨fun i x hi => (h.hx i x hi).add hR o, h.ne⟩
/-- The arena behind Brand. -/
def after (A : Ar) (n bm : Nat) : Ar := (rnd (A.add (obK 2 n 0)) n A.name 2).add (recOb n bm)
def triple (A : Ar) (n : Nat) : Nat × Nat × Nat := (A.name, (A.add (obK 2 n 0)).name, ((A.add (obK 2 n 0)).add (obK 3 n A.name)).name)
theorem room_after {A : Ar} {k n bm : Nat} (hR : Room A (k + 4)) : Room (after A n bm) k := (((Room.add (k := k + 3) hR _).add _).add _).add _
theorem quo_after {A : Ar} {k j n bm : Nat} (hQ : Quo A j (k + 4)) : Quo (after A n bm) j k :=
  Quo.less (Quo.less (Quo.less (Quo.less (k := k + 3) hQ _ n rfl) _ n rfl) _ n rfl) _ n rfl
theorem has_after {A : Ar} {k n bm : Nat} (hR : Room A (k + 4)) : Has (after A n bm) n (triple A n) := by
  have R1 : Room (A.add (obK 2 n 0)) (k + 3) := Room.add (k := k + 3) hR _
  have R2 : Room ((A.add (obK 2 n 0)).add (obK 3 n A.name)) (k + 2) := Room.add (k := k + 2) R1 _
  have R3 : Room (((A.add (obK 2 n 0)).add (obK 3 n A.name)).add (obK 4 n A.name)) (k + 1) := Room.add (k := k + 1) R2 _
  exact ⟨find_add_old R3 _ (find_add_old R2 _ (find_add_old R1 _ (find_add_new (k := k + 3) hR _))), find_add_old R3 _ (find_add_old R2 _ (find_add_new R1 _)), find_add_old R3 _ (find_add_new R2 _), name_lt R1, name_lt R2⟩
theorem rec_after {A : Ar} {k n bm : Nat} (hR : Room A (k + 4)) : (after A n bm).find (rnd (A.add (obK 2 n 0)) n A.name 2).name = some (recOb n bm) := by
  have R3 : Room (rnd (A.add (obK 2 n 0)) n A.name 2) (k + 1) := ((Room.add (k := k + 3) hR _).add _).add _
  exact find_add_new R3 _
theorem rec_lt {A : Ar} {k n : Nat} (hR : Room A (k + 4)) : (rnd (A.add (obK 2 n 0)) n A.name 2).name < 9223372036854775808 := by
  have R3 : Room (rnd (A.add (obK 2 n 0)) n A.name 2) (k + 1) := ((Room.add (k := k + 3) hR _).add _).add _
  exact name_lt R3
theorem Brands.next {A : Ar} {ns : Nat → Nat} {k n bm : Nat} {l : List (Nat × Nat × Nat)} (h : Brands A ns l) (hR : Room A (k + 4)) (hn : ns l.length = n) : Brands (after A n bm) ns (l ++ [triple A n]) := by
  have R1 : Room (A.add (obK 2 n 0)) (k + 3) := Room.add (k := k + 3) hR _
  have R2 : Room ((A.add (obK 2 n 0)).add (obK 3 n A.name)) (k + 2) := Room.add (k := k + 2) R1 _
  have R3 : Room (((A.add (obK 2 n 0)).add (obK 3 n A.name)).add (obK 4 n A.name)) (k + 1) := Room.add (k := k + 1) R2 _
  have H : Brands (after A n bm) ns l := (((h.add (k := k + 3) hR _).add R1 _).add R2 _).add R3 _
  have new : ∀ i x, (l ++ [triple A n])[i]? = some x → l[i]? = some x ∨ (i = l.length ∧ x = triple A n) := by
    intro i x hi
    by_cases hl : i < l.length
    · rw [List.getElem?_append_left hl] at hi; exact .inl hi
    · rw [List.getElem?_append_right (by omega)] at hi
      have hz : i - l.length < 1 := (List.getElem?_eq_some_iff.1 hi).1
      have hi0 : i = l.length := by omega
      subst hi0
      simp at hi
      exact .inr ⟨rfl, hi.symm⟩
  refine ⟨fun i x hi => ?_, fun i j x y hi hj e => ?_⟩
  · rcases new i x hi with h1 | ⟨rfl, rfl⟩
    · exact H.hx i x h1
    · rw [hn]; exact has_after hR
  · rcases new i x hi with h1 | ⟨rfl, rfl⟩ <;> rcases new j y hj with h2 | ⟨rfl, rfl⟩
    · exact H.ne i j x y h1 h2 e
    · exact absurd e (name_ne (k := k + 3) hR (h.hx i x h1).hb)
    · exact absurd e.symm (name_ne (k := k + 3) hR (h.hx j y h2).hb)
    · rfl
/-- What an unsealer of brand j gives of a box of brand k. -/
theorem opened_same {n : Nat} {b : Int} {c : V3} : opened (obK 4 n b) (boxOb n b c) = (c, 0) := by simp [opened, obK, boxOb]
theorem opened_other {n m : Nat} {b b' : Int} {c : V3} (h : b' ≠ b) : opened (obK 4 n b) (boxOb m b' c) = (zero3, 13) := by simp [opened, obK, boxOb, h]
end Go.Proofs.YtmmfpkkkpeapeaaGreatDoor.sb

/- Membranes: what holds of objects and their proxies; a world of them: plain. -/
set_option linter.unusedVariables false
namespace Go.Proofs.YtmmfpkkkpeapeaaGreatDoor.mb
open Go.RowKit Go.Maps mem rec ar
set_option maxHeartbeats 400000
theorem other_inv {L : List Mb} {m x y : Int} (h : otherR L m x = some y) : otherR L m y = some x := by
  unfold otherR at *
  cases hm : mbAt L m with
  | none => rw [hm] at h; cases h
  | some s =>
    rw [hm] at h
    simp only at h ⊢
    by_cases e0 : x = s.1
    · rw [if_pos e0] at h
      cases h
      by_cases e1 : s.2.1 = s.1
      · rw [if_pos e1, e1, e0]
      · rw [if_neg e1, if_pos rfl, e0]
    · rw [if_neg e0] at h
      by_cases e1 : x = s.2.1
      · rw [if_pos e1] at h
        cases h
        rw [if_pos rfl, e1]
      · rw [if_neg e1] at h
        cases h
theorem find_lt {A : Ar} {k : Nat} (h : Room A k) {r : Nat} {o : Ob} (hf : A.find r = some o) : r < 9223372036854775808 := by
  unfold Ar.find at hf
  split at hf
  · rename_i s hs
    split at hf
    · rename_i hu
      have h1 := h.us s (List.mem_of_getElem? hs)
      have h2 := h.sl
      have h3 := (List.getElem?_eq_some_iff.1 hs).1
      omega
    · cases hf
  · cases hf
/-- What is found behind Put is the new one, or was there. -/
theorem find_add_inv {A : Ar} {k : Nat} (h : Room A (k + 1)) (o : Ob) {r : Nat} {x : Ob} (hf : (A.add o).find r = some x) : (r = A.name ∧ x = o) ∨ A.find r = some x := by
  obtain ⟨g1, ⟨st, hst, hst2⟩, -⟩ := h.grown
  obtain ⟨e1, e2⟩ := name_mod h
  have hlt := (List.getElem?_eq_some_iff.1 hst).1
  unfold Ar.find at hf
  split at hf
  · rename_i s hs
    split at hf
    · rename_i hu
      have hs' : (A.grow.slots.set A.top ⟨A.old + 1, true, o⟩)[r % 4294967296]? = some s := hs
      by_cases e : A.top = r % 4294967296
      · rw [← e, List.getElem?_set_self hlt] at hs'
        cases hs'
        cases hf
        refine .inl ⟨?_, rfl⟩
        have h2 : A.old + 1 = r / 4294967296 := hu.2
        omega
      · rw [List.getElem?_set_ne e] at hs'
        refine .inr ?_
        have h0 : A.slots[r % 4294967296]? = some s := by
          unfold Ar.grow at hs'
          split at hs'
          · have hs2 : (A.slots ++ [sl0])[r % 4294967296]? = some s := hs'
            by_cases hl : r % 4294967296 < A.slots.length
            · rw [List.getElem?_append_left hl] at hs2; exact hs2
            · rw [List.getElem?_append_right (by omega)] at hs2
              have hm := List.mem_of_getElem? hs2
              have : s = sl0 := by simpa using hm
              subst this
              exact absurd hu.1 (by decide)
          · exact hs'
        unfold Ar.find
        rw [h0]
        simp only [if_pos hu]
        exact hf
    · cases hf
  · cases hf
/-- What holds of objects, proxies and the cache. -/
structure Net (A : Ar) (C : Ca) (L : List Mb) (d : Int) : Prop where
  px : ∀ r o, A.find r = some o → o.kind = 6 → ∃ (t : Nat) (o' : Ob), o.target = (t : Int) ∧ A.find t = some o' ∧ otherR L o.membrane o.owner = some o'.owner ∧ ¬ (o'.kind = 6 ∧ o'.membrane = o.membrane) ∧ C o.membrane t = some r
  ca : ∀ m t r, C m t = some r → ∃ o o', A.find r = some o ∧ A.find t = some o' ∧ o.kind = 6 ∧ o.membrane = m ∧ o.target = (t : Int)
  dp : ∀ r o, A.find r = some o → 0 ≤ o.deep ∧ o.deep ≤ d
/-- One stands for the other one. -/
def Lk (A : Ar) (m : Int) (r r' : Nat) : Prop :=
  (∃ o', A.find r' = some o' ∧ o'.kind = 6 ∧ o'.membrane = m ∧ o'.target = (r : Int)) ∨ (∃ o, A.find r = some o ∧ o.kind = 6 ∧ o.membrane = m ∧ o.target = (r' : Int))
def Old (A A' : Ar) : Prop := ∀ x y, A.find x = some y → A'.find x = some y
theorem Old.refl (A : Ar) : Old A A := fun _ _ h => h
theorem Old.trans {A B C : Ar} (h : Old A B) (k : Old B C) : Old A C := fun x y hx => k x y (h x y hx)
theorem Lk.old {A A' : Ar} {m : Int} {r r' : Nat} (h : Lk A m r r') (k : Old A A') : Lk A' m r r' := by
  rcases h with ⟨o, h1, h2⟩ | ⟨o, h1, h2⟩
  · exact .inl ⟨o, k _ _ h1, h2⟩
  · exact .inr ⟨o, k _ _ h1, h2⟩
theorem Net.less {A : Ar} {C : Ca} {L : List Mb} {d e : Int} (h : Net A C L d) (hd : d ≤ e) : Net A C L e :=
  ⟨h.px, h.ca, fun r o hf => by have := h.dp r o hf; omega⟩
theorem Net.proxy {A : Ar} {C : Ca} {L : List Mb} {d m into : Int} {k r : Nat} {o : Ob} (h : Net A C L d) (hR : Room A (k + 1)) (ho : otherR L m into = some o.owner) (hf : A.find r = some o) (hn : ¬ (o.kind = 6 ∧ o.membrane = m)) (hc : C m r = none) :
    Net (A.add (proxyOb into m r (o.deep + 1))) (C.put m r A.name) L (d + 1) := by
  have hd := h.dp r o hf
  refine ⟨fun x y hx hk => ?_, fun m' t x hx => ?_, fun x y hx => ?_⟩
  · rcases find_add_inv hR _ hx with ⟨rfl, rfl⟩ | h0
    · exact ⟨r, o, rfl, find_add_old hR _ hf, ho, hn, by simp [proxyOb, Ca.put]⟩
    · obtain ⟨t, o', h1, h2, h3, h4, h5⟩ := h.px x y h0 hk
      refine ⟨t, o', h1, find_add_old hR _ h2, h3, h4, ?_⟩
      unfold Ca.put
      rw [if_neg]
      · exact h5
      · rintro ⟨e1, e2⟩
        rw [e1, e2, hc] at h5
        cases h5
  · unfold Ca.put at hx
    split at hx
    · rename_i e
      cases hx
      exact ⟨_, o, find_add_new hR _, by rw [e.2]; exact find_add_old hR _ hf, rfl, e.1.symm, by rw [e.2]; rfl⟩
    · obtain ⟨a, b, h1, h2, h3⟩ := h.ca m' t x hx
      exact ⟨a, b, find_add_old hR _ h1, find_add_old hR _ h2, h3⟩
  · rcases find_add_inv hR _ hx with ⟨rfl, rfl⟩ | h0
    · show 0 ≤ o.deep + 1 ∧ o.deep + 1 ≤ d + 1
      omega
    · have := h.dp x y h0; omega
/-- A world of objects of four owners, membranes L: room for k more of each; d: how deep proxies lie at most. -/
structure Wr (w : World) (p cb : Nat) (v : Nat → Value) (A : Ar) (C : Ca) (L : List Mb) (k : Nat) (d : Int) : Prop where
  pt : Parts w p v A
  rm : Room A k
  qu : ∀ n, n < 4 → Quo A n k
  ow : ∃ n D, n + k ≤ 2000 ∧ w.ownsMap Tryz.prog 113 R1 cb n D ∧ CacheIs D C
  cn : cb ∉ foot p v
  nt : Net A C L d
section
variable {w w1 : World} {p cb k : Nat} {v : Nat → Value} {A : Ar} {C : Ca} {L : List Mb} {d : Int}
theorem Wr.lt (h : Wr w p cb v A C L k d) : ∀ b ∈ cb :: foot p v, b < w.heap.size := fun b hb => by
  rcases List.mem_cons.1 hb with h1 | h1
  · obtain ⟨n, D, -, h2, -⟩ := h.ow
    rw [h1]; exact h2.lt
  · exact h.pt.lt b h1
theorem Wr.chg {F : List Nat} (h : Wr w p cb v A C L k d) (c : Chg F w w1) (hF : ∀ b ∈ cb :: foot p v, b ∉ F) : Wr w1 p cb v A C L k d := by
  obtain ⟨n, D, h1, h2, h3⟩ := h.ow
  exact ⟨h.pt.chg c (fun b hb => hF b (List.mem_cons_of_mem _ hb)), h.rm, h.qu, ⟨n, D, h1, map_chg h2 c (hF cb (List.mem_cons_self ..)), h3⟩, h.cn, h.nt⟩
theorem Wr.up (h : Wr w p cb v A C L k d) (u : Up w w1) : Wr w1 p cb v A C L k d := h.chg u.chg (by simp)
theorem Wr.less {j : Nat} {e : Int} (h : Wr w p cb v A C L k d) (hj : j ≤ k) (he : d ≤ e) : Wr w p cb v A C L j e := by
  obtain ⟨n, D, h1, h2, h3⟩ := h.ow
  exact ⟨h.pt, sb.Room.mono h.rm hj, fun n hn => sb.Quo.mono (h.qu n hn) hj, ⟨n, D, by omega, h2, h3⟩, h.cn, h.nt.less he⟩
end
end Go.Proofs.YtmmfpkkkpeapeaaGreatDoor.mb

/- What is handed in: slices, opened element by element. -/
set_option linter.unusedVariables false
namespace Go.Proofs.YtmmfpkkkpeapeaaGreatDoor.op
open Go.RowKit Go.Maps mem rec
set_option maxRecDepth 100000
set_option maxHeartbeats 2000000
/-- A slice of elements of c cells each, of which Q tells what they are. -/
def Handed {α : Type} (c : Nat) (Q : World → Nat → Nat → α → Prop) (v : Value) (w : World) : Prop :=
  ∃ (a : Option Addr) (n cap : Nat) (sp : Nat → α), v = .slice a n cap ∧ (n = 0 ∨ ∃ b off, a = some ⟨b, off, none⟩ ∧ b < w.heap.size ∧ ∀ i, i < n → Q w b (off + i * c) (sp i))
section
variable {H : Type} {enc : TypeId × Value → H} {w : World} {base : Nat} {spare : Nat → Bool} {held : Bool}
theorem open_slice {α : Type} (s0 : α) {t e : TypeId} {c : Nat} (ht : Tryz.prog.underlying t = some (.slice e)) (hc : Tryz.prog.cellsOf e = c) (hc0 : 0 < c) (Q : World → Nat → Nat → α → Prop)
    (one : ∀ (fuel : Nat) (L : List Value) (x : DataW H × List MemPlace), DataW.trod enc Tryz.prog w base spare held fuel e L = some x → ∃ s : α, ∀ b o, (∀ j, j < c → w.cell? ⟨b, o + j, none⟩ = L[j]?) → Q w b o s)
    {fuel : Nat} {v : Value} {x : DataW H × List MemPlace} (h : DataW.trod enc Tryz.prog w base spare held fuel t [v] = some x) : Handed c Q v w := by
  rcases DataW.trod_slice ht h with ⟨h0, _⟩ | ⟨a, len, cap, elems, rest, n, _, he, rfl, hb, hl, hm, hlen, hel, _, _⟩
  · exact ⟨none, 0, 0, fun _ => s0, by simpa using h0, .inl rfl⟩
  have hv : v = .slice (some a) len cap := by simpa using he
  by_cases hz : len = 0
  · exact ⟨some a, len, cap, fun _ => s0, hv, .inl hz⟩
  have each : ∀ i, ∃ s : α, i < len → (∀ b o, (∀ j, j < c → w.cell? ⟨b, o + j, none⟩ = w.cell? ((a.add (i * c)).add j)) → Q w b o s) ∧ ∃ u, w.cell? ((a.add (i * c)).add 0) = some u := by
    intro i
    by_cases hi : i < len
    · obtain ⟨y, hy⟩ : ∃ y, elems[i]? = some y := ⟨elems[i]'(by omega), List.getElem?_eq_getElem (by omega)⟩
      have h1 := hel i hi
      rw [hy, hc, Option.bind_eq_some_iff] at h1
      obtain ⟨cs', hcs, htr⟩ := h1
      obtain ⟨_, hl2, hcell⟩ := World.cells?_some hcs
      obtain ⟨s, hs⟩ := one _ _ _ htr
      refine ⟨s, fun _ => ⟨fun b o hbo => hs b o (fun j hj => (hbo j hj).trans (hcell j (by omega))), ?_⟩⟩
      rw [hcell 0 (by omega)]
      exact ⟨_, List.getElem?_eq_getElem (by omega)⟩
    · exact ⟨s0, fun hh => absurd hh hi⟩
  obtain ⟨sp, hs⟩ := Classical.skolem.1 each
  obtain ⟨b, off, spt⟩ := a
  obtain ⟨u, c0⟩ := (hs 0 (by omega)).2
  have hsp : spt = none := by
    have : (Addr.add (Addr.add ⟨b, off, spt⟩ (0 * c)) 0) = ⟨b, off, spt⟩ := by simp [Addr.add]
    rw [this] at c0
    exact cell_spot c0
  subst hsp
  have add1 : ∀ i j, ((⟨b, off, none⟩ : Addr).add (i * c)).add j = ⟨b, off + i * c + j, none⟩ := fun i j => by rw [Addr.add_mid, Addr.add_mid]
  have hbl : b < w.heap.size := by
    rw [add1] at c0
    exact World.block_lt_of_cell? w _ c0
  exact ⟨some ⟨b, off, none⟩, len, cap, sp, hv, .inr ⟨b, off, rfl, hbl, fun i hi => (hs i hi).1 b (off + i * c) (fun j hj => by rw [add1])⟩⟩
/-- A number of one byte. -/
def U8At (w : World) (b o : Nat) (x : Int) : Prop := w.cell? ⟨b, o, none⟩ = some (.int .u8 x) ∧ 0 ≤ x ∧ x ≤ 255
theorem u8wf {a : Int} (h : (Lit.int .u8 a).wf = true) : 0 ≤ a ∧ a ≤ 255 := by
  have h' : (decide (IntKind.u8.min ≤ a) && decide (a ≤ IntKind.u8.max)) = true := h
  simpa [IntKind.min, IntKind.max, IntKind.signed, IntKind.bits] using h'
theorem open_bytes {fuel : Nat} {v : Value} {x : DataW H × List MemPlace} (h : DataW.trod enc Tryz.prog w base spare held fuel 101 [v] = some x) : Handed 1 U8At v w := by
  refine open_slice (0 : Int) Tryz.underlying101 (by kernel_rfl) (by decide) U8At ?_ h
  intro fuel L x hx
  obtain ⟨k, e, _, hw⟩ := DataW.trod_int Tryz.underlying5 hx
  exact ⟨k, fun b o hj => ⟨by have := hj 0 (by decide); rw [e] at this; simpa using this, u8wf hw⟩⟩
/-- A value as it is handed in: kind, number, text. -/
def VAt (w : World) (b o : Nat) (x : V3) : Prop := (w.cell? ⟨b, o, none⟩ = some (.int .u8 x.1) ∧ w.cell? ⟨b, o + 1, none⟩ = some (.int .i64 x.2.1) ∧ w.cell? ⟨b, o + 2, none⟩ = some (.string x.2.2)) ∧ (0 ≤ x.1 ∧ x.1 ≤ 255) ∧ (Lit.int .i64 x.2.1).wf = true ∧ x.2.2.size ≤ maxLen
theorem open_v {fuel : Nat} {L : List Value} {x : DataW H × List MemPlace} (h : DataW.trod enc Tryz.prog w base spare held fuel 25 L = some x) :
    ∃ k n s, L[0]? = some (.int .u8 k) ∧ L[1]? = some (.int .i64 n) ∧ L[2]? = some (.string s) ∧ (Lit.int .u8 k).wf = true ∧ (Lit.int .i64 n).wf = true ∧ s.size ≤ maxLen := by
  have c5 : Tryz.prog.cellsOf 5 = 1 := by kernel_rfl
  have c2 : Tryz.prog.cellsOf 2 = 1 := by kernel_rfl
  have c9 : Tryz.prog.cellsOf 9 = 1 := by kernel_rfl
  obtain ⟨ys, m, _, _, _, hyl, hf⟩ := DataW.trod_struct Tryz.underlying25 h
  have f0 : DataW.trod enc Tryz.prog w base spare held m 5 ((L.drop 0).take 1) = ys[0]? := by rw [← c5]; exact hf 0 _ rfl
  have f1 : DataW.trod enc Tryz.prog w base spare held m 2 ((L.drop 1).take 1) = ys[1]? := by rw [← c2]; exact hf 1 _ rfl
  have f2 : DataW.trod enc Tryz.prog w base spare held m 9 ((L.drop 2).take 1) = ys[2]? := by rw [← c9]; exact hf 2 _ rfl
  have hyl' : ys.length = 3 := by simpa using hyl
  rw [List.getElem?_eq_getElem (by omega)] at f0 f1 f2
  obtain ⟨k0, e0, _, w0⟩ := DataW.trod_int Tryz.underlying5 f0
  obtain ⟨k1, e1, _, w1⟩ := DataW.trod_int Tryz.underlying2 f1
  obtain ⟨k2, e2, _, w2⟩ := DataW.trod_string Tryz.underlying9 f2
  have g0 : L[0]? = some (.int .u8 k0) := by have := congrArg (·[0]?) e0; simpa [List.getElem?_take, List.getElem?_drop] using this
  have g1 : L[1]? = some (.int .i64 k1) := by have := congrArg (·[0]?) e1; simpa [List.getElem?_take, List.getElem?_drop] using this
  have g2 : L[2]? = some (.string k2) := by have := congrArg (·[0]?) e2; simpa [List.getElem?_take, List.getElem?_drop] using this
  exact ⟨k0, k1, k2, g0, g1, g2, w0, w1, w2⟩
theorem open_vs {fuel : Nat} {v : Value} {x : DataW H × List MemPlace} (h : DataW.trod enc Tryz.prog w base spare held fuel 81 [v] = some x) : Handed 3 VAt v w := by
  refine open_slice zero3 Tryz.underlying81 (by kernel_rfl) (by decide) VAt ?_ h
  intro fuel L x hx
  obtain ⟨k, n, s, h0, h1, h2, w0, w1, w2⟩ := open_v hx
  exact ⟨(k, n, s), fun b o hj => ⟨⟨(hj 0 (by decide)).trans h0, (hj 1 (by decide)).trans h1, (hj 2 (by decide)).trans h2⟩, u8wf w0, w1, w2⟩⟩
end
end Go.Proofs.YtmmfpkkkpeapeaaGreatDoor.op
