/- seal's functions over the arena. -/
import Derived.Test.YtmmfpkkkpeapeaaGreatDoorAx
import Derived.Test.YtmmfpkkkpeapeaaGreatDoorRc2
set_option linter.unusedVariables false
set_option linter.unusedSimpArgs false
namespace Go.Proofs.YtmmfpkkkpeapeaaGreatDoor.ar
open Go.RowKit Go.Maps mem rec
attribute [local go_sem ↓] Go.wp_at_zero Go.wp_at_succ
set_option maxRecDepth 100000
set_option maxHeartbeats 2000000
theorem has3_chg {F : List Nat} {w w' : World} {b : Nat} {c0 c1 c2 : Value} (h : Has3 w b c0 c1 c2) (u : Chg F w w') (hn : b ∉ F) : Has3 w' b c0 c1 c2 := by
  have hb : b < w.heap.size := h.1
  have e := u.block b hb hn
  obtain ⟨h0, ⟨h1, h2, h3⟩, h4, h5, h6⟩ := h
  refine ⟨Nat.lt_of_lt_of_le h0 u.size, ⟨?_, ?_, ?_⟩, ?_, ?_, ?_⟩ <;> first | (rw [← h1]; simp [World.cell?, e]; done) | (rw [← h2]; simp [World.cell?, e]; done) | (rw [← h3]; simp [World.cell?, e]; done) | (rw [← h4]; simp [World.frozen?, e]; done) | (rw [← h5]; simp [World.frozen?, e]; done) | (rw [← h6]; simp [World.frozen?, e]; done)
def boxOb (n : Nat) (br : Int) (c : V3) : Ob := ⟨5, n, false, none, 0, 0, none, 0, 0, br, c, 0, 0, 0⟩
theorem seal_room (w : World) (p r : Nat) (v : Nat → Value) (A : Ar) (o : Ob) (c : V3) (h : Parts w p v A) (hr : r < 18446744073709551616) (hf : A.find r = some o) (hk : o.kind = 3)
    (n : Nat) (q m : Int) (hn : o.owner = n) (hq : A.quotas[n]? = some q) (hm : A.many[n]? = some m) (hlt : m < q) (hq1 : q ≤ 1000000) (hm0 : 0 ≤ m)
    (hs : A.slots.length < 1000000) (hu : ∀ s ∈ A.slots, s.uses < 1000000) (hfl : ∀ n ∈ A.free, n < A.slots.length) (hfn : A.free.length < 1000000) (hnm : A.name < 9223372036854775808) :
    Calls Tryz.prog 49 #[.pointer (some ⟨p, 0, none⟩), .int .u64 r, val c] w fun e w' => ∃ v', e = .returned (.tuple #[val (5, (A.name : Int), ⟨#[]⟩), .int .i64 0]) ∧ Parts w' p v' (A.add (boxOb n o.brand c)) ∧ Chg (foot p v) w w' ∧ ∀ b ∈ foot p v', b ∈ foot p v ∨ w.heap.size ≤ b := by
  obtain ⟨c0, c1, c2⟩ := c
  have hU : Up w ((w.alloc (.cells #[.int .u8 c0, .int .i64 c1, .string c2] 51)).alloc (.cells #[.int .u8 0, .int .i64 0, .string ⟨#[]⟩] 51)) := ((Up.refl w).alloc _).alloc _
  have B0 := Lib.hid ((has3_alloc w (.int .u8 c0) (.int .i64 c1) (.string c2) 51).up ((Up.refl _).alloc (.cells #[.int .u8 0, .int .i64 0, .string ⟨#[]⟩] 51)))
  have B1 := Lib.hid (has3_alloc2 w (.cells #[.int .u8 c0, .int .i64 c1, .string c2] 51) (.int .u8 0) (.int .i64 0) (.string ⟨#[]⟩) 51)
  have G := Lib.hid (get_yes _ p r v A o (h.up hU) hr hf)
  have HL := Lib.hid h.lt
  have PW : Hid (∀ wx, Up w wx → Calls Tryz.prog 27 #[.pointer (some ⟨p, 0, none⟩), .agg (boxOb n o.brand (c0, c1, c2)).cells.toArray] wx fun e w' => ∃ v', e = .returned (.tuple #[.int .u64 A.name, .int .i64 0]) ∧ Parts w' p v' (A.add (boxOb n o.brand (c0, c1, c2))) ∧ Chg (foot p v) wx w' ∧ ∀ b ∈ foot p v', b ∈ foot p v ∨ wx.heap.size ≤ b) :=
    fun wx hx => ar.put_room wx p v A _ (h.up hx) n q m rfl hq hm hlt hq1 hm0 hs hu hfl hfn
  simp only [boxOb, Ob.cells] at PW
  have HU := Lib.hid hU
  have hp : p < w.heap.size := h.hd.lt
  obtain ⟨kind, owner, frozen, fields, module, func, ha, hn', hc, brand, content, membrane, target, deep⟩ := o
  simp only at hk hn PW
  subst hk hn
  have HX := Lib.hid hnm
  clear h hf hq hm hlt hq1 hm0 hs hu hfl hfn hU hnm
  show Calls Tryz.prog 49 #[.pointer (some ⟨p, 0, none⟩), .int .u64 r, .agg #[.int .u8 c0, .int .i64 c1, .string c2]] w _
  go_enter Tryz.func49, Tryz.ntmps49
  go_wp2_with (go_at_call 14; refine G.out.mono ?_; rintro e w2 ⟨g, rfl, hU2, hog, hob⟩; have d0 : w2.cell? ⟨g, (r % 4294967296) * 16 + 2, none⟩ = some (.int .u8 3) := up_cell hU2 (hob 0 _ rfl); have d1 : w2.cell? ⟨g, (r % 4294967296) * 16 + 2 + 1, none⟩ = some (.int .i64 n) := up_cell hU2 (hob 1 _ rfl); have d7 : w2.cell? ⟨g, (r % 4294967296) * 16 + 2 + 7, none⟩ = some (.int .u64 brand) := up_cell hU2 (hob 7 _ rfl); obtain ⟨z0, ⟨x0, x1, x2⟩, ⟨y0, y1, y2⟩⟩ := B0.out.up hU2; have B2 := Lib.hid (B1.out.up hU2); have HU2 := Lib.hid (HU.out.trans hU2); clear hob hU2 hog)
  generalize (r % 4294967296) * 16 + 2 = k at *
  go_cut [9, 10] from 24 to 39 (fun t9 t10 wx => t9 = .int .u64 A.name ∧ t10 = .int .i64 0 ∧ ∃ v', Parts wx p v' (A.add (boxOb n brand (c0, c1, c2))) ∧ Chg (foot p v) w2 wx ∧ ∀ b ∈ foot p v', b ∈ foot p v ∨ w2.heap.size ≤ b)
  case first =>
    go_region_with (go_at_call 27; refine (PW.out _ HU2.out.drew).mono ?_; rintro e w3 ⟨v', rfl, hP, hC, hF⟩)
    all_goals
      go_wp2_with fail
      go_meet
      exact ⟨rfl, rfl, v', hP, (Chg.refl _ w2).drew.trans hC (fun b hb => .inl hb), fun b hb => hF b hb⟩
  case rest =>
    obtain ⟨rfl, rfl, v', hP, hC, hF⟩ := hcut
    obtain ⟨s0, ⟨s1, s2, s3⟩, ⟨t1, t2, t3⟩⟩ := has3_chg B2.out hC (fun hb => by have := HL.out _ hb; omega)
    have HE := Lib.hid (And.intro hP (And.intro hC hF))
    clear hP hC hF
    have OX := Lib.hid (object_x A.name HX.out)
    simp only [val] at OX
    go_wp2_with (go_at_call 10; refine (OX.out _).mono ?_; rintro e w4 ⟨rfl, rfl⟩)
    have B3 := (Has3.store (show Has3 wc (w.heap.size + 1) _ _ _ from ⟨s0, ⟨s1, s2, s3⟩, ⟨t1, t2, t3⟩⟩) (.int .u8 5) (.int .i64 A.name) (.string ⟨#[]⟩)).alloc (.cells #[.int .u8 5, .int .i64 A.name, .string ⟨#[]⟩] 51)
    obtain ⟨-, ⟨q1, q2, q3⟩, -⟩ := B3
    have CF : Chg [w.heap.size + 1] wc ((((wc.setCell ⟨w.heap.size + 1, 0, none⟩ (.int .u8 5)).setCell ⟨w.heap.size + 1, 1, none⟩ (.int .i64 A.name)).setCell ⟨w.heap.size + 1, 2, none⟩ (.string ⟨#[]⟩)).alloc (.cells #[.int .u8 5, .int .i64 A.name, .string ⟨#[]⟩] 51)) :=
      ((((Chg.refl _ wc).setCell (p := ⟨w.heap.size + 1, 0, none⟩) (.inl (by simp)) _).setCell (p := ⟨w.heap.size + 1, 1, none⟩) (.inl (by simp)) _).setCell (p := ⟨w.heap.size + 1, 2, none⟩) (.inl (by simp)) _).alloc _
    have hz2 : w.heap.size + 1 < w2.heap.size := B2.out.1
    refine bodyPost_ret (v := .tuple #[.agg #[.int .u8 5, .int .i64 A.name, .string ⟨#[]⟩], .int .i64 0]) (by simp [results, Tryz.results49, go_sem, q1, q2, q3]) rfl ⟨v', rfl, ?_, ?_, ?_⟩
    · exact HE.out.1.chg CF (fun b hb hx => by
        have hx' : b = w.heap.size + 1 := by simpa using hx
        rcases HE.out.2.2 b hb with h1 | h1
        · have := HL.out _ h1; omega
        · omega)
    · exact ((HU2.out.chg.mono (by simp)).trans HE.out.2.1 (fun b hb => .inl hb)).trans CF (fun b hb => .inr (by rw [List.mem_singleton.1 hb]; exact Nat.le_succ _))
    · exact fun b hb => (HE.out.2.2 b hb).imp id (fun h1 => by omega)
end Go.Proofs.YtmmfpkkkpeapeaaGreatDoor.ar
