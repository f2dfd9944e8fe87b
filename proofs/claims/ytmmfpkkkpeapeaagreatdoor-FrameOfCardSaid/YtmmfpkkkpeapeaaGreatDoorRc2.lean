/- record's functions, each walked once. -/
import Derived.Test.YtmmfpkkkpeapeaaGreatDoorRec
import Derived.Outline
import Derived.WalkSpells
import Derived.BigRegion
set_option linter.unusedVariables false
set_option linter.unusedSimpArgs false
namespace Go.Proofs.YtmmfpkkkpeapeaaGreatDoor.rec
open Go.RowKit Go.Maps mem
/-- Three cells of a block, that may be written. -/
def Has3 (w : World) (b : Nat) (c0 c1 c2 : Value) : Prop :=
  b < w.heap.size ∧ (w.cell? ⟨b, 0, none⟩ = some c0 ∧ w.cell? ⟨b, 1, none⟩ = some c1 ∧ w.cell? ⟨b, 2, none⟩ = some c2) ∧ (w.frozen? ⟨b, 0, none⟩ = false ∧ w.frozen? ⟨b, 1, none⟩ = false ∧ w.frozen? ⟨b, 2, none⟩ = false)
theorem Has3.up {w w' : World} {b : Nat} {c0 c1 c2 : Value} (h : Has3 w b c0 c1 c2) (u : Up w w') : Has3 w' b c0 c1 c2 :=
  ⟨Nat.lt_of_lt_of_le h.1 u.size, ⟨(u.cell (p := ⟨b, 0, none⟩) h.1).trans h.2.1.1, (u.cell (p := ⟨b, 1, none⟩) h.1).trans h.2.1.2.1, (u.cell (p := ⟨b, 2, none⟩) h.1).trans h.2.1.2.2⟩,
    ⟨(u.frozen (p := ⟨b, 0, none⟩) h.1).trans h.2.2.1, (u.frozen (p := ⟨b, 1, none⟩) h.1).trans h.2.2.2.1, (u.frozen (p := ⟨b, 2, none⟩) h.1).trans h.2.2.2.2⟩⟩
theorem has3_alloc (w : World) (c0 c1 c2 : Value) (t : Nat) : Has3 (w.alloc (.cells #[c0, c1, c2] t)) w.heap.size c0 c1 c2 :=
  ⟨by simp, ⟨by go_simp, by go_simp, by go_simp⟩, ⟨by go_simp, by go_simp, by go_simp⟩⟩
theorem has3_alloc2 (w : World) (o : Obj) (c0 c1 c2 : Value) (t : Nat) : Has3 ((w.alloc o).alloc (.cells #[c0, c1, c2] t)) (w.heap.size + 1) c0 c1 c2 := by
  have h := has3_alloc (w.alloc o) c0 c1 c2 t
  rwa [show (w.alloc o).heap.size = w.heap.size + 1 by simp] at h
theorem Up.setCell {a b : World} (h : Up a b) {p : Addr} (hp : a.heap.size ≤ p.block) (u : Value) : Up a (b.setCell p u) := Below.setCell h hp u
theorem up_cell {w w' : World} (u : Up w w') {a : Addr} {v : Value} (h : w.cell? a = some v) : w'.cell? a = some v := (u.cell (p := a) (World.block_lt_of_cell? w a h)).trans h
theorem owns_up {H : Type} {P : Program} {k : TypeId} {R : Value → Option (DataW H × List MemPlace)} {b n : Nat} {D : DataW H} {w w' : World} (h : w.ownsMap P k R b n D) (u : Up w w') : w'.ownsMap P k R b n D := map_chg h u.chg (by simp)
theorem Has3.alloc {w : World} {b : Nat} {c0 c1 c2 : Value} (h : Has3 w b c0 c1 c2) (o : Obj) : Has3 (w.alloc o) b c0 c1 c2 := h.up ((Up.refl w).alloc o)
theorem Has3.drew {w : World} {b : Nat} {c0 c1 c2 : Value} (h : Has3 w b c0 c1 c2) : Has3 w.drew b c0 c1 c2 := h.up ((Up.refl w).drew)
theorem Has3.store {w : World} {b : Nat} {a0 a1 a2 : Value} (h : Has3 w b a0 a1 a2) (c0 c1 c2 : Value) : Has3 (((w.setCell ⟨b, 0, none⟩ c0).setCell ⟨b, 1, none⟩ c1).setCell ⟨b, 2, none⟩ c2) b c0 c1 c2 := by
  obtain ⟨h0, ⟨e0, e1, e2⟩, ⟨f0, f1, f2⟩⟩ := h
  exact ⟨by simpa [World.setCell] using h0, ⟨by go_simp, by go_simp, by go_simp⟩, ⟨by go_simp, by go_simp, by go_simp⟩⟩
theorem Has3.other {w : World} {b x i : Nat} {c0 c1 c2 : Value} (h : Has3 w b c0 c1 c2) (hne : b ≠ x) (v : Value) : Has3 (w.setCell ⟨x, i, none⟩ v) b c0 c1 c2 := by
  have c : Chg [x] w (w.setCell ⟨x, i, none⟩ v) := (Chg.refl [x] w).setCell (p := ⟨x, i, none⟩) (.inl (by simp)) v
  obtain ⟨h0, ⟨e0, e1, e2⟩, ⟨f0, f1, f2⟩⟩ := h
  have hn : b ∉ [x] := by simpa using hne
  exact ⟨Nat.lt_of_lt_of_le h0 c.size, ⟨(c.cell (p := ⟨b, 0, none⟩) h0 hn).trans e0, (c.cell (p := ⟨b, 1, none⟩) h0 hn).trans e1, (c.cell (p := ⟨b, 2, none⟩) h0 hn).trans e2⟩, ⟨(c.frozen (p := ⟨b, 0, none⟩) h0 hn).trans f0, (c.frozen (p := ⟨b, 1, none⟩) h0 hn).trans f1, (c.frozen (p := ⟨b, 2, none⟩) h0 hn).trans f2⟩⟩
/-- What was there reads as it did: rules for the walk. -/
theorem bcell {W w1 : World} (hb : Up W w1) : (∀ b o, b < W.heap.size → w1.cell? ⟨b, o, none⟩ = W.cell? ⟨b, o, none⟩) ∧ (∀ b o, b < W.heap.size → w1.frozen? ⟨b, o, none⟩ = W.frozen? ⟨b, o, none⟩) :=
  ⟨fun b o h => hb.cell (p := ⟨b, o, none⟩) h, fun b o h => hb.frozen (p := ⟨b, o, none⟩) h⟩
set_option maxRecDepth 100000
set_option maxHeartbeats 1000000
theorem get_key (b o bm n : Nat) (D : DataW V3) (p : V3) (l : Lit) (w : World) (c0 : w.cell? ⟨b, o, none⟩ = some (.int .u8 0)) (c3 : w.cell? ⟨b, o + 3, none⟩ = some (.map (some bm)))
    (hown : w.ownsMap Tryz.prog 51 R3 bm n D) (hk : isKey p.1 = true) (hl : keyOf Tryz.prog 51 (val p) = some l) :
    Calls Tryz.prog 59 #[.pointer (some ⟨b, o, none⟩), val p] w fun e w' => e = .returned (.tuple #[val (atv D l), .int .i64 0]) ∧ Up w w' := by
  have hbl : b < w.heap.size := World.block_lt_of_cell? w _ c0
  obtain ⟨k, m, s⟩ := p
  have hU : Up w ((w.alloc (.cells #[.int .u8 k, .int .i64 m, .string s] 51)).alloc (.cells #[.int .u8 0, .int .i64 0, .string ⟨#[]⟩] 51)) := ((Up.refl w).alloc _).alloc _
  have B0 := Lib.hid ((has3_alloc w (.int .u8 k) (.int .i64 m) (.string s) 51).up ((Up.refl _).alloc (.cells #[.int .u8 0, .int .i64 0, .string ⟨#[]⟩] 51)))
  have B1 := Lib.hid (has3_alloc2 w (.cells #[.int .u8 k, .int .i64 m, .string s] 51) (.int .u8 0) (.int .i64 0) (.string ⟨#[]⟩) 51)
  have HK := Lib.hid hk
  have HL := Lib.hid (And.intro hl hown)
  have HU := Lib.hid hU
  have HC := Lib.hid c3
  clear hk hl hown hU c3
  obtain ⟨q, hq⟩ : ∃ q, q = atv D l := ⟨_, rfl⟩
  have HQ := Lib.hid hq
  clear hq
  obtain ⟨q0, q1, q2⟩ := q
  show Calls Tryz.prog 59 #[.pointer (some ⟨b, o, none⟩), .agg #[.int .u8 k, .int .i64 m, .string s]] w _
  go_enter Tryz.func59, Tryz.ntmps59
  go_wp2_with (go_at_call 66; refine (key_any _ _ _ _).mono ?_; rintro e w1 ⟨rfl, hb1⟩; have k1 := HK.out; obtain ⟨z0, ⟨e0, e1, e2⟩, _⟩ := B0.out.up hb1; obtain ⟨z1, ⟨f0, f1, f2⟩, ⟨g0, g1, g2⟩⟩ := B1.out.up hb1; have d3 := up_cell (HU.out.trans hb1) HC.out; have hlk := look w1.drew bm n D (owns_up HL.out.2 (HU.out.trans hb1).drew) HL.out.1; rw [← HQ.out] at hlk; simp only [val] at hlk)
  have HB := Lib.hid hb1
  clear hb1
  go_region
  go_wp2
  refine bodyPost_ret (v := .tuple #[.agg #[.int .u8 q0, .int .i64 q1, .string q2], .int .i64 0]) (by simp [results, Tryz.results59, go_sem, f0, f1, f2]) rfl ⟨by rw [← HQ.out]; rfl, ?_⟩
  exact (((HU.out.trans HB.out).drew.setCell (by simp) _).setCell (by simp) _).setCell (by simp) _
theorem get_nokey (b o : Nat) (p : V3) (w : World) (c0 : w.cell? ⟨b, o, none⟩ = some (.int .u8 0)) (hk : isKey p.1 = false) :
    Calls Tryz.prog 59 #[.pointer (some ⟨b, o, none⟩), val p] w fun e w' => e = .returned (.tuple #[val zero3, .int .i64 7]) ∧ Up w w' := by
  have hbl : b < w.heap.size := World.block_lt_of_cell? w _ c0
  obtain ⟨k, m, s⟩ := p
  have hU : Up w ((w.alloc (.cells #[.int .u8 k, .int .i64 m, .string s] 51)).alloc (.cells #[.int .u8 0, .int .i64 0, .string ⟨#[]⟩] 51)) := ((Up.refl w).alloc _).alloc _
  have B1 := Lib.hid (has3_alloc2 w (.cells #[.int .u8 k, .int .i64 m, .string s] 51) (.int .u8 0) (.int .i64 0) (.string ⟨#[]⟩) 51)
  have HK := Lib.hid hk
  have HU := Lib.hid hU
  clear hk hU
  show Calls Tryz.prog 59 #[.pointer (some ⟨b, o, none⟩), .agg #[.int .u8 k, .int .i64 m, .string s]] w _
  go_enter Tryz.func59, Tryz.ntmps59
  go_wp2_with (go_at_call 66; refine (key_any _ _ _ _).mono ?_; rintro e w1 ⟨rfl, hb1⟩; have k1 := HK.out; obtain ⟨z1, ⟨f0, f1, f2⟩, ⟨g0, g1, g2⟩⟩ := B1.out.up hb1)
  refine bodyPost_ret (v := .tuple #[.agg #[.int .u8 0, .int .i64 0, .string ⟨#[]⟩], .int .i64 7]) (by simp [results, Tryz.results59, go_sem, f0, f1, f2]) rfl ⟨rfl, ?_⟩
  exact (((HU.out.trans hb1).setCell (by simp) _).setCell (by simp) _).setCell (by simp) _
theorem len_any (b o bm n : Nat) (D : DataW V3) (w : World) (c0 : w.cell? ⟨b, o, none⟩ = some (.int .u8 0)) (c3 : w.cell? ⟨b, o + 3, none⟩ = some (.map (some bm)))
    (hown : w.ownsMap Tryz.prog 51 R3 bm n D) :
    Calls Tryz.prog 58 #[.pointer (some ⟨b, o, none⟩)] w fun e w' => e = .returned (.tuple #[val (2, Maps.size D, ⟨#[]⟩), .int .i64 0]) ∧ Up w w' := by
  have hbl : b < w.heap.size := World.block_lt_of_cell? w _ c0
  have hU : Up w (w.alloc (.cells #[.int .u8 0, .int .i64 0, .string ⟨#[]⟩] 51)) := (Up.refl w).alloc _
  have B1 := Lib.hid (has3_alloc w (.int .u8 0) (.int .i64 0) (.string ⟨#[]⟩) 51)
  have hln := fun ty => (owns_up hown hU).len Tryz.underlying63 ty
  have HU := Lib.hid hU
  clear hU hown
  go_enter Tryz.func58, Tryz.ntmps58
  go_wp2_with (go_at_call 23; refine (number _ _).mono ?_; rintro e w1 ⟨rfl, hb1⟩; obtain ⟨z1, ⟨f0, f1, f2⟩, ⟨g0, g1, g2⟩⟩ := B1.out.up hb1; unfold val)
  refine bodyPost_ret (v := .tuple #[.agg #[.int .u8 2, .int .i64 (Maps.size D), .string ⟨#[]⟩], .int .i64 0]) (by simp [results, Tryz.results58, go_sem, f0, f1, f2]) rfl ⟨rfl, ?_⟩
  exact (((HU.out.trans hb1).setCell (by simp) _).setCell (by simp) _).setCell (by simp) _
theorem new_any (n : Int) (w : World) : Calls Tryz.prog 34 #[.int .i64 n] w fun e w' => ∃ bm, e = .returned (.agg #[.int .u8 0, .int .i64 n, .bool false, .map (some bm), .int .i64 0, .int .i64 0, .slice none 0 0, .int .u64 0, .int .u8 0, .int .i64 0, .string ⟨#[]⟩, .int .i64 0, .int .u64 0, .int .i64 0]) ∧ Up w w' ∧ w.heap.size ≤ bm ∧ w'.ownsMap Tryz.prog 51 R3 bm 0 (.map []) := by
  have hmm := @run_makeMap Tryz.prog
  go_enter Tryz.func34, Tryz.ntmps34
  go_wp2
  have hh := World.ownsMap_made (H := V3) (w.alloc (.cells #[.int .u8 0, .int .i64 n, .bool false, .map (some (w.heap.size + 1)), .int .i64 0, .int .i64 0, .slice none 0 0, .int .u64 0, .int .u8 0, .int .i64 0, .string ⟨#[]⟩, .int .i64 0, .int .u64 0, .int .i64 0] 66)) Tryz.prog 51 R3
  rw [World.size_alloc] at hh
  exact bodyPost_ret (v := .agg #[.int .u8 0, .int .i64 n, .bool false, .map (some (w.heap.size + 1)), .int .i64 0, .int .i64 0, .slice none 0 0, .int .u64 0, .int .u8 0, .int .i64 0, .string ⟨#[]⟩, .int .i64 0, .int .u64 0, .int .i64 0]) (by simp [results, Tryz.results34, go_sem]) rfl ⟨_, rfl, ((Up.refl w).alloc _).alloc _, by omega, hh⟩
theorem put_nokey (b o : Nat) (p q : V3) (w : World) (c0 : w.cell? ⟨b, o, none⟩ = some (.int .u8 0)) (hk : isKey p.1 = false) :
    Calls Tryz.prog 56 #[.pointer (some ⟨b, o, none⟩), val p, val q] w fun e w' => e = .returned (.int .i64 7) ∧ Up w w' := by
  have hbl : b < w.heap.size := World.block_lt_of_cell? w _ c0
  obtain ⟨k, m, s⟩ := p
  obtain ⟨k2, m2, s2⟩ := q
  have hU : Up w ((w.alloc (.cells #[.int .u8 k, .int .i64 m, .string s] 51)).alloc (.cells #[.int .u8 k2, .int .i64 m2, .string s2] 51)) := ((Up.refl w).alloc _).alloc _
  have HK := Lib.hid hk
  have HU := Lib.hid hU
  clear hk hU
  show Calls Tryz.prog 56 #[.pointer (some ⟨b, o, none⟩), .agg #[.int .u8 k, .int .i64 m, .string s], .agg #[.int .u8 k2, .int .i64 m2, .string s2]] w _
  go_enter Tryz.func56, Tryz.ntmps56
  go_wp2_with (go_at_call 66; refine (key_any _ _ _ _).mono ?_; rintro e w1 ⟨rfl, hb1⟩; have k1 := HK.out)
  go_ret
  exact ⟨rfl, HU.out.trans hb1⟩
theorem put_frozen (b o : Nat) (p q : V3) (w : World) (c0 : w.cell? ⟨b, o, none⟩ = some (.int .u8 0)) (c2 : w.cell? ⟨b, o + 2, none⟩ = some (.bool true)) (hk : isKey p.1 = true) :
    Calls Tryz.prog 56 #[.pointer (some ⟨b, o, none⟩), val p, val q] w fun e w' => e = .returned (.int .i64 11) ∧ Up w w' := by
  have hbl : b < w.heap.size := World.block_lt_of_cell? w _ c0
  obtain ⟨k, m, s⟩ := p
  obtain ⟨k2, m2, s2⟩ := q
  have hU : Up w ((w.alloc (.cells #[.int .u8 k, .int .i64 m, .string s] 51)).alloc (.cells #[.int .u8 k2, .int .i64 m2, .string s2] 51)) := ((Up.refl w).alloc _).alloc _
  have HK := Lib.hid hk
  have HU := Lib.hid hU
  have HC := Lib.hid c2
  clear hk hU c2
  show Calls Tryz.prog 56 #[.pointer (some ⟨b, o, none⟩), .agg #[.int .u8 k, .int .i64 m, .string s], .agg #[.int .u8 k2, .int .i64 m2, .string s2]] w _
  go_enter Tryz.func56, Tryz.ntmps56
  go_wp2_with (go_at_call 66; refine (key_any _ _ _ _).mono ?_; rintro e w1 ⟨rfl, hb1⟩; have k1 := HK.out; have d2 := up_cell (HU.out.trans hb1) HC.out)
  go_ret
  exact ⟨rfl, HU.out.trans hb1⟩
theorem put_del (b o bm n : Nat) (D : DataW V3) (p q : V3) (l : Lit) (w : World) (c0 : w.cell? ⟨b, o, none⟩ = some (.int .u8 0)) (c2 : w.cell? ⟨b, o + 2, none⟩ = some (.bool false)) (c3 : w.cell? ⟨b, o + 3, none⟩ = some (.map (some bm)))
    (hown : w.ownsMap Tryz.prog 51 R3 bm n D) (hk : isKey p.1 = true) (hl : keyOf Tryz.prog 51 (val p) = some l) (hq : q = zero3) :
    Calls Tryz.prog 56 #[.pointer (some ⟨b, o, none⟩), val p, val q] w fun e w' => e = .returned (.int .i64 0) ∧ Chg [bm] w w' ∧ w'.ownsMap Tryz.prog 51 R3 bm n (D.del l) := by
  have hbl : b < w.heap.size := World.block_lt_of_cell? w _ c0
  obtain ⟨k, m, s⟩ := p
  obtain ⟨k2, m2, s2⟩ := q
  cases hq
  have hU : Up w ((w.alloc (.cells #[.int .u8 k, .int .i64 m, .string s] 51)).alloc (.cells #[.int .u8 0, .int .i64 0, .string ⟨#[]⟩] 51)) := ((Up.refl w).alloc _).alloc _
  have B0 := Lib.hid ((has3_alloc w (.int .u8 k) (.int .i64 m) (.string s) 51).up ((Up.refl _).alloc (.cells #[.int .u8 0, .int .i64 0, .string ⟨#[]⟩] 51)))
  have B1 := Lib.hid (has3_alloc2 w (.cells #[.int .u8 k, .int .i64 m, .string s] 51) (.int .u8 0) (.int .i64 0) (.string ⟨#[]⟩) 51)
  have HK := Lib.hid hk
  have HL := Lib.hid (And.intro hl hown)
  have HU := Lib.hid hU
  have HC := Lib.hid (And.intro c2 c3)
  clear hk hl hown hU c2 c3
  show Calls Tryz.prog 56 #[.pointer (some ⟨b, o, none⟩), .agg #[.int .u8 k, .int .i64 m, .string s], .agg #[.int .u8 0, .int .i64 0, .string ⟨#[]⟩]] w _
  go_enter Tryz.func56, Tryz.ntmps56
  go_wp2_with (go_at_call 66; refine (key_any _ _ _ _).mono ?_; rintro e w1 ⟨rfl, hb1⟩; have k1 := HK.out; obtain ⟨z0, ⟨e0, e1, e2⟩, _⟩ := B0.out.up hb1; obtain ⟨z1, ⟨f0, f1, f2⟩, ⟨g0, g1, g2⟩⟩ := B1.out.up hb1; have d2 := up_cell (HU.out.trans hb1) HC.out.1; have d3 := up_cell (HU.out.trans hb1) HC.out.2)
  have UW : Up w w1 := HU.out.trans hb1
  have ho := Lib.hid (owns_up HL.out.2 UW.drew)
  have HW := Lib.hid (And.intro UW hb1)
  clear UW hb1
  go_region_law ((refine step_delete_own rfl (.tmp 33) (.tmp 34) 63 51 rfl 51 K Tryz.underlying63 R3 bm n D (by simp [Act.eval, Act.put]) ho.out (val (k, m, s)) l (by simp [Act.eval, Act.put, val]) HL.out.1 ?_; intro w2 hown2 hturn))
  all_goals
    go_wp2
    go_ret
    exact ⟨rfl, (HW.out.1.chg.drew.mono (by simp)).turned hturn (.inl (by simp)), hown2⟩
theorem put_full (b o bm n : Nat) (D : DataW V3) (p q : V3) (l : Lit) (w : World) (c0 : w.cell? ⟨b, o, none⟩ = some (.int .u8 0)) (c2 : w.cell? ⟨b, o + 2, none⟩ = some (.bool false)) (c3 : w.cell? ⟨b, o + 3, none⟩ = some (.map (some bm)))
    (hown : w.ownsMap Tryz.prog 51 R3 bm n D) (hk : isKey p.1 = true) (hl : keyOf Tryz.prog 51 (val p) = some l) (hq : (q.1 == 0) = false) (hn : Maps.has D l = false) (hs : (64 : Int) ≤ (Maps.size D : Int)) :
    Calls Tryz.prog 56 #[.pointer (some ⟨b, o, none⟩), val p, val q] w fun e w' => e = .returned (.int .i64 2) ∧ Up w w' := by
  have hbl : b < w.heap.size := World.block_lt_of_cell? w _ c0
  obtain ⟨k, m, s⟩ := p
  obtain ⟨k2, m2, s2⟩ := q
  have q0 : (k2 == 0) = false := hq
  clear hq
  have hU : Up w ((w.alloc (.cells #[.int .u8 k, .int .i64 m, .string s] 51)).alloc (.cells #[.int .u8 k2, .int .i64 m2, .string s2] 51)) := ((Up.refl w).alloc _).alloc _
  have B0 := Lib.hid ((has3_alloc w (.int .u8 k) (.int .i64 m) (.string s) 51).up ((Up.refl _).alloc (.cells #[.int .u8 k2, .int .i64 m2, .string s2] 51)))
  have B1 := Lib.hid (has3_alloc2 w (.cells #[.int .u8 k, .int .i64 m, .string s] 51) (.int .u8 k2) (.int .i64 m2) (.string s2) 51)
  have HK := Lib.hid hk
  have HL := Lib.hid (And.intro hl hown)
  have HU := Lib.hid hU
  have HC := Lib.hid (And.intro c2 c3)
  clear hk hl hown hU c2 c3
  show Calls Tryz.prog 56 #[.pointer (some ⟨b, o, none⟩), .agg #[.int .u8 k, .int .i64 m, .string s], .agg #[.int .u8 k2, .int .i64 m2, .string s2]] w _
  go_enter Tryz.func56, Tryz.ntmps56
  go_wp2_with (go_at_call 66; refine (key_any _ _ _ _).mono ?_; rintro e w1 ⟨rfl, hb1⟩; have k1 := HK.out; obtain ⟨z0, ⟨e0, e1, e2⟩, _⟩ := B0.out.up hb1; obtain ⟨z1, ⟨f0, f1, f2⟩, ⟨g0, g1, g2⟩⟩ := B1.out.up hb1; have d2 := up_cell (HU.out.trans hb1) HC.out.1; have d3 := up_cell (HU.out.trans hb1) HC.out.2)
  have UW : Up w w1 := HU.out.trans hb1
  have hlk := look_ok w1.drew bm n D (owns_up HL.out.2 UW.drew) HL.out.1
  have hlk2 := look_ok (w1.alloc (.cells #[.int .u8 0, .int .i64 0, .string ⟨#[]⟩] 51)).drew bm n D (owns_up HL.out.2 (UW.alloc _).drew) HL.out.1
  have hb1' : b < w1.heap.size := Nat.lt_of_lt_of_le hbl UW.size
  have HW := Lib.hid (And.intro UW hb1)
  clear UW hb1
  generalize atv D l = y at hlk hlk2
  obtain ⟨y0, y1, y2⟩ := y
  simp only [val] at hlk hlk2
  have hln := fun ty => (owns_up HL.out.2 (HW.out.1.alloc (.cells #[.int .u8 y0, .int .i64 y1, .string y2] 51)).drew).len Tryz.underlying63 ty
  go_region
  all_goals
    go_wp2
    go_ret
    exact ⟨rfl, (HW.out.1.alloc _).drew⟩
theorem put_has (b o bm n : Nat) (D : DataW V3) (p q : V3) (l : Lit) (w : World) (c0 : w.cell? ⟨b, o, none⟩ = some (.int .u8 0)) (c2 : w.cell? ⟨b, o + 2, none⟩ = some (.bool false)) (c3 : w.cell? ⟨b, o + 3, none⟩ = some (.map (some bm)))
    (hown : w.ownsMap Tryz.prog 51 R3 bm n D) (hk : isKey p.1 = true) (hl : keyOf Tryz.prog 51 (val p) = some l) (hq : (q.1 == 0) = false) (hn : Maps.has D l = true) (hn1 : n < maxLen) (hq2 : True) :
    Calls Tryz.prog 56 #[.pointer (some ⟨b, o, none⟩), val p, val q] w fun e w' => e = .returned (.int .i64 0) ∧ Chg [bm] w w' ∧ w'.ownsMap Tryz.prog 51 R3 bm (n + 1) (D.put l (.held q)) := by
  have hbl : b < w.heap.size := World.block_lt_of_cell? w _ c0
  obtain ⟨k, m, s⟩ := p
  obtain ⟨k2, m2, s2⟩ := q
  have q0 : (k2 == 0) = false := hq
  clear hq
  have hU : Up w ((w.alloc (.cells #[.int .u8 k, .int .i64 m, .string s] 51)).alloc (.cells #[.int .u8 k2, .int .i64 m2, .string s2] 51)) := ((Up.refl w).alloc _).alloc _
  have B0 := Lib.hid ((has3_alloc w (.int .u8 k) (.int .i64 m) (.string s) 51).up ((Up.refl _).alloc (.cells #[.int .u8 k2, .int .i64 m2, .string s2] 51)))
  have B1 := Lib.hid (has3_alloc2 w (.cells #[.int .u8 k, .int .i64 m, .string s] 51) (.int .u8 k2) (.int .i64 m2) (.string s2) 51)
  have HK := Lib.hid hk
  have HL := Lib.hid (And.intro hl hown)
  have HU := Lib.hid hU
  have HC := Lib.hid (And.intro c2 c3)
  clear hk hl hown hU c2 c3
  show Calls Tryz.prog 56 #[.pointer (some ⟨b, o, none⟩), .agg #[.int .u8 k, .int .i64 m, .string s], .agg #[.int .u8 k2, .int .i64 m2, .string s2]] w _
  go_enter Tryz.func56, Tryz.ntmps56
  go_wp2_with (go_at_call 66; refine (key_any _ _ _ _).mono ?_; rintro e w1 ⟨rfl, hb1⟩; have k1 := HK.out; obtain ⟨z0, ⟨e0, e1, e2⟩, _⟩ := B0.out.up hb1; obtain ⟨z1, ⟨f0, f1, f2⟩, ⟨g0, g1, g2⟩⟩ := B1.out.up hb1; have d2 := up_cell (HU.out.trans hb1) HC.out.1; have d3 := up_cell (HU.out.trans hb1) HC.out.2)
  have UW : Up w w1 := HU.out.trans hb1
  have hlk := look_ok w1.drew bm n D (owns_up HL.out.2 UW.drew) HL.out.1
  have hlk2 := look_ok (w1.alloc (.cells #[.int .u8 0, .int .i64 0, .string ⟨#[]⟩] 51)).drew bm n D (owns_up HL.out.2 (UW.alloc _).drew) HL.out.1
  have hb1' : b < w1.heap.size := Nat.lt_of_lt_of_le hbl UW.size
  have HW := Lib.hid (And.intro UW hb1)
  clear UW hb1
  generalize atv D l = y at hlk hlk2
  obtain ⟨y0, y1, y2⟩ := y
  simp only [val] at hlk hlk2
  obtain ⟨w2, hrun, hown2, hturn⟩ := (owns_up HL.out.2 (HW.out.1.alloc (.cells #[.int .u8 y0, .int .i64 y1, .string y2] 51)).drew.drew).store K Tryz.underlying63 hn1 HL.out.1 (R3_val (k2, m2, s2))
  simp only [val] at hrun
  have HO := Lib.hid (And.intro hown2 hturn)
  clear hown2 hturn
  have hnil : ∀ (w : World), (binOp .eql 63 (.map (some bm)) (.map none)).run Tryz.prog w = .ok (.bool false) w := fun w => run_eql_map_nil w _ _ _ (some bm) Tryz.underlying63
  go_region
  all_goals
    go_wp2
    go_region
  all_goals
    go_wp2
    go_ret
    exact ⟨rfl, ((HW.out.1.alloc _).drew.drew.chg.mono (by simp)).turned HO.out.2 (.inl (by simp)), HO.out.1⟩
theorem put_room (b o bm n : Nat) (D : DataW V3) (p q : V3) (l : Lit) (w : World) (c0 : w.cell? ⟨b, o, none⟩ = some (.int .u8 0)) (c2 : w.cell? ⟨b, o + 2, none⟩ = some (.bool false)) (c3 : w.cell? ⟨b, o + 3, none⟩ = some (.map (some bm)))
    (hown : w.ownsMap Tryz.prog 51 R3 bm n D) (hk : isKey p.1 = true) (hl : keyOf Tryz.prog 51 (val p) = some l) (hq : (q.1 == 0) = false) (hn : Maps.has D l = false) (hs : (Maps.size D : Int) < 64) (hn1 : n < maxLen) (hq2 : True) :
    Calls Tryz.prog 56 #[.pointer (some ⟨b, o, none⟩), val p, val q] w fun e w' => e = .returned (.int .i64 0) ∧ Chg [bm] w w' ∧ w'.ownsMap Tryz.prog 51 R3 bm (n + 1) (D.put l (.held q)) := by
  have hbl : b < w.heap.size := World.block_lt_of_cell? w _ c0
  obtain ⟨k, m, s⟩ := p
  obtain ⟨k2, m2, s2⟩ := q
  have q0 : (k2 == 0) = false := hq
  clear hq
  have hU : Up w ((w.alloc (.cells #[.int .u8 k, .int .i64 m, .string s] 51)).alloc (.cells #[.int .u8 k2, .int .i64 m2, .string s2] 51)) := ((Up.refl w).alloc _).alloc _
  have B0 := Lib.hid ((has3_alloc w (.int .u8 k) (.int .i64 m) (.string s) 51).up ((Up.refl _).alloc (.cells #[.int .u8 k2, .int .i64 m2, .string s2] 51)))
  have B1 := Lib.hid (has3_alloc2 w (.cells #[.int .u8 k, .int .i64 m, .string s] 51) (.int .u8 k2) (.int .i64 m2) (.string s2) 51)
  have HK := Lib.hid hk
  have HL := Lib.hid (And.intro hl hown)
  have HU := Lib.hid hU
  have HC := Lib.hid (And.intro c2 c3)
  clear hk hl hown hU c2 c3
  show Calls Tryz.prog 56 #[.pointer (some ⟨b, o, none⟩), .agg #[.int .u8 k, .int .i64 m, .string s], .agg #[.int .u8 k2, .int .i64 m2, .string s2]] w _
  go_enter Tryz.func56, Tryz.ntmps56
  go_wp2_with (go_at_call 66; refine (key_any _ _ _ _).mono ?_; rintro e w1 ⟨rfl, hb1⟩; have k1 := HK.out; obtain ⟨z0, ⟨e0, e1, e2⟩, _⟩ := B0.out.up hb1; obtain ⟨z1, ⟨f0, f1, f2⟩, ⟨g0, g1, g2⟩⟩ := B1.out.up hb1; have d2 := up_cell (HU.out.trans hb1) HC.out.1; have d3 := up_cell (HU.out.trans hb1) HC.out.2)
  have UW : Up w w1 := HU.out.trans hb1
  have hlk := look_ok w1.drew bm n D (owns_up HL.out.2 UW.drew) HL.out.1
  have hlk2 := look_ok (w1.alloc (.cells #[.int .u8 0, .int .i64 0, .string ⟨#[]⟩] 51)).drew bm n D (owns_up HL.out.2 (UW.alloc _).drew) HL.out.1
  have hb1' : b < w1.heap.size := Nat.lt_of_lt_of_le hbl UW.size
  have HW := Lib.hid (And.intro UW hb1)
  clear UW hb1
  generalize atv D l = y at hlk hlk2
  obtain ⟨y0, y1, y2⟩ := y
  simp only [val] at hlk hlk2
  have hln := fun ty => (owns_up HL.out.2 (HW.out.1.alloc (.cells #[.int .u8 y0, .int .i64 y1, .string y2] 51)).drew).len Tryz.underlying63 ty
  obtain ⟨w2, hrun, hown2, hturn⟩ := (owns_up HL.out.2 (HW.out.1.alloc (.cells #[.int .u8 y0, .int .i64 y1, .string y2] 51)).drew.drew).store K Tryz.underlying63 hn1 HL.out.1 (R3_val (k2, m2, s2))
  simp only [val] at hrun
  have HO := Lib.hid (And.intro hown2 hturn)
  clear hown2 hturn
  have hnil : ∀ (w : World), (binOp .eql 63 (.map (some bm)) (.map none)).run Tryz.prog w = .ok (.bool false) w := fun w => run_eql_map_nil w _ _ _ (some bm) Tryz.underlying63
  go_region
  all_goals
    go_wp2
    go_region
  all_goals
    go_wp2
    go_ret
    exact ⟨rfl, ((HW.out.1.alloc _).drew.drew.chg.mono (by simp)).turned HO.out.2 (.inl (by simp)), HO.out.1⟩
end Go.Proofs.YtmmfpkkkpeapeaaGreatDoor.rec
