/- RecordPlays: the walk of the law. -/
import Derived.Test.YtojbphnkabfkpaaGreatDoorRc2
import Derived.Test.YtojbphnkabfkpaaGreatDoorAwake
import Derived.Outline
import Derived.Deep.RegionHeld3
import Derived.Deep.DrawnRows
import Derived.Deep.CutBlock
import Derived.Deep.QuietTactic
import Derived.BigQuiet
set_option linter.unusedVariables false
set_option linter.unusedSimpArgs false
namespace Go.Proofs.YtojbphnkabfkpaaGreatDoor.plays
open Go.RowKit Go.Maps mem rec
attribute [local go_sem ↓] Go.wp_at_zero Go.wp_at_succ
set_option maxRecDepth 100000
set_option maxHeartbeats 20000000
/-- A step's numbers and texts. -/
structure Sp where
  d : Int
  ka : Int
  na : Int
  sa : ByteArray
  kb : Int
  nb : Int
  sb : ByteArray
  m : Int
def SpAt (w : World) (b o : Nat) (s : Sp) : Prop :=
  w.cell? ⟨b, o, none⟩ = some (.int .u8 s.d) ∧ w.cell? ⟨b, o + 1, none⟩ = some (.int .u8 s.ka) ∧ w.cell? ⟨b, o + 2, none⟩ = some (.int .i64 s.na) ∧ w.cell? ⟨b, o + 3, none⟩ = some (.string s.sa) ∧
  w.cell? ⟨b, o + 4, none⟩ = some (.int .u8 s.kb) ∧ w.cell? ⟨b, o + 5, none⟩ = some (.int .i64 s.nb) ∧ w.cell? ⟨b, o + 6, none⟩ = some (.string s.sb) ∧ w.cell? ⟨b, o + 7, none⟩ = some (.int .u8 s.m)
theorem SpAt.chg {F : List Nat} {w w' : World} {b o : Nat} {s : Sp} (h : SpAt w b o s) (c : Chg F w w') (hb : b < w.heap.size) (hn : b ∉ F) : SpAt w' b o s := by
  obtain ⟨h0, h1, h2, h3, h4, h5, h6, h7⟩ := h
  have e : ∀ i, w'.cell? ⟨b, i, none⟩ = w.cell? ⟨b, i, none⟩ := fun i => c.cell (p := ⟨b, i, none⟩) hb hn
  exact ⟨(e _).trans h0, (e _).trans h1, (e _).trans h2, (e _).trans h3, (e _).trans h4, (e _).trans h5, (e _).trans h6, (e _).trans h7⟩
def Sp.ok (s : Sp) : Prop := (0 ≤ s.d ∧ s.d ≤ 255) ∧ (0 ≤ s.ka ∧ s.ka ≤ 255) ∧ (0 ≤ s.kb ∧ s.kb ≤ 255) ∧ (0 ≤ s.m ∧ s.m ≤ 255) ∧ ∃ l, keyOf Tryz.prog 31 (val (vmk s.ka s.na s.sa)) = some l
def kv (m ka na : Int) (sa : ByteArray) : V3 := if m % 3 = 1 then (2, m, ⟨#[]⟩) else vmk ka na sa
theorem kv_yes {m : Int} (h : m % 3 = 1) (ka na : Int) (sa : ByteArray) : kv m ka na sa = (2, m, ⟨#[]⟩) := by unfold kv; rw [if_pos h]
theorem kv_no {m : Int} (h : ¬ m % 3 = 1) (ka na : Int) (sa : ByteArray) : kv m ka na sa = vmk ka na sa := by unfold kv; rw [if_neg h]
theorem up_drewN {a b : World} (h : Up a b) (n : Nat) : Up a (b.drewN n) := ⟨h.os, h.tape, h.output, h.size, h.block⟩
/-- Both maps read as one; the record's cells. -/
structure TwoD (w : World) (B bo b1 b2 n : Nat) (D : DataW V3) (fz : Bool) : Prop where
  o1 : w.ownsMap Tryz.prog 31 R3 b1 n D
  o2 : w.ownsMap Tryz.prog 31 R3 b2 n D
  sz : Maps.size D ≤ 64
  bd : B ≤ bo ∧ B ≤ b1 ∧ B ≤ b2
  ne : bo ≠ b1 ∧ bo ≠ b2 ∧ b1 ≠ b2
  lt : bo < w.heap.size
  c0 : w.cell? ⟨bo, 0, none⟩ = some (.int .u8 0)
  c1 : w.cell? ⟨bo, 1, none⟩ = some (.int .i64 1)
  c2 : w.cell? ⟨bo, 2, none⟩ = some (.bool fz)
  c3 : w.cell? ⟨bo, 3, none⟩ = some (.map (some b1))
  f2 : w.frozen? ⟨bo, 2, none⟩ = false
theorem TwoD.turn {w w' : World} {B bo b1 b2 n n' : Nat} {D D' : DataW V3} {fz : Bool} (h : TwoD w B bo b1 b2 n D fz) (c : Chg [b1, b2] w w') (o1 : w'.ownsMap Tryz.prog 31 R3 b1 n' D') (o2 : w'.ownsMap Tryz.prog 31 R3 b2 n' D') (sz : Maps.size D' ≤ 64) : TwoD w' B bo b1 b2 n' D' fz := by
  have hn : bo ∉ [b1, b2] := by simp [h.ne.1, h.ne.2.1]
  have e : ∀ i, w'.cell? ⟨bo, i, none⟩ = w.cell? ⟨bo, i, none⟩ := fun i => c.cell (p := ⟨bo, i, none⟩) h.lt hn
  exact ⟨o1, o2, sz, h.bd, h.ne, Nat.lt_of_lt_of_le h.lt c.size, (e _).trans h.c0, (e _).trans h.c1, (e _).trans h.c2, (e _).trans h.c3, (c.frozen (p := ⟨bo, 2, none⟩) h.lt hn).trans h.f2⟩
theorem TwoD.up {w w' : World} {B bo b1 b2 n : Nat} {D : DataW V3} {fz : Bool} (h : TwoD w B bo b1 b2 n D fz) (u : Up w w') : TwoD w' B bo b1 b2 n D fz :=
  h.turn (u.chg.mono (by simp)) (owns_up h.o1 u) (owns_up h.o2 u) h.sz
theorem TwoD.mono {w : World} {B bo b1 b2 n n' : Nat} {D : DataW V3} {fz : Bool} (h : TwoD w B bo b1 b2 n D fz) (hn : n ≤ n') : TwoD w B bo b1 b2 n' D fz :=
  ⟨h.o1.mono hn, h.o2.mono hn, h.sz, h.bd, h.ne, h.lt, h.c0, h.c1, h.c2, h.c3, h.f2⟩
theorem TwoD.freeze {w : World} {B bo b1 b2 n : Nat} {D : DataW V3} {fz : Bool} (h : TwoD w B bo b1 b2 n D fz) : TwoD (w.setCell ⟨bo, 2, none⟩ (.bool true)) B bo b1 b2 n D true := by
  have c : Chg [bo] w (w.setCell ⟨bo, 2, none⟩ (.bool true)) := (Chg.refl [bo] w).setCell (p := ⟨bo, 2, none⟩) (.inl (by simp)) _
  obtain ⟨o1, o2, sz, bd, ne, lt, c0, c1, c2, c3, f2⟩ := h
  exact ⟨map_chg o1 c (by simp; exact fun e => ne.1 e.symm), map_chg o2 c (by simp; exact fun e => ne.2.1 e.symm), sz, bd, ne, by simpa [World.setCell] using lt, by go_simp, by go_simp, by go_simp, by go_simp, by go_simp⟩
/-- The loop's state. -/
def Two (w0 w : World) (bo b1 b2 k : Nat) (fz : Bool) : Prop := ∃ D : DataW V3, TwoD w w0.heap.size bo b1 b2 k D fz ∧ Below w0.heap.size w0 w
theorem vmk_nil {k n : Int} {s : ByteArray} (h : (vmk k n s).1 = 0) : vmk k n s = zero3 := by
  unfold vmk at *
  repeat' split at h
  all_goals first | (simp at h; done) | skip
  rename_i h1 h2 h3 h4
  rw [if_neg h1, if_neg h2, if_neg h3, if_neg h4]; rfl
theorem key_kv {m ka na : Int} {sa : ByteArray} (hm : 0 ≤ m ∧ m ≤ 255) (h : ∃ l, keyOf Tryz.prog 31 (val (vmk ka na sa)) = some l) : ∃ l, keyOf Tryz.prog 31 (val (kv m ka na sa)) = some l := by
  by_cases h3 : m % 3 = 1
  · rw [kv_yes h3]
    exact key_of 2 m _ (by decide) (by show (decide (IntKind.i64.min ≤ m) && decide (m ≤ IntKind.i64.max)) = true; simp [IntKind.min, IntKind.max, IntKind.signed, IntKind.bits]; omega) (by decide)
  · rw [kv_no h3]; exact h
theorem plays (b off len cap : Nat) (sp : Nat → Sp) (w : World) (hL : Laid w) (hb : b < w.heap.size) (hlen : len ≤ 100)
    (hc : ∀ j, j < len → SpAt w b (off + j * 8) (sp j)) (hw : ∀ j, j < len → (sp j).ok) :
    Calls Tryz.prog 3 #[.slice (some ⟨b, off, none⟩) len cap] w fun e w' => e = .returned (.bool true) ∧ Up w w' := by
  have hmm := @run_makeMap Tryz.prog
  have HC := Lib.hid hc
  have HW := Lib.hid hw
  clear hc hw
  have il : (len : Int) ≤ 100 := by omega
  go_enter Tryz.func3, Tryz.ntmps3
  go_wp2_with (first | (go_at_call 12; refine (awake13 _ hL).mono ?_; rintro e w0 ⟨rfl, hb0⟩) | (go_at_call 13; refine (new_any _ _).mono ?_; rintro e w1 ⟨bm, rfl, hb1, hlt, hown⟩))
  have s0 := hb0.size
  have s1 := hb1.size
  have hlt1 : bm < w1.heap.size := hown.lt
  go_loopw [5, 29] (fun f i wr => ∃ (k : Nat) (fz : Bool), k ≤ len ∧ i = .int .i64 k ∧ f = .bool fz ∧ Two w wr (w1.heap.size + 1) bm w1.heap.size k fz) (fun _ i _ => len - (intOf i).toNat)
  case atStart =>
    have hom : ((w1.alloc (.map #[] 0)).alloc (.cells #[.int .u8 0, .int .i64 1, .bool false, .map (some bm), .int .i64 0, .int .i64 0, .slice none 0 0, .int .u64 0, .int .u8 0, .int .i64 0, .string ⟨#[]⟩, .int .i64 0, .int .u64 0, .int .i64 0] 33)).ownsMap Tryz.prog 31 R3 w1.heap.size 0 (.map []) := (World.ownsMap_made (H := V3) w1 Tryz.prog 31 R3).alloc _
    refine ⟨0, false, Nat.zero_le _, rfl, rfl, .map [], ⟨(hown.alloc _).alloc _, hom, by simp [Maps.size], by omega, by omega, by simp, ?_, ?_, ?_, ?_, ?_⟩, ((hb0.trans (hb1.mono s0)).alloc (by omega) _).alloc (by simp; omega) _⟩
    all_goals go_simp
  case round =>
    obtain ⟨k, fz, hk, rfl, rfl, D, ht, hbel⟩ := hrel
    have HT := Lib.hid (And.intro ht hbel)
    clear ht hbel
    by_cases hlt : k < len
    · have hcx := (HC.out k hlt).chg (Chg.of_up (w := w) (w' := wr) HT.out.2) hb (by simp)
      have hsp := HW.out k hlt
      generalize sp k = s at hcx hsp
      obtain ⟨d, ka, na, sa, kb, nb, sb, m⟩ := s
      obtain ⟨⟨hd0, hd1⟩, ⟨hka0, hka1⟩, ⟨hkb0, hkb1⟩, ⟨hm0, hm1⟩, hkey⟩ := hsp
      obtain ⟨c0, c1, c2, c3, c4, c5, c6, c7⟩ := hcx
      simp only at c0 c1 c2 c3 c4 c5 c6 c7 hd0 hd1 hka0 hka1 hkb0 hkb1 hm0 hm1 hkey
      have HK := Lib.hid (And.intro hkey (And.intro (And.intro hka0 hka1) (And.intro hkb0 hkb1)))
      have HD := Lib.hid (And.intro (And.intro hd0 hd1) (And.intro hm0 hm1))
      clear hkey hka0 hka1 hkb0 hkb1 hd0 hd1 hm0 hm1
      go_wp2_with fail
      go_cut [8, 9] from 33 to 38 (fun x y wx => ∃ xb yb : Nat, x = .pointer (some ⟨xb, 0, none⟩) ∧ y = .pointer (some ⟨yb, 0, none⟩) ∧ wr.heap.size < xb ∧ wr.heap.size < yb ∧ xb ≠ yb ∧ Has3 wx xb (.int .u8 (vmk ka na sa).1) (.int .i64 (vmk ka na sa).2.1) (.string (vmk ka na sa).2.2) ∧
        Has3 wx yb (.int .u8 (vmk kb nb sb).1) (.int .i64 (vmk kb nb sb).2.1) (.string (vmk kb nb sb).2.2) ∧ Up (wr.alloc (.cells #[.int .u8 d, .int .u8 ka, .int .i64 na, .string sa, .int .u8 kb, .int .i64 nb, .string sb, .int .u8 m] 38)) wx)
      case first =>
        obtain ⟨⟨hka0, hka1⟩, ⟨hkb0, hkb1⟩⟩ := HK.out.2
        clear c0 c1 c2 c3 c4 c5 c6 c7
        go_region_held3 (fun w' => w'.cell? ⟨wr.heap.size, 1, none⟩ = some (.int .u8 ka) ∧ w'.cell? ⟨wr.heap.size, 2, none⟩ = some (.int .i64 na) ∧ w'.cell? ⟨wr.heap.size, 3, none⟩ = some (.string sa) ∧ w'.cell? ⟨wr.heap.size, 4, none⟩ = some (.int .u8 kb) ∧ w'.cell? ⟨wr.heap.size, 5, none⟩ = some (.int .i64 nb) ∧ w'.cell? ⟨wr.heap.size, 6, none⟩ = some (.string sb)) ((refine ⟨?_, ?_, ?_, ?_, ?_, ?_⟩ <;> go_simp))
          ((go_at_call 14; refine (make_x _ _ _ (by assumption) (by assumption) _).mono ?_; rintro e w2 ⟨rfl, rfl⟩; simp only [val]))
        all_goals
          go_wp2_with fail
          go_meet
          refine ⟨_, _, rfl, rfl, ?_, ?_, ?_, ?_, ?_, ?_⟩
          · omega
          · omega
          · omega
          · unfold Has3; refine ⟨?_, ⟨?_, ?_, ?_⟩, ⟨?_, ?_, ?_⟩⟩ <;> go_simp
          · unfold Has3; refine ⟨?_, ⟨?_, ?_, ?_⟩, ⟨?_, ?_, ?_⟩⟩ <;> go_simp
          · repeat first | exact Up.refl _ | apply Up.drew | apply Up.alloc
      case rest =>
        obtain ⟨xb, yb, rfl, rfl, hxl, hyl, hxy, hx, hy, hup⟩ := hcut
        have HX := Lib.hid (And.intro hx (And.intro hy hup))
        have m0 : 0 ≤ m := HD.out.2.1
        have m1 : m ≤ 255 := HD.out.2.2
        have U9 : Up wr wc := ((Up.refl wr).alloc _).trans hup
        obtain ⟨hx0, ⟨x0, x1, x2⟩, ⟨x3, x4, x5⟩⟩ := hx
        have hs8 : SpAt wc wr.heap.size 0 ⟨d, ka, na, sa, kb, nb, sb, m⟩ := SpAt.chg (w := wr.alloc (.cells #[.int .u8 d, .int .u8 ka, .int .i64 na, .string sa, .int .u8 kb, .int .i64 nb, .string sb, .int .u8 m] 38)) (by unfold SpAt; refine ⟨?_, ?_, ?_, ?_, ?_, ?_, ?_, ?_⟩ <;> go_simp) hup.chg (by simp) (by simp)
        obtain ⟨s0, s1, s2, s3, s4, s5, s6, s7⟩ := id hs8
        clear c0 c1 c2 c3 c4 c5 c6 c7 hy hup s1 s2 s3 s4 s5 s6
        simp only [Nat.zero_add] at s7 s0
        have HU9 := Lib.hid U9
        clear U9
        go_upto_if 42 with (fail)
        go_cut [] from 43 to 46 (fun wx => Has3 wx xb (.int .u8 (kv m ka na sa).1) (.int .i64 (kv m ka na sa).2.1) (.string (kv m ka na sa).2.2) ∧ Has3 wx yb (.int .u8 (vmk kb nb sb).1) (.int .i64 (vmk kb nb sb).2.1) (.string (vmk kb nb sb).2.2) ∧ Up wr wx ∧ SpAt wx wr.heap.size 0 ⟨d, ka, na, sa, kb, nb, sb, m⟩)
        case first =>
          have hs8 := Lib.hid hs8
          by_cases h3 : m % 3 = 1
          · have b3 : (m % 3 == 1) = true := by simpa using h3
            have E := Lib.hid (kv_yes h3 ka na sa)
            clear h3
            go_wp2_with fail
            refine (number_x _ _).mono ?_
            rintro e w2 ⟨rfl, rfl⟩
            simp only [val]
            go_wp2_with fail
            go_meet
            rw [E.out]
            have hne : yb ≠ xb := fun e => hxy e.symm
            have hle : wr.heap.size ≤ xb := Nat.le_of_lt hxl
            exact ⟨(HX.out.1.store _ _ _).alloc _, (((HX.out.2.1.other hne _).other hne _).other hne _).alloc _, (((HU9.out.setCell (by exact hle) _).setCell (by exact hle) _).setCell (by exact hle) _).alloc _,
              hs8.out.chg ((((((Chg.refl [xb] wc).setCell (p := ⟨xb, 0, none⟩) (.inl (by simp)) _).setCell (p := ⟨xb, 1, none⟩) (.inl (by simp)) _).setCell (p := ⟨xb, 2, none⟩) (.inl (by simp)) _)).alloc _) (Nat.lt_trans hxl hx0) (by simp; omega)⟩
          · have b3 : (m % 3 == 1) = false := by simpa using h3
            have E := Lib.hid (kv_no h3 ka na sa)
            clear h3
            go_wp2_with fail
            go_meet
            rw [E.out]
            exact ⟨HX.out.1, HX.out.2.1, HU9.out, hs8.out⟩
        case rest =>
          obtain ⟨hx, hy, hu, hs⟩ := hcut
          have hkl := key_kv (ka := ka) (na := na) (sa := sa) HD.out.2 HK.out.1
          have hqn := vmk_nil (k := kb) (n := nb) (s := sb)
          generalize kv m ka na sa = p at hx hkl
          generalize vmk kb nb sb = q at hy hqn
          clear HX hx0 x0 x1 x2 x3 x4 x5 hs8 s0 s7 HU9 HK
          obtain ⟨pk, pn, ps⟩ := p
          obtain ⟨qk, qn, qs⟩ := q
          obtain ⟨l, hl⟩ := hkl
          simp only at hx hy hqn
          have HB := Lib.hid (And.intro hx (And.intro hy (And.intro (HT.out.1.up hu) (And.intro (HT.out.2.trans (hu.mono HT.out.2.size)) (And.intro hl (And.intro hqn hs))))))
          obtain ⟨hx0, ⟨x0, x1, x2⟩, _⟩ := hx
          obtain ⟨hy0, ⟨y0, y1, y2⟩, _⟩ := hy
          obtain ⟨s0, _, _, _, _, _, _, s7⟩ := hs
          simp only [Nat.zero_add] at s7 s0
          have hbw : w1.heap.size + 1 < wr.heap.size := HT.out.1.lt
          clear HT hu hl hqn
          have d0 : 0 ≤ d := HD.out.1.1
          have d1 : d ≤ 255 := HD.out.1.2
          obtain ⟨wm, rfl⟩ : ∃ wm : World, wm = wc := ⟨_, rfl⟩
          go_upto_region 12 with (fail)
          go_cut [10] from 47 to 54 (fun v wx => v = .bool (isKey pk) ∧ wm = wx)
          case first =>
            by_cases h2 : pk = 2
            · subst h2
              go_wp2_with fail
              go_meet
              exact ⟨rfl, rfl⟩
            · have b2 : (pk == 2) = false := by simpa using h2
              by_cases h3 : pk = 3
              · subst h3
                go_wp2_with fail
                go_meet
                exact ⟨rfl, rfl⟩
              · have b3 : (pk == 3) = false := by simpa using h3
                have E : Hid (isKey pk = false) := by unfold isKey; rw [b2, b3]; rfl
                clear h2 h3
                go_wp2_with fail
                go_meet
                exact ⟨by rw [E.out], rfl⟩
          case rest =>
            obtain ⟨rfl, rfl⟩ := hcut
            go_upto_block 2 with (fail)
            go_cut [5, 10, 11, 12, 13, 14, 15] from 58 to 138 (fun f a0 a1 a2 a3 a4 a5 wx => ∃ fz' : Bool, f = .bool fz' ∧ Two w wx (w1.heap.size + 1) bm w1.heap.size (k + 1) fz')
            case first =>
              have T := Lib.hid HB.out.2.2.1
              have HE := Lib.hid HB.out.2.2.2.1
              by_cases hd3 : d % 5 = 3
              · have q3 : (d % 5 == 3) = true := by simpa using hd3
                clear hd3
                by_cases hk1 : isKey pk = true
                · go_wp2_with fail
                  refine (get_key (w1.heap.size + 1) 0 bm k D (pk, pn, ps) l _ T.out.c0 T.out.c3 T.out.o1 hk1 HB.out.2.2.2.2.1).mono ?_
                  rintro e w5 ⟨rfl, hb5⟩
                  have z0 := up_cell hb5 x0
                  have z1 := up_cell hb5 x1
                  have z2 := up_cell hb5 x2
                  have z3 : xb < w5.heap.size := Nat.lt_of_lt_of_le hx0 hb5.size
                  have hlk : ∀ n, (Instr.lookup 25 (.map (some w1.heap.size)) (val (pk, pn, ps)) false).run Tryz.prog ((w5.alloc (.cells #[.int .u8 (atv D l).1, .int .i64 (atv D l).2.1, .string (atv D l).2.2] 31)).drewN n) = .ok (val (atv D l)) ((w5.alloc (.cells #[.int .u8 (atv D l).1, .int .i64 (atv D l).2.1, .string (atv D l).2.2] 31)).drewN n) := fun n => rec.look _ w1.heap.size k D (owns_up T.out.o2 (up_drewN (hb5.alloc _) _)) HB.out.2.2.2.2.1
                  have HQ := Lib.hid hb5
                  clear hb5
                  unfold val at hlk ⊢
                  generalize atv D l = y at hlk ⊢
                  obtain ⟨yk, yn, ys⟩ := y
                  simp only at hlk ⊢
                  go_wp2_with fail
                  go_quiet (fail)
                  go_wp2_with fail
                  go_meet
                  exact ⟨fz, rfl, D, (T.out.up (up_drewN (HQ.out.alloc _) _)).mono (Nat.le_succ _), (HE.out.trans ((up_drewN (HQ.out.alloc _) _).mono HE.out.size))⟩
                · have hk1 : isKey pk = false := by simpa using hk1
                  go_wp2_with fail
                  refine (get_nokey (w1.heap.size + 1) 0 (pk, pn, ps) _ T.out.c0 hk1).mono ?_
                  rintro e w5 ⟨rfl, hb5⟩
                  unfold val zero3
                  have HQ := Lib.hid hb5
                  clear hb5
                  go_wp2_with fail
                  go_quiet (fail)
                  go_wp2_with fail
                  go_meet
                  exact ⟨fz, rfl, D, (T.out.up (up_drewN (HQ.out.alloc _) _)).mono (Nat.le_succ _), (HE.out.trans ((up_drewN (HQ.out.alloc _) _).mono HE.out.size))⟩
              have q3 : (d % 5 == 3) = false := by simpa using hd3
              clear hd3
              by_cases hd4 : d % 5 = 4
              · have q4 : (d % 5 == 4) = true := by simpa using hd4
                clear hd4
                by_cases hm8 : m % 8 = 0
                · have q8 : (m % 8 == 0) = true := by simpa using hm8
                  clear hm8
                  go_wp2_with fail
                  refine (freeze_any (w1.heap.size + 1) 0 fz _ T.out.c0 T.out.c2 T.out.f2).mono ?_
                  rintro e w5 ⟨rfl, hw5⟩
                  have HQ := Lib.hid hw5
                  clear hw5
                  go_wp2_with fail
                  go_meet
                  rw [HQ.out]
                  exact ⟨true, rfl, D, T.out.freeze.mono (Nat.le_succ _), HE.out.setCell T.out.bd.1 _⟩
                · have q8 : (m % 8 == 0) = false := by simpa using hm8
                  clear hm8
                  go_wp2_with fail
                  go_meet
                  exact ⟨fz, rfl, D, HB.out.2.2.1.mono (Nat.le_succ _), HB.out.2.2.2.1⟩
              have q4 : (d % 5 == 4) = false := by simpa using hd4
              clear hd4
              have hxn : xb ∉ [bm] := by simp; omega
              have hyn : yb ∉ [bm] := by simp; omega
              have hb2n : w1.heap.size ∉ [bm] := by simp; omega
              have hk100 : k < maxLen := by unfold maxLen; omega
              by_cases hk1 : isKey pk = true
              · by_cases hfz : fz = true
                · subst hfz
                  go_wp2_with fail
                  refine (put_frozen (w1.heap.size + 1) 0 (pk, pn, ps) (qk, qn, qs) _ T.out.c0 T.out.c2 hk1).mono ?_
                  rintro e w5 ⟨rfl, hb5⟩
                  have z0 := up_cell hb5 x0
                  have z1 := up_cell hb5 x1
                  have z2 := up_cell hb5 x2
                  have z3 : xb < w5.heap.size := Nat.lt_of_lt_of_le hx0 hb5.size
                  have hlk := rec.look_ok w5 w1.heap.size k D (owns_up T.out.o2 hb5) HB.out.2.2.2.2.1
                  have HQ := Lib.hid hb5
                  clear hb5
                  unfold val at hlk
                  generalize atv D l = y at hlk
                  generalize Maps.has D l = hs at hlk
                  obtain ⟨yk, yn, ys⟩ := y
                  simp only at hlk
                  go_wp2_with fail
                  go_meet
                  exact ⟨true, rfl, D, (T.out.up (HQ.out.alloc _)).mono (Nat.le_succ _), (HE.out.trans ((HQ.out.alloc _).mono HE.out.size))⟩
                obtain rfl : fz = false := by simpa using hfz
                clear hfz
                by_cases hq0 : qk = 0
                · have hz := HB.out.2.2.2.2.2.1 hq0
                  simp only [zero3, Prod.mk.injEq] at hz
                  obtain ⟨rfl, rfl, rfl⟩ := hz
                  clear hq0
                  go_wp2_with fail
                  refine (put_del (w1.heap.size + 1) 0 bm k D (pk, pn, ps) zero3 l _ T.out.c0 T.out.c2 T.out.c3 T.out.o1 hk1 HB.out.2.2.2.2.1 rfl).mono ?_
                  rintro e w5 ⟨rfl, hc5, ho5⟩
                  obtain ⟨hs, hhas⟩ : ∃ hs, Maps.has D l = hs := ⟨_, rfl⟩
                  obtain ⟨e0, e1, e2⟩ : w5.cell? ⟨xb, 0, none⟩ = some (.int .u8 pk) ∧ w5.cell? ⟨xb, 1, none⟩ = some (.int .i64 pn) ∧ w5.cell? ⟨xb, 2, none⟩ = some (.string ps) := ⟨(hc5.cell (p := ⟨xb, 0, none⟩) hx0 hxn).trans x0, (hc5.cell (p := ⟨xb, 1, none⟩) hx0 hxn).trans x1, (hc5.cell (p := ⟨xb, 2, none⟩) hx0 hxn).trans x2⟩
                  obtain ⟨g0, g1, g2⟩ : w5.cell? ⟨yb, 0, none⟩ = some (.int .u8 0) ∧ w5.cell? ⟨yb, 1, none⟩ = some (.int .i64 0) ∧ w5.cell? ⟨yb, 2, none⟩ = some (.string ⟨#[]⟩) := ⟨(hc5.cell (p := ⟨yb, 0, none⟩) hy0 hyn).trans y0, (hc5.cell (p := ⟨yb, 1, none⟩) hy0 hyn).trans y1, (hc5.cell (p := ⟨yb, 2, none⟩) hy0 hyn).trans y2⟩
                  have hx5 : xb < w5.heap.size := Nat.lt_of_lt_of_le hx0 hc5.size
                  have hy5 : yb < w5.heap.size := Nat.lt_of_lt_of_le hy0 hc5.size
                  have ho2 := map_chg T.out.o2 hc5 hb2n
                  have hlk := rec.look_ok w5 w1.heap.size k D ho2 HB.out.2.2.2.2.1
                  unfold val at hlk
                  generalize atv D l = y at hlk
                  obtain ⟨yk, yn, ys⟩ := y
                  simp only at hlk
                  rw [hhas] at hlk
                  have HQ := Lib.hid (And.intro hc5 (And.intro ho5 ho2))
                  clear hhas hc5 ho5 ho2
                  go_wp2_with (at_delete; refine wpList_delete_own _ rfl (.tmp 85) (.tmp 86) 25 31 rfl 31 K Tryz.underlying25 R3 w1.heap.size k D rfl (HQ.out.2.2.alloc _) (val (pk, pn, ps)) l rfl HB.out.2.2.2.2.1 ?_; intro w6 hown6 hturn6)
                  go_meet
                  have hsz := Maps.size_del (k := l) (T.out.o1.tidy K)
                  have c6 : Chg [bm, w1.heap.size] wm w6 := ((HQ.out.1.mono (by simp)).alloc _).turned hturn6 (.inl (by simp))
                  have o6 := map_chg HQ.out.2.1 ((Chg.turned ((Chg.refl [w1.heap.size] w5).alloc _) hturn6 (.inl (by simp)))) (show bm ∉ [w1.heap.size] by simp; omega)
                  exact ⟨false, rfl, D.del l, (T.out.turn c6 o6 hown6 (by have := T.out.sz; omega)).mono (Nat.le_succ _), HE.out.trans (c6.below HE.out.size (by intro b hb; simp at hb; rcases hb with rfl | rfl; exact T.out.bd.2.1; exact T.out.bd.2.2))⟩
                have hq0 : (qk == 0) = false := by simpa using hq0
                by_cases hh : Maps.has D l = true
                · have hhas := hh
                  go_wp2_with fail
                  refine (put_has (w1.heap.size + 1) 0 bm k D (pk, pn, ps) (qk, qn, qs) l _ T.out.c0 T.out.c2 T.out.c3 T.out.o1 hk1 HB.out.2.2.2.2.1 hq0 hh hk100 trivial).mono ?_
                  rintro e w5 ⟨rfl, hc5, ho5⟩
                  obtain ⟨e0, e1, e2⟩ : w5.cell? ⟨xb, 0, none⟩ = some (.int .u8 pk) ∧ w5.cell? ⟨xb, 1, none⟩ = some (.int .i64 pn) ∧ w5.cell? ⟨xb, 2, none⟩ = some (.string ps) := ⟨(hc5.cell (p := ⟨xb, 0, none⟩) hx0 hxn).trans x0, (hc5.cell (p := ⟨xb, 1, none⟩) hx0 hxn).trans x1, (hc5.cell (p := ⟨xb, 2, none⟩) hx0 hxn).trans x2⟩
                  obtain ⟨g0, g1, g2⟩ : w5.cell? ⟨yb, 0, none⟩ = some (.int .u8 qk) ∧ w5.cell? ⟨yb, 1, none⟩ = some (.int .i64 qn) ∧ w5.cell? ⟨yb, 2, none⟩ = some (.string qs) := ⟨(hc5.cell (p := ⟨yb, 0, none⟩) hy0 hyn).trans y0, (hc5.cell (p := ⟨yb, 1, none⟩) hy0 hyn).trans y1, (hc5.cell (p := ⟨yb, 2, none⟩) hy0 hyn).trans y2⟩
                  have hx5 : xb < w5.heap.size := Nat.lt_of_lt_of_le hx0 hc5.size
                  have hy5 : yb < w5.heap.size := Nat.lt_of_lt_of_le hy0 hc5.size
                  have ho2 := map_chg T.out.o2 hc5 hb2n
                  have hlk := rec.look_ok w5 w1.heap.size k D ho2 HB.out.2.2.2.2.1
                  unfold val at hlk
                  generalize atv D l = y at hlk
                  obtain ⟨yk, yn, ys⟩ := y
                  simp only at hlk
                  rw [hhas] at hlk
                  have HQ := Lib.hid (And.intro hc5 (And.intro ho5 ho2))
                  obtain ⟨w6, hrun, hown6, hturn6⟩ := (ho2.alloc (.cells #[.int .u8 yk, .int .i64 yn, .string ys] 31)).store K Tryz.underlying25 hk100 HB.out.2.2.2.2.1 (R3_val (qk, qn, qs))
                  have HO := Lib.hid (And.intro hown6 (And.intro hturn6 hh))
                  unfold val at hrun
                  simp only at hrun
                  clear hhas hc5 ho5 ho2 hown6 hturn6 hh
                  go_wp2_with fail
                  go_meet
                  have hsz := Maps.size_put (k := l) (T.out.o1.tidy K) (.held (qk, qn, qs))
                  rw [HO.out.2.2, if_pos rfl] at hsz
                  have c6 : Chg [bm, w1.heap.size] wm w6 := ((HQ.out.1.mono (by simp)).alloc _).turned HO.out.2.1 (.inl (by simp))
                  have o6 := map_chg HQ.out.2.1 ((Chg.turned ((Chg.refl [w1.heap.size] w5).alloc _) HO.out.2.1 (.inl (by simp)))) (show bm ∉ [w1.heap.size] by simp; omega)
                  exact ⟨false, rfl, _, T.out.turn c6 o6 HO.out.1 (by have := T.out.sz; omega), HE.out.trans (c6.below HE.out.size (by intro b hb; simp at hb; rcases hb with rfl | rfl; exact T.out.bd.2.1; exact T.out.bd.2.2))⟩
                have hhas : Maps.has D l = false := by simpa using hh
                clear hh
                by_cases h64 : Maps.size D = 64
                · have hi64 : (64 : Int) ≤ (Maps.size D : Int) := by omega
                  have he64 : ((Maps.size D : Int) == 64) = true := by simp [h64]
                  clear h64
                  go_wp2_with fail
                  refine (put_full (w1.heap.size + 1) 0 bm k D (pk, pn, ps) (qk, qn, qs) l _ T.out.c0 T.out.c2 T.out.c3 T.out.o1 hk1 HB.out.2.2.2.2.1 hq0 hhas hi64).mono ?_
                  rintro e w5 ⟨rfl, hb5⟩
                  have hc5 : Chg [bm] wm w5 := hb5.chg.mono (by simp)
                  have ho5 := owns_up T.out.o1 hb5
                  obtain ⟨e0, e1, e2⟩ : w5.cell? ⟨xb, 0, none⟩ = some (.int .u8 pk) ∧ w5.cell? ⟨xb, 1, none⟩ = some (.int .i64 pn) ∧ w5.cell? ⟨xb, 2, none⟩ = some (.string ps) := ⟨(hc5.cell (p := ⟨xb, 0, none⟩) hx0 hxn).trans x0, (hc5.cell (p := ⟨xb, 1, none⟩) hx0 hxn).trans x1, (hc5.cell (p := ⟨xb, 2, none⟩) hx0 hxn).trans x2⟩
                  obtain ⟨g0, g1, g2⟩ : w5.cell? ⟨yb, 0, none⟩ = some (.int .u8 qk) ∧ w5.cell? ⟨yb, 1, none⟩ = some (.int .i64 qn) ∧ w5.cell? ⟨yb, 2, none⟩ = some (.string qs) := ⟨(hc5.cell (p := ⟨yb, 0, none⟩) hy0 hyn).trans y0, (hc5.cell (p := ⟨yb, 1, none⟩) hy0 hyn).trans y1, (hc5.cell (p := ⟨yb, 2, none⟩) hy0 hyn).trans y2⟩
                  have hx5 : xb < w5.heap.size := Nat.lt_of_lt_of_le hx0 hc5.size
                  have hy5 : yb < w5.heap.size := Nat.lt_of_lt_of_le hy0 hc5.size
                  have ho2 := map_chg T.out.o2 hc5 hb2n
                  have hlk := rec.look_ok w5 w1.heap.size k D ho2 HB.out.2.2.2.2.1
                  unfold val at hlk
                  generalize atv D l = y at hlk
                  obtain ⟨yk, yn, ys⟩ := y
                  simp only at hlk
                  rw [hhas] at hlk
                  have HQ := Lib.hid (And.intro hc5 (And.intro ho5 ho2))
                  have hln := fun ty => (ho2.alloc (.cells #[.int .u8 yk, .int .i64 yn, .string ys] 31)).len Tryz.underlying25 ty
                  have HU5 := Lib.hid hb5
                  clear hhas hc5 ho5 ho2 hb5 hi64
                  go_wp2_with fail
                  go_meet
                  exact ⟨false, rfl, D, (T.out.up (HU5.out.alloc _)).mono (Nat.le_succ _), (HE.out.trans ((HU5.out.alloc _).mono HE.out.size))⟩
                have hi64 : (Maps.size D : Int) < 64 := by have := T.out.sz; omega
                have he64 : ((Maps.size D : Int) == 64) = false := by simpa using (by omega : ¬ (Maps.size D : Int) = 64)
                clear h64
                go_wp2_with fail
                refine (put_room (w1.heap.size + 1) 0 bm k D (pk, pn, ps) (qk, qn, qs) l _ T.out.c0 T.out.c2 T.out.c3 T.out.o1 hk1 HB.out.2.2.2.2.1 hq0 hhas hi64 hk100 trivial).mono ?_
                rintro e w5 ⟨rfl, hc5, ho5⟩
                obtain ⟨e0, e1, e2⟩ : w5.cell? ⟨xb, 0, none⟩ = some (.int .u8 pk) ∧ w5.cell? ⟨xb, 1, none⟩ = some (.int .i64 pn) ∧ w5.cell? ⟨xb, 2, none⟩ = some (.string ps) := ⟨(hc5.cell (p := ⟨xb, 0, none⟩) hx0 hxn).trans x0, (hc5.cell (p := ⟨xb, 1, none⟩) hx0 hxn).trans x1, (hc5.cell (p := ⟨xb, 2, none⟩) hx0 hxn).trans x2⟩
                obtain ⟨g0, g1, g2⟩ : w5.cell? ⟨yb, 0, none⟩ = some (.int .u8 qk) ∧ w5.cell? ⟨yb, 1, none⟩ = some (.int .i64 qn) ∧ w5.cell? ⟨yb, 2, none⟩ = some (.string qs) := ⟨(hc5.cell (p := ⟨yb, 0, none⟩) hy0 hyn).trans y0, (hc5.cell (p := ⟨yb, 1, none⟩) hy0 hyn).trans y1, (hc5.cell (p := ⟨yb, 2, none⟩) hy0 hyn).trans y2⟩
                have hx5 : xb < w5.heap.size := Nat.lt_of_lt_of_le hx0 hc5.size
                have hy5 : yb < w5.heap.size := Nat.lt_of_lt_of_le hy0 hc5.size
                have ho2 := map_chg T.out.o2 hc5 hb2n
                have hlk := rec.look_ok w5 w1.heap.size k D ho2 HB.out.2.2.2.2.1
                unfold val at hlk
                generalize atv D l = y at hlk
                obtain ⟨yk, yn, ys⟩ := y
                simp only at hlk
                rw [hhas] at hlk
                have HQ := Lib.hid (And.intro hc5 (And.intro ho5 ho2))
                have hln := fun ty => (ho2.alloc (.cells #[.int .u8 yk, .int .i64 yn, .string ys] 31)).len Tryz.underlying25 ty
                obtain ⟨w6, hrun, hown6, hturn6⟩ := (ho2.alloc (.cells #[.int .u8 yk, .int .i64 yn, .string ys] 31)).store K Tryz.underlying25 hk100 HB.out.2.2.2.2.1 (R3_val (qk, qn, qs))
                have HO := Lib.hid (And.intro hown6 (And.intro hturn6 (And.intro hhas hi64)))
                unfold val at hrun
                simp only at hrun
                clear hhas hc5 ho5 ho2 hown6 hturn6 hi64
                go_wp2_with fail
                go_meet
                have hsz := Maps.size_put (k := l) (T.out.o1.tidy K) (.held (qk, qn, qs))
                rw [HO.out.2.2.1, if_neg (by simp)] at hsz
                have c6 : Chg [bm, w1.heap.size] wm w6 := ((HQ.out.1.mono (by simp)).alloc _).turned HO.out.2.1 (.inl (by simp))
                have o6 := map_chg HQ.out.2.1 ((Chg.turned ((Chg.refl [w1.heap.size] w5).alloc _) HO.out.2.1 (.inl (by simp)))) (show bm ∉ [w1.heap.size] by simp; omega)
                exact ⟨false, rfl, _, T.out.turn c6 o6 HO.out.1 (by have := HO.out.2.2.2; omega), HE.out.trans (c6.below HE.out.size (by intro b hb; simp at hb; rcases hb with rfl | rfl; exact T.out.bd.2.1; exact T.out.bd.2.2))⟩
              · have hk1 : isKey pk = false := by simpa using hk1
                go_wp2_with fail
                refine (put_nokey (w1.heap.size + 1) 0 (pk, pn, ps) (qk, qn, qs) _ T.out.c0 hk1).mono ?_
                rintro e w5 ⟨rfl, hb5⟩
                have z0 := up_cell hb5 x0
                have z1 := up_cell hb5 x1
                have z2 := up_cell hb5 x2
                have z3 : xb < w5.heap.size := Nat.lt_of_lt_of_le hx0 hb5.size
                have hlk := rec.look_ok w5 w1.heap.size k D (owns_up T.out.o2 hb5) HB.out.2.2.2.2.1
                have HQ := Lib.hid hb5
                clear hb5
                unfold val at hlk
                generalize atv D l = y at hlk
                generalize Maps.has D l = hs at hlk
                obtain ⟨yk, yn, ys⟩ := y
                simp only at hlk
                go_wp2_with fail
                go_meet
                exact ⟨fz, rfl, D, (T.out.up (HQ.out.alloc _)).mono (Nat.le_succ _), (HE.out.trans ((HQ.out.alloc _).mono HE.out.size))⟩
            case rest =>
              obtain ⟨fz', rfl, D', ht, hbel⟩ := hcut
              have HT := Lib.hid (And.intro ht hbel)
              clear ht hbel HB
              go_wp2_with fail
              refine (len_any (w1.heap.size + 1) 0 bm (k + 1) D' _ HT.out.1.c0 HT.out.1.c3 HT.out.1.o1).mono ?_
              rintro e w5 ⟨rfl, hb5⟩
              unfold val
              have T5 := Lib.hid ((HT.out.1.up hb5).up ((Up.refl w5).alloc (.cells #[.int .u8 2, .int .i64 (Maps.size D'), .string ⟨#[]⟩] 31)))
              have U5 := Lib.hid (hb5.alloc (.cells #[.int .u8 2, .int .i64 (Maps.size D'), .string ⟨#[]⟩] 31))
              have B5 := Lib.hid (has3_alloc w5 (.int .u8 2) (.int .i64 (Maps.size D')) (.string ⟨#[]⟩) 31)
              clear hb5
              go_wp2_with fail
              refine (frozen_any (w1.heap.size + 1) 0 fz' _ T5.out.c0 T5.out.c2).mono ?_
              rintro e w6 ⟨rfl, hb6⟩
              unfold val
              have T6 := Lib.hid (T5.out.up hb6)
              have U6 := Lib.hid (U5.out.trans hb6)
              obtain ⟨r0, ⟨r1, r2, r3⟩, _⟩ := B5.out.up hb6
              have r4 := T6.out.c0
              have r5 := T6.out.c1
              have r6 := T6.out.lt
              have r7 : w1.heap.size < w6.heap.size := by omega
              have r8 : w1.heap.size < w6.heap.size + 1 := by omega
              have r9 : w1.heap.size + 1 < w6.heap.size + 1 := by omega
              have r10 : w5.heap.size < w6.heap.size + 1 := by omega
              have hln := fun ty => (owns_up T6.out.o2 (((Up.refl w6).alloc (.cells #[.int .u8 1, .int .i64 (tnum fz'), .string ⟨#[]⟩] 31)).drew)).len Tryz.underlying25 ty
              clear hb6
              go_wp2_with fail
              go_region_held3 (fun w' => w'.cell? ⟨w5.heap.size, 0, none⟩ = some (.int .u8 2) ∧ w'.cell? ⟨w5.heap.size, 1, none⟩ = some (.int .i64 (Maps.size D')) ∧ w'.cell? ⟨w5.heap.size, 2, none⟩ = some (.string ⟨#[]⟩) ∧ w'.cell? ⟨w6.heap.size, 0, none⟩ = some (.int .u8 1) ∧ w'.cell? ⟨w6.heap.size, 1, none⟩ = some (.int .i64 (tnum fz')) ∧ w'.cell? ⟨w6.heap.size, 2, none⟩ = some (.string ⟨#[]⟩) ∧ w'.cell? ⟨w1.heap.size + 1, 0, none⟩ = some (.int .u8 0) ∧ w'.cell? ⟨w1.heap.size + 1, 1, none⟩ = some (.int .i64 1) ∧ ∀ ty, (Builtin.len_ #[25] ty #[.map (some w1.heap.size)]).run Tryz.prog w' = .ok (.int .i64 (Maps.size D')) w') (((try dsimp only); (repeat' apply And.intro) <;> first | (go_simp; done) | exact fun ty => World.ownsMap.len (owns_up T6.out.o2 (by (repeat (first | exact Up.refl _ | apply Up.drew | apply Up.alloc)))) Tryz.underlying25 ty))
                (first
                | (go_at_call 15; refine (number_x _ _).mono ?_; rintro e w2 ⟨rfl, rfl⟩; simp only [val])
                | (go_at_call 21; refine (truth_x _ _).mono ?_; rintro e w2 ⟨rfl, rfl⟩; simp only [val]))
              go_wp2_with fail
              go_roundw
              case rel => exact ⟨k + 1, fz', by omega, by go_num, rfl, D', T6.out.up ((((Up.refl w6).alloc _).drew.alloc _).alloc _), HT.out.2.trans ((U6.out.trans ((((Up.refl w6).alloc _).drew.alloc _).alloc _)).mono HT.out.2.size)⟩
              case measure => simp [intOf]; omega
    · have hke : len = k := by omega
      subst hke
      go_wp2_with fail
      go_ret
      exact ⟨rfl, HT.out.2⟩
end Go.Proofs.YtojbphnkabfkpaaGreatDoor.plays
