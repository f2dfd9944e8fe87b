import Derived.Test.YtjhpigbilfbikaaEq
import Derived.Maps.OwnOps
import Derived.Maps.Views
import Derived.OwnWalk
import Derived.LoopTactic
import Derived.Deep.RegionWith
import Derived.Deep.CutRange
set_option linter.unusedVariables false
namespace Go.Proofs.Ytjhpigbilfbikaa.Wk
open Go.RowKit Go.Maps Mk
def Has3 (w : World) (b : Nat) (c0 c1 c2 : Value) : Prop := b < w.heap.size ∧ w.cell? ⟨b, 0, none⟩ = some c0 ∧ w.cell? ⟨b, 1, none⟩ = some c1 ∧ w.cell? ⟨b, 2, none⟩ = some c2
theorem Has3.up {w w' : World} {b : Nat} {c0 c1 c2 : Value} (h : Has3 w b c0 c1 c2) (u : Up w w') : Has3 w' b c0 c1 c2 :=
  ⟨Nat.lt_of_lt_of_le h.1 u.size, (u.cell (p := ⟨b, 0, none⟩) h.1).trans h.2.1, (u.cell (p := ⟨b, 1, none⟩) h.1).trans h.2.2.1, (u.cell (p := ⟨b, 2, none⟩) h.1).trans h.2.2.2⟩
theorem has3_alloc (w : World) (c0 c1 c2 : Value) (t : Nat) : Has3 (w.alloc (.cells #[c0, c1, c2] t)) w.heap.size c0 c1 c2 :=
  ⟨by simp, by go_simp, by go_simp, by go_simp⟩

/-- The map says of each of the first k values the last place among them. -/
def Good (M : Nat → Int × Int × ByteArray) (k : Nat) (D : DataW Unit) : Prop :=
  ∀ i, i < k → ∃ j, j < k ∧ M j = M i ∧ (∀ j', j' < k → M j' = M i → j' ≤ j) ∧ ∀ l, keyOf Try.prog 29 (val (M i)) = some l → D.atKey l (.lit (.int .i64 0)) = .lit (.int .i64 j)
theorem val_inj {p q : Int × Int × ByteArray} (h : val p = val q) : p = q := by
  obtain ⟨a, b, c⟩ := p
  obtain ⟨a', b', c'⟩ := q
  simp [val] at h
  simp [h]
theorem good_step {M : Nat → Int × Int × ByteArray} {k : Nat} {D : DataW Unit} (h : Good M k D) (hD : IsMap D) {l : Lit} (hl : keyOf Try.prog 29 (val (M k)) = some l) : Good M (k + 1) (D.put l (.lit (.int .i64 k))) := by
  intro i hi
  by_cases e : M k = M i
  · refine ⟨k, by omega, e, fun j' h1 _ => by omega, fun l' hl' => ?_⟩
    rw [← e, hl] at hl'
    cases hl'
    exact atKey_put_same hD (K.key hl) _ _
  · have hik : i < k := by
      rcases Nat.lt_or_ge i k with h' | h'
      · exact h'
      · exact absurd (by rw [show i = k by omega]) e
    obtain ⟨j, h1, h2, h3, h4⟩ := h i hik
    refine ⟨j, by omega, h2, fun j' g1 g2 => ?_, fun l' hl' => ?_⟩
    · rcases Nat.lt_or_ge j' k with h' | h'
      · exact h3 j' h' g2
      · rw [show j' = k by omega] at g2; exact absurd g2 e
    · have hne : l' ≠ l := by
        rintro rfl
        exact e (val_inj (K.inj hl hl'))
      rw [atKey_put_other hne]
      exact h4 l' hl'
theorem zero3 (w : World) : (zeroValue 3).run Try.prog w = .ok (.int .i64 0) w := by kernel_rfl
theorem owns_up {w w1 : World} {b n : Nat} {R : Value → Option (DataW Unit × List MemPlace)} {D : DataW Unit} (h : w.ownsMap Try.prog 29 R b n D) (hb : Up w w1) : w1.ownsMap Try.prog 29 R b n D := by
  have hlt := h.lt
  obtain ⟨es, c, e, r⟩ := h
  exact ⟨es, c, (hb.block b hlt).trans e, r⟩
set_option maxHeartbeats 600000 in
set_option maxRecDepth 100000 in
theorem keys (b off len cap : Nat) (kk nn : Nat → Int) (ss : Nat → ByteArray) (w : World) (hb : b < w.heap.size) (hlen : len ≤ 40)
    (hc : ∀ j, j < len → w.cell? ⟨b, off + j * 3, none⟩ = some (.int .u8 (kk j)) ∧ w.cell? ⟨b, off + j * 3 + 1, none⟩ = some (.int .i64 (nn j)) ∧ w.cell? ⟨b, off + j * 3 + 2, none⟩ = some (.string (ss j)))
    (hw : ∀ j, j < len → (0 ≤ kk j ∧ kk j ≤ 255) ∧ ∃ l, keyOf Try.prog 29 (val (mk (kk j) (nn j) (ss j))) = some l) :
    Calls Try.prog 3 #[.slice (some ⟨b, off, none⟩) len cap] w fun e w' => e = .returned (.bool true) ∧ Up w w' := by
  have hmm := @run_makeMap Try.prog
  have HC := Lib.hid hc
  have HW := Lib.hid hw
  clear hc hw
  have il : (len : Int) ≤ 40 := by omega
  go_enter Try.func3, Try.ntmps3
  go_wp2_with (go_at_call 4; refine (awake _).mono ?_; rintro e w0 ⟨rfl, hb0⟩)
  go_loopw [19] (fun i wr => ∃ k : Nat, k ≤ len ∧ i = .int .i64 k ∧ (∃ D : DataW Unit, wr.ownsMap Try.prog 29 (plainElem Try.prog 3) w0.heap.size k D ∧ Good (fun j => mk (kk j) (nn j) (ss j)) k D) ∧ Below w.heap.size w wr) (fun i _ => len - (intOf i).toNat)
  case atStart => exact ⟨0, Nat.zero_le _, rfl, ⟨_, World.ownsMap_made _ _ _ _, fun i hi => absurd hi (Nat.not_lt_zero _)⟩, Up.alloc hb0 _⟩
  case round =>
    obtain ⟨k, hk, rfl, ⟨D, hown, hg⟩, hbel⟩ := hrel
    have hcx : k < len → wr.cell? ⟨b, off + k * 3, none⟩ = some (.int .u8 (kk k)) ∧ wr.cell? ⟨b, off + k * 3 + 1, none⟩ = some (.int .i64 (nn k)) ∧ wr.cell? ⟨b, off + k * 3 + 2, none⟩ = some (.string (ss k)) := fun h => ⟨(hbel.cell (by exact hb)).trans (HC.out k h).1, (hbel.cell (by exact hb)).trans (HC.out k h).2.1, (hbel.cell (by exact hb)).trans (HC.out k h).2.2⟩
    by_cases hlt : k < len
    · obtain ⟨c0, c1, c2⟩ := hcx hlt
      clear hcx
      obtain ⟨⟨hk0, hk1⟩, l, hl⟩ := HW.out k hlt
      have HL := Lib.hid hl
      have HK := Lib.hid (And.intro hk0 hk1)
      clear hl hk0 hk1
      go_wp2_with fail
      refine (make_any _ _ _ HK.out.1 HK.out.2 _).mono ?_; rintro e w1 ⟨rfl, hb1⟩
      clear c0 c1 c2
      have U1 : Up wr w1 := ((Up.refl wr).alloc _).trans hb1
      obtain ⟨w2, hrun, hown2, hgrow⟩ := (owns_up hown U1).update K Try.underlying24 (by unfold maxLen; omega) HL.out (plainElem_int (H := Unit) Try.underlying3 (a := (k : Int)) (by simp [Lit.wf, IntKind.min, IntKind.max, IntKind.signed, IntKind.bits]; omega))
      have hD := hown.isMap
      have HS := Lib.hid (And.intro hbel (And.intro U1 (And.intro hown2 (And.intro hgrow hD))))
      clear hbel U1 hown2 hgrow hown hD
      go_wp2_with fail
      go_roundw
      case rel =>
        obtain ⟨hbel, U1, hown2, hgrow, hD⟩ := HS.out
        have s0 := hb0.size
        exact ⟨k + 1, by omega, by go_num, ⟨_, hown2, good_step hg hD HL.out⟩, (hbel.trans (U1.mono hbel.size)).grown hgrow (Nat.le_trans hbel.size U1.size) (fun j hj => by cases hj; exact s0)⟩
      case measure => simp [intOf]; omega
    · have hke : len = k := by omega
      subst hke
      clear hcx hlt hk
      obtain ⟨wm, rfl⟩ : ∃ wm : World, wm = wr := ⟨_, rfl⟩
      have HM := Lib.hid (And.intro hown (And.intro hg hbel))
      have s0 := hb0.size
      have hbw : Below w.heap.size w wm := hbel
      clear hown hg hbel
      go_wp2_with fail
      go_loopw [31] (fun i wr => ∃ k : Nat, k ≤ len ∧ i = .int .i64 k ∧ Up wm wr) (fun i _ => len - (intOf i).toNat)
      case atStart => exact ⟨0, Nat.zero_le _, rfl, Up.refl _⟩
      case round =>
        obtain ⟨k, hk, rfl, hup⟩ := hrel
        have hcx : ∀ W, Up wm W → ∀ j, j < len → W.cell? ⟨b, off + j * 3, none⟩ = some (.int .u8 (kk j)) ∧ W.cell? ⟨b, off + j * 3 + 1, none⟩ = some (.int .i64 (nn j)) ∧ W.cell? ⟨b, off + j * 3 + 2, none⟩ = some (.string (ss j)) := fun W hW j h => by
          have hB : Below w.heap.size w W := hbw.trans (hW.mono hbw.size)
          exact ⟨(hB.cell (by exact hb)).trans (HC.out j h).1, (hB.cell (by exact hb)).trans (HC.out j h).2.1, (hB.cell (by exact hb)).trans (HC.out j h).2.2⟩
        have HX := Lib.hid hcx
        by_cases hlt : k < len
        · obtain ⟨c0, c1, c2⟩ := hcx wr hup k hlt
          clear hcx
          obtain ⟨⟨hk0, hk1⟩, l, hl⟩ := HW.out k hlt
          have HL := Lib.hid hl
          have HK := Lib.hid (And.intro hk0 hk1)
          clear hl hk0 hk1
          obtain ⟨wo, rfl⟩ : ∃ wo : World, wo = wr := ⟨_, rfl⟩
          go_wp2_with fail
          have U0 := Lib.hid (hup.alloc (.cells #[.int .u8 (kk k), .int .i64 (nn k), .string (ss k)] 26))
          obtain ⟨wi, hwi⟩ : ∃ wi : World, wi = wo.alloc (.cells #[.int .u8 (kk k), .int .i64 (nn k), .string (ss k)] 26) := ⟨_, rfl⟩
          rw [← hwi]
          have HP := Lib.hid hwi
          clear hwi
          go_loopw [8, 39] (fun c i wr => ∃ (m q : Nat), c = .int .i64 m ∧ i = .int .i64 q ∧ q ≤ len ∧ (m = k ∨ (m < q ∧ mk (kk m) (nn m) (ss m) = mk (kk k) (nn k) (ss k))) ∧ k ≤ m ∧ (∀ j, j < q → mk (kk j) (nn j) (ss j) = mk (kk k) (nn k) (ss k) → j ≤ m) ∧ Up wi wr) (fun _ i _ => len - (intOf i).toNat)
          case atStart => exact ⟨k, 0, rfl, rfl, Nat.zero_le _, .inl rfl, Nat.le_refl _, fun j h => absurd h (Nat.not_lt_zero _), Up.refl _⟩
          case round =>
            obtain ⟨m, q, rfl, rfl, hq, hm1, hm2, hm3, hui⟩ := hrel
            by_cases hqt : q < len
            · have hwmi : Up wm wi := by rw [HP.out]; exact U0.out
              obtain ⟨d0, d1, d2⟩ := HX.out wr (hwmi.trans hui) q hqt
              obtain ⟨hq0, _⟩ := HW.out q hqt
              have HQ := Lib.hid hq0
              clear hq0
              have HU := Lib.hid (And.intro hwmi hui)
              have HM3 := Lib.hid hm3
              clear hwmi hm3
              have b7 : Has3 (wr.alloc (.cells #[.int .u8 (kk q), .int .i64 (nn q), .string (ss q)] 26)) wo.heap.size (.int .u8 (kk k)) (.int .i64 (nn k)) (.string (ss k)) :=
                Has3.up (by rw [HP.out]; exact has3_alloc wo _ _ _ 26) (HU.out.2.alloc _)
              have B7d := Lib.hid (b7.up (show Up _ (wr.alloc (.cells #[.int .u8 (kk q), .int .i64 (nn q), .string (ss q)] 26)).drew from (Below.refl _ _).drew))
              have b10 := has3_alloc wr (.int .u8 (kk q)) (.int .i64 (nn q)) (.string (ss q)) 26
              clear hui
              obtain ⟨g0, e0, e1, e2⟩ := b7
              obtain ⟨g1, f0, f1, f2⟩ := b10
              have B7 := Lib.hid (And.intro g0 (And.intro e0 (And.intro e1 e2)))
              have B10 := Lib.hid (And.intro g1 (And.intro f0 (And.intro f1 f2)))
              clear g0 g1
              go_wp2_with fail
              go_cut [48] from 44 to 48 (fun v wx => v = .bool (decide (mk (kk q) (nn q) (ss q) = mk (kk k) (nn k) (ss k))) ∧ Up (wr.alloc (.cells #[.int .u8 (kk q), .int .i64 (nn q), .string (ss q)] 26)) wx)
              case first =>
                obtain ⟨hq0, hq1⟩ := HQ.out
                obtain ⟨hk0, hk1⟩ := HK.out
                have heq := Eq.eq_val
                have hgd := Eq.guard_val
                go_region_with (go_at_call 5; refine (make_any _ _ _ (by assumption) (by assumption) _).mono ?_; rintro e w1 ⟨rfl, hb1⟩; try (with_reducible have x := B7d.out.up hb1); try (obtain ⟨_, x0, x1, x2⟩ := x))
                all_goals (go_wp2_with fail; go_meet; exact ⟨rfl, Up.trans (Up.trans (show Up (wr.alloc (.cells #[.int .u8 (kk q), .int .i64 (nn q), .string (ss q)] 26)) (wr.alloc (.cells #[.int .u8 (kk q), .int .i64 (nn q), .string (ss q)] 26)).drew from (Below.refl _ _).drew) (by assumption)) hb1⟩)
              case rest =>
                obtain ⟨rfl, hUc⟩ := hcut
                have HC2 := Lib.hid (And.intro hUc (And.intro hm1 hm2))
                clear hUc hm1
                by_cases hMq : mk (kk q) (nn q) (ss q) = mk (kk k) (nn k) (ss k)
                · have hd : decide (mk (kk q) (nn q) (ss q) = mk (kk k) (nn k) (ss k)) = true := decide_eq_true hMq
                  have HQ2 := Lib.hid hMq
                  clear hMq
                  rcases Nat.lt_or_ge m q with hmq | hmq
                  · have imq : (m : Int) < (q : Int) := by omega
                    go_wp2_with fail
                    go_roundw
                    case rel =>
                      obtain ⟨hUc, hm1, hm2⟩ := HC2.out
                      exact ⟨q, q + 1, by go_num, by go_num, by omega, .inr ⟨by omega, HQ2.out⟩, by omega, fun j h1 _ => by omega, (HU.out.2.alloc _).trans hUc⟩
                    case measure => simp [intOf]; omega
                  · have imq : (q : Int) ≤ (m : Int) := by omega
                    go_wp2_with fail
                    go_roundw
                    case rel =>
                      obtain ⟨hUc, hm1, hm2⟩ := HC2.out
                      exact ⟨m, q + 1, by go_num, by go_num, by omega, by rcases hm1 with h | h; exact .inl h; exact .inr ⟨by omega, h.2⟩, by omega, fun j h1 h2 => by rcases Nat.lt_or_ge j q with h | h; exact HM3.out j h h2; omega, (HU.out.2.alloc _).trans hUc⟩
                    case measure => simp [intOf]; omega
                · have hd : decide (mk (kk q) (nn q) (ss q) = mk (kk k) (nn k) (ss k)) = false := decide_eq_false hMq
                  have HQ2 := Lib.hid hMq
                  clear hMq
                  go_wp2_with fail
                  go_roundw
                  case rel =>
                    obtain ⟨hUc, hm1, hm2⟩ := HC2.out
                    exact ⟨m, q + 1, rfl, by go_num, by omega, by rcases hm1 with h | h; exact .inl h; exact .inr ⟨by omega, h.2⟩, by omega, fun j h1 h2 => by rcases Nat.lt_or_ge j q with h | h; exact HM3.out j h h2; (rw [show j = q by omega] at h2; exact absurd h2 HQ2.out), (HU.out.2.alloc _).trans hUc⟩
                  case measure => simp [intOf]; omega
            · have hqe : len = q := by omega
              subst hqe
              have hwmi : Up wm wi := by rw [HP.out]; exact U0.out
              have hwr : Up wm wr := hwmi.trans hui
              obtain ⟨hown, hg, hbel⟩ := HM.out
              obtain ⟨j, j1, j2, j3, j4⟩ := hg k hlt
              have hjm : j = m := by
                have h1 := hm3 j j1 j2
                have h2 : m ≤ j := by
                  rcases hm1 with h | h
                  · rw [h]; exact j3 k hlt rfl
                  · exact j3 m h.1 h.2
                omega
              have hat0 := j4 l HL.out
              rw [hjm] at hat0
              obtain ⟨g0, e0, e1, e2⟩ : Has3 wr wo.heap.size (.int .u8 (kk k)) (.int .i64 (nn k)) (.string (ss k)) := Has3.up (by rw [HP.out]; exact has3_alloc wo _ _ _ 26) hui
              have HW3 := Lib.hid (And.intro hwr (And.intro hown hat0))
              clear hwmi hwr hown hg hbel j1 j2 j3 j4 hjm hat0 hm1 hm3 hui g0 hup
              go_wp2_with fail
              refine (make_any _ _ _ HK.out.1 HK.out.2 _).mono ?_; rintro e w1 ⟨rfl, hb1⟩
              clear e0 e1 e2
              obtain ⟨c, hrun, hat, _⟩ := (owns_up HW3.out.2.1 (HW3.out.1.trans hb1)).lookup_int K Try.underlying24 Try.underlying3 (zero3 w1) HL.out
              have hcm : c = (m : Int) := by
                have := hat.symm.trans HW3.out.2.2
                simpa using this
              subst hcm
              clear hat
              have HB1 := Lib.hid hb1
              clear hb1
              go_wp2_with fail
              go_roundw
              case rel => exact ⟨k + 1, by omega, by go_num, HW3.out.1.trans HB1.out⟩
              case measure => simp [intOf]; omega
        · have hke : len = k := by omega
          subst hke
          obtain ⟨hown, hg, hbel⟩ := HM.out
          have ho := owns_up hown hup
          have hl := fun ty => ho.len Try.underlying24 ty
          have hsz : ((Maps.size D : Nat) : Int) ≤ (len : Int) := by have := ho.size_le; omega
          have HF := Lib.hid (hbel.trans (hup.mono hbel.size))
          clear hown hg hbel ho hup hcx
          go_wp2_with fail
          go_ret
          exact ⟨rfl, HF.out⟩
end Go.Proofs.Ytjhpigbilfbikaa.Wk
