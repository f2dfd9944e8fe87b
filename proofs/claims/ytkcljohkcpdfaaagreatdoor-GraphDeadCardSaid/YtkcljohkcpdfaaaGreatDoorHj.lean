/- slices.DeleteFunc over membranes: walked. -/
import Derived.Test.YtkcljohkcpdfaaaGreatDoorHd
set_option linter.unusedVariables false
set_option linter.unusedSimpArgs false
namespace Go.Proofs.YtkcljohkcpdfaaaGreatDoor.gr
open Go.RowKit Go.Maps mem
attribute [local go_sem ↓] Go.wp_at_zero Go.wp_at_succ
set_option maxRecDepth 100000
set_option maxHeartbeats 1000000
theorem filter_snoc {L : List Mb} {j : Nat} {m : Mb} (hm : L[j]? = some m) : (L.take (j + 1)).filter liveM = (L.take j).filter liveM ++ (if liveM m then [m] else []) := by
  rw [List.take_add_one, hm, List.filter_append]
  cases h : liveM m <;> simp [h]
theorem dfunc_walk (g off cap : Nat) (L : List Mb) (w : World) (h : Dl w g off L [] 0) (h0 : 0 < L.length) (hcap : L.length ≤ cap) (hn : L.length ≤ 100) :
    Calls Tryz.prog 11 #[.slice (some ⟨g, off, none⟩) L.length cap, .func (.func 12) #[] #[]] w fun e w' =>
      e = .returned (.slice (some ⟨g, off, none⟩) (L.filter liveM).length cap) ∧ (∀ t x, (L.filter liveM)[t]? = some x → MbAt w' g (off + t * 3) x) ∧ Chg [g] w w' := by
  have hms : MsAt w (.slice (some ⟨g, off, none⟩) L.length cap) L := ⟨_, _, rfl, .inr ⟨g, off, rfl, h.lt, fun i x hx => h.high i x (by omega) hx⟩⟩
  have HI := Lib.hid (ifunc_x _ L w hms hn)
  have H := Lib.hid h
  clear h hms
  by_cases hall : ∀ x ∈ L, liveM x = true
  · have hf : L.filter liveM = L := List.filter_eq_self.2 hall
    have HF := Lib.hid (And.intro hf hall)
    clear hf hall
    go_enter Tryz.func11, Tryz.ntmps11
    go_wp2_with (go_at_call 18; refine HI.out.mono ?_; rintro e w2 ⟨hI, hU2⟩; obtain ⟨rfl, -⟩ := hI.resolve_right (by rintro ⟨k, -, -, -, a, b, hk⟩; exact absurd (HF.out.2 _ (List.mem_of_getElem? hk)) (by simp [liveM])))
    go_ret
    rw [HF.out.1]
    exact ⟨rfl, fun t x hx => (H.out.high t x (by omega) hx).up hU2, hU2.chg.mono (by simp)⟩
  · have HN := Lib.hid hall
    clear hall
    go_enter Tryz.func11, Tryz.ntmps11
    go_wp2_with (go_at_call 18; refine HI.out.mono ?_; rintro e w2 ⟨hI, hU2⟩; obtain ⟨k, hk, rfl, hka, hkd⟩ := hI.resolve_left (fun q => HN.out q.2); have z : ((k : Int) == -1) = false := beq_eq_false_iff_ne.2 (by omega); have z2 : decide ((k : Int) = -1) = false := decide_eq_false (by omega))
    have HK := Lib.hid (And.intro hka hkd)
    have HU := Lib.hid hU2
    clear hka hkd hU2 z z2
    go_loopw [5, 6] (fun iv jv wr => ∃ (j i : Nat) (F : List Mb), j ≤ L.length ∧ jv = .int .i64 (j : Int) ∧ iv = .int .i64 (i : Int) ∧ i = F.length ∧ i < j ∧ F = (L.take j).filter liveM ∧ Dl wr g off L F j ∧ Chg [g] w wr) (fun _ jv _ => L.length - (intOf jv).toNat)
    case atStart =>
      have e1 : (L.take k).filter liveM = L.take k := List.filter_eq_self.2 HK.out.1
      obtain ⟨a, b, hkk⟩ := HK.out.2
      have e2 : (L.take (k + 1)).filter liveM = L.take k := by rw [filter_snoc hkk, e1]; simp [liveM]
      refine ⟨k + 1, k, L.take k, by omega, by go_num, rfl, by rw [List.length_take]; omega, by omega, e2.symm, ?_, HU.out.chg.mono (by simp)⟩
      have hD := H.out.chg HU.out.chg (by simp)
      exact ⟨hD.lt, hD.is, fun t x hx => hD.high t x (by omega) (by rw [List.getElem?_take] at hx; split at hx; exact hx; cases hx), fun t x ht hx => hD.high t x (by omega) hx⟩
    case round =>
      obtain ⟨j, i, F, hj, rfl, rfl, hiF, hij, hF, hD, hC⟩ := hrel
      have HFF := Lib.hid hF
      have HC := Lib.hid hC
      have HI2 := Lib.hid hiF
      clear hF hC hiF
      by_cases hlt : j < L.length
      · obtain ⟨m, hm⟩ : ∃ m, L[j]? = some m := ⟨_, List.getElem?_eq_getElem hlt⟩
        obtain ⟨g0, g1, g2⟩ := hD.high j m (by omega) hm
        have HM := Lib.hid hm
        have HD := Lib.hid hD
        obtain ⟨x, y, dd⟩ := m
        simp only at g0 g1 g2
        have it0 : (j : Int) < (L.length : Int) := by omega
        have it1 : (i : Int) < (L.length : Int) := by omega
        clear hm hD
        go_upto_region 8 with (fail)
        obtain ⟨hB, hU7⟩ := blk_new' wr #[.int .i64 x, .int .i64 y, .bool dd] 31
        have hgn : g ≠ wr.heap.size := by have := HD.out.lt; omega
        generalize World.alloc wr _ = w7 at hB hU7 ⊢
        generalize wr.heap.size = b7 at hB hgn ⊢
        have s0 : w7.cell? ⟨b7, 0, none⟩ = some (.int .i64 x) := hB.cell 0
        have s1 : w7.cell? ⟨b7, 1, none⟩ = some (.int .i64 y) := hB.cell 1
        have s2 : w7.cell? ⟨b7, 2, none⟩ = some (.bool dd) := hB.cell 2
        have HB := Lib.hid (And.intro hB (And.intro hU7 hgn))
        clear hB hU7 g0 g1 g2 hgn
        cases dd
        · go_upto_region 9 with (go_at_call 12; refine (dead_x x y false _).mono ?_; rintro e w3 ⟨rfl, hU3⟩)
          have r0 := up_cell hU3 s0
          have r1 := up_cell hU3 s1
          have r2 := up_cell hU3 s2
          have hC3 : Chg [] wr w3 := (HB.out.2.1.trans hU3).chg
          have hD3 := HD.out.chg hC3 (by simp)
          obtain ⟨v0, q0⟩ := Option.isSome_iff_exists.1 (hD3.is (i * 3) (by omega)).1
          obtain ⟨v1, q1⟩ := Option.isSome_iff_exists.1 (hD3.is (i * 3 + 1) (by omega)).1
          obtain ⟨v2, q2⟩ := Option.isSome_iff_exists.1 (hD3.is (i * 3 + 2) (by omega)).1
          have f0 := (hD3.is (i * 3) (by omega)).2
          have f1 := (hD3.is (i * 3 + 1) (by omega)).2
          have f2 := (hD3.is (i * 3 + 2) (by omega)).2
          rw [← Nat.add_assoc] at q1 q2 f1 f2
          have H3 := Lib.hid (And.intro hC3 hD3)
          clear s0 s1 s2 hC3 hD3 hU3
          go_upto_region 10 with (fail)
          have H4 : Hid (Dl (w3.setCells g (off + i * 3) (cellsM (x, y, false))) g off L (F ++ [(x, y, false)]) (j + 1) ∧ Chg [g] w (w3.setCells g (off + i * 3) (cellsM (x, y, false)))) := by
            have e := HI2.out
            subst e
            exact ⟨H3.out.2.keep hij hlt, ((HC.out.trans0 H3.out.1)).setCells (.inl (by simp)) _ _⟩
          simp only [World.setCells, cellsM] at H4
          generalize World.setCell (World.setCell (World.setCell w3 _ _) _ _) _ _ = w4 at H4 ⊢
          clear q0 q1 q2 f0 f1 f2 r0 r1 r2
          go_wp2_with fail
          go_roundw
          case rel =>
            refine ⟨j + 1, i + 1, F ++ [(x, y, false)], by omega, by go_num, by go_num, by rw [List.length_append, HI2.out]; rfl, by omega, by rw [filter_snoc HM.out, HFF.out]; simp [liveM], H4.out.1, H4.out.2⟩
          case measure => simp [intOf]; omega
        · go_wp2_with (go_at_call 12; refine (dead_x x y true _).mono ?_; rintro e w3 ⟨rfl, hU3⟩)
          go_roundw
          case rel =>
            have hC3 : Chg [] wr w3 := (HB.out.2.1.trans hU3).chg
            exact ⟨j + 1, i, F, by omega, by go_num, rfl, HI2.out, by omega, by rw [filter_snoc HM.out, HFF.out]; simp [liveM], (HD.out.chg hC3 (by simp)).skip, HC.out.trans0 hC3⟩
          case measure => simp [intOf]; omega
      · have hte : j = L.length := by omega
        subst hte
        have HD := Lib.hid hD
        obtain ⟨vs, hcl⟩ := run_clear3 wr g (off + i * 3) (L.length - i) (cap - i) (by omega) (fun k hk => by rw [Nat.add_assoc]; exact hD.is _ (by omega))
        clear hD
        go_wp2_with fail
        go_ret
        have hF := HFF.out
        rw [List.take_length] at hF
        have hlen : (L.filter liveM).length = i := by rw [← hF]; exact HI2.out.symm
        rw [hlen]
        refine ⟨rfl, fun t x hx => ?_, HC.out.setCells (.inl (by simp)) _ _⟩
        rw [← hF] at hx
        have ht := (List.getElem?_eq_some_iff.1 hx).1
        have e := HI2.out
        exact (HD.out.low t x hx).out _ (.inl (by omega))
theorem row_dl {w : World} {base : Nat} {v : Value} {L : List Mb} (h : w.ownsRow base 31 3 v L.length (L.flatMap cellsM)) (h0 : 0 < L.length) :
    ∃ g cap, v = .slice (some ⟨g, 0, none⟩) L.length cap ∧ base ≤ g ∧ L.length ≤ cap ∧ Dl w g 0 L [] 0 := by
  obtain ⟨g, cap, rfl, hb, hlt⟩ := h.form h0
  have len : (L.flatMap cellsM).length = L.length * 3 := h.1
  have hcap : L.length ≤ cap := by
    rcases h.2 with ⟨e, -⟩ | ⟨g', cap', cur, e, -, -, hc, -⟩
    · cases e
    · cases e; exact hc
  refine ⟨g, cap, rfl, hb, hcap, hlt, fun k hk => ⟨?_, World.ownsRow.frozenAt h _⟩, fun t x hx => by simp at hx, fun t x _ hx => ?_⟩
  · rw [Nat.zero_add, World.ownsRow.cellAt h k hk, List.getElem?_eq_getElem (by omega)]
    rfl
  · have ht := (List.getElem?_eq_some_iff.1 hx).1
    rw [Nat.zero_add]
    have cell : ∀ j, j < 3 → w.cell? ⟨g, t * 3 + j, none⟩ = (cellsM x)[j]? := fun j hj => by
      rw [World.ownsRow.cellAt h (t * 3 + j) (by omega)]
      exact flat3_get L t j x hx hj
    exact ⟨cell 0 (by omega), cell 1 (by omega), cell 2 (by omega)⟩
/-- The dead ones struck out of a row of one's own. -/
theorem dfunc_x (base : Nat) (va : Value) (L : List Mb) (w : World) (h : w.ownsRow base 31 3 va L.length (L.flatMap cellsM)) (hn : L.length ≤ 100) :
    Calls Tryz.prog 11 #[va, .func (.func 12) #[] #[]] w fun e w' =>
      ∃ v, e = .returned v ∧ MsAt w' v (L.filter liveM) ∧ (∃ F, Chg F w w' ∧ ∀ b ∈ F, base ≤ b) := by
  by_cases h0 : L.length = 0
  · have hL : L = [] := List.length_eq_zero_iff.1 h0
    subst hL
    have hI := Lib.hid (ifunc_x va [] w (ms_of h) (by simp))
    obtain ⟨a, c, rfl, -⟩ := ms_of h
    clear h
    go_enter Tryz.func11, Tryz.ntmps11
    go_wp2_with (go_at_call 18; refine hI.out.mono ?_; rintro e w2 ⟨hI, hU2⟩; obtain ⟨rfl, -⟩ := hI.resolve_right (by rintro ⟨k, hk, -⟩; exact absurd hk (by simp)))
    go_ret
    exact ⟨_, rfl, ⟨a, c, rfl, .inl rfl⟩, [], hU2.chg, by simp⟩
  · obtain ⟨g, cap, rfl, hb, hcap, hD⟩ := row_dl h (by omega)
    refine (dfunc_walk g 0 cap L w hD (by omega) hcap hn).mono ?_
    rintro e w' ⟨rfl, hm, hC⟩
    exact ⟨_, rfl, ⟨_, _, rfl, .inr ⟨g, 0, rfl, Nat.lt_of_lt_of_le hD.lt hC.size, hm⟩⟩, [g], hC, fun b hb' => by rw [List.mem_singleton.1 hb']; exact hb⟩
end Go.Proofs.YtkcljohkcpdfaaaGreatDoor.gr
