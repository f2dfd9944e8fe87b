/- graph.Open: the pairs between whom a membrane lies, walked (printed by hq_gen.py). -/
import Derived.Test.YtkcljohkcpdfaaaGreatDoorHw
import Derived.Test.YtkcljohkcpdfaaaGreatDoorHx
import Derived.Test.YtkcljohkcpdfaaaGreatDoorWt
set_option linter.unusedVariables false
set_option linter.unusedSimpArgs false
namespace Go.Proofs.YtkcljohkcpdfaaaGreatDoor.gr
open Go.RowKit Go.Maps mem
attribute [local go_sem ↓] Go.wp_at_zero Go.wp_at_succ
set_option maxRecDepth 100000
set_option maxHeartbeats 2000000
theorem open_x (va : Value) (L : List Mb) (w : World) (hl : MsAt w va L) (hn : L.length ≤ 30) (hs : ∀ m ∈ L, (0 ≤ m.1 ∧ m.1 ≤ 100) ∧ (0 ≤ m.2.1 ∧ m.2.1 ≤ 100)) :
    Calls Tryz.prog 14 #[va] w fun e w' => ∃ (mb : Nat) (D : DataW Nat), e = .returned (.map (some mb)) ∧ w'.ownsMap Tryz.prog 41 (plainElem (H := Nat) Tryz.prog 3) mb (2 * L.length) D ∧ OpD D (opens L) (2 * L.length) ∧ Up w w' := by
  obtain ⟨la, lc, rfl, hl⟩ := hl
  have HL := Lib.hid hl
  have HS := Lib.hid hs
  clear hl hs
  have hmm := @run_makeMap Tryz.prog
  go_enter Tryz.func14, Tryz.ntmps14
  go_upto_region 2 with (fail)
  have hU := (Up.refl w).alloc (.map #[] 0)
  have hO : (w.alloc (.map #[] 0)).ownsMap Tryz.prog 41 (plainElem (H := Nat) Tryz.prog 3) w.heap.size 0 (.map []) := World.ownsMap_made _ _ _ _
  have hlo : w.heap.size ≤ w.heap.size := Nat.le_refl _
  clear hmm
  generalize World.alloc w _ = W1 at hU hO ⊢
  generalize hmb : w.heap.size = mb at hO hlo ⊢
  have H1 : Hid (Up w W1 ∧ w.heap.size = mb) := ⟨hU, hmb⟩
  have H0 := Lib.hid hO
  clear hU hO hlo hmb
  go_wp2_with fail
  go_loopw [9] (fun i wr => ∃ (t : Nat) (D : DataW Nat), t ≤ L.length ∧ i = .int .i64 t ∧ wr.ownsMap Tryz.prog 41 (plainElem (H := Nat) Tryz.prog 3) mb (2 * t) D ∧ OpD D (opens (L.take t)) (2 * t) ∧ Chg [mb] W1 wr) (fun i _ => L.length - (intOf i).toNat)
  case atStart => exact ⟨0, _, by omega, rfl, H0.out, OpD.same OpD.nil (fun a b => by simp [opens]), Chg.refl _ _⟩
  case round =>
    obtain ⟨t, D, ht, rfl, hO, hD, hC⟩ := hrel
    have hUw : Up w wr := up_of H1.out.1 hC (fun b hb => by have h1 := H1.out.2; rw [List.mem_singleton.1 hb]; omega)
    have HR : Hid (wr.ownsMap Tryz.prog 41 (plainElem (H := Nat) Tryz.prog 3) mb (2 * t) D ∧ OpD D (opens (L.take t)) (2 * t) ∧ Chg [mb] W1 wr ∧ Up w wr) := ⟨hO, hD, hC, hUw⟩
    clear H0 hD
    by_cases hlt : t < L.length
    · obtain ⟨ba, off, rfl, hba, hx⟩ := HL.out.resolve_left (by omega)
      obtain ⟨m, hm⟩ : ∃ m, L[t]? = some m := ⟨_, List.getElem?_eq_getElem hlt⟩
      obtain ⟨g0, g1, g2⟩ := (hx t m hm).up hUw
      have hsm := HS.out m (List.mem_of_getElem? hm)
      have HM := Lib.hid hm
      obtain ⟨a, b, dd⟩ := m
      simp only at g0 g1 g2 hsm
      obtain ⟨⟨a0, a1⟩, b0, b1⟩ := hsm
      have it0 : (t : Int) < (L.length : Int) := by omega
      have hlm := hO.lt
      clear hx hm hO hC hUw
      go_upto_region 5 with (fail)
      obtain ⟨hB5, hU5⟩ := blk_new' wr #[.int .i64 a, .int .i64 b, .bool dd] 31
      have hne : wr.heap.size ≠ mb := by omega
      generalize World.alloc wr _ = wa at hB5 hU5 ⊢
      generalize wr.heap.size = b5 at hB5 hne ⊢
      have d2 : wa.cell? ⟨b5, 2, none⟩ = some (.bool dd) := hB5.cell 2
      have H5 : Hid (Up wr wa ∧ Blk wa b5 #[.int .i64 a, .int .i64 b, .bool dd] 31 ∧ b5 ≠ mb) := ⟨hU5, hB5, hne⟩
      clear hB5 hU5 g0 g1 g2 hlm hne
      have htk : Hid (∀ x y, opens (L.take (t + 1)) x y ↔ opens (L.take t) x y ∨ (dd = false ∧ ((a = x ∧ b = y) ∨ (b = x ∧ a = y)))) := fun x y => by
        rw [List.take_add_one, HM.out]
        exact opens_snoc _ _ _ _
      cases dd
      · go_upto_region 6 with (fail)
        clear d2
        go_cut [] from 16 to 27 (fun wx => ∃ D' : DataW Nat, wx.ownsMap Tryz.prog 41 (plainElem (H := Nat) Tryz.prog 3) mb (2 * t + 1) D' ∧ OpD D' (fun x y => opens (L.take t) x y ∨ (a = x ∧ b = y)) (2 * t + 1) ∧ Chg [mb] wa wx)
        case first =>
          obtain ⟨wz, hwz⟩ : ∃ wz, wz = wa := ⟨_, rfl⟩
          obtain ⟨D1, hD1⟩ : ∃ D1, D1 = D := ⟨_, rfl⟩
          obtain ⟨NN, hNN⟩ : ∃ NN, NN = 2 * t := ⟨_, rfl⟩
          have HZ : Hid (wz.ownsMap Tryz.prog 41 (plainElem (H := Nat) Tryz.prog 3) mb NN D1 ∧ OpD D1 (opens (L.take t)) NN ∧ Blk wz b5 #[.int .i64 a, .int .i64 b, .bool false] 31 ∧ b5 ≠ mb) := by
            subst hwz hD1 hNN
            exact ⟨map_chg HR.out.1 H5.out.1.chg (by simp), HR.out.2.1, H5.out.2.1, H5.out.2.2⟩
          rw [← hwz]
          have hNb : NN ≤ 60 := by omega
          obtain ⟨l0, hl0⟩ := key_pair a b (wf_i64 (by omega)) (wf_i64 (by omega))
          obtain ⟨c, hc, hc0, hcm, -⟩ := HZ.out.2.1.at_ a b l0 hl0
          have hw : IntKind.i64.wrap (c + 1) = c + 1 := by rw [IntKind.wrap_i64] <;> omega
          have hUd : Chg [] wz wz.drew := (Up.refl wz).drew.chg
          obtain ⟨v0, st, w1, e1, e2, e3, c1, e4⟩ := entry_pair (owns_at HZ.out.1 (w' := wz.drew) rfl) (by unfold maxLen; omega) hl0 hc
          obtain ⟨w3, e5, c3, ho3⟩ := e4 (c + 1) (wf_i64 (by omega))
          simp only [pairV] at e1 e2 e3
          have HE : Hid (Chg [mb] wz w3 ∧ w3.ownsMap Tryz.prog 41 (plainElem (H := Nat) Tryz.prog 3) mb (NN + 1) (D1.put l0 (.lit (.int .i64 (c + 1)))) ∧ D1.atKey l0 (.lit (.int .i64 0)) = .lit (.int .i64 c) ∧ keyOf Tryz.prog 41 (pairV a b) = some l0) := ⟨(hUd.mono (by simp)).trans c3 (fun x hx => .inl hx), ho3, hc, hl0⟩
          have s0 : wz.drew.cell? ⟨b5, 0, none⟩ = some (.int .i64 a) := (HZ.out.2.2.1.chg hUd (by simp)).cell 0
          have s1 : wz.drew.cell? ⟨b5, 1, none⟩ = some (.int .i64 b) := (HZ.out.2.2.1.chg hUd (by simp)).cell 1
          have r0 : w1.cell? ⟨b5, 0, none⟩ = some (.int .i64 a) := ((HZ.out.2.2.1.chg hUd (by simp)).chg c1 (by simpa using HZ.out.2.2.2)).cell 0
          have r1 : w1.cell? ⟨b5, 1, none⟩ = some (.int .i64 b) := ((HZ.out.2.2.1.chg hUd (by simp)).chg c1 (by simpa using HZ.out.2.2.2)).cell 1
          clear e4 hc hl0 ho3 c3 c1 hUd
          refine AnyT.start (S := fun w' => w'.cell? ⟨b5, 0, none⟩ = some (.int .i64 a) ∧ w'.cell? ⟨b5, 1, none⟩ = some (.int .i64 b) ∧ (Instr.lookup 40 (.map (some mb)) (.agg #[.int .i64 a, .int .i64 b]) false).run Tryz.prog w' = .ok (.int .i64 c) w') 12 (by kernel_rfl) ⟨s0, s1, e1⟩ (fun hHeld => ?_)
          generalize World.drew wz = wd at e1 e2 s0 s1 hHeld ⊢
          refine AnyT.pick (i := 0) (oi := ⟨_, _, _, _, _, _⟩) (v := ?_) rfl (by kernel_rfl) (by kernel_rfl) (by kernel_rfl) (fun _ _ _ h => h) (Or.inl ⟨by rfl, ?y0_1⟩) ?_
          case' y0_1 => ((intro w hSw; go_simp) <;> (with_reducible rfl))
          try simp only [Act.put, List.setIfInBounds_toArray, List.set_cons_zero, List.set_cons_succ]
          refine AnyT.pick (i := 1) (oi := ⟨_, _, _, _, _, _⟩) (v := ?_) rfl (by kernel_rfl) (by kernel_rfl) (by kernel_rfl) (fun _ _ _ h => h) (Or.inl ⟨by rfl, ?y1_2⟩) ?_
          case' y1_2 => ((intro w hSw; go_simp) <;> (with_reducible rfl))
          try simp only [Act.put, List.setIfInBounds_toArray, List.set_cons_zero, List.set_cons_succ]
          refine AnyT.pick (i := 2) (oi := ⟨_, _, _, _, _, _⟩) (v := ?_) rfl (by kernel_rfl) (by kernel_rfl) (by kernel_rfl) (fun _ _ _ h => h) (Or.inl ⟨by rfl, ?y2_3⟩) ?_
          case' y2_3 => ((intro w hSw; go_simp) <;> (with_reducible rfl))
          try simp only [Act.put, List.setIfInBounds_toArray, List.set_cons_zero, List.set_cons_succ]
          refine AnyT.take (i := 3) (oi := ⟨_, _, _, _, _, _⟩) (v := ?_) rfl (by kernel_rfl) (by kernel_rfl) (by kernel_rfl) (by kernel_rfl) (fun _ _ _ h => h) (Or.inl ⟨by rfl, ?y3_4⟩) (by assumption) ?_
          case' y3_4 => ((intro w hSw; (try dsimp only at hSw); go_simp) <;> (with_reducible rfl))
          try simp only [Act.put, List.setIfInBounds_toArray, List.set_cons_zero, List.set_cons_succ]
          refine AnyT.pick (i := 4) (oi := ⟨_, _, _, _, _, _⟩) (v := ?_) rfl (by kernel_rfl) (by kernel_rfl) (by kernel_rfl) (fun _ _ _ h => h) (Or.inl ⟨by rfl, ?y4_5⟩) ?_
          case' y4_5 => ((intro w hSw; go_simp) <;> (with_reducible rfl))
          try simp only [Act.put, List.setIfInBounds_toArray, List.set_cons_zero, List.set_cons_succ]
          refine AnyT.pick (i := 5) (oi := ⟨_, _, _, _, _, _⟩) (v := ?_) rfl (by kernel_rfl) (by kernel_rfl) (by kernel_rfl) (fun _ _ _ h => h) (Or.inl ⟨by rfl, ?y5_6⟩) ?_
          case' y5_6 => ((intro w hSw; go_simp) <;> (with_reducible rfl))
          try simp only [Act.put, List.setIfInBounds_toArray, List.set_cons_zero, List.set_cons_succ]
          refine AnyT.take (i := 6) (oi := ⟨_, _, _, _, _, _⟩) (v := ?_) rfl (by kernel_rfl) (by kernel_rfl) (by kernel_rfl) (by kernel_rfl) (fun _ _ _ h => h) (Or.inl ⟨by rfl, ?y6_7⟩) (by assumption) ?_
          case' y6_7 => ((intro w hSw; (try dsimp only at hSw); go_simp) <;> (with_reducible rfl))
          try simp only [Act.put, List.setIfInBounds_toArray, List.set_cons_zero, List.set_cons_succ]
          refine AnyT.pick (i := 7) (oi := ⟨_, _, _, _, _, _⟩) (v := ?_) rfl (by kernel_rfl) (by kernel_rfl) (by kernel_rfl) (fun _ _ _ h => h) (Or.inl ⟨by rfl, ?y7_8⟩) ?_
          case' y7_8 => ((intro w hSw; go_simp) <;> (with_reducible rfl))
          try simp only [Act.put, List.setIfInBounds_toArray, List.set_cons_zero, List.set_cons_succ]
          refine AnyT.take (i := 8) (oi := ⟨_, _, _, _, _, _⟩) (v := ?_) rfl (by kernel_rfl) (by kernel_rfl) (by kernel_rfl) (by kernel_rfl) (fun _ _ _ h => h) (Or.inl ⟨by rfl, ?y8_9⟩) (by assumption) ?_
          case' y8_9 => ((intro w hSw; (try dsimp only at hSw); go_simp) <;> (with_reducible rfl))
          try simp only [Act.put, List.setIfInBounds_toArray, List.set_cons_zero, List.set_cons_succ]
          refine AnyT.pick (i := 9) (oi := ⟨_, _, _, _, _, _⟩) (v := ?_) rfl (by kernel_rfl) (by kernel_rfl) (by kernel_rfl) (fun _ _ _ h => h) (Or.inl ⟨by rfl, ?y9_10⟩) ?_
          case' y9_10 => ((intro w hSw; go_simp) <;> (with_reducible rfl))
          try simp only [Act.put, List.setIfInBounds_toArray, List.set_cons_zero, List.set_cons_succ]
          refine AllT.go (rs := [10]) (by kernel_rfl) (by simp) ?_
          refine AllT.early (o := ⟨_, _, _, _, _, _⟩) rfl (fun K hK => ?_) ?_
          · go_simp
            refine hK.out _ _ ⟨r0, r1, e3⟩ (fun _ => ?_)
            clear hK K hHeld
            try simp only [Act.put, List.setIfInBounds_toArray, List.set_cons_zero, List.set_cons_succ]
            refine AnyT.pick (i := 11) (oi := ⟨_, _, _, _, _, _⟩) (v := ?_) rfl (by kernel_rfl) (by kernel_rfl) (by kernel_rfl) (fun _ _ _ h => h) (Or.inl ⟨by rfl, ?y11_11⟩) ?_
            case' y11_11 => ((intro w hSw; go_simp) <;> (with_reducible rfl))
            try simp only [Act.put, List.setIfInBounds_toArray, List.set_cons_zero, List.set_cons_succ]
            refine AllT.go (rs := [12]) (by kernel_rfl) (by simp) ?_
            refine AllT.late (o := ⟨_, _, _, _, _, _⟩) rfl (by decide) (fun K hK => ?_) ?_
            · go_simp
              refine hK.out _ _ trivial (fun _ => ?_)
              clear hK K
              try simp only [Act.put, List.setIfInBounds_toArray, List.set_cons_zero, List.set_cons_succ]
              refine AnyT.done (by kernel_rfl) ?_ _
              go_wp2_with fail
              go_meet
              subst hD1 hNN
              exact ⟨_, HE.out.2.1, OpD.put HZ.out.2.1 HE.out.2.2.2 HE.out.2.2.1 (fun x y => Iff.rfl), by rw [hwz] at HE; exact HE.out.1⟩
            exact AllT.nil
          exact AllT.nil
        case rest =>
          obtain ⟨D', hO2, hD2, hC2⟩ := hcut
          go_upto_region 7 with (fail)
          obtain ⟨wz, hwz⟩ : ∃ wz, wz = wc := ⟨_, rfl⟩
          obtain ⟨D1, hD1⟩ : ∃ D1, D1 = D' := ⟨_, rfl⟩
          obtain ⟨NN, hNN⟩ : ∃ NN, NN = 2 * t + 1 := ⟨_, rfl⟩
          have HZ : Hid (wz.ownsMap Tryz.prog 41 (plainElem (H := Nat) Tryz.prog 3) mb NN D1 ∧ OpD D1 (fun x y => opens (L.take t) x y ∨ (a = x ∧ b = y)) NN ∧ Blk wz b5 #[.int .i64 a, .int .i64 b, .bool false] 31 ∧ b5 ≠ mb) := by
            subst hwz hD1 hNN
            exact ⟨hO2, hD2, H5.out.2.1.chg hC2 (by simpa using H5.out.2.2), H5.out.2.2⟩
          have HC := Lib.hid hC2
          rw [← hwz]
          have hNb : NN ≤ 61 := by omega
          clear hO2 hD2 hC2
          obtain ⟨l0, hl0⟩ := key_pair b a (wf_i64 (by omega)) (wf_i64 (by omega))
          obtain ⟨c, hc, hc0, hcm, -⟩ := HZ.out.2.1.at_ b a l0 hl0
          have hw : IntKind.i64.wrap (c + 1) = c + 1 := by rw [IntKind.wrap_i64] <;> omega
          have hUd : Chg [] wz wz.drew := (Up.refl wz).drew.chg
          obtain ⟨v0, st, w1, e1, e2, e3, c1, e4⟩ := entry_pair (owns_at HZ.out.1 (w' := wz.drew) rfl) (by unfold maxLen; omega) hl0 hc
          obtain ⟨w3, e5, c3, ho3⟩ := e4 (c + 1) (wf_i64 (by omega))
          simp only [pairV] at e1 e2 e3
          have HE : Hid (Chg [mb] wz w3 ∧ w3.ownsMap Tryz.prog 41 (plainElem (H := Nat) Tryz.prog 3) mb (NN + 1) (D1.put l0 (.lit (.int .i64 (c + 1)))) ∧ D1.atKey l0 (.lit (.int .i64 0)) = .lit (.int .i64 c) ∧ keyOf Tryz.prog 41 (pairV b a) = some l0) := ⟨(hUd.mono (by simp)).trans c3 (fun x hx => .inl hx), ho3, hc, hl0⟩
          have s0 : wz.drew.cell? ⟨b5, 1, none⟩ = some (.int .i64 b) := (HZ.out.2.2.1.chg hUd (by simp)).cell 1
          have s1 : wz.drew.cell? ⟨b5, 0, none⟩ = some (.int .i64 a) := (HZ.out.2.2.1.chg hUd (by simp)).cell 0
          have r0 : w1.cell? ⟨b5, 1, none⟩ = some (.int .i64 b) := ((HZ.out.2.2.1.chg hUd (by simp)).chg c1 (by simpa using HZ.out.2.2.2)).cell 1
          have r1 : w1.cell? ⟨b5, 0, none⟩ = some (.int .i64 a) := ((HZ.out.2.2.1.chg hUd (by simp)).chg c1 (by simpa using HZ.out.2.2.2)).cell 0
          clear e4 hc hl0 ho3 c3 c1 hUd
          refine AnyT.start (S := fun w' => w'.cell? ⟨b5, 1, none⟩ = some (.int .i64 b) ∧ w'.cell? ⟨b5, 0, none⟩ = some (.int .i64 a) ∧ (Instr.lookup 40 (.map (some mb)) (.agg #[.int .i64 b, .int .i64 a]) false).run Tryz.prog w' = .ok (.int .i64 c) w') 12 (by kernel_rfl) ⟨s0, s1, e1⟩ (fun hHeld => ?_)
          generalize World.drew wz = wd at e1 e2 s0 s1 hHeld ⊢
          refine AnyT.pick (i := 0) (oi := ⟨_, _, _, _, _, _⟩) (v := ?_) rfl (by kernel_rfl) (by kernel_rfl) (by kernel_rfl) (fun _ _ _ h => h) (Or.inl ⟨by rfl, ?y0_12⟩) ?_
          case' y0_12 => ((intro w hSw; go_simp) <;> (with_reducible rfl))
          try simp only [Act.put, List.setIfInBounds_toArray, List.set_cons_zero, List.set_cons_succ]
          refine AnyT.pick (i := 1) (oi := ⟨_, _, _, _, _, _⟩) (v := ?_) rfl (by kernel_rfl) (by kernel_rfl) (by kernel_rfl) (fun _ _ _ h => h) (Or.inl ⟨by rfl, ?y1_13⟩) ?_
          case' y1_13 => ((intro w hSw; go_simp) <;> (with_reducible rfl))
          try simp only [Act.put, List.setIfInBounds_toArray, List.set_cons_zero, List.set_cons_succ]
          refine AnyT.pick (i := 2) (oi := ⟨_, _, _, _, _, _⟩) (v := ?_) rfl (by kernel_rfl) (by kernel_rfl) (by kernel_rfl) (fun _ _ _ h => h) (Or.inl ⟨by rfl, ?y2_14⟩) ?_
          case' y2_14 => ((intro w hSw; go_simp) <;> (with_reducible rfl))
          try simp only [Act.put, List.setIfInBounds_toArray, List.set_cons_zero, List.set_cons_succ]
          refine AnyT.take (i := 3) (oi := ⟨_, _, _, _, _, _⟩) (v := ?_) rfl (by kernel_rfl) (by kernel_rfl) (by kernel_rfl) (by kernel_rfl) (fun _ _ _ h => h) (Or.inl ⟨by rfl, ?y3_15⟩) (by assumption) ?_
          case' y3_15 => ((intro w hSw; (try dsimp only at hSw); go_simp) <;> (with_reducible rfl))
          try simp only [Act.put, List.setIfInBounds_toArray, List.set_cons_zero, List.set_cons_succ]
          refine AnyT.pick (i := 4) (oi := ⟨_, _, _, _, _, _⟩) (v := ?_) rfl (by kernel_rfl) (by kernel_rfl) (by kernel_rfl) (fun _ _ _ h => h) (Or.inl ⟨by rfl, ?y4_16⟩) ?_
          case' y4_16 => ((intro w hSw; go_simp) <;> (with_reducible rfl))
          try simp only [Act.put, List.setIfInBounds_toArray, List.set_cons_zero, List.set_cons_succ]
          refine AnyT.pick (i := 5) (oi := ⟨_, _, _, _, _, _⟩) (v := ?_) rfl (by kernel_rfl) (by kernel_rfl) (by kernel_rfl) (fun _ _ _ h => h) (Or.inl ⟨by rfl, ?y5_17⟩) ?_
          case' y5_17 => ((intro w hSw; go_simp) <;> (with_reducible rfl))
          try simp only [Act.put, List.setIfInBounds_toArray, List.set_cons_zero, List.set_cons_succ]
          refine AnyT.take (i := 6) (oi := ⟨_, _, _, _, _, _⟩) (v := ?_) rfl (by kernel_rfl) (by kernel_rfl) (by kernel_rfl) (by kernel_rfl) (fun _ _ _ h => h) (Or.inl ⟨by rfl, ?y6_18⟩) (by assumption) ?_
          case' y6_18 => ((intro w hSw; (try dsimp only at hSw); go_simp) <;> (with_reducible rfl))
          try simp only [Act.put, List.setIfInBounds_toArray, List.set_cons_zero, List.set_cons_succ]
          refine AnyT.pick (i := 7) (oi := ⟨_, _, _, _, _, _⟩) (v := ?_) rfl (by kernel_rfl) (by kernel_rfl) (by kernel_rfl) (fun _ _ _ h => h) (Or.inl ⟨by rfl, ?y7_19⟩) ?_
          case' y7_19 => ((intro w hSw; go_simp) <;> (with_reducible rfl))
          try simp only [Act.put, List.setIfInBounds_toArray, List.set_cons_zero, List.set_cons_succ]
          refine AnyT.take (i := 8) (oi := ⟨_, _, _, _, _, _⟩) (v := ?_) rfl (by kernel_rfl) (by kernel_rfl) (by kernel_rfl) (by kernel_rfl) (fun _ _ _ h => h) (Or.inl ⟨by rfl, ?y8_20⟩) (by assumption) ?_
          case' y8_20 => ((intro w hSw; (try dsimp only at hSw); go_simp) <;> (with_reducible rfl))
          try simp only [Act.put, List.setIfInBounds_toArray, List.set_cons_zero, List.set_cons_succ]
          refine AnyT.pick (i := 9) (oi := ⟨_, _, _, _, _, _⟩) (v := ?_) rfl (by kernel_rfl) (by kernel_rfl) (by kernel_rfl) (fun _ _ _ h => h) (Or.inl ⟨by rfl, ?y9_21⟩) ?_
          case' y9_21 => ((intro w hSw; go_simp) <;> (with_reducible rfl))
          try simp only [Act.put, List.setIfInBounds_toArray, List.set_cons_zero, List.set_cons_succ]
          refine AllT.go (rs := [10]) (by kernel_rfl) (by simp) ?_
          refine AllT.early (o := ⟨_, _, _, _, _, _⟩) rfl (fun K hK => ?_) ?_
          · go_simp
            refine hK.out _ _ ⟨r0, r1, e3⟩ (fun _ => ?_)
            clear hK K hHeld
            try simp only [Act.put, List.setIfInBounds_toArray, List.set_cons_zero, List.set_cons_succ]
            refine AnyT.pick (i := 11) (oi := ⟨_, _, _, _, _, _⟩) (v := ?_) rfl (by kernel_rfl) (by kernel_rfl) (by kernel_rfl) (fun _ _ _ h => h) (Or.inl ⟨by rfl, ?y11_22⟩) ?_
            case' y11_22 => ((intro w hSw; go_simp) <;> (with_reducible rfl))
            try simp only [Act.put, List.setIfInBounds_toArray, List.set_cons_zero, List.set_cons_succ]
            refine AllT.go (rs := [12]) (by kernel_rfl) (by simp) ?_
            refine AllT.late (o := ⟨_, _, _, _, _, _⟩) rfl (by decide) (fun K hK => ?_) ?_
            · go_simp
              refine hK.out _ _ trivial (fun _ => ?_)
              clear hK K
              try simp only [Act.put, List.setIfInBounds_toArray, List.set_cons_zero, List.set_cons_succ]
              refine AnyT.done (by kernel_rfl) ?_ _
              have hF1 : w3.ownsMap Tryz.prog 41 (plainElem (H := Nat) Tryz.prog 3) mb (2 * t + 1 + 1) (D1.put l0 (.lit (.int .i64 (c + 1)))) := by rw [← hNN]; exact HE.out.2.1
              have hF2 : OpD (D1.put l0 (.lit (.int .i64 (c + 1)))) (fun x y => (opens (L.take t) x y ∨ (a = x ∧ b = y)) ∨ (b = x ∧ a = y)) (2 * t + 1 + 1) := by rw [← hNN]; exact OpD.put HZ.out.2.1 HE.out.2.2.2 HE.out.2.2.1 (fun x y => Iff.rfl)
              have hF3 : Chg [mb] W1 w3 := by rw [hwz] at HE; exact ((HR.out.2.2.1.trans (H5.out.1.chg.mono (by simp)) (fun x hx => .inl hx)).trans HC.out (fun x hx => .inl hx)).trans HE.out.1 (fun x hx => .inl hx)
              have HF := Lib.hid (And.intro hF1 (And.intro hF2 hF3))
              clear hF1 hF2 hF3 hNN hwz hD1
              go_wp2_with fail
              go_roundw
              case rel => exact ⟨t + 1, _, by omega, by go_num, by rw [show 2 * (t + 1) = 2 * t + 1 + 1 by omega]; exact HF.out.1, by rw [show 2 * (t + 1) = 2 * t + 1 + 1 by omega]; exact HF.out.2.1.same (fun x y => (htk.out x y).trans ⟨fun h => h.elim (fun h => .inl (.inl h)) (fun h => h.2.elim (fun h => .inl (.inr h)) .inr), fun h => h.elim (fun h => h.elim .inl (fun h => .inr ⟨rfl, .inl h⟩)) (fun h => .inr ⟨rfl, .inr h⟩)⟩), HF.out.2.2⟩
              case measure => simp [intOf]; omega
            exact AllT.nil
          exact AllT.nil
      · have HF : Hid (wa.ownsMap Tryz.prog 41 (plainElem (H := Nat) Tryz.prog 3) mb (2 * t) D ∧ Chg [mb] W1 wa) := ⟨map_chg HR.out.1 H5.out.1.chg (by simp), HR.out.2.2.1.trans (H5.out.1.chg.mono (by simp)) (fun x hx => .inl hx)⟩
        go_wp2_with fail
        go_roundw
        case rel => exact ⟨t + 1, D, by omega, by go_num, (by obtain ⟨es, cl, q1, q2, q3, q4⟩ := HF.out.1; exact ⟨es, cl, q1, q2, by omega, q4⟩), ⟨HR.out.2.1.td, fun x y l hl => by
          obtain ⟨c, q1, q2, q3, q4⟩ := HR.out.2.1.at_ x y l hl
          exact ⟨c, q1, q2, by omega, q4.trans ((htk.out x y).trans ⟨fun h => h.elim id (fun h => by cases h.1), .inl⟩).symm⟩⟩, HF.out.2⟩
        case measure => simp [intOf]; omega
    · have hte : L.length = t := by omega
      have htl : L.take t = L := List.take_of_length_le (by omega)
      rw [htl] at HR
      clear hO hC
      go_wp2_with fail
      go_ret
      exact ⟨mb, D, rfl, by rw [hte]; exact HR.out.1, by rw [hte]; exact HR.out.2.1, HR.out.2.2.2⟩
end Go.Proofs.YtkcljohkcpdfaaaGreatDoor.gr
