/- The arena's Owner, walked. (1 texts in one.) -/
import Derived.Test.YtmmfpkkkpeapeaaGreatDoorPsB
import Derived.Deep.RegionLaw

/- The arena's Owner, walked. -/
set_option linter.unusedVariables false
set_option linter.unusedSimpArgs false
namespace Go.Proofs.YtmmfpkkkpeapeaaGreatDoor.ar
open Go.RowKit Go.Maps mem rec
attribute [local go_sem ↓] Go.wp_at_zero Go.wp_at_succ
set_option maxRecDepth 100000
set_option maxHeartbeats 20000000
theorem owner_any (w : World) (p : Nat) (v : Nat → Value) (A : Ar) (x : Int) (h : Parts w p v A) (hx : 0 ≤ x) (hlq : A.quotas.length < 1000) (hml : A.many.length = A.quotas.length) :
    Calls Tryz.prog 26 #[.pointer (some ⟨p, 0, none⟩), .int .i64 x] w fun e w' => ∃ v', e = .returned (.int .i64 A.quotas.length) ∧ Parts w' p v' { A with quotas := A.quotas ++ [x], many := A.many ++ [0] } ∧ Chg (foot p v) w w' ∧ ∀ b ∈ foot p v', b ∈ foot p v ∨ w.heap.size ≤ b := by
  obtain ⟨d2, f2⟩ := h.cell 2 (by omega)
  obtain ⟨d3, f3⟩ := h.cell 3 (by omega)
  obtain ⟨a2, c2, hv2, -, -, -⟩ := shape (h.ow 2 (by omega))
  obtain ⟨a3, c3, hv3, -, -, -⟩ := shape (h.ow 3 (by omega))
  have hv2' : v 2 = .slice a2 A.quotas.length c2 := hv2
  have hv3' : v 3 = .slice a3 A.many.length c3 := hv3
  have HO2 : Hid (w.ownsRow 0 3 1 (.slice a2 A.quotas.length c2) A.quotas.length (A.quotas.map (Value.int .i64))) := by
    have := h.ow 2 (by omega); rw [hv2'] at this; exact this
  have HO3 : Hid (w.ownsRow 0 3 1 (.slice a3 A.many.length c3) A.many.length (A.many.map (Value.int .i64))) := by
    have := h.ow 3 (by omega); rw [hv3'] at this; exact this
  have HN2 : Hid (some p ≠ (Value.slice a2 A.quotas.length c2).ownBlock) := by have := h.pp 2 (by omega); rw [hv2'] at this; exact fun e => this e.symm
  have HN3 : Hid (some p ≠ (Value.slice a3 A.many.length c3).ownBlock) := by have := h.pp 3 (by omega); rw [hv3'] at this; exact fun e => this e.symm
  have HN23 : Hid ((Value.slice a3 A.many.length c3).ownBlock = none ∨ (Value.slice a3 A.many.length c3).ownBlock ≠ (Value.slice a2 A.quotas.length c2).ownBlock) := by
    show _ ∨ _
    rw [← hv2', ← hv3']
    cases hb : (v 3).ownBlock with
    | none => exact .inl rfl
    | some b => exact .inr (fun e => by have := h.ap 3 2 b (by omega) (by omega) hb e.symm; omega)
  have HB2 : Hid (∀ b, (Value.slice a2 A.quotas.length c2).ownBlock = some b → b < w.heap.size) := fun b hb => (HO2.out.lt b hb).2
  have HP := Lib.hid (And.intro h (And.intro hv2' hv3'))
  have hpw : p < w.heap.size := h.hd.lt
  rw [hv2'] at d2
  rw [hv3'] at d3
  clear h hv2 hv3 hv2' hv3'
  obtain ⟨ii, hi, hz0, hz1, hz2⟩ := info_parts infoInt
  have HI := Lib.hid (And.intro hi (And.intro hz0 (And.intro hz1 hz2)))
  clear hi hz0 hz1 hz2
  have HM := Lib.hid hml
  clear hml
  have hxn : (x < 0) = False := by simp; omega
  have hlm : A.many.length < 1000 := by have := HM.out; omega
  generalize hq : A.quotas.length = lq at *
  generalize hm : A.many.length = lm at *
  have HE := Lib.hid (And.intro hq hm)
  clear hq hm
  have HN4 : Hid (some w.heap.size ≠ (Value.slice a2 lq c2).ownBlock) := fun e => by have := HB2.out _ e.symm; omega
  have HN5 : Hid (some (w.heap.size + 1) ≠ (Value.slice a2 lq c2).ownBlock) := fun e => by have := HB2.out _ e.symm; omega
  have HN32 : Hid ((Value.slice a2 lq c2).ownBlock = none ∨ (Value.slice a2 lq c2).ownBlock ≠ (Value.slice a3 lm c3).ownBlock) := by
    show _ ∨ _
    rcases HN23.out with e | e
    · cases hb : (Value.slice a2 lq c2).ownBlock with
      | none => exact .inl rfl
      | some b => rw [e]; exact .inr (by simp)
    · exact .inr (fun h => e h.symm)
  have HB3 : Hid (∀ b, (Value.slice a3 lm c3).ownBlock = some b → b < w.heap.size) := fun b hb => (HO3.out.lt b hb).2
  have HX1 : Hid (lq + 1 ≤ maxLen) := by show lq + 1 ≤ maxLen; unfold maxLen; omega
  have HX2 : Hid ((lq + 1) * 8 ≤ 140737488355328) := by show _ ≤ _; omega
  have HX3 : Hid (lm + 1 ≤ maxLen) := by show lm + 1 ≤ maxLen; unfold maxLen; omega
  have HX4 : Hid ((lm + 1) * 8 ≤ 140737488355328) := by show _ ≤ _; omega
  have hp1 : p < w.heap.size + 1 := by omega
  have hp2 : p < w.heap.size + 1 + 1 := by omega
  go_enter Tryz.func26, Tryz.ntmps26
  go_wp2_with fail
  go_cut [] from 5 to 24 (fun wx => ∃ v', Parts wx p v' { A with quotas := A.quotas ++ [x], many := A.many ++ [0] } ∧ Chg (foot p v) w wx ∧ ∀ b ∈ foot p v', b ∈ foot p v ∨ w.heap.size ≤ b)
  case first =>
    refine AnyT.start (S := fun w' => w'.cell? ⟨p, 2, none⟩ = some (.slice a2 lq c2) ∧ w'.cell? ⟨p, 3, none⟩ = some (.slice a3 lm c3) ∧ w'.frozen? ⟨p, 2, none⟩ = false ∧ w'.frozen? ⟨p, 3, none⟩ = false) 18 (by kernel_rfl) ⟨d2, d3, f2, f3⟩ (fun hHeld => ?_)
    refine AnyT.pick (i := 0) (oi := ⟨_, _, _, _, _, _⟩) (v := ?_) rfl (by kernel_rfl) (by kernel_rfl) (by kernel_rfl) (fun _ _ _ h => h) (Or.inl ⟨by rfl, ?y0_1⟩) ?_
    case' y0_1 => ((intro w hSw; go_simp) <;> (with_reducible rfl))
    try simp only [Act.put, List.setIfInBounds_toArray, List.set_cons_zero, List.set_cons_succ]
    refine AnyT.pick (i := 1) (oi := ⟨_, _, _, _, _, _⟩) (v := ?_) rfl (by kernel_rfl) (by kernel_rfl) (by kernel_rfl) (fun _ _ _ h => h) (Or.inl ⟨by rfl, ?y1_2⟩) ?_
    case' y1_2 => ((intro w hSw; go_simp) <;> (with_reducible rfl))
    try simp only [Act.put, List.setIfInBounds_toArray, List.set_cons_zero, List.set_cons_succ]
    refine AnyT.pick (i := 2) (oi := ⟨_, _, _, _, _, _⟩) (v := ?_) rfl (by kernel_rfl) (by kernel_rfl) (by kernel_rfl) (fun _ _ _ h => h) (Or.inl ⟨by rfl, ?y2_3⟩) ?_
    case' y2_3 => ((intro w hSw; go_simp) <;> (with_reducible rfl))
    try simp only [Act.put, List.setIfInBounds_toArray, List.set_cons_zero, List.set_cons_succ]
    refine AnyT.pick (i := 3) (oi := ⟨_, _, _, _, _, _⟩) (v := ?_) rfl (by kernel_rfl) (by kernel_rfl) (by kernel_rfl) (fun _ _ _ h => h) (Or.inl ⟨by rfl, ?y3_4⟩) ?_
    case' y3_4 => ((intro w hSw; go_simp) <;> (with_reducible rfl))
    try simp only [Act.put, List.setIfInBounds_toArray, List.set_cons_zero, List.set_cons_succ]
    refine AnyT.pick (i := 4) (oi := ⟨_, _, _, _, _, _⟩) (v := ?_) rfl (by kernel_rfl) (by kernel_rfl) (by kernel_rfl) (fun _ _ _ h => h) (Or.inl ⟨by rfl, ?y4_5⟩) ?_
    case' y4_5 => ((intro w hSw; go_simp) <;> (with_reducible rfl))
    try simp only [Act.put, List.setIfInBounds_toArray, List.set_cons_zero, List.set_cons_succ]
    refine AnyT.take (i := 5) (oi := ⟨_, _, _, _, _, _⟩) (v := ?_) rfl (by kernel_rfl) (by kernel_rfl) (by kernel_rfl) (by kernel_rfl) (fun _ _ _ h => h) (Or.inl ⟨by rfl, ?y5_6⟩) (by assumption) ?_
    case' y5_6 => ((intro w hSw; (try dsimp only at hSw); go_simp) <;> (with_reducible rfl))
    try simp only [Act.put, List.setIfInBounds_toArray, List.set_cons_zero, List.set_cons_succ]
    refine AnyT.pick (i := 6) (oi := ⟨_, _, _, _, _, _⟩) (v := ?_) rfl (by kernel_rfl) (by kernel_rfl) (by kernel_rfl) (fun _ _ _ h => h) (Or.inl ⟨by rfl, ?y6_7⟩) ?_
    case' y6_7 => ((intro w hSw; go_simp) <;> (with_reducible rfl))
    try simp only [Act.put, List.setIfInBounds_toArray, List.set_cons_zero, List.set_cons_succ]
    refine AnyT.pick (i := 7) (oi := ⟨_, _, _, _, _, _⟩) (v := ?_) rfl (by kernel_rfl) (by kernel_rfl) (by kernel_rfl) (fun _ _ _ h => h) (Or.inl ⟨by rfl, ?y7_8⟩) ?_
    case' y7_8 => ((intro w hSw; go_simp) <;> (with_reducible rfl))
    try simp only [Act.put, List.setIfInBounds_toArray, List.set_cons_zero, List.set_cons_succ]
    refine AnyT.pick (i := 10) (oi := ⟨_, _, _, _, _, _⟩) (v := ?_) rfl (by kernel_rfl) (by kernel_rfl) (by kernel_rfl) (fun _ _ _ h => h) (Or.inl ⟨by rfl, ?y10_9⟩) ?_
    case' y10_9 => ((intro w hSw; go_simp) <;> (with_reducible rfl))
    try simp only [Act.put, List.setIfInBounds_toArray, List.set_cons_zero, List.set_cons_succ]
    refine AnyT.pick (i := 11) (oi := ⟨_, _, _, _, _, _⟩) (v := ?_) rfl (by kernel_rfl) (by kernel_rfl) (by kernel_rfl) (fun _ _ _ h => h) (Or.inl ⟨by rfl, ?y11_10⟩) ?_
    case' y11_10 => ((intro w hSw; go_simp) <;> (with_reducible rfl))
    try simp only [Act.put, List.setIfInBounds_toArray, List.set_cons_zero, List.set_cons_succ]
    refine AnyT.pick (i := 12) (oi := ⟨_, _, _, _, _, _⟩) (v := ?_) rfl (by kernel_rfl) (by kernel_rfl) (by kernel_rfl) (fun _ _ _ h => h) (Or.inl ⟨by rfl, ?y12_11⟩) ?_
    case' y12_11 => ((intro w hSw; go_simp) <;> (with_reducible rfl))
    try simp only [Act.put, List.setIfInBounds_toArray, List.set_cons_zero, List.set_cons_succ]
    refine AnyT.take (i := 13) (oi := ⟨_, _, _, _, _, _⟩) (v := ?_) rfl (by kernel_rfl) (by kernel_rfl) (by kernel_rfl) (by kernel_rfl) (fun _ _ _ h => h) (Or.inl ⟨by rfl, ?y13_12⟩) (by assumption) ?_
    case' y13_12 => ((intro w hSw; (try dsimp only at hSw); go_simp) <;> (with_reducible rfl))
    try simp only [Act.put, List.setIfInBounds_toArray, List.set_cons_zero, List.set_cons_succ]
    refine AllT.go (rs := [8, 14]) (by kernel_rfl) (by simp) ?_
    refine AllT.early (o := ⟨_, _, _, _, _, _⟩) rfl (fun K hK => ?_) ?_
    · go_simp
      refine hK.out _ _ (by refine ⟨?_, ?_, ?_, ?_⟩; exact (World.cell?_alloc_lt _ _ _ (by first | assumption | omega | (simp; done) | (simp; omega))).trans hHeld.1; exact (World.cell?_alloc_lt _ _ _ (by first | assumption | omega | (simp; done) | (simp; omega))).trans hHeld.2.1; exact (World.frozen?_alloc_past _ _ _ (by first | assumption | omega | (simp; done) | (simp; omega))).trans hHeld.2.2.1; exact (World.frozen?_alloc_past _ _ _ (by first | assumption | omega | (simp; done) | (simp; omega))).trans hHeld.2.2.2) (fun hHeld' => ?_)
      clear hK K hHeld
      have hHeld := hHeld'
      clear hHeld'
      try simp only [Act.put, List.setIfInBounds_toArray, List.set_cons_zero, List.set_cons_succ]
      refine AllT.go (rs := [9, 14]) (by kernel_rfl) (by simp) ?_
      refine AllT.early (o := ⟨_, _, _, _, _, _⟩) rfl (fun K hK => ?_) ?_
      · refine step_append_lies _ ?a1 (.tmp 10) (.tmp 13) 82 ?a2 0 3 ii (.int .i64 0) 1 8 Tryz.underlying82 HI.out.1 HI.out.2.1 HI.out.2.2.1 HI.out.2.2.2 ?a3 ?a4 (.slice a2 lq c2) lq (A.quotas.map (Value.int .i64)) ?a5 ?hown ⟨w.heap.size, 0, none⟩ 1 1 [.int .i64 x] ?a6 ?a7 ?hnews ?a8 ?a9 HX1.out HX2.out ?a10 ((w.heap.size + 1)) ?a11 ?_
        case a1 => rfl
        case a2 => rfl
        case a3 => rfl
        case a4 => decide
        case a5 => rfl
        case a6 => rfl
        case a7 => rfl
        case a8 => (intro u hu; simp at hu; subst hu; rfl)
        case a9 => decide
        case a10 => exact Nat.zero_le _
        case a11 => simp
        case hown => (repeat (first | exact HO2.out | (with_reducible refine World.ownsRow.drew ?_) | (with_reducible refine World.ownsRow.alloc ?_ _)))
        case hnews => (intro j u hj; cases j with | zero => (simp at hj; subst hj; go_simp) | succ j => simp at hj)
        intro g2 k2 wA hownA hgrowA hatA hltA
        have HOB := Lib.hid (World.ownsRow.kept (base := 0) (e := 3) (size := 1) (v := (.slice a3 lm c3)) (n := lm) (xs := (A.many.map (Value.int .i64))) (by (repeat (first | exact HO3.out | (with_reducible refine World.ownsRow.drew ?_) | (with_reducible refine World.ownsRow.alloc ?_ _)))) hgrowA HN23.out)
        have q2 := hgrowA.cell_far ⟨p, 2, none⟩ (by first | assumption | omega | (simp; done) | (simp; omega)) HN2.out
        have q3 := hgrowA.cell_far ⟨p, 3, none⟩ (by first | assumption | omega | (simp; done) | (simp; omega)) HN2.out
        have q4 := hgrowA.frozen_far ⟨p, 2, none⟩ (by first | assumption | omega | (simp; done) | (simp; omega)) HN2.out
        have q5 := hgrowA.frozen_far ⟨p, 3, none⟩ (by first | assumption | omega | (simp; done) | (simp; omega)) HN2.out
        have zA := hgrowA.size
        (try simp only [World.size_alloc, World.size_drew] at zA)
        refine hK.out _ _ ⟨q2.trans hHeld.1, q3.trans hHeld.2.1, q4.trans hHeld.2.2.1, q5.trans hHeld.2.2.2⟩ (fun hHeld' => ?_)
        clear hK K q2 q3 q4 q5 hHeld
        have hHeld := hHeld'
        clear hHeld'
        try simp only [Act.put, List.setIfInBounds_toArray, List.set_cons_zero, List.set_cons_succ]
        refine AllT.go (rs := [14]) (by kernel_rfl) (by simp) ?_
        refine AllT.early (o := ⟨_, _, _, _, _, _⟩) rfl (fun K hK => ?_) ?_
        · go_simp
          refine hK.out _ _ (by refine ⟨?_, ?_, ?_, ?_⟩; exact (World.cell?_alloc_lt _ _ _ (by first | assumption | omega | (simp; done) | (simp; omega))).trans hHeld.1; exact (World.cell?_alloc_lt _ _ _ (by first | assumption | omega | (simp; done) | (simp; omega))).trans hHeld.2.1; exact (World.frozen?_alloc_past _ _ _ (by first | assumption | omega | (simp; done) | (simp; omega))).trans hHeld.2.2.1; exact (World.frozen?_alloc_past _ _ _ (by first | assumption | omega | (simp; done) | (simp; omega))).trans hHeld.2.2.2) (fun hHeld' => ?_)
          clear hK K hHeld
          have hHeld := hHeld'
          clear hHeld'
          try simp only [Act.put, List.setIfInBounds_toArray, List.set_cons_zero, List.set_cons_succ]
          refine AllT.go (rs := [15]) (by kernel_rfl) (by simp) ?_
          refine AllT.early (o := ⟨_, _, _, _, _, _⟩) rfl (fun K hK => ?_) ?_
          · refine step_append_lies _ ?a1 (.tmp 18) (.tmp 19) 82 ?a2 0 3 ii (.int .i64 0) 1 8 Tryz.underlying82 HI.out.1 HI.out.2.1 HI.out.2.2.1 HI.out.2.2.2 ?a3 ?a4 (.slice a3 lm c3) lm (A.many.map (Value.int .i64)) ?a5 ?hown ⟨wA.heap.size, 0, none⟩ 1 1 [.int .i64 0] ?a6 ?a7 ?hnews ?a8 ?a9 HX3.out HX4.out ?a10 ((wA.heap.size + 1)) ?a11 ?_
            case a1 => rfl
            case a2 => rfl
            case a3 => rfl
            case a4 => decide
            case a5 => rfl
            case a6 => rfl
            case a7 => rfl
            case a8 => (intro u hu; simp at hu; subst hu; rfl)
            case a9 => decide
            case a10 => exact Nat.zero_le _
            case a11 => simp
            case hown => (repeat (first | exact HOB.out | (with_reducible refine World.ownsRow.drew ?_) | (with_reducible refine World.ownsRow.alloc ?_ _)))
            case hnews => (intro j u hj; cases j with | zero => (simp at hj; subst hj; go_simp) | succ j => simp at hj)
            intro g3 k3 wB hownB hgrowB hatB hltB
            have q2 := hgrowB.cell_far ⟨p, 2, none⟩ (by first | assumption | omega | (simp; done) | (simp; omega)) HN3.out
            have q3 := hgrowB.cell_far ⟨p, 3, none⟩ (by first | assumption | omega | (simp; done) | (simp; omega)) HN3.out
            have q4 := hgrowB.frozen_far ⟨p, 2, none⟩ (by first | assumption | omega | (simp; done) | (simp; omega)) HN3.out
            have q5 := hgrowB.frozen_far ⟨p, 3, none⟩ (by first | assumption | omega | (simp; done) | (simp; omega)) HN3.out
            have zB := hgrowB.size
            (try simp only [World.size_alloc, World.size_drew] at zB)
            refine hK.out _ _ ⟨q2.trans hHeld.1, q3.trans hHeld.2.1, q4.trans hHeld.2.2.1, q5.trans hHeld.2.2.2⟩ (fun hHeld' => ?_)
            clear hK K q2 q3 q4 q5 hHeld
            have hHeld := hHeld'
            clear hHeld'
            try simp only [Act.put, List.setIfInBounds_toArray, List.set_cons_zero, List.set_cons_succ]
            refine AnyT.pick (i := 16) (oi := ⟨_, _, _, _, _, _⟩) (v := ?_) rfl (by kernel_rfl) (by kernel_rfl) (by kernel_rfl) (fun _ _ _ h => h) (Or.inl ⟨by rfl, ?y16_13⟩) ?_
            case' y16_13 => ((intro w hSw; go_simp) <;> (with_reducible rfl))
            try simp only [Act.put, List.setIfInBounds_toArray, List.set_cons_zero, List.set_cons_succ]
            refine AnyT.pick (i := 17) (oi := ⟨_, _, _, _, _, _⟩) (v := ?_) rfl (by kernel_rfl) (by kernel_rfl) (by kernel_rfl) (fun _ _ _ h => h) (Or.inl ⟨by rfl, ?y17_14⟩) ?_
            case' y17_14 => ((intro w hSw; go_simp) <;> (with_reducible rfl))
            try simp only [Act.put, List.setIfInBounds_toArray, List.set_cons_zero, List.set_cons_succ]
            refine AllT.go (rs := [18]) (by kernel_rfl) (by simp) ?_
            refine AllT.late (o := ⟨_, _, _, _, _, _⟩) rfl (by decide) (fun K hK => ?_) AllT.nil
            go_simp
            refine hK.out _ _ trivial (fun _ => ?_)
            clear hK K
            try simp only [Act.put, List.setIfInBounds_toArray, List.set_cons_zero, List.set_cons_succ]
            refine AnyT.pick (i := 19) (oi := ⟨_, _, _, _, _, _⟩) (v := ?_) rfl (by kernel_rfl) (by kernel_rfl) (by kernel_rfl) (fun _ _ _ h => h) (Or.inl ⟨by rfl, ?y19_15⟩) ?_
            case' y19_15 => ((intro w hSw; go_simp) <;> (with_reducible rfl))
            try simp only [Act.put, List.setIfInBounds_toArray, List.set_cons_zero, List.set_cons_succ]
            refine AnyT.pick (i := 20) (oi := ⟨_, _, _, _, _, _⟩) (v := ?_) rfl (by kernel_rfl) (by kernel_rfl) (by kernel_rfl) (fun _ _ _ h => h) (Or.inl ⟨by rfl, ?y20_16⟩) ?_
            case' y20_16 => ((intro w hSw; go_simp) <;> (with_reducible rfl))
            try simp only [Act.put, List.setIfInBounds_toArray, List.set_cons_zero, List.set_cons_succ]
            refine AllT.go (rs := [21]) (by kernel_rfl) (by simp) ?_
            refine AllT.late (o := ⟨_, _, _, _, _, _⟩) rfl (by decide) (fun K hK => ?_) AllT.nil
            go_simp
            refine hK.out _ _ trivial (fun _ => ?_)
            clear hK K
            try simp only [Act.put, List.setIfInBounds_toArray, List.set_cons_zero, List.set_cons_succ]
            refine AnyT.done (by kernel_rfl) ?_ _
            go_wp2_with fail
            go_meet
            exact close2 HP.out.1 (by (repeat (first | exact Up.refl _ | (with_reducible refine Up.drew ?_) | (with_reducible refine Up.alloc ?_ _)))) HP.out.2.1 HP.out.2.2 hownA (by rw [HE.out.1]) hgrowA hatA (by simp) (by (repeat (first | exact Up.refl _ | (with_reducible refine Up.drew ?_) | (with_reducible refine Up.alloc ?_ _)))) hownB (by rw [HE.out.2]) hgrowB hatB (by simp)
          exact AllT.nil
        exact AllT.nil
      refine AllT.early (o := ⟨_, _, _, _, _, _⟩) rfl (fun K hK => ?_) ?_
      · go_simp
        refine hK.out _ _ (by refine ⟨?_, ?_, ?_, ?_⟩; exact (World.cell?_alloc_lt _ _ _ (by first | assumption | omega | (simp; done) | (simp; omega))).trans hHeld.1; exact (World.cell?_alloc_lt _ _ _ (by first | assumption | omega | (simp; done) | (simp; omega))).trans hHeld.2.1; exact (World.frozen?_alloc_past _ _ _ (by first | assumption | omega | (simp; done) | (simp; omega))).trans hHeld.2.2.1; exact (World.frozen?_alloc_past _ _ _ (by first | assumption | omega | (simp; done) | (simp; omega))).trans hHeld.2.2.2) (fun hHeld' => ?_)
        clear hK K hHeld
        have hHeld := hHeld'
        clear hHeld'
        try simp only [Act.put, List.setIfInBounds_toArray, List.set_cons_zero, List.set_cons_succ]
        refine AllT.go (rs := [9]) (by kernel_rfl) (by simp) ?_
        refine AllT.early (o := ⟨_, _, _, _, _, _⟩) rfl (fun K hK => ?_) ?_
        · refine step_append_lies _ ?a1 (.tmp 10) (.tmp 13) 82 ?a2 0 3 ii (.int .i64 0) 1 8 Tryz.underlying82 HI.out.1 HI.out.2.1 HI.out.2.2.1 HI.out.2.2.2 ?a3 ?a4 (.slice a2 lq c2) lq (A.quotas.map (Value.int .i64)) ?a5 ?hown ⟨w.heap.size, 0, none⟩ 1 1 [.int .i64 x] ?a6 ?a7 ?hnews ?a8 ?a9 HX1.out HX2.out ?a10 (((w.heap.size + 1) + 1)) ?a11 ?_
          case a1 => rfl
          case a2 => rfl
          case a3 => rfl
          case a4 => decide
          case a5 => rfl
          case a6 => rfl
          case a7 => rfl
          case a8 => (intro u hu; simp at hu; subst hu; rfl)
          case a9 => decide
          case a10 => exact Nat.zero_le _
          case a11 => simp
          case hown => (repeat (first | exact HO2.out | (with_reducible refine World.ownsRow.drew ?_) | (with_reducible refine World.ownsRow.alloc ?_ _)))
          case hnews => (intro j u hj; cases j with | zero => (simp at hj; subst hj; go_simp) | succ j => simp at hj)
          intro g2 k2 wA hownA hgrowA hatA hltA
          have HOB := Lib.hid (World.ownsRow.kept (base := 0) (e := 3) (size := 1) (v := (.slice a3 lm c3)) (n := lm) (xs := (A.many.map (Value.int .i64))) (by (repeat (first | exact HO3.out | (with_reducible refine World.ownsRow.drew ?_) | (with_reducible refine World.ownsRow.alloc ?_ _)))) hgrowA HN23.out)
          have yB : wA.cell? ⟨(w.heap.size + 1), 0, none⟩ = some (.int .i64 0) := (hgrowA.cell_far ⟨(w.heap.size + 1), 0, none⟩ (by first | assumption | omega | (simp; done) | (simp; omega)) (fun e => by have hb := HB2.out _ e.symm; (try dsimp only at hb); omega)).trans (by go_simp)
          have q2 := hgrowA.cell_far ⟨p, 2, none⟩ (by first | assumption | omega | (simp; done) | (simp; omega)) HN2.out
          have q3 := hgrowA.cell_far ⟨p, 3, none⟩ (by first | assumption | omega | (simp; done) | (simp; omega)) HN2.out
          have q4 := hgrowA.frozen_far ⟨p, 2, none⟩ (by first | assumption | omega | (simp; done) | (simp; omega)) HN2.out
          have q5 := hgrowA.frozen_far ⟨p, 3, none⟩ (by first | assumption | omega | (simp; done) | (simp; omega)) HN2.out
          have zA := hgrowA.size
          (try simp only [World.size_alloc, World.size_drew] at zA)
          refine hK.out _ _ ⟨q2.trans hHeld.1, q3.trans hHeld.2.1, q4.trans hHeld.2.2.1, q5.trans hHeld.2.2.2⟩ (fun hHeld' => ?_)
          clear hK K q2 q3 q4 q5 hHeld
          have hHeld := hHeld'
          clear hHeld'
          try simp only [Act.put, List.setIfInBounds_toArray, List.set_cons_zero, List.set_cons_succ]
          refine AllT.go (rs := [15]) (by kernel_rfl) (by simp) ?_
          refine AllT.early (o := ⟨_, _, _, _, _, _⟩) rfl (fun K hK => ?_) ?_
          · refine step_append_lies _ ?a1 (.tmp 18) (.tmp 19) 82 ?a2 0 3 ii (.int .i64 0) 1 8 Tryz.underlying82 HI.out.1 HI.out.2.1 HI.out.2.2.1 HI.out.2.2.2 ?a3 ?a4 (.slice a3 lm c3) lm (A.many.map (Value.int .i64)) ?a5 ?hown ⟨(w.heap.size + 1), 0, none⟩ 1 1 [.int .i64 0] ?a6 ?a7 ?hnews ?a8 ?a9 HX3.out HX4.out ?a10 (wA.heap.size) ?a11 ?_
            case a1 => rfl
            case a2 => rfl
            case a3 => rfl
            case a4 => decide
            case a5 => rfl
            case a6 => rfl
            case a7 => rfl
            case a8 => (intro u hu; simp at hu; subst hu; rfl)
            case a9 => decide
            case a10 => exact Nat.zero_le _
            case a11 => simp
            case hown => (repeat (first | exact HOB.out | (with_reducible refine World.ownsRow.drew ?_) | (with_reducible refine World.ownsRow.alloc ?_ _)))
            case hnews => (intro j u hj; cases j with | zero => (simp at hj; subst hj; exact yB) | succ j => simp at hj)
            intro g3 k3 wB hownB hgrowB hatB hltB
            have q2 := hgrowB.cell_far ⟨p, 2, none⟩ (by first | assumption | omega | (simp; done) | (simp; omega)) HN3.out
            have q3 := hgrowB.cell_far ⟨p, 3, none⟩ (by first | assumption | omega | (simp; done) | (simp; omega)) HN3.out
            have q4 := hgrowB.frozen_far ⟨p, 2, none⟩ (by first | assumption | omega | (simp; done) | (simp; omega)) HN3.out
            have q5 := hgrowB.frozen_far ⟨p, 3, none⟩ (by first | assumption | omega | (simp; done) | (simp; omega)) HN3.out
            have zB := hgrowB.size
            (try simp only [World.size_alloc, World.size_drew] at zB)
            refine hK.out _ _ ⟨q2.trans hHeld.1, q3.trans hHeld.2.1, q4.trans hHeld.2.2.1, q5.trans hHeld.2.2.2⟩ (fun hHeld' => ?_)
            clear hK K q2 q3 q4 q5 hHeld
            have hHeld := hHeld'
            clear hHeld'
            try simp only [Act.put, List.setIfInBounds_toArray, List.set_cons_zero, List.set_cons_succ]
            refine AnyT.pick (i := 16) (oi := ⟨_, _, _, _, _, _⟩) (v := ?_) rfl (by kernel_rfl) (by kernel_rfl) (by kernel_rfl) (fun _ _ _ h => h) (Or.inl ⟨by rfl, ?y16_17⟩) ?_
            case' y16_17 => ((intro w hSw; go_simp) <;> (with_reducible rfl))
            try simp only [Act.put, List.setIfInBounds_toArray, List.set_cons_zero, List.set_cons_succ]
            refine AnyT.pick (i := 17) (oi := ⟨_, _, _, _, _, _⟩) (v := ?_) rfl (by kernel_rfl) (by kernel_rfl) (by kernel_rfl) (fun _ _ _ h => h) (Or.inl ⟨by rfl, ?y17_18⟩) ?_
            case' y17_18 => ((intro w hSw; go_simp) <;> (with_reducible rfl))
            try simp only [Act.put, List.setIfInBounds_toArray, List.set_cons_zero, List.set_cons_succ]
            refine AllT.go (rs := [18]) (by kernel_rfl) (by simp) ?_
            refine AllT.late (o := ⟨_, _, _, _, _, _⟩) rfl (by decide) (fun K hK => ?_) AllT.nil
            go_simp
            refine hK.out _ _ trivial (fun _ => ?_)
            clear hK K
            try simp only [Act.put, List.setIfInBounds_toArray, List.set_cons_zero, List.set_cons_succ]
            refine AnyT.pick (i := 19) (oi := ⟨_, _, _, _, _, _⟩) (v := ?_) rfl (by kernel_rfl) (by kernel_rfl) (by kernel_rfl) (fun _ _ _ h => h) (Or.inl ⟨by rfl, ?y19_19⟩) ?_
            case' y19_19 => ((intro w hSw; go_simp) <;> (with_reducible rfl))
            try simp only [Act.put, List.setIfInBounds_toArray, List.set_cons_zero, List.set_cons_succ]
            refine AnyT.pick (i := 20) (oi := ⟨_, _, _, _, _, _⟩) (v := ?_) rfl (by kernel_rfl) (by kernel_rfl) (by kernel_rfl) (fun _ _ _ h => h) (Or.inl ⟨by rfl, ?y20_20⟩) ?_
            case' y20_20 => ((intro w hSw; go_simp) <;> (with_reducible rfl))
            try simp only [Act.put, List.setIfInBounds_toArray, List.set_cons_zero, List.set_cons_succ]
            refine AllT.go (rs := [21]) (by kernel_rfl) (by simp) ?_
            refine AllT.late (o := ⟨_, _, _, _, _, _⟩) rfl (by decide) (fun K hK => ?_) AllT.nil
            go_simp
            refine hK.out _ _ trivial (fun _ => ?_)
            clear hK K
            try simp only [Act.put, List.setIfInBounds_toArray, List.set_cons_zero, List.set_cons_succ]
            refine AnyT.done (by kernel_rfl) ?_ _
            go_wp2_with fail
            go_meet
            exact close2 HP.out.1 (by (repeat (first | exact Up.refl _ | (with_reducible refine Up.drew ?_) | (with_reducible refine Up.alloc ?_ _)))) HP.out.2.1 HP.out.2.2 hownA (by rw [HE.out.1]) hgrowA hatA (by simp) (by (repeat (first | exact Up.refl _ | (with_reducible refine Up.drew ?_) | (with_reducible refine Up.alloc ?_ _)))) hownB (by rw [HE.out.2]) hgrowB hatB (by simp)
          exact AllT.nil
        exact AllT.nil
      exact AllT.nil
    refine AllT.early (o := ⟨_, _, _, _, _, _⟩) rfl (fun K hK => ?_) ?_
    · go_simp
      refine hK.out _ _ (by refine ⟨?_, ?_, ?_, ?_⟩; exact (World.cell?_alloc_lt _ _ _ (by first | assumption | omega | (simp; done) | (simp; omega))).trans hHeld.1; exact (World.cell?_alloc_lt _ _ _ (by first | assumption | omega | (simp; done) | (simp; omega))).trans hHeld.2.1; exact (World.frozen?_alloc_past _ _ _ (by first | assumption | omega | (simp; done) | (simp; omega))).trans hHeld.2.2.1; exact (World.frozen?_alloc_past _ _ _ (by first | assumption | omega | (simp; done) | (simp; omega))).trans hHeld.2.2.2) (fun hHeld' => ?_)
      clear hK K hHeld
      have hHeld := hHeld'
      clear hHeld'
      try simp only [Act.put, List.setIfInBounds_toArray, List.set_cons_zero, List.set_cons_succ]
      refine AllT.go (rs := [8]) (by kernel_rfl) (by simp) ?_
      refine AllT.early (o := ⟨_, _, _, _, _, _⟩) rfl (fun K hK => ?_) ?_
      · go_simp
        refine hK.out _ _ (by refine ⟨?_, ?_, ?_, ?_⟩; exact (World.cell?_alloc_lt _ _ _ (by first | assumption | omega | (simp; done) | (simp; omega))).trans hHeld.1; exact (World.cell?_alloc_lt _ _ _ (by first | assumption | omega | (simp; done) | (simp; omega))).trans hHeld.2.1; exact (World.frozen?_alloc_past _ _ _ (by first | assumption | omega | (simp; done) | (simp; omega))).trans hHeld.2.2.1; exact (World.frozen?_alloc_past _ _ _ (by first | assumption | omega | (simp; done) | (simp; omega))).trans hHeld.2.2.2) (fun hHeld' => ?_)
        clear hK K hHeld
        have hHeld := hHeld'
        clear hHeld'
        try simp only [Act.put, List.setIfInBounds_toArray, List.set_cons_zero, List.set_cons_succ]
        refine AllT.go (rs := [9]) (by kernel_rfl) (by simp) ?_
        refine AllT.early (o := ⟨_, _, _, _, _, _⟩) rfl (fun K hK => ?_) ?_
        · refine step_append_lies _ ?a1 (.tmp 10) (.tmp 13) 82 ?a2 0 3 ii (.int .i64 0) 1 8 Tryz.underlying82 HI.out.1 HI.out.2.1 HI.out.2.2.1 HI.out.2.2.2 ?a3 ?a4 (.slice a2 lq c2) lq (A.quotas.map (Value.int .i64)) ?a5 ?hown ⟨(w.heap.size + 1), 0, none⟩ 1 1 [.int .i64 x] ?a6 ?a7 ?hnews ?a8 ?a9 HX1.out HX2.out ?a10 (((w.heap.size + 1) + 1)) ?a11 ?_
          case a1 => rfl
          case a2 => rfl
          case a3 => rfl
          case a4 => decide
          case a5 => rfl
          case a6 => rfl
          case a7 => rfl
          case a8 => (intro u hu; simp at hu; subst hu; rfl)
          case a9 => decide
          case a10 => exact Nat.zero_le _
          case a11 => simp
          case hown => (repeat (first | exact HO2.out | (with_reducible refine World.ownsRow.drew ?_) | (with_reducible refine World.ownsRow.alloc ?_ _)))
          case hnews => (intro j u hj; cases j with | zero => (simp at hj; subst hj; go_simp) | succ j => simp at hj)
          intro g2 k2 wA hownA hgrowA hatA hltA
          have HOB := Lib.hid (World.ownsRow.kept (base := 0) (e := 3) (size := 1) (v := (.slice a3 lm c3)) (n := lm) (xs := (A.many.map (Value.int .i64))) (by (repeat (first | exact HO3.out | (with_reducible refine World.ownsRow.drew ?_) | (with_reducible refine World.ownsRow.alloc ?_ _)))) hgrowA HN23.out)
          have yB : wA.cell? ⟨w.heap.size, 0, none⟩ = some (.int .i64 0) := (hgrowA.cell_far ⟨w.heap.size, 0, none⟩ (by first | assumption | omega | (simp; done) | (simp; omega)) (fun e => by have hb := HB2.out _ e.symm; (try dsimp only at hb); omega)).trans (by go_simp)
          have q2 := hgrowA.cell_far ⟨p, 2, none⟩ (by first | assumption | omega | (simp; done) | (simp; omega)) HN2.out
          have q3 := hgrowA.cell_far ⟨p, 3, none⟩ (by first | assumption | omega | (simp; done) | (simp; omega)) HN2.out
          have q4 := hgrowA.frozen_far ⟨p, 2, none⟩ (by first | assumption | omega | (simp; done) | (simp; omega)) HN2.out
          have q5 := hgrowA.frozen_far ⟨p, 3, none⟩ (by first | assumption | omega | (simp; done) | (simp; omega)) HN2.out
          have zA := hgrowA.size
          (try simp only [World.size_alloc, World.size_drew] at zA)
          refine hK.out _ _ ⟨q2.trans hHeld.1, q3.trans hHeld.2.1, q4.trans hHeld.2.2.1, q5.trans hHeld.2.2.2⟩ (fun hHeld' => ?_)
          clear hK K q2 q3 q4 q5 hHeld
          have hHeld := hHeld'
          clear hHeld'
          try simp only [Act.put, List.setIfInBounds_toArray, List.set_cons_zero, List.set_cons_succ]
          refine AllT.go (rs := [15]) (by kernel_rfl) (by simp) ?_
          refine AllT.early (o := ⟨_, _, _, _, _, _⟩) rfl (fun K hK => ?_) ?_
          · refine step_append_lies _ ?a1 (.tmp 18) (.tmp 19) 82 ?a2 0 3 ii (.int .i64 0) 1 8 Tryz.underlying82 HI.out.1 HI.out.2.1 HI.out.2.2.1 HI.out.2.2.2 ?a3 ?a4 (.slice a3 lm c3) lm (A.many.map (Value.int .i64)) ?a5 ?hown ⟨w.heap.size, 0, none⟩ 1 1 [.int .i64 0] ?a6 ?a7 ?hnews ?a8 ?a9 HX3.out HX4.out ?a10 (wA.heap.size) ?a11 ?_
            case a1 => rfl
            case a2 => rfl
            case a3 => rfl
            case a4 => decide
            case a5 => rfl
            case a6 => rfl
            case a7 => rfl
            case a8 => (intro u hu; simp at hu; subst hu; rfl)
            case a9 => decide
            case a10 => exact Nat.zero_le _
            case a11 => simp
            case hown => (repeat (first | exact HOB.out | (with_reducible refine World.ownsRow.drew ?_) | (with_reducible refine World.ownsRow.alloc ?_ _)))
            case hnews => (intro j u hj; cases j with | zero => (simp at hj; subst hj; exact yB) | succ j => simp at hj)
            intro g3 k3 wB hownB hgrowB hatB hltB
            have q2 := hgrowB.cell_far ⟨p, 2, none⟩ (by first | assumption | omega | (simp; done) | (simp; omega)) HN3.out
            have q3 := hgrowB.cell_far ⟨p, 3, none⟩ (by first | assumption | omega | (simp; done) | (simp; omega)) HN3.out
            have q4 := hgrowB.frozen_far ⟨p, 2, none⟩ (by first | assumption | omega | (simp; done) | (simp; omega)) HN3.out
            have q5 := hgrowB.frozen_far ⟨p, 3, none⟩ (by first | assumption | omega | (simp; done) | (simp; omega)) HN3.out
            have zB := hgrowB.size
            (try simp only [World.size_alloc, World.size_drew] at zB)
            refine hK.out _ _ ⟨q2.trans hHeld.1, q3.trans hHeld.2.1, q4.trans hHeld.2.2.1, q5.trans hHeld.2.2.2⟩ (fun hHeld' => ?_)
            clear hK K q2 q3 q4 q5 hHeld
            have hHeld := hHeld'
            clear hHeld'
            try simp only [Act.put, List.setIfInBounds_toArray, List.set_cons_zero, List.set_cons_succ]
            refine AnyT.pick (i := 16) (oi := ⟨_, _, _, _, _, _⟩) (v := ?_) rfl (by kernel_rfl) (by kernel_rfl) (by kernel_rfl) (fun _ _ _ h => h) (Or.inl ⟨by rfl, ?y16_21⟩) ?_
            case' y16_21 => ((intro w hSw; go_simp) <;> (with_reducible rfl))
            try simp only [Act.put, List.setIfInBounds_toArray, List.set_cons_zero, List.set_cons_succ]
            refine AnyT.pick (i := 17) (oi := ⟨_, _, _, _, _, _⟩) (v := ?_) rfl (by kernel_rfl) (by kernel_rfl) (by kernel_rfl) (fun _ _ _ h => h) (Or.inl ⟨by rfl, ?y17_22⟩) ?_
            case' y17_22 => ((intro w hSw; go_simp) <;> (with_reducible rfl))
            try simp only [Act.put, List.setIfInBounds_toArray, List.set_cons_zero, List.set_cons_succ]
            refine AllT.go (rs := [18]) (by kernel_rfl) (by simp) ?_
            refine AllT.late (o := ⟨_, _, _, _, _, _⟩) rfl (by decide) (fun K hK => ?_) AllT.nil
            go_simp
            refine hK.out _ _ trivial (fun _ => ?_)
            clear hK K
            try simp only [Act.put, List.setIfInBounds_toArray, List.set_cons_zero, List.set_cons_succ]
            refine AnyT.pick (i := 19) (oi := ⟨_, _, _, _, _, _⟩) (v := ?_) rfl (by kernel_rfl) (by kernel_rfl) (by kernel_rfl) (fun _ _ _ h => h) (Or.inl ⟨by rfl, ?y19_23⟩) ?_
            case' y19_23 => ((intro w hSw; go_simp) <;> (with_reducible rfl))
            try simp only [Act.put, List.setIfInBounds_toArray, List.set_cons_zero, List.set_cons_succ]
            refine AnyT.pick (i := 20) (oi := ⟨_, _, _, _, _, _⟩) (v := ?_) rfl (by kernel_rfl) (by kernel_rfl) (by kernel_rfl) (fun _ _ _ h => h) (Or.inl ⟨by rfl, ?y20_24⟩) ?_
            case' y20_24 => ((intro w hSw; go_simp) <;> (with_reducible rfl))
            try simp only [Act.put, List.setIfInBounds_toArray, List.set_cons_zero, List.set_cons_succ]
            refine AllT.go (rs := [21]) (by kernel_rfl) (by simp) ?_
            refine AllT.late (o := ⟨_, _, _, _, _, _⟩) rfl (by decide) (fun K hK => ?_) AllT.nil
            go_simp
            refine hK.out _ _ trivial (fun _ => ?_)
            clear hK K
            try simp only [Act.put, List.setIfInBounds_toArray, List.set_cons_zero, List.set_cons_succ]
            refine AnyT.done (by kernel_rfl) ?_ _
            go_wp2_with fail
            go_meet
            exact close2 HP.out.1 (by (repeat (first | exact Up.refl _ | (with_reducible refine Up.drew ?_) | (with_reducible refine Up.alloc ?_ _)))) HP.out.2.1 HP.out.2.2 hownA (by rw [HE.out.1]) hgrowA hatA (by simp) (by (repeat (first | exact Up.refl _ | (with_reducible refine Up.drew ?_) | (with_reducible refine Up.alloc ?_ _)))) hownB (by rw [HE.out.2]) hgrowB hatB (by simp)
          exact AllT.nil
        exact AllT.nil
      exact AllT.nil
    exact AllT.nil
  case rest =>
    obtain ⟨v', hM, hC, hF⟩ := hcut
    obtain ⟨dq, fq⟩ := hM.cell 2 (by omega)
    obtain ⟨aq, cq, hvq, -, -, -⟩ := shape (hM.ow 2 (by omega))
    have hvq' : v' 2 = .slice aq (A.quotas ++ [x]).length cq := hvq
    rw [hvq', List.length_append, HE.out.1] at dq
    have HM2 := Lib.hid (And.intro hM (And.intro hC hF))
    clear hM hC hF hvq hvq'
    have hl : IntKind.i64.wrap ((lq + ([x] : List Int).length : Nat) : Int) = ((lq + 1 : Nat) : Int) := by rw [IntKind.wrap_i64] <;> simp <;> omega
    have hw : IntKind.i64.wrap (((lq + 1 : Nat) : Int) - 1) = (lq : Int) := by rw [IntKind.wrap_i64] <;> omega
    have hw2 : IntKind.i64.wrap ((lq : Int) + 1 - 1) = (lq : Int) := by rw [IntKind.wrap_i64] <;> omega
    have hw3 : IntKind.i64.wrap (lq : Int) = (lq : Int) := by rw [IntKind.wrap_i64] <;> omega
    go_wp2_with fail
    exact bodyPost_ret (v := .int .i64 lq) (by simp [results, Tryz.results26, go_sem]) rfl ⟨v', rfl, HM2.out.1, HM2.out.2.1, HM2.out.2.2⟩
end Go.Proofs.YtmmfpkkkpeapeaaGreatDoor.ar
