/- FrameRoots: what is handed in; the world with its brands: plain. (16 texts in one.) -/
import Derived.Test.YtmmfpkkkpeapeaaGreatDoorPsE
import Derived.Test.YtmmfpkkkpeapeaaGreatDoorPsB
import Derived.Deep.CutBlock
import Derived.RangeFuncFrom
import Derived.Shelf.RegionOpen
import Derived.RangeFuncBound
import Derived.RangeFuncStops
import Derived.RangeFuncKeeps
import Derived.OwnWalkIn
import Derived.TacticsInMore
import Derived.LoopNIn
import Derived.LoopIn
import Derived.Laws.IdiomRangeMap
import Derived.Handy
import Derived.ArgAppend
import Derived.Deep.Upon
import Derived.Deep.LoopGhost
import Derived.Deep.CutRange

/- The arena's Drop: walked (printed by ka_gen.py). -/
set_option linter.unusedVariables false
set_option linter.unusedSimpArgs false
namespace Go.Proofs.YtmmfpkkkpeapeaaGreatDoor.ar
open Go.RowKit Go.Maps mem rec
attribute [local go_sem ↓] Go.wp_at_zero Go.wp_at_succ
set_option maxRecDepth 100000
set_option maxHeartbeats 2000000
/-- One less. -/
def Ar.drop (A : Ar) (r : Nat) : Ar :=
  match A.slots[r % 4294967296]? with
  | some s => { slots := A.slots.set (r % 4294967296) ⟨s.uses, false, ob0⟩, free := A.free ++ [r % 4294967296], quotas := A.quotas, many := A.many.set s.o.owner.toNat (A.many.getD s.o.owner.toNat 0 - 1) }
  | none => A
/-- In the midst of Drop. -/
structure Dm (w wx : World) (p : Nat) (v v' : Nat → Value) (A' : Ar) : Prop where
  pt : Parts wx p v' A'
  cg : Chg (foot p v) w wx
  sb : ∀ b ∈ foot p v', b ∈ foot p v ∨ w.heap.size ≤ b
section
variable {w wx wy w1 w5 W6 : World} {p : Nat} {v v2 v' v'' : Nat → Value} {A A' A'' : Ar}
theorem Dm.step (h : Dm w wx p v v' A') (pt : Parts wy p v'' A'') (c : Chg (foot p v') wx wy) (sb : ∀ b ∈ foot p v'', b ∈ foot p v' ∨ wx.heap.size ≤ b) : Dm w wy p v v'' A'' :=
  ⟨pt, h.cg.trans c (fun b hb => h.sb b hb), fun b hb => by
    rcases sb b hb with h1 | h1
    · exact h.sb b h1
    · exact .inr (Nat.le_trans h.cg.size h1)⟩
theorem Dm.up (h : Dm w wx p v v' A') (u : Up wx wy) : Dm w wy p v v' A' := h.step (h.pt.up u) (u.chg.mono (by simp)) (fun b hb => .inl hb)
theorem Dm.app (M : Dm w wx p v v2 A) (i : Nat) (hi : i < 4) (u6 : Up wx W6) {g n cap : Nat} {b : Value}
    (hv : v2 i = b) (hown : w5.ownsRow 0 (eT i) (eS i) (.slice (some ⟨g, 0, none⟩) n cap) (A'.len i) (A'.row i)) (hgrow : W6.grownBy w5 b.ownBlock) (hat : b.ownBlock = some g ∨ g = W6.heap.size) (hsame : ∀ j, j < 4 → j ≠ i → A'.len j = A.len j ∧ A'.row j = A.row j) :
    Dm w (w5.setCell ⟨p, i, none⟩ (.slice (some ⟨g, 0, none⟩) n cap)) p v (upd v2 i (.slice (some ⟨g, 0, none⟩) n cap)) A' := by
  have M6 := M.up u6
  subst hv
  obtain ⟨h1, h2, h3⟩ := M6.pt.put i hi hgrow (.slice (some ⟨g, 0, none⟩) n cap) g rfl (by rcases hat with h | h; exact .inl h; exact .inr (by omega)) hown hsame
  exact M6.step h1 h2 h3
theorem Dm.store (M : Dm w wx p v v2 A) (i : Nat) (hi : i < 4) (hg : wx.grownBy w1 (v2 i).ownBlock) (hrow : w1.ownsRow 0 (eT i) (eS i) (v2 i) (A'.len i) (A'.row i))
    (hsame : ∀ j, j < 4 → j ≠ i → A'.len j = A.len j ∧ A'.row j = A.row j) : Dm w w1 p v v2 A' := by
  obtain ⟨h1, h2⟩ := M.pt.store i hi hg hrow hsame
  exact M.step h1 h2 (fun b hb => .inl hb)
theorem Dm.slot (M : Dm w wx p v v2 A) {g cap n : Nat} (hv : v2 0 = .slice (some ⟨g, 0, none⟩) A.slots.length cap) (s s' : Sl) (hs : A.slots[n]? = some s) (k : Nat) (vs : List Value) (hk : k + vs.length ≤ 16)
    (e : s'.cells = s.cells.take k ++ vs ++ s.cells.drop (k + vs.length)) : Dm w (wx.setCells g (n * 16 + k) vs) p v v2 { A with slots := A.slots.set n s' } := by
  have ho := M.pt.ow 0 (by omega)
  rw [hv] at ho
  have hn : n < A.slots.length := (List.getElem?_eq_some_iff.1 hs).1
  obtain ⟨h1, h2⟩ := owns_setCells vs (n * 16 + k) wx _ ho (by show n * 16 + k + vs.length ≤ (A.slots.flatMap Sl.cells).length; rw [flat_len]; omega)
  refine M.store 0 (by omega) (by rw [hv]; exact h2) ?_ (fun j hj hne => by rcases (by omega : j = 1 ∨ j = 2 ∨ j = 3) with rfl | rfl | rfl <;> exact ⟨rfl, rfl⟩)
  rw [hv]
  show (wx.setCells g (n * 16 + k) vs).ownsRow 0 _ 16 _ (A.slots.set n s').length ((A.slots.set n s').flatMap Sl.cells)
  rw [List.length_set, ← flat_set A.slots n s s' k vs hs hk e]
  exact h1
end
theorem up_cell1 {w w' : World} {p : Addr} {v : Value} (u : Up w w') (h : w.cell? p = some v) : w'.cell? p = some v := (u.chg.cell (World.block_lt_of_cell? w _ h) (by simp)).trans h
theorem drop_x (w : World) (p r : Nat) (v : Nat → Value) (A : Ar) (o : Ob) (n : Nat) (m : Int) (h : Parts w p v A) (hr : r < 18446744073709551616) (hf : A.find r = some o) (hn : o.owner = n) (hm : A.many[n]? = some m) (hm0 : -1000000 ≤ m ∧ m ≤ 1000000) (hfl : A.free.length < 1000000) :
    Calls Tryz.prog 52 #[.pointer (some ⟨p, 0, none⟩), .int .u64 r] w fun e w' => ∃ v', e = .returned (.tuple #[]) ∧ Parts w' p v' (A.drop r) ∧ Chg (foot p v) w w' ∧ ∀ b ∈ foot p v', b ∈ foot p v ∨ w.heap.size ≤ b := by
  obtain ⟨s, hs, hso⟩ := find_slot hf
  obtain ⟨g0, cap0, hv0, hog0, -, -, -⟩ := h.obAt hs
  have hob := obAt_find hog0 h hf
  have GX := Lib.hid (get_at w p r v A o g0 hog0 h hr hf)
  have SX := Lib.hid (slot_x r hr)
  have hlm : n < A.many.length := (List.getElem?_eq_some_iff.1 hm).1
  have hlt0 : r % 4294967296 < A.slots.length := (List.getElem?_eq_some_iff.1 hs).1
  have ED : Hid (A.drop r = { slots := A.slots.set (r % 4294967296) ⟨s.uses, false, ob0⟩, free := A.free ++ [r % 4294967296], quotas := A.quotas, many := A.many.set n (m - 1) }) := by
    show A.drop r = _
    unfold Ar.drop
    rw [hs]
    have e1 : s.o.owner.toNat = n := by rw [hso, hn]; rfl
    have e2 : A.many.getD n 0 = m := by rw [List.getD_eq_getElem?_getD, hm]; rfl
    simp only
    rw [e1, e2]
  have HS := Lib.hid (And.intro hs (And.intro hv0 (And.intro hog0 (And.intro hob (And.intro hm h)))))
  have HN := Lib.hid hn
  clear hs hso hv0 hog0 hob hf hm h hn
  have htop : r % 4294967296 < 4294967296 := Nat.mod_lt _ (by decide)
  generalize r % 4294967296 = top at *
  go_enter Tryz.func52, Tryz.ntmps52
  go_upto_region 2 with (go_at_call 14; refine GX.out.mono ?_; rintro e w1 ⟨rfl, hU1⟩)
  have M0 : Hid (Dm w w1 p v v A) := ⟨HS.out.2.2.2.2.2.up hU1, hU1.chg.mono (by simp), fun b hb => .inl hb⟩
  have a1 : w1.cell? ⟨g0, top * 16 + 2 + 1, none⟩ = some (.int .i64 (n : Int)) := by
    have := (HS.out.2.2.2.1.up hU1) 1 _ rfl
    rw [HN.out] at this
    exact this
  generalize top * 16 + 2 = off at a1 ⊢
  obtain ⟨g3, cap3, hv3, -, lg3⟩ := (M0.out.pt.ow 3 (by omega)).form (show 0 < A.many.length by omega)
  have hv3' : v 3 = .slice (some ⟨g3, 0, none⟩) A.many.length cap3 := hv3
  have d3 : w1.cell? ⟨p, 3, none⟩ = some (v 3) := (M0.out.pt.cell 3 (by omega)).1
  have o3 : w1.ownsRow 0 3 1 (.slice (some ⟨g3, 0, none⟩) A.many.length cap3) A.many.length (A.many.map (Value.int .i64)) := by
    have := M0.out.pt.ow 3 (by omega)
    rw [hv3'] at this
    exact this
  rw [hv3'] at d3
  have e3 : w1.cell? ⟨g3, n, none⟩ = some (.int .i64 m) := by
    have := World.ownsRow.cellAt o3 n (show n < A.many.length * 1 by omega)
    rw [this]; simp [HS.out.2.2.2.2.1]
  have f3 : w1.frozen? ⟨g3, n, none⟩ = false := World.ownsRow.frozenAt o3 _
  have H3 := Lib.hid (And.intro hv3' o3)
  have i3 : (n : Int) < (A.many.length : Int) := by omega
  have hmw : IntKind.i64.wrap (m - 1) = m - 1 := IntWalk.i64_in _ (by omega)
  clear hv3 hv3' o3 hU1 lg3
  go_cut [] from 11 to 22 (fun wx => Dm w wx p v v { A with many := A.many.set n (m - 1) })
  case first =>
    have hst := (World.ownsRow.stored H3.out.2 n (.int .i64 (m - 1)))
    have hC := Lib.hid ((M0.out.store (A' := { A with many := A.many.set n (m - 1) }) 3 (by omega) (by rw [H3.out.1]; exact hst.2) (by
        rw [H3.out.1]
        show World.ownsRow _ 0 3 1 _ (A.many.set n (m - 1)).length ((A.many.set n (m - 1)).map (Value.int .i64))
        rw [List.length_set, List.map_set]
        exact hst.1) (fun j hj hne => by rcases (by omega : j = 0 ∨ j = 1 ∨ j = 2) with rfl | rfl | rfl <;> exact ⟨rfl, rfl⟩)).up (Up.refl _).drew)
    clear hst
    go_region
    all_goals
      go_wp2_with fail
      go_meet
      exact hC.out
  case rest =>
    have M1 := Lib.hid hcut
    obtain ⟨wq, eq_⟩ : ∃ x, x = wc := ⟨_, rfl⟩
    subst eq_
    clear hcut d3 e3 f3 a1 i3 hmw
    have d0 : wq.cell? ⟨p, 0, none⟩ = some (v 0) := (M1.out.pt.cell 0 (by omega)).1
    rw [HS.out.2.1] at d0
    have t1 : (top : Int) < (A.slots.length : Int) := by omega
    generalize hL : A.slots.length = L at d0 t1 hlt0
    have HL := Lib.hid hL
    clear hL
    go_upto_region 3 with (fail)
    go_quiet ((go_at_call 37; exact Calls.quiet_of_same (SX.out _)))
    have M2 := Lib.hid (M1.out.up (up_drewN (Up.refl wq) nq))
    generalize World.drewN wq nq = w2 at M2 ⊢
    clear d0 M1 M0
    obtain ⟨g0', cap0', hv0, hog0, c0, c1, hob⟩ := M2.out.pt.obAt (show ({ A with many := A.many.set n (m - 1) } : Ar).slots[top]? = some s from HS.out.1)
    obtain ⟨rfl, rfl⟩ : g0 = g0' ∧ cap0 = cap0' := by
      have := HS.out.2.1.symm.trans hv0
      simp at this
      exact this
    have hz : ∀ j, w2.frozen? ⟨g0, j, none⟩ = false := fun j => by
      have o0 := M2.out.pt.ow 0 (by omega)
      rw [hv0] at o0
      exact World.ownsRow.frozenAt o0 _
    obtain ⟨y2, y3, y4, y5, y6, y7, y8, y9, y10, y11, y12, y13, y14, y15⟩ := ob_cells hob
    clear hob hog0 hv0
    go_upto_region 4 with (fail)
    go_cut [] from 30 to 36 (fun wx => Dm w wx p v v { slots := A.slots.set top ⟨s.uses, false, ob0⟩, free := A.free, quotas := A.quotas, many := A.many.set n (m - 1) })
    case first =>
      have hA := M2.out.slot (A := { A with many := A.many.set n (m - 1) }) HS.out.2.1 s ⟨s.uses, false, ob0⟩ HS.out.1 1 (.bool false :: ob0.cells) (by simp [Ob.cells]) rfl
      simp only [World.setCells, Ob.cells, ob0, zero3, Nat.add_assoc, Nat.reduceAdd] at hA
      have hA := Lib.hid hA
      clear c0
      go_wp2_with fail
      go_meet
      simp only [ob0, zero3, Nat.add_assoc, Nat.reduceAdd]
      with_reducible exact hA.out
    case rest =>
      have M3 := Lib.hid hcut
      obtain ⟨w3, e3⟩ : ∃ x, x = wc := ⟨_, rfl⟩
      subst e3
      clear hcut c0 c1 hz y2 y3 y4 y5 y6 y7 y8 y9 y10 y11 y12 y13 y14 y15 M2 t1
      obtain ⟨a1, cap1, hv1, -, -, -⟩ := shape (M3.out.pt.ow 1 (by omega))
      have hv1' : v 1 = .slice a1 A.free.length cap1 := hv1
      obtain ⟨d1, f1⟩ := M3.out.pt.cell 1 (by omega)
      rw [hv1'] at d1
      have HO : Hid (w3.ownsRow 0 115 1 (.slice a1 A.free.length cap1) A.free.length (A.free.map (fun n : Nat => Value.int .u32 (n : Int)))) := by
        have := M3.out.pt.ow 1 (by omega)
        rw [hv1'] at this
        exact this
      have HPP : Hid (some p ≠ (Value.slice a1 A.free.length cap1).ownBlock) := by
        have := M3.out.pt.pp 1 (by omega)
        rw [hv1'] at this
        exact fun e => this e.symm
      have H1 := Lib.hid hv1'
      have hpq : Hid (p < w3.heap.size) := M3.out.pt.hd.lt
      obtain ⟨iu, hi, hz0, hz1, hz2⟩ := info_parts infoU32
      have HI := Lib.hid (And.intro hi (And.intro hz0 (And.intro hz1 hz2)))
      have HB : Hid (A.free.length + 1 ≤ maxLen ∧ (A.free.length + 1) * 4 ≤ 140737488355328) := ⟨by unfold maxLen; omega, by omega⟩
      have HD := Lib.hid (And.intro d1 f1)
      clear hi hz0 hz1 hz2 hv1 hv1' d1 f1
      go_upto_region 5 with (fail)
      refine AnyT.start (S := fun w' => w'.cell? ⟨p, 1, none⟩ = some (.slice a1 A.free.length cap1)) 8 (by kernel_rfl) HD.out.1 (fun hHeld => ?_)
      have hUd : Up w3 w3.drew := (Up.refl w3).drew
      have HF1 : Hid (w3.drew.frozen? ⟨p, 1, none⟩ = false) := HD.out.2
      generalize World.drew w3 = wd at hUd hHeld HF1 ⊢
      refine AnyT.pick (i := 0) (oi := ⟨_, _, _, _, _, _⟩) (v := ?_) rfl (by kernel_rfl) (by kernel_rfl) (by kernel_rfl) (fun _ _ _ h => h) (Or.inl ⟨by rfl, ?y0_1⟩) ?_
      case' y0_1 => ((intro w hSw; go_simp) <;> (with_reducible rfl))
      try simp only [Act.put, List.setIfInBounds_toArray, List.set_cons_zero, List.set_cons_succ]
      refine AnyT.pick (i := 1) (oi := ⟨_, _, _, _, _, _⟩) (v := ?_) rfl (by kernel_rfl) (by kernel_rfl) (by kernel_rfl) (fun _ _ _ h => h) (Or.inl ⟨by rfl, ?y1_2⟩) ?_
      case' y1_2 => ((intro w hSw; go_simp) <;> (with_reducible rfl))
      try simp only [Act.put, List.setIfInBounds_toArray, List.set_cons_zero, List.set_cons_succ]
      refine AnyT.pick (i := 2) (oi := ⟨_, _, _, _, _, _⟩) (v := ?_) rfl (by kernel_rfl) (by kernel_rfl) (by kernel_rfl) (fun _ _ _ h => h) (Or.inl ⟨by rfl, ?y2_3⟩) ?_
      case' y2_3 => ((intro w hSw; go_simp) <;> (with_reducible rfl))
      try simp only [Act.put, List.setIfInBounds_toArray, List.set_cons_zero, List.set_cons_succ]
      refine AnyT.pick (i := 3) (oi := ⟨_, _, _, _, _, _⟩) (v := ?_) rfl (by kernel_rfl) (by kernel_rfl) (by kernel_rfl) (fun _ _ _ h => h) (Or.inl ⟨by rfl, ?y3_4⟩) ?_
      case' y3_4 => ((intro w hSw; go_simp) <;> (with_reducible rfl))
      try simp only [Act.put, List.setIfInBounds_toArray, List.set_cons_zero, List.set_cons_succ]
      refine AnyT.take (i := 4) (oi := ⟨_, _, _, _, _, _⟩) (v := ?_) rfl (by kernel_rfl) (by kernel_rfl) (by kernel_rfl) (by kernel_rfl) (fun _ _ _ h => h) (Or.inl ⟨by rfl, ?y4_5⟩) (by assumption) ?_
      case' y4_5 => ((intro w hSw; (try dsimp only at hSw); go_simp) <;> (with_reducible rfl))
      try simp only [Act.put, List.setIfInBounds_toArray, List.set_cons_zero, List.set_cons_succ]
      refine AnyT.pick (i := 5) (oi := ⟨_, _, _, _, _, _⟩) (v := ?_) rfl (by kernel_rfl) (by kernel_rfl) (by kernel_rfl) (fun _ _ _ h => h) (Or.inl ⟨by rfl, ?y5_6⟩) ?_
      case' y5_6 => ((intro w hSw; go_simp) <;> (with_reducible rfl))
      try simp only [Act.put, List.setIfInBounds_toArray, List.set_cons_zero, List.set_cons_succ]
      refine AllT.go (rs := [6]) (by kernel_rfl) (by simp) ?_
      refine AllT.early (o := ⟨_, _, _, _, _, _⟩) rfl (fun K hK => ?_) ?_
      · go_simp
        go_at_call 37
        refine (SX.out _).mono ?_
        rintro e w1o ⟨rfl, ew⟩
        rw [ew]
        clear ew w1o
        refine hK.out _ _ hHeld (fun _ => ?_)
        clear hK K
        try simp only [Act.put, List.setIfInBounds_toArray, List.set_cons_zero, List.set_cons_succ]
        refine AllT.go (rs := [7]) (by kernel_rfl) (by simp) ?_
        refine AllT.early (o := ⟨_, _, _, _, _, _⟩) rfl (fun K hK => ?_) ?_
        · go_simp
          refine hK.out _ _ (up_cell1 ((Up.refl _).alloc _) hHeld) (fun _ => ?_)
          clear hK K
          try simp only [Act.put, List.setIfInBounds_toArray, List.set_cons_zero, List.set_cons_succ]
          refine AllT.go (rs := [8]) (by kernel_rfl) (by simp) ?_
          refine AllT.late (o := ⟨_, _, _, _, _, _⟩) rfl (by decide) (fun K hK => ?_) ?_
          · refine step_append_lies _ rfl (.tmp 41) (.tmp 44) 118 rfl 0 115 iu (.int .u32 0) 1 4 Tryz.underlying118 HI.out.1 HI.out.2.1 HI.out.2.2.1 HI.out.2.2.2 rfl (by decide) (.slice a1 A.free.length cap1) A.free.length (A.free.map (fun n : Nat => Value.int .u32 (n : Int))) rfl (owns_chg HO.out (hUd.alloc _).chg (by simp)) ⟨wd.heap.size, 0, none⟩ 1 1 [.int .u32 (top : Int)] rfl rfl (World.news_of_block (cs := #[.int .u32 (top : Int)]) (t := 115) (fr := (0, 0)) (heap_alloc_new wd _)) (by intro u hu; simp at hu; subst hu; rfl) (by decide) HB.out.1 HB.out.2 (Nat.zero_le _) (wd.heap.size + 1) (by simp) ?_
            intro g gcap w5 hrow hgrow hat hlt5
            have y1 : w5.cell? ⟨p, 1, none⟩ = some (.slice a1 A.free.length cap1) := (hgrow.cell_far _ (by have := hpq.out; have := hUd.size; simp; omega) HPP.out).trans (up_cell1 ((Up.refl wd).alloc _) hHeld)
            have y2 : w5.frozen? ⟨p, 1, none⟩ = false := (hgrow.frozen_far _ (by have := hpq.out; have := hUd.size; simp; omega) HPP.out).trans (((((Up.refl wd).alloc _).chg.frozen (p := ⟨p, 1, none⟩) (Nat.lt_of_lt_of_le hpq.out hUd.size) (by simp))).trans HF1.out)
            refine hK.out _ _ trivial (fun _ => ?_)
            clear hK K
            have HG := Lib.hid (And.intro hrow (And.intro hgrow hat))
            clear hrow hgrow hat hlt5
            try simp only [Act.put, List.setIfInBounds_toArray, List.set_cons_zero, List.set_cons_succ]
            refine AnyT.pick (i := 9) (oi := ⟨_, _, _, _, _, _⟩) (v := ?_) rfl (by kernel_rfl) (by kernel_rfl) (by kernel_rfl) (fun _ _ _ h => h) (Or.inl ⟨by rfl, ?y9_7⟩) ?_
            case' y9_7 => ((intro w hSw; go_simp) <;> (with_reducible rfl))
            try simp only [Act.put, List.setIfInBounds_toArray, List.set_cons_zero, List.set_cons_succ]
            refine AnyT.pick (i := 10) (oi := ⟨_, _, _, _, _, _⟩) (v := ?_) rfl (by kernel_rfl) (by kernel_rfl) (by kernel_rfl) (fun _ _ _ h => h) (Or.inl ⟨by rfl, ?y10_8⟩) ?_
            case' y10_8 => ((intro w hSw; go_simp) <;> (with_reducible rfl))
            try simp only [Act.put, List.setIfInBounds_toArray, List.set_cons_zero, List.set_cons_succ]
            refine AllT.go (rs := [11]) (by kernel_rfl) (by simp) ?_
            refine AllT.late (o := ⟨_, _, _, _, _, _⟩) rfl (by decide) (fun K hK => ?_) ?_
            · go_simp
              refine hK.out _ _ trivial (fun _ => ?_)
              clear hK K
              try simp only [Act.put, List.setIfInBounds_toArray, List.set_cons_zero, List.set_cons_succ]
              refine AnyT.done (by kernel_rfl) ?_ _
              go_wp2_with fail
              go_end0
              rw [ED.out]
              have MF := M3.out.app (A' := { slots := A.slots.set top ⟨s.uses, false, ob0⟩, free := A.free ++ [top], quotas := A.quotas, many := A.many.set n (m - 1) }) 1 (by omega) (hUd.alloc _) H1.out (by show World.ownsRow _ 0 115 1 _ (A.free ++ [top]).length ((A.free ++ [top]).map (fun n : Nat => Value.int .u32 (n : Int))); rw [List.length_append, List.map_append]; exact HG.out.1) HG.out.2.1 (by simpa using HG.out.2.2) (fun j hj hne => by rcases (by omega : j = 0 ∨ j = 2 ∨ j = 3) with rfl | rfl | rfl <;> exact ⟨rfl, rfl⟩)
              exact ⟨_, rfl, MF.pt, MF.cg, MF.sb⟩
            exact AllT.nil
          exact AllT.nil
        exact AllT.nil
      exact AllT.nil
end Go.Proofs.YtmmfpkkkpeapeaaGreatDoor.ar

/- The arena's All: walked; the names of what is there. -/
set_option linter.unusedVariables false
set_option linter.unusedSimpArgs false
namespace Go.Proofs.YtmmfpkkkpeapeaaGreatDoor.ar
open Go.RowKit Go.Maps mem rec
attribute [local go_sem ↓] Go.wp_at_zero Go.wp_at_succ
set_option maxRecDepth 100000
set_option maxHeartbeats 2000000
/-- The names of the slots that are used, by their order. -/
def refsOf (l : List Sl) : List Nat := l.zipIdx.filterMap fun x => if x.1.used = true then some (x.1.uses * 4294967296 + x.2) else none
theorem refsOf_snoc (l : List Sl) (s : Sl) : refsOf (l ++ [s]) = refsOf l ++ (if s.used = true then [s.uses * 4294967296 + l.length] else []) := by
  unfold refsOf
  rw [List.zipIdx_append, List.filterMap_append]
  congr 1
  simp only [List.zipIdx_singleton, List.filterMap_cons, List.filterMap_nil, Nat.zero_add]
  split <;> simp_all
theorem refsOf_mem {A : Ar} {k r : Nat} (hR : Room A k) : r ∈ refsOf A.slots ↔ ∃ o, A.find r = some o := by
  unfold refsOf
  rw [List.mem_filterMap]
  constructor
  · rintro ⟨⟨s, i⟩, hm, he⟩
    have hs := List.mem_zipIdx_iff_getElem?.1 hm
    simp only at he hs
    split at he
    · rename_i hu
      cases he
      have h1 := (List.getElem?_eq_some_iff.1 hs).1
      have h2 := hR.sl
      refine ⟨s.o, ?_⟩
      unfold Ar.find
      rw [show (s.uses * 4294967296 + i) % 4294967296 = i by omega, show (s.uses * 4294967296 + i) / 4294967296 = s.uses by omega, hs]
      simp [hu]
    · cases he
  · rintro ⟨o, hf⟩
    unfold Ar.find at hf
    split at hf
    · rename_i s hs
      split at hf
      · rename_i hu
        refine ⟨(s, r % 4294967296), List.mem_zipIdx_iff_getElem?.2 hs, ?_⟩
        simp only
        rw [if_pos hu.1]
        congr 1
        have := hu.2
        omega
      · cases hf
    · cases hf
theorem refsOf_nodup (l : List Sl) (h : l.length < 4294967296) : (refsOf l).Nodup := by
  have key : ∀ n, n ≤ l.length → (refsOf (l.take n)).Nodup := by
    intro n
    induction n with
    | zero => intro _; simp [refsOf]
    | succ n ih =>
      intro hn
      rw [List.take_add_one, List.getElem?_eq_getElem (by omega)]
      show (refsOf (l.take n ++ [l[n]])).Nodup
      rw [refsOf_snoc, List.length_take, Nat.min_eq_left (by omega)]
      split
      · rename_i hu
        refine List.nodup_append.2 ⟨ih (by omega), by simp, fun x hx y hy => ?_⟩
        rw [List.mem_singleton.1 hy]
        unfold refsOf at hx
        obtain ⟨⟨s', i⟩, hm, he⟩ := List.mem_filterMap.1 hx
        have hs := List.mem_zipIdx_iff_getElem?.1 hm
        have h1 := (List.getElem?_eq_some_iff.1 hs).1
        rw [List.length_take] at h1
        simp only at he h1
        split at he
        · cases he; omega
        · cases he
      · rw [List.append_nil]; exact ih (by omega)
  have h2 := key l.length (Nat.le_refl _)
  rw [List.take_length] at h2
  exact h2
theorem infoRef : (Tryz.prog.info? 41).map (fun i => (i.zero, i.size, i.bytes)) = some (some (.int .u64 0), 1, 8) := by kernel_rfl
theorem all_x (w : World) (p : Nat) (v : Nat → Value) (A : Ar) (h : Parts w p v A) (hl : A.slots.length ≤ 100000) (hu : ∀ s ∈ A.slots, s.uses < 4294967296) :
    Calls Tryz.prog 51 #[.pointer (some ⟨p, 0, none⟩)] w fun e w' => ∃ v', e = .returned v' ∧ Up w w' ∧ w'.ownsRow w.heap.size 41 1 v' (refsOf A.slots).length ((refsOf A.slots).map (fun n : Nat => Value.int .u64 (n : Int))) := by
  obtain ⟨a0, cap0, hv0, -, -, ha0⟩ := shape (h.ow 0 (by omega))
  have hv0' : v 0 = .slice a0 A.slots.length cap0 := hv0
  have d0 : w.cell? ⟨p, 0, none⟩ = some (v 0) := h.hd.cell 0
  rw [hv0'] at d0
  have H := Lib.hid h
  have HU := Lib.hid hu
  have HV := Lib.hid (And.intro hv0' ha0)
  obtain ⟨S, hS⟩ : ∃ S, S = A.slots := ⟨_, rfl⟩
  have HS := Lib.hid hS
  rw [← hS] at d0 hl
  clear h hu hv0 hv0' ha0 hS
  go_enter Tryz.func51, Tryz.ntmps51
  go_wp2_with fail
  clear d0
  go_loopw [3, 11] (fun av i wr => ∃ (t : Nat), t ≤ S.length ∧ i = .int .i64 (t : Int) ∧ wr.ownsRow w.heap.size 41 1 av (refsOf (S.take t)).length ((refsOf (S.take t)).map (fun n : Nat => Value.int .u64 (n : Int))) ∧ Up w wr) (fun _ i _ => S.length - (intOf i).toNat)
  case atStart => exact ⟨0, by omega, rfl, World.ownsRow_nil _ _ _ _, Up.refl _⟩
  case round =>
    obtain ⟨t, ht, rfl, hrow, hU⟩ := hrel
    have HR := Lib.hid (And.intro hrow hU)
    clear hrow hU
    by_cases hlt : t < S.length
    · have it0 : (t : Int) < (S.length : Int) := by omega
      obtain ⟨s, hs⟩ : ∃ s, S[t]? = some s := ⟨_, List.getElem?_eq_getElem hlt⟩
      have hsA : A.slots[t]? = some s := by rw [← HS.out]; exact hs
      obtain ⟨g0, cap, hv, hog, c0, c1, hob⟩ := (H.out.up HR.out.2).obAt hsA
      obtain ⟨rfl, rfl⟩ : a0 = some ⟨g0, 0, none⟩ ∧ cap0 = cap := by
        have h1 := HV.out.1.symm.trans hv
        simp at h1
        exact h1
      obtain ⟨y2, y3, y4, y5, y6, y7, y8, y9, y10, y11, y12, y13, y14, y15⟩ := ob_cells hob
      have hsu := HU.out s (List.mem_of_getElem? hsA)
      have HT : Hid (refsOf (S.take (t + 1)) = refsOf (S.take t) ++ (if s.used = true then [s.uses * 4294967296 + t] else [])) := by
        show refsOf (S.take (t + 1)) = _
        rw [List.take_add_one, hs]
        show refsOf (S.take t ++ [s]) = _
        rw [refsOf_snoc, List.length_take, Nat.min_eq_left (by omega)]
      clear hob hog hv hs hsA
      have hw1 : IntKind.u32.wrap (t : Int) = (t : Int) := by rw [IntKind.wrap_u32]; omega
      have OX := Lib.hid (of_x t s.uses (by omega) hsu)
      have HL : Hid ((refsOf (S.take t)).length ≤ 100000) := by
        have h1 : (refsOf (S.take t)).length ≤ (S.take t).zipIdx.length := List.length_filterMap_le _ _
        rw [List.length_zipIdx, List.length_take] at h1
        show _ ≤ _
        omega
      obtain ⟨su, sud, so⟩ := s
      simp only at c0 c1 y2 y3 y4 y5 y6 y7 y8 y9 y10 y11 y12 y13 y14 y15 OX HT
      cases sud
      · simp only [Bool.false_eq_true, if_false, List.append_nil] at HT
        go_wp2_with fail
        go_roundw
        case rel => exact ⟨t + 1, by omega, by go_num, by rw [HT.out]; exact owns_chg HR.out.1 ((Up.refl wr).alloc _).chg (by simp), HR.out.2.alloc _⟩
        case measure => simp [intOf]; omega
      · simp only [if_true] at HT
        obtain ⟨iR, hi, hz0, hz1, hz2⟩ := info_parts infoRef
        have HI := Lib.hid (And.intro hi (And.intro hz0 (And.intro hz1 hz2)))
        clear hi hz0 hz1 hz2
        go_upto_region 6 with (fail)
        clear c0 c1 y2 y3 y4 y5 y6 y7 y8 y9 y10 y11 y12 y13 y14 y15
        generalize hwa : World.alloc wr _ = wa
        have hUa : Up wr wa := by rw [← hwa]; exact (Up.refl wr).alloc _
        have hc : wa.cell? ⟨wr.heap.size, 0, none⟩ = some (.int .u32 (su : Int)) := by rw [← hwa]; exact (Blk.new wr _ _).cell 0
        clear hwa
        have HB : Hid ((refsOf (S.take t)).length + 1 ≤ maxLen ∧ ((refsOf (S.take t)).length + 1) * 8 ≤ 140737488355328) := by have := HL.out; exact ⟨by unfold maxLen; omega, by omega⟩
        have HUa := Lib.hid hUa
        have HO : Hid ((wa.alloc (.cells #[.int .u64 ((su * 4294967296 + t : Nat) : Int)] 41)).ownsRow w.heap.size 41 1 u3 (refsOf (S.take t)).length ((refsOf (S.take t)).map (fun n : Nat => Value.int .u64 (n : Int))) ∧ Up w (wa.alloc (.cells #[.int .u64 ((su * 4294967296 + t : Nat) : Int)] 41))) := ⟨owns_chg HR.out.1 (hUa.alloc _).chg (by simp), (HR.out.2.trans hUa).alloc _⟩
        clear hUa
        generalize su * 4294967296 + t = rr at OX HT HO
        go_wp2_with (first | (go_at_call 42; refine (OX.out _).mono ?_; rintro e w' ⟨rfl, ew⟩; rw [ew]; clear ew w') | (at_builtin; refine wpList_append_lies _ rfl (.tmp 18) (.tmp 24) 35 rfl w.heap.size 41 _ (.int .u64 0) 1 8 Tryz.underlying35 HI.out.1 HI.out.2.1 HI.out.2.2.1 HI.out.2.2.2 rfl (by decide) u3 _ ((refsOf (S.take t)).map (fun n : Nat => Value.int .u64 (n : Int))) rfl HO.out.1 ⟨wa.heap.size, 0, none⟩ 1 1 [.int .u64 (rr : Int)] rfl rfl (World.news_of_block (cs := #[.int .u64 (rr : Int)]) (t := 41) (fr := (0, 0)) (heap_alloc_new wa _)) (by intro u hu; simp at hu; subst hu; rfl) (by decide) HB.out.1 HB.out.2 HO.out.2.size (wa.heap.size + 1) (by simp) ?_; intro g1 gcap1 w9 hown9 hgrow9 hat9 hlt9))
        go_roundw
        case rel =>
          have CU : Chg [] w w9 := by
            refine Chg.weak (F := (Value.ownBlock u3).toList) ?_ (fun x hx => .inr (HR.out.1.lt x (by simpa using hx)).1)
            exact (HO.out.2.chg.mono (by simp)).grown hgrow9 (fun b hb => .inl (by simp [hb]))
          exact ⟨t + 1, by omega, by go_num, by rw [HT.out, List.length_append, List.map_append]; exact hown9, CU.up⟩
        case measure => simp [intOf]; omega
    · have hte : t = S.length := by omega
      subst hte
      have hrow := HR.out.1
      rw [List.take_length] at hrow
      rw [HS.out] at hrow
      have HRR := Lib.hid hrow
      clear hrow
      go_wp2_with fail
      go_ret
      exact ⟨_, rfl, HR.out.2, HRR.out⟩
end Go.Proofs.YtmmfpkkkpeapeaaGreatDoor.ar

/- Holds of an object without fields that holds nothing: what it names; maps.Keys of nil, collected, sorted. -/
set_option linter.unusedVariables false
set_option linter.unusedSimpArgs false
namespace Go.Proofs.YtmmfpkkkpeapeaaGreatDoor.ar
open Go.RowKit Go.Maps mem rec
attribute [local go_sem ↓] Go.wp_at_zero Go.wp_at_succ
attribute [local go_sem] Oper.semAt_some
set_option maxRecDepth 100000
set_option maxHeartbeats 2000000
theorem keys1_none (b : Nat) (y : Value) (w : World) (hb : w.cell? ⟨b, 0, none⟩ = some (.map none)) :
    Calls Tryz.prog 69 #[y, .pointer (some ⟨b, 0, none⟩)] w fun e w' => (∃ v, e = .returned v) ∧ w' = w.alloc (.mapIter none 0 #[] 0) := by
  have hrg := run_range_nilMap (P := Tryz.prog) w 63 51 51 Tryz.underlying63
  have hnx : ∀ ty, (Instr.next (.pointer (some ⟨w.heap.size, 0, none⟩)) false ty).run Tryz.prog (w.alloc (.mapIter none 0 #[] 0)) = _ := fun ty => run_next_nilMap _ ty 0 0 #[]
  go_enter Tryz.func69, Tryz.ntmps69
  go_wp2
  go_loopw [] (fun wr => wr = w.alloc (.mapIter none 0 #[] 0)) (fun _ => 0)
  case atStart => rfl
  case round =>
    subst hrel
    go_wp2
    go_end0
    exact ⟨⟨_, rfl⟩, rfl⟩
theorem keys_stops_none (n : Nat) (b : Nat) (w : World) (hb : w.cell? ⟨b, 0, none⟩ = some (.map none)) :
    SeqStopsK Fence.wide n Tryz.prog 69 #[.pointer (some ⟨b, 0, none⟩)] (fun _ : Empty => #[Value.bool true]) (Below 0) (fun _ => True) (fun _ => False) 0 w := fun l J _ W hW hJ _ _ h0 => by
  have hb' : W.cell? ⟨b, 0, none⟩ = some (.map none) := (hW.cell (p := ⟨b, 0, none⟩) (World.block_lt_of_cell? w _ hb)).trans hb
  refine callsIn_wide.2 ((keys1_none b _ W hb').mono ?_)
  rintro e w' ⟨he, rfl⟩
  exact ⟨he, .inl ⟨[], trivial, hJ [] W _ none h0 (World.grownBy_alloc W _ none) (fun r e => by cases e)⟩⟩
theorem append_none (b : Nat) (w : World) (hb : w.cell? ⟨b, 0, none⟩ = some (.map none)) :
    Calls Tryz.prog 78 #[.slice none 0 0, .func (.func 69) #[] #[.pointer (some ⟨b, 0, none⟩)]] w fun e w' => e = .returned (.slice none 0 0) ∧ Up w w' := by
  refine (callsIn_wide (n := 3)).1 ?_
  refine callsIn_of_wp_marks Tryz.func78 rfl trivial ?_ rfl
  simp only [Tryz.ntmps78, List.size_toArray, List.length_cons, List.length_nil, Nat.reduceAdd, Nat.reduceSub, Array.replicate_succ, Array.replicate_zero, List.push_toArray, List.append_toArray, List.nil_append, List.cons_append]
  gi_wp2
  refine wpIn_rangeFunc_ownF (α := Empty) rfl (by decide) (gf := 69) (lb := #[.pointer (some ⟨b, 0, none⟩)]) rfl trivial (enters_of Tryz.func69 (by kernel_rfl) rfl)
    (keys_stops_none 2 b (w.alloc (.cells #[.slice none 0 0] 64)) (up_cell1 ((Up.refl w).alloc _) hb)) belowK_t (belowK_b (Nat.zero_le _)) (Below.refl _ _) (fun x => nomatch x)
    (fun _ W => W.cell? ⟨w.heap.size, 0, none⟩ = some (.slice none 0 0) ∧ Below w.heap.size w W) (fun _ _ _ => False)
    (OwnFrom.and (Own.from (fun s A B row hs hg hr => cell_kept hs hg hr) _) (ownFrom_below (Nat.le_refl _) (by simp)))
    (fun _ _ _ _ _ hs _ _ => hs) ⟨(Blk.new w _ _).cell 0, (Up.refl w).alloc _⟩ (fun x => nomatch x) ?assign ?body ?done ?stop
  case assign => intro l x; exact nomatch x
  case body => intro l pre x; exact nomatch x
  case done =>
    rintro D ys W hD _ ⟨hc, hB⟩ hK
    gi_wp2
    refine ⟨by simp, .inl ⟨_, _, rfl, run_takeDeferred hK, ?_⟩⟩
    exact ⟨_, results_tmp rfl _ _ _, rfl, hB.trans (belowK_b (w := w) (Nat.le_refl _) W D _ _ (by simp at hD; omega) hK rfl rfl)⟩
  case stop => rintro D c pre W _ h; exact h.elim
end Go.Proofs.YtmmfpkkkpeapeaaGreatDoor.ar

/- Nothing sorted; the keys of nil, sorted; Holds. -/
set_option linter.unusedVariables false
set_option linter.unusedSimpArgs false
namespace Go.Proofs.YtmmfpkkkpeapeaaGreatDoor.ar
open Go.RowKit Go.Maps mem rec
attribute [local go_sem ↓] Go.wp_at_zero Go.wp_at_succ
set_option maxRecDepth 100000
set_option maxHeartbeats 2000000
theorem insert_none (fv : Value) (w : World) : Calls Tryz.prog 85 #[.slice none 0 0, .int .i64 0, .int .i64 0, fv] w fun e w' => e = .returned (.tuple #[]) ∧ w' = w := by
  go_enter Tryz.func85, Tryz.ntmps85
  go_wp2
  go_loopw [8] (fun i wr => i = .int .i64 1 ∧ wr = w) (fun _ _ => 0)
  case atStart => exact ⟨rfl, rfl⟩
  case round =>
    obtain ⟨rfl, rfl⟩ := hrel
    go_wp2
    go_returns
    exact ⟨rfl, rfl⟩
theorem pdq_none (fv : Value) (k : Int) (w : World) : Calls Tryz.prog 79 #[.slice none 0 0, .int .i64 0, .int .i64 0, .int .i64 k, fv] w fun e w' => e = .returned (.tuple #[]) ∧ w' = w := by
  go_enter Tryz.func79, Tryz.ntmps79
  go_wp2
  go_loopw [1, 2] (fun i j wr => i = .int .i64 0 ∧ j = .int .i64 0 ∧ wr = w) (fun _ _ _ => 0)
  case atStart => exact ⟨rfl, rfl, rfl⟩
  case round =>
    obtain ⟨rfl, rfl, rfl⟩ := hrel
    go_wp2_with (go_at_call 85; refine (insert_none _ _).mono ?_; rintro e w2 ⟨rfl, rfl⟩)
    go_returns
    exact ⟨rfl, rfl⟩
theorem len_zero (w : World) : Calls Tryz.prog 80 #[.int .u64 0] w fun e w' => (∃ k : Int, e = .returned (.int .i64 k)) ∧ Up w w' := by
  go_enter Tryz.func80, Tryz.ntmps80
  go_wp2
  go_ret
  exact ⟨⟨_, rfl⟩, Up.refl _⟩
theorem sort_none (fv : Value) (w : World) : Calls Tryz.prog 68 #[.slice none 0 0, fv] w fun e w' => e = .returned (.tuple #[]) ∧ Up w w' := by
  have LZ := Lib.hid len_zero
  go_enter Tryz.func68, Tryz.ntmps68
  go_wp2_with (first
    | (go_at_call 80; refine (LZ.out _).mono ?_; rintro e w2 ⟨⟨k, rfl⟩, hU⟩)
    | (go_at_call 79; refine (pdq_none _ _ _).mono ?_; rintro e w3 ⟨rfl, ew⟩; rw [ew]; clear ew w3))
  go_end0
  exact ⟨rfl, hU⟩
theorem collect_none (b : Nat) (w : World) (hb : w.cell? ⟨b, 0, none⟩ = some (.map none)) :
    Calls Tryz.prog 67 #[.func (.func 69) #[] #[.pointer (some ⟨b, 0, none⟩)]] w fun e w' => e = .returned (.slice none 0 0) ∧ Up w w' := by
  have HA := Lib.hid (append_none b w hb)
  go_enter Tryz.func67, Tryz.ntmps67
  go_wp2_with (go_at_call 78; refine HA.out.mono ?_; rintro e w2 ⟨rfl, hU⟩)
  go_ret
  exact ⟨rfl, hU⟩
theorem sorted_none (b : Nat) (fv : Value) (w : World) (hb : w.cell? ⟨b, 0, none⟩ = some (.map none)) :
    Calls Tryz.prog 61 #[.func (.func 69) #[] #[.pointer (some ⟨b, 0, none⟩)], fv] w fun e w' => e = .returned (.slice none 0 0) ∧ Up w w' := by
  have HA := Lib.hid (collect_none b w hb)
  go_enter Tryz.func61, Tryz.ntmps61
  go_wp2_with (first
    | (go_at_call 67; refine HA.out.mono ?_; rintro e w2 ⟨rfl, hU⟩)
    | (go_at_call 68; refine (sort_none _ _).mono ?_; rintro e w3 ⟨rfl, hU3⟩))
  go_ret
  exact ⟨rfl, hU.trans hU3⟩
theorem keys_none (w : World) : Calls Tryz.prog 62 #[.map none] w fun e w' => e = .returned (.func (.func 69) #[] #[.pointer (some ⟨w.heap.size, 0, none⟩)]) ∧ w' = w.alloc (.cells #[.map none] 63) := by
  go_enter Tryz.func62, Tryz.ntmps62
  go_wp2
  go_ret
  exact ⟨rfl, rfl⟩
end Go.Proofs.YtmmfpkkkpeapeaaGreatDoor.ar

/- Holds of an object without fields that holds nothing. -/
set_option linter.unusedVariables false
set_option linter.unusedSimpArgs false
namespace Go.Proofs.YtmmfpkkkpeapeaaGreatDoor.ar
open Go.RowKit Go.Maps mem rec
attribute [local go_sem ↓] Go.wp_at_zero Go.wp_at_succ
set_option maxRecDepth 100000
set_option maxHeartbeats 2000000
theorem add_zero (y : Value) (w : World) : Calls Tryz.prog 60 #[.int .u64 0, y] w fun e w' => e = .returned (.tuple #[]) ∧ w' = w := by
  go_enter Tryz.func60, Tryz.ntmps60
  go_wp2
  go_end0
  exact ⟨rfl, rfl⟩
theorem add_one (t D B : Nat) (ht : t ≠ 0) (w : World) (hB : B ≤ w.heap.size) (hc : w.cell? ⟨D, 0, none⟩ = some (.slice none 0 0)) (hf : w.frozen? ⟨D, 0, none⟩ = false) :
    Calls Tryz.prog 60 #[.int .u64 (t : Int), .pointer (some ⟨D, 0, none⟩)] w fun e w' => e = .returned (.tuple #[]) ∧ ∃ v', w'.cell? ⟨D, 0, none⟩ = some v' ∧ w'.ownsRow B 41 1 v' 1 [.int .u64 (t : Int)] ∧ Chg [D] w w' := by
  have hD := World.block_lt_of_cell? w _ hc
  simp only at hD
  have z1 : ((t : Int) != 0) = true := by simpa using ht
  have z2 : ¬ ((t : Int) = 0) := by omega
  obtain ⟨iR, hi, hz0, hz1, hz2⟩ := info_parts infoRef
  have HI := Lib.hid (And.intro hi (And.intro hz0 (And.intro hz1 hz2)))
  have HB := Lib.hid hB
  have HD := Lib.hid hD
  clear hi hz0 hz1 hz2 ht hB
  obtain ⟨u0, hu0⟩ : ∃ u0, u0 = Value.slice none 0 0 := ⟨_, rfl⟩
  rw [← hu0] at hc
  have HO : Hid ((w.alloc (.cells #[.int .u64 (t : Int)] 41)).ownsRow B 41 1 u0 0 []) := by rw [hu0]; exact World.ownsRow_nil _ _ _ _
  have HN : Hid (u0.ownBlock = none) := by rw [hu0]; rfl
  clear hu0
  have HU : Hid (Up w (w.alloc (.cells #[.int .u64 (t : Int)] 41))) := (Up.refl w).alloc _
  have hnd : ¬ D = w.heap.size := by omega
  go_enter Tryz.func60, Tryz.ntmps60
  go_wp2_with (at_builtin; refine wpList_append_lies _ rfl (.tmp 5) (.tmp 7) 35 rfl B 41 _ (.int .u64 0) 1 8 Tryz.underlying35 HI.out.1 HI.out.2.1 HI.out.2.2.1 HI.out.2.2.2 rfl (by decide) u0 0 [] rfl HO.out ⟨w.heap.size, 0, none⟩ 1 1 [.int .u64 (t : Int)] rfl rfl (World.news_of_block (cs := #[.int .u64 (t : Int)]) (t := 41) (fr := (0, 0)) (heap_alloc_new w _)) (by intro u hu; simp at hu; subst hu; rfl) (by decide) (by unfold maxLen; omega) (by omega) (Nat.le_trans HB.out HU.out.size) (w.heap.size + 1) (by simp) ?_; intro g1 gcap1 w9 hown9 hgrow9 hat9 hlt9; have y1 : w9.cell? ⟨D, 0, none⟩ = some u0 := ((hgrow9.block D (Nat.lt_of_lt_of_le HD.out HU.out.size) (by rw [HN.out]; simp)) |> fun e => (World.cell?_of_block (w := w.alloc (.cells #[.int .u64 (t : Int)] 41)) (a := ⟨D, 0, none⟩) e)).trans (up_cell1 HU.out hc); have y2 : w9.frozen? ⟨D, 0, none⟩ = false := ((hgrow9.block D (Nat.lt_of_lt_of_le HD.out HU.out.size) (by rw [HN.out]; simp)) |> fun e => (World.frozen?_of_block (w := w.alloc (.cells #[.int .u64 (t : Int)] 41)) (a := ⟨D, 0, none⟩) e)).trans ((HU.out.chg.frozen (p := ⟨D, 0, none⟩) HD.out (by simp)).trans hf))
  go_end0
  have hg1 : g1 ≠ D := by
    rcases hat9 with h | h
    · rw [HN.out] at h; cases h
    · have := HD.out; omega
  have CS : Chg [D] w9 (w9.setCell ⟨D, 0, none⟩ (.slice (some ⟨g1, 0, none⟩) 1 gcap1)) := (Chg.refl _ w9).setCell (p := ⟨D, 0, none⟩) (.inl (by simp)) _
  refine ⟨rfl, .slice (some ⟨g1, 0, none⟩) 1 gcap1, World.cell?_setCell_same' _ _ _ (by rw [y1]; rfl), owns_chg hown9 CS (fun b hb => by cases hb; simpa using hg1), ?_⟩
  exact ((HU.out.chg.mono (by simp)).grown hgrow9 (fun b hb => by rw [HN.out] at hb; cases hb)).trans CS (fun x hx => .inl hx)
theorem up_chg1 {w w4 w5 : World} {D : Nat} (u : Up w w4) (c : Chg [D] w4 w5) (e : D = w.heap.size) : Up w w5 := Below.trans u (c.below u.size (fun b hb => by rw [List.mem_singleton.1 hb, e]; exact Nat.le_refl _))
theorem holds_x (w : World) (g off : Nat) (o : Ob) (t : Nat) (h : ObAt w g off o) (hf : o.fields = none) (hn : o.hn = 0) (hb : o.brand = 0) (hc : o.content = zero3) (ht : o.target = (t : Int)) :
    Calls Tryz.prog 54 #[.pointer (some ⟨g, off, none⟩)] w fun e w' => ∃ v', e = .returned v' ∧ Up w w' ∧ w'.ownsRow w.heap.size 41 1 v' (if t = 0 then 0 else 1) (if t = 0 then [] else [.int .u64 (t : Int)]) := by
  obtain ⟨-, -, -, y3, -, -, y6, y7, y8, y9, y10, -, y12, -⟩ := ob_cells h
  rw [hf] at y3
  rw [hn] at y6
  rw [hb] at y7
  rw [hc] at y8 y9 y10
  rw [ht] at y12
  simp only [zero3] at y8 y9 y10
  have hgl : g < w.heap.size := World.block_lt_of_cell? w _ y3
  clear h hf hn hb hc ht
  generalize o.ha = oha at y6
  generalize o.hc = ohc at y6
  go_enter Tryz.func54, Tryz.ntmps54
  go_upto_region 3 with (fail)
  have BD := Blk.new w #[.slice none 0 0] 35
  have U1 : Up w (w.alloc (.cells #[.slice none 0 0] 35)) := (Up.refl w).alloc _
  have hDw := Lib.hid (Nat.le_refl w.heap.size)
  generalize World.alloc w _ = w1 at BD U1 ⊢
  have HD : Hid (w.heap.size ≤ w.heap.size) := Nat.le_refl _
  obtain ⟨D, eD⟩ : ∃ D, D = w.heap.size := ⟨_, rfl⟩
  rw [← eD] at BD ⊢
  have ED := Lib.hid eD
  have HY : Hid (∀ wx, Up w wx → wx.cell? ⟨g, off + 3, none⟩ = some (.map none) ∧ wx.cell? ⟨g, off + 6, none⟩ = some (.slice oha 0 ohc) ∧ wx.cell? ⟨g, off + 7, none⟩ = some (.int .u64 0) ∧ wx.cell? ⟨g, off + 8, none⟩ = some (.int .u8 0) ∧ wx.cell? ⟨g, off + 9, none⟩ = some (.int .i64 0) ∧ wx.cell? ⟨g, off + 10, none⟩ = some (.string ⟨#[]⟩) ∧ wx.cell? ⟨g, off + 12, none⟩ = some (.int .u64 (t : Int))) := fun wx u =>
    ⟨up_cell1 u y3, up_cell1 u y6, up_cell1 u y7, up_cell1 u y8, up_cell1 u y9, up_cell1 u y10, up_cell1 u y12⟩
  have HBD := Lib.hid (And.intro BD U1)
  clear y3 y6 y7 y8 y9 y10 y12 hDw HD eD BD U1 hgl
  obtain ⟨y3, -⟩ := HY.out _ HBD.out.2
  have KX := Lib.hid (keys_none w1)
  have SX := Lib.hid (fun fv => sorted_none w1.heap.size fv (w1.alloc (.cells #[.map none] 63)) ((Blk.new w1 _ _).cell 0))
  go_wp2_with (first
    | (go_at_call 62; refine KX.out.mono ?_; rintro e w2 ⟨rfl, rfl⟩)
    | (go_at_call 61; refine (SX.out _).mono ?_; rintro e w3 ⟨rfl, hU3⟩))
  have U3 : Hid (Up w1 w3) := ((Up.refl w1).alloc _).trans hU3
  clear hU3 y3 KX SX
  go_loopw [17] (fun i wr => i = .int .i64 0 ∧ wr = w3) (fun _ _ => 0)
  case atStart => exact ⟨rfl, rfl⟩
  case round =>
    obtain ⟨rfl, ew⟩ := hrel
    rw [ew]
    clear ew wr
    obtain ⟨-, y6, y7, y8, y9, y10, y12⟩ := HY.out _ (HBD.out.2.trans U3.out)
    go_wp2_with fail
    go_loopw [36] (fun i wr => i = .int .i64 0 ∧ wr = w3) (fun _ _ => 0)
    case atStart => exact ⟨rfl, rfl⟩
    case round =>
      obtain ⟨rfl, ew⟩ := hrel
      rw [ew]
      clear ew wr
      go_upto_region 15 with (first
        | (go_at_call 60; refine (add_zero _ _).mono ?_; rintro e w' ⟨rfl, ew⟩; rw [ew]; clear ew w')
        | (go_at_call 15; refine (ref_none 0 0 ⟨#[]⟩ rfl _).mono ?_; rintro e w' ⟨rfl, ew⟩; rw [ew]; clear ew w'))
      have U4 : Up w3 (w3.alloc (.cells #[.int .u8 0, .int .i64 0, .string ⟨#[]⟩] 51)) := (Up.refl w3).alloc _
      generalize World.alloc w3 _ = w4 at U4 ⊢
      have B4 := Lib.hid (HBD.out.1.chg (U3.out.trans U4).chg (by simp))
      have UW : Hid (Up w w4) := HBD.out.2.trans (U3.out.trans U4)
      clear y6 y7 y8 y9 y10 y12 U4
      obtain ⟨-, -, -, -, -, -, y12⟩ := HY.out _ UW.out
      by_cases ht : t = 0
      · subst ht
        have c0 : w4.cell? ⟨D, 0, none⟩ = some (.slice none 0 0) := B4.out.cell 0
        go_wp2_with (go_at_call 60; refine (add_zero _ _).mono ?_; rintro e w' ⟨rfl, ew⟩; rw [ew]; clear ew w')
        go_ret
        exact ⟨_, rfl, UW.out, World.ownsRow_nil _ _ _ _⟩
      · have HT := Lib.hid ht
        clear ht
        have AX := Lib.hid (add_one t D w.heap.size HT.out w4 UW.out.size (B4.out.cell 0) (frozen_of_row w4 D 0 _ _ B4.out))
        go_upto_region 16 with (go_at_call 60; refine AX.out.mono ?_; rintro e w5 ⟨rfl, v', hv', hr', hC'⟩)
        have HR := Lib.hid (And.intro hr' hC')
        clear hr' hC' y12
        go_wp2_with fail
        go_ret
        refine ⟨v', rfl, up_chg1 UW.out HR.out.2 ED.out, ?_⟩
        first
          | exact HR.out.1
          | (rw [if_neg HT.out]; exact HR.out.1)
          | (rw [if_neg HT.out, if_neg HT.out]; exact HR.out.1)
end Go.Proofs.YtmmfpkkkpeapeaaGreatDoor.ar

/- ref.Set: Has, Add: walked. -/
set_option linter.unusedVariables false
set_option linter.unusedSimpArgs false
namespace Go.Proofs.YtmmfpkkkpeapeaaGreatDoor.ar
open Go.RowKit Go.Maps mem rec
attribute [local go_sem ↓] Go.wp_at_zero Go.wp_at_succ
set_option maxRecDepth 100000
set_option maxHeartbeats 2000000
theorem KR : Maps.Keyed Tryz.prog 41 := Maps.int_keyed Tryz.underlying41
theorem keyR {r : Nat} (hr : r < 18446744073709551616) : keyOf Tryz.prog 41 (.int .u64 (r : Int)) = some (.int .u64 (r : Int)) := Maps.keyOf_int_mk Tryz.underlying41 (by
  show (decide (IntKind.u64.min ≤ (r : Int)) && decide ((r : Int) ≤ IntKind.u64.max)) = true
  simp [IntKind.min, IntKind.max, IntKind.signed, IntKind.bits]
  omega)
/-- What a set of names holds. -/
structure SetIs (D : DataW Nat) (S : List Nat) : Prop where
  td : Tidy D
  at_ : ∀ r : Nat, r < 18446744073709551616 → Maps.has D (.int .u64 (r : Int)) = decide (r ∈ S)
theorem SetIs.nil : SetIs (.map []) [] := ⟨⟨[], rfl, List.Pairwise.nil⟩, fun r _ => by simp; rfl⟩
theorem SetIs.put {D : DataW Nat} {S : List Nat} (h : SetIs D S) {r : Nat} (hr : r < 18446744073709551616) : SetIs (D.put (.int .u64 (r : Int)) (.agg [])) (r :: S) := by
  have hm : IsMap D := by obtain ⟨es, he, -⟩ := h.td; exact ⟨es, he⟩
  refine ⟨Tidy.put h.td (KR.key (keyR hr)) _, fun x hx => ?_⟩
  by_cases e : x = r
  · subst e
    rw [has_put_same hm (KR.key (keyR hr))]
    simp
  · have hne : (Lit.int .u64 (x : Int)) ≠ .int .u64 (r : Int) := by
      intro h
      injection h with _ h2
      omega
    rw [has_put_other hne, h.at_ x hx]
    simp [e]
theorem zeroU (w : World) : (zeroValue 139).run Tryz.prog w = .ok (.agg #[]) w := by kernel_rfl
theorem has_set (w : World) (b n r : Nat) (D : DataW Nat) (S : List Nat) (h : w.ownsMap Tryz.prog 41 unitElem b n D) (hS : SetIs D S) (hr : r < 18446744073709551616) :
    Calls Tryz.prog 44 #[.map (some b), .int .u64 (r : Int)] w fun e w' => e = .returned (.bool (decide (r ∈ S))) ∧ Up w w' := by
  have HH := Lib.hid (hS.at_ r hr)
  have HR := Lib.hid (keyR hr)
  have HO := Lib.hid h
  clear hS hr h
  go_enter Tryz.func44, Tryz.ntmps44
  go_wp2_with (at_lookup; refine wpList_lookup_own_unit _ rfl _ _ 128 rfl 41 139 KR Tryz.underlying128 (zeroU _) b n D rfl HO.out _ (.int .u64 (r : Int)) rfl HR.out ?_; rw [HH.out])
  go_ret
  exact ⟨rfl, (Up.refl w).alloc _⟩
theorem add_old (w : World) (b n r : Nat) (D : DataW Nat) (S : List Nat) (h : w.ownsMap Tryz.prog 41 unitElem b n D) (hS : SetIs D S) (hr : r < 18446744073709551616) (hin : r ∈ S) :
    Calls Tryz.prog 53 #[.map (some b), .int .u64 (r : Int)] w fun e w' => e = .returned (.bool false) ∧ Up w w' := by
  have HX := Lib.hid (has_set w b n r D S h hS hr)
  have hd : decide (r ∈ S) = true := decide_eq_true hin
  rw [hd] at HX
  clear hin hd hS hr h
  go_enter Tryz.func53, Tryz.ntmps53
  go_wp2_with (go_at_call 44; refine HX.out.mono ?_; rintro e w2 ⟨rfl, hU⟩)
  go_ret
  exact ⟨rfl, hU⟩
theorem add_new (w : World) (b n r : Nat) (D : DataW Nat) (S : List Nat) (h : w.ownsMap Tryz.prog 41 unitElem b n D) (hn : n < 1000000) (hS : SetIs D S) (hr : r < 18446744073709551616) (hin : r ∉ S) :
    Calls Tryz.prog 53 #[.map (some b), .int .u64 (r : Int)] w fun e w' => e = .returned (.bool true) ∧ ∃ D', w'.ownsMap Tryz.prog 41 unitElem b (n + 1) D' ∧ SetIs D' (r :: S) ∧ Chg [b] w w' := by
  have HX := Lib.hid (has_set w b n r D S h hS hr)
  have HR := Lib.hid (keyR hr)
  have HS := Lib.hid (And.intro hS hr)
  have HO := Lib.hid h
  have HN : Hid (n < maxLen) := by show n < maxLen; unfold maxLen; omega
  have hd : decide (r ∈ S) = false := decide_eq_false hin
  rw [hd] at HX
  clear hin hd hS hr h hn
  go_enter Tryz.func53, Tryz.ntmps53
  go_wp2_with (first
    | (go_at_call 44; refine HX.out.mono ?_; rintro e w2 ⟨rfl, hU⟩)
    | (at_mapUpdate; refine wpList_mapUpdate_own _ rfl _ _ _ 128 rfl 41 139 KR Tryz.underlying128 unitElem b n D rfl (map_chg HO.out hU.chg (by simp)) HN.out _ (.agg #[]) (.int .u64 (r : Int)) rfl rfl HR.out (.agg []) [] unitElem_mk ?_; intro w3 hown hgrow))
  go_ret
  exact ⟨rfl, _, hown, HS.out.1.put HS.out.2, (hU.chg.mono (by simp)).grown hgrow (fun k hk => .inl (by cases hk; simp))⟩
end Go.Proofs.YtmmfpkkkpeapeaaGreatDoor.ar

/- What is reached, on lists; slices of names; append to a slice of no room: plain. -/
set_option linter.unusedVariables false
set_option linter.unusedSimpArgs false
namespace Go.Proofs.YtmmfpkkkpeapeaaGreatDoor.ar
open Go.RowKit Go.Maps mem rec
set_option maxHeartbeats 400000
/-- Reached from roots, where hs tells what is named. -/
inductive Rea (A : Ar) (hs : Nat → List Nat) (roots : List Nat) : Nat → Prop
  | root {x : Nat} : x ∈ roots → A.find x ≠ none → Rea A hs roots x
  | step {x y : Nat} : Rea A hs roots x → y ∈ hs x → A.find y ≠ none → Rea A hs roots y
/-- Between two rounds of Reach. -/
structure Rs (A : Ar) (hs : Nat → List Nat) (roots todo S : List Nat) : Prop where
  nd : S.Nodup
  fd : ∀ x ∈ S, A.find x ≠ none
  re : ∀ x ∈ S, Rea A hs roots x
  rt : ∀ x ∈ todo, A.find x ≠ none → Rea A hs roots x
  cl : ∀ x ∈ S, ∀ y ∈ hs x, A.find y ≠ none → y ∈ S ∨ y ∈ todo
  ro : ∀ x ∈ roots, A.find x ≠ none → x ∈ S ∨ x ∈ todo
section
variable {A : Ar} {hs : Nat → List Nat} {roots todo S : List Nat} {x : Nat}
theorem Rs.start : Rs A hs roots roots [] := ⟨List.nodup_nil, by simp, by simp, fun x hx hf => .root hx hf, by simp, fun x hx _ => .inr hx⟩
theorem Rs.skip (h : Rs A hs roots (todo ++ [x]) S) (hx : A.find x = none ∨ x ∈ S) : Rs A hs roots todo S := by
  have key : ∀ y, A.find y ≠ none → (y ∈ S ∨ y ∈ todo ++ [x]) → y ∈ S ∨ y ∈ todo := by
    rintro y hy (h1 | h1)
    · exact .inl h1
    · rcases List.mem_append.1 h1 with h2 | h2
      · exact .inr h2
      · rw [List.mem_singleton.1 h2] at hy ⊢
        rcases hx with h3 | h3
        · exact absurd h3 hy
        · exact .inl h3
  exact ⟨h.nd, h.fd, h.re, fun y hy => h.rt y (List.mem_append_left _ hy), fun a ha y hy hf => key y hf (h.cl a ha y hy hf), fun y hy hf => key y hf (h.ro y hy hf)⟩
theorem Rs.more (h : Rs A hs roots (todo ++ [x]) S) (hx : A.find x ≠ none) (hS : x ∉ S) : Rs A hs roots (todo ++ hs x) (x :: S) := by
  have hr : Rea A hs roots x := h.rt x (by simp) hx
  have key : ∀ y, (y ∈ S ∨ y ∈ todo ++ [x]) → y ∈ x :: S ∨ y ∈ todo ++ hs x := by
    rintro y (h1 | h1)
    · exact .inl (List.mem_cons_of_mem _ h1)
    · rcases List.mem_append.1 h1 with h2 | h2
      · exact .inr (List.mem_append_left _ h2)
      · rw [List.mem_singleton.1 h2]; exact .inl (List.mem_cons_self ..)
  refine ⟨List.nodup_cons.2 ⟨hS, h.nd⟩, fun y hy => ?_, fun y hy => ?_, fun y hy hf => ?_, fun a ha y hy hf => ?_, fun y hy hf => key y (h.ro y hy hf)⟩
  · rcases List.mem_cons.1 hy with rfl | h1
    · exact hx
    · exact h.fd y h1
  · rcases List.mem_cons.1 hy with rfl | h1
    · exact hr
    · exact h.re y h1
  · rcases List.mem_append.1 hy with h1 | h1
    · exact h.rt y (List.mem_append_left _ h1) hf
    · exact .step hr h1 hf
  · rcases List.mem_cons.1 ha with rfl | h1
    · exact .inr (List.mem_append_right _ hy)
    · exact key y (h.cl a h1 y hy hf)
theorem Rs.done (h : Rs A hs roots [] S) (y : Nat) : y ∈ S ↔ Rea A hs roots y := by
  refine ⟨h.re y, fun hr => ?_⟩
  induction hr with
  | root h1 h2 => exact (h.ro _ h1 h2).resolve_right (by simp)
  | step h1 h2 h3 ih => exact (h.cl _ ih _ h2 h3).resolve_right (by simp)
end
/-- How many of a list aren't in S. -/
def unseen (L S : List Nat) : Nat := L.countP fun x => !decide (x ∈ S)
theorem unseen_nil (L : List Nat) : unseen L [] = L.length := by
  unfold unseen
  rw [List.countP_eq_length]
  intro x _
  simp
theorem unseen_lt {L S : List Nat} {x : Nat} (hx : x ∈ L) (hS : x ∉ S) : unseen L (x :: S) + 1 ≤ unseen L S := by
  unfold unseen
  induction L with
  | nil => simp at hx
  | cons a L ih =>
    rw [List.countP_cons, List.countP_cons]
    have mono : L.countP (fun y => !decide (y ∈ x :: S)) ≤ L.countP (fun y => !decide (y ∈ S)) := List.countP_mono_left (fun y _ hy => by simp at hy ⊢; exact hy.2)
    by_cases e : a = x
    · subst e
      have h1 : (!decide (a ∈ a :: S)) = false := by simp
      have h2 : (!decide (a ∈ S)) = true := by simpa using hS
      rw [h1, h2]
      simp only [Bool.false_eq_true, if_false, if_true]
      omega
    · have h1 := ih ((List.mem_cons.1 hx).resolve_left (fun h => e h.symm))
      have h2 : (!decide (a ∈ x :: S)) = (!decide (a ∈ S)) := by simp [e]
      rw [h2]
      omega
/-! ### slices of names -/
def RefsAt (w : World) (v : Value) (l : List Nat) : Prop :=
  ∃ (a : Option Addr) (c : Nat), v = .slice a l.length c ∧ l.length ≤ c ∧ c ≤ maxLen ∧ (l.length = 0 ∨ ∃ b off, a = some ⟨b, off, none⟩ ∧ b < w.heap.size ∧ ∀ (i x : Nat), l[i]? = some x → w.cell? ⟨b, off + i, none⟩ = some (.int .u64 (x : Int)))
theorem RefsAt.up {w w' : World} {v : Value} {l : List Nat} (h : RefsAt w v l) (u : Up w w') : RefsAt w' v l := by
  obtain ⟨a, c, e, h1, h2, h⟩ := h
  refine ⟨a, c, e, h1, h2, h.imp id ?_⟩
  rintro ⟨b, off, e1, e2, e3⟩
  exact ⟨b, off, e1, Nat.lt_of_lt_of_le e2 u.size, fun i x hx => up_cell1 u (e3 i x hx)⟩
theorem RefsAt.chg {F : List Nat} {w w' : World} {v : Value} {l : List Nat} (h : RefsAt w v l) (c : Chg F w w') (hz : ∀ b off n cp, v = .slice (some ⟨b, off, none⟩) n cp → b ∉ F) : RefsAt w' v l := by
  obtain ⟨a, cp, e, h1, h2, h⟩ := h
  refine ⟨a, cp, e, h1, h2, h.imp id ?_⟩
  rintro ⟨b, off, e1, e2, e3⟩
  have hb : b ∉ F := hz b off _ _ (by rw [e, e1])
  exact ⟨b, off, e1, Nat.lt_of_lt_of_le e2 c.size, fun i x hx => (c.cell e2 hb).trans (e3 i x hx)⟩
theorem refs_of_row {w : World} {base : Nat} {v : Value} {l : List Nat} (h : w.ownsRow base 41 1 v l.length (l.map (fun n : Nat => Value.int .u64 (n : Int)))) : RefsAt w v l := by
  obtain ⟨a, c, e, h1, h2, h3⟩ := shape h
  refine ⟨a, c, e, h1, h2, ?_⟩
  by_cases h0 : l.length = 0
  · exact .inl h0
  · refine .inr ?_
    rcases h3 with ⟨-, h4, -⟩ | ⟨g, rfl, hg⟩
    · exact absurd h4 h0
    · refine ⟨g, 0, rfl, hg, fun i x hx => ?_⟩
      have hi := (List.getElem?_eq_some_iff.1 hx).1
      rw [e] at h
      rw [Nat.zero_add, World.ownsRow.cellAt h i (by omega), List.getElem?_map, hx]
      rfl
theorem up_grown1 {w w' : World} (h : w.grownBy w' none) : Up w w' := by
  obtain ⟨a, b, c, d, e⟩ := h
  exact ⟨a, b, c, d, fun k hk => e k hk (by simp)⟩
/-- append of names to a slice that is full. -/
theorem refs_append (w : World) (ty : TypeId) (B : Nat) (tb off k : Nat) (l xs : List Nat) (vx : Value) (hl : l.length = k) (hc : ∀ (i x : Nat), l[i]? = some x → w.cell? ⟨tb, off + i, none⟩ = some (.int .u64 (x : Int))) (htb : tb < w.heap.size)
    (hx : w.ownsRow B 41 1 vx xs.length (xs.map (fun n : Nat => Value.int .u64 (n : Int)))) (hb : k + xs.length ≤ 1000000) :
    ∃ v' w', (Builtin.append_ #[35, 35] ty #[.slice (some ⟨tb, off, none⟩) k k, vx]).run Tryz.prog w = .ok v' w' ∧ RefsAt w' v' (l ++ xs) ∧ Up w w' := by
  obtain ⟨iR, hi, hz0, hz1, hz2⟩ := info_parts infoRef
  obtain ⟨a, c, rfl, h1, h2, h3⟩ := shape hx
  by_cases h0 : xs.length = 0
  · have hxs : xs = [] := List.length_eq_zero_iff.1 h0
    subst hxs
    have hsrc : Src Tryz.prog iR.size 35 (.slice a 0 c) 0 [] w := ⟨.inl ⟨_, Tryz.underlying35⟩, fun _ => by cases a <;> rfl, by rw [hz1]; cases a <;> first | rfl | simp [Builtin.firstCells], by rw [hz1]; cases a <;> first | rfl | simp [Builtin.firstCells], by simp, by simp⟩
    have hr := run_append_nothing (P := Tryz.prog) w 35 35 ty 41 iR Tryz.underlying35 hi (some ⟨tb, off, none⟩) k k (Nat.le_refl _) (.slice a 0 c) hsrc
    refine ⟨_, w, hr, ?_, Up.refl _⟩
    rw [List.append_nil]
    exact ⟨some ⟨tb, off, none⟩, k, by rw [hl], by omega, by unfold maxLen; omega, .inr ⟨tb, off, rfl, htb, hc⟩⟩
  · rcases h3 with ⟨-, h4, -⟩ | ⟨g, rfl, hg⟩
    · exact absurd h4 h0
    · have hadd : ∀ (b o j : Nat), (⟨b, o, none⟩ : Addr).add j = ⟨b, o + j, none⟩ := fun b o j => by unfold Addr.add; split <;> simp_all
      obtain ⟨v', w', hr, ho, hg2⟩ := run_append_arg_grows (P := Tryz.prog) w 35 ty 41 iR _ 1 8 Tryz.underlying35 hi hz0 hz1 hz2 rfl (by decide) ⟨tb, off, none⟩ k k (l.map (fun n : Nat => Value.int .u64 (n : Int))) (by simp [hl])
        (fun j u hu => by
          rw [List.getElem?_map] at hu
          obtain ⟨x, hx1, rfl⟩ := Option.map_eq_some_iff.1 hu
          rw [hadd]
          exact hc j x hx1)
        ⟨g, 0, none⟩ xs.length c (xs.map (fun n : Nat => Value.int .u64 (n : Int))) (by simp)
        (fun j u hu => by
          have hj := (List.getElem?_eq_some_iff.1 hu).1
          rw [hadd, Nat.zero_add]
          rw [World.ownsRow.cellAt hx j (by simpa using hj)]
          exact hu)
        (by omega) (by unfold maxLen; omega) (by omega)
      refine ⟨v', w', hr, refs_of_row (base := w.heap.size) ?_, up_grown1 hg2⟩
      rw [List.length_append, List.map_append, hl]
      exact ho
section
variable {P : Program} {ops : Array Oper} {rest : List Oper} {o : Oper} {a : Act} {w : World} {Q : Exit → Act → World → Prop}
/-- An append, whatever is known of its run. -/
theorem wpl_append (hgd : o.guard = none) (s x : Operand) (t : TypeId) (ho : o.op = .call { callee := .builtin .append, args := #[s, x], argTypes := #[t, t] }) (vs vx : Value) (hs : a.eval s = vs) (hx : a.eval x = vx) (Pv : Value → World → Prop)
    (hr : ∃ v' w', (Builtin.append_ #[t, t] o.type #[vs, vx]).run P w = .ok v' w' ∧ Pv v' w') (h : ∀ v' w', Pv v' w' → wpList P ops Q rest (a.put o.dst v') w') : wpList P ops Q (o :: rest) a w :=
  wpList_plain hgd fun _ hK => by
    obtain ⟨v', w', hr, hp⟩ := hr
    unfold Oper.wp execOp
    simp only [ho, resolve, invoke, builtin, Sem.run_bind, Sem.run_pure, Result.andThen_ok, List.map_toArray, List.map_cons, List.map_nil, hs, hx, hr]
    exact hK _ _ (h v' w' hp)
end
theorem map_nocell {H : Type} {P : Program} {k : TypeId} {R : Value → Option (DataW H × List MemPlace)} {b n : Nat} {D : DataW H} {w : World} (h : w.ownsMap P k R b n D) {b' off : Nat} {v : Value} (hc : w.cell? ⟨b', off, none⟩ = some v) : b' ≠ b := by
  rintro rfl
  obtain ⟨es, cl, e, -⟩ := h
  simp [World.cell?, e] at hc
end Go.Proofs.YtmmfpkkkpeapeaaGreatDoor.ar

/- sweep.Reach: walked. -/
set_option linter.unusedVariables false
set_option linter.unusedSimpArgs false
namespace Go.Proofs.YtmmfpkkkpeapeaaGreatDoor.ar
open Go.RowKit Go.Maps mem rec
attribute [local go_sem ↓] Go.wp_at_zero Go.wp_at_succ
set_option maxRecDepth 100000
set_option maxHeartbeats 2000000
/-- What Get, Holds and dead answer in whatever world that has grown; ns: the names that an object holds; dd: is its membrane dead. -/
structure Sees (w : World) (p : Nat) (A : Ar) (lv : Value) (ns : Nat → List Nat) (dd : Nat → Bool) : Prop where
  yes : ∀ r o, A.find r = some o → ∃ g off, (∀ wx, Up w wx → Calls Tryz.prog 14 #[.pointer (some ⟨p, 0, none⟩), .int .u64 r] wx fun e w' => e = .returned (.pointer (some ⟨g, off, none⟩)) ∧ Up wx w') ∧
    (∀ wx, Up w wx → wx.cell? ⟨g, off, none⟩ = some (.int .u8 o.kind) ∧ wx.cell? ⟨g, off + 11, none⟩ = some (.int .i64 o.membrane)) ∧
    (∀ wx, Up w wx → Calls Tryz.prog 54 #[.pointer (some ⟨g, off, none⟩)] wx fun e w' => ∃ v', e = .returned v' ∧ Up wx w' ∧ w'.ownsRow wx.heap.size 41 1 v' (ns r).length ((ns r).map (fun n : Nat => Value.int .u64 (n : Int)))) ∧
    (o.kind = 6 → ∀ wx, Up w wx → Calls Tryz.prog 36 #[lv, .int .i64 o.membrane] wx fun e w' => e = .returned (.bool (dd r)) ∧ Up wx w')
  no : ∀ r : Nat, r < 9223372036854775808 → A.find r = none → ∀ wx, Up w wx → Calls Tryz.prog 14 #[.pointer (some ⟨p, 0, none⟩), .int .u64 r] wx fun e w' => e = .returned (.pointer none) ∧ Up wx w'
theorem Sees.up {w w1 : World} {p : Nat} {A : Ar} {lv : Value} {ns : Nat → List Nat} {dd : Nat → Bool} (h : Sees w p A lv ns dd) (u : Up w w1) : Sees w1 p A lv ns dd :=
  ⟨fun r o hf => by
    obtain ⟨g, off, h1, h2, h3, h4⟩ := h.yes r o hf
    exact ⟨g, off, fun wx ux => h1 wx (u.trans ux), fun wx ux => h2 wx (u.trans ux), fun wx ux => h3 wx (u.trans ux), fun k wx ux => h4 k wx (u.trans ux)⟩, fun r hr hf wx ux => h.no r hr hf wx (u.trans ux)⟩
/-- What is named, but by a proxy of a dead membrane. -/
def hsOf (A : Ar) (ns : Nat → List Nat) (dd : Nat → Bool) (r : Nat) : List Nat :=
  match A.find r with
  | some o => if o.kind = 6 ∧ dd r = true then [] else ns r
  | none => []
theorem reach_x (w : World) (p : Nat) (A : Ar) (lv vr : Value) (ns : Nat → List Nat) (dd : Nat → Bool) (roots : List Nat) (M N : Nat) (hS : Sees w p A lv ns dd) (hr : RefsAt w vr roots) (hb : ∀ r ∈ roots, r < 9223372036854775808) (hnb : ∀ r, ∀ y ∈ ns r, y < 9223372036854775808)
    (hM : ∀ r, (ns r).length ≤ M) (hN : (refsOf A.slots).length ≤ N) (hmem : ∀ r o, A.find r = some o → r ∈ refsOf A.slots) (hbig : roots.length + M * N ≤ 500000 ∧ N ≤ 500000) :
    Calls Tryz.prog 43 #[.pointer (some ⟨p, 0, none⟩), vr, .func (.func 36) #[lv] #[]] w fun e w' => ∃ b D S, e = .returned (.map (some b)) ∧ w.heap.size ≤ b ∧ w'.ownsMap Tryz.prog 41 unitElem b S.length D ∧ SetIs D S ∧ S.Nodup ∧ (∀ x, x ∈ S ↔ Rea A (hsOf A ns dd) roots x) ∧ Up w w' := by
  have hmm := @run_makeMap Tryz.prog
  have HS := Lib.hid hS
  have HR := Lib.hid (And.intro hr (And.intro hb hnb))
  have HM := Lib.hid (And.intro hM (And.intro hN (And.intro hmem hbig)))
  clear hS hr hb hnb hM hN hmem hbig
  go_enter Tryz.func43, Tryz.ntmps43
  go_wp2_with fail
  clear hmm
  have BM := World.ownsMap_made (H := Nat) w Tryz.prog 41 unitElem
  have U1 : Up w (w.alloc (.map #[] 0)) := (Up.refl w).alloc _
  have hb0 : w.heap.size < (w.alloc (.map #[] 0)).heap.size := by simp
  generalize hw1 : w.alloc (.map #[] 0) = w1 at BM U1 hb0 ⊢
  clear hw1
  obtain ⟨b, hb⟩ : ∃ b, b = w.heap.size := ⟨_, rfl⟩
  rw [← hb] at BM hb0 ⊢
  have HB := Lib.hid (And.intro hb (And.intro BM (And.intro U1 hb0)))
  clear hb BM U1 hb0
  go_loopg [8] ((M + 1) * unseen (refsOf A.slots) [] + roots.length) (fun k tv wr => ∃ (todo S : List Nat) (D : DataW Nat), k = (M + 1) * unseen (refsOf A.slots) S + todo.length ∧ RefsAt wr tv todo ∧ wr.ownsMap Tryz.prog 41 unitElem b S.length D ∧ SetIs D S ∧ Rs A (hsOf A ns dd) roots todo S ∧ S.length + unseen (refsOf A.slots) S ≤ N ∧ (∀ x ∈ todo, x < 9223372036854775808) ∧ todo.length + M * unseen (refsOf A.slots) S ≤ 500000 ∧ Chg [b] w1 wr)
  case atStart =>
    refine ⟨roots, [], .map [], rfl, HR.out.1.up HB.out.2.2.1, HB.out.2.1, SetIs.nil, Rs.start, ?_, HR.out.2.1, ?_, Chg.refl _ _⟩
    · rw [unseen_nil]; have := HM.out.2.1; simp; omega
    · rw [unseen_nil]
      have h1 := HM.out.2.1
      have h2 := HM.out.2.2.2.1
      have h3 : M * (refsOf A.slots).length ≤ M * N := Nat.mul_le_mul_left _ h1
      omega
  case round =>
    obtain ⟨todo, S, D, hk, hT, hO, hSet, hRs, hSN, hTb, hbig, hC⟩ := hrel
    have hUw : Up w wr := Below.trans HB.out.2.2.1 (hC.below HB.out.2.2.1.size (fun x hx => by rw [List.mem_singleton.1 hx, HB.out.1]; exact Nat.le_refl _))
    have HH := Lib.hid (And.intro hk (And.intro hO (And.intro hSet (And.intro hRs (And.intro hSN (And.intro hTb (And.intro hbig (And.intro hC hUw))))))))
    clear hk hO hSet hRs hSN hTb hbig hC hUw
    rcases List.eq_nil_or_concat todo with rfl | ⟨l, x, rfl⟩
    · obtain ⟨a, c, rfl, -, -, -⟩ := hT
      go_wp2_with fail
      go_ret
      exact ⟨b, D, S, rfl, by rw [HB.out.1]; exact Nat.le_refl _, HH.out.2.1, HH.out.2.2.1, HH.out.2.2.2.1.nd, HH.out.2.2.2.1.done, HH.out.2.2.2.2.2.2.2.2⟩
    · rw [List.concat_eq_append] at hT HH
      obtain ⟨a, c, hav, hcl, hcm, hcells⟩ := hT
      have hlen : (l ++ [x]).length = l.length + 1 := by simp
      rw [hlen] at hav hcl hcells
      obtain ⟨tb, off, rfl, htb, hcx⟩ := hcells.resolve_left (by omega)
      subst hav
      have cx : wr.cell? ⟨tb, off + l.length, none⟩ = some (.int .u64 (x : Int)) := hcx l.length x (by simp)
      have HL : Hid (∀ (i y : Nat), l[i]? = some y → wr.cell? ⟨tb, off + i, none⟩ = some (.int .u64 (y : Int))) := fun i y hy => hcx i y (by rw [List.getElem?_append_left (List.getElem?_eq_some_iff.1 hy).1]; exact hy)
      have HTB := Lib.hid htb
      have hx63 : x < 9223372036854775808 := HH.out.2.2.2.2.2.1 x (by simp)
      have hll : l.length + 1 ≤ 500000 := by have := HH.out.2.2.2.2.2.2.1; rw [hlen] at this; omega
      clear hcells hcx hlen htb
      generalize hn : l.length = n at *
      have HN := Lib.hid hn
      clear hn
      have i1 : IntKind.i64.wrap ((n : Int) + 1) = (n : Int) + 1 := by rw [IntKind.wrap_i64] <;> omega
      have i2 : IntKind.i64.wrap ((n : Int) + 1 - 1) = (n : Int) := by rw [IntKind.wrap_i64] <;> omega
      have i3 : (n : Int) + 1 - 1 = (n : Int) := by omega
      have i4 : ((n + 1 : Nat) : Int) = (n : Int) + 1 := by omega
      have i5 : (0 : Int) < (n : Int) + 1 := by omega
      have i6 : (n : Int) < (n : Int) + 1 := by omega
      have i7 : (n : Int) ≤ (c : Int) := by omega
      have i8 : IntKind.i64.wrap (n : Int) = (n : Int) := by rw [IntKind.wrap_i64] <;> omega
      go_upto_region 6 with (fail)
      clear i1 i2 i3 i4 i5 i6 i7 i8 cx hcl
      have HUw : Hid (Up w wr) := HH.out.2.2.2.2.2.2.2.2
      have HTL : Hid (∀ wx, Chg [b] wr wx → RefsAt wx (.slice (some ⟨tb, off, none⟩) n n) l) := fun wx cw => by
        refine ⟨some ⟨tb, off, none⟩, n, by rw [HN.out], by rw [HN.out]; exact Nat.le_refl _, by unfold maxLen; omega, ?_⟩
        by_cases h0 : l.length = 0
        · exact .inl h0
        · refine .inr ⟨tb, off, rfl, Nat.lt_of_lt_of_le HTB.out cw.size, fun i y hy => ?_⟩
          have hc := HL.out i y hy
          have hne : tb ≠ b := map_nocell HH.out.2.1 hc
          exact (cw.cell HTB.out (by simpa using hne)).trans hc
      have HX := Lib.hid hx63
      have HLL := Lib.hid hll
      clear hx63 hll
      cases hf : A.find x with
      | none =>
        have NX := Lib.hid (HS.out.no x HX.out hf wr HUw.out)
        have HF := Lib.hid hf
        clear hf
        go_wp2_with (go_at_call 14; refine NX.out.mono ?_; rintro e w2 ⟨rfl, hU2⟩)
        go_roundg ((M + 1) * unseen (refsOf A.slots) S + l.length)
        case measure => have := HH.out.1; simp at this; omega
        case rel => exact ⟨l, S, D, rfl, HTL.out _ (hU2.chg.mono (by simp)), map_chg HH.out.2.1 hU2.chg (by simp), HH.out.2.2.1, HH.out.2.2.2.1.skip (.inl HF.out), HH.out.2.2.2.2.1, fun y hy => HH.out.2.2.2.2.2.1 y (List.mem_append_left _ hy), by have := HH.out.2.2.2.2.2.2.1; simp at this; omega, HH.out.2.2.2.2.2.2.2.1.trans0 hU2.chg⟩
      | some o =>
        obtain ⟨g, og, h1, h2, h3, h4⟩ := HS.out.yes x o hf
        have HF := Lib.hid hf
        have GX := Lib.hid (h1 wr HUw.out)
        have HG := Lib.hid (And.intro h2 (And.intro h3 h4))
        clear hf h1 h2 h3 h4
        go_upto_region 7 with (go_at_call 14; refine GX.out.mono ?_; rintro e w2 ⟨rfl, hU2⟩)
        have U2 := Lib.hid hU2
        clear hU2 GX
        have HO2 : Hid (w2.ownsMap Tryz.prog 41 unitElem b S.length D) := map_chg HH.out.2.1 U2.out.chg (by simp)
        by_cases hxS : x ∈ S
        · have AX := Lib.hid (add_old w2 b S.length x D S HO2.out HH.out.2.2.1 (by have := HX.out; omega) hxS)
          have HXS := Lib.hid hxS
          clear hxS
          go_wp2_with (go_at_call 53; refine AX.out.mono ?_; rintro e w3 ⟨rfl, hU3⟩)
          go_roundg ((M + 1) * unseen (refsOf A.slots) S + l.length)
          case measure => have := HH.out.1; simp at this; omega
          case rel => exact ⟨l, S, D, rfl, HTL.out _ ((U2.out.trans hU3).chg.mono (by simp)), map_chg HO2.out hU3.chg (by simp), HH.out.2.2.1, HH.out.2.2.2.1.skip (.inr HXS.out), HH.out.2.2.2.2.1, fun y hy => HH.out.2.2.2.2.2.1 y (List.mem_append_left _ hy), by have := HH.out.2.2.2.2.2.2.1; simp at this; omega, HH.out.2.2.2.2.2.2.2.1.trans0 (U2.out.trans hU3).chg⟩
        · have AX := Lib.hid (add_new w2 b S.length x D S HO2.out (by have := HH.out.2.2.2.2.1; have := HM.out.2.2.2.2; omega) HH.out.2.2.1 (by have := HX.out; omega) hxS)
          have HXS := Lib.hid hxS
          clear hxS
          have HFO : Hid (A.find x = some o) := HF.out
          have hmem := HM.out.2.2.1 x o HF.out
          have hlt := Lib.hid (unseen_lt hmem HXS.out)
          have hfx : Hid (A.find x ≠ none) := by show A.find x ≠ none; rw [HF.out]; simp
          clear hmem
          have HCU : Hid (∀ wx, Chg [b] w2 wx → Up w wx) := fun wx cw => Below.trans (HUw.out.trans U2.out) (cw.below (HUw.out.trans U2.out).size (fun y hy => by rw [List.mem_singleton.1 hy, HB.out.1]; exact Nat.le_refl _))
          go_cut [55] from 33 to 54 (fun c wx => (∃ D3, wx.ownsMap Tryz.prog 41 unitElem b (S.length + 1) D3 ∧ SetIs D3 (x :: S) ∧ Chg [b] w2 wx) ∧ c = .bool (decide (o.kind = 6) && dd x))
          case first =>
            by_cases hk6 : o.kind = 6
            · have DX := Lib.hid (HG.out.2.2 hk6)
              have HE : Hid ((decide (o.kind = 6) && dd x) = dd x) := by show (decide (o.kind = 6) && dd x) = dd x; rw [decide_eq_true hk6]; simp
              have HK := Lib.hid hk6
              clear hk6
              go_wp2_with (first
                | (go_at_call 53; refine AX.out.mono ?_; rintro e w3 ⟨rfl, D3, hO3, hS3, hC3⟩; obtain ⟨k1, k2⟩ := HG.out.1 w3 (HCU.out _ hC3); rw [HK.out] at k1)
                | (go_at_call 36; refine (DX.out _ (HCU.out _ hC3)).mono ?_; rintro e w4 ⟨rfl, hU4⟩))
              go_meet
              exact ⟨⟨D3, map_chg hO3 hU4.chg (by simp), hS3, hC3.trans0 hU4.chg⟩, by rw [HE.out]⟩
            · have HE : Hid ((decide (o.kind = 6) && dd x) = false) := by show (decide (o.kind = 6) && dd x) = false; rw [decide_eq_false hk6]; simp
              have z1 : (o.kind == 6) = false := beq_eq_false_iff_ne.2 hk6
              have z2 : decide (o.kind = 6) = false := decide_eq_false hk6
              clear hk6
              go_wp2_with (go_at_call 53; refine AX.out.mono ?_; rintro e w3 ⟨rfl, D3, hO3, hS3, hC3⟩; obtain ⟨k1, k2⟩ := HG.out.1 w3 (HCU.out _ hC3))
              go_meet
              exact ⟨⟨D3, hO3, hS3, hC3⟩, by rw [HE.out]⟩
          case rest =>
            obtain ⟨⟨D3, hO3, hS3, hC3⟩, rfl⟩ := hcut
            have H3 := Lib.hid (And.intro hO3 (And.intro hS3 hC3))
            obtain ⟨w3, e3⟩ : ∃ y, y = wc := ⟨_, rfl⟩
            subst e3
            clear hO3 hS3 hC3 AX
            have HM1 : Hid ((M + 1) * unseen (refsOf A.slots) (x :: S) + M + 1 ≤ (M + 1) * unseen (refsOf A.slots) S ∧ M * unseen (refsOf A.slots) (x :: S) + M ≤ M * unseen (refsOf A.slots) S) := by
              have h1 : (M + 1) * (unseen (refsOf A.slots) (x :: S) + 1) ≤ (M + 1) * unseen (refsOf A.slots) S := Nat.mul_le_mul_left _ hlt.out
              have h2 : M * (unseen (refsOf A.slots) (x :: S) + 1) ≤ M * unseen (refsOf A.slots) S := Nat.mul_le_mul_left _ hlt.out
              rw [Nat.mul_add] at h1 h2
              exact ⟨by omega, by omega⟩
            have hmore := Lib.hid (HH.out.2.2.2.1.more hfx.out HXS.out)
            have HCW := Lib.hid (HH.out.2.2.2.2.2.2.2.1.trans0 U2.out.chg)
            cases hde : (decide (o.kind = 6) && dd x) with
            | true =>
              have hhs : hsOf A ns dd x = [] := by
                unfold hsOf
                rw [HF.out]
                simp only [Bool.and_eq_true, decide_eq_true_eq] at hde
                exact if_pos hde
              rw [hhs, List.append_nil] at hmore
              clear hhs hde
              go_wp2_with fail
              go_roundg ((M + 1) * unseen (refsOf A.slots) (x :: S) + l.length)
              case measure => have := HH.out.1; have := HM1.out; simp at *; omega
              case rel => exact ⟨l, x :: S, D3, rfl, HTL.out _ ((U2.out.chg.mono (by simp)).trans H3.out.2.2 (fun y hy => .inl hy)), H3.out.1, H3.out.2.1, hmore.out, by have := HH.out.2.2.2.2.1; have := hlt.out; simp; omega, fun y hy => HH.out.2.2.2.2.2.1 y (List.mem_append_left _ hy), by have := HH.out.2.2.2.2.2.2.1; have := HM1.out; simp at *; omega, HCW.out.trans H3.out.2.2 (fun y hy => .inl hy)⟩
            | false =>
              have hhs : hsOf A ns dd x = ns x := by
                unfold hsOf
                rw [HF.out]
                refine if_neg (fun h => ?_)
                rw [decide_eq_true h.1, h.2] at hde
                cases hde
              rw [hhs] at hmore
              clear hhs hde
              have OX := Lib.hid (HG.out.2.1 w3 (HCU.out _ H3.out.2.2))
              go_wp2_with (first
                | (go_at_call 54; refine OX.out.mono ?_; rintro e w5 ⟨v5, rfl, hU5, hrow5⟩)
                | (at_builtin; refine wpl_append rfl (.tmp 56) (.tmp 58) 35 rfl _ _ rfl rfl (fun v' w' => RefsAt w' v' (l ++ ns x) ∧ Up w5 w') ?hr ?_; (case hr => exact refs_append w5 _ _ tb off n l (ns x) v5 HN.out (fun i y hy => ((((U2.out.chg.mono (by simp)).trans H3.out.2.2 (fun y hy => .inl hy)).trans0 hU5.chg).cell HTB.out (by simpa using map_nocell HH.out.2.1 (HL.out i y hy))).trans (HL.out i y hy)) (Nat.lt_of_lt_of_le HTB.out (((U2.out.chg.mono (by simp)).trans H3.out.2.2 (fun y hy => .inl hy)).trans0 hU5.chg).size) hrow5 (by have := HM.out.1 x; have := HM1.out; have := HH.out.2.2.2.2.2.2.1; have := HN.out; simp at *; omega)); intro v6 w6 hv6; obtain ⟨hv6, hU6⟩ := hv6))
              go_roundg ((M + 1) * unseen (refsOf A.slots) (x :: S) + (l ++ ns x).length)
              case measure => have := HH.out.1; have := HM1.out; have := HM.out.1 x; simp at *; omega
              case rel => exact ⟨l ++ ns x, x :: S, D3, rfl, hv6, map_chg H3.out.1 (hU5.trans hU6).chg (by simp), H3.out.2.1, hmore.out, by have := HH.out.2.2.2.2.1; have := hlt.out; simp; omega, fun y hy => by rcases List.mem_append.1 hy with h | h; exact HH.out.2.2.2.2.2.1 y (List.mem_append_left _ h); exact HR.out.2.2 x y h, by have := HH.out.2.2.2.2.2.2.1; have := HM1.out; have := HM.out.1 x; simp at *; omega, (HCW.out.trans H3.out.2.2 (fun y hy => .inl hy)).trans0 (hU5.trans hU6).chg⟩
end Go.Proofs.YtmmfpkkkpeapeaaGreatDoor.ar

/- What Drop leaves; many dropped: plain. -/
set_option linter.unusedVariables false
set_option linter.unusedSimpArgs false
namespace Go.Proofs.YtmmfpkkkpeapeaaGreatDoor.ar
open Go.RowKit Go.Maps mem rec
set_option maxHeartbeats 400000
section
variable {A A' : Ar} {r x k t : Nat} {o : Ob}
theorem drop_slots (hf : A.find r = some o) : ∃ s, A.slots[r % 4294967296]? = some s ∧ s.used = true ∧ s.uses = r / 4294967296 ∧ s.o = o ∧
    A.drop r = { slots := A.slots.set (r % 4294967296) ⟨s.uses, false, ob0⟩, free := A.free ++ [r % 4294967296], quotas := A.quotas, many := A.many.set o.owner.toNat (A.many.getD o.owner.toNat 0 - 1) } := by
  unfold Ar.find at hf
  split at hf
  · rename_i s hs
    split at hf
    · rename_i hu
      cases hf
      refine ⟨s, hs, hu.1, hu.2, rfl, ?_⟩
      unfold Ar.drop
      rw [hs]
    · cases hf
  · cases hf
theorem drop_find (hf : A.find r = some o) : (A.drop r).find x = if x = r then none else A.find x := by
  obtain ⟨s, hs, hu, hus, -, e⟩ := drop_slots hf
  have hl := (List.getElem?_eq_some_iff.1 hs).1
  rw [e]
  unfold Ar.find
  simp only
  by_cases e1 : x % 4294967296 = r % 4294967296
  · rw [e1, List.getElem?_set_self hl]
    by_cases e2 : x = r
    · rw [if_pos e2]
      simp
    · rw [if_neg e2, hs]
      simp only [Bool.false_eq_true, false_and, if_false]
      rw [if_neg]
      rintro ⟨-, h⟩
      omega
  · rw [List.getElem?_set_ne (fun h => e1 h.symm), if_neg (fun h => e1 (by rw [h]))]
theorem drop_room (hR : Room A (k + 1)) (hf : A.find r = some o) : Room (A.drop r) k := by
  obtain ⟨s, hs, hu, hus, -, e⟩ := drop_slots hf
  have hl := (List.getElem?_eq_some_iff.1 hs).1
  have hsl := hR.sl
  have hfl := hR.fl
  rw [e]
  refine ⟨?_, fun y hy => ?_, fun n hn => ?_, ?_, ?_⟩
  · show (A.slots.set _ _).length + k < _
    rw [List.length_set]; omega
  · have hy' : y ∈ A.slots.set (r % 4294967296) ⟨s.uses, false, ob0⟩ := hy
    rcases List.mem_or_eq_of_mem_set hy' with h1 | h1
    · have := hR.us y h1; omega
    · subst h1
      have := hR.us s (List.mem_of_getElem? hs)
      show s.uses + k < _
      omega
  · have hn' : n ∈ A.free ++ [r % 4294967296] := hn
    show ∃ s', (A.slots.set _ _)[n]? = some s' ∧ _
    rcases List.mem_append.1 hn' with h1 | h1
    · obtain ⟨s', hs', hu'⟩ := hR.fr n h1
      by_cases e2 : n = r % 4294967296
      · rw [e2, List.getElem?_set_self hl]
        exact ⟨_, rfl, rfl⟩
      · rw [List.getElem?_set_ne (fun h => e2 h.symm)]
        exact ⟨s', hs', hu'⟩
    · rw [List.mem_singleton.1 h1, List.getElem?_set_self hl]
      exact ⟨_, rfl, rfl⟩
  · show (A.free ++ [r % 4294967296]).Nodup
    refine List.nodup_append.2 ⟨hR.nd, by simp, fun a ha b hb => ?_⟩
    rw [List.mem_singleton.1 hb]
    rintro rfl
    obtain ⟨s', hs', hu'⟩ := hR.fr _ ha
    rw [hs] at hs'
    cases hs'
    rw [hu] at hu'
    cases hu'
  · show (A.free ++ [r % 4294967296]).length + k < _
    rw [List.length_append, List.length_singleton]; omega
/-- Some are gone; t drops at most. -/
structure Dn (A A' : Ar) (gone : List Nat) (k t : Nat) : Prop where
  fi : ∀ x, A'.find x = if x ∈ gone then none else A.find x
  rm : Room A' (k - t)
  my : ∀ (n : Nat) (m : Int), A.many[n]? = some m → ∃ m', A'.many[n]? = some m' ∧ m - t ≤ m' ∧ m' ≤ m
  qu : A'.quotas = A.quotas
theorem Dn.start (hR : Room A k) : Dn A A [] k 0 := ⟨fun x => by simp, by simpa using hR, fun n m h => ⟨m, h, by omega, by omega⟩, rfl⟩
theorem Room.less {j : Nat} (h : Room A k) (hj : j ≤ k) : Room A j := ⟨by have := h.sl; omega, fun s hs => by have := h.us s hs; omega, h.fr, h.nd, by have := h.fl; omega⟩
theorem Dn.wait {gone : List Nat} (h : Dn A A' gone k t) : Dn A A' gone k (t + 1) := ⟨h.fi, h.rm.less (by omega), fun n m hm => by
    obtain ⟨m', h1, h2, h3⟩ := h.my n m hm
    exact ⟨m', h1, by omega, h3⟩, h.qu⟩
theorem Dn.waits {gone : List Nat} {u : Nat} (h : Dn A A' gone k t) (hu : t ≤ u) : Dn A A' gone k u := ⟨h.fi, h.rm.less (by omega), fun n m hm => by
    obtain ⟨m', h1, h2, h3⟩ := h.my n m hm
    exact ⟨m', h1, by omega, h3⟩, h.qu⟩
theorem Rea.found {hs : Nat → List Nat} {roots : List Nat} {y : Nat} (h : Rea A hs roots y) : A.find y ≠ none := by
  cases h with
  | root _ h2 => exact h2
  | step _ _ h3 => exact h3
theorem Dn.step {gone : List Nat} (h : Dn A A' gone k t) (ht : t < k) (hf : A.find r = some o) (hg : r ∉ gone) : Dn A (A'.drop r) (gone ++ [r]) k (t + 1) := by
  have hf' : A'.find r = some o := by rw [h.fi, if_neg hg]; exact hf
  obtain ⟨s, hs, hu, hus, -, e⟩ := drop_slots hf'
  refine ⟨fun x => ?_, ?_, fun n m hm => ?_, by rw [e]; exact h.qu⟩
  · rw [drop_find hf', h.fi]
    by_cases e1 : x = r
    · rw [if_pos e1, if_pos (by rw [e1]; simp)]
    · rw [if_neg e1]
      by_cases e2 : x ∈ gone
      · rw [if_pos e2, if_pos (List.mem_append_left _ e2)]
      · rw [if_neg e2, if_neg (by simp [e1, e2])]
  · have h1 : Room A' (k - (t + 1) + 1) := by rw [show k - (t + 1) + 1 = k - t by omega]; exact h.rm
    exact drop_room h1 hf'
  · obtain ⟨m', h1, h2, h3⟩ := h.my n m hm
    rw [e]
    show ∃ m', (A'.many.set _ _)[n]? = some m' ∧ _
    by_cases e1 : o.owner.toNat = n
    · rw [e1, List.getElem?_set_self (List.getElem?_eq_some_iff.1 h1).1, List.getD_eq_getElem?_getD, h1]
      exact ⟨m' - 1, rfl, by omega, by omega⟩
    · rw [List.getElem?_set_ne e1]
      exact ⟨m', h1, by omega, h3⟩
end
end Go.Proofs.YtmmfpkkkpeapeaaGreatDoor.ar

/- sweep.Collect where no entry of the cache goes: walked. -/
set_option linter.unusedVariables false
set_option linter.unusedSimpArgs false
namespace Go.Proofs.YtmmfpkkkpeapeaaGreatDoor.ar
open Go.RowKit Go.Maps mem rec mb
attribute [local go_sem ↓] Go.wp_at_zero Go.wp_at_succ
set_option maxRecDepth 100000
set_option maxHeartbeats 2000000
/-- In the midst of Collect's first loop. -/
structure Cl (w wx : World) (p : Nat) (v v' : Nat → Value) (A A' : Ar) (gone : List Nat) (k t : Nat) : Prop where
  pt : Parts wx p v' A'
  cg : Chg (foot p v) w wx
  sb : ∀ b ∈ foot p v', b ∈ foot p v ∨ w.heap.size ≤ b
  dn : Dn A A' gone k t
theorem Cl.up {w wx wy : World} {p : Nat} {v v' : Nat → Value} {A A' : Ar} {gone : List Nat} {k t : Nat} (h : Cl w wx p v v' A A' gone k t) (u : Up wx wy) : Cl w wy p v v' A A' gone k t :=
  ⟨h.pt.up u, h.cg.trans0 u.chg, h.sb, h.dn⟩
theorem up_grown2 {w w' : World} (h : Up w w') : w.grownBy w' none := ⟨h.os, h.tape, h.output, h.size, fun k hk _ => h.block k hk⟩
theorem take_filter (L S : List Nat) (t r : Nat) (hr : L[t]? = some r) : (L.take (t + 1)).filter (fun x => !decide (x ∈ S)) = (L.take t).filter (fun x => !decide (x ∈ S)) ++ (if r ∈ S then [] else [r]) := by
  rw [List.take_add_one, hr]
  show ((L.take t) ++ [r]).filter _ = _
  rw [List.filter_append]
  congr 1
  by_cases h : r ∈ S
  · simp [h]
  · simp [h]
theorem ent_inv {key : Value} {l : Lit} (h : keyOf Tryz.prog 113 key = some l) : ∃ p : Int × Nat, key = .agg #[.int .i64 p.1, .int .u64 (p.2 : Int)] ∧ p.2 < 18446744073709551616 := by
  unfold keyOf at h
  rw [Tryz.underlying113] at h
  simp only [Program.keyType, deepE, Bool.true_and] at h
  by_cases hf : key.formed Tryz.prog 113 = true
  case neg => simp [hf] at h
  rw [if_pos hf] at h
  cases key <;> (try (simp [Value.formed, Tryz.underlying113] at hf; done))
  case agg cs =>
    have hc : cs.size = 2 := by simpa [Value.formed, Tryz.underlying113, cellsE] using hf
    obtain ⟨a, b, rfl⟩ : ∃ a b, cs = #[a, b] := by
      refine ⟨cs[0], cs[1], ?_⟩
      apply Array.ext
      · simpa using hc
      · intro i h1 h2
        have : i = 0 ∨ i = 1 := by omega
        rcases this with rfl | rfl <;> rfl
    obtain ⟨ls, hl, -⟩ := Option.map_eq_some_iff.1 h
    rw [show (Value.agg #[a, b]).cells.toList = [a, b] from rfl] at hl
    obtain ⟨d, hd⟩ : ∃ d, Tryz.prog.types.size + 1 = d + 1 + 1 := ⟨_, sizeP⟩
    have c2 : Tryz.prog.cellsOf 3 = 1 := by kernel_rfl
    have c9 : Tryz.prog.cellsOf 41 = 1 := by kernel_rfl
    have inv : ∀ (x : Value) (l : List Lit), Tryz.prog.keyLits (d + 1) 3 [x] = some l → ∃ n, x = .int .i64 n := by
      intro x l h
      rw [Program.keyLits.eq_def] at h
      cases x <;> simp [Tryz.underlying3] at h
      exact ⟨_, by rw [h.1.1]⟩
    have inv2 : ∀ (x : Value) (l : List Lit), Tryz.prog.keyLits (d + 1) 41 [x] = some l → ∃ n, x = .int .u64 n ∧ (Lit.int .u64 n).wf = true := by
      intro x l h
      rw [Program.keyLits.eq_def] at h
      cases x <;> simp [Tryz.underlying41] at h
      obtain ⟨⟨h1, h2⟩, -⟩ := h
      subst h1
      exact ⟨_, rfl, h2⟩
    rw [hd, Program.keyLits.eq_def] at hl
    have hlen : ([a, b] : List Value).length = Tryz.prog.cellsOf 113 := by rw [cellsE]; rfl
    simp only [Tryz.underlying113] at hl
    rw [if_pos ⟨hlen, by simp⟩] at hl
    simp only [c2, c9, List.mapM_cons, List.mapM_nil, List.drop_zero, List.take_succ_cons, List.take_zero, List.drop_succ_cons] at hl
    cases ha : Tryz.prog.keyLits (d + 1) 3 [a] with
    | none => simp [ha] at hl
    | some la =>
      cases hb : Tryz.prog.keyLits (d + 1) 41 [b] with
      | none => simp [ha, hb] at hl
      | some lb =>
        obtain ⟨x, rfl⟩ := inv a la ha
        obtain ⟨y, rfl, hw⟩ := inv2 b lb hb
        have hw2 : 0 ≤ y ∧ y ≤ 18446744073709551615 := by
          have h5 : (decide (IntKind.u64.min ≤ y) && decide (y ≤ IntKind.u64.max)) = true := hw
          simpa [IntKind.min, IntKind.max, IntKind.signed, IntKind.bits] using h5
        refine ⟨(x, y.toNat), ?_, by show y.toNat < _; omega⟩
        show Value.agg #[.int .i64 x, .int .u64 y] = .agg #[.int .i64 x, .int .u64 ((y.toNat : Nat) : Int)]
        rw [Int.toNat_of_nonneg hw2.1]
theorem collect_x (w : World) (p cb nc : Nat) (v : Nat → Value) (A : Ar) (lv vr : Value) (ns : Nat → List Nat) (dd : Nat → Bool) (roots : List Nat) (M k : Nat) (Dc : DataW Nat) (C : Ca) (hP : Parts w p v A) (hS : Sees w p A lv ns dd) (hr : RefsAt w vr roots) (hb : ∀ r ∈ roots, r < 9223372036854775808) (hnb : ∀ r, ∀ y ∈ ns r, y < 9223372036854775808)
    (hM : ∀ r, (ns r).length ≤ M) (hbig : roots.length + M * A.slots.length ≤ 500000 ∧ A.slots.length ≤ 100000) (hR : Room A k) (hk : A.slots.length ≤ k)
    (ho : ∀ r o, A.find r = some o → ∃ (n : Nat) (m : Int), o.owner = n ∧ A.many[n]? = some m ∧ 0 ≤ m ∧ m ≤ 100000)
    (hcb : cb ∉ foot p v) (hC : w.ownsMap Tryz.prog 113 R1 cb nc Dc) (hCi : CacheIs Dc C)
    (hKeep : ∀ m t q, C m t = some q → Rea A (hsOf A ns dd) roots q ∧ ∀ wx, Chg (foot p v) w wx → Calls Tryz.prog 36 #[lv, .int .i64 m] wx fun e w' => e = .returned (.bool false) ∧ Up wx w') :
    Calls Tryz.prog 40 #[.pointer (some ⟨p, 0, none⟩), vr, .map (some cb), .func (.func 36) #[lv] #[]] w fun e w' => ∃ (c : Int) (v' : Nat → Value) (A' : Ar) (gone : List Nat), e = .returned (.int .i64 c) ∧ Cl w w' p v v' A A' gone k A.slots.length ∧
      (∀ x, A'.find x ≠ none ↔ Rea A (hsOf A ns dd) roots x) := by
  have hlr : (refsOf A.slots).length ≤ A.slots.length := by
    have h1 : (refsOf A.slots).length ≤ A.slots.zipIdx.length := List.length_filterMap_le _ _
    rwa [List.length_zipIdx] at h1
  have hus : ∀ s ∈ A.slots, s.uses < 4294967296 := fun s hs => by have := hR.us s hs; omega
  have hnd := refsOf_nodup A.slots (by omega)
  have RX := Lib.hid (reach_x w p A lv vr ns dd roots M A.slots.length hS hr hb hnb hM hlr (fun r o hf => (refsOf_mem hR).2 ⟨o, hf⟩) ⟨hbig.1, by omega⟩)
  have HP := Lib.hid hP
  have HR := Lib.hid (And.intro hR hk)
  have HO := Lib.hid ho
  have HC := Lib.hid (And.intro hcb (And.intro hC hCi))
  have HK := Lib.hid hKeep
  have HL := Lib.hid (And.intro hlr (And.intro hus (And.intro hnd hbig.2)))
  clear hP hS hr hb hnb hM hbig hR hk ho hcb hC hCi hKeep hlr hus hnd
  obtain ⟨L, hL⟩ : ∃ L, L = refsOf A.slots := ⟨_, rfl⟩
  have HLL := Lib.hid hL
  clear hL
  go_enter Tryz.func40, Tryz.ntmps40
  go_upto_region 2 with (go_at_call 43; refine RX.out.mono ?_; rintro e w1 ⟨b, D, S, rfl, hb, hO, hSet, hNd, hRe, hU1⟩)
  have H1 := Lib.hid (And.intro hb (And.intro hO (And.intro hSet (And.intro hRe hU1))))
  clear hb hO hSet hNd hRe hU1
  have AX := Lib.hid (all_x w1 p v A (HP.out.up H1.out.2.2.2.2) HL.out.2.2.2 HL.out.2.1)
  go_wp2_with (go_at_call 51; refine AX.out.mono ?_; rintro e w2 ⟨v2, rfl, hU2, hrow⟩; rw [← HLL.out] at hrow; obtain ⟨a2, c2, rfl, -, -, hal⟩ := refs_of_row hrow)
  have HAL : Hid (∀ (i x : Nat), L[i]? = some x → ∃ g off, a2 = some ⟨g, off, none⟩ ∧ w.heap.size ≤ g ∧ g < w2.heap.size ∧ w2.cell? ⟨g, off + i, none⟩ = some (.int .u64 (x : Int))) := fun i x hx => by
    have hi := (List.getElem?_eq_some_iff.1 hx).1
    obtain ⟨g, off, rfl, hg, hcs⟩ := hal.resolve_left (by omega)
    exact ⟨g, off, rfl, Nat.le_trans H1.out.2.2.2.2.size (hrow.lt g rfl).1, hg, hcs i x hx⟩
  have H2 := Lib.hid hU2
  clear hU2 hal hrow AX RX
  have HFT : Hid (∀ x ∈ foot p v, x < w.heap.size) := HP.out.lt
  have HU12 : Hid (Up w w2) := H1.out.2.2.2.2.trans H2.out
  have hLm : L.length ≤ 100000 := by rw [HLL.out]; have := HL.out; omega
  go_loopw [10, 22] (fun cn i wr => ∃ (t : Nat) (c : Int) (v' : Nat → Value) (A' : Ar), t ≤ L.length ∧ i = .int .i64 (t : Int) ∧ cn = .int .i64 c ∧ (0 ≤ c ∧ c ≤ t) ∧ Cl w2 wr p v v' A A' ((L.take t).filter (fun x => !decide (x ∈ S))) k t) (fun _ i _ => L.length - (intOf i).toNat)
  case atStart =>
    refine ⟨0, 0, v, A, by omega, rfl, rfl, by omega, ?_⟩
    rw [List.take_zero]
    exact ⟨HP.out.up HU12.out, Chg.refl _ _, fun b hb => .inl hb, Dn.start HR.out.1⟩
  case round =>
    obtain ⟨t, c, v', A', ht, rfl, rfl, hc, hCl⟩ := hrel
    have HCl := Lib.hid hCl
    clear hCl
    have HO3 : Hid (wr.ownsMap Tryz.prog 41 unitElem b S.length D) := map_chg (map_chg H1.out.2.1 H2.out.chg (by simp)) HCl.out.cg (fun hx => by have := HFT.out b hx; have := H1.out.1; omega)
    by_cases hlt : t < L.length
    · obtain ⟨r, hr⟩ : ∃ r, L[t]? = some r := ⟨_, List.getElem?_eq_getElem hlt⟩
      obtain ⟨g, off, rfl, hg, hgl, hcx⟩ := HAL.out t r hr
      have cx : wr.cell? ⟨g, off + t, none⟩ = some (.int .u64 (r : Int)) := (HCl.out.cg.cell (p := ⟨g, off + t, none⟩) hgl (fun hx => by have := HFT.out g hx; omega)).trans hcx
      obtain ⟨o, hfo⟩ := (refsOf_mem HR.out.1).1 (by rw [← HLL.out]; exact List.mem_of_getElem? hr)
      have hr63 := find_lt HR.out.1 hfo
      have HF := Lib.hid (And.intro hr (And.intro hfo hr63))
      have HX := Lib.hid (has_set wr b S.length r D S HO3.out H1.out.2.2.1 (by omega))
      have it0 : (t : Int) < (L.length : Int) := by omega
      have hcw : IntKind.i64.wrap (c + 1) = c + 1 := by rw [IntKind.wrap_i64] <;> omega
      have HFI : Hid ((L.take (t + 1)).filter (fun x => !decide (x ∈ S)) = (L.take t).filter (fun x => !decide (x ∈ S)) ++ (if r ∈ S then [] else [r])) := take_filter L S t r hr
      clear hr hfo hr63 hcx hg hgl
      by_cases hrS : r ∈ S
      · have HI := Lib.hid hrS
        rw [if_pos hrS, List.append_nil] at HFI
        rw [decide_eq_true hrS] at HX
        clear hrS
        go_wp2_with (go_at_call 44; refine HX.out.mono ?_; rintro e w4 ⟨rfl, hU4⟩)
        go_roundw
        case rel => exact ⟨t + 1, c, v', A', by omega, by go_num, rfl, by omega, by rw [HFI.out]; exact ⟨HCl.out.pt.up hU4, HCl.out.cg.trans0 hU4.chg, HCl.out.sb, HCl.out.dn.wait⟩⟩
        case measure => simp [intOf]; omega
      · have HI := Lib.hid hrS
        rw [if_neg hrS] at HFI
        rw [decide_eq_false hrS] at HX
        clear hrS
        have HG : Hid (r ∉ (L.take t).filter (fun x => !decide (x ∈ S))) := fun hx => by
          have h1 := (List.mem_filter.1 hx).1
          have h2 := HL.out.2.2.1
          rw [← HLL.out] at h2
          obtain ⟨i, hi⟩ := List.getElem?_of_mem h1
          have hit : i < t := by have := (List.getElem?_eq_some_iff.1 hi).1; rw [List.length_take] at this; omega
          rw [List.getElem?_take_of_lt hit] at hi
          have := (List.getElem?_inj (Nat.lt_trans hit hlt) h2).1 (hi.trans HF.out.1.symm)
          omega
        obtain ⟨n, m, hon, hmn, hm0, hm1⟩ := HO.out r o HF.out.2.1
        obtain ⟨m', hm', hm2, hm3⟩ := HCl.out.dn.my n m hmn
        have HM := Lib.hid (And.intro hon (And.intro hm' (And.intro (show -1000000 ≤ m' by omega) (show m' ≤ 1000000 by omega))))
        have hkt := Lib.hid (show t < k by have h1 := HR.out.2; have h2 := HL.out.1; rw [← HLL.out] at h2; omega)
        clear hon hmn hm0 hm1 hm' hm2 hm3
        go_upto_region 6 with (go_at_call 44; refine HX.out.mono ?_; rintro e w4 ⟨rfl, hU4⟩)
        have HC4 : Hid (Cl w2 w4 p v v' A A' ((L.take t).filter (fun x => !decide (x ∈ S))) k t) := ⟨HCl.out.pt.up hU4, HCl.out.cg.trans0 hU4.chg, HCl.out.sb, HCl.out.dn⟩
        clear hU4
        have DX := Lib.hid (drop_x w4 p r v' A' o n m' HC4.out.pt (by have := HF.out.2.2; omega) (by rw [HC4.out.dn.fi, if_neg HG.out]; exact HF.out.2.1) HM.out.1 HM.out.2.1 HM.out.2.2 (by have := HC4.out.dn.rm.fl; omega))
        go_wp2_with (go_at_call 52; refine DX.out.mono ?_; rintro e w5 ⟨v5, rfl, hP5, hC5, hF5⟩)
        go_roundw
        case rel =>
          refine ⟨t + 1, c + 1, v5, A'.drop r, by omega, by go_num, rfl, by omega, ?_⟩
          rw [HFI.out]
          refine ⟨hP5, HC4.out.cg.trans hC5 (fun x hx => HC4.out.sb x hx), fun x hx => ?_, HC4.out.dn.step hkt.out HF.out.2.1 HG.out⟩
          rcases hF5 x hx with h1 | h1
          · exact HC4.out.sb x h1
          · exact .inr (Nat.le_trans HC4.out.cg.size h1)
        case measure => simp [intOf]; omega
    · have hte : t = L.length := by omega
      subst hte
      rw [List.take_length] at HCl
      have HD : Hid (wr.ownsMap Tryz.prog 113 R1 cb nc Dc) := map_chg (map_chg HC.out.2.1 HU12.out.chg (by simp)) HCl.out.cg HC.out.1
      have HFIN : Hid (∀ x, A'.find x ≠ none ↔ Rea A (hsOf A ns dd) roots x) := fun x => by
        rw [HCl.out.dn.fi, ← H1.out.2.2.2.1 x]
        constructor
        · intro h
          by_cases hx : x ∈ L.filter (fun x => !decide (x ∈ S))
          · rw [if_pos hx] at h; exact absurd rfl h
          · rw [if_neg hx] at h
            cases hfx : A.find x with
            | none => exact absurd hfx h
            | some o =>
              have hL : x ∈ L := by rw [HLL.out]; exact (refsOf_mem HR.out.1).2 ⟨o, hfx⟩
              refine Classical.byContradiction (fun hS => hx (List.mem_filter.2 ⟨hL, by simpa using hS⟩))
        · intro hS
          rw [if_neg (fun hx => by have := (List.mem_filter.1 hx).2; simp at this; exact this hS)]
          exact Rea.found ((H1.out.2.2.2.1 x).1 hS)
      clear hLm
      obtain ⟨w3, e3⟩ : ∃ y, y = wr := ⟨_, rfl⟩
      subst e3
      have HCW : Hid (∀ wx, Up w3 wx → Chg (foot p v) w wx) := fun wx u => ((HU12.out.chg.mono (by simp)).trans HCl.out.cg (fun x hx => .inl hx)).trans0 u.chg
      have HLT : Hid (cb < w3.heap.size) := HD.out.lt
      have HCN : Hid (∀ m t kl q yd yp, keyOf Tryz.prog 113 (entV m t) = some kl → R1 (.int .u64 ((q : Nat) : Int)) = some (yd, yp) → (∀ zd, Dc.atKey kl zd = yd) → C m t = some q) := fun m t kl q yd yp hk hv hat => by
        obtain ⟨h1, h2⟩ := HC.out.2.2.at_ m t kl hk
        have h3 := Maps.has_true_of_atKey hat
        rw [h3] at h1
        have h4 : yd = .held q := by
          have := R1_val q
          rw [this] at hv
          cases hv
          rfl
        unfold atn at h2
        rw [hat, h4] at h2
        cases hc : C m t with
        | none => rw [hc] at h1; cases h1
        | some z =>
          rw [hc] at h2
          have h5 : q = z := h2
          rw [h5]
      go_wp2_with (first
        | (at_range; refine wpList_range_own _ rfl _ 32 rfl 113 41 KE Tryz.underlying32 R1 cb nc _ rfl HD.out ?_; intro w0 hrg0 hg0 hs0)
        | go_in)
      go_frame
      go_loopw [] (fun wx => ∃ (left : Lit → Bool) (cnt : Nat), wx.ranges Tryz.prog 113 R1 cb w3.heap.size nc Dc left cnt ∧ w3.grownBy wx none) (fun wx => wx.rangeLeft cb w3.heap.size)
      case atStart => exact ⟨_, _, hrg0, hg0⟩
      case round =>
        obtain ⟨left, cnt, hrg, hgw⟩ := hrel
        have HGW := Lib.hid hgw
        clear hgw
        go_wp2_with (first
          | (at_next; refine wpList_next_ranges _ rfl _ rfl 113 KE R1 (fun p : Int × Nat => .agg #[.int .i64 p.1, .int .u64 (p.2 : Int)]) (fun q : Nat => .int .u64 (q : Int)) (fun key _ hk => by obtain ⟨p, hp, -⟩ := ent_inv hk; exact ⟨p, hp⟩) (fun v y hv => by obtain ⟨q, rfl, _⟩ := R1_inv hv; exact ⟨q, rfl⟩) cb w3.heap.size nc _ _ _ rfl hrg ?_ ?_)
          | go_in)
        · intro _ hl0
          go_wp2
          go_ret
          refine ⟨c, v', A', _, rfl, ⟨HCl.out.pt.up (up_grown1 HGW.out), HCW.out _ (up_grown1 HGW.out), fun x hx => ?_, HCl.out.dn.waits (by rw [HLL.out]; exact HL.out.1)⟩, HFIN.out⟩
          rcases HCl.out.sb x hx with h | h
          · exact .inl h
          · exact .inr (Nat.le_trans HU12.out.size h)
        · intro x x' q kl yd yp wn cnt1 hkey hlx hv hat hrg1 hlt hg1 hs1 hen
          have hgw1 : w3.grownBy wn none := HGW.out.andThen hg1 (fun j hj => by cases hj; exact Or.inl (Nat.le_refl _))
          have hCq := HCN.out x x' kl q yd yp hkey hv hat
          obtain ⟨hre, hdead⟩ := HK.out x x' q hCq
          have hfq := (HFIN.out q).2 hre
          obtain ⟨oq, hoq⟩ : ∃ oq, A'.find q = some oq := by
            cases h : A'.find q with
            | none => exact absurd h hfq
            | some oq => exact ⟨oq, rfl⟩
          have hq63 := find_lt HCl.out.dn.rm hoq
          have U1n : Up w3 wn := up_grown1 hgw1
          have HN := Lib.hid (And.intro hrg1 (And.intro hgw1 (And.intro hlt U1n)))
          have ENT : Hid (Up wn (wn.alloc (.cells #[.int .i64 x, .int .u64 (x' : Int)] 113))) := (Up.refl wn).alloc _
          have GX := Lib.hid (get_yes (wn.alloc (.cells #[.int .i64 x, .int .u64 (x' : Int)] 113)) p q v' A' oq (HCl.out.pt.up (U1n.trans ENT.out)) (by omega) hoq)
          have DX : Hid (∀ wx, Up w3 wx → Calls Tryz.prog 36 #[lv, .int .i64 x] wx fun e w' => e = .returned (.bool false) ∧ Up wx w') := fun wx u => hdead wx (HCW.out _ u)
          have HEQ := Lib.hid hrg
          clear hrg hrg1 hgw1 hCq hre hdead hfq hoq hq63 U1n hkey hlx hv hat hlt hg1 hs1
          go_wp2_with (first
            | (go_at_call 14; refine GX.out.mono ?_; rintro e w6 ⟨g6, rfl, hU6, -, -⟩; have c6 := up_cell1 hU6 ((Blk.new wn #[.int .i64 x, .int .u64 (x' : Int)] 113).cell 0))
            | (go_at_call 36; refine (DX.out _ (HN.out.2.2.2.trans (ENT.out.trans hU6))).mono ?_; rintro e w7 ⟨rfl, hU7⟩))
          go_roundw
          case rel => exact ⟨_, cnt1, (HN.out.1.alloc _).kept (up_grown2 (hU6.trans hU7)) (by simp) (by simp), HN.out.2.1.andThen (up_grown2 (ENT.out.trans (hU6.trans hU7))) (fun j hj => by cases hj)⟩
          case measure => rw [((HN.out.1.alloc _).kept (up_grown2 (hU6.trans hU7)) (by simp) (by simp)).left_eq, HEQ.out.left_eq]; exact HN.out.2.2.1
end Go.Proofs.YtmmfpkkkpeapeaaGreatDoor.ar

/- slices' Equal, Index, Contains over names; sets of names by lists: walked. -/
set_option linter.unusedVariables false
set_option linter.unusedSimpArgs false
namespace Go.Proofs.YtmmfpkkkpeapeaaGreatDoor.ar
open Go.RowKit Go.Maps mem rec
attribute [local go_sem ↓] Go.wp_at_zero Go.wp_at_succ
set_option maxRecDepth 100000
set_option maxHeartbeats 1000000
theorem equal_r (va vb : Value) (l : List Nat) (w : World) (ha : RefsAt w va l) (hb : RefsAt w vb l) (hn : l.length ≤ 100000) :
    Calls Tryz.prog 31 #[va, vb] w fun e w' => e = .returned (.bool true) ∧ Up w w' := by
  obtain ⟨a, ca, rfl, -, -, ha⟩ := ha
  obtain ⟨b, cb, rfl, -, -, hb⟩ := hb
  have HA := Lib.hid ha
  have HB := Lib.hid hb
  clear ha hb
  go_enter Tryz.func31, Tryz.ntmps31
  go_wp2_with fail
  go_loopw [13] (fun i wr => ∃ t : Nat, t ≤ l.length ∧ i = .int .i64 t ∧ Up w wr) (fun i _ => l.length - (intOf i).toNat)
  case atStart => exact ⟨0, by omega, rfl, Up.refl _⟩
  case round =>
    obtain ⟨t, ht, rfl, hU⟩ := hrel
    by_cases hlt : t < l.length
    · obtain ⟨ba, oa, rfl, h1, h2⟩ := HA.out.resolve_left (by omega)
      obtain ⟨bb, ob, rfl, h3, h4⟩ := HB.out.resolve_left (by omega)
      obtain ⟨x, hx⟩ : ∃ x, l[t]? = some x := ⟨_, List.getElem?_eq_getElem hlt⟩
      have c1 := up_cell1 hU (h2 t x hx)
      have c2 := up_cell1 hU (h4 t x hx)
      have it0 : (t : Int) < (l.length : Int) := by omega
      have z : ((x : Int) != (x : Int)) = false := by simp
      have z2 : (x != x) = false := by simp
      clear h2 h4 hx
      go_upto_region 6 with (fail)
      go_quiet (fail)
      go_wp2_with fail
      go_roundw
      case rel => exact ⟨t + 1, by omega, by go_num, up_drewN hU _⟩
      case measure => simp [intOf]; omega
    · have hte : t = l.length := by omega
      subst hte
      go_wp2_with fail
      go_ret
      exact ⟨rfl, hU⟩
theorem index_r (va : Value) (l : List Nat) (v : Nat) (w : World) (ha : RefsAt w va l) (hn : l.length ≤ 100000) :
    Calls Tryz.prog 45 #[va, .int .u64 (v : Int)] w fun e w' => ∃ k : Int, e = .returned (.int .i64 k) ∧ ((v ∈ l ∧ 0 ≤ k) ∨ (v ∉ l ∧ k = -1)) ∧ Up w w' := by
  obtain ⟨a, ca, rfl, -, -, ha⟩ := ha
  have HA := Lib.hid ha
  clear ha
  go_enter Tryz.func45, Tryz.ntmps45
  go_wp2_with fail
  go_loopw [8] (fun i wr => ∃ t : Nat, t ≤ l.length ∧ i = .int .i64 t ∧ Up w wr ∧ v ∉ l.take t) (fun i _ => l.length - (intOf i).toNat)
  case atStart => exact ⟨0, by omega, rfl, Up.refl _, by simp⟩
  case round =>
    obtain ⟨t, ht, rfl, hU, hA⟩ := hrel
    by_cases hlt : t < l.length
    · obtain ⟨ba, oa, rfl, h1, h2⟩ := HA.out.resolve_left (by omega)
      obtain ⟨x, hx⟩ : ∃ x, l[t]? = some x := ⟨_, List.getElem?_eq_getElem hlt⟩
      have c1 := up_cell1 hU (h2 t x hx)
      have it0 : (t : Int) < (l.length : Int) := by omega
      have HX := Lib.hid (And.intro hx hA)
      clear h2 hx hA
      by_cases e : v = x
      · have HM : Hid (v ∈ l) := by rw [e]; exact List.mem_of_getElem? HX.out.1
        have z : ((v : Int) == (x : Int)) = true := by simp [e]
        have z2 : (v == x) = true := by simpa using e
        clear e
        go_wp2_with fail
        go_ret
        exact ⟨t, rfl, .inl ⟨HM.out, by omega⟩, hU⟩
      · have z : ((v : Int) == (x : Int)) = false := beq_eq_false_iff_ne.2 (by omega)
        have z2 : (v == x) = false := by simpa using e
        have HE := Lib.hid e
        clear e
        go_wp2_with fail
        go_roundw
        case rel =>
          refine ⟨t + 1, by omega, by go_num, hU, fun hy => ?_⟩
          rw [List.take_add_one, HX.out.1] at hy
          rcases List.mem_append.1 hy with h8 | h8
          · exact HX.out.2 h8
          · have e9 : v = x := by simpa using h8
            exact HE.out e9
        case measure => simp [intOf]; omega
    · have hte : t = l.length := by omega
      subst hte
      rw [List.take_length] at hA
      have HA2 := Lib.hid hA
      clear hA
      go_wp2_with fail
      go_ret
      exact ⟨-1, rfl, .inr ⟨HA2.out, rfl⟩, hU⟩
theorem contains_r (va : Value) (l : List Nat) (v : Nat) (w : World) (ha : RefsAt w va l) (hn : l.length ≤ 100000) :
    Calls Tryz.prog 30 #[va, .int .u64 (v : Int)] w fun e w' => e = .returned (.bool (decide (v ∈ l))) ∧ Up w w' := by
  have IX := Lib.hid (index_r va l v w ha hn)
  clear ha
  go_enter Tryz.func30, Tryz.ntmps30
  by_cases hv : v ∈ l
  · have HV := Lib.hid hv
    clear hv
    go_wp2_with (go_at_call 45; refine IX.out.mono ?_; rintro e w2 ⟨k, rfl, h, hU2⟩; have hk : 0 ≤ k := (by rcases h with h | h; exact h.2; exact absurd HV.out h.1); have z : decide (0 ≤ k) = true := decide_eq_true hk; clear h)
    go_ret
    exact ⟨by rw [decide_eq_true HV.out]; rfl, hU2⟩
  · have HV := Lib.hid hv
    clear hv
    go_wp2_with (go_at_call 45; refine IX.out.mono ?_; rintro e w2 ⟨k, rfl, h, hU2⟩; have hk : k = -1 := (by rcases h with h | h; exact absurd h.1 HV.out; exact h.2); subst hk)
    go_ret
    exact ⟨by rw [decide_eq_false HV.out]; rfl, hU2⟩
end Go.Proofs.YtmmfpkkkpeapeaaGreatDoor.ar

/- FrameRoots: a world of nothing, its arena; an arena of brands: plain; what Reach sees of objects that hold at most one name. -/
set_option linter.unusedVariables false
set_option linter.unusedSimpArgs false
namespace Go.Proofs.YtmmfpkkkpeapeaaGreatDoor.ar
open Go.RowKit Go.Maps mem rec mb
attribute [local go_sem ↓] Go.wp_at_zero Go.wp_at_succ
set_option maxRecDepth 100000
set_option maxHeartbeats 400000
def nils (_ : Nat) : Value := .slice none 0 0
def A0 : Ar := ⟨[], [], [], []⟩
theorem parts_nil (w : World) : Parts (w.alloc (.cells #[.slice none 0 0, .slice none 0 0, .slice none 0 0, .slice none 0 0] 120)) w.heap.size nils A0 := by
  refine ⟨Blk.new w _ _, fun i hi => ?_, fun i j b hi hj h => ?_, fun i hi h => ?_⟩
  · rcases (by omega : i = 0 ∨ i = 1 ∨ i = 2 ∨ i = 3) with rfl | rfl | rfl | rfl <;> exact World.ownsRow_nil _ _ _ _
  · cases h
  · cases h
/-- frame.New: a world of nothing. -/
theorem new_world2 (w : World) : Calls Tryz.prog 19 #[] w fun e w' => ∃ (wb p cb : Nat), e = .returned (.pointer (some ⟨wb, 0, none⟩)) ∧ Up w w' ∧ Blk w' wb #[.pointer (some ⟨p, 0, none⟩), .map (some cb), .slice none 0 0, .slice none 0 0] 73 ∧
    Parts w' p nils A0 ∧ w'.ownsMap Tryz.prog 113 R1 cb 0 (.map []) ∧ w.heap.size ≤ p ∧ p < cb ∧ cb < wb := by
  have hmm := @run_makeMap Tryz.prog
  go_enter Tryz.func19, Tryz.ntmps19
  go_wp2_with (go_at_call 33; refine (new_arena _).mono ?_; rintro e w1 ⟨rfl, rfl⟩)
  go_ret
  have P1 := parts_nil w
  generalize hwa : w.alloc (.cells #[.slice none 0 0, .slice none 0 0, .slice none 0 0, .slice none 0 0] 120) = wa at P1 ⊢
  have Ua : Up w wa := by rw [← hwa]; exact (Up.refl w).alloc _
  have sa : wa.heap.size = w.heap.size + 1 := by rw [← hwa]; simp
  clear hwa
  have M1 := World.ownsMap_made (H := Nat) wa Tryz.prog 113 R1
  have sb : (wa.alloc (.map #[] 0)).heap.size = wa.heap.size + 1 := by simp
  have Ub : Up wa (wa.alloc (.map #[] 0)) := (Up.refl wa).alloc _
  refine ⟨(wa.alloc (.map #[] 0)).heap.size, w.heap.size, wa.heap.size, by rw [sb, sa]; rfl, Ua.trans (Ub.alloc _), ?_, P1.up (Ub.alloc _), M1.alloc _, Nat.le_refl _, by omega, by omega⟩
  have h := Blk.new (wa.alloc (.map #[] 0)) #[.pointer (some ⟨w.heap.size, 0, none⟩), .map (some wa.heap.size), .slice none 0 0, .slice none 0 0] 73
  rw [sa] at h ⊢
  exact h
/-! ### an arena of brands -/
def brandOb : Ob := ⟨2, 0, false, none, 0, 0, none, 0, 0, 0, zero3, 0, 0, 0⟩
def brandAr (n : Nat) : Ar := ⟨List.replicate n ⟨1, true, brandOb⟩, [], [40], [(n : Int)]⟩
theorem brs_grow (n : Nat) : (brandAr n).grow = { brandAr n with slots := List.replicate n ⟨1, true, brandOb⟩ ++ [sl0], free := [n] } := by
  unfold Ar.grow
  rw [if_pos (show (brandAr n).free = [] from rfl)]
  show Ar.mk _ [(List.replicate n (⟨1, true, brandOb⟩ : Sl)).length] _ _ = _
  rw [List.length_replicate]
  rfl
theorem brs_top (n : Nat) : (brandAr n).top = n := by unfold Ar.top; rw [brs_grow]; rfl
theorem brs_old (n : Nat) : (brandAr n).old = 0 := by
  unfold Ar.old
  rw [brs_top, brs_grow]
  show ((List.replicate n (⟨1, true, brandOb⟩ : Sl) ++ [sl0]).getD n sl0).uses = 0
  rw [List.getD_eq_getElem?_getD, List.getElem?_append_right (by simp)]
  simp
  rfl
theorem brs_name (n : Nat) : (brandAr n).name = 4294967296 + n := by unfold Ar.name; rw [brs_old, brs_top]
theorem brs_add (n : Nat) : (brandAr n).add brandOb = brandAr (n + 1) := by
  unfold Ar.add
  rw [brs_grow, brs_top, brs_old]
  show Ar.mk ((List.replicate n (⟨1, true, brandOb⟩ : Sl) ++ [sl0]).set n ⟨0 + 1, true, brandOb⟩) ([n].dropLast) [40] ([(n : Int)].set 0 ((n : Int) + 1)) = _
  have e1 : (List.replicate n (⟨1, true, brandOb⟩ : Sl) ++ [sl0]).set n ⟨0 + 1, true, brandOb⟩ = List.replicate (n + 1) ⟨1, true, brandOb⟩ := by
    rw [List.set_append_right _ _ (by simp), List.length_replicate, Nat.sub_self, List.replicate_succ']
    rfl
  rw [e1]
  unfold brandAr
  simp
theorem brs_find {n r : Nat} {o : Ob} (hn : n ≤ 1000) : (brandAr n).find r = some o ↔ ∃ i, i < n ∧ r = 4294967296 + i ∧ o = brandOb := by
  constructor
  · intro h
    unfold Ar.find at h
    split at h
    · rename_i s hs
      have hs' : (List.replicate n (⟨1, true, brandOb⟩ : Sl))[r % 4294967296]? = some s := hs
      rw [List.getElem?_replicate] at hs'
      split at hs'
      · rename_i hlt
        cases hs'
        split at h
        · rename_i hu
          cases h
          have h2 : 1 = r / 4294967296 := hu.2
          exact ⟨r % 4294967296, hlt, by omega, rfl⟩
        · cases h
      · cases hs'
    · cases h
  · rintro ⟨i, hi, rfl, rfl⟩
    unfold Ar.find
    rw [show (4294967296 + i) % 4294967296 = i % 4294967296 by omega]
    by_cases hl : i < 4294967296
    · have hs : (brandAr n).slots[i % 4294967296]? = some ⟨1, true, brandOb⟩ := by
        show (List.replicate n (⟨1, true, brandOb⟩ : Sl))[i % 4294967296]? = _
        rw [List.getElem?_replicate, if_pos (by omega)]
      rw [hs]
      simp only
      rw [if_pos ⟨trivial, by omega⟩]
    · omega
theorem brs_room (n k : Nat) (h : n + k < 900000) : Room (brandAr n) k := by
  refine ⟨?_, fun s hs => ?_, fun m hm => ?_, ?_, ?_⟩
  · show (List.replicate n _).length + k < _
    rw [List.length_replicate]; omega
  · have hs' : s ∈ List.replicate n (⟨1, true, brandOb⟩ : Sl) := hs
    rw [List.eq_of_mem_replicate hs']
    show 1 + k < _
    omega
  · exact absurd hm (by show m ∉ ([] : List Nat); simp)
  · exact List.nodup_nil
  · show 0 + k < _
    omega
theorem brs_quo (n k : Nat) (h : n + k ≤ 40) : Quo (brandAr n) 0 k := ⟨40, n, rfl, rfl, by omega, by omega, by omega⟩
/-! ### what Reach sees -/
theorem sees_of {w : World} {p k : Nat} {v : Nat → Value} {A : Ar} {lv : Value} {ns : Nat → List Nat} {dd : Nat → Bool} (hP : Parts w p v A) (hR : Room A k)
    (hpl : ∀ r o, A.find r = some o → o.fields = none ∧ o.hn = 0 ∧ o.brand = 0 ∧ o.content = zero3 ∧ ∃ t : Nat, o.target = (t : Int) ∧ ns r = if t = 0 then [] else [t])
    (hd : ∀ r o, A.find r = some o → o.kind = 6 → ∀ wx, Up w wx → Calls Tryz.prog 36 #[lv, .int .i64 o.membrane] wx fun e w' => e = .returned (.bool (dd r)) ∧ Up wx w') : Sees w p A lv ns dd := by
  refine ⟨fun r o hf => ?_, fun r hr hf wx u => get_no wx p r v A (hP.up u) (by omega) hf⟩
  have hr := find_lt hR hf
  obtain ⟨s, hs, -⟩ := find_slot hf
  obtain ⟨g, cap, -, hog, -⟩ := hP.obAt hs
  have OB := obAt_find hog hP hf
  obtain ⟨h1, h2, h3, h4, t, h5, h6⟩ := hpl r o hf
  refine ⟨g, _, fun wx hx => get_at wx p r v A o g hog (hP.up hx) (by omega) hf, fun wx u => ⟨up_cell1 u (OB 0 _ rfl), up_cell1 u (OB 11 _ rfl)⟩, fun wx u => ?_, fun k6 wx u => hd r o hf k6 wx u⟩
  refine (holds_x wx g _ o t (OB.up u) h1 h2 h3 h4 h5).mono ?_
  rintro e w' ⟨v', rfl, hu, hrow⟩
  refine ⟨v', rfl, hu, ?_⟩
  rw [h6]
  by_cases h0 : t = 0
  · rw [if_pos h0] at hrow ⊢
    rw [if_pos h0] at hrow
    exact hrow
  · rw [if_neg h0] at hrow ⊢
    rw [if_neg h0] at hrow
    exact hrow
end Go.Proofs.YtmmfpkkkpeapeaaGreatDoor.ar

/- frame.Roots: walked. -/
set_option linter.unusedVariables false
set_option linter.unusedSimpArgs false
namespace Go.Proofs.YtmmfpkkkpeapeaaGreatDoor.ar
open Go.RowKit Go.Maps mem rec mb
attribute [local go_sem ↓] Go.wp_at_zero Go.wp_at_succ
set_option maxRecDepth 100000
set_option maxHeartbeats 2000000
/-- A register: no object, or one that has a name. -/
def OkV (x : V3) : Prop := (x.1 == 5) = false ∨ ∃ r : Nat, x = (5, (r : Int), ⟨#[]⟩) ∧ r ≠ 0 ∧ r < 9223372036854775808
def V3At (w : World) (b o : Nat) (x : V3) : Prop := w.cell? ⟨b, o, none⟩ = some (.int .u8 x.1) ∧ w.cell? ⟨b, o + 1, none⟩ = some (.int .i64 x.2.1) ∧ w.cell? ⟨b, o + 2, none⟩ = some (.string x.2.2)
theorem V3At.up {w w' : World} {b o : Nat} {x : V3} (h : V3At w b o x) (u : Up w w') : V3At w' b o x := ⟨up_cell1 u h.1, up_cell1 u h.2.1, up_cell1 u h.2.2⟩
def RegsAt (w : World) (v : Value) (R : List V3) : Prop :=
  ∃ (a : Option Addr) (c : Nat), v = .slice a R.length c ∧ (R.length = 0 ∨ ∃ b, a = some ⟨b, 0, none⟩ ∧ b < w.heap.size ∧ ∀ (i : Nat) (x : V3), R[i]? = some x → V3At w b (i * 3) x)
theorem RegsAt.up {w w' : World} {v : Value} {R : List V3} (h : RegsAt w v R) (u : Up w w') : RegsAt w' v R := by
  obtain ⟨a, c, e, h⟩ := h
  refine ⟨a, c, e, h.imp id ?_⟩
  rintro ⟨b, e1, e2, e3⟩
  exact ⟨b, e1, Nat.lt_of_lt_of_le e2 u.size, fun i x hx => (e3 i x hx).up u⟩
def FrAt (w : World) (b o : Nat) (R : List V3) : Prop :=
  ∃ sv, RegsAt w sv R ∧ w.cell? ⟨b, o, none⟩ = some (.int .i64 0) ∧ w.cell? ⟨b, o + 1, none⟩ = some (.int .i64 0) ∧ w.cell? ⟨b, o + 2, none⟩ = some (.int .i64 0) ∧ w.cell? ⟨b, o + 3, none⟩ = some sv ∧ w.cell? ⟨b, o + 4, none⟩ = some (.int .i64 0) ∧ w.cell? ⟨b, o + 5, none⟩ = some (.int .i64 0) ∧ w.cell? ⟨b, o + 6, none⟩ = some (.slice none 0 0) ∧ w.cell? ⟨b, o + 7, none⟩ = some (.slice none 0 0)
theorem FrAt.up {w w' : World} {b o : Nat} {R : List V3} (h : FrAt w b o R) (u : Up w w') : FrAt w' b o R := by
  obtain ⟨sv, h0, h1, h2, h3, h4, h5, h6, h7, h8⟩ := h
  exact ⟨sv, h0.up u, up_cell1 u h1, up_cell1 u h2, up_cell1 u h3, up_cell1 u h4, up_cell1 u h5, up_cell1 u h6, up_cell1 u h7, up_cell1 u h8⟩
def FrsAt (w : World) (v : Value) (F : List (List V3)) : Prop :=
  ∃ (a : Option Addr) (c : Nat), v = .slice a F.length c ∧ (F.length = 0 ∨ ∃ b, a = some ⟨b, 0, none⟩ ∧ b < w.heap.size ∧ ∀ (i : Nat) (R : List V3), F[i]? = some R → FrAt w b (i * 8) R)
/-- The names in registers. -/
def nmOf (x : V3) : List Nat := if (x.1 == 5) = true then [x.2.1.toNat] else []
def nmsOf (R : List V3) : List Nat := R.flatMap nmOf
theorem nms_take (R : List V3) (j : Nat) (x : V3) (h : R[j]? = some x) : nmsOf (R.take (j + 1)) = nmsOf (R.take j) ++ nmOf x := by
  unfold nmsOf
  rw [List.take_add_one, h, List.flatMap_append]
  simp
theorem fr_take (F : List (List V3)) (t : Nat) (R : List V3) (h : F[t]? = some R) : (F.take (t + 1)).flatMap nmsOf = (F.take t).flatMap nmsOf ++ nmsOf R := by
  rw [List.take_add_one, h, List.flatMap_append]
  simp
theorem nms_len (R : List V3) : (nmsOf R).length ≤ R.length := by
  unfold nmsOf
  induction R with
  | nil => simp
  | cons a R ih =>
    rw [List.flatMap_cons, List.length_append, List.length_cons]
    have : (nmOf a).length ≤ 1 := by unfold nmOf; split <;> simp
    omega
theorem frs_len (F : List (List V3)) (h : ∀ R ∈ F, R.length ≤ 1000) : (F.flatMap nmsOf).length ≤ F.length * 1000 := by
  induction F with
  | nil => simp
  | cons R F ih =>
    rw [List.flatMap_cons, List.length_append, List.length_cons]
    have h1 := nms_len R
    have h2 := h R (List.mem_cons_self ..)
    have h3 := ih (fun R hR => h R (List.mem_cons_of_mem _ hR))
    omega
theorem roots_x (w : World) (v : Value) (F : List (List V3)) (hF : FrsAt w v F) (hn : F.length ≤ 100) (hR : ∀ R ∈ F, R.length ≤ 1000) (hV : ∀ R ∈ F, ∀ x ∈ R, OkV x) :
    Calls Tryz.prog 28 #[v] w fun e w' => ∃ v', e = .returned v' ∧ Up w w' ∧ w'.ownsRow w.heap.size 41 1 v' (F.flatMap nmsOf).length ((F.flatMap nmsOf).map (fun n : Nat => Value.int .u64 (n : Int))) := by
  obtain ⟨a, ca, rfl, hF⟩ := hF
  have HF := Lib.hid hF
  have HV := Lib.hid (And.intro hR hV)
  clear hF hR hV
  obtain ⟨iR, hi, hz0, hz1, hz2⟩ := info_parts infoRef
  have HI := Lib.hid (And.intro hi (And.intro hz0 (And.intro hz1 hz2)))
  clear hi hz0 hz1 hz2
  go_enter Tryz.func28, Tryz.ntmps28
  go_wp2_with fail
  go_loopw [3, 11] (fun ov i wr => ∃ t : Nat, t ≤ F.length ∧ i = .int .i64 (t : Int) ∧ wr.ownsRow w.heap.size 41 1 ov ((F.take t).flatMap nmsOf).length (((F.take t).flatMap nmsOf).map (fun n : Nat => Value.int .u64 (n : Int))) ∧ Up w wr) (fun _ i _ => F.length - (intOf i).toNat)
  case atStart => exact ⟨0, by omega, rfl, World.ownsRow_nil _ _ _ _, Up.refl _⟩
  case round =>
    obtain ⟨t, ht, rfl, hrow, hU⟩ := hrel
    have HR := Lib.hid (And.intro hrow hU)
    clear hrow hU
    by_cases hlt : t < F.length
    · obtain ⟨ba, rfl, hba, hx⟩ := HF.out.resolve_left (by omega)
      obtain ⟨R, hR⟩ : ∃ R, F[t]? = some R := ⟨_, List.getElem?_eq_getElem hlt⟩
      have hRm := List.mem_of_getElem? hR
      obtain ⟨sv, hsv, c0, c1, c2, c3, c4, c5, c6, c7⟩ := hx t R hR
      obtain ⟨ar, cr, rfl, hrr⟩ := hsv
      have c0 := up_cell1 HR.out.2 c0
      have c1 := up_cell1 HR.out.2 c1
      have c2 := up_cell1 HR.out.2 c2
      have c3 := up_cell1 HR.out.2 c3
      have c4 := up_cell1 HR.out.2 c4
      have c5 := up_cell1 HR.out.2 c5
      have c6 := up_cell1 HR.out.2 c6
      have c7 := up_cell1 HR.out.2 c7
      have it0 : (t : Int) < (F.length : Int) := by omega
      have HQ := Lib.hid (And.intro hR (And.intro hRm hrr))
      have hl1 := HV.out.1 R hRm
      have hacc : Hid (((F.take t).flatMap nmsOf).length ≤ 100000) := by
        have h1 := frs_len (F.take t) (fun R hR => HV.out.1 R (List.mem_of_mem_take hR))
        rw [List.length_take] at h1
        show _ ≤ _
        omega
      clear hx hR hRm hrr
      go_wp2_with fail
      clear c0 c1 c2 c3 c4 c5 c6 c7
      obtain ⟨w2, e2⟩ : ∃ y, y = wr.alloc (.cells #[.int .i64 0, .int .i64 0, .int .i64 0, .slice ar R.length cr, .int .i64 0, .int .i64 0, .slice none 0 0, .slice none 0 0] 92) := ⟨_, rfl⟩
      rw [← e2]
      have U2 : Hid (Up wr w2) := by rw [e2]; exact (Up.refl wr).alloc _
      clear e2
      obtain ⟨w1, e1⟩ : ∃ y, y = wr := ⟨_, rfl⟩
      subst e1
      go_loopw [3, 18] (fun ov i wr => ∃ j : Nat, j ≤ R.length ∧ i = .int .i64 (j : Int) ∧ wr.ownsRow w.heap.size 41 1 ov ((F.take t).flatMap nmsOf ++ nmsOf (R.take j)).length (((F.take t).flatMap nmsOf ++ nmsOf (R.take j)).map (fun n : Nat => Value.int .u64 (n : Int))) ∧ Up w wr) (fun _ i _ => R.length - (intOf i).toNat)
      case atStart =>
        refine ⟨0, by omega, rfl, ?_, HR.out.2.trans U2.out⟩
        rw [List.take_zero, show nmsOf [] = [] from rfl, List.append_nil]
        exact owns_chg HR.out.1 U2.out.chg (by simp)
      case round =>
        obtain ⟨j, hj, rfl, hrow, hU⟩ := hrel
        obtain ⟨ac, hac⟩ : ∃ ac, ac = (F.take t).flatMap nmsOf ++ nmsOf (R.take j) := ⟨_, rfl⟩
        rw [← hac] at hrow
        have HAC := Lib.hid hac
        clear hac
        have HJ := Lib.hid (And.intro hrow hU)
        clear hrow hU
        by_cases hlj : j < R.length
        · obtain ⟨br, rfl, hbr, hx⟩ := HQ.out.2.2.resolve_left (by omega)
          obtain ⟨x, hxj⟩ : ∃ x, R[j]? = some x := ⟨_, List.getElem?_eq_getElem hlj⟩
          obtain ⟨c0, c1, c2⟩ := (hx j x hxj).up HJ.out.2
          have hok := HV.out.2 R HQ.out.2.1 x (List.mem_of_getElem? hxj)
          have ij0 : (j : Int) < (R.length : Int) := by omega
          have HT := Lib.hid (nms_take R j x hxj)
          have hb2 : Hid (ac.length ≤ 200000) := by
            have h1 := nms_len (R.take j)
            rw [List.length_take] at h1
            have h2 := hacc.out
            show _ ≤ _
            rw [HAC.out, List.length_append]
            omega
          clear hx hxj
          rcases hok with h5 | ⟨r, rfl, hr0, hr⟩
          · obtain ⟨x1, x2, x3⟩ := x
            have h6 : nmOf (x1, x2, x3) = [] := by unfold nmOf; rw [if_neg (by rw [h5]; decide)]
            rw [h6, List.append_nil] at HT
            have RX := Lib.hid (ref_none x1 x2 x3 h5)
            clear h5 h6
            simp only at c0 c1 c2
            go_wp2_with (go_at_call 15; refine (RX.out _).mono ?_; rintro e w5 ⟨rfl, ew⟩; rw [ew]; clear ew w5)
            go_roundw
            case rel => exact ⟨j + 1, by omega, by go_num, by rw [HT.out, ← HAC.out]; exact owns_chg HJ.out.1 (((Up.refl wr).alloc _).alloc _).chg (by simp), (HJ.out.2.alloc _).alloc _⟩
            case measure => simp [intOf]; omega
          · have h6 : nmOf (5, (r : Int), ⟨#[]⟩) = [r] := rfl
            rw [h6] at HT
            have RX := Lib.hid (ref_x r hr ⟨#[]⟩)
            have z1 : ((r : Int) != 0) = true := by simpa using hr0
            have z2 : ¬ ((r : Int) = 0) := by omega
            clear h6
            simp only at c0 c1 c2
            go_upto_region 9 with (go_at_call 15; refine (RX.out _).mono ?_; rintro e w5 ⟨rfl, ew⟩; rw [ew]; clear ew w5)
            clear c0 c1 c2
            have U4 : Up wr ((wr.alloc (.cells #[.int .u8 5, .int .i64 (r : Int), .string ⟨#[]⟩] 51)).alloc (.cells #[.int .u8 5, .int .i64 (r : Int), .string ⟨#[]⟩] 51)) := ((Up.refl wr).alloc _).alloc _
            generalize (wr.alloc (.cells #[.int .u8 5, .int .i64 (r : Int), .string ⟨#[]⟩] 51)).alloc (.cells #[.int .u8 5, .int .i64 (r : Int), .string ⟨#[]⟩] 51) = w4 at U4 ⊢
            have HB : Hid (ac.length + 1 ≤ maxLen ∧ (ac.length + 1) * 8 ≤ 140737488355328) := by have := hb2.out; exact ⟨by unfold maxLen; omega, by omega⟩
            have HO : Hid ((w4.alloc (.cells #[.int .u64 (r : Int)] 41)).ownsRow w.heap.size 41 1 u3 ac.length (ac.map (fun n : Nat => Value.int .u64 (n : Int))) ∧ Up w (w4.alloc (.cells #[.int .u64 (r : Int)] 41))) := ⟨owns_chg HJ.out.1 (U4.alloc _).chg (by simp), (HJ.out.2.trans U4).alloc _⟩
            have HFR : Hid (∀ b, u3.ownBlock = some b → w.heap.size ≤ b) := fun b hb => (HJ.out.1.lt b hb).1
            clear U4
            go_wp2_with (at_builtin; refine wpList_append_lies _ rfl (.tmp 26) (.tmp 28) 35 rfl w.heap.size 41 _ (.int .u64 0) 1 8 Tryz.underlying35 HI.out.1 HI.out.2.1 HI.out.2.2.1 HI.out.2.2.2 rfl (by decide) u3 _ (ac.map (fun n : Nat => Value.int .u64 (n : Int))) rfl HO.out.1 ⟨w4.heap.size, 0, none⟩ 1 1 [.int .u64 (r : Int)] rfl rfl (World.news_of_block (cs := #[.int .u64 (r : Int)]) (t := 41) (fr := (0, 0)) (heap_alloc_new w4 _)) (by intro u hu; simp at hu; subst hu; rfl) (by decide) HB.out.1 HB.out.2 HO.out.2.size (w4.heap.size + 1) (by simp) ?_; intro g1 gcap1 w9 hown9 hgrow9 hat9 hlt9)
            go_roundw
            case rel =>
              have CU : Chg [] w w9 := by
                refine Chg.weak (F := (Value.ownBlock u3).toList) ?_ (fun x hx => .inr (HFR.out x (by simpa using hx)))
                exact (HO.out.2.chg.mono (by simp)).grown hgrow9 (fun b hb => .inl (by simp [hb]))
              refine ⟨j + 1, by omega, by go_num, ?_, CU.up⟩
              rw [HT.out, ← List.append_assoc, ← HAC.out, List.length_append, List.map_append]
              exact hown9
            case measure => simp [intOf]; omega
        · have hje : j = R.length := by omega
          subst hje
          have HT := Lib.hid (fr_take F t R HQ.out.1)
          have hrow := HJ.out.1
          rw [HAC.out, List.take_length, ← HT.out] at hrow
          have HRR := Lib.hid hrow
          clear hrow
          go_wp2_with fail
          go_roundw
          case rel => exact ⟨t + 1, by omega, by go_num, HRR.out, HJ.out.2⟩
          case measure => simp [intOf]; omega
    · have hte : t = F.length := by omega
      subst hte
      have hrow := HR.out.1
      rw [List.take_length] at hrow
      have HRR := Lib.hid hrow
      clear hrow
      go_wp2_with fail
      go_ret
      exact ⟨_, rfl, HR.out.2, HRR.out⟩
end Go.Proofs.YtmmfpkkkpeapeaaGreatDoor.ar

/- frame.World's Reaches and Collect: walked (printed by kn_gen.py). -/
set_option linter.unusedVariables false
set_option linter.unusedSimpArgs false
namespace Go.Proofs.YtmmfpkkkpeapeaaGreatDoor.ar
open Go.RowKit Go.Maps mem rec mb
attribute [local go_sem ↓] Go.wp_at_zero Go.wp_at_succ
set_option maxRecDepth 100000
set_option maxHeartbeats 2000000
theorem reaches_x (w : World) (wb p x : Nat) (c1 c3 : Value) (A : Ar) (lv vr : Value) (ns : Nat → List Nat) (dd : Nat → Bool) (roots : List Nat) (M N : Nat) (hB : Blk w wb #[.pointer (some ⟨p, 0, none⟩), c1, lv, c3] 73) (hS : Sees w p A lv ns dd) (hr : RefsAt w vr roots) (hb : ∀ r ∈ roots, r < 9223372036854775808) (hnb : ∀ r, ∀ y ∈ ns r, y < 9223372036854775808)
    (hM : ∀ r, (ns r).length ≤ M) (hN : (refsOf A.slots).length ≤ N) (hmem : ∀ r o, A.find r = some o → r ∈ refsOf A.slots) (hbig : roots.length + M * N ≤ 500000 ∧ N ≤ 500000) (hx : x < 18446744073709551616) :
    Calls Tryz.prog 29 #[.pointer (some ⟨wb, 0, none⟩), vr, .int .u64 (x : Int)] w fun e w' => ∃ c : Bool, e = .returned (.bool c) ∧ (c = true ↔ Rea A (hsOf A ns dd) roots x) ∧ Up w w' := by
  have RX : Hid (∀ wx, Up w wx → _) := fun wx (u : Up w wx) => reach_x wx p A lv vr ns dd roots M N (hS.up u) (hr.up u) hb hnb hM hN hmem hbig
  have HX := Lib.hid hx
  have HC : Hid (∀ wx, Up w wx → wx.cell? ⟨wb, 0, none⟩ = some (.pointer (some ⟨p, 0, none⟩)) ∧ wx.cell? ⟨wb, 2, none⟩ = some lv) := fun wx u => ⟨up_cell1 u (hB.cell 0), up_cell1 u (hB.cell 2)⟩
  clear hB hS hr hb hnb hM hN hmem hbig hx
  go_enter Tryz.func29, Tryz.ntmps29
  go_upto_region 1 with (fail)
  refine AnyT.start (S := fun w' => w'.cell? ⟨wb, 0, none⟩ = some (.pointer (some ⟨p, 0, none⟩)) ∧ w'.cell? ⟨wb, 2, none⟩ = some lv) 14 (by kernel_rfl) (HC.out _ (Up.refl w).drew) (fun hHeld => ?_)
  have hUd : Up w w.drew := (Up.refl w).drew
  generalize World.drew w = wd at hUd hHeld ⊢
  refine AnyT.pick (i := 0) (oi := ⟨_, _, _, _, _, _⟩) (v := ?_) rfl (by kernel_rfl) (by kernel_rfl) (by kernel_rfl) (fun _ _ _ h => h) (Or.inl ⟨by rfl, ?y0_1⟩) ?_
  case' y0_1 => ((intro w hSw; go_simp) <;> (with_reducible rfl))
  try simp only [Act.put, List.setIfInBounds_toArray, List.set_cons_zero, List.set_cons_succ]
  refine AnyT.pick (i := 1) (oi := ⟨_, _, _, _, _, _⟩) (v := ?_) rfl (by kernel_rfl) (by kernel_rfl) (by kernel_rfl) (fun _ _ _ h => h) (Or.inl ⟨by rfl, ?y1_2⟩) ?_
  case' y1_2 => ((intro w hSw; go_simp) <;> (with_reducible rfl))
  try simp only [Act.put, List.setIfInBounds_toArray, List.set_cons_zero, List.set_cons_succ]
  refine AnyT.pick (i := 2) (oi := ⟨_, _, _, _, _, _⟩) (v := ?_) rfl (by kernel_rfl) (by kernel_rfl) (by kernel_rfl) (fun _ _ _ h => h) (Or.inl ⟨by rfl, ?y2_3⟩) ?_
  case' y2_3 => ((intro w hSw; go_simp) <;> (with_reducible rfl))
  try simp only [Act.put, List.setIfInBounds_toArray, List.set_cons_zero, List.set_cons_succ]
  refine AnyT.take (i := 3) (oi := ⟨_, _, _, _, _, _⟩) (v := ?_) rfl (by kernel_rfl) (by kernel_rfl) (by kernel_rfl) (by kernel_rfl) (fun _ _ _ h => h) (Or.inl ⟨by rfl, ?y3_4⟩) (by assumption) ?_
  case' y3_4 => ((intro w hSw; (try dsimp only at hSw); go_simp) <;> (with_reducible rfl))
  try simp only [Act.put, List.setIfInBounds_toArray, List.set_cons_zero, List.set_cons_succ]
  refine AnyT.pick (i := 4) (oi := ⟨_, _, _, _, _, _⟩) (v := ?_) rfl (by kernel_rfl) (by kernel_rfl) (by kernel_rfl) (fun _ _ _ h => h) (Or.inl ⟨by rfl, ?y4_5⟩) ?_
  case' y4_5 => ((intro w hSw; go_simp) <;> (with_reducible rfl))
  try simp only [Act.put, List.setIfInBounds_toArray, List.set_cons_zero, List.set_cons_succ]
  refine AnyT.pick (i := 5) (oi := ⟨_, _, _, _, _, _⟩) (v := ?_) rfl (by kernel_rfl) (by kernel_rfl) (by kernel_rfl) (fun _ _ _ h => h) (Or.inl ⟨by rfl, ?y5_6⟩) ?_
  case' y5_6 => ((intro w hSw; go_simp) <;> (with_reducible rfl))
  try simp only [Act.put, List.setIfInBounds_toArray, List.set_cons_zero, List.set_cons_succ]
  refine AnyT.pick (i := 6) (oi := ⟨_, _, _, _, _, _⟩) (v := ?_) rfl (by kernel_rfl) (by kernel_rfl) (by kernel_rfl) (fun _ _ _ h => h) (Or.inl ⟨by rfl, ?y6_7⟩) ?_
  case' y6_7 => ((intro w hSw; go_simp) <;> (with_reducible rfl))
  try simp only [Act.put, List.setIfInBounds_toArray, List.set_cons_zero, List.set_cons_succ]
  refine AnyT.pick (i := 7) (oi := ⟨_, _, _, _, _, _⟩) (v := ?_) rfl (by kernel_rfl) (by kernel_rfl) (by kernel_rfl) (fun _ _ _ h => h) (Or.inl ⟨by rfl, ?y7_8⟩) ?_
  case' y7_8 => ((intro w hSw; go_simp) <;> (with_reducible rfl))
  try simp only [Act.put, List.setIfInBounds_toArray, List.set_cons_zero, List.set_cons_succ]
  refine AnyT.take (i := 8) (oi := ⟨_, _, _, _, _, _⟩) (v := ?_) rfl (by kernel_rfl) (by kernel_rfl) (by kernel_rfl) (by kernel_rfl) (fun _ _ _ h => h) (Or.inl ⟨by rfl, ?y8_9⟩) (by assumption) ?_
  case' y8_9 => ((intro w hSw; (try dsimp only at hSw); go_simp) <;> (with_reducible rfl))
  try simp only [Act.put, List.setIfInBounds_toArray, List.set_cons_zero, List.set_cons_succ]
  refine AnyT.pick (i := 9) (oi := ⟨_, _, _, _, _, _⟩) (v := ?_) rfl (by kernel_rfl) (by kernel_rfl) (by kernel_rfl) (fun _ _ _ h => h) (Or.inl ⟨by rfl, ?y9_10⟩) ?_
  case' y9_10 => ((intro w hSw; go_simp) <;> (with_reducible rfl))
  try simp only [Act.put, List.setIfInBounds_toArray, List.set_cons_zero, List.set_cons_succ]
  refine AnyT.pick (i := 11) (oi := ⟨_, _, _, _, _, _⟩) (v := ?_) rfl (by kernel_rfl) (by kernel_rfl) (by kernel_rfl) (fun _ _ _ h => h) (Or.inl ⟨by rfl, ?y11_11⟩) ?_
  case' y11_11 => ((intro w hSw; go_simp) <;> (with_reducible rfl))
  try simp only [Act.put, List.setIfInBounds_toArray, List.set_cons_zero, List.set_cons_succ]
  refine AllT.go (rs := [10]) (by kernel_rfl) (by simp) ?_
  refine AllT.early (o := ⟨_, _, _, _, _, _⟩) rfl (fun K hK => ?_) ?_
  · go_simp
    go_at_call 43
    refine (RX.out _ hUd).mono ?_
    rintro e wr ⟨b, D, S, rfl, hb, hO, hSet, hNd, hRe, hU1⟩
    have hU2 := hUd.trans hU1
    refine hK.out _ _ (HC.out _ hU2) (fun _ => ?_)
    clear hK K hHeld
    have HHX := Lib.hid (has_set wr b S.length x D S hO hSet HX.out)
    clear hO hSet hNd hb
    try simp only [Act.put, List.setIfInBounds_toArray, List.set_cons_zero, List.set_cons_succ]
    refine AllT.go (rs := [12]) (by kernel_rfl) (by simp) ?_
    refine AllT.early (o := ⟨_, _, _, _, _, _⟩) rfl (fun K hK => ?_) ?_
    · go_simp
      go_at_call 44
      refine HHX.out.mono ?_
      rintro e w5 ⟨rfl, hU3⟩
      refine hK.out _ _ (HC.out _ (hU2.trans hU3)) (fun _ => ?_)
      clear hK K
      try simp only [Act.put, List.setIfInBounds_toArray, List.set_cons_zero, List.set_cons_succ]
      refine AnyT.pick (i := 13) (oi := ⟨_, _, _, _, _, _⟩) (v := ?_) rfl (by kernel_rfl) (by kernel_rfl) (by kernel_rfl) (fun _ _ _ h => h) (Or.inl ⟨by rfl, ?y13_12⟩) ?_
      case' y13_12 => ((intro w hSw; go_simp) <;> (with_reducible rfl))
      try simp only [Act.put, List.setIfInBounds_toArray, List.set_cons_zero, List.set_cons_succ]
      refine AnyT.done (by kernel_rfl) ?_ _
      go_wp2_with fail
      go_ret
      exact ⟨_, rfl, by rw [decide_eq_true_eq]; exact hRe x, hU2.trans hU3⟩
    exact AllT.nil
  exact AllT.nil
/-- A world of nothing but an arena and a cache. -/
theorem wcollect_x (w : World) (wb p cb nc : Nat) (c3 : Value) (v : Nat → Value) (A : Ar) (lv vr : Value) (ns : Nat → List Nat) (dd : Nat → Bool) (roots : List Nat) (M k : Nat) (Dc : DataW Nat) (C : Ca) (hB : Blk w wb #[.pointer (some ⟨p, 0, none⟩), .map (some cb), lv, c3] 73) (hwb : wb ∉ foot p v) (hP : Parts w p v A) (hS : Sees w p A lv ns dd) (hr : RefsAt w vr roots) (hb : ∀ r ∈ roots, r < 9223372036854775808) (hnb : ∀ r, ∀ y ∈ ns r, y < 9223372036854775808)
    (hM : ∀ r, (ns r).length ≤ M) (hbig : roots.length + M * A.slots.length ≤ 500000 ∧ A.slots.length ≤ 100000) (hR : Room A k) (hk : A.slots.length ≤ k)
    (ho : ∀ r o, A.find r = some o → ∃ (n : Nat) (m : Int), o.owner = n ∧ A.many[n]? = some m ∧ 0 ≤ m ∧ m ≤ 100000)
    (hcb : cb ∉ foot p v) (hC : w.ownsMap Tryz.prog 113 R1 cb nc Dc) (hCi : CacheIs Dc C)
    (hKeep : ∀ m t q, C m t = some q → Rea A (hsOf A ns dd) roots q ∧ ∀ wx, Chg (foot p v) w wx → Calls Tryz.prog 36 #[lv, .int .i64 m] wx fun e w' => e = .returned (.bool false) ∧ Up wx w') :
    Calls Tryz.prog 21 #[.pointer (some ⟨wb, 0, none⟩), vr] w fun e w' => ∃ (c : Int) (v' : Nat → Value) (A' : Ar) (gone : List Nat), e = .returned (.int .i64 c) ∧ Cl w w' p v v' A A' gone k A.slots.length ∧
      (∀ x, A'.find x ≠ none ↔ Rea A (hsOf A ns dd) roots x) := by
  have HU : Hid (Up w w.drew) := (Up.refl w).drew
  have CX := Lib.hid (collect_x w.drew p cb nc v A lv vr ns dd roots M k Dc C (hP.up HU.out) (hS.up HU.out) (hr.up HU.out) hb hnb hM hbig hR hk ho hcb (map_chg hC HU.out.chg (by simp)) hCi (fun m t q h => ⟨(hKeep m t q h).1, fun wx cx => (hKeep m t q h).2 wx ((HU.out.chg.mono (by simp)).trans cx (fun x hx => .inl hx))⟩))
  have HB := Lib.hid (And.intro hB hwb)
  clear hB hP hS hr hb hnb hM hbig hR hk ho hcb hC hCi hKeep hwb
  have e0 : w.drew.cell? ⟨wb, 0, none⟩ = some (.pointer (some ⟨p, 0, none⟩)) := up_cell1 HU.out (HB.out.1.cell 0)
  have e1 : w.drew.cell? ⟨wb, 1, none⟩ = some (.map (some cb)) := up_cell1 HU.out (HB.out.1.cell 1)
  have e2 : w.drew.cell? ⟨wb, 2, none⟩ = some lv := up_cell1 HU.out (HB.out.1.cell 2)
  go_enter Tryz.func21, Tryz.ntmps21
  go_upto_region 1 with (fail)
  refine AnyT.start (S := fun w' => w'.cell? ⟨wb, 0, none⟩ = some (.pointer (some ⟨p, 0, none⟩)) ∧ w'.cell? ⟨wb, 1, none⟩ = some (.map (some cb)) ∧ w'.cell? ⟨wb, 2, none⟩ = some lv) 16 (by kernel_rfl) ⟨e0, e1, e2⟩ (fun hHeld => ?_)
  have BD : Hid (Blk w.drew wb #[.pointer (some ⟨p, 0, none⟩), .map (some cb), lv, c3] 73) := HB.out.1.chg HU.out.chg (by simp)
  generalize World.drew w = wd at HU CX BD hHeld e0 e1 e2 ⊢
  refine AnyT.pick (i := 0) (oi := ⟨_, _, _, _, _, _⟩) (v := ?_) rfl (by kernel_rfl) (by kernel_rfl) (by kernel_rfl) (fun _ _ _ h => h) (Or.inl ⟨by rfl, ?y0_13⟩) ?_
  case' y0_13 => ((intro w hSw; go_simp) <;> (with_reducible rfl))
  try simp only [Act.put, List.setIfInBounds_toArray, List.set_cons_zero, List.set_cons_succ]
  refine AnyT.pick (i := 1) (oi := ⟨_, _, _, _, _, _⟩) (v := ?_) rfl (by kernel_rfl) (by kernel_rfl) (by kernel_rfl) (fun _ _ _ h => h) (Or.inl ⟨by rfl, ?y1_14⟩) ?_
  case' y1_14 => ((intro w hSw; go_simp) <;> (with_reducible rfl))
  try simp only [Act.put, List.setIfInBounds_toArray, List.set_cons_zero, List.set_cons_succ]
  refine AnyT.pick (i := 2) (oi := ⟨_, _, _, _, _, _⟩) (v := ?_) rfl (by kernel_rfl) (by kernel_rfl) (by kernel_rfl) (fun _ _ _ h => h) (Or.inl ⟨by rfl, ?y2_15⟩) ?_
  case' y2_15 => ((intro w hSw; go_simp) <;> (with_reducible rfl))
  try simp only [Act.put, List.setIfInBounds_toArray, List.set_cons_zero, List.set_cons_succ]
  refine AnyT.take (i := 3) (oi := ⟨_, _, _, _, _, _⟩) (v := ?_) rfl (by kernel_rfl) (by kernel_rfl) (by kernel_rfl) (by kernel_rfl) (fun _ _ _ h => h) (Or.inl ⟨by rfl, ?y3_16⟩) (by assumption) ?_
  case' y3_16 => ((intro w hSw; (try dsimp only at hSw); go_simp) <;> (with_reducible rfl))
  try simp only [Act.put, List.setIfInBounds_toArray, List.set_cons_zero, List.set_cons_succ]
  refine AnyT.pick (i := 4) (oi := ⟨_, _, _, _, _, _⟩) (v := ?_) rfl (by kernel_rfl) (by kernel_rfl) (by kernel_rfl) (fun _ _ _ h => h) (Or.inl ⟨by rfl, ?y4_17⟩) ?_
  case' y4_17 => ((intro w hSw; go_simp) <;> (with_reducible rfl))
  try simp only [Act.put, List.setIfInBounds_toArray, List.set_cons_zero, List.set_cons_succ]
  refine AnyT.pick (i := 5) (oi := ⟨_, _, _, _, _, _⟩) (v := ?_) rfl (by kernel_rfl) (by kernel_rfl) (by kernel_rfl) (fun _ _ _ h => h) (Or.inl ⟨by rfl, ?y5_18⟩) ?_
  case' y5_18 => ((intro w hSw; go_simp) <;> (with_reducible rfl))
  try simp only [Act.put, List.setIfInBounds_toArray, List.set_cons_zero, List.set_cons_succ]
  refine AnyT.pick (i := 6) (oi := ⟨_, _, _, _, _, _⟩) (v := ?_) rfl (by kernel_rfl) (by kernel_rfl) (by kernel_rfl) (fun _ _ _ h => h) (Or.inl ⟨by rfl, ?y6_19⟩) ?_
  case' y6_19 => ((intro w hSw; go_simp) <;> (with_reducible rfl))
  try simp only [Act.put, List.setIfInBounds_toArray, List.set_cons_zero, List.set_cons_succ]
  refine AnyT.pick (i := 7) (oi := ⟨_, _, _, _, _, _⟩) (v := ?_) rfl (by kernel_rfl) (by kernel_rfl) (by kernel_rfl) (fun _ _ _ h => h) (Or.inl ⟨by rfl, ?y7_20⟩) ?_
  case' y7_20 => ((intro w hSw; go_simp) <;> (with_reducible rfl))
  try simp only [Act.put, List.setIfInBounds_toArray, List.set_cons_zero, List.set_cons_succ]
  refine AnyT.take (i := 8) (oi := ⟨_, _, _, _, _, _⟩) (v := ?_) rfl (by kernel_rfl) (by kernel_rfl) (by kernel_rfl) (by kernel_rfl) (fun _ _ _ h => h) (Or.inl ⟨by rfl, ?y8_21⟩) (by assumption) ?_
  case' y8_21 => ((intro w hSw; (try dsimp only at hSw); go_simp) <;> (with_reducible rfl))
  try simp only [Act.put, List.setIfInBounds_toArray, List.set_cons_zero, List.set_cons_succ]
  refine AnyT.pick (i := 9) (oi := ⟨_, _, _, _, _, _⟩) (v := ?_) rfl (by kernel_rfl) (by kernel_rfl) (by kernel_rfl) (fun _ _ _ h => h) (Or.inl ⟨by rfl, ?y9_22⟩) ?_
  case' y9_22 => ((intro w hSw; go_simp) <;> (with_reducible rfl))
  try simp only [Act.put, List.setIfInBounds_toArray, List.set_cons_zero, List.set_cons_succ]
  refine AnyT.pick (i := 10) (oi := ⟨_, _, _, _, _, _⟩) (v := ?_) rfl (by kernel_rfl) (by kernel_rfl) (by kernel_rfl) (fun _ _ _ h => h) (Or.inl ⟨by rfl, ?y10_23⟩) ?_
  case' y10_23 => ((intro w hSw; go_simp) <;> (with_reducible rfl))
  try simp only [Act.put, List.setIfInBounds_toArray, List.set_cons_zero, List.set_cons_succ]
  refine AnyT.pick (i := 11) (oi := ⟨_, _, _, _, _, _⟩) (v := ?_) rfl (by kernel_rfl) (by kernel_rfl) (by kernel_rfl) (fun _ _ _ h => h) (Or.inl ⟨by rfl, ?y11_24⟩) ?_
  case' y11_24 => ((intro w hSw; go_simp) <;> (with_reducible rfl))
  try simp only [Act.put, List.setIfInBounds_toArray, List.set_cons_zero, List.set_cons_succ]
  refine AnyT.take (i := 12) (oi := ⟨_, _, _, _, _, _⟩) (v := ?_) rfl (by kernel_rfl) (by kernel_rfl) (by kernel_rfl) (by kernel_rfl) (fun _ _ _ h => h) (Or.inl ⟨by rfl, ?y12_25⟩) (by assumption) ?_
  case' y12_25 => ((intro w hSw; (try dsimp only at hSw); go_simp) <;> (with_reducible rfl))
  try simp only [Act.put, List.setIfInBounds_toArray, List.set_cons_zero, List.set_cons_succ]
  refine AnyT.pick (i := 13) (oi := ⟨_, _, _, _, _, _⟩) (v := ?_) rfl (by kernel_rfl) (by kernel_rfl) (by kernel_rfl) (fun _ _ _ h => h) (Or.inl ⟨by rfl, ?y13_26⟩) ?_
  case' y13_26 => ((intro w hSw; go_simp) <;> (with_reducible rfl))
  try simp only [Act.put, List.setIfInBounds_toArray, List.set_cons_zero, List.set_cons_succ]
  refine AllT.go (rs := [14]) (by kernel_rfl) (by simp) ?_
  refine AllT.early (o := ⟨_, _, _, _, _, _⟩) rfl (fun K hK => ?_) ?_
  · go_simp
    go_at_call 40
    refine CX.out.mono ?_
    rintro e wr ⟨c, v', A', gone, rfl, hCl, hRe⟩
    refine hK.out _ _ (by have h := BD.out.chg hCl.cg HB.out.2; exact ⟨h.cell 0, h.cell 1, h.cell 2⟩) (fun _ => ?_)
    clear hK K hHeld e0 e1 e2
    try simp only [Act.put, List.setIfInBounds_toArray, List.set_cons_zero, List.set_cons_succ]
    refine AnyT.pick (i := 15) (oi := ⟨_, _, _, _, _, _⟩) (v := ?_) rfl (by kernel_rfl) (by kernel_rfl) (by kernel_rfl) (fun _ _ _ h => h) (Or.inl ⟨by rfl, ?y15_27⟩) ?_
    case' y15_27 => ((intro w hSw; go_simp) <;> (with_reducible rfl))
    try simp only [Act.put, List.setIfInBounds_toArray, List.set_cons_zero, List.set_cons_succ]
    refine AnyT.done (by kernel_rfl) ?_ _
    go_wp2_with fail
    go_ret
    exact ⟨c, v', A', gone, rfl, ⟨hCl.pt, (HU.out.chg.mono (by simp)).trans hCl.cg (fun x hx => .inl hx), fun b hb => (hCl.sb b hb).imp id (fun h => Nat.le_trans HU.out.size h), hCl.dn⟩, hRe⟩
  exact AllT.nil
end Go.Proofs.YtmmfpkkkpeapeaaGreatDoor.ar

/- FrameRoots: the frames as they are made: plain laws of memory. -/
set_option linter.unusedVariables false
namespace Go.Proofs.YtmmfpkkkpeapeaaGreatDoor.ar
open Go.RowKit Go.Maps mem rec mb
set_option maxHeartbeats 400000
def v3C (x : V3) : List Value := [.int .u8 x.1, .int .i64 x.2.1, .string x.2.2]
def frC (sv : Value) : List Value := [.int .i64 0, .int .i64 0, .int .i64 0, sv, .int .i64 0, .int .i64 0, .slice none 0 0, .slice none 0 0]
theorem flat_v3 : ∀ (l : List V3) (n j : Nat) (s : V3), l[n]? = some s → j < 3 → (l.flatMap v3C)[n * 3 + j]? = (v3C s)[j]?
  | [], n, j, s, h, _ => by simp at h
  | a :: l, 0, j, s, h, hj => by
    simp at h; subst h
    rw [List.flatMap_cons, List.getElem?_append_left (by show _ < 3; omega)]; simp
  | a :: l, n + 1, j, s, h, hj => by
    simp at h
    rw [List.flatMap_cons, List.getElem?_append_right (by show 3 ≤ _; omega), show (v3C a).length = 3 from rfl, show (n + 1) * 3 + j - 3 = n * 3 + j by omega]
    exact flat_v3 l n j s h hj
theorem flat_fr : ∀ (l : List (Value × List V3)) (n j : Nat) (s : Value × List V3), l[n]? = some s → j < 8 → (l.flatMap fun x => frC x.1)[n * 8 + j]? = (frC s.1)[j]?
  | [], n, j, s, h, _ => by simp at h
  | a :: l, 0, j, s, h, hj => by
    simp at h; subst h
    rw [List.flatMap_cons, List.getElem?_append_left (by show _ < 8; omega)]; simp
  | a :: l, n + 1, j, s, h, hj => by
    simp at h
    rw [List.flatMap_cons, List.getElem?_append_right (by show 8 ≤ _; omega), show (frC a.1).length = 8 from rfl, show (n + 1) * 8 + j - 8 = n * 8 + j by omega]
    exact flat_fr l n j s h hj
theorem regs_of_row {w : World} {base : Nat} {v : Value} {R : List V3} (h : w.ownsRow base 51 3 v R.length (R.flatMap v3C)) : RegsAt w v R := by
  obtain ⟨a, c, e, -, -, h3⟩ := shape h
  refine ⟨a, c, e, ?_⟩
  by_cases h0 : R.length = 0
  · exact .inl h0
  · refine .inr ?_
    rcases h3 with ⟨-, h4, -⟩ | ⟨g, rfl, hg⟩
    · exact absurd h4 h0
    · refine ⟨g, rfl, hg, fun i x hx => ?_⟩
      have hi := (List.getElem?_eq_some_iff.1 hx).1
      rw [e] at h
      have cell : ∀ j, j < 3 → w.cell? ⟨g, i * 3 + j, none⟩ = (v3C x)[j]? := fun j hj => by
        rw [World.ownsRow.cellAt h (i * 3 + j) (by omega)]
        exact flat_v3 R i j x hx hj
      exact ⟨cell 0 (by omega), cell 1 (by omega), cell 2 (by omega)⟩
theorem RegsAt.chg {F : List Nat} {w w' : World} {v : Value} {R : List V3} (h : RegsAt w v R) (c : Chg F w w') (hn : ∀ b, v.ownBlock = some b → b ∉ F) : RegsAt w' v R := by
  obtain ⟨a, cp, e, h⟩ := h
  refine ⟨a, cp, e, h.imp id ?_⟩
  rintro ⟨b, rfl, e2, e3⟩
  have hb : b ∉ F := hn b (by rw [e]; rfl)
  exact ⟨b, rfl, Nat.lt_of_lt_of_le e2 c.size, fun i x hx => ⟨(c.cell e2 hb).trans (e3 i x hx).1, (c.cell e2 hb).trans (e3 i x hx).2.1, (c.cell e2 hb).trans (e3 i x hx).2.2⟩⟩
/-- The frames so far, the names wanted so far. -/
structure Lp2 (w2 wr : World) (wv fv : Value) (W : List Nat) (L : List (Value × List V3)) : Prop where
  up : Up w2 wr
  wrow : wr.ownsRow w2.heap.size 41 1 wv W.length (W.map (fun n : Nat => Value.int .u64 (n : Int)))
  frow : wr.ownsRow w2.heap.size 92 8 fv L.length (L.flatMap fun x => frC x.1)
  regs : ∀ x ∈ L, RegsAt wr x.1 x.2 ∧ ∀ b, x.1.ownBlock = some b → wv.ownBlock ≠ some b ∧ fv.ownBlock ≠ some b ∧ b < wr.heap.size
  nwf : ∀ b, wv.ownBlock = some b → fv.ownBlock ≠ some b
/-- A frame under way. -/
structure Lp3 (w2 wr : World) (wv fv : Value) (W : List Nat) (L : List (Value × List V3)) (fb : Nat) (cur : Value) (R : List V3) : Prop where
  l2 : Lp2 w2 wr wv fv W L
  crow : wr.ownsRow w2.heap.size 51 3 cur R.length (R.flatMap v3C)
  cn : ∀ b, cur.ownBlock = some b → wv.ownBlock ≠ some b ∧ fv.ownBlock ≠ some b ∧ b ≠ fb ∧ ∀ x ∈ L, x.1.ownBlock ≠ some b
  fblk : Blk wr fb #[.int .i64 0, .int .i64 0, .int .i64 0, cur, .int .i64 0, .int .i64 0, .slice none 0 0, .slice none 0 0] 92
  fn : wv.ownBlock ≠ some fb ∧ fv.ownBlock ≠ some fb ∧ (∀ x ∈ L, x.1.ownBlock ≠ some fb) ∧ w2.heap.size ≤ fb
section
variable {w2 wr w5 wx W6 : World} {wv fv cur : Value} {W : List Nat} {L : List (Value × List V3)} {fb : Nat} {R : List V3}
theorem Lp2.upd (h : Lp2 w2 wr wv fv W L) (u : Up wr wx) : Lp2 w2 wx wv fv W L :=
  ⟨h.up.trans u, owns_chg h.wrow u.chg (by simp), owns_chg h.frow u.chg (by simp), fun x hx => ⟨(h.regs x hx).1.up u, fun b hb => ⟨((h.regs x hx).2 b hb).1, ((h.regs x hx).2 b hb).2.1, Nat.lt_of_lt_of_le ((h.regs x hx).2 b hb).2.2 u.size⟩⟩, h.nwf⟩
theorem Lp3.upd (h : Lp3 w2 wr wv fv W L fb cur R) (u : Up wr wx) : Lp3 w2 wx wv fv W L fb cur R :=
  ⟨h.l2.upd u, owns_chg h.crow u.chg (by simp), h.cn, h.fblk.chg u.chg (by simp), h.fn⟩
theorem Lp2.start (w2 : World) : Lp2 w2 w2 (.slice none 0 0) (.slice none 0 0) [] [] := ⟨Up.refl _, World.ownsRow_nil _ _ _ _, World.ownsRow_nil _ _ _ _, fun x hx => by simp at hx, fun b hb => by cases hb⟩
theorem Lp2.frame (h : Lp2 w2 wr wv fv W L) : Lp3 w2 (wr.alloc (.cells #[.int .i64 0, .int .i64 0, .int .i64 0, .slice none 0 0, .int .i64 0, .int .i64 0, .slice none 0 0, .slice none 0 0] 92)) wv fv W L wr.heap.size (.slice none 0 0) [] := by
  refine ⟨h.upd ((Up.refl _).alloc _), World.ownsRow_nil _ _ _ _, fun b hb => (by cases hb), Blk.new wr _ _, fun hx => ?_, fun hx => ?_, fun x hx hb => ?_, h.up.size⟩
  · have := (h.wrow.lt _ hx).2; omega
  · have := (h.frow.lt _ hx).2; omega
  · have := ((h.regs x hx).2 _ hb).2.2; omega
/-- A name more is wanted. -/
theorem Lp3.want (h : Lp3 w2 wr wv fv W L fb cur R) {g c : Nat} {r : Nat} (u : Up wr W6) (hrow : w5.ownsRow w2.heap.size 41 1 (.slice (some ⟨g, 0, none⟩) (W.length + 1) c) (W.length + 1) (W.map (fun n : Nat => Value.int .u64 (n : Int)) ++ [.int .u64 (r : Int)])) (hg : W6.grownBy w5 wv.ownBlock) (at_ : wv.ownBlock = some g ∨ g = W6.heap.size) :
    Lp3 w2 w5 (.slice (some ⟨g, 0, none⟩) (W.length + 1) c) fv (W ++ [r]) L fb cur R := by
  have hu := h.upd u
  have C5 : Chg wv.ownBlock.toList W6 w5 := (Chg.refl _ W6).grown hg (fun b hb => .inl (by simp [hb]))
  have ne : ∀ b, b < W6.heap.size → wv.ownBlock ≠ some b → b ≠ g := fun b hb hn e => by
    rcases at_ with h1 | h1
    · exact hn (by rw [h1, e])
    · omega
  have lf : ∀ b, fv.ownBlock = some b → b < W6.heap.size := fun b hb => (hu.l2.frow.lt b hb).2
  have lc : ∀ b, cur.ownBlock = some b → b < W6.heap.size := fun b hb => (hu.crow.lt b hb).2
  have up5 : Up w2 w5 := hu.l2.up.grown hg hu.l2.up.size (fun k e => (hu.l2.wrow.lt k e).1)
  refine ⟨⟨up5, by rw [List.length_append, List.map_append]; exact hrow, owns_chg hu.l2.frow C5 (fun b hb hx => ?_), fun x hx => ⟨(hu.l2.regs x hx).1.chg C5 (fun b hb hy => ?_), fun b hb => ⟨fun e => ?_, ((hu.l2.regs x hx).2 b hb).2.1, Nat.lt_of_lt_of_le ((hu.l2.regs x hx).2 b hb).2.2 C5.size⟩⟩, fun b hb e => ?_⟩, owns_chg hu.crow C5 (fun b hb hx => ?_), fun b hb => ⟨fun e => ?_, (hu.cn b hb).2⟩, hu.fblk.chg C5 (fun hx => ?_), fun e => ?_, hu.fn.2⟩
  · exact hu.l2.nwf b (by simpa using hx) hb
  · exact ((hu.l2.regs x hx).2 b hb).1 (by simpa using hy)
  · cases e
    exact ne g ((hu.l2.regs x hx).2 g hb).2.2 ((hu.l2.regs x hx).2 g hb).1 rfl
  · cases hb
    exact ne g (lf g e) (fun h2 => hu.l2.nwf g h2 e) rfl
  · exact (hu.cn b hb).1 (by simpa using hx)
  · cases e
    exact ne g (lc g hb) (hu.cn g hb).1 rfl
  · exact hu.fn.1 (by simpa using hx)
  · cases e
    exact ne g hu.fblk.lt hu.fn.1 rfl
/-- A register more. -/
theorem Lp3.reg (h : Lp3 w2 wr wv fv W L fb cur R) {g c : Nat} {x : V3} (u : Up wr W6) (hrow : w5.ownsRow w2.heap.size 51 3 (.slice (some ⟨g, 0, none⟩) (R.length + 1) c) (R.length + 1) (R.flatMap v3C ++ v3C x)) (hg : W6.grownBy w5 cur.ownBlock) (at_ : cur.ownBlock = some g ∨ g = W6.heap.size) :
    Lp3 w2 (w5.setCell ⟨fb, 3, none⟩ (.slice (some ⟨g, 0, none⟩) (R.length + 1) c)) wv fv W L fb (.slice (some ⟨g, 0, none⟩) (R.length + 1) c) (R ++ [x]) := by
  have hu := h.upd u
  have C5 : Chg cur.ownBlock.toList W6 w5 := (Chg.refl _ W6).grown hg (fun b hb => .inl (by simp [hb]))
  have CS : Chg [fb] w5 (w5.setCell ⟨fb, 3, none⟩ (.slice (some ⟨g, 0, none⟩) (R.length + 1) c)) := (Chg.refl _ w5).setCell (p := ⟨fb, 3, none⟩) (.inl (by simp)) _
  have CA : Chg (cur.ownBlock.toList ++ [fb]) W6 (w5.setCell ⟨fb, 3, none⟩ (.slice (some ⟨g, 0, none⟩) (R.length + 1) c)) := (C5.mono (fun y hy => List.mem_append_left _ hy)).trans CS (fun y hy => .inl (List.mem_append_right _ hy))
  have inF : ∀ b ∈ cur.ownBlock.toList ++ [fb], cur.ownBlock = some b ∨ b = fb := fun b hb => by
    rcases List.mem_append.1 hb with h1 | h1
    · exact .inl (by simpa using h1)
    · exact .inr (List.mem_singleton.1 h1)
  have ne : ∀ b, b < W6.heap.size → cur.ownBlock ≠ some b → b ≠ g := fun b hb hn e => by
    rcases at_ with h1 | h1
    · exact hn (by rw [h1, e])
    · omega
  have nc : ∀ b, (∀ b', cur.ownBlock = some b' → b' ≠ b) → b ≠ fb → b ∉ cur.ownBlock.toList ++ [fb] := fun b h1 h2 hb => by
    rcases inF b hb with h3 | h3
    · exact h1 b h3 rfl
    · exact h2 h3
  have lw : ∀ b, wv.ownBlock = some b → b < W6.heap.size := fun b hb => (hu.l2.wrow.lt b hb).2
  have lf : ∀ b, fv.ownBlock = some b → b < W6.heap.size := fun b hb => (hu.l2.frow.lt b hb).2
  have cw : ∀ b, wv.ownBlock = some b → cur.ownBlock ≠ some b := fun b hb e => (hu.cn b e).1 hb
  have cf : ∀ b, fv.ownBlock = some b → cur.ownBlock ≠ some b := fun b hb e => (hu.cn b e).2.1 hb
  have cr : ∀ y ∈ L, ∀ b, y.1.ownBlock = some b → cur.ownBlock ≠ some b := fun y hy b hb e => (hu.cn b e).2.2.2 y hy hb
  have cfb : cur.ownBlock ≠ some fb := fun e => (hu.cn fb e).2.2.1 rfl
  have gfb : fb ≠ g := ne fb hu.fblk.lt cfb
  have up5 : Up w2 (w5.setCell ⟨fb, 3, none⟩ (.slice (some ⟨g, 0, none⟩) (R.length + 1) c)) := (hu.l2.up.grown hg hu.l2.up.size (fun k e => (hu.crow.lt k e).1)).setCell (p := ⟨fb, 3, none⟩) hu.fn.2.2.2 _
  have hb5 : Blk w5 fb #[.int .i64 0, .int .i64 0, .int .i64 0, cur, .int .i64 0, .int .i64 0, .slice none 0 0, .slice none 0 0] 92 := hu.fblk.chg C5 (fun hx => cfb (by simpa using hx))
  have hs := heap_setCell_same w5 fb 3 _ _ (.slice (some ⟨g, 0, none⟩) (R.length + 1) c) hb5
  refine ⟨⟨up5, owns_chg hu.l2.wrow CA (fun b hb => nc b (fun b' e1 e2 => cw b hb (by rw [e1, e2])) (fun e => hu.fn.1 (by rw [← e]; exact hb))), owns_chg hu.l2.frow CA (fun b hb => nc b (fun b' e1 e2 => cf b hb (by rw [e1, e2])) (fun e => hu.fn.2.1 (by rw [← e]; exact hb))),
    fun y hy => ⟨(hu.l2.regs y hy).1.chg CA (fun b hb => nc b (fun b' e1 e2 => cr y hy b hb (by rw [e1, e2])) (fun e => hu.fn.2.2.1 y hy (by rw [← e]; exact hb))), fun b hb => ⟨((hu.l2.regs y hy).2 b hb).1, ((hu.l2.regs y hy).2 b hb).2.1, Nat.lt_of_lt_of_le ((hu.l2.regs y hy).2 b hb).2.2 CA.size⟩⟩, hu.l2.nwf⟩, ?_, fun b hb => ?_, ?_, hu.fn⟩
  · rw [List.length_append, List.flatMap_append, List.flatMap_singleton]
    exact owns_chg hrow CS (fun b hb hx => by cases hb; exact gfb (List.mem_singleton.1 hx).symm)
  · cases hb
    exact ⟨fun e => ne g (lw g e) (cw g e) rfl, fun e => ne g (lf g e) (cf g e) rfl, fun e => gfb e.symm, fun y hy e => ne g ((hu.l2.regs y hy).2 g e).2.2 (cr y hy g e) rfl⟩
  · unfold Blk
    rw [hs]
    simp
/-- A frame more. -/
theorem Lp3.done (h : Lp3 w2 wr wv fv W L fb cur R) {g c : Nat} (u : Up wr W6) (hrow : w5.ownsRow w2.heap.size 92 8 (.slice (some ⟨g, 0, none⟩) (L.length + 1) c) (L.length + 1) ((L.flatMap fun x => frC x.1) ++ frC cur)) (hg : W6.grownBy w5 fv.ownBlock) (at_ : fv.ownBlock = some g ∨ g = W6.heap.size) :
    Lp2 w2 w5 wv (.slice (some ⟨g, 0, none⟩) (L.length + 1) c) W (L ++ [(cur, R)]) := by
  have hu := h.upd u
  have C5 : Chg fv.ownBlock.toList W6 w5 := (Chg.refl _ W6).grown hg (fun b hb => .inl (by simp [hb]))
  have ne : ∀ b, b < W6.heap.size → fv.ownBlock ≠ some b → b ≠ g := fun b hb hn e => by
    rcases at_ with h1 | h1
    · exact hn (by rw [h1, e])
    · omega
  have lw : ∀ b, wv.ownBlock = some b → b < W6.heap.size := fun b hb => (hu.l2.wrow.lt b hb).2
  have lc : ∀ b, cur.ownBlock = some b → b < W6.heap.size := fun b hb => (hu.crow.lt b hb).2
  have up5 : Up w2 w5 := hu.l2.up.grown hg hu.l2.up.size (fun k e => (hu.l2.frow.lt k e).1)
  refine ⟨up5, owns_chg hu.l2.wrow C5 (fun b hb hx => hu.l2.nwf b hb (by simpa using hx)), by rw [List.length_append, List.flatMap_append, List.flatMap_singleton]; exact hrow, fun y hy => ?_, fun b hb e => ?_⟩
  · rcases List.mem_append.1 hy with h1 | h1
    · refine ⟨(hu.l2.regs y h1).1.chg C5 (fun b hb hx => ((hu.l2.regs y h1).2 b hb).2.1 (by simpa using hx)), fun b hb => ⟨((hu.l2.regs y h1).2 b hb).1, fun e => ?_, Nat.lt_of_lt_of_le ((hu.l2.regs y h1).2 b hb).2.2 C5.size⟩⟩
      cases e
      exact ne g ((hu.l2.regs y h1).2 g hb).2.2 ((hu.l2.regs y h1).2 g hb).2.1 rfl
    · rw [List.mem_singleton.1 h1]
      refine ⟨(regs_of_row hu.crow).chg C5 (fun b hb hx => (hu.cn b hb).2.1 (by simpa using hx)), fun b hb => ⟨(hu.cn b hb).1, fun e => ?_, Nat.lt_of_lt_of_le (lc b hb) C5.size⟩⟩
      cases e
      exact ne g (lc g hb) (hu.cn g hb).2.1 rfl
  · cases e
    exact ne g (lw g hb) (hu.l2.nwf g hb) rfl
theorem Lp2.frames (h : Lp2 w2 wr wv fv W L) : FrsAt wr fv (L.map (·.2)) := by
  obtain ⟨a, c, e, -, -, h3⟩ := shape h.frow
  refine ⟨a, c, by rw [List.length_map]; exact e, ?_⟩
  rw [List.length_map]
  by_cases h0 : L.length = 0
  · exact .inl h0
  · refine .inr ?_
    rcases h3 with ⟨-, h4, -⟩ | ⟨g, rfl, hg⟩
    · exact absurd h4 h0
    · refine ⟨g, rfl, hg, fun i R hR => ?_⟩
      rw [List.getElem?_map] at hR
      obtain ⟨x, hx, rfl⟩ := Option.map_eq_some_iff.1 hR
      have hi := (List.getElem?_eq_some_iff.1 hx).1
      have hrow := h.frow
      rw [e] at hrow
      have cell : ∀ j, j < 8 → wr.cell? ⟨g, i * 8 + j, none⟩ = (frC x.1)[j]? := fun j hj => by
        rw [World.ownsRow.cellAt hrow (i * 8 + j) (by omega)]
        exact flat_fr L i j x hx hj
      exact ⟨x.1, (h.regs x (List.mem_of_getElem? hx)).1, cell 0 (by omega), cell 1 (by omega), cell 2 (by omega), cell 3 (by omega), cell 4 (by omega), cell 5 (by omega), cell 6 (by omega), cell 7 (by omega)⟩
end
end Go.Proofs.YtmmfpkkkpeapeaaGreatDoor.ar

/- FrameRoots: what is handed in; the world with its brands: plain. -/
set_option linter.unusedVariables false
namespace Go.Proofs.YtmmfpkkkpeapeaaGreatDoor.ar
open Go.RowKit Go.Maps mem rec mb
set_option maxHeartbeats 400000
/-- A row of bytes as it is handed in. -/
def BsAt (w : World) (b o : Nat) (v : Value) : Prop := w.cell? ⟨b, o, none⟩ = some v ∧ op.Handed 1 op.U8At v w
section
variable {H : Type} {enc : TypeId × Value → H} {w : World} {base : Nat} {spare : Nat → Bool} {held : Bool}
theorem open_bss {fuel : Nat} {v : Value} {x : DataW H × List MemPlace} (h : DataW.trod enc Tryz.prog w base spare held fuel 96 [v] = some x) : op.Handed 1 BsAt v w := by
  refine op.open_slice (.slice none 0 0) Tryz.underlying96 (by kernel_rfl) (by decide) BsAt ?_ h
  intro fuel L x hx
  have hL : ∃ u, L = [u] := by
    rcases DataW.trod_slice Tryz.underlying101 hx with ⟨h0, _⟩ | ⟨a, len, cap, elems, rest, n, _, he, _⟩
    · exact ⟨_, h0⟩
    · exact ⟨_, he⟩
  obtain ⟨u, rfl⟩ := hL
  exact ⟨u, fun b o hj => ⟨by have := hj 0 (by decide); simpa using this, op.open_bytes hx⟩⟩
end
theorem hand_up {c : Nat} {w w' : World} {v : Value} (h : op.Handed c op.U8At v w) (u : Up w w') : op.Handed c op.U8At v w' := by
  obtain ⟨a, n, cap, sp, e, h⟩ := h
  refine ⟨a, n, cap, sp, e, h.imp id ?_⟩
  rintro ⟨b, off, e1, e2, e3⟩
  exact ⟨b, off, e1, Nat.lt_of_lt_of_le e2 u.size, fun i hi => ⟨up_cell1 u (e3 i hi).1, (e3 i hi).2⟩⟩
/-- The world of n brands. -/
structure Br (w0 w : World) (wb p cb : Nat) (v : Nat → Value) (n : Nat) : Prop where
  hB : Blk w wb #[.pointer (some ⟨p, 0, none⟩), .map (some cb), .slice none 0 0, .slice none 0 0] 73
  pt : Parts w p v (brandAr n)
  mp : w.ownsMap Tryz.prog 113 R1 cb 0 (.map [])
  nw : wb ∉ foot p v
  nc : cb ∉ foot p v
  ge : w0.heap.size ≤ wb ∧ w0.heap.size ≤ cb ∧ ∀ b ∈ foot p v, w0.heap.size ≤ b
  up : Up w0 w
section
variable {w0 w w1 : World} {wb p cb n : Nat} {v v1 : Nat → Value}
theorem Br.upd (h : Br w0 w wb p cb v n) (u : Up w w1) : Br w0 w1 wb p cb v n :=
  ⟨h.hB.chg u.chg (by simp), h.pt.up u, map_chg h.mp u.chg (by simp), h.nw, h.nc, h.ge, h.up.trans u⟩
theorem Br.put (h : Br w0 w wb p cb v n) (hp : Parts w1 p v1 ((brandAr n).add brandOb)) (c : Chg (foot p v) w w1) (sb : ∀ b ∈ foot p v1, b ∈ foot p v ∨ w.heap.size ≤ b) : Br w0 w1 wb p cb v1 (n + 1) := by
  have lw := h.hB.lt
  have lc := h.mp.lt
  have nf : ∀ b, b < w.heap.size → b ∉ foot p v → b ∉ foot p v1 := fun b hb hn hx => by
    rcases sb b hx with h1 | h1
    · exact hn h1
    · omega
  refine ⟨h.hB.chg c h.nw, by rw [← brs_add]; exact hp, map_chg h.mp c h.nc, nf wb lw h.nw, nf cb lc h.nc, ⟨h.ge.1, h.ge.2.1, fun b hb => ?_⟩, Below.trans h.up (c.below h.up.size h.ge.2.2)⟩
  rcases sb b hb with h1 | h1
  · exact h.ge.2.2 b h1
  · exact Nat.le_trans h.up.size h1
theorem Br.sees {lv : Value} (h : Br w0 w wb p cb v n) (hn : n ≤ 1000) : Sees w p (brandAr n) lv (fun _ => []) (fun _ => false) := by
  refine sees_of h.pt (brs_room n 100 (by omega)) (fun r o hf => ?_) (fun r o hf hk => ?_)
  · obtain ⟨i, -, -, rfl⟩ := (brs_find hn).1 hf
    exact ⟨rfl, rfl, rfl, rfl, 0, rfl, rfl⟩
  · obtain ⟨i, -, -, rfl⟩ := (brs_find hn).1 hf
    exact absurd hk (by show ¬ (2 : Int) = 6; decide)
end
theorem brs_refs (n : Nat) (hn : n ≤ 1000) : ∀ r, r ∈ refsOf (brandAr n).slots ↔ ∃ i, i < n ∧ r = 4294967296 + i := fun r => by
  rw [refsOf_mem (brs_room n 100 (by omega))]
  constructor
  · rintro ⟨o, h⟩
    obtain ⟨i, hi, he, -⟩ := (brs_find hn).1 h
    exact ⟨i, hi, he⟩
  · rintro ⟨i, hi, he⟩
    exact ⟨_, (brs_find hn).2 ⟨i, hi, he, rfl⟩⟩
theorem brs_hs (n : Nat) (hn : n ≤ 1000) (r : Nat) : hsOf (brandAr n) (fun _ => []) (fun _ => false) r = [] := by
  unfold hsOf
  split
  · split <;> rfl
  · rfl
theorem brs_rea {n : Nat} (hn : n ≤ 1000) {roots : List Nat} (hr : ∀ r ∈ roots, ∃ i, i < n ∧ r = 4294967296 + i) (x : Nat) : Rea (brandAr n) (hsOf (brandAr n) (fun _ => []) (fun _ => false)) roots x ↔ x ∈ roots := by
  constructor
  · intro h
    induction h with
    | root h1 h2 => exact h1
    | step h1 h2 h3 ih => rw [brs_hs n hn] at h2; simp at h2
  · intro h
    obtain ⟨i, hi, he⟩ := hr x h
    refine .root h (fun hf => ?_)
    rw [(brs_find hn).2 ⟨i, hi, he, rfl⟩] at hf
    cases hf
end Go.Proofs.YtmmfpkkkpeapeaaGreatDoor.ar
