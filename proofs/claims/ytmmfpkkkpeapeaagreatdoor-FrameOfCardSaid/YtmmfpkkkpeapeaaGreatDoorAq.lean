/- The arena's Put, where there is room. -/
import Derived.Test.YtmmfpkkkpeapeaaGreatDoorAo
import Derived.Deep.RegionLaw
set_option linter.unusedVariables false
set_option linter.unusedSimpArgs false
namespace Go.Proofs.YtmmfpkkkpeapeaaGreatDoor.ar
open Go.RowKit Go.Maps mem rec
attribute [local go_sem ↓] Go.wp_at_zero Go.wp_at_succ
set_option maxRecDepth 100000
set_option maxHeartbeats 2000000
theorem put_room (w : World) (p : Nat) (v : Nat → Value) (A : Ar) (o : Ob) (h : Parts w p v A) (n : Nat) (q m : Int) (hn : o.owner = n) (hq : A.quotas[n]? = some q) (hm : A.many[n]? = some m) (hlt : m < q) (hq1 : q ≤ 1000000) (hm0 : 0 ≤ m)
    (hs : A.slots.length < 1000000) (hu : ∀ s ∈ A.slots, s.uses < 1000000) (hfl : ∀ n ∈ A.free, n < A.slots.length) (hfn : A.free.length < 1000000) :
    Calls Tryz.prog 27 #[.pointer (some ⟨p, 0, none⟩), .agg o.cells.toArray] w fun e w' => ∃ v', e = .returned (.tuple #[.int .u64 A.name, .int .i64 0]) ∧ Parts w' p v' (A.add o) ∧ Chg (foot p v) w w' ∧ ∀ b ∈ foot p v', b ∈ foot p v ∨ w.heap.size ≤ b := by
  have hlq : n < A.quotas.length := (List.getElem?_eq_some_iff.1 hq).1
  have hlm : n < A.many.length := (List.getElem?_eq_some_iff.1 hm).1
  have hhas : A.has n = true := by simp [Ar.has]; omega
  obtain ⟨d2, -⟩ := h.cell 2 (by omega)
  obtain ⟨d3, -⟩ := h.cell 3 (by omega)
  obtain ⟨d1, -⟩ := h.cell 1 (by omega)
  obtain ⟨g2, cap2, hv2, -, l2⟩ := (h.ow 2 (by omega)).form (show 0 < A.len 2 by show 0 < A.quotas.length; omega)
  obtain ⟨g3, cap3, hv3, -, l3⟩ := (h.ow 3 (by omega)).form (show 0 < A.len 3 by show 0 < A.many.length; omega)
  obtain ⟨a1, cap1, hv1, -, -, -⟩ := shape (h.ow 1 (by omega))
  have hv2' : v 2 = .slice (some ⟨g2, 0, none⟩) A.quotas.length cap2 := hv2
  have hv3' : v 3 = .slice (some ⟨g3, 0, none⟩) A.many.length cap3 := hv3
  have hv1' : v 1 = .slice a1 A.free.length cap1 := hv1
  have o2 := h.ow 2 (by omega)
  have o3 := h.ow 3 (by omega)
  rw [hv2'] at o2 d2
  rw [hv3'] at o3 d3
  rw [hv1'] at d1
  have e2 : w.cell? ⟨g2, n, none⟩ = some (.int .i64 q) := by
    have := World.ownsRow.cellAt o2 n (show n < A.quotas.length * 1 by omega)
    rw [this]; show (A.quotas.map _)[n]? = _; simp [hq]
  have e3 : w.cell? ⟨g3, n, none⟩ = some (.int .i64 m) := by
    have := World.ownsRow.cellAt o3 n (show n < A.many.length * 1 by omega)
    rw [this]; show (A.many.map _)[n]? = _; simp [hm]
  have hpl := h.hd.lt
  have HP := Lib.hid (And.intro h hhas)
  have HQ := Lib.hid (And.intro hq (And.intro hm (And.intro hlq (And.intro hlm (And.intro hu hfl)))))
  have H1 := Lib.hid hv1'
  clear h hhas hv2 hv3 hv2' hv3' hv1 o2 o3 hq hm hu hfl hv1'
  obtain ⟨kind, owner, frozen, fields, module, func, ha, hn', hc, brand, content, membrane, target, deep⟩ := o
  obtain ⟨k1, k2, k3⟩ := content
  simp only at hn
  subst hn
  have M0 : Mid w (w.alloc (.cells #[.int .u8 kind, .int .i64 n, .bool frozen, .map fields, .int .i64 module, .int .i64 func, .slice ha hn' hc, .int .u64 brand, .int .u8 k1, .int .i64 k2, .string k3, .int .i64 membrane, .int .u64 target, .int .i64 deep] 66)) p v v A ⟨kind, n, frozen, fields, module, func, ha, hn', hc, brand, (k1, k2, k3), membrane, target, deep⟩ :=
    ⟨HP.out.1.up ((Up.refl w).alloc _), (Chg.refl _ w).alloc _, fun b hb => .inl hb, fun j u hj => by
      rw [show (⟨w.heap.size, 0 + j, none⟩ : Addr) = ⟨w.heap.size, j, none⟩ by simp, World.cell?_alloc_at _ _ _ _ rfl]
      simpa [Ob.cells] using hj, by simp, fun b hb => HP.out.1.lt b hb⟩
  have M0 := Lib.hid M0
  simp only [Ob.cells]
  generalize A.quotas.length = lq at *
  generalize A.many.length = lm at *
  have i0 : (0 : Int) ≤ (n : Int) := by omega
  have i1 : (n : Int) < (lq : Int) := by omega
  have i2 : (n : Int) < (lm : Int) := by omega
  have hne : ¬ q ≤ m := by omega
  go_enter Tryz.func27, Tryz.ntmps27
  go_wp2_with fail
  refine (has_x _ p _ v A (HP.out.1.up ((Up.refl w).alloc _))).mono ?_
  rintro e w1 ⟨rfl, rfl⟩
  rw [HP.out.2]
  go_wp2_with fail
  go_cut [29] from 13 to 28 (fun c wx => c = .bool (decide (q ≤ m)) ∧ Mid w wx p v v A ⟨kind, n, frozen, fields, module, func, ha, hn', hc, brand, (k1, k2, k3), membrane, target, deep⟩)
  case first =>
    go_quiet (fail)
    go_wp2_with fail
    go_meet
    exact ⟨rfl, M0.out.up (up_drewN (Up.refl _) _)⟩
  obtain ⟨rfl, hM⟩ := hcut
  have M1 := Lib.hid hM
  clear M0
  clear hM d1 d2 d3 e2 e3
  obtain ⟨wq, rfl⟩ : ∃ wq : World, wq = wc := ⟨_, rfl⟩
  obtain ⟨d1, -⟩ := M1.out.pt.cell 1 (by omega)
  rw [H1.out] at d1
  go_upto_if 35 with (fail)
  go_cut [] from 34 to 60 (fun wx => ∃ v', Mid w wx p v v' A.grow ⟨kind, n, frozen, fields, module, func, ha, hn', hc, brand, (k1, k2, k3), membrane, target, deep⟩)
  case first =>
    by_cases hf : A.free = []
    · have hb : ((A.free.length : Int) == 0) = true := by simp [hf]
      obtain ⟨-, f1⟩ := M1.out.pt.cell 1 (by omega)
      obtain ⟨d0, -⟩ := M1.out.pt.cell 0 (by omega)
      obtain ⟨a0, cap0, hv0, -, -, -⟩ := shape (M1.out.pt.ow 0 (by omega))
      have hv0' : v 0 = .slice a0 A.slots.length cap0 := hv0
      have E : Hid (A.grow = { A with slots := A.slots ++ [sl0], free := [A.slots.length] }) := by show A.grow = _; unfold Ar.grow; rw [if_pos hf]
      have hfl0 : A.free.length = 0 := by simp [hf]
      have HF := Lib.hid hf
      have H0 := Lib.hid hv0'
      rw [hv0'] at d0
      have hown : wq.ownsRow 0 115 1 (.slice a1 0 cap1) 0 [] := by
        have := M1.out.pt.ow 1 (by omega)
        rw [H1.out] at this
        simpa [Ar.len, Ar.row, hf, eT, eS] using this
      have HO := Lib.hid hown
      rw [hfl0] at d1
      have HPP : Hid (some p ≠ (Value.slice a1 0 cap1).ownBlock) := by
        have := M1.out.pt.pp 1 (by omega)
        rw [H1.out, hfl0] at this
        exact fun e => this e.symm
      have hpq : p < wq.heap.size := M1.out.pt.hd.lt
      clear hf hv0 hv0' hown hlt hq1 hm0 l2 l3 hlq hlm i0 i1 i2 hne
      generalize hls : A.slots.length = ls at *
      have HLS := Lib.hid hls
      clear hls
      obtain ⟨iu, hi, hz0, hz1, hz2⟩ := info_parts infoU32
      have HI := Lib.hid (And.intro hi (And.intro hz0 (And.intro hz1 hz2)))
      clear hi hz0 hz1 hz2 hfl0
      have hwr : IntKind.u32.wrap (ls : Int) = (ls : Int) := by rw [IntKind.wrap_u32]; omega
      go_wp2_with fail
      go_cut [] from 34 to 50 (fun wx => ∃ v', v' 0 = v 0 ∧ Mid w wx p v v' { A with free := [ls] } ⟨kind, n, frozen, fields, module, func, ha, hn', hc, brand, (k1, k2, k3), membrane, target, deep⟩)
      case first =>
        go_region_law
          ((refine step_append_lies _ (by rfl) (.tmp 40) (.tmp 47) 118 (by rfl) 0 115 iu (.int .u32 0) 1 4 Tryz.underlying118 HI.out.1 HI.out.2.1 HI.out.2.2.1 HI.out.2.2.2 (by rfl) (by decide) (.slice a1 0 cap1) 0 [] (by rfl) (by first | exact HO.out.drew.alloc _ | exact (HO.out.alloc _).drew) ⟨wq.heap.size, 0, none⟩ 1 1 [.int .u32 (ls : Int)] (by rfl) (by rfl) (World.news_of_block (cs := #[.int .u32 (ls : Int)]) (t := 115) (fr := (0, 0)) (by exact heap_alloc_new wq _)) (by intro u hu; simp at hu; subst hu; rfl) (by decide) (by unfold maxLen; omega) (by omega) (by omega) (wq.heap.size + 1) (by simp) ?_; intro g cap w5 hown5 hgrow5 hat5 hlt5; have y1 : w5.cell? ⟨p, 1, none⟩ = some (.slice a1 0 cap1) := (by refine (hgrow5.cell_far _ (by simp; omega) HPP.out).trans ?_; go_simp); have y2 : w5.frozen? ⟨p, 1, none⟩ = false := (by refine (hgrow5.frozen_far _ (by simp; omega) HPP.out).trans ?_; go_simp)))
        all_goals
          go_wp2_with fail
          go_meet
          exact ⟨_, upd_other v _ (by decide), M1.out.app (A' := { A with free := [ls] }) 1 (by omega) ((Up.refl wq).alloc _).drew (by rw [H1.out, HF.out]; rfl) hown5 hgrow5 (by simpa using hat5) (fun j hj hne => by rcases (by omega : j = 0 ∨ j = 2 ∨ j = 3) with rfl | rfl | rfl <;> exact ⟨rfl, rfl⟩)⟩
      case rest =>
        obtain ⟨v2, hv2, hM2⟩ := hcut
        have M2 := Lib.hid hM2
        have H2 := Lib.hid (hv2.trans H0.out)
        clear hM2 hv2 d0 d1 f1 hpq
        obtain ⟨d0, f0⟩ := M2.out.pt.cell 0 (by omega)
        rw [H2.out] at d0
        have HO2 : Hid (wc.ownsRow 0 122 16 (.slice a0 ls cap0) ls (A.slots.flatMap Sl.cells)) := by
          have := M2.out.pt.ow 0 (by omega)
          rw [H2.out] at this
          show wc.ownsRow 0 122 16 (.slice a0 ls cap0) ls (A.slots.flatMap Sl.cells)
          rw [← HLS.out]
          rw [← HLS.out] at this
          exact this
        have HPP2 : Hid (some p ≠ (Value.slice a0 ls cap0).ownBlock) := by
          have := M2.out.pt.pp 0 (by omega)
          rw [H2.out] at this
          exact fun e => this e.symm
        have hpq : p < wc.heap.size := M2.out.pt.hd.lt
        obtain ⟨is, hi, hz0, hz1, hz2⟩ := info_parts infoSlot
        have HJ := Lib.hid (And.intro hi (And.intro hz0 (And.intro hz1 hz2)))
        clear hi hz0 hz1 hz2
        go_wp2_with (at_builtin; refine wpList_append_lies _ rfl (.tmp 55) (.tmp 57) 117 rfl 0 122 is (.agg #[.int .u32 0, .bool false, .int .u8 0, .int .i64 0, .bool false, .map none, .int .i64 0, .int .i64 0, .slice none 0 0, .int .u64 0, .int .u8 0, .int .i64 0, .string ⟨#[]⟩, .int .i64 0, .int .u64 0, .int .i64 0]) 16 144 Tryz.underlying117 HJ.out.1 HJ.out.2.1 HJ.out.2.2.1 HJ.out.2.2.2 rfl (by decide) (.slice a0 ls cap0) ls _ rfl (HO2.out.alloc _) ⟨wc.heap.size, 0, none⟩ 1 1 [.int .u32 0, .bool false, .int .u8 0, .int .i64 0, .bool false, .map none, .int .i64 0, .int .i64 0, .slice none 0 0, .int .u64 0, .int .u8 0, .int .i64 0, .string ⟨#[]⟩, .int .i64 0, .int .u64 0, .int .i64 0] rfl rfl (World.news_of_block (cs := #[.int .u32 0, .bool false, .int .u8 0, .int .i64 0, .bool false, .map none, .int .i64 0, .int .i64 0, .slice none 0 0, .int .u64 0, .int .u8 0, .int .i64 0, .string ⟨#[]⟩, .int .i64 0, .int .u64 0, .int .i64 0]) (t := 122) (fr := (0, 0)) (by exact heap_alloc_new wc _)) zero16 (by decide) (by unfold maxLen; omega) (by omega) (by omega) (wc.heap.size + 1) (by simp) ?_; intro g cap w5 hown5 hgrow5 hat5 hlt5; have y1 : w5.cell? ⟨p, 0, none⟩ = some (.slice a0 ls cap0) := (by refine (hgrow5.cell_far _ (by simp; omega) HPP2.out).trans ?_; go_simp); have y2 : w5.frozen? ⟨p, 0, none⟩ = false := (by refine (hgrow5.frozen_far _ (by simp; omega) HPP2.out).trans ?_; go_simp))
        go_meet
        rw [E.out]
        have e1 : (A.slots ++ [sl0]).length = ls + 1 := by rw [List.length_append, HLS.out]; rfl
        have e2 : (A.slots ++ [sl0]).flatMap Sl.cells = A.slots.flatMap Sl.cells ++ sl0.cells := by rw [List.flatMap_append]; simp
        exact ⟨_, M2.out.app (A' := { A with slots := A.slots ++ [sl0], free := [ls] }) 0 (by omega) ((Up.refl wc).alloc _) H2.out (by show w5.ownsRow 0 _ 16 _ (A.slots ++ [sl0]).length ((A.slots ++ [sl0]).flatMap Sl.cells); rw [e1, e2]; exact hown5) hgrow5 (by simpa using hat5) (fun j hj hne => by rcases (by omega : j = 1 ∨ j = 2 ∨ j = 3) with rfl | rfl | rfl <;> exact ⟨rfl, rfl⟩)⟩
    · have hb : ((A.free.length : Int) == 0) = false := by simp [hf]
      have E : Hid (A.grow = A) := by show A.grow = A; unfold Ar.grow; rw [if_neg hf]
      clear hf
      go_wp2_with fail
      go_meet
      rw [E.out]
      exact ⟨v, M1.out⟩
  case rest =>
    obtain ⟨v1, hM⟩ := hcut
    obtain ⟨hgf, hgt⟩ := grow_ok A HQ.out.2.2.2.2.2
    have hgq := grow_q A
    obtain ⟨s, hs1⟩ : ∃ s, A.grow.slots[A.top]? = some s := ⟨_, List.getElem?_eq_getElem hgt⟩
    have hold : A.old = s.uses := by unfold Ar.old; rw [List.getD_eq_getElem?_getD, hs1]; rfl
    have hsu : s.uses < 1000000 := grow_uses A HQ.out.2.2.2.2.1 s (List.mem_of_getElem? hs1)
    have hgl : A.grow.slots.length ≤ 1000000 := by have := grow_len A; omega
    have M3 := Lib.hid hM
    have H4 := Lib.hid (And.intro hgf (And.intro hgt (And.intro hs1 (And.intro hold hgq))))
    obtain ⟨k, hk⟩ : ∃ k, A.grow.free.length = k + 1 := ⟨A.grow.free.length - 1, by have := List.length_pos_iff.2 hgf; omega⟩
    obtain ⟨d1, f1⟩ := hM.pt.cell 1 (by omega)
    obtain ⟨g1, cap2', hv1, -, lg1⟩ := (hM.pt.ow 1 (by omega)).form (show 0 < A.grow.len 1 by show 0 < A.grow.free.length; omega)
    have hv1' : v1 1 = .slice (some ⟨g1, 0, none⟩) (k + 1) cap2' := by rw [hv1]; show Value.slice _ A.grow.free.length _ = _; rw [hk]
    have htp : wc.cell? ⟨g1, k, none⟩ = some (.int .u32 (A.top : Int)) := by
      have o1 := hM.pt.ow 1 (by omega)
      rw [hv1] at o1
      have := World.ownsRow.cellAt o1 k (show k < A.grow.free.length * 1 by omega)
      rw [this]
      show (A.grow.free.map _)[k]? = _
      rw [List.getElem?_map, show k = A.grow.free.length - 1 by omega, ← List.getLast?_eq_getElem?]
      unfold Ar.top
      rw [List.getLastD_eq_getLast?]
      cases hl : A.grow.free.getLast? with
      | none => exact absurd (List.getLast?_eq_none_iff.1 hl) hgf
      | some x => rfl
    have hcap : k + 1 ≤ cap2' := by
      obtain ⟨a, c, h1, h2, -, -⟩ := shape (hM.pt.ow 1 (by omega))
      rw [hv1'] at h1
      simp only [Value.slice.injEq] at h1
      have : A.grow.len 1 = k + 1 := hk
      omega
    rw [hv1'] at d1
    have H5 := Lib.hid (And.intro hv1' hk)
    have hpc : p < wc.heap.size := hM.pt.hd.lt
    clear hM hgf hgt hs1 hold hgq hv1 hv1' hk
    generalize htop : A.top = top at *
    have H6 := Lib.hid htop
    clear htop
    have htl : top < 1000000 := by have := H4.out.2.1; omega
    have hkl : k < 1000000 := by have := grow_fn A hfn; have := H5.out.2; omega
    have k0 : (0 : Int) ≤ (k : Int) := by omega
    have k1' : (k : Int) < (k : Int) + 1 := by omega
    have k2' : IntKind.i64.wrap (k : Int) = k := IntWalk.i64_in _ (by omega)
    have k3' : IntKind.i64.wrap ((k : Int) + 1 - 1) = k := by rw [show (k : Int) + 1 - 1 = k by omega]; exact k2'
    go_wp2_with fail
    go_quiet (fail)
    have M4 := Lib.hid (M3.out.up (up_drewN (Up.refl wc) nq))
    go_wp2_with fail
    go_cut [] from 73 to 86 (fun wx => Mid w wx p v (upd v1 1 (.slice (some ⟨g1, 0, none⟩) k cap2')) { A.grow with free := A.grow.free.dropLast } ⟨kind, n, frozen, fields, module, func, ha, hn', hc, brand, (k1, k2, k3), membrane, target, deep⟩)
    case first =>
      go_region
      all_goals
        go_wp2_with fail
        go_meet
        refine M4.out.app (A' := { A.grow with free := A.grow.free.dropLast }) 1 (by omega) (Up.refl _).drew H5.out.1 ?_ (grown_refl _ _) (.inl rfl) (fun j hj hne => by rcases (by omega : j = 0 ∨ j = 2 ∨ j = 3) with rfl | rfl | rfl <;> exact ⟨rfl, rfl⟩)
        have o1 := (M4.out.up (Up.refl (wc.drewN nq)).drew).pt.ow 1 (by omega)
        rw [H5.out.1] at o1
        have e1 : A.grow.free.dropLast.length = k := by rw [List.length_dropLast, H5.out.2]; rfl
        have e2 : A.grow.free.dropLast.map (fun n : Nat => Value.int .u32 (n : Int)) = (A.grow.free.map (fun n : Nat => Value.int .u32 (n : Int))).take (k * 1) := by
          rw [List.dropLast_eq_take, H5.out.2, List.map_take]; simp
        show World.ownsRow _ 0 _ 1 _ A.grow.free.dropLast.length (A.grow.free.dropLast.map (fun n : Nat => Value.int .u32 (n : Int)))
        rw [e1, e2]
        have o1' : ((wc.drewN nq).drew).ownsRow 0 115 1 (.slice (some ⟨g1, 0, none⟩) (k + 1) cap2') (k + 1) (A.grow.free.map (fun n : Nat => Value.int .u32 (n : Int))) := by
          have := o1
          rw [show A.grow.len 1 = k + 1 from H5.out.2] at this
          exact this
        exact owns_cut o1' (Nat.le_succ k)
    case rest =>
      have M5 := Lib.hid hcut
      clear hcut d1 f1 htp
      obtain ⟨s0, hs0⟩ : ∃ s0, s0 = s := ⟨_, rfl⟩
      have hs2 : ({ A.grow with free := A.grow.free.dropLast } : Ar).slots[top]? = some s := H4.out.2.2.1
      obtain ⟨g0, cap0, hv0, hog0, c0, c1, hob⟩ := M5.out.pt.obAt hs2
      have hv0' : upd v1 1 (.slice (some ⟨g1, 0, none⟩) k cap2') 0 = .slice (some ⟨g0, 0, none⟩) A.grow.slots.length cap0 := hv0
      have hw0 : wc.cell? ⟨p, 0, none⟩ = some (.slice (some ⟨g0, 0, none⟩) A.grow.slots.length cap0) := by rw [← hv0']; exact (M5.out.pt.cell 0 (by omega)).1
      have hf0 : wc.frozen? ⟨g0, top * 16, none⟩ = false ∧ wc.frozen? ⟨g0, top * 16 + 1, none⟩ = false := by
        have o0 := M5.out.pt.ow 0 (by omega)
        rw [hv0'] at o0
        exact ⟨World.ownsRow.frozenAt o0 _, World.ownsRow.frozenAt o0 _⟩
      obtain ⟨hf0, hf1⟩ := hf0
      have H7 := Lib.hid (And.intro hv0' (And.intro hog0 (And.intro hob hs2)))
      have H8 := Lib.hid hs0
      have hlt0 : top < A.grow.slots.length := H4.out.2.1
      clear hv0 hv0' hog0 hob hs2 hs0
      generalize hL : A.grow.slots.length = L at *
      have HL := Lib.hid hL
      clear hL
      have t0 : (0 : Int) ≤ (top : Int) := by omega
      have t1 : (top : Int) < (L : Int) := by omega
      go_upto_region 11 with (fail)
      have hus : (s.uses : Int) < 1000000 := by omega
      go_cut [] from 93 to 99 (fun wx => Mid w wx p v (upd v1 1 (.slice (some ⟨g1, 0, none⟩) k cap2')) { A.grow with free := A.grow.free.dropLast, slots := A.grow.slots.set top ⟨s.uses + 1, s.used, s.o⟩ } ⟨kind, n, frozen, fields, module, func, ha, hn', hc, brand, (k1, k2, k3), membrane, target, deep⟩)
      case first =>
        go_wp2_with fail
        go_meet
        have := M5.out.slot (by rw [H7.out.1, ← HL.out]) s ⟨s.uses + 1, s.used, s.o⟩ H7.out.2.2.2 0 [.int .u32 ((s.uses + 1 : Nat) : Int)] (by simp) rfl
        simpa [World.setCells] using this
      case rest =>
        have M6 := Lib.hid hcut
        clear hcut hw0 hf0 hf1 c0 c1
        obtain ⟨z0, z1, z2, z3, z4, z5, z6, z7, z8, z9, z10, z11, z12, z13⟩ := ob_cells M6.out.bx
        simp only [Nat.zero_add] at z0 z1 z2 z3 z4 z5 z6 z7 z8 z9 z10 z11 z12 z13
        have hs3 : ({ A.grow with free := A.grow.free.dropLast, slots := A.grow.slots.set top ⟨s.uses + 1, s.used, s.o⟩ } : Ar).slots[top]? = some ⟨s.uses + 1, s.used, s.o⟩ := by
          show (A.grow.slots.set top _)[top]? = _
          rw [List.getElem?_set_self (by rw [HL.out]; exact hlt0)]
        obtain ⟨g0', cap0', hv0, hog0, c0, c1, hob⟩ := M6.out.pt.obAt hs3
        obtain ⟨rfl, rfl⟩ : g0 = g0' ∧ cap0 = cap0' := by
          have := H7.out.1.symm.trans hv0
          simp at this
          exact ⟨this.1, this.2.2⟩
        have HS3 := Lib.hid hs3
        have hz : ∀ j, wc.frozen? ⟨g0, j, none⟩ = false := fun j => by
          have o0 := M6.out.pt.ow 0 (by omega)
          rw [hv0] at o0
          exact World.ownsRow.frozenAt o0 _
        have hg1 : ¬ w.heap.size = g0 := fun e => M6.out.bn (by rw [e]; exact foot_i (i := 0) (by omega) hog0)
        have hg2 : ¬ g0 = w.heap.size := fun e => hg1 e.symm
        obtain ⟨y2, y3, y4, y5, y6, y7, y8, y9, y10, y11, y12, y13, y14, y15⟩ := ob_cells hob
        clear hob hog0 hv0 hs3
        go_upto_region 12 with (fail)
        go_cut [] from 100 to 106 (fun wx => Mid w wx p v (upd v1 1 (.slice (some ⟨g1, 0, none⟩) k cap2')) { A.grow with free := A.grow.free.dropLast, slots := A.grow.slots.set top ⟨s.uses + 1, true, ⟨kind, n, frozen, fields, module, func, ha, hn', hc, brand, (k1, k2, k3), membrane, target, deep⟩⟩ } ⟨kind, n, frozen, fields, module, func, ha, hn', hc, brand, (k1, k2, k3), membrane, target, deep⟩)
        case first =>
          have H9 := Lib.hid (show (upd v1 1 (.slice (some ⟨g1, 0, none⟩) k cap2')) 0 = .slice (some ⟨g0, 0, none⟩) A.grow.slots.length cap0 by rw [HL.out]; exact H7.out.1)
          have H10 := Lib.hid (show top < A.grow.slots.length by rw [HL.out]; exact hlt0)
          have hA := (Mid.fill (A := { A.grow with free := A.grow.free.dropLast }) M6.out H10.out H9.out ⟨kind, n, frozen, fields, module, func, ha, hn', hc, brand, (k1, k2, k3), membrane, target, deep⟩).up (Up.refl _).drew
          simp only [World.setCells, Ob.cells, Nat.add_assoc, Nat.reduceAdd] at hA
          have hA := Lib.hid hA
          have hB := (Mid.fill2 (A := { A.grow with free := A.grow.free.dropLast }) M6.out H10.out H9.out ⟨kind, n, frozen, fields, module, func, ha, hn', hc, brand, (k1, k2, k3), membrane, target, deep⟩).up (Up.refl _).drew
          simp only [World.setCells, Ob.cells, Nat.add_assoc, Nat.reduceAdd] at hB
          have hB := Lib.hid hB
          go_region
          all_goals
            go_wp2_with fail
            go_meet
            simp only [Nat.add_assoc, Nat.reduceAdd]
            first
              | (with_reducible exact hA.out)
              | (with_reducible exact hB.out)
        case rest =>
          have M7 := Lib.hid hcut
          clear hcut z0 z2 z3 z4 z5 z6 z7 z8 z9 z10 z11 z12 z13 z1 y2 y3 y4 y5 y6 y7 y8 y9 y10 y11 y12 y13 y14 y15 c0 c1 hz
          obtain ⟨-, z1, -⟩ := ob_cells M7.out.bx
          simp only [Nat.zero_add] at z1
          obtain ⟨d3, -⟩ := M7.out.pt.cell 3 (by omega)
          have hnm : n < A.many.length := (List.getElem?_eq_some_iff.1 HQ.out.2.1).1
          obtain ⟨g3', cap3', hv3, -, lg3⟩ := (M7.out.pt.ow 3 (by omega)).form (show 0 < A.grow.many.length by rw [H4.out.2.2.2.2.2]; omega)
          have hv3' : (upd v1 1 (.slice (some ⟨g1, 0, none⟩) k cap2')) 3 = .slice (some ⟨g3', 0, none⟩) A.many.length cap3' := by
            rw [hv3]; show Value.slice _ A.grow.many.length _ = _; rw [H4.out.2.2.2.2.2]
          have o3 : wc.ownsRow 0 3 1 (.slice (some ⟨g3', 0, none⟩) A.many.length cap3') A.many.length (A.many.map (Value.int .i64)) := by
            have := M7.out.pt.ow 3 (by omega)
            rw [hv3'] at this
            have e : A.grow.many = A.many := H4.out.2.2.2.2.2
            have this' : wc.ownsRow 0 3 1 (.slice (some ⟨g3', 0, none⟩) A.many.length cap3') A.grow.many.length (A.grow.many.map (Value.int .i64)) := this
            rw [e] at this'
            exact this'
          have e3 : wc.cell? ⟨g3', n, none⟩ = some (.int .i64 m) := by
            have := World.ownsRow.cellAt o3 n (show n < A.many.length * 1 by omega)
            rw [this]; simp [HQ.out.2.1]
          have f3 : wc.frozen? ⟨g3', n, none⟩ = false := World.ownsRow.frozenAt o3 _
          rw [hv3'] at d3
          have H11 := Lib.hid (And.intro hv3' o3)
          have i3 : (n : Int) < (A.many.length : Int) := by omega
          have hmw : IntKind.i64.wrap (m + 1) = m + 1 := IntWalk.i64_in _ (by omega)
          clear hv3 hv3' o3
          go_upto_region 13 with (fail)
          go_cut [] from 107 to 116 (fun wx => Mid w wx p v (upd v1 1 (.slice (some ⟨g1, 0, none⟩) k cap2')) { slots := A.grow.slots.set top ⟨s.uses + 1, true, ⟨kind, n, frozen, fields, module, func, ha, hn', hc, brand, (k1, k2, k3), membrane, target, deep⟩⟩, free := A.grow.free.dropLast, quotas := A.grow.quotas, many := A.many.set n (m + 1) } ⟨kind, n, frozen, fields, module, func, ha, hn', hc, brand, (k1, k2, k3), membrane, target, deep⟩)
          case first =>
            have hst := (World.ownsRow.stored H11.out.2 n (.int .i64 (m + 1)))
            have hC := Lib.hid ((M7.out.store (A' := { slots := A.grow.slots.set top ⟨s.uses + 1, true, ⟨kind, n, frozen, fields, module, func, ha, hn', hc, brand, (k1, k2, k3), membrane, target, deep⟩⟩, free := A.grow.free.dropLast, quotas := A.grow.quotas, many := A.many.set n (m + 1) }) 3 (by omega) (by rw [H11.out.1]; exact hst.2) (by
                rw [H11.out.1]
                show World.ownsRow _ 0 3 1 _ (A.many.set n (m + 1)).length ((A.many.set n (m + 1)).map (Value.int .i64))
                rw [List.length_set, List.map_set]
                exact hst.1) (fun j hj hne => by rcases (by omega : j = 0 ∨ j = 1 ∨ j = 2) with rfl | rfl | rfl <;> exact ⟨rfl, rfl⟩)).up (Up.refl _).drew)
            clear hst
            go_region
            all_goals
              go_wp2_with fail
              go_meet
              exact hC.out
          case rest =>
            have M8 := Lib.hid hcut
            clear hcut d3 e3 f3 z1
            have hs8 : ({ slots := A.grow.slots.set top ⟨s.uses + 1, true, ⟨kind, n, frozen, fields, module, func, ha, hn', hc, brand, (k1, k2, k3), membrane, target, deep⟩⟩, free := A.grow.free.dropLast, quotas := A.grow.quotas, many := A.many.set n (m + 1) } : Ar).slots[top]? = some ⟨s.uses + 1, true, ⟨kind, n, frozen, fields, module, func, ha, hn', hc, brand, (k1, k2, k3), membrane, target, deep⟩⟩ := by
              show (A.grow.slots.set top _)[top]? = _
              rw [List.getElem?_set_self (by rw [HL.out]; exact hlt0)]
            obtain ⟨g8, cap8, hv8, hog8, c8, -, -⟩ := M8.out.pt.obAt hs8
            obtain ⟨rfl, rfl⟩ : g0 = g8 ∧ cap0 = cap8 := by
              have := H7.out.1.symm.trans hv8
              simp at this
              exact ⟨this.1, this.2.2⟩
            clear hs8 hv8 hog8
            have S3 := Lib.hid (of_x top (s.uses + 1) (by omega) (by omega))
            generalize hU : s.uses + 1 = U at *
            have HU := Lib.hid hU
            clear hU
            go_wp2_with (go_at_call 42; refine (S3.out _).mono ?_; rintro e w' ⟨rfl, rfl⟩)
            go_ret2
            refine ⟨(upd v1 1 (.slice (some ⟨g1, 0, none⟩) k cap2')), ?_, ?_, M8.out.cg, fun b hb => by rcases M8.out.sb b hb with h1 | h1; exact .inl h1; exact .inr (by omega)⟩
            · unfold Ar.name
              rw [H6.out, H4.out.2.2.2.1, HU.out]
              rfl
            · have e : A.add ⟨kind, n, frozen, fields, module, func, ha, hn', hc, brand, (k1, k2, k3), membrane, target, deep⟩ = { slots := A.grow.slots.set top ⟨U, true, ⟨kind, n, frozen, fields, module, func, ha, hn', hc, brand, (k1, k2, k3), membrane, target, deep⟩⟩, free := A.grow.free.dropLast, quotas := A.grow.quotas, many := A.many.set n (m + 1) } := by
                unfold Ar.add
                have e1 : A.many.getD n 0 = m := by rw [List.getD_eq_getElem?_getD, HQ.out.2.1]; rfl
                simp only [Int.toNat_natCast]
                rw [H6.out, H4.out.2.2.2.1, HU.out, H4.out.2.2.2.2.1, e1]
              rw [e]
              exact M8.out.pt
end Go.Proofs.YtmmfpkkkpeapeaaGreatDoor.ar
