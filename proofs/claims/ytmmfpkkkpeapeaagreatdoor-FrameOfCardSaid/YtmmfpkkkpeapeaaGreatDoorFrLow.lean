/- FrameBacks: the crossings, the deaths: plain laws. (7 texts in one.) -/
import Derived.Test.YtmmfpkkkpeapeaaGreatDoorMbLb
import Derived.Test.YtmmfpkkkpeapeaaGreatDoorWt

/- frame.World as blocks of memory: plain laws. -/
set_option linter.unusedVariables false
namespace Go.Proofs.YtmmfpkkkpeapeaaGreatDoor.mb
open Go.RowKit Go.Maps mem rec ar
set_option maxHeartbeats 400000
/-- The world in block wb: its arena behind p, its cache in cb, its membranes lv. -/
structure Fw (w : World) (wb p cb : Nat) (lv : Value) (v : Nat → Value) (A : Ar) (C : Ca) (L : List Mb) (k : Nat) (d : Int) : Prop where
  hd : Blk w wb #[.pointer (some ⟨p, 0, none⟩), .map (some cb), lv, .slice none 0 0] 73
  wr : Wr w p cb v A C L k d
  row : w.ownsRow 0 48 3 lv L.length (L.flatMap cellsM)
  sd : ∀ m ∈ L, (0 ≤ m.1 ∧ m.1 < 4) ∧ (0 ≤ m.2.1 ∧ m.2.1 < 4)
  lp : 0 < L.length
  nw : wb ∉ cb :: foot p v
  nl : ∀ b, lv.ownBlock = some b → b ∉ cb :: foot p v ∧ b ≠ wb
/-- Its blocks. -/
def ftF (wb p cb : Nat) (lv : Value) (v : Nat → Value) : List Nat := wb :: (lv.ownBlock.toList ++ (cb :: foot p v))
theorem mem_ftF {wb p cb b : Nat} {lv : Value} {v : Nat → Value} : b ∈ ftF wb p cb lv v ↔ b = wb ∨ lv.ownBlock = some b ∨ b ∈ cb :: foot p v := by
  unfold ftF
  rw [List.mem_cons, List.mem_append]
  simp [eq_comm]
section
variable {w w1 wx : World} {wb p cb k : Nat} {lv : Value} {v v1 : Nat → Value} {A A1 : Ar} {C C1 : Ca} {L : List Mb} {d : Int}
theorem Fw.lt (h : Fw w wb p cb lv v A C L k d) : ∀ b ∈ ftF wb p cb lv v, b < w.heap.size := fun b hb => by
  rcases mem_ftF.1 hb with h1 | h1 | h1
  · rw [h1]; exact h.hd.lt
  · exact (h.row.lt b h1).2
  · exact h.wr.lt b h1
theorem Fw.chg {F : List Nat} (h : Fw w wb p cb lv v A C L k d) (c : Chg F w w1) (hF : ∀ b ∈ ftF wb p cb lv v, b ∉ F) : Fw w1 wb p cb lv v A C L k d :=
  ⟨h.hd.chg c (hF wb (mem_ftF.2 (.inl rfl))), h.wr.chg c (fun b hb => hF b (mem_ftF.2 (.inr (.inr hb)))), owns_chg h.row c (fun b hb => hF b (mem_ftF.2 (.inr (.inl hb)))), h.sd, h.lp, h.nw, h.nl⟩
theorem Fw.up (h : Fw w wb p cb lv v A C L k d) (u : Up w w1) : Fw w1 wb p cb lv v A C L k d := h.chg u.chg (by simp)
theorem Fw.less {j : Nat} {e : Int} (h : Fw w wb p cb lv v A C L k d) (hj : j ≤ k) (he : d ≤ e) : Fw w wb p cb lv v A C L j e := ⟨h.hd, h.wr.less hj he, h.row, h.sd, h.lp, h.nw, h.nl⟩
theorem Fw.list (h : Fw w wb p cb lv v A C L k d) : ListAt w lv L := listAt_of h.row h.lp
theorem side_of {L : List Mb} (sd : ∀ m ∈ L, (0 ≤ m.1 ∧ m.1 < 4) ∧ (0 ≤ m.2.1 ∧ m.2.1 < 4)) {m x y : Int} (ho : otherR L m x = some y) : (0 ≤ x ∧ x < 4) ∧ (0 ≤ y ∧ y < 4) := by
  unfold otherR mbAt at ho
  split at ho
  · rename_i s hs
    split at hs
    · have hm := sd s (List.mem_of_getElem? hs)
      by_cases e0 : x = s.1
      · rw [if_pos e0] at ho; cases ho; omega
      · rw [if_neg e0] at ho
        by_cases e1 : x = s.2.1
        · rw [if_pos e1] at ho; cases ho; omega
        · rw [if_neg e1] at ho; cases ho
    · cases hs
  · cases ho
/-- Behind Pass. -/
theorem Fw.pass {j : Nat} {e : Int} (h : Fw w wb p cb lv v A C L k d) (u : Up w wx) (hw : Wr w1 p cb v1 A1 C1 L j e) (c : Chg (cb :: foot p v) wx w1) (fb : ∀ b ∈ foot p v1, b ∈ foot p v ∨ wx.heap.size ≤ b) : Fw w1 wb p cb lv v1 A1 C1 L j e := by
  have H := h.up u
  have nf : ∀ b, b < wx.heap.size → b ∉ cb :: foot p v → b ∉ cb :: foot p v1 := fun b hb hn hx => by
    rcases List.mem_cons.1 hx with h1 | h1
    · exact hn (by rw [h1]; exact List.mem_cons_self ..)
    · rcases fb b h1 with h2 | h2
      · exact hn (List.mem_cons_of_mem _ h2)
      · omega
  exact ⟨H.hd.chg c H.nw, hw, owns_chg H.row c (fun b hb => (H.nl b hb).1), H.sd, H.lp, nf wb H.hd.lt H.nw, fun b hb => ⟨nf b (H.row.lt b hb).2 (H.nl b hb).1, (H.nl b hb).2⟩⟩
theorem Fw.held (h : Fw w wb p cb lv v A C L k d) : w.cell? ⟨wb, 2, none⟩ = some lv ∧ w.cell? ⟨wb, 0, none⟩ = some (.pointer (some ⟨p, 0, none⟩)) ∧ w.cell? ⟨wb, 1, none⟩ = some (.map (some cb)) := ⟨h.hd.cell 2, h.hd.cell 0, h.hd.cell 1⟩
/-- wrap.Pass in a world. -/
theorem fpass {m into : Int} {r : Nat} {o : Ob} (h : Fw w wb p cb lv v A C L (k + 1) d) (hm : (Lit.int .i64 m).wf = true) (hf : A.find r = some o) (x1 x2 re : Int) (x3 : ByteArray) (hx : (passR A C L false m into (5, (r : Int), ⟨#[]⟩)).v = (x1, x2, x3)) (he : (passR A C L false m into (5, (r : Int), ⟨#[]⟩)).e = re) (wx : World) (u : Up w wx) :
    Calls Tryz.prog 9 #[lv, .pointer (some ⟨p, 0, none⟩), .map (some cb), .int .i64 m, .int .i64 into, .agg #[.int .u8 5, .int .i64 (r : Int), .string ⟨#[]⟩]] wx fun e w' => ∃ v', e = .returned (.tuple #[.agg #[.int .u8 x1, .int .i64 x2, .string x3], .int .i64 re]) ∧
      Fw w' wb p cb lv v' (passR A C L false m into (5, (r : Int), ⟨#[]⟩)).A (passR A C L false m into (5, (r : Int), ⟨#[]⟩)).C L k (d + 1) ∧ Chg (cb :: foot p v) wx w' ∧ (∀ b ∈ foot p v', b ∈ foot p v ∨ wx.heap.size ≤ b) ∧
      (re = 0 → ∃ (r' : Nat) (o' : Ob), ((x1, x2, x3) : V3) = (5, (r' : Int), ⟨#[]⟩) ∧ (passR A C L false m into (5, (r : Int), ⟨#[]⟩)).A.find r' = some o') ∧ (re ≠ 0 → ((x1, x2, x3) : V3) = zero3) := by
  have H := h.up u
  refine (pass_any H.wr H.list hm (fun y hy => (side_of H.sd hy).1) hf).mono ?_
  rintro e w' ⟨v', rfl, h1, h2, h3, h4, h5⟩
  rw [hx, he]
  rw [hx, he] at h4 h5
  exact ⟨v', rfl, h.pass u h1 h2 h3, h2, h3, h4, h5⟩
end
end Go.Proofs.YtmmfpkkkpeapeaaGreatDoor.mb

/- frame.World's Pass, walked (printed by fp_gen.py). -/
set_option linter.unusedVariables false
set_option linter.unusedSimpArgs false
namespace Go.Proofs.YtmmfpkkkpeapeaaGreatDoor.mb
open Go.RowKit Go.Maps mem rec ar
attribute [local go_sem ↓] Go.wp_at_zero Go.wp_at_succ
set_option maxRecDepth 100000
set_option maxHeartbeats 4000000
theorem wpass_end {w wd W : World} {wb p cb k : Nat} {lv : Value} {v v1 : Nat → Value} {A A1 : Ar} {C C1 : Ca} {L : List Mb} {d e : Int} {Z N : Prop} (h : Fw w wb p cb lv v A C L (k + 1) d) (hs : w.heap.size + 1 + 1 ≤ wd.heap.size) (hF : Fw W wb p cb lv v1 A1 C1 L k e) (c : Chg (cb :: foot p v) w W) (fb : ∀ b ∈ foot p v1, b ∈ foot p v ∨ wd.heap.size ≤ b) (z : Z) (n : N) (x1 x2 : Int) (x3 : ByteArray) :
    Fw (((W.setCell ⟨w.heap.size + 1, 0, none⟩ (.int .u8 x1)).setCell ⟨w.heap.size + 1, 1, none⟩ (.int .i64 x2)).setCell ⟨w.heap.size + 1, 2, none⟩ (.string x3)) wb p cb lv v1 A1 C1 L k e ∧ Chg (cb :: foot p v) w (((W.setCell ⟨w.heap.size + 1, 0, none⟩ (.int .u8 x1)).setCell ⟨w.heap.size + 1, 1, none⟩ (.int .i64 x2)).setCell ⟨w.heap.size + 1, 2, none⟩ (.string x3)) ∧ (∀ b ∈ foot p v1, b ∈ foot p v ∨ w.heap.size ≤ b) ∧ Z ∧ N := by
  have CS := set3_chg W (w.heap.size + 1) (.int .u8 x1) (.int .i64 x2) (.string x3)
  have nx : w.heap.size + 1 ∉ ftF wb p cb lv v1 := fun hx => by
    rcases mem_ftF.1 hx with h1 | h1 | h1
    · have := h.hd.lt; omega
    · have := (h.row.lt _ h1).2; omega
    · rcases List.mem_cons.1 h1 with h2 | h2
      · have := h.wr.lt cb (List.mem_cons_self ..); omega
      · rcases fb _ h2 with h3 | h3
        · have := h.wr.pt.lt _ h3; omega
        · omega
  exact ⟨hF.chg CS (fun b hb hx => nx (by rw [← List.mem_singleton.1 hx]; exact hb)), c.trans CS (fun x hx => .inr (by rw [List.mem_singleton.1 hx]; omega)), fun b hb => (fb b hb).imp id (fun e => by omega), z, n⟩
theorem wpass {w : World} {wb p cb k : Nat} {lv : Value} {v : Nat → Value} {A : Ar} {C : Ca} {L : List Mb} {d m into : Int} {r : Nat} {o : Ob} (h : Fw w wb p cb lv v A C L (k + 1) d) (hm : (Lit.int .i64 m).wf = true) (hf : A.find r = some o) (x1 x2 re : Int) (x3 : ByteArray) (hx : (passR A C L false m into (5, (r : Int), ⟨#[]⟩)).v = (x1, x2, x3)) (he : (passR A C L false m into (5, (r : Int), ⟨#[]⟩)).e = re) :
    Calls Tryz.prog 20 #[.pointer (some ⟨wb, 0, none⟩), .int .i64 m, .int .i64 into, .agg #[.int .u8 5, .int .i64 (r : Int), .string ⟨#[]⟩]] w fun e w' => ∃ v', e = .returned (.tuple #[.agg #[.int .u8 x1, .int .i64 x2, .string x3], .int .i64 re]) ∧
      Fw w' wb p cb lv v' (passR A C L false m into (5, (r : Int), ⟨#[]⟩)).A (passR A C L false m into (5, (r : Int), ⟨#[]⟩)).C L k (d + 1) ∧ Chg (cb :: foot p v) w w' ∧ (∀ b ∈ foot p v', b ∈ foot p v ∨ w.heap.size ≤ b) ∧
      (re = 0 → ∃ (r' : Nat) (o' : Ob), ((x1, x2, x3) : V3) = (5, (r' : Int), ⟨#[]⟩) ∧ (passR A C L false m into (5, (r : Int), ⟨#[]⟩)).A.find r' = some o') ∧ (re ≠ 0 → ((x1, x2, x3) : V3) = zero3) := by
  have PX := Lib.hid (fpass h hm hf x1 x2 re x3 hx he)
  have HFw := Lib.hid h
  obtain ⟨W2, hW2⟩ : ∃ W2, W2 = (w.alloc (.cells #[.int .u8 5, .int .i64 (r : Int), .string ⟨#[]⟩] 51)).alloc (.cells #[.int .u8 0, .int .i64 0, .string ⟨#[]⟩] 51) := ⟨_, rfl⟩
  have HU : Hid (Up w W2) := by rw [hW2]; exact ((Up.refl w).alloc _).alloc _
  have hsz : w.heap.size + 1 + 1 ≤ W2.heap.size := by rw [hW2]; simp
  have B7 : Has3 W2 w.heap.size (.int .u8 5) (.int .i64 (r : Int)) (.string ⟨#[]⟩) := by rw [hW2]; exact (has3_alloc w _ _ _ _).alloc _
  have B8 : Has3 W2 (w.heap.size + 1) (.int .u8 0) (.int .i64 0) (.string ⟨#[]⟩) := by rw [hW2]; exact has3_alloc2 w _ _ _ _ _
  have HS : Hid (∀ w', Up W2 w' → w'.cell? ⟨wb, 2, none⟩ = some lv ∧ w'.cell? ⟨wb, 0, none⟩ = some (.pointer (some ⟨p, 0, none⟩)) ∧ w'.cell? ⟨wb, 1, none⟩ = some (.map (some cb)) ∧ w'.cell? ⟨w.heap.size, 0, none⟩ = some (.int .u8 5) ∧ w'.cell? ⟨w.heap.size, 1, none⟩ = some (.int .i64 (r : Int)) ∧ w'.cell? ⟨w.heap.size, 2, none⟩ = some (.string ⟨#[]⟩)) := by
    intro w' hu
    obtain ⟨h1, h2, h3⟩ := (h.up (HU.out.trans hu)).held
    obtain ⟨-, ⟨g1, g2, g3⟩, -⟩ := B7.up hu
    exact ⟨h1, h2, h3, g1, g2, g3⟩
  have HS2 : Hid (∀ wd, Up W2 wd → ∀ w', Chg (cb :: foot p v) wd w' → (w'.cell? ⟨wb, 2, none⟩ = some lv ∧ w'.cell? ⟨wb, 0, none⟩ = some (.pointer (some ⟨p, 0, none⟩)) ∧ w'.cell? ⟨wb, 1, none⟩ = some (.map (some cb)) ∧ w'.cell? ⟨w.heap.size, 0, none⟩ = some (.int .u8 5) ∧ w'.cell? ⟨w.heap.size, 1, none⟩ = some (.int .i64 (r : Int)) ∧ w'.cell? ⟨w.heap.size, 2, none⟩ = some (.string ⟨#[]⟩)) ∧ Has3 w' (w.heap.size + 1) (.int .u8 0) (.int .i64 0) (.string ⟨#[]⟩)) := by
    intro wd hu w' c
    obtain ⟨h1, h2, h3⟩ := (h.up (HU.out.trans hu)).held
    have nw : ∀ x, w.heap.size ≤ x → x ∉ cb :: foot p v := fun x hx hh => by have := h.wr.lt x hh; omega
    have e7 := has3_chg (B7.up hu) c (nw _ (Nat.le_refl _))
    have e8 := has3_chg (B8.up hu) c (nw _ (by omega))
    obtain ⟨-, ⟨g1, g2, g3⟩, -⟩ := e7
    have hlt : wb < wd.heap.size := Nat.lt_of_lt_of_le h.hd.lt (HU.out.trans hu).size
    exact ⟨⟨(c.cell hlt h.nw).trans h1, (c.cell hlt h.nw).trans h2, (c.cell hlt h.nw).trans h3, g1, g2, g3⟩, e8⟩
  clear B7 B8 h hf hx he
  go_enter Tryz.func20, Tryz.ntmps20
  go_wp2_with fail
  rw [← hW2]
  clear hW2
  refine AnyT.start (S := fun w' => w'.cell? ⟨wb, 2, none⟩ = some lv ∧ w'.cell? ⟨wb, 0, none⟩ = some (.pointer (some ⟨p, 0, none⟩)) ∧ w'.cell? ⟨wb, 1, none⟩ = some (.map (some cb)) ∧ w'.cell? ⟨w.heap.size, 0, none⟩ = some (.int .u8 5) ∧ w'.cell? ⟨w.heap.size, 1, none⟩ = some (.int .i64 (r : Int)) ∧ w'.cell? ⟨w.heap.size, 2, none⟩ = some (.string ⟨#[]⟩)) 18 (by kernel_rfl) (HS.out _ (Up.refl W2).drew) (fun hHeld => ?_)
  have hUd : Up W2 W2.drew := (Up.refl W2).drew
  generalize World.drew W2 = wd at hUd hHeld ⊢
  refine AnyT.pick (i := 0) (oi := ⟨_, _, _, _, _, _⟩) (v := ?_) rfl (by kernel_rfl) (by kernel_rfl) (by kernel_rfl) (fun _ _ _ h => h) (Or.inl ⟨by rfl, ?y0_1⟩) ?_
  case' y0_1 => ((intro w hSw; go_simp) <;> (with_reducible rfl))
  try simp only [Act.put, List.setIfInBounds_toArray, List.set_cons_zero, List.set_cons_succ]
  refine AnyT.pick (i := 1) (oi := ⟨_, _, _, _, _, _⟩) (v := ?_) rfl (by kernel_rfl) (by kernel_rfl) (by kernel_rfl) (fun _ _ _ h => h) (Or.inl ⟨by rfl, ?y1_2⟩) ?_
  case' y1_2 => ((intro w hSw; go_simp) <;> (with_reducible rfl))
  try simp only [Act.put, List.setIfInBounds_toArray, List.set_cons_zero, List.set_cons_succ]
  refine AnyT.pick (i := 2) (oi := ⟨_, _, _, _, _, _⟩) (v := ?_) rfl (by kernel_rfl) (by kernel_rfl) (by kernel_rfl) (fun _ _ _ h => h) (Or.inl ⟨by rfl, ?y2_3⟩) ?_
  case' y2_3 => ((intro w hSw; go_simp) <;> (with_reducible rfl))
  try simp only [Act.put, List.setIfInBounds_toArray, List.set_cons_zero, List.set_cons_succ]
  refine AnyT.take (i := 3) (oi := ⟨_, _, _, _, _, _⟩) (v := ?_) rfl (by kernel_rfl) (by kernel_rfl) (by kernel_rfl) (by kernel_rfl) (fun _ _ _ h => h) (Or.inl ⟨by rfl, ?y3_4⟩) (by assumption) ?_
  case' y3_4 => ((intro w hSw; (try dsimp only at hSw); go_simp) <;> (with_reducible rfl))
  try simp only [Act.put, List.setIfInBounds_toArray, List.set_cons_zero, List.set_cons_succ]
  refine AnyT.pick (i := 4) (oi := ⟨_, _, _, _, _, _⟩) (v := ?_) rfl (by kernel_rfl) (by kernel_rfl) (by kernel_rfl) (fun _ _ _ h => h) (Or.inl ⟨by rfl, ?y4_5⟩) ?_
  case' y4_5 => ((intro w hSw; go_simp) <;> (with_reducible rfl))
  try simp only [Act.put, List.setIfInBounds_toArray, List.set_cons_zero, List.set_cons_succ]
  refine AnyT.pick (i := 5) (oi := ⟨_, _, _, _, _, _⟩) (v := ?_) rfl (by kernel_rfl) (by kernel_rfl) (by kernel_rfl) (fun _ _ _ h => h) (Or.inl ⟨by rfl, ?y5_6⟩) ?_
  case' y5_6 => ((intro w hSw; go_simp) <;> (with_reducible rfl))
  try simp only [Act.put, List.setIfInBounds_toArray, List.set_cons_zero, List.set_cons_succ]
  refine AnyT.pick (i := 6) (oi := ⟨_, _, _, _, _, _⟩) (v := ?_) rfl (by kernel_rfl) (by kernel_rfl) (by kernel_rfl) (fun _ _ _ h => h) (Or.inl ⟨by rfl, ?y6_7⟩) ?_
  case' y6_7 => ((intro w hSw; go_simp) <;> (with_reducible rfl))
  try simp only [Act.put, List.setIfInBounds_toArray, List.set_cons_zero, List.set_cons_succ]
  refine AnyT.take (i := 7) (oi := ⟨_, _, _, _, _, _⟩) (v := ?_) rfl (by kernel_rfl) (by kernel_rfl) (by kernel_rfl) (by kernel_rfl) (fun _ _ _ h => h) (Or.inl ⟨by rfl, ?y7_8⟩) (by assumption) ?_
  case' y7_8 => ((intro w hSw; (try dsimp only at hSw); go_simp) <;> (with_reducible rfl))
  try simp only [Act.put, List.setIfInBounds_toArray, List.set_cons_zero, List.set_cons_succ]
  refine AnyT.pick (i := 8) (oi := ⟨_, _, _, _, _, _⟩) (v := ?_) rfl (by kernel_rfl) (by kernel_rfl) (by kernel_rfl) (fun _ _ _ h => h) (Or.inl ⟨by rfl, ?y8_9⟩) ?_
  case' y8_9 => ((intro w hSw; go_simp) <;> (with_reducible rfl))
  try simp only [Act.put, List.setIfInBounds_toArray, List.set_cons_zero, List.set_cons_succ]
  refine AnyT.pick (i := 9) (oi := ⟨_, _, _, _, _, _⟩) (v := ?_) rfl (by kernel_rfl) (by kernel_rfl) (by kernel_rfl) (fun _ _ _ h => h) (Or.inl ⟨by rfl, ?y9_10⟩) ?_
  case' y9_10 => ((intro w hSw; go_simp) <;> (with_reducible rfl))
  try simp only [Act.put, List.setIfInBounds_toArray, List.set_cons_zero, List.set_cons_succ]
  refine AnyT.pick (i := 10) (oi := ⟨_, _, _, _, _, _⟩) (v := ?_) rfl (by kernel_rfl) (by kernel_rfl) (by kernel_rfl) (fun _ _ _ h => h) (Or.inl ⟨by rfl, ?y10_11⟩) ?_
  case' y10_11 => ((intro w hSw; go_simp) <;> (with_reducible rfl))
  try simp only [Act.put, List.setIfInBounds_toArray, List.set_cons_zero, List.set_cons_succ]
  refine AnyT.take (i := 11) (oi := ⟨_, _, _, _, _, _⟩) (v := ?_) rfl (by kernel_rfl) (by kernel_rfl) (by kernel_rfl) (by kernel_rfl) (fun _ _ _ h => h) (Or.inl ⟨by rfl, ?y11_12⟩) (by assumption) ?_
  case' y11_12 => ((intro w hSw; (try dsimp only at hSw); go_simp) <;> (with_reducible rfl))
  try simp only [Act.put, List.setIfInBounds_toArray, List.set_cons_zero, List.set_cons_succ]
  refine AnyT.pick (i := 12) (oi := ⟨_, _, _, _, _, _⟩) (v := ?_) rfl (by kernel_rfl) (by kernel_rfl) (by kernel_rfl) (fun _ _ _ h => h) (Or.inl ⟨by rfl, ?y12_13⟩) ?_
  case' y12_13 => ((intro w hSw; go_simp) <;> (with_reducible rfl))
  try simp only [Act.put, List.setIfInBounds_toArray, List.set_cons_zero, List.set_cons_succ]
  refine AnyT.pick (i := 13) (oi := ⟨_, _, _, _, _, _⟩) (v := ?_) rfl (by kernel_rfl) (by kernel_rfl) (by kernel_rfl) (fun _ _ _ h => h) (Or.inl ⟨by rfl, ?y13_14⟩) ?_
  case' y13_14 => ((intro w hSw; go_simp) <;> (with_reducible rfl))
  try simp only [Act.put, List.setIfInBounds_toArray, List.set_cons_zero, List.set_cons_succ]
  refine AnyT.take (i := 14) (oi := ⟨_, _, _, _, _, _⟩) (v := ?_) rfl (by kernel_rfl) (by kernel_rfl) (by kernel_rfl) (by kernel_rfl) (fun _ _ _ h => h) (Or.inl ⟨by rfl, ?y14_15⟩) (by assumption) ?_
  case' y14_15 => ((intro w hSw; (try dsimp only at hSw); go_simp) <;> (with_reducible rfl))
  try simp only [Act.put, List.setIfInBounds_toArray, List.set_cons_zero, List.set_cons_succ]
  refine AllT.go (rs := [15]) (by kernel_rfl) (by simp) ?_
  refine AllT.early (o := ⟨_, _, _, _, _, _⟩) rfl (fun K hK => ?_) ?_
  · go_simp
    go_at_call 9
    refine (PX.out _ (HU.out.trans hUd)).mono ?_
    rintro e wp ⟨v', rfl, hF, hCg, hfb, hr0, hr1⟩
    have hH := HS2.out _ hUd _ hCg
    refine hK.out _ _ hH.1 (fun _ => ?_)
    clear hK K hHeld
    have h8 := hH.2
    have hCw : Chg (cb :: foot p v) w wp := ((HU.out.trans hUd).chg.mono (by simp)).trans hCg (fun x hx => .inl hx)
    have hUd' := Nat.le_trans hsz hUd.size
    obtain ⟨z0, ⟨z1, z2, z3⟩, ⟨z4, z5, z6⟩⟩ := hH.2
    have HF := Lib.hid (And.intro hF (And.intro hCw (And.intro hfb (And.intro hr0 (And.intro hr1 h8)))))
    clear hF hCg hCw hfb hr0 hr1 hH h8
    try simp only [Act.put, List.setIfInBounds_toArray, List.set_cons_zero, List.set_cons_succ]
    refine AnyT.pick (i := 16) (oi := ⟨_, _, _, _, _, _⟩) (v := ?_) rfl (by kernel_rfl) (by kernel_rfl) (by kernel_rfl) (fun _ _ _ h => h) (Or.inl ⟨by rfl, ?y16_16⟩) ?_
    case' y16_16 => ((intro w hSw; go_simp) <;> (with_reducible rfl))
    try simp only [Act.put, List.setIfInBounds_toArray, List.set_cons_zero, List.set_cons_succ]
    refine AnyT.pick (i := 17) (oi := ⟨_, _, _, _, _, _⟩) (v := ?_) rfl (by kernel_rfl) (by kernel_rfl) (by kernel_rfl) (fun _ _ _ h => h) (Or.inl ⟨by rfl, ?y17_17⟩) ?_
    case' y17_17 => ((intro w hSw; go_simp) <;> (with_reducible rfl))
    try simp only [Act.put, List.setIfInBounds_toArray, List.set_cons_zero, List.set_cons_succ]
    refine AllT.go (rs := [18]) (by kernel_rfl) (by simp) ?_
    refine AllT.late (o := ⟨_, _, _, _, _, _⟩) rfl (by decide) (fun K hK => ?_) ?_
    · go_simp
      refine hK.out _ _ trivial (fun _ => ?_)
      clear hK K
      try simp only [Act.put, List.setIfInBounds_toArray, List.set_cons_zero, List.set_cons_succ]
      refine AnyT.pick (i := 19) (oi := ⟨_, _, _, _, _, _⟩) (v := ?_) rfl (by kernel_rfl) (by kernel_rfl) (by kernel_rfl) (fun _ _ _ h => h) (Or.inl ⟨by rfl, ?y19_18⟩) ?_
      case' y19_18 => ((intro w hSw; go_simp) <;> (with_reducible rfl))
      try simp only [Act.put, List.setIfInBounds_toArray, List.set_cons_zero, List.set_cons_succ]
      refine AnyT.done (by kernel_rfl) ?_ _
      go_wp2_with fail
      obtain ⟨-, ⟨q1, q2, q3⟩, -⟩ := Has3.store HF.out.2.2.2.2.2 (.int .u8 x1) (.int .i64 x2) (.string x3)
      refine bodyPost_ret (v := .tuple #[.agg #[.int .u8 x1, .int .i64 x2, .string x3], .int .i64 re]) (by simp [results, Tryz.results20, go_sem, q1, q2, q3]) rfl ⟨v', rfl, ?_⟩
      exact wpass_end HFw.out hUd' HF.out.1 HF.out.2.1 HF.out.2.2.1 HF.out.2.2.2.1 HF.out.2.2.2.2.1 x1 x2 x3
    exact AllT.nil
  exact AllT.nil
end Go.Proofs.YtmmfpkkkpeapeaaGreatDoor.mb

/- frame.World's Back: what holds before a round: plain. -/
set_option linter.unusedVariables false
namespace Go.Proofs.YtmmfpkkkpeapeaaGreatDoor.mb
open Go.RowKit Go.Maps mem rec ar
set_option maxHeartbeats 400000
/-- Behind a world's Pass, its value laid in block xb. -/
structure Mid4 (w wx : World) (wb p cb : Nat) (lv : Value) (v v' : Nat → Value) (A' : Ar) (C' : Ca) (L : List Mb) (k : Nat) (d : Int) (x : V3) (xb : Nat) : Prop where
  fw : Fw wx wb p cb lv v' A' C' L k d
  xc : Has3 wx xb (.int .u8 x.1) (.int .i64 x.2.1) (.string x.2.2)
  cg : Chg (cb :: foot p v) w wx
  fb : ∀ b ∈ foot p v', b ∈ foot p v ∨ w.heap.size ≤ b
  xn : w.heap.size ≤ xb
section
variable {w wr w1 wx : World} {wb p cb k s5 s6 r : Nat} {lv gv : Value} {v0 v v1 : Nat → Value} {A A1 : Ar} {C C1 : Ca} {L : List Mb} {d e : Int} {bk : List (Int × Int)}
theorem nft {b : Nat} (h : Fw w wb p cb lv v A C L k d) (hb : w.heap.size ≤ b) : b ∉ ftF wb p cb lv v := fun hx => by have := h.lt b hx; omega
theorem wmid {m into : Int} {o : Ob} (h : Fw w wb p cb lv v A C L (k + 1) d) (hm : (Lit.int .i64 m).wf = true) (hf : A.find r = some o) (x1 x2 re : Int) (x3 : ByteArray) (hx : (passR A C L false m into (5, (r : Int), ⟨#[]⟩)).v = (x1, x2, x3)) (he : (passR A C L false m into (5, (r : Int), ⟨#[]⟩)).e = re) (wx : World) (u : Up w wx) :
    Calls Tryz.prog 20 #[.pointer (some ⟨wb, 0, none⟩), .int .i64 m, .int .i64 into, .agg #[.int .u8 5, .int .i64 (r : Int), .string ⟨#[]⟩]] wx fun e w' => ∃ v', e = .returned (.tuple #[.agg #[.int .u8 x1, .int .i64 x2, .string x3], .int .i64 re]) ∧
      (∀ ty, Mid4 w (w'.alloc (.cells #[.int .u8 x1, .int .i64 x2, .string x3] ty)) wb p cb lv v v' (passR A C L false m into (5, (r : Int), ⟨#[]⟩)).A (passR A C L false m into (5, (r : Int), ⟨#[]⟩)).C L k (d + 1) (x1, x2, x3) w'.heap.size) ∧
      (∀ (xb : Nat) (c0 c1 c2 : Value), w.heap.size ≤ xb → Has3 wx xb c0 c1 c2 → Has3 w' xb c0 c1 c2 ∧ Mid4 w (((w'.setCell ⟨xb, 0, none⟩ (.int .u8 x1)).setCell ⟨xb, 1, none⟩ (.int .i64 x2)).setCell ⟨xb, 2, none⟩ (.string x3)) wb p cb lv v v' (passR A C L false m into (5, (r : Int), ⟨#[]⟩)).A (passR A C L false m into (5, (r : Int), ⟨#[]⟩)).C L k (d + 1) (x1, x2, x3) xb) ∧
      Chg (cb :: foot p v) w w' ∧ ((re = 0 → ∃ (r' : Nat) (o' : Ob), ((x1, x2, x3) : V3) = (5, (r' : Int), ⟨#[]⟩) ∧ (passR A C L false m into (5, (r : Int), ⟨#[]⟩)).A.find r' = some o') ∧ (re ≠ 0 → ((x1, x2, x3) : V3) = zero3)) := by
  have H := h.up u
  refine (wpass H hm hf x1 x2 re x3 hx he).mono ?_
  rintro e w' ⟨v', rfl, h1, h2, h3, h4, h5⟩
  have C1 : Chg (cb :: foot p v) w w' := (u.chg.mono (by simp)).trans h2 (fun x hx => .inl hx)
  have F1 : ∀ b ∈ foot p v', b ∈ foot p v ∨ w.heap.size ≤ b := fun b hb => (h3 b hb).imp id (fun e => Nat.le_trans u.size e)
  refine ⟨v', rfl, fun ty => ⟨h1.up ((Up.refl w').alloc _), has3_alloc w' _ _ _ ty, C1.alloc _, F1, C1.size⟩, fun xb c0 c1 c2 hxb hz => ?_, C1, h4, h5⟩
  have nx : xb ∉ cb :: foot p v := fun hx => by have := h.wr.lt xb hx; omega
  have hz' := has3_chg hz h2 nx
  have CS := set3_chg w' xb (.int .u8 x1) (.int .i64 x2) (.string x3)
  refine ⟨hz', h1.chg CS (fun b hb hx => ?_), hz'.store _ _ _, C1.trans CS (fun x hx => .inr (by rw [List.mem_singleton.1 hx]; exact hxb)), F1, hxb⟩
  rw [List.mem_singleton.1 hx] at hb
  rcases mem_ftF.1 hb with h6 | h6 | h6
  · have := h.hd.lt; omega
  · have := (h.row.lt _ h6).2; omega
  · rcases List.mem_cons.1 h6 with h7 | h7
    · exact nx (by rw [h7]; exact List.mem_cons_self ..)
    · rcases h3 _ h7 with h8 | h8
      · exact nx (List.mem_cons_of_mem _ h8)
      · have := hz.1; omega
/-- Before a round of Back; w: where Back began. -/
structure Bk (w wr : World) (wb p cb : Nat) (lv : Value) (v0 v : Nat → Value) (A : Ar) (C : Ca) (L : List Mb) (k : Nat) (d : Int) (gv : Value) (bk : List (Int × Int)) (r : Nat) : Prop where
  fw : Fw wr wb p cb lv v A C L k d
  row : wr.ownsRow 0 78 2 gv bk.length (bk.flatMap cellsP)
  nb : ∀ b, gv.ownBlock = some b → b ∉ ftF wb p cb lv v ∧ b < w.heap.size
  c5 : Has3 wr w.heap.size (.int .u8 5) (.int .i64 (r : Int)) (.string ⟨#[]⟩)
  c6 : Has3 wr (w.heap.size + 1) (.int .u8 0) (.int .i64 0) (.string ⟨#[]⟩)
  n5 : w.heap.size ∉ ftF wb p cb lv v
  n6 : w.heap.size + 1 ∉ ftF wb p cb lv v
  cg : Chg (cb :: foot p v0) w wr
  fb : ∀ b ∈ foot p v, b ∈ foot p v0 ∨ w.heap.size ≤ b
theorem Bk.start (h : Fw w wb p cb lv v A C L k d) (row : w.ownsRow 0 78 2 gv bk.length (bk.flatMap cellsP)) (nb : ∀ b, gv.ownBlock = some b → b ∉ ftF wb p cb lv v) {ty : TypeId} :
    Bk w ((w.alloc (.cells #[.int .u8 5, .int .i64 (r : Int), .string ⟨#[]⟩] ty)).alloc (.cells #[.int .u8 0, .int .i64 0, .string ⟨#[]⟩] ty)) wb p cb lv v v A C L k d gv bk r :=
  have u : Up w ((w.alloc (.cells #[.int .u8 5, .int .i64 (r : Int), .string ⟨#[]⟩] ty)).alloc (.cells #[.int .u8 0, .int .i64 0, .string ⟨#[]⟩] ty)) := ((Up.refl w).alloc _).alloc _
  ⟨h.up u, owns_chg row u.chg (by simp), fun b hb => ⟨nb b hb, (row.lt b hb).2⟩, (has3_alloc w _ _ _ ty).alloc _, has3_alloc2 w _ _ _ _ ty, nft h (Nat.le_refl _), nft h (by omega), u.chg.mono (by simp), fun b hb => .inl hb⟩
theorem ft_new {b : Nat} (hfb : ∀ b ∈ foot p v1, b ∈ foot p v ∨ w.heap.size ≤ b) (hlt : b < w.heap.size) (hn : b ∉ ftF wb p cb lv v) : b ∉ ftF wb p cb lv v1 := fun hx => by
  rcases mem_ftF.1 hx with h1 | h1 | h1
  · exact hn (mem_ftF.2 (.inl h1))
  · exact hn (mem_ftF.2 (.inr (.inl h1)))
  · rcases List.mem_cons.1 h1 with h2 | h2
    · exact hn (mem_ftF.2 (.inr (.inr (by rw [h2]; exact List.mem_cons_self ..))))
    · rcases hfb b h2 with h3 | h3
      · exact hn (mem_ftF.2 (.inr (.inr (List.mem_cons_of_mem _ h3))))
      · omega
/-- Behind Pass, before v is laid anew. -/
theorem Bk.mid {x : V3} {xb : Nat} (h : Bk w wr wb p cb lv v0 v A C L (k + 1) d gv bk r) (M : Mid4 wr wx wb p cb lv v v1 A1 C1 L k e x xb) : Bk w wx wb p cb lv v0 v1 A1 C1 L k e gv bk r := by
  have z := h.cg.size
  have nn : ∀ b ∈ cb :: foot p v, b ∈ ftF wb p cb lv v := fun b hb => mem_ftF.2 (.inr (.inr hb))
  refine ⟨M.fw, owns_chg h.row M.cg (fun b hb hx => (h.nb b hb).1 (nn b hx)), fun b hb => ⟨ft_new M.fb (h.row.lt b hb).2 (h.nb b hb).1, (h.nb b hb).2⟩, has3_chg h.c5 M.cg (fun hx => h.n5 (nn _ hx)), has3_chg h.c6 M.cg (fun hx => h.n6 (nn _ hx)), ft_new M.fb h.c5.1 h.n5, ft_new M.fb h.c6.1 h.n6, h.cg.trans M.cg (fun b hb => ?_), fun b hb => ?_⟩
  · rcases List.mem_cons.1 hb with h1 | h1
    · exact .inl (by rw [h1]; exact List.mem_cons_self ..)
    · exact (h.fb b h1).imp (List.mem_cons_of_mem _) id
  · rcases M.fb b hb with h1 | h1
    · exact h.fb b h1
    · exact .inr (by omega)
theorem Bk.set5 {r' : Nat} (h : Bk w wr wb p cb lv v0 v A C L k d gv bk r) : Bk w (((wr.setCell ⟨w.heap.size, 0, none⟩ (.int .u8 5)).setCell ⟨w.heap.size, 1, none⟩ (.int .i64 (r' : Int))).setCell ⟨w.heap.size, 2, none⟩ (.string ⟨#[]⟩)) wb p cb lv v0 v A C L k d gv bk r' := by
  have CS := set3_chg wr w.heap.size (.int .u8 5) (.int .i64 (r' : Int)) (.string ⟨#[]⟩)
  exact ⟨h.fw.chg CS (fun b hb hx => h.n5 (by rw [← List.mem_singleton.1 hx]; exact hb)), owns_chg h.row CS (fun b hb hx => by have h1 := (h.nb b hb).2; rw [List.mem_singleton.1 hx] at h1; omega), h.nb, h.c5.store _ _ _, has3_chg h.c6 CS (fun hx => by have := List.mem_singleton.1 hx; omega), h.n5, h.n6, h.cg.trans CS (fun x hx => .inr (by rw [List.mem_singleton.1 hx]; omega)), h.fb⟩
/-- The end: the answer is laid. -/
theorem Bk.fin (h : Bk w wr wb p cb lv v0 v A C L k d gv bk r) (a b c : Value) : Fw (((wr.setCell ⟨w.heap.size + 1, 0, none⟩ a).setCell ⟨w.heap.size + 1, 1, none⟩ b).setCell ⟨w.heap.size + 1, 2, none⟩ c) wb p cb lv v A C L k d ∧ Chg (cb :: foot p v0) w (((wr.setCell ⟨w.heap.size + 1, 0, none⟩ a).setCell ⟨w.heap.size + 1, 1, none⟩ b).setCell ⟨w.heap.size + 1, 2, none⟩ c) ∧ ∀ b ∈ foot p v, b ∈ foot p v0 ∨ w.heap.size ≤ b := by
  have CS := set3_chg wr (w.heap.size + 1) a b c
  exact ⟨h.fw.chg CS (fun b hb hx => h.n6 (by rw [← List.mem_singleton.1 hx]; exact hb)), h.cg.trans CS (fun x hx => .inr (by rw [List.mem_singleton.1 hx]; omega)), h.fb⟩
end
theorem runR_step {L : List Mb} {bk : List (Int × Int)} {j : Nat} {x : Int × Int} (hx : bk[j]? = some x) (A : Ar) (C : Ca) (v : V3) : runR L (bk.take (j + 1)).reverse A C v = if (passR A C L false x.1 x.2 v).e ≠ 0 then passR A C L false x.1 x.2 v else runR L (bk.take j).reverse (passR A C L false x.1 x.2 v).A (passR A C L false x.1 x.2 v).C (passR A C L false x.1 x.2 v).v := by
  rw [List.take_add_one, hx, List.reverse_append]
  rfl
theorem heldC {w : World} {gb gc : Nat} {bk : List (Int × Int)} (h : w.ownsRow 0 78 2 (.slice (some ⟨gb, 0, none⟩) bk.length gc) bk.length (bk.flatMap cellsP)) {j : Nat} {x : Int × Int} (hx : bk[j]? = some x) : w.cell? ⟨gb, j * 2, none⟩ = some (.int .i64 x.1) ∧ w.cell? ⟨gb, j * 2 + 1, none⟩ = some (.int .i64 x.2) := by
  have hj := (List.getElem?_eq_some_iff.1 hx).1
  have e0 := flat2_get bk j 0 x hx (by decide)
  have e1 := flat2_get bk j 1 x hx (by decide)
  refine ⟨?_, ?_⟩
  · rw [World.ownsRow.cellAt h (j * 2) (by omega)]; exact e0
  · rw [World.ownsRow.cellAt h (j * 2 + 1) (by omega)]; exact e1
end Go.Proofs.YtmmfpkkkpeapeaaGreatDoor.mb

/- frame.World's Back, walked (printed by fr_gen.py). -/
set_option linter.unusedVariables false
set_option linter.unusedSimpArgs false
namespace Go.Proofs.YtmmfpkkkpeapeaaGreatDoor.mb
open Go.RowKit Go.Maps mem rec ar
attribute [local go_sem ↓] Go.wp_at_zero Go.wp_at_succ
set_option maxRecDepth 100000
set_option maxHeartbeats 4000000
theorem wback {w : World} {wb p cb k : Nat} {lv gv : Value} {v0 : Nat → Value} {A0 : Ar} {C0 : Ca} {L : List Mb} {d : Int} {bk : List (Int × Int)} {r : Nat} {o : Ob} (h : Fw w wb p cb lv v0 A0 C0 L (k + bk.length) d) (row : w.ownsRow 0 78 2 gv bk.length (bk.flatMap cellsP)) (nb : ∀ b, gv.ownBlock = some b → b ∉ ftF wb p cb lv v0) (hb8 : bk.length ≤ 8) (hms : ∀ x ∈ bk, (Lit.int .i64 x.1).wf = true) (hf : A0.find r = some o) :
    Calls Tryz.prog 22 #[.pointer (some ⟨wb, 0, none⟩), gv, .agg #[.int .u8 5, .int .i64 (r : Int), .string ⟨#[]⟩]] w fun e w' => ∃ v', e = .returned (.tuple #[val (runR L bk.reverse A0 C0 (5, (r : Int), ⟨#[]⟩)).v, .int .i64 (runR L bk.reverse A0 C0 (5, (r : Int), ⟨#[]⟩)).e]) ∧
      Fw w' wb p cb lv v' (runR L bk.reverse A0 C0 (5, (r : Int), ⟨#[]⟩)).A (runR L bk.reverse A0 C0 (5, (r : Int), ⟨#[]⟩)).C L k (d + bk.length) ∧ Chg (cb :: foot p v0) w w' ∧ (∀ b ∈ foot p v', b ∈ foot p v0 ∨ w.heap.size ≤ b) ∧
      ((runR L bk.reverse A0 C0 (5, (r : Int), ⟨#[]⟩)).e = 0 → ∃ (r' : Nat) (o' : Ob), (runR L bk.reverse A0 C0 (5, (r : Int), ⟨#[]⟩)).v = (5, (r' : Int), ⟨#[]⟩) ∧ (runR L bk.reverse A0 C0 (5, (r : Int), ⟨#[]⟩)).A.find r' = some o') ∧
      ((runR L bk.reverse A0 C0 (5, (r : Int), ⟨#[]⟩)).e ≠ 0 → (runR L bk.reverse A0 C0 (5, (r : Int), ⟨#[]⟩)).v = zero3) := by
  obtain ⟨ga, gc, rfl, -, -, hga⟩ := ar.shape row
  have B0 := Lib.hid (Bk.start (r := r) (ty := 51) h row nb)
  obtain ⟨R, hR⟩ : ∃ R, R = runR L bk.reverse A0 C0 (5, (r : Int), ⟨#[]⟩) := ⟨_, rfl⟩
  rw [← hR]
  have hR0 : R = runR L (bk.take bk.length).reverse A0 C0 (5, (r : Int), ⟨#[]⟩) := by rw [List.take_length]; exact hR
  have HR0 := Lib.hid (And.intro hR0 hf)
  have HMS := Lib.hid hms
  have hw : IntKind.i64.wrap ((bk.length : Int) - 1) = (bk.length : Int) - 1 := by rw [IntKind.wrap_i64] <;> omega
  clear hR hR0 hms h row nb hf
  obtain ⟨W2, hW2⟩ : ∃ W2, W2 = (w.alloc (.cells #[.int .u8 5, .int .i64 (r : Int), .string ⟨#[]⟩] 51)).alloc (.cells #[.int .u8 0, .int .i64 0, .string ⟨#[]⟩] 51) := ⟨_, rfl⟩
  rw [← hW2] at B0
  go_enter Tryz.func22, Tryz.ntmps22
  go_wp2_with fail
  rw [← hW2]
  clear hW2 hw
  go_loopw [8] (fun i wr => ∃ (j rr : Nat) (x : Int) (v : Nat → Value) (A : Ar) (C : Ca) (o : Ob), j ≤ bk.length ∧ i = .int .i64 x ∧ x = (j : Int) - 1 ∧ R = runR L (bk.take j).reverse A C (5, (rr : Int), ⟨#[]⟩) ∧ A.find rr = some o ∧ Bk w wr wb p cb lv v0 v A C L (k + j) (d + (bk.length - j : Nat)) (.slice ga bk.length gc) bk rr) (fun i _ => (intOf i + 1).toNat)
  case atStart => exact ⟨bk.length, r, _, v0, A0, C0, o, by omega, rfl, rfl, HR0.out.1, HR0.out.2, by rw [Nat.sub_self]; simpa using B0.out⟩
  case round =>
    obtain ⟨j, rr, x, v, A, C, oo, hj, rfl, hxj, hrun, hfo, hB⟩ := hrel
    clear B0 HR0
    have BB := Lib.hid hB
    have HRF := Lib.hid (And.intro hrun hfo)
    clear hB hrun hfo
    by_cases hj0 : j = 0
    · subst hj0
      have hx1 : x = -1 := by omega
      clear hxj
      subst hx1
      have hR := HRF.out.1
      rw [List.take_zero] at hR
      have hR2 : R = ⟨(5, (rr : Int), ⟨#[]⟩), 0, A, C⟩ := hR
      have HE := Lib.hid hR2
      clear hR hR2
      obtain ⟨x0, ⟨x1, x2, x3⟩, -⟩ := BB.out.c5
      obtain ⟨z0, ⟨z1, z2, z3⟩, ⟨z4, z5, z6⟩⟩ := BB.out.c6
      go_wp2_with fail
      obtain ⟨f1, f2, f3⟩ := BB.out.fin (.int .u8 5) (.int .i64 (rr : Int)) (.string ⟨#[]⟩)
      obtain ⟨-, ⟨q1, q2, q3⟩, -⟩ := Has3.store BB.out.c6 (.int .u8 5) (.int .i64 (rr : Int)) (.string ⟨#[]⟩)
      refine bodyPost_ret (v := .tuple #[.agg #[.int .u8 5, .int .i64 (rr : Int), .string ⟨#[]⟩], .int .i64 0]) (by simp [results, Tryz.results22, go_sem, q1, q2, q3]) rfl ?_
      rw [HE.out]
      exact ⟨v, rfl, by simpa using f1, f2, f3, fun _ => ⟨rr, oo, rfl, HRF.out.2⟩, fun hh => absurd rfl hh⟩
    · obtain ⟨i, rfl⟩ : ∃ i, j = i + 1 := ⟨j - 1, by omega⟩
      have hxi : x = (i : Int) := by omega
      clear hxj
      subst hxi
      obtain ⟨⟨xm, xt⟩, hy⟩ : ∃ y, bk[i]? = some y := ⟨_, List.getElem?_eq_getElem (by omega)⟩
      have hR := HRF.out.1
      rw [runR_step hy] at hR
      simp only at hR
      obtain ⟨P, hP⟩ : ∃ P, P = passR A C L false xm xt (5, (rr : Int), ⟨#[]⟩) := ⟨_, rfl⟩
      rw [← hP] at hR
      have hga2 : ∃ gb, ga = some ⟨gb, 0, none⟩ := by
        rcases hga with ⟨-, h1, -⟩ | ⟨gb, h1, -⟩
        · omega
        · exact ⟨gb, h1⟩
      obtain ⟨gb, rfl⟩ := hga2
      obtain ⟨⟨y1, y2, y3⟩, hPv⟩ : ∃ y, P.v = y := ⟨_, rfl⟩
      obtain ⟨re, hPe⟩ : ∃ re, P.e = re := ⟨_, rfl⟩
      have PX := Lib.hid (wmid (k := k + i) BB.out.fw (HMS.out _ (List.mem_of_getElem? hy)) HRF.out.2 y1 y2 re y3 (by rw [← hP]; exact hPv) (by rw [← hP]; exact hPe))
      rw [← hP] at PX
      have HS : Hid (∀ w', Chg (cb :: foot p v) wr w' → w'.cell? ⟨gb, i * 2, none⟩ = some (.int .i64 xm) ∧ w'.cell? ⟨gb, i * 2 + 1, none⟩ = some (.int .i64 xt) ∧ w'.cell? ⟨w.heap.size, 0, none⟩ = some (.int .u8 5) ∧ w'.cell? ⟨w.heap.size, 1, none⟩ = some (.int .i64 (rr : Int)) ∧ w'.cell? ⟨w.heap.size, 2, none⟩ = some (.string ⟨#[]⟩)) := by
        intro w' c
        have nn : ∀ b ∈ cb :: foot p v, b ∈ ftF wb p cb lv v := fun b hb => mem_ftF.2 (.inr (.inr hb))
        obtain ⟨e1, e2⟩ := heldC (owns_chg BB.out.row c (fun b hb hx => (BB.out.nb b hb).1 (nn b hx))) hy
        obtain ⟨-, ⟨g1, g2, g3⟩, -⟩ := has3_chg BB.out.c5 c (fun hx => BB.out.n5 (nn _ hx))
        exact ⟨e1, e2, g1, g2, g3⟩
      have HRR := Lib.hid (And.intro hR (And.intro hPv hPe))
      have hil : (i : Int) < (bk.length : Int) := by omega
      have hi0 : (0 : Int) ≤ (i : Int) := by omega
      clear hy hR hP hPv hPe hga
      go_wp2_with fail
      go_cut [9, 10] from 18 to 33 (fun x y wx => ∃ (xb : Nat) (v' : Nat → Value), x = .pointer (some ⟨xb, 0, none⟩) ∧ y = .int .i64 re ∧ Mid4 wr wx wb p cb lv v v' P.A P.C L (k + i) (d + (bk.length - (i + 1) : Nat) + 1) (y1, y2, y3) xb ∧ ((re = 0 → ∃ (r' : Nat) (o' : Ob), ((y1, y2, y3) : V3) = (5, (r' : Int), ⟨#[]⟩) ∧ P.A.find r' = some o') ∧ (re ≠ 0 → ((y1, y2, y3) : V3) = zero3)))
      case first =>
        refine AnyT.start (S := fun w' => w'.cell? ⟨gb, i * 2, none⟩ = some (.int .i64 xm) ∧ w'.cell? ⟨gb, i * 2 + 1, none⟩ = some (.int .i64 xt) ∧ w'.cell? ⟨w.heap.size, 0, none⟩ = some (.int .u8 5) ∧ w'.cell? ⟨w.heap.size, 1, none⟩ = some (.int .i64 (rr : Int)) ∧ w'.cell? ⟨w.heap.size, 2, none⟩ = some (.string ⟨#[]⟩)) 17 (by kernel_rfl) (HS.out _ ((Chg.refl (cb :: foot p v) wr).drew)) (fun hHeld => ?_)
        have hUd : Up wr wr.drew := (Up.refl wr).drew
        generalize World.drew wr = wd at hUd hHeld ⊢
        refine AnyT.pick (i := 0) (oi := ⟨_, _, _, _, _, _⟩) (v := ?_) rfl (by kernel_rfl) (by kernel_rfl) (by kernel_rfl) (fun _ _ _ h => h) (Or.inl ⟨by rfl, ?y0_1⟩) ?_
        case' y0_1 => ((intro w hSw; go_simp) <;> (with_reducible rfl))
        try simp only [Act.put, List.setIfInBounds_toArray, List.set_cons_zero, List.set_cons_succ]
        refine AnyT.pick (i := 1) (oi := ⟨_, _, _, _, _, _⟩) (v := ?_) rfl (by kernel_rfl) (by kernel_rfl) (by kernel_rfl) (fun _ _ _ h => h) (Or.inl ⟨by rfl, ?y1_2⟩) ?_
        case' y1_2 => ((intro w hSw; go_simp) <;> (with_reducible rfl))
        try simp only [Act.put, List.setIfInBounds_toArray, List.set_cons_zero, List.set_cons_succ]
        refine AnyT.pick (i := 2) (oi := ⟨_, _, _, _, _, _⟩) (v := ?_) rfl (by kernel_rfl) (by kernel_rfl) (by kernel_rfl) (fun _ _ _ h => h) (Or.inl ⟨by rfl, ?y2_3⟩) ?_
        case' y2_3 => ((intro w hSw; go_simp) <;> (with_reducible rfl))
        try simp only [Act.put, List.setIfInBounds_toArray, List.set_cons_zero, List.set_cons_succ]
        refine AnyT.pick (i := 3) (oi := ⟨_, _, _, _, _, _⟩) (v := ?_) rfl (by kernel_rfl) (by kernel_rfl) (by kernel_rfl) (fun _ _ _ h => h) (Or.inl ⟨by rfl, ?y3_4⟩) ?_
        case' y3_4 => ((intro w hSw; go_simp) <;> (with_reducible rfl))
        try simp only [Act.put, List.setIfInBounds_toArray, List.set_cons_zero, List.set_cons_succ]
        refine AnyT.pick (i := 4) (oi := ⟨_, _, _, _, _, _⟩) (v := ?_) rfl (by kernel_rfl) (by kernel_rfl) (by kernel_rfl) (fun _ _ _ h => h) (Or.inl ⟨by rfl, ?y4_5⟩) ?_
        case' y4_5 => ((intro w hSw; go_simp) <;> (with_reducible rfl))
        try simp only [Act.put, List.setIfInBounds_toArray, List.set_cons_zero, List.set_cons_succ]
        refine AnyT.take (i := 5) (oi := ⟨_, _, _, _, _, _⟩) (v := ?_) rfl (by kernel_rfl) (by kernel_rfl) (by kernel_rfl) (by kernel_rfl) (fun _ _ _ h => h) (Or.inl ⟨by rfl, ?y5_6⟩) (by assumption) ?_
        case' y5_6 => ((intro w hSw; (try dsimp only at hSw); go_simp) <;> (with_reducible rfl))
        try simp only [Act.put, List.setIfInBounds_toArray, List.set_cons_zero, List.set_cons_succ]
        refine AnyT.pick (i := 6) (oi := ⟨_, _, _, _, _, _⟩) (v := ?_) rfl (by kernel_rfl) (by kernel_rfl) (by kernel_rfl) (fun _ _ _ h => h) (Or.inl ⟨by rfl, ?y6_7⟩) ?_
        case' y6_7 => ((intro w hSw; go_simp) <;> (with_reducible rfl))
        try simp only [Act.put, List.setIfInBounds_toArray, List.set_cons_zero, List.set_cons_succ]
        refine AnyT.pick (i := 7) (oi := ⟨_, _, _, _, _, _⟩) (v := ?_) rfl (by kernel_rfl) (by kernel_rfl) (by kernel_rfl) (fun _ _ _ h => h) (Or.inl ⟨by rfl, ?y7_8⟩) ?_
        case' y7_8 => ((intro w hSw; go_simp) <;> (with_reducible rfl))
        try simp only [Act.put, List.setIfInBounds_toArray, List.set_cons_zero, List.set_cons_succ]
        refine AnyT.pick (i := 8) (oi := ⟨_, _, _, _, _, _⟩) (v := ?_) rfl (by kernel_rfl) (by kernel_rfl) (by kernel_rfl) (fun _ _ _ h => h) (Or.inl ⟨by rfl, ?y8_9⟩) ?_
        case' y8_9 => ((intro w hSw; go_simp) <;> (with_reducible rfl))
        try simp only [Act.put, List.setIfInBounds_toArray, List.set_cons_zero, List.set_cons_succ]
        refine AnyT.pick (i := 9) (oi := ⟨_, _, _, _, _, _⟩) (v := ?_) rfl (by kernel_rfl) (by kernel_rfl) (by kernel_rfl) (fun _ _ _ h => h) (Or.inl ⟨by rfl, ?y9_10⟩) ?_
        case' y9_10 => ((intro w hSw; go_simp) <;> (with_reducible rfl))
        try simp only [Act.put, List.setIfInBounds_toArray, List.set_cons_zero, List.set_cons_succ]
        refine AnyT.take (i := 10) (oi := ⟨_, _, _, _, _, _⟩) (v := ?_) rfl (by kernel_rfl) (by kernel_rfl) (by kernel_rfl) (by kernel_rfl) (fun _ _ _ h => h) (Or.inl ⟨by rfl, ?y10_11⟩) (by assumption) ?_
        case' y10_11 => ((intro w hSw; (try dsimp only at hSw); go_simp) <;> (with_reducible rfl))
        try simp only [Act.put, List.setIfInBounds_toArray, List.set_cons_zero, List.set_cons_succ]
        refine AnyT.take (i := 11) (oi := ⟨_, _, _, _, _, _⟩) (v := ?_) rfl (by kernel_rfl) (by kernel_rfl) (by kernel_rfl) (by kernel_rfl) (fun _ _ _ h => h) (Or.inl ⟨by rfl, ?y11_12⟩) (by assumption) ?_
        case' y11_12 => ((intro w hSw; (try dsimp only at hSw); go_simp) <;> (with_reducible rfl))
        try simp only [Act.put, List.setIfInBounds_toArray, List.set_cons_zero, List.set_cons_succ]
        refine AllT.go (rs := [12, 16]) (by kernel_rfl) (by simp) ?_
        refine AllT.early (o := ⟨_, _, _, _, _, _⟩) rfl (fun K hK => ?_) ?_
        · go_simp
          go_at_call 20
          refine (PX.out _ hUd).mono ?_
          rintro e wp ⟨v', rfl, hAf, hBf, hCg, hr⟩
          refine hK.out _ _ (HS.out _ hCg) (fun _ => ?_)
          clear hK K hHeld
          try simp only [Act.put, List.setIfInBounds_toArray, List.set_cons_zero, List.set_cons_succ]
          refine AnyT.pick (i := 13) (oi := ⟨_, _, _, _, _, _⟩) (v := ?_) rfl (by kernel_rfl) (by kernel_rfl) (by kernel_rfl) (fun _ _ _ h => h) (Or.inl ⟨by rfl, ?y13_13⟩) ?_
          case' y13_13 => ((intro w hSw; go_simp) <;> (with_reducible rfl))
          try simp only [Act.put, List.setIfInBounds_toArray, List.set_cons_zero, List.set_cons_succ]
          refine AnyT.pick (i := 14) (oi := ⟨_, _, _, _, _, _⟩) (v := ?_) rfl (by kernel_rfl) (by kernel_rfl) (by kernel_rfl) (fun _ _ _ h => h) (Or.inl ⟨by rfl, ?y14_14⟩) ?_
          case' y14_14 => ((intro w hSw; go_simp) <;> (with_reducible rfl))
          try simp only [Act.put, List.setIfInBounds_toArray, List.set_cons_zero, List.set_cons_succ]
          refine AnyT.pick (i := 15) (oi := ⟨_, _, _, _, _, _⟩) (v := ?_) rfl (by kernel_rfl) (by kernel_rfl) (by kernel_rfl) (fun _ _ _ h => h) (Or.inl ⟨by rfl, ?y15_15⟩) ?_
          case' y15_15 => ((intro w hSw; go_simp) <;> (with_reducible rfl))
          try simp only [Act.put, List.setIfInBounds_toArray, List.set_cons_zero, List.set_cons_succ]
          refine AllT.go (rs := [16]) (by kernel_rfl) (by simp) ?_
          refine AllT.early (o := ⟨_, _, _, _, _, _⟩) rfl (fun K hK => ?_) ?_
          · go_simp
            refine hK.out _ _ (HS.out _ (hCg.alloc _)) (fun _ => ?_)
            clear hK K
            try simp only [Act.put, List.setIfInBounds_toArray, List.set_cons_zero, List.set_cons_succ]
            refine AllT.go (rs := [17]) (by kernel_rfl) (by simp) ?_
            refine AllT.late (o := ⟨_, _, _, _, _, _⟩) rfl (by decide) (fun K hK => ?_) ?_
            · go_simp
              refine hK.out _ _ trivial (fun _ => ?_)
              clear hK K
              try simp only [Act.put, List.setIfInBounds_toArray, List.set_cons_zero, List.set_cons_succ]
              refine AnyT.pick (i := 18) (oi := ⟨_, _, _, _, _, _⟩) (v := ?_) rfl (by kernel_rfl) (by kernel_rfl) (by kernel_rfl) (fun _ _ _ h => h) (Or.inl ⟨by rfl, ?y18_16⟩) ?_
              case' y18_16 => ((intro w hSw; go_simp) <;> (with_reducible rfl))
              try simp only [Act.put, List.setIfInBounds_toArray, List.set_cons_zero, List.set_cons_succ]
              refine AnyT.done (by kernel_rfl) ?_ _
              go_wp2_with fail
              go_meet
              exact ⟨wp.heap.size, v', rfl, rfl, hAf _, hr⟩
            exact AllT.nil
          exact AllT.nil
        refine AllT.early (o := ⟨_, _, _, _, _, _⟩) rfl (fun K hK => ?_) ?_
        · go_simp
          refine hK.out _ _ (HS.out _ ((hUd.chg.mono (by simp)).alloc _)) (fun _ => ?_)
          clear hK K
          try simp only [Act.put, List.setIfInBounds_toArray, List.set_cons_zero, List.set_cons_succ]
          have X3 := has3_alloc wd (.int .u8 0) (.int .i64 0) (.string ⟨#[]⟩) 51
          refine AllT.go (rs := [12]) (by kernel_rfl) (by simp) ?_
          refine AllT.early (o := ⟨_, _, _, _, _, _⟩) rfl (fun K hK => ?_) ?_
          · go_simp
            go_at_call 20
            refine (PX.out _ (hUd.alloc _)).mono ?_
            rintro e wp ⟨v', rfl, hAf, hBf, hCg, hr⟩
            refine hK.out _ _ (HS.out _ hCg) (fun _ => ?_)
            clear hK K hHeld
            obtain ⟨hz, hMd⟩ := hBf wd.heap.size _ _ _ hUd.size X3
            clear X3 hBf hAf
            obtain ⟨z0, ⟨z1, z2, z3⟩, ⟨z4, z5, z6⟩⟩ := hz
            try simp only [Act.put, List.setIfInBounds_toArray, List.set_cons_zero, List.set_cons_succ]
            refine AnyT.pick (i := 13) (oi := ⟨_, _, _, _, _, _⟩) (v := ?_) rfl (by kernel_rfl) (by kernel_rfl) (by kernel_rfl) (fun _ _ _ h => h) (Or.inl ⟨by rfl, ?y13_17⟩) ?_
            case' y13_17 => ((intro w hSw; go_simp) <;> (with_reducible rfl))
            try simp only [Act.put, List.setIfInBounds_toArray, List.set_cons_zero, List.set_cons_succ]
            refine AnyT.pick (i := 14) (oi := ⟨_, _, _, _, _, _⟩) (v := ?_) rfl (by kernel_rfl) (by kernel_rfl) (by kernel_rfl) (fun _ _ _ h => h) (Or.inl ⟨by rfl, ?y14_18⟩) ?_
            case' y14_18 => ((intro w hSw; go_simp) <;> (with_reducible rfl))
            try simp only [Act.put, List.setIfInBounds_toArray, List.set_cons_zero, List.set_cons_succ]
            refine AnyT.pick (i := 15) (oi := ⟨_, _, _, _, _, _⟩) (v := ?_) rfl (by kernel_rfl) (by kernel_rfl) (by kernel_rfl) (fun _ _ _ h => h) (Or.inl ⟨by rfl, ?y15_19⟩) ?_
            case' y15_19 => ((intro w hSw; go_simp) <;> (with_reducible rfl))
            try simp only [Act.put, List.setIfInBounds_toArray, List.set_cons_zero, List.set_cons_succ]
            refine AllT.go (rs := [17]) (by kernel_rfl) (by simp) ?_
            refine AllT.late (o := ⟨_, _, _, _, _, _⟩) rfl (by decide) (fun K hK => ?_) ?_
            · go_simp
              refine hK.out _ _ trivial (fun _ => ?_)
              clear hK K
              try simp only [Act.put, List.setIfInBounds_toArray, List.set_cons_zero, List.set_cons_succ]
              refine AnyT.pick (i := 18) (oi := ⟨_, _, _, _, _, _⟩) (v := ?_) rfl (by kernel_rfl) (by kernel_rfl) (by kernel_rfl) (fun _ _ _ h => h) (Or.inl ⟨by rfl, ?y18_20⟩) ?_
              case' y18_20 => ((intro w hSw; go_simp) <;> (with_reducible rfl))
              try simp only [Act.put, List.setIfInBounds_toArray, List.set_cons_zero, List.set_cons_succ]
              refine AnyT.done (by kernel_rfl) ?_ _
              go_wp2_with fail
              go_meet
              exact ⟨wd.heap.size, v', rfl, rfl, hMd, hr⟩
            exact AllT.nil
          exact AllT.nil
        exact AllT.nil
      case rest =>
        obtain ⟨xb, v', rfl, rfl, hM, hr0, hr1⟩ := hcut
        have B2 := Lib.hid (Bk.mid (k := k + i) BB.out hM)
        have hX := hM.xc
        clear PX HS hM
        obtain ⟨x0, ⟨x1, x2, x3⟩, -⟩ := hX
        simp only at x1 x2 x3
        by_cases hre : re = 0
        · subst hre
          obtain ⟨r', o', hv3, hfo'⟩ := hr0 rfl
          cases hv3
          have HN : Hid (R = runR L (bk.take i).reverse P.A P.C (5, (r' : Int), ⟨#[]⟩)) := by
            have h1 := HRR.out.1
            rw [HRR.out.2.2, HRR.out.2.1] at h1
            rw [if_neg (by decide)] at h1
            exact h1
          have HFO := Lib.hid hfo'
          have hw2 : IntKind.i64.wrap ((i : Int) - 1) = (i : Int) - 1 := by rw [IntKind.wrap_i64] <;> omega
          obtain ⟨z0, ⟨z1, z2, z3⟩, ⟨z4, z5, z6⟩⟩ := B2.out.c5
          clear hr0 hr1 hfo'
          go_wp2_with fail
          go_roundw
          case rel => exact ⟨i, r', (i : Int) - 1, v', P.A, P.C, o', by omega, rfl, rfl, HN.out, HFO.out, by rw [show ((bk.length - i : Nat) : Int) = (bk.length - (i + 1) : Nat) + 1 by omega, ← Int.add_assoc]; exact B2.out.set5⟩
          case measure => simp [intOf]
        · have hv3 := hr1 hre
          cases hv3
          have hreb : (re == 0) = false := by simpa using hre
          have HN : Hid (R = P ∧ P.v = zero3 ∧ P.e = re) := by
            have h1 := HRR.out.1
            have h2 : ¬ P.e = 0 := by rw [HRR.out.2.2]; exact hre
            rw [if_pos h2] at h1
            exact ⟨h1, HRR.out.2.1, HRR.out.2.2⟩
          obtain ⟨z0, ⟨z1, z2, z3⟩, ⟨z4, z5, z6⟩⟩ := B2.out.c6
          clear hr0 hr1
          go_wp2_with fail
          obtain ⟨f1, f2, f3⟩ := B2.out.fin (.int .u8 0) (.int .i64 0) (.string ⟨#[]⟩)
          obtain ⟨-, ⟨q1, q2, q3⟩, -⟩ := Has3.store B2.out.c6 (.int .u8 0) (.int .i64 0) (.string ⟨#[]⟩)
          refine bodyPost_ret (v := .tuple #[.agg #[.int .u8 0, .int .i64 0, .string ⟨#[]⟩], .int .i64 re]) (by simp [results, Tryz.results22, go_sem, q1, q2, q3]) rfl ?_
          rw [HN.out.1, HN.out.2.1, HN.out.2.2]
          exact ⟨v', rfl, f1.less (by omega) (by omega), f2, f3, fun hh => absurd hh hre, fun _ => rfl⟩
end Go.Proofs.YtmmfpkkkpeapeaaGreatDoor.mb

/- FrameBacks: two worlds that are made alike: plain laws. -/
set_option linter.unusedVariables false
namespace Go.Proofs.YtmmfpkkkpeapeaaGreatDoor.mb
open Go.RowKit Go.Maps mem rec ar
set_option maxHeartbeats 400000
structure FW where
  wb : Nat
  p : Nat
  cb : Nat
  lv : Value
  v : Nat → Value
  A : Ar
  C : Ca
def FW.ok (x : FW) (w : World) (L : List Mb) (k : Nat) (d : Int) : Prop := Fw w x.wb x.p x.cb x.lv x.v x.A x.C L k d
def FW.ft (x : FW) : List Nat := ftF x.wb x.p x.cb x.lv x.v
/-- The two worlds; the blocks of the variables worlds (s7) and start (s8). -/
structure Two (w0 w : World) (s7 s8 r0 : Nat) (x y : FW) (L : List Mb) (k j : Nat) (d e : Int) : Prop where
  fx : x.ok w L k d
  fy : y.ok w L j e
  dj : ∀ b ∈ x.ft, b ∉ y.ft
  c7 : w.cell? ⟨s7, 0, none⟩ = some (.pointer (some ⟨x.wb, 0, none⟩)) ∧ w.cell? ⟨s7, 1, none⟩ = some (.pointer (some ⟨y.wb, 0, none⟩))
  l7 : s7 < w.heap.size ∧ s7 ∉ x.ft ∧ s7 ∉ y.ft ∧ w0.heap.size ≤ s7
  c8 : Has3 w s8 (.int .u8 5) (.int .i64 (r0 : Int)) (.string ⟨#[]⟩)
  l8 : s8 ∉ x.ft ∧ s8 ∉ y.ft ∧ s8 ≠ s7 ∧ w0.heap.size ≤ s8
  frx : ∀ b ∈ x.ft, w0.heap.size ≤ b
  fry : ∀ b ∈ y.ft, w0.heap.size ≤ b
  bel : Up w0 w
section
variable {w0 w w1 wx : World} {s7 s8 r0 k j : Nat} {x y x1 y1 : FW} {L : List Mb} {d e : Int}
theorem Two.chg {F : List Nat} (h : Two w0 w s7 s8 r0 x y L k j d e) (c : Chg F w w1) (hx : ∀ b ∈ x.ft, b ∉ F) (hy : ∀ b ∈ y.ft, b ∉ F) (h7 : s7 ∉ F) (h8 : s8 ∉ F) (h0 : ∀ b ∈ F, w0.heap.size ≤ b) : Two w0 w1 s7 s8 r0 x y L k j d e :=
  ⟨Fw.chg h.fx c hx, Fw.chg h.fy c hy, h.dj, ⟨(c.cell h.l7.1 h7).trans h.c7.1, (c.cell h.l7.1 h7).trans h.c7.2⟩, ⟨Nat.lt_of_lt_of_le h.l7.1 c.size, h.l7.2⟩, has3_chg h.c8 c h8, h.l8, h.frx, h.fry, Below.trans h.bel (c.below h.bel.size h0)⟩
theorem Two.up (h : Two w0 w s7 s8 r0 x y L k j d e) (u : Up w w1) : Two w0 w1 s7 s8 r0 x y L k j d e := h.chg u.chg (by simp) (by simp) (by simp) (by simp) (by simp)
theorem sub_ft {wb p cb : Nat} {lv : Value} {v : Nat → Value} : ∀ b ∈ cb :: foot p v, b ∈ ftF wb p cb lv v := fun b hb => mem_ftF.2 (.inr (.inr hb))
/-- The first world has turned by itself. -/
theorem Two.left {k1 : Nat} {d1 : Int} (h : Two w0 w s7 s8 r0 x y L k j d e) {v1 : Nat → Value} {A1 : Ar} {C1 : Ca} (f : Fw w1 x.wb x.p x.cb x.lv v1 A1 C1 L k1 d1) (c : Chg (x.cb :: foot x.p x.v) w w1) (fb : ∀ b ∈ foot x.p v1, b ∈ foot x.p x.v ∨ w.heap.size ≤ b) : Two w0 w1 s7 s8 r0 { x with v := v1, A := A1, C := C1 } y L k1 j d1 e := by
  have z := h.bel.size
  have nx : ∀ b, b < w.heap.size → b ∉ x.ft → b ∉ ftF x.wb x.p x.cb x.lv v1 := fun b hb hn => ft_new fb hb hn
  have old : ∀ b ∈ ftF x.wb x.p x.cb x.lv v1, b ∈ x.ft ∨ w.heap.size ≤ b := fun b hb => by
    by_cases hl : b < w.heap.size
    · by_cases hn : b ∈ x.ft
      · exact .inl hn
      · exact absurd hb (nx b hl hn)
    · exact .inr (by omega)
  refine ⟨f, Fw.chg h.fy c (fun b hb hx => h.dj b (sub_ft b hx) hb), fun b hb hy => ?_, ⟨(c.cell h.l7.1 (fun hx => h.l7.2.1 (sub_ft _ hx))).trans h.c7.1, (c.cell h.l7.1 (fun hx => h.l7.2.1 (sub_ft _ hx))).trans h.c7.2⟩, ⟨Nat.lt_of_lt_of_le h.l7.1 c.size, nx s7 h.l7.1 h.l7.2.1, h.l7.2.2⟩, has3_chg h.c8 c (fun hx => h.l8.1 (sub_ft _ hx)), ⟨nx s8 h.c8.1 h.l8.1, h.l8.2⟩, fun b hb => ?_, h.fry, Below.trans h.bel (c.below z (fun b hb => h.frx b (sub_ft b hb)))⟩
  · rcases old b hb with h1 | h1
    · exact h.dj b h1 hy
    · have := Fw.lt h.fy b hy; omega
  · rcases old b hb with h1 | h1
    · exact h.frx b h1
    · omega
theorem Two.right {k1 : Nat} {d1 : Int} (h : Two w0 w s7 s8 r0 x y L k j d e) {v1 : Nat → Value} {A1 : Ar} {C1 : Ca} (f : Fw w1 y.wb y.p y.cb y.lv v1 A1 C1 L k1 d1) (c : Chg (y.cb :: foot y.p y.v) w w1) (fb : ∀ b ∈ foot y.p v1, b ∈ foot y.p y.v ∨ w.heap.size ≤ b) : Two w0 w1 s7 s8 r0 x { y with v := v1, A := A1, C := C1 } L k k1 d d1 := by
  have z := h.bel.size
  have nx : ∀ b, b < w.heap.size → b ∉ y.ft → b ∉ ftF y.wb y.p y.cb y.lv v1 := fun b hb hn => ft_new fb hb hn
  have old : ∀ b ∈ ftF y.wb y.p y.cb y.lv v1, b ∈ y.ft ∨ w.heap.size ≤ b := fun b hb => by
    by_cases hl : b < w.heap.size
    · by_cases hn : b ∈ y.ft
      · exact .inl hn
      · exact absurd hb (nx b hl hn)
    · exact .inr (by omega)
  refine ⟨Fw.chg h.fx c (fun b hb hx => h.dj b hb (sub_ft b hx)), f, fun b hb hy => ?_, ⟨(c.cell h.l7.1 (fun hx => h.l7.2.2.1 (sub_ft _ hx))).trans h.c7.1, (c.cell h.l7.1 (fun hx => h.l7.2.2.1 (sub_ft _ hx))).trans h.c7.2⟩, ⟨Nat.lt_of_lt_of_le h.l7.1 c.size, h.l7.2.1, nx s7 h.l7.1 h.l7.2.2.1, h.l7.2.2.2⟩, has3_chg h.c8 c (fun hx => h.l8.2.1 (sub_ft _ hx)), ⟨h.l8.1, nx s8 h.c8.1 h.l8.2.1, h.l8.2.2⟩, h.frx, fun b hb => ?_, Below.trans h.bel (c.below z (fun b hb => h.fry b (sub_ft b hb)))⟩
  · rcases old b hy with h1 | h1
    · exact h.dj b hb h1
    · have := Fw.lt h.fx b hb; omega
  · rcases old b hb with h1 | h1
    · exact h.fry b h1
    · omega
end
/-- A membrane dies. -/
def kill (L : List Mb) (m : Nat) : List Mb := match L[m]? with | some s => L.set m (s.1, s.2.1, true) | none => L
theorem flat3_set : ∀ (l : List Mb) (n : Nat) (s : Mb), l[n]? = some s → (l.flatMap cellsM).set (n * 3 + 2) (.bool true) = (l.set n (s.1, s.2.1, true)).flatMap cellsM
  | [], n, s, h => by simp at h
  | a :: l, 0, s, h => by
    simp at h; subst h
    rfl
  | a :: l, n + 1, s, h => by
    simp at h
    have ih := flat3_set l n s h
    rw [List.set_cons_succ, List.flatMap_cons, List.flatMap_cons, ← ih, List.set_append_right _ _ (by show 3 ≤ _; omega), show (cellsM a).length = 3 from rfl, show (n + 1) * 3 + 2 - 3 = n * 3 + 2 by omega]
theorem kill_len (L : List Mb) (m : Nat) : (kill L m).length = L.length := by
  unfold kill
  split <;> simp
theorem kill_side {L : List Mb} (m : Nat) (sd : ∀ m ∈ L, (0 ≤ m.1 ∧ m.1 < 4) ∧ (0 ≤ m.2.1 ∧ m.2.1 < 4)) : ∀ x ∈ kill L m, (0 ≤ x.1 ∧ x.1 < 4) ∧ (0 ≤ x.2.1 ∧ x.2.1 < 4) := by
  unfold kill
  split
  · rename_i s hs
    intro x hx
    rcases List.mem_or_eq_of_mem_set hx with h1 | h1
    · exact sd x h1
    · rw [h1]; exact sd s (List.mem_of_getElem? hs)
  · exact sd
/-- A world of records alone is a net of whatever membranes. -/
theorem Fw.kill {w : World} {wb p cb k m lb lc : Nat} {v : Nat → Value} {bs : List Nat} {L : List Mb} {d : Int} (h : Fw w wb p cb (.slice (some ⟨lb, 0, none⟩) L.length lc) v (mk4 bs) none2 L k d) (hb : bs.length = 4) (hd : 0 ≤ d) (hm : m < L.length) :
    Fw (w.setCell ⟨lb, m * 3 + 2, none⟩ (.bool true)) wb p cb (.slice (some ⟨lb, 0, none⟩) L.length lc) v (mk4 bs) none2 (mb.kill L m) k d ∧ Chg [lb] w (w.setCell ⟨lb, m * 3 + 2, none⟩ (.bool true)) := by
  obtain ⟨s, hs⟩ : ∃ s, L[m]? = some s := ⟨_, List.getElem?_eq_getElem hm⟩
  have C : Chg [lb] w (w.setCell ⟨lb, m * 3 + 2, none⟩ (.bool true)) := (Chg.refl [lb] w).setCell (p := ⟨lb, m * 3 + 2, none⟩) (.inl (by simp)) _
  obtain ⟨h1, h2⟩ := h.nl lb rfl
  have n1 : ∀ b ∈ cb :: foot p v, b ∉ [lb] := fun b hb hx => h1 (by rw [← List.mem_singleton.1 hx]; exact hb)
  obtain ⟨r1, -⟩ := World.ownsRow.stored h.row (m * 3 + 2) (.bool true)
  have e : mb.kill L m = L.set m (s.1, s.2.1, true) := by unfold mb.kill; rw [hs]
  have W := h.wr.chg C n1
  refine ⟨⟨h.hd.chg C (fun hx => h2 (List.mem_singleton.1 hx).symm), ⟨W.pt, W.rm, W.qu, W.ow, W.cn, (net4 bs (by omega) _).less hd⟩, ?_, kill_side m h.sd, by rw [kill_len]; exact h.lp, h.nw, h.nl⟩, C⟩
  rw [kill_len, e, ← flat3_set L m s hs]
  exact r1
end Go.Proofs.YtmmfpkkkpeapeaaGreatDoor.mb

/- FrameBacks: how the two worlds are made: plain laws, frame.New. -/
set_option linter.unusedVariables false
set_option linter.unusedSimpArgs false
namespace Go.Proofs.YtmmfpkkkpeapeaaGreatDoor.mb
open Go.RowKit Go.Maps mem rec ar
attribute [local go_sem ↓] Go.wp_at_zero Go.wp_at_succ
set_option maxRecDepth 100000
set_option maxHeartbeats 400000
theorem new_world (w : World) : Calls Tryz.prog 19 #[] w fun e w' => ∃ (wb : Nat) (c0 c1 c2 : Value), e = .returned (.pointer (some ⟨wb, 0, none⟩)) ∧ Up w w' ∧ w.heap.size ≤ wb ∧ Blk w' wb #[c0, c1, c2, .slice none 0 0] 73 := by
  have hmm := @run_makeMap Tryz.prog
  go_enter Tryz.func19, Tryz.ntmps19
  go_wp2_with (go_at_call 33; refine (new_arena _).mono ?_; rintro e w1 ⟨rfl, rfl⟩)
  go_ret
  have z : ((w.alloc (.cells #[.slice none 0 0, .slice none 0 0, .slice none 0 0, .slice none 0 0] 120)).alloc (.map #[] 0)).heap.size = w.heap.size + 1 + 1 := by simp
  refine ⟨w.heap.size + 1 + 1, .pointer (some ⟨w.heap.size, 0, none⟩), .map (some (w.heap.size + 1)), .slice none 0 0, rfl, (((Up.refl _).alloc _).alloc _).alloc _, by omega, ?_⟩
  have h := heap_alloc_new ((w.alloc (.cells #[.slice none 0 0, .slice none 0 0, .slice none 0 0, .slice none 0 0] 120)).alloc (.map #[] 0)) (.cells #[.pointer (some ⟨w.heap.size, 0, none⟩), .map (some (w.heap.size + 1)), .slice none 0 0, .slice none 0 0] 73)
  rw [z] at h
  exact h
/-- The fields of a world are laid. -/
theorem fw_of {wa wm : World} {q p cb k wb : Nat} {vr v : Nat → Value} {A : Ar} {C : Ca} {L : List Mb} {d : Int} {c0 c1 c2 : Value} (h : St wa wm q p cb vr v A C L k d) (hb : Blk wm wb #[c0, c1, c2, .slice none 0 0] 73) (hw : wb < wa.heap.size) (hL : 0 < L.length) :
    Fw (((wm.setCell ⟨wb, 0, none⟩ (.pointer (some ⟨p, 0, none⟩))).setCell ⟨wb, 1, none⟩ (.map (some cb))).setCell ⟨wb, 2, none⟩ (vr 0)) wb p cb (vr 0) v A C L k d ∧ Chg [wb] wm (((wm.setCell ⟨wb, 0, none⟩ (.pointer (some ⟨p, 0, none⟩))).setCell ⟨wb, 1, none⟩ (.map (some cb))).setCell ⟨wb, 2, none⟩ (vr 0)) := by
  have CS := set3_chg wm wb (.pointer (some ⟨p, 0, none⟩)) (.map (some cb)) (vr 0)
  have e1 := heap_setCell_same wm wb 0 _ _ (.pointer (some ⟨p, 0, none⟩)) hb
  have e2 := heap_setCell_same _ wb 1 _ _ (.map (some cb)) e1
  have e3 := heap_setCell_same _ wb 2 _ _ (vr 0) e2
  have n1 : ∀ b ∈ cb :: foot p v, b ≠ wb := fun b hb => by have := h.f2 b hb; omega
  have n0 : ∀ b, (vr 0).ownBlock = some b → b ≠ wb := fun b hb => by have := h.f1 b (foot_i (by omega) hb); omega
  refine ⟨⟨?_, h.wr.chg CS (fun b hb hx => n1 b hb (List.mem_singleton.1 hx)), owns_chg (h.rw_.ow 0 (by omega)) CS (fun b hb hx => n0 b hb (List.mem_singleton.1 hx)), h.sd, hL, fun hx => n1 wb hx rfl, fun b hb => ⟨h.dj b (foot_i (by omega) hb), n0 b hb⟩⟩, CS⟩
  unfold Blk
  rw [e3]
  simp
theorem ft_ge {wa wm : World} {q p cb k wb : Nat} {vr v : Nat → Value} {A : Ar} {C : Ca} {L : List Mb} {d : Int} (h : St wa wm q p cb vr v A C L k d) : ∀ b ∈ ftF wb p cb (vr 0) v, b = wb ∨ wa.heap.size ≤ b := fun b hb => by
  rcases mem_ftF.1 hb with h1 | h1 | h1
  · exact .inl h1
  · exact .inr (h.f1 b (foot_i (by omega) h1))
  · exact .inr (h.f2 b h1)
structure Base4 (w0 w : World) (s7 s8 wb0 wb1 B : Nat) (c : V3) : Prop where
  c7 : w.cell? ⟨s7, 0, none⟩ = some (.pointer (some ⟨wb0, 0, none⟩)) ∧ w.cell? ⟨s7, 1, none⟩ = some (.pointer (some ⟨wb1, 0, none⟩))
  c8 : Has3 w s8 (.int .u8 c.1) (.int .i64 c.2.1) (.string c.2.2)
  ne : wb0 ≠ wb1 ∧ s7 ≠ wb0 ∧ s7 ≠ wb1 ∧ s8 ≠ s7 ∧ s8 ≠ wb0 ∧ s8 ≠ wb1
  ge : w0.heap.size ≤ wb0 ∧ w0.heap.size ≤ wb1 ∧ w0.heap.size ≤ s7 ∧ w0.heap.size ≤ s8
  lt : wb0 < B ∧ wb1 < B ∧ s7 < B ∧ s8 < B
  hB : B ≤ w.heap.size
  bel : Up w0 w
section
variable {w0 w w1 : World} {s7 s8 wb0 wb1 B : Nat} {c c' : V3}
theorem Base4.chg {F : List Nat} (h : Base4 w0 w s7 s8 wb0 wb1 B c) (C : Chg F w w1) (h7 : s7 ∉ F) (h8 : s8 ∉ F) (h0 : ∀ b ∈ F, w0.heap.size ≤ b) : Base4 w0 w1 s7 s8 wb0 wb1 B c :=
  have l7 : s7 < w.heap.size := Nat.lt_of_lt_of_le h.lt.2.2.1 h.hB
  ⟨⟨(C.cell l7 h7).trans h.c7.1, (C.cell l7 h7).trans h.c7.2⟩, has3_chg h.c8 C h8, h.ne, h.ge, h.lt, Nat.le_trans h.hB C.size, Below.trans h.bel (C.below h.bel.size h0)⟩
theorem Base4.up (h : Base4 w0 w s7 s8 wb0 wb1 B c) (u : Up w w1) : Base4 w0 w1 s7 s8 wb0 wb1 B c := h.chg u.chg (by simp) (by simp) (by simp)
theorem Base4.set8 (h : Base4 w0 w s7 s8 wb0 wb1 B c) : Base4 w0 (((w.setCell ⟨s8, 0, none⟩ (.int .u8 c'.1)).setCell ⟨s8, 1, none⟩ (.int .i64 c'.2.1)).setCell ⟨s8, 2, none⟩ (.string c'.2.2)) s7 s8 wb0 wb1 B c' := by
  have CS := set3_chg w s8 (.int .u8 c'.1) (.int .i64 c'.2.1) (.string c'.2.2)
  have l7 : s7 < w.heap.size := Nat.lt_of_lt_of_le h.lt.2.2.1 h.hB
  have n7 : s7 ∉ [s8] := fun hx => h.ne.2.2.2.1 (List.mem_singleton.1 hx).symm
  exact ⟨⟨(CS.cell l7 n7).trans h.c7.1, (CS.cell l7 n7).trans h.c7.2⟩, h.c8.store _ _ _, h.ne, h.ge, h.lt, Nat.le_trans h.hB CS.size, Below.trans h.bel (CS.below h.bel.size (fun b hb => by rw [List.mem_singleton.1 hb]; exact h.ge.2.2.2))⟩
end
/-- Before the first world is made, and before the second one. -/
def T0 (w0 w : World) (s7 s8 wb0 wb1 B : Nat) : Prop := Base4 w0 w s7 s8 wb0 wb1 B zero3 ∧ (∃ c0 c1 c2, Blk w wb0 #[c0, c1, c2, .slice none 0 0] 73) ∧ (∃ c0 c1 c2, Blk w wb1 #[c0, c1, c2, .slice none 0 0] 73)
structure T1 (w0 w : World) (s7 s8 wb0 wb1 B r0 : Nat) (L : List Mb) (x : FW) (bs : List Nat) : Prop where
  b4 : Base4 w0 w s7 s8 wb0 wb1 B (5, (r0 : Int), ⟨#[]⟩)
  b1 : ∃ c0 c1 c2, Blk w wb1 #[c0, c1, c2, .slice none 0 0] 73
  fx : x.ok w L 59 0
  ft : ∀ b ∈ x.ft, b = wb0 ∨ B ≤ b
  ex : x.wb = wb0 ∧ x.A = mk4 bs ∧ x.C = none2 ∧ bs.length = 4
theorem T0.next {w0 wr wm W : World} {s7 s8 wb0 wb1 B q p cb r0 : Nat} {vr v : Nat → Value} {bs : List Nat} {L : List Mb} (h : T0 w0 wr s7 s8 wb0 wb1 B) (hS : St wr wm q p cb vr v (mk4 bs) none2 L 59 0) (hbs : bs.length = 4) (hF : Fw W wb0 p cb (vr 0) v (mk4 bs) none2 L 59 0) (hC : Chg [wb0] wm W) (wx : World) (u : Up W wx) :
    T1 w0 (((wx.setCell ⟨s8, 0, none⟩ (.int .u8 5)).setCell ⟨s8, 1, none⟩ (.int .i64 (r0 : Int))).setCell ⟨s8, 2, none⟩ (.string ⟨#[]⟩)) s7 s8 wb0 wb1 B r0 L ⟨wb0, p, cb, vr 0, v, mk4 bs, none2⟩ bs := by
  obtain ⟨hb, -, c0, c1, c2, h1⟩ := h
  have hb2 := ((hb.up hS.bel).chg hC (by simpa using hb.ne.2.1) (by simpa using hb.ne.2.2.2.2.1) (fun b hx => by rw [List.mem_singleton.1 hx]; exact hb.ge.1)).up u
  have CS := set3_chg wx s8 (.int .u8 5) (.int .i64 (r0 : Int)) (.string ⟨#[]⟩)
  have fg : ∀ b ∈ ftF wb0 p cb (vr 0) v, b = wb0 ∨ B ≤ b := fun b hx => (ft_ge hS b hx).imp id (fun e => Nat.le_trans hb.hB e)
  refine ⟨hb2.set8 (c' := (5, (r0 : Int), ⟨#[]⟩)), ⟨c0, c1, c2, (((h1.chg hS.bel.chg (by simp)).chg hC (by simpa using hb.ne.1.symm)).chg u.chg (by simp)).chg CS (by simpa using hb.ne.2.2.2.2.2.symm)⟩, (hF.up u).chg CS (fun b hx hy => ?_), fg, rfl, rfl, rfl, hbs⟩
  rw [List.mem_singleton.1 hy] at hx
  rcases fg s8 hx with h2 | h2
  · exact hb.ne.2.2.2.2.1 h2
  · have := hb.lt; omega
theorem T1.next {w0 wr wm W : World} {s7 s8 wb0 wb1 B q p cb r0 : Nat} {vr v : Nat → Value} {bs bs0 : List Nat} {L : List Mb} {x : FW} (h : T1 w0 wr s7 s8 wb0 wb1 B r0 L x bs0) (hS : St wr wm q p cb vr v (mk4 bs) none2 L 59 0) (hF : Fw W wb1 p cb (vr 0) v (mk4 bs) none2 L 59 0) (hC : Chg [wb1] wm W) (wx : World) (u : Up W wx) :
    Two w0 (((wx.setCell ⟨s8, 0, none⟩ (.int .u8 5)).setCell ⟨s8, 1, none⟩ (.int .i64 (r0 : Int))).setCell ⟨s8, 2, none⟩ (.string ⟨#[]⟩)) s7 s8 r0 x ⟨wb1, p, cb, vr 0, v, mk4 bs, none2⟩ L 59 59 0 0 := by
  have hb := h.b4
  have hb2 := ((hb.up hS.bel).chg hC (by simpa using hb.ne.2.2.1) (by simpa using hb.ne.2.2.2.2.2) (fun b hx => by rw [List.mem_singleton.1 hx]; exact hb.ge.2.1)).up u
  have hb3 := hb2.set8 (c' := (5, (r0 : Int), ⟨#[]⟩))
  have CS := set3_chg wx s8 (.int .u8 5) (.int .i64 (r0 : Int)) (.string ⟨#[]⟩)
  have z := hb.hB
  have zz := hb.bel.size
  have fg : ∀ b ∈ ftF wb1 p cb (vr 0) v, b = wb1 ∨ wr.heap.size ≤ b := ft_ge hS
  have n1 : wb1 ∉ x.ft := fun hx => by
    rcases h.ft wb1 hx with h2 | h2
    · exact hb.ne.1 h2.symm
    · have := hb.lt; omega
  have n7 : s7 ∉ x.ft := fun hx => by
    rcases h.ft s7 hx with h2 | h2
    · exact hb.ne.2.1 h2
    · have := hb.lt; omega
  have n8 : s8 ∉ x.ft := fun hx => by
    rcases h.ft s8 hx with h2 | h2
    · exact hb.ne.2.2.2.2.1 h2
    · have := hb.lt; omega
  have m7 : s7 ∉ ftF wb1 p cb (vr 0) v := fun hx => by
    rcases fg s7 hx with h2 | h2
    · exact hb.ne.2.2.1 h2
    · have := hb.lt; omega
  have m8 : s8 ∉ ftF wb1 p cb (vr 0) v := fun hx => by
    rcases fg s8 hx with h2 | h2
    · exact hb.ne.2.2.2.2.2 h2
    · have := hb.lt; omega
  refine ⟨Fw.chg (Fw.up (Fw.chg (Fw.up h.fx hS.bel) hC (fun b hx hy => n1 (by rw [← List.mem_singleton.1 hy]; exact hx))) u) CS (fun b hx hy => n8 (by rw [← List.mem_singleton.1 hy]; exact hx)), (hF.up u).chg CS (fun b hx hy => m8 (by rw [← List.mem_singleton.1 hy]; exact hx)), fun b hx hy => ?_, by rw [h.ex.1]; exact hb3.c7, ⟨Nat.lt_of_lt_of_le hb.lt.2.2.1 hb3.hB, n7, m7, hb.ge.2.2.1⟩, hb3.c8, ⟨n8, m8, hb.ne.2.2.2.1, hb.ge.2.2.2⟩, fun b hx => ?_, fun b hx => ?_, hb3.bel⟩
  · rcases fg b hy with h2 | h2
    · exact n1 (by rw [← h2]; exact hx)
    · have := Fw.lt h.fx b hx; omega
  · rcases h.ft b hx with h2 | h2
    · rw [h2]; exact hb.ge.1
    · have := hb.lt; have := hb.ge; omega
  · rcases fg b hx with h2 | h2
    · rw [h2]; exact hb.ge.2.1
    · omega
/-- A way's step as it is handed in. -/
def GoAt (w : World) (b o : Nat) (x : Int × Int × Int × Bool) : Prop := (w.cell? ⟨b, o, none⟩ = some (.int .u8 x.1) ∧ w.cell? ⟨b, o + 1, none⟩ = some (.int .u8 x.2.1) ∧ w.cell? ⟨b, o + 2, none⟩ = some (.int .u8 x.2.2.1) ∧ w.cell? ⟨b, o + 3, none⟩ = some (.bool x.2.2.2)) ∧ (0 ≤ x.1 ∧ x.1 ≤ 255) ∧ (0 ≤ x.2.1 ∧ x.2.1 ≤ 255) ∧ (0 ≤ x.2.2.1 ∧ x.2.2.1 ≤ 255)
section
variable {H : Type} {enc : TypeId × Value → H} {w : World} {base : Nat} {spare : Nat → Bool} {held : Bool}
theorem open_gos {fuel : Nat} {v : Value} {x : DataW H × List MemPlace} (h : DataW.trod enc Tryz.prog w base spare held fuel 23 [v] = some x) : op.Handed 4 GoAt v w := by
  refine op.open_slice ((0 : Int), (0 : Int), (0 : Int), false) Tryz.underlying23 (by kernel_rfl) (by decide) GoAt ?_ h
  intro fuel L x hx
  have c5 : Tryz.prog.cellsOf 5 = 1 := by kernel_rfl
  have c4 : Tryz.prog.cellsOf 4 = 1 := by kernel_rfl
  obtain ⟨ys, m, _, _, _, hyl, hf⟩ := DataW.trod_struct Tryz.underlying45 hx
  have f0 : DataW.trod enc Tryz.prog w base spare held m 5 ((L.drop 0).take 1) = ys[0]? := by rw [← c5]; exact hf 0 _ rfl
  have f1 : DataW.trod enc Tryz.prog w base spare held m 5 ((L.drop 1).take 1) = ys[1]? := by rw [← c5]; exact hf 1 _ rfl
  have f2 : DataW.trod enc Tryz.prog w base spare held m 5 ((L.drop 2).take 1) = ys[2]? := by rw [← c5]; exact hf 2 _ rfl
  have f3 : DataW.trod enc Tryz.prog w base spare held m 4 ((L.drop 3).take 1) = ys[3]? := by rw [← c4]; exact hf 3 _ rfl
  have hyl' : ys.length = 4 := by simpa using hyl
  rw [List.getElem?_eq_getElem (by omega)] at f0 f1 f2 f3
  obtain ⟨k0, e0, _, w0⟩ := DataW.trod_int Tryz.underlying5 f0
  obtain ⟨k1, e1, _, w1⟩ := DataW.trod_int Tryz.underlying5 f1
  obtain ⟨k2, e2, _, w2⟩ := DataW.trod_int Tryz.underlying5 f2
  obtain ⟨k3, e3, _⟩ := DataW.trod_bool Tryz.underlying4 f3
  have g0 : L[0]? = some (.int .u8 k0) := by have := congrArg (·[0]?) e0; simpa [List.getElem?_take, List.getElem?_drop] using this
  have g1 : L[1]? = some (.int .u8 k1) := by have := congrArg (·[0]?) e1; simpa [List.getElem?_take, List.getElem?_drop] using this
  have g2 : L[2]? = some (.int .u8 k2) := by have := congrArg (·[0]?) e2; simpa [List.getElem?_take, List.getElem?_drop] using this
  have g3 : L[3]? = some (.bool k3) := by have := congrArg (·[0]?) e3; simpa [List.getElem?_take, List.getElem?_drop] using this
  exact ⟨(k0, k1, k2, k3), fun b o hj => ⟨⟨(hj 0 (by decide)).trans g0, (hj 1 (by decide)).trans g1, (hj 2 (by decide)).trans g2, (hj 3 (by decide)).trans g3⟩, op.u8wf w0, op.u8wf w1, op.u8wf w2⟩⟩
end
end Go.Proofs.YtmmfpkkkpeapeaaGreatDoor.mb

/- FrameBacks: the crossings, the deaths: plain laws. -/
set_option linter.unusedVariables false
namespace Go.Proofs.YtmmfpkkkpeapeaaGreatDoor.mb
open Go.RowKit Go.Maps mem rec ar
set_option maxRecDepth 100000
set_option maxHeartbeats 400000
theorem infoCr : (Tryz.prog.info? 78).map (fun i => (i.zero, i.size, i.bytes)) = some (some (.agg #[.int .i64 0, .int .i64 0]), 2, 16) := by kernel_rfl
structure Wy (w0 w : World) (s7 s8 r0 : Nat) (x y : FW) (L : List Mb) (gv : Value) (bk : List (Int × Int)) : Prop where
  tw : Two w0 w s7 s8 r0 x y L 59 59 0 0
  row : w.ownsRow 0 78 2 gv bk.length (bk.flatMap cellsP)
  nb : ∀ b, gv.ownBlock = some b → b ∉ x.ft ∧ b ∉ y.ft ∧ b ≠ s7 ∧ b ≠ s8 ∧ w0.heap.size ≤ b
  ms : ∀ e ∈ bk, (Lit.int .i64 e.1).wf = true
section
variable {w0 w w1 W : World} {s7 s8 r0 : Nat} {x y : FW} {L : List Mb} {gv : Value} {bk : List (Int × Int)}
theorem Wy.up (h : Wy w0 w s7 s8 r0 x y L gv bk) (u : Up w w1) : Wy w0 w1 s7 s8 r0 x y L gv bk := ⟨h.tw.up u, owns_chg h.row u.chg (by simp), h.nb, h.ms⟩
theorem Wy.next {o1 : Obj} {g c H n1 : Nat} {w5 : World} {m t : Int} (h : Wy w0 w s7 s8 r0 x y L gv bk) (u : Up w W) (hm : (Lit.int .i64 m).wf = true)
    (hrow : w5.ownsRow 0 78 2 (.slice (some ⟨g, 0, none⟩) n1 c) n1 (bk.flatMap cellsP ++ [.int .i64 m, .int .i64 t])) (hn1 : n1 = bk.length + 1) (hg : (W.alloc o1).grownBy w5 gv.ownBlock) (at_ : gv.ownBlock = some g ∨ g = H) (hH : (W.alloc o1).heap.size = H) :
    Wy w0 w5 s7 s8 r0 x y L (.slice (some ⟨g, 0, none⟩) n1 c) (bk ++ [(m, t)]) ∧ Chg gv.ownBlock.toList w w5 := by
  subst hn1 hH
  have z0 := h.tw.bel.size
  have zu := u.size
  rw [World.size_alloc] at at_
  have C5 : Chg gv.ownBlock.toList w w5 := ((u.chg.mono (by simp)).alloc o1).grown hg (fun b hb => .inl (by simp [hb]))
  have inG : ∀ b ∈ gv.ownBlock.toList, gv.ownBlock = some b := fun b hb => by simpa using hb
  refine ⟨⟨h.tw.chg C5 (fun b hb hx => (h.nb b (inG b hx)).1 hb) (fun b hb hx => (h.nb b (inG b hx)).2.1 hb) (fun hx => (h.nb s7 (inG _ hx)).2.2.1 rfl) (fun hx => (h.nb s8 (inG _ hx)).2.2.2.1 rfl) (fun b hb => (h.nb b (inG b hb)).2.2.2.2), by rw [List.length_append, List.flatMap_append]; exact hrow, fun b hb => ?_, fun e he => ?_⟩, C5⟩
  · cases hb
    rcases at_ with h1 | h1
    · exact h.nb g h1
    · have l7 := h.tw.l7.1
      have l8 := h.tw.c8.1
      exact ⟨fun hx => by have := Fw.lt h.tw.fx g hx; omega, fun hx => by have := Fw.lt h.tw.fy g hx; omega, by show g ≠ s7; omega, by show g ≠ s8; omega, by show w0.heap.size ≤ g; omega⟩
  · rcases List.mem_append.1 he with h1 | h1
    · exact h.ms e h1
    · rw [List.mem_singleton.1 h1]; exact hm
end
/-- A membrane dies in both worlds. -/
theorem Wy.kill2 {w0 w wa wc : World} {s7 s8 r0 n m xwb xp xcb lx lcx ywb yp ycb ly lcy : Nat} {xv yv : Nat → Value} {bs bs' : List Nat} {L : List Mb} {gv : Value} {bk : List (Int × Int)}
    (h : Wy w0 w s7 s8 r0 ⟨xwb, xp, xcb, .slice (some ⟨lx, 0, none⟩) n lcx, xv, mk4 bs, none2⟩ ⟨ywb, yp, ycb, .slice (some ⟨ly, 0, none⟩) n lcy, yv, mk4 bs', none2⟩ L gv bk) (hL : L.length = n) (hb : bs.length = 4) (hb' : bs'.length = 4) (hm : m < n) (u : Up w wa) (u2 : Up (wa.setCell ⟨lx, m * 3 + 2, none⟩ (.bool true)) wc) :
    Wy w0 (wc.setCell ⟨ly, m * 3 + 2, none⟩ (.bool true)) s7 s8 r0 ⟨xwb, xp, xcb, .slice (some ⟨lx, 0, none⟩) n lcx, xv, mk4 bs, none2⟩ ⟨ywb, yp, ycb, .slice (some ⟨ly, 0, none⟩) n lcy, yv, mk4 bs', none2⟩ (mb.kill L m) gv bk := by
  subst hL
  have H := h.up u
  obtain ⟨f1, c1⟩ := Fw.kill (m := m) H.tw.fx hb (by omega) hm
  have lxm : lx ∈ (FW.ft ⟨xwb, xp, xcb, .slice (some ⟨lx, 0, none⟩) L.length lcx, xv, mk4 bs, none2⟩) := mem_ftF.2 (.inr (.inl rfl))
  have lym : ly ∈ (FW.ft ⟨ywb, yp, ycb, .slice (some ⟨ly, 0, none⟩) L.length lcy, yv, mk4 bs', none2⟩) := mem_ftF.2 (.inr (.inl rfl))
  have one : ∀ {b z : Nat}, b ∈ [z] → b = z := fun hb => List.mem_singleton.1 hb
  have y1 : Fw wc ywb yp ycb (.slice (some ⟨ly, 0, none⟩) L.length lcy) yv (mk4 bs') none2 L 59 0 := Fw.up (Fw.chg H.tw.fy c1 (fun b hb hx => H.tw.dj lx lxm (by rw [← one hx]; exact hb))) u2
  obtain ⟨f2, c2⟩ := Fw.kill (m := m) y1 hb' (by omega) hm
  have x2 := (f1.up u2).chg c2 (fun b hb hx => H.tw.dj b hb (by rw [one hx]; exact lym))
  have CC : Chg [lx, ly] wa (wc.setCell ⟨ly, m * 3 + 2, none⟩ (.bool true)) := ((c1.mono (by simp)).trans u2.chg (by simp)).trans c2 (fun x hx => .inl (by rw [one hx]; simp))
  have l7 := H.tw.l7
  have l8 := H.tw.l8
  have n7 : s7 ∉ [lx, ly] := fun hx => by
    rcases List.mem_cons.1 hx with h1 | h1
    · exact l7.2.1 (by rw [h1]; exact lxm)
    · exact l7.2.2.1 (by rw [one h1]; exact lym)
  have n8 : s8 ∉ [lx, ly] := fun hx => by
    rcases List.mem_cons.1 hx with h1 | h1
    · exact l8.1 (by rw [h1]; exact lxm)
    · exact l8.2.1 (by rw [one h1]; exact lym)
  refine ⟨⟨x2, f2, H.tw.dj, ⟨(CC.cell l7.1 n7).trans H.tw.c7.1, (CC.cell l7.1 n7).trans H.tw.c7.2⟩, ⟨Nat.lt_of_lt_of_le l7.1 CC.size, l7.2⟩, has3_chg H.tw.c8 CC n8, l8, H.tw.frx, H.tw.fry, Below.trans H.tw.bel (CC.below H.tw.bel.size (fun b hb => ?_))⟩, owns_chg H.row CC (fun b hb hx => ?_), H.nb, H.ms⟩
  · rcases List.mem_cons.1 hb with h1 | h1
    · rw [h1]; exact H.tw.frx lx lxm
    · rw [one h1]; exact H.tw.fry ly lym
  · rcases List.mem_cons.1 hx with h1 | h1
    · exact (H.nb b hb).1 (by rw [h1]; exact lxm)
    · exact (H.nb b hb).2.1 (by rw [one h1]; exact lym)
/-- What the loads and the stores of the deaths want. -/
def Src (s7 wb lb lc n m s14 off : Nat) (g1 : Int) (w : World) : Prop := ∀ w', Up w w' → (w'.cell? ⟨s7, off, none⟩ = some (.pointer (some ⟨wb, 0, none⟩)) ∧ w'.cell? ⟨wb, 2, none⟩ = some (.slice (some ⟨lb, 0, none⟩) n lc) ∧ w'.cell? ⟨s14, 0, none⟩ = some (.int .u8 g1)) ∧ (∃ b, w'.cell? ⟨lb, m * 3 + 2, none⟩ = some (.bool b)) ∧ w'.frozen? ⟨lb, m * 3 + 2, none⟩ = false
theorem row_dead {w : World} {lb lc n m : Nat} {L : List Mb} (h : w.ownsRow 0 48 3 (.slice (some ⟨lb, 0, none⟩) n lc) n (L.flatMap cellsM)) (hL : L.length = n) (hm : m < n) : (∃ b, w.cell? ⟨lb, m * 3 + 2, none⟩ = some (.bool b)) ∧ w.frozen? ⟨lb, m * 3 + 2, none⟩ = false := by
  subst hL
  obtain ⟨s, hs⟩ : ∃ s, L[m]? = some s := ⟨_, List.getElem?_eq_getElem hm⟩
  refine ⟨⟨s.2.2, ?_⟩, World.ownsRow.frozenAt h _⟩
  rw [World.ownsRow.cellAt h (m * 3 + 2) (by omega), flat3_get L m 2 s hs (by omega)]
  rfl
section
variable {w0 w wa : World} {s7 s8 r0 n m xwb xp xcb lx lcx ywb yp ycb ly lcy s14 : Nat} {xv yv : Nat → Value} {bs bs' : List Nat} {L : List Mb} {gv : Value} {bk : List (Int × Int)} {g1 : Int} {cs : Array Value} {ty : TypeId}
theorem src1 (h : Wy w0 w s7 s8 r0 ⟨xwb, xp, xcb, .slice (some ⟨lx, 0, none⟩) n lcx, xv, mk4 bs, none2⟩ ⟨ywb, yp, ycb, .slice (some ⟨ly, 0, none⟩) n lcy, yv, mk4 bs', none2⟩ L gv bk) (hg : Blk w s14 cs ty ∧ cs[0]? = some (.int .u8 g1) ∧ s14 ≠ lx) (hL : L.length = n) (hm : m < n) : Src s7 xwb lx lcx n m s14 0 g1 w := by
  intro w' hu
  have H := h.up hu
  have r1 : w'.ownsRow 0 48 3 (.slice (some ⟨lx, 0, none⟩) n lcx) n (L.flatMap cellsM) := by have := Fw.row H.tw.fx; rw [hL] at this; exact this
  exact ⟨⟨H.tw.c7.1, (Fw.held H.tw.fx).1, ((hg.1.chg hu.chg (by simp)).cell 0).trans hg.2.1⟩, row_dead r1 hL hm⟩
theorem src2 (h : Wy w0 w s7 s8 r0 ⟨xwb, xp, xcb, .slice (some ⟨lx, 0, none⟩) n lcx, xv, mk4 bs, none2⟩ ⟨ywb, yp, ycb, .slice (some ⟨ly, 0, none⟩) n lcy, yv, mk4 bs', none2⟩ L gv bk) (hg : Blk w s14 cs ty ∧ cs[0]? = some (.int .u8 g1) ∧ s14 ≠ lx) (hL : L.length = n) (hb : bs.length = 4) (hm : m < n) (u : Up w wa) : Src s7 ywb ly lcy n m s14 1 g1 (wa.setCell ⟨lx, m * 3 + 2, none⟩ (.bool true)) := by
  intro w' hu
  have H := h.up u
  have C : Chg [lx] wa (wa.setCell ⟨lx, m * 3 + 2, none⟩ (.bool true)) := (Chg.refl [lx] wa).setCell (p := ⟨lx, m * 3 + 2, none⟩) (.inl (by simp)) _
  have CC : Chg [lx] wa w' := C.trans hu.chg (by simp)
  have lxm : lx ∈ (FW.ft ⟨xwb, xp, xcb, .slice (some ⟨lx, 0, none⟩) n lcx, xv, mk4 bs, none2⟩) := mem_ftF.2 (.inr (.inl rfl))
  have fy := Fw.chg H.tw.fy CC (fun b hb hx => H.tw.dj lx lxm (by rw [← List.mem_singleton.1 hx]; exact hb))
  have n7 : s7 ∉ [lx] := fun hx => H.tw.l7.2.1 (by rw [List.mem_singleton.1 hx]; exact lxm)
  have r1 : w'.ownsRow 0 48 3 (.slice (some ⟨ly, 0, none⟩) n lcy) n (L.flatMap cellsM) := by have := Fw.row fy; rw [hL] at this; exact this
  have b14 := (hg.1.chg u.chg (by simp)).chg CC (by simpa using hg.2.2)
  exact ⟨⟨(CC.cell H.tw.l7.1 n7).trans H.tw.c7.2, (Fw.held fy).1, (b14.cell 0).trans hg.2.1⟩, row_dead r1 hL hm⟩
end
end Go.Proofs.YtmmfpkkkpeapeaaGreatDoor.mb
