/- The law's list of membranes, walked. -/
import Derived.Test.YtkcljohkcpdfaaaGreatDoorHs
set_option linter.unusedVariables false
set_option linter.unusedSimpArgs false
namespace Go.Proofs.YtkcljohkcpdfaaaGreatDoor.gr
open Go.RowKit Go.Maps mem
attribute [local go_sem ↓] Go.wp_at_zero Go.wp_at_succ
set_option maxRecDepth 100000
set_option maxHeartbeats 2000000
def P2At (w : World) (b o : Nat) (x : Int × Int) : Prop := w.cell? ⟨b, o, none⟩ = some (.int .u8 x.1) ∧ w.cell? ⟨b, o + 1, none⟩ = some (.int .u8 x.2) ∧ 0 ≤ x.1 ∧ x.1 ≤ 255 ∧ 0 ≤ x.2 ∧ x.2 ≤ 255
def Six (m : Mb) : Prop := (0 ≤ m.1 ∧ m.1 ≤ 5) ∧ (0 ≤ m.2.1 ∧ m.2.1 ≤ 5)
theorem up_drewN {a b : World} (h : Up a b) (n : Nat) : Up a (b.drewN n) := ⟨h.os, h.tape, h.output, h.size, h.block⟩
theorem list_x (la : Option Addr) (n lc : Nat) (ps : Nat → Int × Int) (d : Int) (w : World) (hn : n ≤ 20) (hd : 0 ≤ d ∧ d ≤ 255) (hl : n = 0 ∨ ∃ b off, la = some ⟨b, off, none⟩ ∧ b < w.heap.size ∧ ∀ i, i < n → P2At w b (off + i * 2) (ps i)) :
    Calls Tryz.prog 6 #[.slice la n lc, .int .u8 d] w fun e w' => ∃ (v : Value) (L : List Mb), e = .returned v ∧ L.length = n ∧ (n = 0 → v = .slice none 0 0) ∧ (∀ m ∈ L, Six m) ∧ w'.ownsRow w.heap.size 31 3 v L.length (L.flatMap cellsM) ∧ Up w w' := by
  have HL := Lib.hid hl
  clear hl
  obtain ⟨iM, hM⟩ := info_of infoM
  have HIM := Lib.hid hM
  clear hM
  go_enter Tryz.func6, Tryz.ntmps6
  go_wp2_with fail
  go_loopw [5, 12] (fun ov i wr => ∃ (t : Nat) (L : List Mb), t ≤ n ∧ i = .int .i64 t ∧ L.length = t ∧ (t = 0 → ov = .slice none 0 0) ∧ (∀ m ∈ L, Six m) ∧ wr.ownsRow w.heap.size 31 3 ov L.length (L.flatMap cellsM) ∧ Up w wr) (fun _ i _ => n - (intOf i).toNat)
  case atStart => exact ⟨0, [], by omega, rfl, rfl, fun _ => rfl, by simp, World.ownsRow_nil _ _ _ _, Up.refl _⟩
  case round =>
    obtain ⟨t, L, ht, rfl, hLt, hnil, hsix, hrow, hU⟩ := hrel
    have HNI := Lib.hid hnil
    clear hnil
    have HR : Hid (wr.ownsRow w.heap.size 31 3 _ L.length (L.flatMap cellsM) ∧ Up w wr ∧ L.length = t ∧ ∀ m ∈ L, Six m) := ⟨hrow, hU, hLt, hsix⟩
    clear hrow hsix hLt
    by_cases hlt : t < n
    · obtain ⟨lb, off, rfl, hlb, hx⟩ := HL.out.resolve_left (by omega)
      obtain ⟨c0, c1, x0, x1, y0, y1⟩ := hx t hlt
      have c0 := up_cell hU c0
      have c1 := up_cell hU c1
      generalize ps t = pt at c0 c1 x0 x1 y0 y1
      obtain ⟨x, y⟩ := pt
      simp only at c0 c1 x0 x1 y0 y1
      have it0 : (t : Int) < (n : Int) := by omega
      obtain ⟨p, hp⟩ : ∃ p, x % 6 = p := ⟨_, rfl⟩
      obtain ⟨q, hq⟩ : ∃ q, y % 6 = q := ⟨_, rfl⟩
      have hp' : x.tmod 6 = p := by rw [Int.tmod_eq_emod_of_nonneg x0]; exact hp
      have hq' : y.tmod 6 = q := by rw [Int.tmod_eq_emod_of_nonneg y0]; exact hq
      have p0 : 0 ≤ p ∧ p ≤ 5 := by omega
      have q0 : 0 ≤ q ∧ q ≤ 5 := by omega
      clear hx
      go_upto_region 5 with (fail)
      obtain ⟨hB, hU7⟩ := blk_new' wr #[.int .u8 x, .int .u8 y] 23
      generalize World.alloc wr _ = w7 at hB hU7 ⊢
      generalize wr.heap.size = b7 at hB ⊢
      have s0 : w7.cell? ⟨b7, 0, none⟩ = some (.int .u8 x) := hB.cell 0
      have s1 : w7.cell? ⟨b7, 1, none⟩ = some (.int .u8 y) := hB.cell 1
      have H7 := Lib.hid hU7
      clear hB hU7 c0 c1 hU
      go_quiet (fail)
      have H8 : Hid (Up wr (w7.drewN nq)) := up_drewN H7.out _
      generalize World.drewN w7 nq = w8 at H8 ⊢
      clear s0 s1 H7 hp hq hp' hq'
      go_upto_if 27 with (fail)
      obtain ⟨r, hr⟩ : ∃ r, (p + 1) % 6 = r := ⟨_, rfl⟩
      have hr' : (p + 1).tmod 6 = r := by rw [Int.tmod_eq_emod_of_nonneg (by omega)]; exact hr
      have hw : IntKind.i64.wrap (p + 1) = p + 1 := by rw [IntKind.wrap_i64] <;> omega
      have hwr : IntKind.i64.wrap r = r := by rw [IntKind.wrap_i64] <;> omega
      go_cut [9] from 27 to 30 (fun b wx => ∃ q' : Int, b = .int .i64 q' ∧ (0 ≤ q' ∧ q' ≤ 5) ∧ w8 = wx)
      case first =>
        by_cases e : p = q
        · have z : (p == q) = true := by simpa using e
          have z2 : decide (p = q) = true := by simpa using e
          subst e
          go_wp2_with fail
          go_meet
          exact ⟨r, rfl, by omega, rfl⟩
        · have z : (p == q) = false := by simpa using e
          have z2 : decide (p = q) = false := by simpa using e
          clear e
          go_wp2_with fail
          go_meet
          exact ⟨q, rfl, by omega, rfl⟩
      case rest =>
        obtain ⟨q', rfl, hq', rfl⟩ := hcut
        clear hr hr' hw hwr
        obtain ⟨k, hk⟩ : ∃ k : Nat, (t : Int) % 8 = (k : Int) := ⟨t % 8, by omega⟩
        have hk' : (t : Int).tmod 8 = (k : Int) := by rw [Int.tmod_eq_emod_of_nonneg (by omega)]; exact hk
        have hk7 : k ≤ 7 := by omega
        have hk0 : (0 : Int) ≤ (k : Int) := by omega
        have hkn : ¬ (k : Int) < 0 := by omega
        obtain ⟨dd, hdd⟩ : ∃ dd : Bool, (bits .and .u8 (d / 2 ^ k) 1 == 1) = dd := ⟨_, rfl⟩
        have HG : Hid ((w8.alloc (.cells #[.int .i64 p, .int .i64 q', .bool dd] 31)).ownsRow w.heap.size 31 3 _ L.length (L.flatMap cellsM) ∧ Up w (w8.alloc (.cells #[.int .i64 p, .int .i64 q', .bool dd] 31))) := ⟨owns_chg HR.out.1 (H8.out.alloc _).chg (by simp), Up.trans HR.out.2.1 (H8.out.alloc _)⟩
        have HN : Hid (L.length + 1 ≤ maxLen ∧ (L.length + 1) * 24 ≤ 140737488355328) := by have h9 := HR.out.2.2.1; exact ⟨by unfold maxLen; omega, by omega⟩
        have HQ := Lib.hid (And.intro p0 hq')
        clear p0 q0 hq'
        go_wp2_with (at_builtin; refine wpList_append_lies _ rfl (.tmp 31) (.tmp 42) 26 rfl w.heap.size 31 _ (.agg #[.int .i64 0, .int .i64 0, .bool false]) 3 24 Tryz.underlying26 HIM.out.1 HIM.out.2.1 HIM.out.2.2.1 HIM.out.2.2.2 rfl (by decide) u5 _ (L.flatMap cellsM) rfl HG.out.1 ⟨w8.heap.size, 0, none⟩ 1 1 [.int .i64 p, .int .i64 q', .bool dd] rfl rfl (World.news_of_block (cs := #[.int .i64 p, .int .i64 q', .bool dd]) (t := 31) (fr := (0, 0)) (heap_alloc_new w8 _)) (by intro u hu; simp at hu; rcases hu with rfl | rfl | rfl <;> rfl) (by decide) HN.out.1 HN.out.2 HG.out.2.size (w8.heap.size + 1) (by simp) ?_; intro g1 gcap w5 hown5 hgrow5 hat5 hlt5)
        clear hdd
        go_roundw
        case rel =>
          have e9 : L.flatMap cellsM ++ [.int .i64 p, .int .i64 q', .bool dd] = (L ++ [((p, q', dd) : Mb)]).flatMap cellsM := by rw [List.flatMap_append]; simp [cellsM]
          have CU : Chg [] w w5 := by
            refine Chg.weak (F := (Value.ownBlock u5).toList) ?_ (fun x hx => .inr (HR.out.1.lt x (by simpa using hx)).1)
            exact (HG.out.2.chg.mono (by simp)).grown hgrow5 (fun b hb => .inl (by simp [hb]))
          rw [e9] at hown5
          exact ⟨t + 1, L ++ [((p, q', dd) : Mb)], by omega, by go_num, by rw [List.length_append, HR.out.2.2.1]; rfl, fun h => absurd h (by omega), fun m hm => by
            rcases List.mem_append.1 hm with h8 | h8
            · exact HR.out.2.2.2 m h8
            · rw [List.mem_singleton.1 h8]; exact ⟨HQ.out.1, HQ.out.2⟩, by rw [List.length_append]; exact hown5, CU.up⟩
        case measure => simp [intOf]; omega
    · have hte : t = n := by omega
      clear hU
      go_wp2_with fail
      go_ret
      exact ⟨_, L, rfl, by rw [HR.out.2.2.1, hte], fun h => HNI.out (by omega), HR.out.2.2.2, HR.out.1, HR.out.2.1⟩
end Go.Proofs.YtkcljohkcpdfaaaGreatDoor.gr
