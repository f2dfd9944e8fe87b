/- graph.Reach, walked. -/
import Derived.Test.YtkcljohkcpdfaaaGreatDoorHr
import Derived.Laws.EntriesVeiled
set_option linter.unusedVariables false
set_option linter.unusedSimpArgs false
namespace Go.Proofs.YtkcljohkcpdfaaaGreatDoor.gr
open Go.RowKit Go.Maps mem
attribute [local go_sem ↓] Go.wp_at_zero Go.wp_at_succ
set_option maxRecDepth 100000
set_option maxHeartbeats 2000000
theorem infoB : (Tryz.prog.info? 4).map (fun i => (i.zero, i.size, i.bytes)) = some (some (.bool false), 1, 1) := by kernel_rfl
theorem infoI : (Tryz.prog.info? 3).map (fun i => (i.zero, i.size, i.bytes)) = some (some (.int .i64 0), 1, 8) := by kernel_rfl
theorem make_b (n : Nat) (hn : n ≤ 100) (W : World) : (Instr.makeSlice 44 (.int .i64 (n : Int)) (.int .i64 (n : Int))).run Tryz.prog W = .ok (.slice (some ⟨W.heap.size, 0, none⟩) n n) (W.alloc (.cells (madeCells #[.bool false] n) 4)) := by
  obtain ⟨iV, hi, hz0, hz1, hz2⟩ := info_of infoB
  have q := run_make (P := Tryz.prog) W 44 4 iV _ Tryz.underlying44 hi hz0 .i64 .i64 (n : Int) (n : Int) (by omega) (by omega) (by rw [hz2]; omega) (by omega)
  rw [hz1, Int.toNat_natCast, Nat.mul_one] at q
  exact q
theorem two_new (w : World) (c6 c4 : Array Value) (t6 t4 : TypeId) : Blk ((w.alloc (.cells c6 t6)).alloc (.cells c4 t4)) w.heap.size c6 t6 ∧ Blk ((w.alloc (.cells c6 t6)).alloc (.cells c4 t4)) (w.heap.size + 1) c4 t4 ∧ Up w ((w.alloc (.cells c6 t6)).alloc (.cells c4 t4)) := by
  refine ⟨(Blk.new w c6 t6).chg ((Up.refl _).alloc _).chg (by simp), ?_, ((Up.refl w).alloc _).alloc _⟩
  have h := Blk.new (w.alloc (.cells c6 t6)) c4 t4
  rw [World.size_alloc] at h
  exact h
def ReachPost (w' : World) (v : Value) (n a : Nat) (L : List Mb) : Prop := ∃ S : Nat → Bool, IntsAt w' v (outL n S) ∧ ((n ≤ a ∧ ∀ x, S x = false) ∨ (a < n ∧ ∀ x, x < n → (S x = true ↔ Rch n (adjL L) a x)))
theorem reach_x (va : Value) (L : List Mb) (n a : Nat) (w : World) (hl : MsAt w va L) (hlen : L.length ≤ 30) (hs : ∀ m ∈ L, (0 ≤ m.1 ∧ m.1 ≤ 100) ∧ (0 ≤ m.2.1 ∧ m.2.1 ≤ 100)) (hn : n ≤ 8) (ha : a ≤ 100) :
    Calls Tryz.prog 8 #[va, .int .i64 (n : Int), .int .i64 (a : Int)] w fun e w' => ∃ v, e = .returned v ∧ ReachPost w' v n a L ∧ Up w w' := by
  have OX : Hid (∀ wx, Up w wx → Calls Tryz.prog 14 #[va] wx fun e w' => ∃ (mb : Nat) (D : DataW Nat), e = .returned (.map (some mb)) ∧ w'.ownsMap Tryz.prog 41 (plainElem (H := Nat) Tryz.prog 3) mb (2 * L.length) D ∧ OpD D (opens L) (2 * L.length) ∧ Up wx w') := fun wx hu => open_x va L wx (hl.up hu) hlen hs
  clear hl hs
  have hmf : ∀ (fn : Fn) (first cap : Array Value) (w : World), (Instr.makeFunc fn first cap).run Tryz.prog w = .ok (.func fn first cap) w := fun _ _ _ _ => rfl
  have MKB := make_b n (by omega)
  have hmax : max (n : Int) 0 = (n : Int) := by omega
  have hn0 : (0 : Int) ≤ (n : Int) := by omega
  go_enter Tryz.func8, Tryz.ntmps8
  go_upto_region 1 with (fail)
  obtain ⟨hB4, hU1⟩ := blk_new' w #[.int .i64 (n : Int)] 3
  generalize World.alloc w _ = W1 at hB4 hU1 ⊢
  have h40 : w.heap.size ≤ w.heap.size := Nat.le_refl _
  generalize hb4 : w.heap.size = b4 at hB4 h40 ⊢
  clear h40
  go_upto_region 2 with (go_at_call 14; refine (OX.out _ hU1).mono ?_; rintro e w2 ⟨mb, D, rfl, hO, hD, hU2⟩)
  obtain ⟨hB7, hU3⟩ := blk_new' w2 #[.map (some mb)] 40
  have hmb := hO.lt
  have hne1 : b4 < w2.heap.size := Nat.lt_of_lt_of_le hB4.lt hU2.size
  have d4 : (w2.alloc (.cells #[.map (some mb)] 40)).cell? ⟨b4, 0, none⟩ = some (.int .i64 (n : Int)) := up_cell (Up.trans hU2 hU3) (hB4.cell 0)
  have hO3 := map_chg hO hU3.chg (by simp)
  have hU13 := Up.trans hU1 (Up.trans hU2 hU3)
  generalize World.alloc w2 _ = W3 at hB7 hU3 d4 hO3 hU13 ⊢
  generalize hb7 : w2.heap.size = b7 at hB7 hmb hne1 ⊢
  clear hO hU2 hU3 hU1 hB4
  go_upto_region 3 with (fail)
  obtain ⟨hSb, hB8, hU5⟩ := two_new W3 (madeCells #[.bool false] n) #[.slice (some ⟨W3.heap.size, 0, none⟩) n n] 4 44
  have hSn : SeenAt ((W3.alloc (.cells (madeCells #[.bool false] n) 4)).alloc (.cells #[.slice (some ⟨W3.heap.size, 0, none⟩) n n] 44)) W3.heap.size n (fun _ => false) := ⟨_, hSb, size_madeCells _ _, fun i hi => madeb_get n i hi⟩
  have l4 : b4 < W3.heap.size := World.block_lt_of_cell? W3 _ d4
  have l7 : b7 < W3.heap.size := hB7.lt
  have lm : mb < W3.heap.size := hO3.lt
  have d4 := up_cell hU5 d4
  have d7 := up_cell hU5 (hB7.cell 0)
  have hO5 := map_chg hO3 hU5.chg (by simp)
  have hU15 := Up.trans hU13 hU5
  have hl8 : W3.heap.size + 1 ≠ W3.heap.size := by omega
  have hsz : W3.heap.size < ((W3.alloc (.cells (madeCells #[.bool false] n) 4)).alloc (.cells #[.slice (some ⟨W3.heap.size, 0, none⟩) n n] 44)).heap.size := hSb.lt
  have hws : w.heap.size ≤ W3.heap.size := hU13.size
  generalize World.alloc (World.alloc W3 _) _ = W5 at hSb hB8 hU5 hSn d4 d7 hO5 hU15 hsz ⊢
  generalize W3.heap.size + 1 = b8 at hB8 hl8 ⊢
  generalize W3.heap.size = sb at hB8 hSn l4 l7 lm hl8 hsz hws hSb ⊢
  clear hSb hU5 hO3 hU13 hB7 MKB hmax
  go_upto_region 5 with (fail)
  obtain ⟨hB9, hU6⟩ := blk_new' W5 #[.func (.func 16) #[] #[.pointer (some ⟨b4, 0, none⟩), .pointer (some ⟨b8, 0, none⟩), .pointer (some ⟨b7, 0, none⟩), .pointer (some ⟨W5.heap.size, 0, none⟩)]] 45
  have hEnv : Env (W5.alloc (.cells #[.func (.func 16) #[] #[.pointer (some ⟨b4, 0, none⟩), .pointer (some ⟨b8, 0, none⟩), .pointer (some ⟨b7, 0, none⟩), .pointer (some ⟨W5.heap.size, 0, none⟩)]] 45)) n b4 b8 b7 W5.heap.size sb mb (2 * L.length) D L :=
    ⟨up_cell hU6 d4, up_cell hU6 (hB8.cell 0), up_cell hU6 d7, hB9.cell 0, map_chg hO5 hU6.chg (by simp), hD, ⟨by omega, hl8, by omega, by omega, by omega⟩⟩
  have hS6 := hSn.chg hU6.chg (by simp)
  have hU16 := Up.trans hU15 hU6
  generalize World.alloc W5 _ = W6 at hB9 hU6 hEnv hS6 hU16 ⊢
  generalize W5.heap.size = b9 at hB9 hEnv hsz ⊢
  have d9 := hEnv.c9
  unfold walkV at d9
  have WX := Lib.hid (walk_x n b4 b8 b7 b9 sb mb (2 * L.length) D L hn (unseen n (fun _ => false)) (fun _ => false) a W6 (Nat.le_refl _) ha hEnv hS6)
  have H6 : Hid (Env W6 n b4 b8 b7 b9 sb mb (2 * L.length) D L ∧ Up w W6 ∧ w.heap.size ≤ sb) := ⟨hEnv, hU16, hws⟩
  clear hB9 hU6 hEnv hS6 hU16 hSn hB8 d4 d7 hO5 hU15 hD hl8 l4 l7 lm hsz hws hne1 hmb hb4 hb7 hmf
  go_upto_region 6 with (go_at_call 16; refine WX.out.mono ?_; rintro e w7 ⟨rfl, hWP⟩)
  obtain ⟨S, hS7, hC7, hor⟩ := hWP
  have hor2 : (n ≤ a ∧ ∀ x, S x = false) ∨ (a < n ∧ ∀ x, x < n → (S x = true ↔ Rch n (adjL L) a x)) := by
    rcases hor with ⟨h8 | h8, rfl⟩ | ⟨h8, -, h9⟩
    · exact .inl ⟨h8, fun _ => rfl⟩
    · cases h8
    · exact .inr ⟨h8, fun x hx => h9.all h8 (fun _ _ => rfl) x hx⟩
  have hU7 : Up w w7 := up_of H6.out.2.1 hC7 (fun b hb => by rw [List.mem_singleton.1 hb]; exact H6.out.2.2)
  have d8 := (H6.out.1.chg hC7).c8
  have H7 : Hid (SeenAt w7 sb n S ∧ Up w w7 ∧ ((n ≤ a ∧ ∀ x, S x = false) ∨ (a < n ∧ ∀ x, x < n → (S x = true ↔ Rch n (adjL L) a x)))) := ⟨hS7, hU7, hor2⟩
  obtain ⟨iI, hI⟩ := info_of infoI
  have HII := Lib.hid hI
  clear hS7 hC7 hor hor2 hU7 hI WX d9
  go_wp2_with fail
  clear d8
  go_loopw [10, 24] (fun ov i wr => ∃ t : Nat, t ≤ n ∧ i = .int .i64 t ∧ wr.ownsRow w7.heap.size 3 1 ov (outL t S).length ((outL t S).map (Value.int .i64)) ∧ Up w7 wr) (fun _ i _ => n - (intOf i).toNat)
  case atStart => exact ⟨0, by omega, rfl, World.ownsRow_nil _ _ _ _, Up.refl _⟩
  case round =>
    obtain ⟨t, ht, rfl, hrow, hU⟩ := hrel
    have HR : Hid (wr.ownsRow w7.heap.size 3 1 _ (outL t S).length ((outL t S).map (Value.int .i64)) ∧ Up w7 wr) := ⟨hrow, hU⟩
    by_cases hlt : t < n
    · obtain ⟨s0, s1, s2⟩ := (H7.out.1.chg hU.chg (by simp)).cell hlt
      have it0 : (t : Int) < (n : Int) := by omega
      have HT : Hid (outL (t + 1) S = outL t S ++ (if S t = true then [(t : Int)] else [])) := outL_succ t S
      clear hrow hU
      cases hS : S t with
      | true =>
        rw [hS] at s0 HT
        have HLN : Hid ((outL t S).length ≤ 8) := by have h1 := outL_len t S; show _ ≤ _; omega
        have HG : Hid ((wr.alloc (.cells #[.int .i64 (t : Int)] 3)).ownsRow w7.heap.size 3 1 _ (outL t S).length ((outL t S).map (Value.int .i64)) ∧ w7.heap.size ≤ (wr.alloc (.cells #[.int .i64 (t : Int)] 3)).heap.size) := ⟨owns_chg HR.out.1 ((Up.refl wr).alloc _).chg (by simp), (Up.trans HR.out.2 ((Up.refl wr).alloc _)).size⟩
        clear hS
        go_wp2_with (at_builtin; refine wpList_append_lies _ rfl (.tmp 30) (.tmp 32) 32 rfl w7.heap.size 3 _ (.int .i64 0) 1 8 Tryz.underlying32 HII.out.1 HII.out.2.1 HII.out.2.2.1 HII.out.2.2.2 rfl (by decide) u10 _ ((outL t S).map (Value.int .i64)) rfl HG.out.1 ⟨wr.heap.size, 0, none⟩ 1 1 [.int .i64 (t : Int)] rfl rfl (World.news_of_block (cs := #[.int .i64 (t : Int)]) (t := 3) (fr := (0, 0)) (heap_alloc_new wr _)) (by intro u hu; simp at hu; subst hu; rfl) (by decide) (by have h9 := HLN.out; unfold maxLen; omega) (by have h9 := HLN.out; omega) HG.out.2 (wr.heap.size + 1) (by simp) ?_; intro g1 gcap w5 hown5 hgrow5 hat5 hlt5)
        go_roundw
        case rel =>
          have e9 : outL (t + 1) S = outL t S ++ [(t : Int)] := by have h9 := HT.out; simpa using h9
          have CU : Chg [] w7 w5 := by
            refine Chg.weak (F := (Value.ownBlock u10).toList) ?_ (fun x hx => .inr (HR.out.1.lt x (by simpa using hx)).1)
            exact ((Up.trans HR.out.2 ((Up.refl wr).alloc _)).chg.mono (by simp)).grown hgrow5 (fun b hb => .inl (by simp [hb]))
          refine ⟨t + 1, by omega, by go_num, ?_, CU.up⟩
          rw [e9, List.map_append, List.length_append]
          exact hown5
        case measure => simp [intOf]; omega
      | false =>
        rw [hS] at s0 HT
        clear hS
        go_wp2_with fail
        go_roundw
        case rel =>
          have e9 : outL (t + 1) S = outL t S := by have h9 := HT.out; simpa using h9
          refine ⟨t + 1, by omega, by go_num, ?_, HR.out.2⟩
          rw [e9]
          exact HR.out.1
        case measure => simp [intOf]; omega
    · have hte : t = n := by omega
      subst hte
      clear hrow hU
      go_wp2_with fail
      go_ret
      exact ⟨_, rfl, ⟨S, ints_of HR.out.1, H7.out.2.2⟩, Up.trans H7.out.2.1 HR.out.2⟩
end Go.Proofs.YtkcljohkcpdfaaaGreatDoor.gr
