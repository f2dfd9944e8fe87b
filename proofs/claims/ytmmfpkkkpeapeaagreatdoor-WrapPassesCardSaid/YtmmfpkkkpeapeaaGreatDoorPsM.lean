/- palinglaw15.Make, walked (printed by mk_gen.py). (1 texts in one.) -/
import Derived.Test.YtmmfpkkkpeapeaaGreatDoorPsC
import Derived.Test.YtmmfpkkkpeapeaaGreatDoorPsB

/- palinglaw15.Make, walked (printed by mk_gen.py). -/
set_option linter.unusedVariables false
set_option linter.unusedSimpArgs false
namespace Go.Proofs.YtmmfpkkkpeapeaaGreatDoor.mb
open Go.RowKit Go.Maps mem rec ar
attribute [local go_sem ↓] Go.wp_at_zero Go.wp_at_succ
set_option maxRecDepth 100000
set_option maxHeartbeats 20000000
def none2 : Ca := fun _ _ => none
/-- Behind some owners: their records' fields lie in bs; n of the records are listed. -/
structure M1 (w0 w : World) (q p cb : Nat) (vr v : Nat → Value) (bs : List Nat) (n : Nat) : Prop where
  rw_ : Rw w q (.pointer (some ⟨p, 0, none⟩)) (.map (some cb)) vr (lenW 0 n) (rowW [] n)
  pt : Parts w p v (mk4 bs)
  ow : w.ownsMap Tryz.prog 113 R1 cb 0 (.map [])
  cn : cb ∉ foot p v
  dj : ∀ b ∈ foot q vr, b ∉ cb :: foot p v
  f1 : ∀ b ∈ foot q vr, w0.heap.size ≤ b
  f2 : ∀ b ∈ cb :: foot p v, w0.heap.size ≤ b
  bel : Up w0 w
theorem M1.up {w0 w w1 : World} {q p cb n : Nat} {vr v : Nat → Value} {bs : List Nat} (h : M1 w0 w q p cb vr v bs n) (u : Up w w1) : M1 w0 w1 q p cb vr v bs n :=
  ⟨h.rw_.up u, h.pt.up u, map_chg h.ow u.chg (by simp), h.cn, h.dj, h.f1, h.f2, h.bel.trans u⟩
theorem M1.start (w : World) : M1 w (((w.alloc (.cells #[.slice none 0 0, .slice none 0 0, .slice none 0 0, .slice none 0 0] 120)).alloc (.map #[] 0)).alloc (.cells #[.pointer (some ⟨w.heap.size, 0, none⟩), .map (some (w.heap.size + 1)), .slice none 0 0, .slice none 0 0, .slice none 0 0, .slice none 0 0] 39)) (w.heap.size + 1 + 1) w.heap.size (w.heap.size + 1) (fun _ => .slice none 0 0) (fun _ => .slice none 0 0) [] 0 := by
  obtain ⟨pt1, fo1⟩ := sb.start_parts w
  have own1 : ((w.alloc (.cells #[.slice none 0 0, .slice none 0 0, .slice none 0 0, .slice none 0 0] 120)).alloc (.map #[] 0)).ownsMap Tryz.prog 113 R1 (w.alloc (.cells #[.slice none 0 0, .slice none 0 0, .slice none 0 0, .slice none 0 0] 120)).heap.size 0 (.map []) := World.ownsMap_made (H := Nat) _ Tryz.prog 113 R1
  rw [World.size_alloc] at own1
  have nf : ∀ b, b ∈ foot w.heap.size (fun _ => Value.slice none 0 0) → b = w.heap.size := fun b hb => by
    rcases mem_foot.1 hb with h | ⟨i, hi, h⟩
    · exact h
    · simp [Value.ownBlock] at h
  have nq : ∀ b, b ∈ foot (w.heap.size + 1 + 1) (fun _ => Value.slice none 0 0) → b = w.heap.size + 1 + 1 := fun b hb => by
    rcases mem_foot.1 hb with h | ⟨i, hi, h⟩
    · exact h
    · simp [Value.ownBlock] at h
  have z : ((w.alloc (.cells #[.slice none 0 0, .slice none 0 0, .slice none 0 0, .slice none 0 0] 120)).alloc (.map #[] 0)).heap.size = w.heap.size + 1 + 1 := by simp
  refine ⟨⟨?_, fun i hi => ?_, fun i j b hi hj h => by simp [Value.ownBlock] at h, fun i hi => by simp [Value.ownBlock]⟩, pt1.up (((Up.refl _).alloc _).alloc _), map_chg own1 ((Up.refl _).alloc _).chg (by simp), fun hx => by have := nf _ hx; omega, fun b hb hx => ?_, fun b hb => by have := nq b hb; omega, fun b hb => ?_, (((Up.refl _).alloc _).alloc _).alloc _⟩
  · have h := heap_alloc_new ((w.alloc (.cells #[.slice none 0 0, .slice none 0 0, .slice none 0 0, .slice none 0 0] 120)).alloc (.map #[] 0)) (.cells #[.pointer (some ⟨w.heap.size, 0, none⟩), .map (some (w.heap.size + 1)), .slice none 0 0, .slice none 0 0, .slice none 0 0, .slice none 0 0] 39)
    rw [z] at h
    exact h
  · have e : lenW 0 0 i = 0 := by unfold lenW; split <;> rfl
    have e2 : rowW [] 0 i = [] := by unfold rowW; split <;> rfl
    rw [e, e2]
    exact ⟨by simp, .inl ⟨rfl, rfl⟩⟩
  · have h1 := nq b hb
    rcases List.mem_cons.1 hx with h2 | h2
    · omega
    · have := nf b h2; omega
  · rcases List.mem_cons.1 hb with h2 | h2
    · omega
    · have := nf b h2; omega
theorem M1.put {w0 w w1 : World} {q p cb n : Nat} {vr v v1 : Nat → Value} {bs bs' : List Nat} (h : M1 w0 w q p cb vr v bs n) (pt : Parts w1 p v1 (mk4 bs')) (c : Chg (foot p v) w w1) (fb : ∀ b ∈ foot p v1, b ∈ foot p v ∨ w.heap.size ≤ b) : M1 w0 w1 q p cb vr v1 bs' n := by
  have z := h.bel.size
  have hlt := h.ow.lt
  refine ⟨h.rw_.chg c (fun b hb hx => h.dj b hb (List.mem_cons_of_mem _ hx)), pt, map_chg h.ow c h.cn, fun hx => ?_, fun b hb hx => ?_, h.f1, fun b hb => ?_, Below.trans h.bel (c.below z (fun b hb => h.f2 b (List.mem_cons_of_mem _ hb)))⟩
  · rcases fb cb hx with h1 | h1
    · exact h.cn h1
    · omega
  · rcases List.mem_cons.1 hx with h1 | h1
    · exact h.dj b hb (by rw [h1]; exact List.mem_cons_self ..)
    · rcases fb b h1 with h2 | h2
      · exact h.dj b hb (List.mem_cons_of_mem _ h2)
      · have := h.rw_.lt b hb; omega
  · rcases List.mem_cons.1 hb with h1 | h1
    · exact h.f2 b (by rw [h1]; exact List.mem_cons_self ..)
    · rcases fb b h1 with h2 | h2
      · exact h.f2 b (List.mem_cons_of_mem _ h2)
      · omega
/-- Listed. -/
theorem M1.obj {w0 w wx w1 : World} {q p cb n g c H : Nat} {vr v : Nat → Value} {bs : List Nat} (h : M1 w0 w q p cb vr v bs n) (u : Up w wx) (hrow : w1.ownsRow 0 41 1 (.slice (some ⟨g, 0, none⟩) (n + 1) c) (n + 1) (rowW [] n 1 ++ [.int .u64 (4294967296 + (n : Int))])) (hg : wx.grownBy w1 (vr 1).ownBlock) (at_ : (vr 1).ownBlock = some g ∨ g = H) (hH : wx.heap.size = H) :
    ∃ vr', M1 w0 (w1.setCell ⟨q, 3, none⟩ (.slice (some ⟨g, 0, none⟩) (n + 1) c)) q p cb vr' v bs (n + 1) := by
  subst hH
  have H0 := h.up u
  have z := H0.bel.size
  obtain ⟨h1, h2, h3⟩ := H0.rw_.put (N' := lenW 0 (n + 1)) (X' := rowW [] (n + 1)) 1 (by omega) hg (.slice (some ⟨g, 0, none⟩) (n + 1) c) g rfl (at_.imp id (fun e => by omega)) (by
      show w1.ownsRow 0 _ 1 _ (n + 1) ((List.range (n + 1)).map _)
      rw [List.range_succ, List.map_append]
      exact hrow) (fun j hj hne => by rcases (by omega : j = 0 ∨ j = 2 ∨ j = 3) with rfl | rfl | rfl <;> exact ⟨rfl, rfl⟩)
  refine ⟨_, h1, H0.pt.chg h2 (fun b hb hx => H0.dj b hx (List.mem_cons_of_mem _ hb)), map_chg H0.ow h2 (fun hx => H0.dj cb hx (List.mem_cons_self ..)), H0.cn, fun b hb hx => ?_, fun b hb => ?_, H0.f2, Below.trans H0.bel (h2.below z H0.f1)⟩
  · rcases h3 b hb with h4 | h4
    · exact H0.dj b h4 hx
    · rcases List.mem_cons.1 hx with h5 | h5
      · have := H0.ow.lt; omega
      · have := H0.pt.lt b h5; omega
  · rcases h3 b hb with h4 | h4
    · exact H0.f1 b h4
    · omega
theorem M1.done {w0 w : World} {q p cb : Nat} {vr v : Nat → Value} {bs : List Nat} (h : M1 w0 w q p cb vr v bs 4) (hb : bs.length = 4) : St w0 w q p cb vr v (mk4 bs) none2 [] 59 0 :=
  ⟨h.rw_, ⟨h.pt, (room4 bs (by omega) 59 (by decide)).2, fun n hn => quo4 bs n 59 (by omega) (by decide), ⟨0, _, by decide, h.ow, CacheIs.nil⟩, h.cn, net4 bs (by omega) []⟩, h.dj, h.f1, h.f2, by simp, h.bel⟩
/-- Behind the three appends. -/
theorem St.fin {w0 w W : World} {q p cb g0 g2 g3 c0 c2 c3 : Nat} {vr v : Nat → Value} {bs : List Nat} {L : List Mb} {sa sb : Int} (h : St w0 w q p cb vr v (mk4 bs) none2 L 59 0)
    (hI : I3 w W q (.pointer (some ⟨p, 0, none⟩)) (.map (some cb)) vr (upd (upd (upd vr 0 (.slice (some ⟨g0, 0, none⟩) (L.length + 1) c0)) 2 (.slice (some ⟨g2, 0, none⟩) (L.length + 1) c2)) 3 (.slice (some ⟨g3, 0, none⟩) (L.length + 1) c3)) (updN (updN (updN (lenW L.length 4) 0 (L.length + 1)) 2 (L.length + 1)) 3 (L.length + 1))
      (updX (updX (updX (rowW L 4) 0 (rowW L 4 0 ++ [.int .i64 sa, .int .i64 sb, .bool false])) 2 (rowW L 4 2 ++ [.int .i64 sa, .int .i64 sb])) 3 (rowW L 4 3 ++ [.bool false]))) (hb : bs.length = 4) (hs : (0 ≤ sa ∧ sa < 4) ∧ (0 ≤ sb ∧ sb < 4)) :
    ∃ vr', St w0 (((W.setCell ⟨q, 2, none⟩ (.slice (some ⟨g0, 0, none⟩) (L.length + 1) c0)).setCell ⟨q, 4, none⟩ (.slice (some ⟨g2, 0, none⟩) (L.length + 1) c2)).setCell ⟨q, 5, none⟩ (.slice (some ⟨g3, 0, none⟩) (L.length + 1) c3)) q p cb vr' v (mk4 bs) none2 (L ++ [(sa, sb, false)]) 59 0 := by
  have H := h
  obtain ⟨h1, h2, h3⟩ := hI.done rfl
  have z := H.bel.size
  refine ⟨_, ⟨h1.hd, fun i hi => ?_, h1.ap, h1.pp⟩, ?_, fun b hb hx => ?_, fun b hb => ?_, H.f2, fun m hm => ?_, Below.trans H.bel (h2.below z H.f1)⟩
  · have := h1.ow i hi
    rw [List.length_append]
    rcases (by omega : i = 0 ∨ i = 1 ∨ i = 2 ∨ i = 3) with rfl | rfl | rfl | rfl
    · show World.ownsRow _ 0 _ _ _ (L.length + 1) ((L ++ [(sa, sb, false)]).flatMap cellsM)
      rw [List.flatMap_append]
      exact this
    · exact this
    · show World.ownsRow _ 0 _ _ _ (L.length + 1) ((L ++ [(sa, sb, false)]).flatMap _)
      rw [List.flatMap_append]
      exact this
    · show World.ownsRow _ 0 _ _ _ (L.length + 1) ((L ++ [(sa, sb, false)]).map _)
      rw [List.map_append]
      exact this
  · have hw := H.wr.chg h2 (fun b hb hx => H.dj b hx hb)
    exact ⟨hw.pt, hw.rm, hw.qu, hw.ow, hw.cn, net4 bs (by omega) _⟩
  · rcases h3 b hb with h4 | h4
    · exact H.dj b h4 hx
    · have := H.wr.lt b hx; omega
  · rcases h3 b hb with h4 | h4
    · exact H.f1 b h4
    · omega
  · rcases List.mem_append.1 hm with h4 | h4
    · exact H.sd m h4
    · rw [List.mem_singleton.1 h4]; exact hs
theorem fin2 {w0 w W : World} {q p cb g0 g2 g3 c0 c2 c3 t n : Nat} {vr v : Nat → Value} {bs : List Nat} {L : List Mb} {sa sb : Int} {ps : Nat → Int × Int} {i : Value} (h : St w0 w q p cb vr v (mk4 bs) none2 L 59 0)
    (hI : I3 w W q (.pointer (some ⟨p, 0, none⟩)) (.map (some cb)) vr (upd (upd (upd vr 0 (.slice (some ⟨g0, 0, none⟩) (L.length + 1) c0)) 2 (.slice (some ⟨g2, 0, none⟩) (L.length + 1) c2)) 3 (.slice (some ⟨g3, 0, none⟩) (L.length + 1) c3)) (updN (updN (updN (lenW L.length 4) 0 (L.length + 1)) 2 (L.length + 1)) 3 (L.length + 1))
      (updX (updX (updX (rowW L 4) 0 (rowW L 4 0 ++ [.int .i64 sa, .int .i64 sb, .bool false])) 2 (rowW L 4 2 ++ [.int .i64 sa, .int .i64 sb])) 3 (rowW L 4 3 ++ [.bool false]))) (hb : bs.length = 4) (hs : (0 ≤ sa ∧ sa < 4) ∧ (0 ≤ sb ∧ sb < 4)) (hL : L = (List.range t).map fun i => sideOf (ps i)) (hLt : L.length = t) (hse : sideOf (ps t) = (sa, sb, false)) (hlt : t < n) (hi : i = .int .i64 ((t + 1 : Nat) : Int)) :
    ∃ (t : Nat) (vr : Nat → Value), t ≤ n ∧ i = .int .i64 t ∧ St w0 (((W.setCell ⟨q, 2, none⟩ (.slice (some ⟨g0, 0, none⟩) (L.length + 1) c0)).setCell ⟨q, 4, none⟩ (.slice (some ⟨g2, 0, none⟩) (L.length + 1) c2)).setCell ⟨q, 5, none⟩ (.slice (some ⟨g3, 0, none⟩) (L.length + 1) c3)) q p cb vr v (mk4 bs) none2 ((List.range t).map fun i => sideOf (ps i)) 59 0 := by
  obtain ⟨vr', hv⟩ := h.fin hI hb hs
  exact ⟨t + 1, vr', by omega, hi, by rw [List.range_succ, List.map_append, ← hL]; show St w0 _ _ _ _ _ _ _ _ (L ++ [sideOf (ps t)]) _ _; rw [hse]; exact hv⟩
theorem infoMb : (Tryz.prog.info? 48).map (fun i => (i.zero, i.size, i.bytes)) = some (some (.agg #[.int .i64 0, .int .i64 0, .bool false]), 3, 24) := by kernel_rfl
theorem infoP2 : (Tryz.prog.info? 46).map (fun i => (i.zero, i.size, i.bytes)) = some (some (.agg #[.int .i64 0, .int .i64 0]), 2, 16) := by kernel_rfl
theorem infoBl : (Tryz.prog.info? 4).map (fun i => (i.zero, i.size, i.bytes)) = some (some (.bool false), 1, 1) := by kernel_rfl
theorem infoRf : (Tryz.prog.info? 41).map (fun i => (i.zero, i.size, i.bytes)) = some (some (.int .u64 0), 1, 8) := by kernel_rfl
theorem make_walk (pa : Option Addr) (n cap : Nat) (ps : Nat → Int × Int) (w : World) (hn : n ≤ 6) (hp : n = 0 ∨ ∃ b off, pa = some ⟨b, off, none⟩ ∧ b < w.heap.size ∧ ∀ i, i < n → P2At w b (off + i * 2) (ps i)) :
    Calls Tryz.prog 8 #[.slice pa n cap] w fun e w' => ∃ (q p cb : Nat) (vr v : Nat → Value) (bs : List Nat), e = .returned (.pointer (some ⟨q, 0, none⟩)) ∧ bs.length = 4 ∧ St w w' q p cb vr v (mk4 bs) none2 ((List.range n).map fun i => sideOf (ps i)) 59 0 := by
  have hmm := @run_makeMap Tryz.prog
  have HPS := Lib.hid hp
  clear hp
  go_enter Tryz.func8, Tryz.ntmps8
  go_upto_region 2 with (go_at_call 33; refine (new_arena _).mono ?_; rintro e w1 ⟨rfl, rfl⟩)
  have ST := Lib.hid (M1.start w)
  clear hmm
  generalize World.alloc _ (.cells #[.pointer (some ⟨w.heap.size, 0, none⟩), .map (some (w.heap.size + 1)), .slice none 0 0, .slice none 0 0, .slice none 0 0, .slice none 0 0] 39) = W3 at *
  generalize w.heap.size + 1 + 1 = q at ST ⊢
  generalize w.heap.size + 1 = cb at ST ⊢
  generalize w.heap.size = p at ST ⊢
  go_wp2_with fail
  go_loopw [15] (fun i wr => ∃ (t : Nat) (vr v : Nat → Value) (bs : List Nat), t ≤ 4 ∧ bs.length = t ∧ i = .int .i64 t ∧ M1 w wr q p cb vr v bs t) (fun i _ => 4 - (intOf i).toNat)
  case atStart => exact ⟨0, _, _, [], by omega, rfl, rfl, ST.out⟩
  case round =>
    obtain ⟨t, vr, v, bs, ht, hbs, rfl, hM⟩ := hrel
    have MM := Lib.hid hM
    clear hM ST
    by_cases hlt : t < 4
    · have it0 : (t : Int) < 4 := by omega
      have q0 : wr.cell? ⟨q, 0, none⟩ = some (.pointer (some ⟨p, 0, none⟩)) := MM.out.rw_.hd.cell 0
      have P1 := Lib.hid (owner_any wr p v (mk4 bs) 60 MM.out.pt (by decide) (by show (bs.map _).length < 1000; simp; omega) (by show (bs.map _).length = (bs.map _).length; simp))
      go_upto_region 6 with (go_at_call 26; refine P1.out.mono ?_; rintro e w1 ⟨v1, rfl, hP1, hC1, hF1⟩)
      clear P1
      have q1 : w1.cell? ⟨q, 0, none⟩ = some (.pointer (some ⟨p, 0, none⟩)) := (hC1.cell (MM.out.rw_.lt q foot_p) (fun hx => MM.out.dj q foot_p (List.mem_cons_of_mem _ hx))).trans q0
      clear q0
      have hqp : Hid (q ∉ foot p v1) := fun hx => by
        rcases hF1 q hx with h1 | h1
        · exact MM.out.dj q foot_p (List.mem_cons_of_mem _ h1)
        · have := MM.out.rw_.lt q foot_p; omega
      have hqw : Hid (q < w1.heap.size) := Nat.lt_of_lt_of_le (MM.out.rw_.lt q foot_p) hC1.size
      have HP1 := Lib.hid (And.intro hP1 (And.intro hC1 hF1))
      clear hP1 hC1 hF1
      have NX : Hid (∀ wx, Calls Tryz.prog 34 #[.int .i64 t] wx fun e w' => ∃ bm, e = .returned (.agg #[.int .u8 0, .int .i64 t, .bool false, .map (some bm), .int .i64 0, .int .i64 0, .slice none 0 0, .int .u64 0, .int .u8 0, .int .i64 0, .string ⟨#[]⟩, .int .i64 0, .int .u64 0, .int .i64 0]) ∧ Up wx w') := fun wx => (new_any t wx).mono (fun e w' ⟨bm, h1, h2, _⟩ => ⟨bm, h1, h2⟩)
      have PX : Hid (∀ wx (bm : Nat), Up w1 wx → Calls Tryz.prog 27 #[.pointer (some ⟨p, 0, none⟩), .agg (recOb t bm).cells.toArray] wx fun e w' => ∃ v', e = .returned (.tuple #[.int .u64 (4294967296 + (t : Int)), .int .i64 0]) ∧ (Parts w' p v' (mk4 (bs ++ [bm])) ∧ Chg (foot p v1) w1 w' ∧ ∀ b ∈ foot p v', b ∈ foot p v1 ∨ w1.heap.size ≤ b) ∧ w'.cell? ⟨q, 0, none⟩ = w1.cell? ⟨q, 0, none⟩) := by
        intro wx bm hx
        refine (put_k wx p v1 (mk4o bs) (recOb t bm) (HP1.out.1.up hx) t 8 8 rfl (room4 bs (by omega) 9 (by decide)).1 (by rw [← hbs]; exact quo4o bs 9 (by decide))).mono ?_
        rintro e w' ⟨v', rfl, h1, h2, h3⟩
        rw [← hbs] at h1
        rw [add4] at h1
        have C := (hx.chg.mono (G := foot p v1) (by simp)).trans h2 (fun x hx => .inl hx)
        refine ⟨v', by rw [name4, hbs, Int.natCast_add]; rfl, ⟨h1, C, fun b hb => ?_⟩, C.cell (p := ⟨q, 0, none⟩) hqw.out hqp.out⟩
        rcases h3 b hb with h4 | h4
        · exact .inl h4
        · exact .inr (Nat.le_trans hx.size h4)
      simp only [recOb, Ob.cells, zero3] at PX
      go_cut [5] from 23 to 32 (fun r wx => r = .int .u64 (4294967296 + (t : Int)) ∧ ∃ (v3 : Nat → Value) (bm : Nat), M1 w wx q p cb vr v3 (bs ++ [bm]) t)
      case first =>
        go_region_held3 (fun w' => w'.cell? ⟨q, 0, none⟩ = some (.pointer (some ⟨p, 0, none⟩)))
          ((first | assumption | (refine up_cell ?_ q1; assumption) | (refine Eq.trans ?_ q1; assumption)))
          (first
            | (go_at_call 34; refine (NX.out _).mono ?_; rintro e w2 ⟨bm, rfl, hU2⟩; have hU3 : Up w1 w2 := Up.trans (by first | exact Up.refl _ | exact (Up.refl _).drew) hU2)
            | (go_at_call 27; refine (PX.out _ _ ?_).mono ?_; (· assumption); rintro e w3 ⟨v3, rfl, hP3, hq3⟩))
        all_goals
          go_wp2_with fail
          go_meet
          exact ⟨rfl, v3, bm, MM.out.put hP3.1 (HP1.out.2.1.trans hP3.2.1 HP1.out.2.2) (fun b hb => by
            rcases hP3.2.2 b hb with h1 | h1
            · exact HP1.out.2.2 b h1
            · exact .inr (Nat.le_trans HP1.out.2.1.size h1))⟩
      case rest =>
        obtain ⟨rfl, v3, bm, hM3⟩ := hcut
        clear PX NX HP1 q1 hqp hqw MM
        have q3 : wc.cell? ⟨q, 3, none⟩ = some (vr 1) := (hM3.rw_.cell 1 (by decide)).1
        have f3 : wc.frozen? ⟨q, 3, none⟩ = false := (hM3.rw_.cell 1 (by decide)).2
        have hq0 : q < wc.heap.size := hM3.rw_.lt q foot_p
        have HNQ : Hid (some q ≠ (vr 1).ownBlock) := fun e => hM3.rw_.pp 1 (by decide) e.symm
        have MM := Lib.hid hM3
        clear hM3
        obtain ⟨ir, hi, hz0, hz1, hz2⟩ := info_parts infoRf
        have HI := Lib.hid (And.intro hi (And.intro hz0 (And.intro hz1 hz2)))
        clear hi hz0 hz1 hz2
        go_wp2_with (at_builtin; go_loud (refine wpList_append_lies _ rfl (.tmp 37) (.tmp 39) 35 rfl 0 41 ir (.int .u64 0) 1 8 Tryz.underlying35 HI.out.1 HI.out.2.1 HI.out.2.2.1 HI.out.2.2.2 rfl (by decide) (vr 1) t (rowW [] t 1) rfl ((MM.out.rw_.ow 1 (by decide)).alloc _) ⟨wc.heap.size, 0, none⟩ 1 1 [.int .u64 (4294967296 + (t : Int))] rfl rfl (World.news_of_block (cs := #[.int .u64 (4294967296 + (t : Int))]) (t := 41) (fr := (0, 0)) (by exact heap_alloc_new wc _)) (by intro u hu; simp at hu; subst hu; rfl) (by decide) (by unfold maxLen; omega) (by omega) (by omega) (wc.heap.size + 1) (by simp) ?_; intro g1 cap1 w5 hown5 hgrow5 hat5 hlt5; have y1 : w5.frozen? ⟨q, 3, none⟩ = false := (hgrow5.frozen_far ⟨q, 3, none⟩ (by first | omega | (show q < _; simp; omega)) HNQ.out).trans ((World.frozen?_alloc_past _ _ _ (by first | omega | (simp; omega) | (show q < _; omega))).trans f3); have y2 : w5.cell? ⟨q, 3, none⟩ = some (vr 1) := (hgrow5.cell_far ⟨q, 3, none⟩ (by first | omega | (show q < _; simp; omega)) HNQ.out).trans ((World.cell?_alloc_lt _ _ _ (by first | omega | (simp; omega) | (show q < _; omega))).trans q3); have HG := Lib.hid (And.intro hown5 (And.intro hgrow5 hat5)); clear hown5 hgrow5 hat5 hlt5))
        go_roundw
        case rel =>
          obtain ⟨vr', h1⟩ := MM.out.obj ((Up.refl wc).alloc (.cells #[.int .u64 (4294967296 + (t : Int))] 41)) HG.out.1 HG.out.2.1 HG.out.2.2 (by simp)
          exact ⟨t + 1, vr', v3, bs ++ [bm], by omega, by simp [hbs], by go_num, h1⟩
        case measure => simp [intOf]; omega
    · have hte : t = 4 := by omega
      subst hte
      have SS := Lib.hid (MM.out.done hbs)
      clear MM
      go_wp2_with fail
      go_loopw [46] (fun i wr => ∃ (t : Nat) (vr : Nat → Value), t ≤ n ∧ i = .int .i64 t ∧ St w wr q p cb vr v (mk4 bs) none2 ((List.range t).map fun i => sideOf (ps i)) 59 0) (fun i _ => n - (intOf i).toNat)
      case atStart => exact ⟨0, vr, by omega, rfl, SS.out⟩
      case round =>
        obtain ⟨t, vr, ht, rfl, hS⟩ := hrel
        clear SS
        have SS := Lib.hid hS
        clear hS
        by_cases hlt : t < n
        · obtain ⟨pb, off, rfl, hpb, hpp⟩ := HPS.out.resolve_left (by omega)
          obtain ⟨x0, x1, y0, y1, y2, y3⟩ := hpp t hlt
          have c0 := up_cell SS.out.bel x0
          have c1 := up_cell SS.out.bel x1
          obtain ⟨x, hx⟩ : ∃ x, x = ps t := ⟨_, rfl⟩
          rw [← hx] at c0 c1 y0 y1 y2 y3
          have HX := Lib.hid hx
          clear x0 x1 hx hpp
          obtain ⟨xa, xb⟩ := x
          simp only at c0 c1 y0 y1 y2 y3
          have it0 : (t : Int) < (n : Int) := by omega
          have hpbw : pb < wr.heap.size := Nat.lt_of_lt_of_le hpb SS.out.bel.size
          go_wp2_with fail
          have hU0 : Up wr (wr.alloc (.cells #[.int .u8 xa, .int .u8 xb] 106)) := (Up.refl wr).alloc _
          go_quiet (fail)
          have hUq := up_drewN hU0 nq
          have E1 : Hid ((sideOf (xa, xb)).1 = xa % 4) := rfl
          have E2 : Hid ((sideOf (xa, xb)).2.1 = if xa % 4 = xb % 4 then (xa % 4 + 1) % 4 else xb % 4) := rfl
          have b0 : 0 ≤ xa % 4 ∧ xa % 4 < 4 := by omega
          obtain ⟨b0, b1⟩ := b0
          generalize xa % 4 = a at *
          generalize xb % 4 = b at *
          generalize World.drewN _ nq = wq at *
          clear c0 c1 y0 y1 y2 y3
          go_upto_if 60 with (fail)
          go_cut [10, 60] from 61 to 63 (fun r c wx => r = .int .i64 (sideOf (xa, xb)).2.1 ∧ wx = wq)
          case first =>
            by_cases he : a = b
            · subst he
              have hw : IntKind.i64.wrap (a + 1) = a + 1 := by rw [IntKind.wrap_i64] <;> omega
              have ht1 : (a + 1).tmod 4 = (a + 1) % 4 := Int.tmod_eq_emod_of_nonneg (by omega)
              have hw2 : IntKind.i64.wrap ((a + 1) % 4) = (a + 1) % 4 := by rw [IntKind.wrap_i64] <;> omega
              have E3 : Hid ((sideOf (xa, xb)).2.1 = (a + 1) % 4) := Lib.hid (E2.out.trans (if_pos rfl))
              clear E1 E2
              go_wp2_with fail
              go_meet
              exact ⟨by rw [E3.out], rfl⟩
            · have he2 : (a == b) = false := by simpa using he
              have E3 : Hid ((sideOf (xa, xb)).2.1 = b) := Lib.hid (E2.out.trans (if_neg he))
              clear E1 E2
              go_wp2_with fail
              go_meet
              exact ⟨by rw [E3.out], rfl⟩
          case rest =>
            obtain ⟨rfl, rfl⟩ := hcut
            rw [← E1.out]
            clear E1 E2 b0 b1
            have hU1 := hUq
            have SC := Lib.hid (SS.out.up hU1)
            clear SS hU0 hUq hU1
            obtain ⟨sa, hsa⟩ : ∃ sa, sa = (sideOf (xa, xb)).1 := ⟨_, rfl⟩
            obtain ⟨sc, hsb⟩ : ∃ sc, sc = (sideOf (xa, xb)).2.1 := ⟨_, rfl⟩
            rw [← hsa, ← hsb]
            have HSD : Hid ((0 ≤ sa ∧ sa < 4) ∧ (0 ≤ sc ∧ sc < 4)) := by rw [hsa, hsb]; exact sideOf_lt _
            have HSE : Hid (sideOf (ps t) = (sa, sc, false)) := by rw [← HX.out, hsa, hsb]; rfl
            clear hsa hsb
            obtain ⟨L, hL⟩ : ∃ L, L = (List.range t).map fun i => sideOf (ps i) := ⟨_, rfl⟩
            rw [← hL] at SC
            have hLt : L.length = t := by rw [hL]; simp
            have HL := Lib.hid (And.intro hL hLt)
            have HX1 : Hid (L.length + 1 ≤ maxLen ∧ ∀ y, y ≤ 24 → (L.length + 1) * y ≤ 140737488355328) := ⟨by unfold maxLen; omega, fun y hy => Nat.le_trans (Nat.mul_le_mul (show L.length + 1 ≤ 7 by omega) hy) (by decide)⟩
            clear hL hLt
            go_wp2_with fail
            obtain ⟨iM, hi, hz0, hz1, hz2⟩ := info_parts infoMb
            have HIM := Lib.hid (And.intro hi (And.intro hz0 (And.intro hz1 hz2)))
            clear hi hz0 hz1 hz2
            obtain ⟨iP, hi, hz0, hz1, hz2⟩ := info_parts infoP2
            have HIP := Lib.hid (And.intro hi (And.intro hz0 (And.intro hz1 hz2)))
            clear hi hz0 hz1 hz2
            obtain ⟨iB, hi, hz0, hz1, hz2⟩ := info_parts infoBl
            have HIB := Lib.hid (And.intro hi (And.intro hz0 (And.intro hz1 hz2)))
            clear hi hz0 hz1 hz2
            have HI := Lib.hid ((I3.start SC.out.rw_).drew)
            refine AnyT.start (S := fun w' => w'.cell? ⟨q, 2, none⟩ = some (vr 0) ∧ w'.cell? ⟨q, 4, none⟩ = some (vr 2) ∧ w'.cell? ⟨q, 5, none⟩ = some (vr 3) ∧ w'.frozen? ⟨q, 2, none⟩ = false ∧ w'.frozen? ⟨q, 4, none⟩ = false ∧ w'.frozen? ⟨q, 5, none⟩ = false) 28 (by kernel_rfl) HI.out.held (fun hHeld => ?_)
            generalize World.drew wc = W0 at *
            refine AnyT.pick (i := 0) (oi := ⟨_, _, _, _, _, _⟩) (v := ?_) rfl (by kernel_rfl) (by kernel_rfl) (by kernel_rfl) (fun _ _ _ h => h) (Or.inl ⟨by rfl, ?y0_1⟩) ?_
            case' y0_1 => ((intro w hSw; go_simp) <;> (with_reducible rfl))
            try simp only [Act.put, List.setIfInBounds_toArray, List.set_cons_zero, List.set_cons_succ]
            refine AnyT.pick (i := 1) (oi := ⟨_, _, _, _, _, _⟩) (v := ?_) rfl (by kernel_rfl) (by kernel_rfl) (by kernel_rfl) (fun _ _ _ h => h) (Or.inl ⟨by rfl, ?y1_2⟩) ?_
            case' y1_2 => ((intro w hSw; go_simp) <;> (with_reducible rfl))
            try simp only [Act.put, List.setIfInBounds_toArray, List.set_cons_zero, List.set_cons_succ]
            refine AnyT.pick (i := 2) (oi := ⟨_, _, _, _, _, _⟩) (v := ?_) rfl (by kernel_rfl) (by kernel_rfl) (by kernel_rfl) (fun _ _ _ h => h) (Or.inl ⟨by rfl, ?y2_3⟩) ?_
            case' y2_3 => ((intro w hSw; go_simp) <;> (with_reducible rfl))
            try simp only [Act.put, List.setIfInBounds_toArray, List.set_cons_zero, List.set_cons_succ]
            refine AnyT.pick (i := 3) (oi := ⟨_, _, _, _, _, _⟩) (v := ?_) rfl (by kernel_rfl) (by kernel_rfl) (by kernel_rfl) (fun _ _ _ h => h) (Or.inl ⟨by rfl, ?y3_4⟩) ?_
            case' y3_4 => ((intro w hSw; go_simp) <;> (with_reducible rfl))
            try simp only [Act.put, List.setIfInBounds_toArray, List.set_cons_zero, List.set_cons_succ]
            refine AnyT.pick (i := 4) (oi := ⟨_, _, _, _, _, _⟩) (v := ?_) rfl (by kernel_rfl) (by kernel_rfl) (by kernel_rfl) (fun _ _ _ h => h) (Or.inl ⟨by rfl, ?y4_5⟩) ?_
            case' y4_5 => ((intro w hSw; go_simp) <;> (with_reducible rfl))
            try simp only [Act.put, List.setIfInBounds_toArray, List.set_cons_zero, List.set_cons_succ]
            refine AnyT.pick (i := 5) (oi := ⟨_, _, _, _, _, _⟩) (v := ?_) rfl (by kernel_rfl) (by kernel_rfl) (by kernel_rfl) (fun _ _ _ h => h) (Or.inl ⟨by rfl, ?y5_6⟩) ?_
            case' y5_6 => ((intro w hSw; go_simp) <;> (with_reducible rfl))
            try simp only [Act.put, List.setIfInBounds_toArray, List.set_cons_zero, List.set_cons_succ]
            refine AnyT.take (i := 6) (oi := ⟨_, _, _, _, _, _⟩) (v := ?_) rfl (by kernel_rfl) (by kernel_rfl) (by kernel_rfl) (by kernel_rfl) (fun _ _ _ h => h) (Or.inl ⟨by rfl, ?y6_7⟩) (by assumption) ?_
            case' y6_7 => ((intro w hSw; (try dsimp only at hSw); go_simp) <;> (with_reducible rfl))
            try simp only [Act.put, List.setIfInBounds_toArray, List.set_cons_zero, List.set_cons_succ]
            refine AnyT.pick (i := 7) (oi := ⟨_, _, _, _, _, _⟩) (v := ?_) rfl (by kernel_rfl) (by kernel_rfl) (by kernel_rfl) (fun _ _ _ h => h) (Or.inl ⟨by rfl, ?y7_8⟩) ?_
            case' y7_8 => ((intro w hSw; go_simp) <;> (with_reducible rfl))
            try simp only [Act.put, List.setIfInBounds_toArray, List.set_cons_zero, List.set_cons_succ]
            refine AnyT.pick (i := 8) (oi := ⟨_, _, _, _, _, _⟩) (v := ?_) rfl (by kernel_rfl) (by kernel_rfl) (by kernel_rfl) (fun _ _ _ h => h) (Or.inl ⟨by rfl, ?y8_9⟩) ?_
            case' y8_9 => ((intro w hSw; go_simp) <;> (with_reducible rfl))
            try simp only [Act.put, List.setIfInBounds_toArray, List.set_cons_zero, List.set_cons_succ]
            refine AnyT.pick (i := 9) (oi := ⟨_, _, _, _, _, _⟩) (v := ?_) rfl (by kernel_rfl) (by kernel_rfl) (by kernel_rfl) (fun _ _ _ h => h) (Or.inl ⟨by rfl, ?y9_10⟩) ?_
            case' y9_10 => ((intro w hSw; go_simp) <;> (with_reducible rfl))
            try simp only [Act.put, List.setIfInBounds_toArray, List.set_cons_zero, List.set_cons_succ]
            refine AnyT.pick (i := 10) (oi := ⟨_, _, _, _, _, _⟩) (v := ?_) rfl (by kernel_rfl) (by kernel_rfl) (by kernel_rfl) (fun _ _ _ h => h) (Or.inl ⟨by rfl, ?y10_11⟩) ?_
            case' y10_11 => ((intro w hSw; go_simp) <;> (with_reducible rfl))
            try simp only [Act.put, List.setIfInBounds_toArray, List.set_cons_zero, List.set_cons_succ]
            refine AnyT.pick (i := 13) (oi := ⟨_, _, _, _, _, _⟩) (v := ?_) rfl (by kernel_rfl) (by kernel_rfl) (by kernel_rfl) (fun _ _ _ h => h) (Or.inl ⟨by rfl, ?y13_12⟩) ?_
            case' y13_12 => ((intro w hSw; go_simp) <;> (with_reducible rfl))
            try simp only [Act.put, List.setIfInBounds_toArray, List.set_cons_zero, List.set_cons_succ]
            refine AnyT.pick (i := 14) (oi := ⟨_, _, _, _, _, _⟩) (v := ?_) rfl (by kernel_rfl) (by kernel_rfl) (by kernel_rfl) (fun _ _ _ h => h) (Or.inl ⟨by rfl, ?y14_13⟩) ?_
            case' y14_13 => ((intro w hSw; go_simp) <;> (with_reducible rfl))
            try simp only [Act.put, List.setIfInBounds_toArray, List.set_cons_zero, List.set_cons_succ]
            refine AnyT.pick (i := 15) (oi := ⟨_, _, _, _, _, _⟩) (v := ?_) rfl (by kernel_rfl) (by kernel_rfl) (by kernel_rfl) (fun _ _ _ h => h) (Or.inl ⟨by rfl, ?y15_14⟩) ?_
            case' y15_14 => ((intro w hSw; go_simp) <;> (with_reducible rfl))
            try simp only [Act.put, List.setIfInBounds_toArray, List.set_cons_zero, List.set_cons_succ]
            refine AnyT.take (i := 16) (oi := ⟨_, _, _, _, _, _⟩) (v := ?_) rfl (by kernel_rfl) (by kernel_rfl) (by kernel_rfl) (by kernel_rfl) (fun _ _ _ h => h) (Or.inl ⟨by rfl, ?y16_15⟩) (by assumption) ?_
            case' y16_15 => ((intro w hSw; (try dsimp only at hSw); go_simp) <;> (with_reducible rfl))
            try simp only [Act.put, List.setIfInBounds_toArray, List.set_cons_zero, List.set_cons_succ]
            refine AnyT.pick (i := 17) (oi := ⟨_, _, _, _, _, _⟩) (v := ?_) rfl (by kernel_rfl) (by kernel_rfl) (by kernel_rfl) (fun _ _ _ h => h) (Or.inl ⟨by rfl, ?y17_16⟩) ?_
            case' y17_16 => ((intro w hSw; go_simp) <;> (with_reducible rfl))
            try simp only [Act.put, List.setIfInBounds_toArray, List.set_cons_zero, List.set_cons_succ]
            refine AnyT.pick (i := 18) (oi := ⟨_, _, _, _, _, _⟩) (v := ?_) rfl (by kernel_rfl) (by kernel_rfl) (by kernel_rfl) (fun _ _ _ h => h) (Or.inl ⟨by rfl, ?y18_17⟩) ?_
            case' y18_17 => ((intro w hSw; go_simp) <;> (with_reducible rfl))
            try simp only [Act.put, List.setIfInBounds_toArray, List.set_cons_zero, List.set_cons_succ]
            refine AnyT.pick (i := 19) (oi := ⟨_, _, _, _, _, _⟩) (v := ?_) rfl (by kernel_rfl) (by kernel_rfl) (by kernel_rfl) (fun _ _ _ h => h) (Or.inl ⟨by rfl, ?y19_18⟩) ?_
            case' y19_18 => ((intro w hSw; go_simp) <;> (with_reducible rfl))
            try simp only [Act.put, List.setIfInBounds_toArray, List.set_cons_zero, List.set_cons_succ]
            refine AnyT.pick (i := 22) (oi := ⟨_, _, _, _, _, _⟩) (v := ?_) rfl (by kernel_rfl) (by kernel_rfl) (by kernel_rfl) (fun _ _ _ h => h) (Or.inl ⟨by rfl, ?y22_19⟩) ?_
            case' y22_19 => ((intro w hSw; go_simp) <;> (with_reducible rfl))
            try simp only [Act.put, List.setIfInBounds_toArray, List.set_cons_zero, List.set_cons_succ]
            refine AnyT.pick (i := 23) (oi := ⟨_, _, _, _, _, _⟩) (v := ?_) rfl (by kernel_rfl) (by kernel_rfl) (by kernel_rfl) (fun _ _ _ h => h) (Or.inl ⟨by rfl, ?y23_20⟩) ?_
            case' y23_20 => ((intro w hSw; go_simp) <;> (with_reducible rfl))
            try simp only [Act.put, List.setIfInBounds_toArray, List.set_cons_zero, List.set_cons_succ]
            refine AnyT.pick (i := 24) (oi := ⟨_, _, _, _, _, _⟩) (v := ?_) rfl (by kernel_rfl) (by kernel_rfl) (by kernel_rfl) (fun _ _ _ h => h) (Or.inl ⟨by rfl, ?y24_21⟩) ?_
            case' y24_21 => ((intro w hSw; go_simp) <;> (with_reducible rfl))
            try simp only [Act.put, List.setIfInBounds_toArray, List.set_cons_zero, List.set_cons_succ]
            refine AnyT.take (i := 25) (oi := ⟨_, _, _, _, _, _⟩) (v := ?_) rfl (by kernel_rfl) (by kernel_rfl) (by kernel_rfl) (by kernel_rfl) (fun _ _ _ h => h) (Or.inl ⟨by rfl, ?y25_22⟩) (by assumption) ?_
            case' y25_22 => ((intro w hSw; (try dsimp only at hSw); go_simp) <;> (with_reducible rfl))
            try simp only [Act.put, List.setIfInBounds_toArray, List.set_cons_zero, List.set_cons_succ]
            refine AllT.go (rs := [11, 20, 26]) (by kernel_rfl) (by simp) ?_
            refine AllT.early (o := ⟨_, _, _, _, _, _⟩) rfl (fun K hK => ?_) ?_
            · go_simp
              refine hK.out _ _ (I3.held (HI.out.alloc _)) (fun hHeld' => ?_)
              clear hK K hHeld
              have hHeld := hHeld'
              clear hHeld'
              have HI2 := Lib.hid (HI.out.alloc (.cells #[.int .i64 sa, .int .i64 sc, .bool false] 48))
              have PC0 := Lib.hid (Pc.new HI.out #[.int .i64 sa, .int .i64 sc, .bool false] 48)
              clear HI
              have HI := HI2
              clear HI2
              generalize World.alloc W0 (.cells #[.int .i64 sa, .int .i64 sc, .bool false] 48) = W1 at *
              generalize W0.heap.size = x0 at *
              try simp only [Act.put, List.setIfInBounds_toArray, List.set_cons_zero, List.set_cons_succ]
              refine AllT.go (rs := [12, 20, 26]) (by kernel_rfl) (by simp) ?_
              refine AllT.early (o := ⟨_, _, _, _, _, _⟩) rfl (fun K hK => ?_) ?_
              · refine step_append_lies _ rfl (.tmp 70) (.tmp 75) 34 rfl 0 48 _ (.agg #[.int .i64 0, .int .i64 0, .bool false]) 3 24 Tryz.underlying34 HIM.out.1 HIM.out.2.1 HIM.out.2.2.1 HIM.out.2.2.2 rfl (by decide) (vr 0) L.length (rowW L 4 0) rfl (HI.out.ow 0 (by decide)) ⟨x0, 0, none⟩ 1 1 [.int .i64 sa, .int .i64 sc, .bool false] rfl rfl PC0.out.at_ (by intro u hu; simp at hu; rcases hu with rfl | rfl | rfl <;> rfl) (by decide) HX1.out.1 (HX1.out.2 24 (by decide)) (Nat.zero_le _) W1.heap.size rfl ?_
                intro g0 k0 W2 hrow hgrow hat hlt
                have HI2 := Lib.hid (HI.out.app 0 (by decide) hrow hgrow hat rfl)
                clear HI PC0 hrow hgrow hat hlt
                have HI := HI2
                clear HI2
                refine hK.out _ _ HI.out.held (fun hHeld' => ?_)
                clear hK K hHeld
                have hHeld := hHeld'
                clear hHeld'
                try simp only [Act.put, List.setIfInBounds_toArray, List.set_cons_zero, List.set_cons_succ]
                refine AllT.go (rs := [20, 26]) (by kernel_rfl) (by simp) ?_
                refine AllT.early (o := ⟨_, _, _, _, _, _⟩) rfl (fun K hK => ?_) ?_
                · go_simp
                  refine hK.out _ _ (I3.held (HI.out.alloc _)) (fun hHeld' => ?_)
                  clear hK K hHeld
                  have hHeld := hHeld'
                  clear hHeld'
                  have HI2 := Lib.hid (HI.out.alloc (.cells #[.int .i64 sa, .int .i64 sc] 46))
                  have PC1 := Lib.hid (Pc.new HI.out #[.int .i64 sa, .int .i64 sc] 46)
                  clear HI
                  have HI := HI2
                  clear HI2
                  generalize World.alloc W2 (.cells #[.int .i64 sa, .int .i64 sc] 46) = W3 at *
                  generalize W2.heap.size = x1 at *
                  try simp only [Act.put, List.setIfInBounds_toArray, List.set_cons_zero, List.set_cons_succ]
                  refine AllT.go (rs := [21, 26]) (by kernel_rfl) (by simp) ?_
                  refine AllT.early (o := ⟨_, _, _, _, _, _⟩) rfl (fun K hK => ?_) ?_
                  · refine step_append_lies _ rfl (.tmp 80) (.tmp 84) 36 rfl 0 46 _ (.agg #[.int .i64 0, .int .i64 0]) 2 16 Tryz.underlying36 HIP.out.1 HIP.out.2.1 HIP.out.2.2.1 HIP.out.2.2.2 rfl (by decide) (vr 2) L.length (rowW L 4 2) rfl (HI.out.ow 2 (by decide)) ⟨x1, 0, none⟩ 1 1 [.int .i64 sa, .int .i64 sc] rfl rfl PC1.out.at_ (by intro u hu; simp at hu; rcases hu with rfl | rfl <;> rfl) (by decide) HX1.out.1 (HX1.out.2 16 (by decide)) (Nat.zero_le _) W3.heap.size rfl ?_
                    intro g1 k1 W4 hrow hgrow hat hlt
                    have HI2 := Lib.hid (HI.out.app 2 (by decide) hrow hgrow hat rfl)
                    clear HI PC1 hrow hgrow hat hlt
                    have HI := HI2
                    clear HI2
                    refine hK.out _ _ HI.out.held (fun hHeld' => ?_)
                    clear hK K hHeld
                    have hHeld := hHeld'
                    clear hHeld'
                    try simp only [Act.put, List.setIfInBounds_toArray, List.set_cons_zero, List.set_cons_succ]
                    refine AllT.go (rs := [26]) (by kernel_rfl) (by simp) ?_
                    refine AllT.early (o := ⟨_, _, _, _, _, _⟩) rfl (fun K hK => ?_) ?_
                    · go_simp
                      refine hK.out _ _ (I3.held (HI.out.alloc _)) (fun hHeld' => ?_)
                      clear hK K hHeld
                      have hHeld := hHeld'
                      clear hHeld'
                      have HI2 := Lib.hid (HI.out.alloc (.cells #[.bool false] 4))
                      have PC2 := Lib.hid (Pc.new HI.out #[.bool false] 4)
                      clear HI
                      have HI := HI2
                      clear HI2
                      generalize World.alloc W4 (.cells #[.bool false] 4) = W5 at *
                      generalize W4.heap.size = x2 at *
                      try simp only [Act.put, List.setIfInBounds_toArray, List.set_cons_zero, List.set_cons_succ]
                      refine AllT.go (rs := [27]) (by kernel_rfl) (by simp) ?_
                      refine AllT.early (o := ⟨_, _, _, _, _, _⟩) rfl (fun K hK => ?_) ?_
                      · refine step_append_lies _ rfl (.tmp 89) (.tmp 90) 37 rfl 0 4 _ (.bool false) 1 1 Tryz.underlying37 HIB.out.1 HIB.out.2.1 HIB.out.2.2.1 HIB.out.2.2.2 rfl (by decide) (vr 3) L.length (rowW L 4 3) rfl (HI.out.ow 3 (by decide)) ⟨x2, 0, none⟩ 1 1 [.bool false] rfl rfl PC2.out.at_ (by intro u hu; simp at hu; subst hu; rfl) (by decide) HX1.out.1 (HX1.out.2 1 (by decide)) (Nat.zero_le _) W5.heap.size rfl ?_
                        intro g2 k2 W6 hrow hgrow hat hlt
                        have HI2 := Lib.hid (HI.out.app 3 (by decide) hrow hgrow hat rfl)
                        clear HI PC2 hrow hgrow hat hlt
                        have HI := HI2
                        clear HI2
                        refine hK.out _ _ HI.out.held (fun hHeld' => ?_)
                        clear hK K hHeld
                        have hHeld := hHeld'
                        clear hHeld'
                        try simp only [Act.put, List.setIfInBounds_toArray, List.set_cons_zero, List.set_cons_succ]
                        refine AnyT.pick (i := 28) (oi := ⟨_, _, _, _, _, _⟩) (v := ?_) rfl (by kernel_rfl) (by kernel_rfl) (by kernel_rfl) (fun _ _ _ h => h) (Or.inl ⟨by rfl, ?y28_23⟩) ?_
                        case' y28_23 => ((intro w hSw; go_simp) <;> (with_reducible rfl))
                        try simp only [Act.put, List.setIfInBounds_toArray, List.set_cons_zero, List.set_cons_succ]
                        refine AnyT.pick (i := 29) (oi := ⟨_, _, _, _, _, _⟩) (v := ?_) rfl (by kernel_rfl) (by kernel_rfl) (by kernel_rfl) (fun _ _ _ h => h) (Or.inl ⟨by rfl, ?y29_24⟩) ?_
                        case' y29_24 => ((intro w hSw; go_simp) <;> (with_reducible rfl))
                        try simp only [Act.put, List.setIfInBounds_toArray, List.set_cons_zero, List.set_cons_succ]
                        refine AllT.go (rs := [30]) (by kernel_rfl) (by simp) ?_
                        refine AllT.late (o := ⟨_, _, _, _, _, _⟩) rfl (by decide) (fun K hK => ?_) AllT.nil
                        go_simp
                        refine hK.out _ _ trivial (fun _ => ?_)
                        clear hK K
                        try simp only [Act.put, List.setIfInBounds_toArray, List.set_cons_zero, List.set_cons_succ]
                        refine AnyT.pick (i := 31) (oi := ⟨_, _, _, _, _, _⟩) (v := ?_) rfl (by kernel_rfl) (by kernel_rfl) (by kernel_rfl) (fun _ _ _ h => h) (Or.inl ⟨by rfl, ?y31_25⟩) ?_
                        case' y31_25 => ((intro w hSw; go_simp) <;> (with_reducible rfl))
                        try simp only [Act.put, List.setIfInBounds_toArray, List.set_cons_zero, List.set_cons_succ]
                        refine AnyT.pick (i := 32) (oi := ⟨_, _, _, _, _, _⟩) (v := ?_) rfl (by kernel_rfl) (by kernel_rfl) (by kernel_rfl) (fun _ _ _ h => h) (Or.inl ⟨by rfl, ?y32_26⟩) ?_
                        case' y32_26 => ((intro w hSw; go_simp) <;> (with_reducible rfl))
                        try simp only [Act.put, List.setIfInBounds_toArray, List.set_cons_zero, List.set_cons_succ]
                        refine AllT.go (rs := [33]) (by kernel_rfl) (by simp) ?_
                        refine AllT.late (o := ⟨_, _, _, _, _, _⟩) rfl (by decide) (fun K hK => ?_) AllT.nil
                        go_simp
                        refine hK.out _ _ trivial (fun _ => ?_)
                        clear hK K
                        try simp only [Act.put, List.setIfInBounds_toArray, List.set_cons_zero, List.set_cons_succ]
                        refine AnyT.pick (i := 34) (oi := ⟨_, _, _, _, _, _⟩) (v := ?_) rfl (by kernel_rfl) (by kernel_rfl) (by kernel_rfl) (fun _ _ _ h => h) (Or.inl ⟨by rfl, ?y34_27⟩) ?_
                        case' y34_27 => ((intro w hSw; go_simp) <;> (with_reducible rfl))
                        try simp only [Act.put, List.setIfInBounds_toArray, List.set_cons_zero, List.set_cons_succ]
                        refine AnyT.pick (i := 35) (oi := ⟨_, _, _, _, _, _⟩) (v := ?_) rfl (by kernel_rfl) (by kernel_rfl) (by kernel_rfl) (fun _ _ _ h => h) (Or.inl ⟨by rfl, ?y35_28⟩) ?_
                        case' y35_28 => ((intro w hSw; go_simp) <;> (with_reducible rfl))
                        try simp only [Act.put, List.setIfInBounds_toArray, List.set_cons_zero, List.set_cons_succ]
                        refine AllT.go (rs := [36]) (by kernel_rfl) (by simp) ?_
                        refine AllT.late (o := ⟨_, _, _, _, _, _⟩) rfl (by decide) (fun K hK => ?_) AllT.nil
                        go_simp
                        refine hK.out _ _ trivial (fun _ => ?_)
                        clear hK K
                        try simp only [Act.put, List.setIfInBounds_toArray, List.set_cons_zero, List.set_cons_succ]
                        refine AnyT.done (by kernel_rfl) ?_ _
                        go_wp2_with fail
                        refine ⟨?_, ?meas1⟩
                        (repeat apply Exists.intro)
                        refine ⟨?rell1, rfl⟩
                        case rell1 => exact fin2 SC.out HI.out hbs HSD.out HL.out.1 HL.out.2 HSE.out hlt (by go_num)
                        case meas1 => simp [intOf]; omega
                      exact AllT.nil
                    exact AllT.nil
                  refine AllT.early (o := ⟨_, _, _, _, _, _⟩) rfl (fun K hK => ?_) ?_
                  · go_simp
                    refine hK.out _ _ (I3.held (HI.out.alloc _)) (fun hHeld' => ?_)
                    clear hK K hHeld
                    have hHeld := hHeld'
                    clear hHeld'
                    have HI2 := Lib.hid (HI.out.alloc (.cells #[.bool false] 4))
                    have PC2 := Lib.hid (Pc.new HI.out #[.bool false] 4)
                    have PX1 := Lib.hid (PC1.out.alloc (.cells #[.bool false] 4))
                    clear PC1
                    have PC1 := PX1
                    clear PX1
                    clear HI
                    have HI := HI2
                    clear HI2
                    generalize World.alloc W3 (.cells #[.bool false] 4) = W7 at *
                    generalize W3.heap.size = x2 at *
                    try simp only [Act.put, List.setIfInBounds_toArray, List.set_cons_zero, List.set_cons_succ]
                    refine AllT.go (rs := [21]) (by kernel_rfl) (by simp) ?_
                    refine AllT.early (o := ⟨_, _, _, _, _, _⟩) rfl (fun K hK => ?_) ?_
                    · refine step_append_lies _ rfl (.tmp 80) (.tmp 84) 36 rfl 0 46 _ (.agg #[.int .i64 0, .int .i64 0]) 2 16 Tryz.underlying36 HIP.out.1 HIP.out.2.1 HIP.out.2.2.1 HIP.out.2.2.2 rfl (by decide) (vr 2) L.length (rowW L 4 2) rfl (HI.out.ow 2 (by decide)) ⟨x1, 0, none⟩ 1 1 [.int .i64 sa, .int .i64 sc] rfl rfl PC1.out.at_ (by intro u hu; simp at hu; rcases hu with rfl | rfl <;> rfl) (by decide) HX1.out.1 (HX1.out.2 16 (by decide)) (Nat.zero_le _) W7.heap.size rfl ?_
                      intro g1 k1 W8 hrow hgrow hat hlt
                      have HI2 := Lib.hid (HI.out.app 2 (by decide) hrow hgrow hat rfl)
                      have PX2 := Lib.hid (PC2.out.app (n := L.length + 1) (c := k1) HI.out 2 (by decide) hgrow hat rfl)
                      clear PC2
                      have PC2 := PX2
                      clear PX2
                      clear HI PC1 hrow hgrow hat hlt
                      have HI := HI2
                      clear HI2
                      refine hK.out _ _ HI.out.held (fun hHeld' => ?_)
                      clear hK K hHeld
                      have hHeld := hHeld'
                      clear hHeld'
                      try simp only [Act.put, List.setIfInBounds_toArray, List.set_cons_zero, List.set_cons_succ]
                      refine AllT.go (rs := [27]) (by kernel_rfl) (by simp) ?_
                      refine AllT.early (o := ⟨_, _, _, _, _, _⟩) rfl (fun K hK => ?_) ?_
                      · refine step_append_lies _ rfl (.tmp 89) (.tmp 90) 37 rfl 0 4 _ (.bool false) 1 1 Tryz.underlying37 HIB.out.1 HIB.out.2.1 HIB.out.2.2.1 HIB.out.2.2.2 rfl (by decide) (vr 3) L.length (rowW L 4 3) rfl (HI.out.ow 3 (by decide)) ⟨x2, 0, none⟩ 1 1 [.bool false] rfl rfl PC2.out.at_ (by intro u hu; simp at hu; subst hu; rfl) (by decide) HX1.out.1 (HX1.out.2 1 (by decide)) (Nat.zero_le _) W8.heap.size rfl ?_
                        intro g2 k2 W9 hrow hgrow hat hlt
                        have HI2 := Lib.hid (HI.out.app 3 (by decide) hrow hgrow hat rfl)
                        clear HI PC2 hrow hgrow hat hlt
                        have HI := HI2
                        clear HI2
                        refine hK.out _ _ HI.out.held (fun hHeld' => ?_)
                        clear hK K hHeld
                        have hHeld := hHeld'
                        clear hHeld'
                        try simp only [Act.put, List.setIfInBounds_toArray, List.set_cons_zero, List.set_cons_succ]
                        refine AnyT.pick (i := 28) (oi := ⟨_, _, _, _, _, _⟩) (v := ?_) rfl (by kernel_rfl) (by kernel_rfl) (by kernel_rfl) (fun _ _ _ h => h) (Or.inl ⟨by rfl, ?y28_29⟩) ?_
                        case' y28_29 => ((intro w hSw; go_simp) <;> (with_reducible rfl))
                        try simp only [Act.put, List.setIfInBounds_toArray, List.set_cons_zero, List.set_cons_succ]
                        refine AnyT.pick (i := 29) (oi := ⟨_, _, _, _, _, _⟩) (v := ?_) rfl (by kernel_rfl) (by kernel_rfl) (by kernel_rfl) (fun _ _ _ h => h) (Or.inl ⟨by rfl, ?y29_30⟩) ?_
                        case' y29_30 => ((intro w hSw; go_simp) <;> (with_reducible rfl))
                        try simp only [Act.put, List.setIfInBounds_toArray, List.set_cons_zero, List.set_cons_succ]
                        refine AllT.go (rs := [30]) (by kernel_rfl) (by simp) ?_
                        refine AllT.late (o := ⟨_, _, _, _, _, _⟩) rfl (by decide) (fun K hK => ?_) AllT.nil
                        go_simp
                        refine hK.out _ _ trivial (fun _ => ?_)
                        clear hK K
                        try simp only [Act.put, List.setIfInBounds_toArray, List.set_cons_zero, List.set_cons_succ]
                        refine AnyT.pick (i := 31) (oi := ⟨_, _, _, _, _, _⟩) (v := ?_) rfl (by kernel_rfl) (by kernel_rfl) (by kernel_rfl) (fun _ _ _ h => h) (Or.inl ⟨by rfl, ?y31_31⟩) ?_
                        case' y31_31 => ((intro w hSw; go_simp) <;> (with_reducible rfl))
                        try simp only [Act.put, List.setIfInBounds_toArray, List.set_cons_zero, List.set_cons_succ]
                        refine AnyT.pick (i := 32) (oi := ⟨_, _, _, _, _, _⟩) (v := ?_) rfl (by kernel_rfl) (by kernel_rfl) (by kernel_rfl) (fun _ _ _ h => h) (Or.inl ⟨by rfl, ?y32_32⟩) ?_
                        case' y32_32 => ((intro w hSw; go_simp) <;> (with_reducible rfl))
                        try simp only [Act.put, List.setIfInBounds_toArray, List.set_cons_zero, List.set_cons_succ]
                        refine AllT.go (rs := [33]) (by kernel_rfl) (by simp) ?_
                        refine AllT.late (o := ⟨_, _, _, _, _, _⟩) rfl (by decide) (fun K hK => ?_) AllT.nil
                        go_simp
                        refine hK.out _ _ trivial (fun _ => ?_)
                        clear hK K
                        try simp only [Act.put, List.setIfInBounds_toArray, List.set_cons_zero, List.set_cons_succ]
                        refine AnyT.pick (i := 34) (oi := ⟨_, _, _, _, _, _⟩) (v := ?_) rfl (by kernel_rfl) (by kernel_rfl) (by kernel_rfl) (fun _ _ _ h => h) (Or.inl ⟨by rfl, ?y34_33⟩) ?_
                        case' y34_33 => ((intro w hSw; go_simp) <;> (with_reducible rfl))
                        try simp only [Act.put, List.setIfInBounds_toArray, List.set_cons_zero, List.set_cons_succ]
                        refine AnyT.pick (i := 35) (oi := ⟨_, _, _, _, _, _⟩) (v := ?_) rfl (by kernel_rfl) (by kernel_rfl) (by kernel_rfl) (fun _ _ _ h => h) (Or.inl ⟨by rfl, ?y35_34⟩) ?_
                        case' y35_34 => ((intro w hSw; go_simp) <;> (with_reducible rfl))
                        try simp only [Act.put, List.setIfInBounds_toArray, List.set_cons_zero, List.set_cons_succ]
                        refine AllT.go (rs := [36]) (by kernel_rfl) (by simp) ?_
                        refine AllT.late (o := ⟨_, _, _, _, _, _⟩) rfl (by decide) (fun K hK => ?_) AllT.nil
                        go_simp
                        refine hK.out _ _ trivial (fun _ => ?_)
                        clear hK K
                        try simp only [Act.put, List.setIfInBounds_toArray, List.set_cons_zero, List.set_cons_succ]
                        refine AnyT.done (by kernel_rfl) ?_ _
                        go_wp2_with fail
                        refine ⟨?_, ?meas2⟩
                        (repeat apply Exists.intro)
                        refine ⟨?rell2, rfl⟩
                        case rell2 => exact fin2 SC.out HI.out hbs HSD.out HL.out.1 HL.out.2 HSE.out hlt (by go_num)
                        case meas2 => simp [intOf]; omega
                      exact AllT.nil
                    exact AllT.nil
                  exact AllT.nil
                refine AllT.early (o := ⟨_, _, _, _, _, _⟩) rfl (fun K hK => ?_) ?_
                · go_simp
                  refine hK.out _ _ (I3.held (HI.out.alloc _)) (fun hHeld' => ?_)
                  clear hK K hHeld
                  have hHeld := hHeld'
                  clear hHeld'
                  have HI2 := Lib.hid (HI.out.alloc (.cells #[.bool false] 4))
                  have PC2 := Lib.hid (Pc.new HI.out #[.bool false] 4)
                  clear HI
                  have HI := HI2
                  clear HI2
                  generalize World.alloc W2 (.cells #[.bool false] 4) = W10 at *
                  generalize W2.heap.size = x2 at *
                  try simp only [Act.put, List.setIfInBounds_toArray, List.set_cons_zero, List.set_cons_succ]
                  refine AllT.go (rs := [20]) (by kernel_rfl) (by simp) ?_
                  refine AllT.early (o := ⟨_, _, _, _, _, _⟩) rfl (fun K hK => ?_) ?_
                  · go_simp
                    refine hK.out _ _ (I3.held (HI.out.alloc _)) (fun hHeld' => ?_)
                    clear hK K hHeld
                    have hHeld := hHeld'
                    clear hHeld'
                    have HI2 := Lib.hid (HI.out.alloc (.cells #[.int .i64 sa, .int .i64 sc] 46))
                    have PC1 := Lib.hid (Pc.new HI.out #[.int .i64 sa, .int .i64 sc] 46)
                    have PX2 := Lib.hid (PC2.out.alloc (.cells #[.int .i64 sa, .int .i64 sc] 46))
                    clear PC2
                    have PC2 := PX2
                    clear PX2
                    clear HI
                    have HI := HI2
                    clear HI2
                    generalize World.alloc W10 (.cells #[.int .i64 sa, .int .i64 sc] 46) = W11 at *
                    generalize W10.heap.size = x1 at *
                    try simp only [Act.put, List.setIfInBounds_toArray, List.set_cons_zero, List.set_cons_succ]
                    refine AllT.go (rs := [21]) (by kernel_rfl) (by simp) ?_
                    refine AllT.early (o := ⟨_, _, _, _, _, _⟩) rfl (fun K hK => ?_) ?_
                    · refine step_append_lies _ rfl (.tmp 80) (.tmp 84) 36 rfl 0 46 _ (.agg #[.int .i64 0, .int .i64 0]) 2 16 Tryz.underlying36 HIP.out.1 HIP.out.2.1 HIP.out.2.2.1 HIP.out.2.2.2 rfl (by decide) (vr 2) L.length (rowW L 4 2) rfl (HI.out.ow 2 (by decide)) ⟨x1, 0, none⟩ 1 1 [.int .i64 sa, .int .i64 sc] rfl rfl PC1.out.at_ (by intro u hu; simp at hu; rcases hu with rfl | rfl <;> rfl) (by decide) HX1.out.1 (HX1.out.2 16 (by decide)) (Nat.zero_le _) W11.heap.size rfl ?_
                      intro g1 k1 W12 hrow hgrow hat hlt
                      have HI2 := Lib.hid (HI.out.app 2 (by decide) hrow hgrow hat rfl)
                      have PX2 := Lib.hid (PC2.out.app (n := L.length + 1) (c := k1) HI.out 2 (by decide) hgrow hat rfl)
                      clear PC2
                      have PC2 := PX2
                      clear PX2
                      clear HI PC1 hrow hgrow hat hlt
                      have HI := HI2
                      clear HI2
                      refine hK.out _ _ HI.out.held (fun hHeld' => ?_)
                      clear hK K hHeld
                      have hHeld := hHeld'
                      clear hHeld'
                      try simp only [Act.put, List.setIfInBounds_toArray, List.set_cons_zero, List.set_cons_succ]
                      refine AllT.go (rs := [27]) (by kernel_rfl) (by simp) ?_
                      refine AllT.early (o := ⟨_, _, _, _, _, _⟩) rfl (fun K hK => ?_) ?_
                      · refine step_append_lies _ rfl (.tmp 89) (.tmp 90) 37 rfl 0 4 _ (.bool false) 1 1 Tryz.underlying37 HIB.out.1 HIB.out.2.1 HIB.out.2.2.1 HIB.out.2.2.2 rfl (by decide) (vr 3) L.length (rowW L 4 3) rfl (HI.out.ow 3 (by decide)) ⟨x2, 0, none⟩ 1 1 [.bool false] rfl rfl PC2.out.at_ (by intro u hu; simp at hu; subst hu; rfl) (by decide) HX1.out.1 (HX1.out.2 1 (by decide)) (Nat.zero_le _) W12.heap.size rfl ?_
                        intro g2 k2 W13 hrow hgrow hat hlt
                        have HI2 := Lib.hid (HI.out.app 3 (by decide) hrow hgrow hat rfl)
                        clear HI PC2 hrow hgrow hat hlt
                        have HI := HI2
                        clear HI2
                        refine hK.out _ _ HI.out.held (fun hHeld' => ?_)
                        clear hK K hHeld
                        have hHeld := hHeld'
                        clear hHeld'
                        try simp only [Act.put, List.setIfInBounds_toArray, List.set_cons_zero, List.set_cons_succ]
                        refine AnyT.pick (i := 28) (oi := ⟨_, _, _, _, _, _⟩) (v := ?_) rfl (by kernel_rfl) (by kernel_rfl) (by kernel_rfl) (fun _ _ _ h => h) (Or.inl ⟨by rfl, ?y28_35⟩) ?_
                        case' y28_35 => ((intro w hSw; go_simp) <;> (with_reducible rfl))
                        try simp only [Act.put, List.setIfInBounds_toArray, List.set_cons_zero, List.set_cons_succ]
                        refine AnyT.pick (i := 29) (oi := ⟨_, _, _, _, _, _⟩) (v := ?_) rfl (by kernel_rfl) (by kernel_rfl) (by kernel_rfl) (fun _ _ _ h => h) (Or.inl ⟨by rfl, ?y29_36⟩) ?_
                        case' y29_36 => ((intro w hSw; go_simp) <;> (with_reducible rfl))
                        try simp only [Act.put, List.setIfInBounds_toArray, List.set_cons_zero, List.set_cons_succ]
                        refine AllT.go (rs := [30]) (by kernel_rfl) (by simp) ?_
                        refine AllT.late (o := ⟨_, _, _, _, _, _⟩) rfl (by decide) (fun K hK => ?_) AllT.nil
                        go_simp
                        refine hK.out _ _ trivial (fun _ => ?_)
                        clear hK K
                        try simp only [Act.put, List.setIfInBounds_toArray, List.set_cons_zero, List.set_cons_succ]
                        refine AnyT.pick (i := 31) (oi := ⟨_, _, _, _, _, _⟩) (v := ?_) rfl (by kernel_rfl) (by kernel_rfl) (by kernel_rfl) (fun _ _ _ h => h) (Or.inl ⟨by rfl, ?y31_37⟩) ?_
                        case' y31_37 => ((intro w hSw; go_simp) <;> (with_reducible rfl))
                        try simp only [Act.put, List.setIfInBounds_toArray, List.set_cons_zero, List.set_cons_succ]
                        refine AnyT.pick (i := 32) (oi := ⟨_, _, _, _, _, _⟩) (v := ?_) rfl (by kernel_rfl) (by kernel_rfl) (by kernel_rfl) (fun _ _ _ h => h) (Or.inl ⟨by rfl, ?y32_38⟩) ?_
                        case' y32_38 => ((intro w hSw; go_simp) <;> (with_reducible rfl))
                        try simp only [Act.put, List.setIfInBounds_toArray, List.set_cons_zero, List.set_cons_succ]
                        refine AllT.go (rs := [33]) (by kernel_rfl) (by simp) ?_
                        refine AllT.late (o := ⟨_, _, _, _, _, _⟩) rfl (by decide) (fun K hK => ?_) AllT.nil
                        go_simp
                        refine hK.out _ _ trivial (fun _ => ?_)
                        clear hK K
                        try simp only [Act.put, List.setIfInBounds_toArray, List.set_cons_zero, List.set_cons_succ]
                        refine AnyT.pick (i := 34) (oi := ⟨_, _, _, _, _, _⟩) (v := ?_) rfl (by kernel_rfl) (by kernel_rfl) (by kernel_rfl) (fun _ _ _ h => h) (Or.inl ⟨by rfl, ?y34_39⟩) ?_
                        case' y34_39 => ((intro w hSw; go_simp) <;> (with_reducible rfl))
                        try simp only [Act.put, List.setIfInBounds_toArray, List.set_cons_zero, List.set_cons_succ]
                        refine AnyT.pick (i := 35) (oi := ⟨_, _, _, _, _, _⟩) (v := ?_) rfl (by kernel_rfl) (by kernel_rfl) (by kernel_rfl) (fun _ _ _ h => h) (Or.inl ⟨by rfl, ?y35_40⟩) ?_
                        case' y35_40 => ((intro w hSw; go_simp) <;> (with_reducible rfl))
                        try simp only [Act.put, List.setIfInBounds_toArray, List.set_cons_zero, List.set_cons_succ]
                        refine AllT.go (rs := [36]) (by kernel_rfl) (by simp) ?_
                        refine AllT.late (o := ⟨_, _, _, _, _, _⟩) rfl (by decide) (fun K hK => ?_) AllT.nil
                        go_simp
                        refine hK.out _ _ trivial (fun _ => ?_)
                        clear hK K
                        try simp only [Act.put, List.setIfInBounds_toArray, List.set_cons_zero, List.set_cons_succ]
                        refine AnyT.done (by kernel_rfl) ?_ _
                        go_wp2_with fail
                        refine ⟨?_, ?meas3⟩
                        (repeat apply Exists.intro)
                        refine ⟨?rell3, rfl⟩
                        case rell3 => exact fin2 SC.out HI.out hbs HSD.out HL.out.1 HL.out.2 HSE.out hlt (by go_num)
                        case meas3 => simp [intOf]; omega
                      exact AllT.nil
                    exact AllT.nil
                  exact AllT.nil
                exact AllT.nil
              refine AllT.early (o := ⟨_, _, _, _, _, _⟩) rfl (fun K hK => ?_) ?_
              · go_simp
                refine hK.out _ _ (I3.held (HI.out.alloc _)) (fun hHeld' => ?_)
                clear hK K hHeld
                have hHeld := hHeld'
                clear hHeld'
                have HI2 := Lib.hid (HI.out.alloc (.cells #[.int .i64 sa, .int .i64 sc] 46))
                have PC1 := Lib.hid (Pc.new HI.out #[.int .i64 sa, .int .i64 sc] 46)
                have PX0 := Lib.hid (PC0.out.alloc (.cells #[.int .i64 sa, .int .i64 sc] 46))
                clear PC0
                have PC0 := PX0
                clear PX0
                clear HI
                have HI := HI2
                clear HI2
                generalize World.alloc W1 (.cells #[.int .i64 sa, .int .i64 sc] 46) = W14 at *
                generalize W1.heap.size = x1 at *
                try simp only [Act.put, List.setIfInBounds_toArray, List.set_cons_zero, List.set_cons_succ]
                refine AllT.go (rs := [12, 26]) (by kernel_rfl) (by simp) ?_
                refine AllT.early (o := ⟨_, _, _, _, _, _⟩) rfl (fun K hK => ?_) ?_
                · refine step_append_lies _ rfl (.tmp 70) (.tmp 75) 34 rfl 0 48 _ (.agg #[.int .i64 0, .int .i64 0, .bool false]) 3 24 Tryz.underlying34 HIM.out.1 HIM.out.2.1 HIM.out.2.2.1 HIM.out.2.2.2 rfl (by decide) (vr 0) L.length (rowW L 4 0) rfl (HI.out.ow 0 (by decide)) ⟨x0, 0, none⟩ 1 1 [.int .i64 sa, .int .i64 sc, .bool false] rfl rfl PC0.out.at_ (by intro u hu; simp at hu; rcases hu with rfl | rfl | rfl <;> rfl) (by decide) HX1.out.1 (HX1.out.2 24 (by decide)) (Nat.zero_le _) W14.heap.size rfl ?_
                  intro g0 k0 W15 hrow hgrow hat hlt
                  have HI2 := Lib.hid (HI.out.app 0 (by decide) hrow hgrow hat rfl)
                  have PX1 := Lib.hid (PC1.out.app (n := L.length + 1) (c := k0) HI.out 0 (by decide) hgrow hat rfl)
                  clear PC1
                  have PC1 := PX1
                  clear PX1
                  clear HI PC0 hrow hgrow hat hlt
                  have HI := HI2
                  clear HI2
                  refine hK.out _ _ HI.out.held (fun hHeld' => ?_)
                  clear hK K hHeld
                  have hHeld := hHeld'
                  clear hHeld'
                  try simp only [Act.put, List.setIfInBounds_toArray, List.set_cons_zero, List.set_cons_succ]
                  refine AllT.go (rs := [21, 26]) (by kernel_rfl) (by simp) ?_
                  refine AllT.early (o := ⟨_, _, _, _, _, _⟩) rfl (fun K hK => ?_) ?_
                  · refine step_append_lies _ rfl (.tmp 80) (.tmp 84) 36 rfl 0 46 _ (.agg #[.int .i64 0, .int .i64 0]) 2 16 Tryz.underlying36 HIP.out.1 HIP.out.2.1 HIP.out.2.2.1 HIP.out.2.2.2 rfl (by decide) (vr 2) L.length (rowW L 4 2) rfl (HI.out.ow 2 (by decide)) ⟨x1, 0, none⟩ 1 1 [.int .i64 sa, .int .i64 sc] rfl rfl PC1.out.at_ (by intro u hu; simp at hu; rcases hu with rfl | rfl <;> rfl) (by decide) HX1.out.1 (HX1.out.2 16 (by decide)) (Nat.zero_le _) W15.heap.size rfl ?_
                    intro g1 k1 W16 hrow hgrow hat hlt
                    have HI2 := Lib.hid (HI.out.app 2 (by decide) hrow hgrow hat rfl)
                    clear HI PC1 hrow hgrow hat hlt
                    have HI := HI2
                    clear HI2
                    refine hK.out _ _ HI.out.held (fun hHeld' => ?_)
                    clear hK K hHeld
                    have hHeld := hHeld'
                    clear hHeld'
                    try simp only [Act.put, List.setIfInBounds_toArray, List.set_cons_zero, List.set_cons_succ]
                    refine AllT.go (rs := [26]) (by kernel_rfl) (by simp) ?_
                    refine AllT.early (o := ⟨_, _, _, _, _, _⟩) rfl (fun K hK => ?_) ?_
                    · go_simp
                      refine hK.out _ _ (I3.held (HI.out.alloc _)) (fun hHeld' => ?_)
                      clear hK K hHeld
                      have hHeld := hHeld'
                      clear hHeld'
                      have HI2 := Lib.hid (HI.out.alloc (.cells #[.bool false] 4))
                      have PC2 := Lib.hid (Pc.new HI.out #[.bool false] 4)
                      clear HI
                      have HI := HI2
                      clear HI2
                      generalize World.alloc W16 (.cells #[.bool false] 4) = W17 at *
                      generalize W16.heap.size = x2 at *
                      try simp only [Act.put, List.setIfInBounds_toArray, List.set_cons_zero, List.set_cons_succ]
                      refine AllT.go (rs := [27]) (by kernel_rfl) (by simp) ?_
                      refine AllT.early (o := ⟨_, _, _, _, _, _⟩) rfl (fun K hK => ?_) ?_
                      · refine step_append_lies _ rfl (.tmp 89) (.tmp 90) 37 rfl 0 4 _ (.bool false) 1 1 Tryz.underlying37 HIB.out.1 HIB.out.2.1 HIB.out.2.2.1 HIB.out.2.2.2 rfl (by decide) (vr 3) L.length (rowW L 4 3) rfl (HI.out.ow 3 (by decide)) ⟨x2, 0, none⟩ 1 1 [.bool false] rfl rfl PC2.out.at_ (by intro u hu; simp at hu; subst hu; rfl) (by decide) HX1.out.1 (HX1.out.2 1 (by decide)) (Nat.zero_le _) W17.heap.size rfl ?_
                        intro g2 k2 W18 hrow hgrow hat hlt
                        have HI2 := Lib.hid (HI.out.app 3 (by decide) hrow hgrow hat rfl)
                        clear HI PC2 hrow hgrow hat hlt
                        have HI := HI2
                        clear HI2
                        refine hK.out _ _ HI.out.held (fun hHeld' => ?_)
                        clear hK K hHeld
                        have hHeld := hHeld'
                        clear hHeld'
                        try simp only [Act.put, List.setIfInBounds_toArray, List.set_cons_zero, List.set_cons_succ]
                        refine AnyT.pick (i := 28) (oi := ⟨_, _, _, _, _, _⟩) (v := ?_) rfl (by kernel_rfl) (by kernel_rfl) (by kernel_rfl) (fun _ _ _ h => h) (Or.inl ⟨by rfl, ?y28_41⟩) ?_
                        case' y28_41 => ((intro w hSw; go_simp) <;> (with_reducible rfl))
                        try simp only [Act.put, List.setIfInBounds_toArray, List.set_cons_zero, List.set_cons_succ]
                        refine AnyT.pick (i := 29) (oi := ⟨_, _, _, _, _, _⟩) (v := ?_) rfl (by kernel_rfl) (by kernel_rfl) (by kernel_rfl) (fun _ _ _ h => h) (Or.inl ⟨by rfl, ?y29_42⟩) ?_
                        case' y29_42 => ((intro w hSw; go_simp) <;> (with_reducible rfl))
                        try simp only [Act.put, List.setIfInBounds_toArray, List.set_cons_zero, List.set_cons_succ]
                        refine AllT.go (rs := [30]) (by kernel_rfl) (by simp) ?_
                        refine AllT.late (o := ⟨_, _, _, _, _, _⟩) rfl (by decide) (fun K hK => ?_) AllT.nil
                        go_simp
                        refine hK.out _ _ trivial (fun _ => ?_)
                        clear hK K
                        try simp only [Act.put, List.setIfInBounds_toArray, List.set_cons_zero, List.set_cons_succ]
                        refine AnyT.pick (i := 31) (oi := ⟨_, _, _, _, _, _⟩) (v := ?_) rfl (by kernel_rfl) (by kernel_rfl) (by kernel_rfl) (fun _ _ _ h => h) (Or.inl ⟨by rfl, ?y31_43⟩) ?_
                        case' y31_43 => ((intro w hSw; go_simp) <;> (with_reducible rfl))
                        try simp only [Act.put, List.setIfInBounds_toArray, List.set_cons_zero, List.set_cons_succ]
                        refine AnyT.pick (i := 32) (oi := ⟨_, _, _, _, _, _⟩) (v := ?_) rfl (by kernel_rfl) (by kernel_rfl) (by kernel_rfl) (fun _ _ _ h => h) (Or.inl ⟨by rfl, ?y32_44⟩) ?_
                        case' y32_44 => ((intro w hSw; go_simp) <;> (with_reducible rfl))
                        try simp only [Act.put, List.setIfInBounds_toArray, List.set_cons_zero, List.set_cons_succ]
                        refine AllT.go (rs := [33]) (by kernel_rfl) (by simp) ?_
                        refine AllT.late (o := ⟨_, _, _, _, _, _⟩) rfl (by decide) (fun K hK => ?_) AllT.nil
                        go_simp
                        refine hK.out _ _ trivial (fun _ => ?_)
                        clear hK K
                        try simp only [Act.put, List.setIfInBounds_toArray, List.set_cons_zero, List.set_cons_succ]
                        refine AnyT.pick (i := 34) (oi := ⟨_, _, _, _, _, _⟩) (v := ?_) rfl (by kernel_rfl) (by kernel_rfl) (by kernel_rfl) (fun _ _ _ h => h) (Or.inl ⟨by rfl, ?y34_45⟩) ?_
                        case' y34_45 => ((intro w hSw; go_simp) <;> (with_reducible rfl))
                        try simp only [Act.put, List.setIfInBounds_toArray, List.set_cons_zero, List.set_cons_succ]
                        refine AnyT.pick (i := 35) (oi := ⟨_, _, _, _, _, _⟩) (v := ?_) rfl (by kernel_rfl) (by kernel_rfl) (by kernel_rfl) (fun _ _ _ h => h) (Or.inl ⟨by rfl, ?y35_46⟩) ?_
                        case' y35_46 => ((intro w hSw; go_simp) <;> (with_reducible rfl))
                        try simp only [Act.put, List.setIfInBounds_toArray, List.set_cons_zero, List.set_cons_succ]
                        refine AllT.go (rs := [36]) (by kernel_rfl) (by simp) ?_
                        refine AllT.late (o := ⟨_, _, _, _, _, _⟩) rfl (by decide) (fun K hK => ?_) AllT.nil
                        go_simp
                        refine hK.out _ _ trivial (fun _ => ?_)
                        clear hK K
                        try simp only [Act.put, List.setIfInBounds_toArray, List.set_cons_zero, List.set_cons_succ]
                        refine AnyT.done (by kernel_rfl) ?_ _
                        go_wp2_with fail
                        refine ⟨?_, ?meas4⟩
                        (repeat apply Exists.intro)
                        refine ⟨?rell4, rfl⟩
                        case rell4 => exact fin2 SC.out HI.out hbs HSD.out HL.out.1 HL.out.2 HSE.out hlt (by go_num)
                        case meas4 => simp [intOf]; omega
                      exact AllT.nil
                    exact AllT.nil
                  refine AllT.early (o := ⟨_, _, _, _, _, _⟩) rfl (fun K hK => ?_) ?_
                  · go_simp
                    refine hK.out _ _ (I3.held (HI.out.alloc _)) (fun hHeld' => ?_)
                    clear hK K hHeld
                    have hHeld := hHeld'
                    clear hHeld'
                    have HI2 := Lib.hid (HI.out.alloc (.cells #[.bool false] 4))
                    have PC2 := Lib.hid (Pc.new HI.out #[.bool false] 4)
                    have PX1 := Lib.hid (PC1.out.alloc (.cells #[.bool false] 4))
                    clear PC1
                    have PC1 := PX1
                    clear PX1
                    clear HI
                    have HI := HI2
                    clear HI2
                    generalize World.alloc W15 (.cells #[.bool false] 4) = W19 at *
                    generalize W15.heap.size = x2 at *
                    try simp only [Act.put, List.setIfInBounds_toArray, List.set_cons_zero, List.set_cons_succ]
                    refine AllT.go (rs := [21]) (by kernel_rfl) (by simp) ?_
                    refine AllT.early (o := ⟨_, _, _, _, _, _⟩) rfl (fun K hK => ?_) ?_
                    · refine step_append_lies _ rfl (.tmp 80) (.tmp 84) 36 rfl 0 46 _ (.agg #[.int .i64 0, .int .i64 0]) 2 16 Tryz.underlying36 HIP.out.1 HIP.out.2.1 HIP.out.2.2.1 HIP.out.2.2.2 rfl (by decide) (vr 2) L.length (rowW L 4 2) rfl (HI.out.ow 2 (by decide)) ⟨x1, 0, none⟩ 1 1 [.int .i64 sa, .int .i64 sc] rfl rfl PC1.out.at_ (by intro u hu; simp at hu; rcases hu with rfl | rfl <;> rfl) (by decide) HX1.out.1 (HX1.out.2 16 (by decide)) (Nat.zero_le _) W19.heap.size rfl ?_
                      intro g1 k1 W20 hrow hgrow hat hlt
                      have HI2 := Lib.hid (HI.out.app 2 (by decide) hrow hgrow hat rfl)
                      have PX2 := Lib.hid (PC2.out.app (n := L.length + 1) (c := k1) HI.out 2 (by decide) hgrow hat rfl)
                      clear PC2
                      have PC2 := PX2
                      clear PX2
                      clear HI PC1 hrow hgrow hat hlt
                      have HI := HI2
                      clear HI2
                      refine hK.out _ _ HI.out.held (fun hHeld' => ?_)
                      clear hK K hHeld
                      have hHeld := hHeld'
                      clear hHeld'
                      try simp only [Act.put, List.setIfInBounds_toArray, List.set_cons_zero, List.set_cons_succ]
                      refine AllT.go (rs := [27]) (by kernel_rfl) (by simp) ?_
                      refine AllT.early (o := ⟨_, _, _, _, _, _⟩) rfl (fun K hK => ?_) ?_
                      · refine step_append_lies _ rfl (.tmp 89) (.tmp 90) 37 rfl 0 4 _ (.bool false) 1 1 Tryz.underlying37 HIB.out.1 HIB.out.2.1 HIB.out.2.2.1 HIB.out.2.2.2 rfl (by decide) (vr 3) L.length (rowW L 4 3) rfl (HI.out.ow 3 (by decide)) ⟨x2, 0, none⟩ 1 1 [.bool false] rfl rfl PC2.out.at_ (by intro u hu; simp at hu; subst hu; rfl) (by decide) HX1.out.1 (HX1.out.2 1 (by decide)) (Nat.zero_le _) W20.heap.size rfl ?_
                        intro g2 k2 W21 hrow hgrow hat hlt
                        have HI2 := Lib.hid (HI.out.app 3 (by decide) hrow hgrow hat rfl)
                        clear HI PC2 hrow hgrow hat hlt
                        have HI := HI2
                        clear HI2
                        refine hK.out _ _ HI.out.held (fun hHeld' => ?_)
                        clear hK K hHeld
                        have hHeld := hHeld'
                        clear hHeld'
                        try simp only [Act.put, List.setIfInBounds_toArray, List.set_cons_zero, List.set_cons_succ]
                        refine AnyT.pick (i := 28) (oi := ⟨_, _, _, _, _, _⟩) (v := ?_) rfl (by kernel_rfl) (by kernel_rfl) (by kernel_rfl) (fun _ _ _ h => h) (Or.inl ⟨by rfl, ?y28_47⟩) ?_
                        case' y28_47 => ((intro w hSw; go_simp) <;> (with_reducible rfl))
                        try simp only [Act.put, List.setIfInBounds_toArray, List.set_cons_zero, List.set_cons_succ]
                        refine AnyT.pick (i := 29) (oi := ⟨_, _, _, _, _, _⟩) (v := ?_) rfl (by kernel_rfl) (by kernel_rfl) (by kernel_rfl) (fun _ _ _ h => h) (Or.inl ⟨by rfl, ?y29_48⟩) ?_
                        case' y29_48 => ((intro w hSw; go_simp) <;> (with_reducible rfl))
                        try simp only [Act.put, List.setIfInBounds_toArray, List.set_cons_zero, List.set_cons_succ]
                        refine AllT.go (rs := [30]) (by kernel_rfl) (by simp) ?_
                        refine AllT.late (o := ⟨_, _, _, _, _, _⟩) rfl (by decide) (fun K hK => ?_) AllT.nil
                        go_simp
                        refine hK.out _ _ trivial (fun _ => ?_)
                        clear hK K
                        try simp only [Act.put, List.setIfInBounds_toArray, List.set_cons_zero, List.set_cons_succ]
                        refine AnyT.pick (i := 31) (oi := ⟨_, _, _, _, _, _⟩) (v := ?_) rfl (by kernel_rfl) (by kernel_rfl) (by kernel_rfl) (fun _ _ _ h => h) (Or.inl ⟨by rfl, ?y31_49⟩) ?_
                        case' y31_49 => ((intro w hSw; go_simp) <;> (with_reducible rfl))
                        try simp only [Act.put, List.setIfInBounds_toArray, List.set_cons_zero, List.set_cons_succ]
                        refine AnyT.pick (i := 32) (oi := ⟨_, _, _, _, _, _⟩) (v := ?_) rfl (by kernel_rfl) (by kernel_rfl) (by kernel_rfl) (fun _ _ _ h => h) (Or.inl ⟨by rfl, ?y32_50⟩) ?_
                        case' y32_50 => ((intro w hSw; go_simp) <;> (with_reducible rfl))
                        try simp only [Act.put, List.setIfInBounds_toArray, List.set_cons_zero, List.set_cons_succ]
                        refine AllT.go (rs := [33]) (by kernel_rfl) (by simp) ?_
                        refine AllT.late (o := ⟨_, _, _, _, _, _⟩) rfl (by decide) (fun K hK => ?_) AllT.nil
                        go_simp
                        refine hK.out _ _ trivial (fun _ => ?_)
                        clear hK K
                        try simp only [Act.put, List.setIfInBounds_toArray, List.set_cons_zero, List.set_cons_succ]
                        refine AnyT.pick (i := 34) (oi := ⟨_, _, _, _, _, _⟩) (v := ?_) rfl (by kernel_rfl) (by kernel_rfl) (by kernel_rfl) (fun _ _ _ h => h) (Or.inl ⟨by rfl, ?y34_51⟩) ?_
                        case' y34_51 => ((intro w hSw; go_simp) <;> (with_reducible rfl))
                        try simp only [Act.put, List.setIfInBounds_toArray, List.set_cons_zero, List.set_cons_succ]
                        refine AnyT.pick (i := 35) (oi := ⟨_, _, _, _, _, _⟩) (v := ?_) rfl (by kernel_rfl) (by kernel_rfl) (by kernel_rfl) (fun _ _ _ h => h) (Or.inl ⟨by rfl, ?y35_52⟩) ?_
                        case' y35_52 => ((intro w hSw; go_simp) <;> (with_reducible rfl))
                        try simp only [Act.put, List.setIfInBounds_toArray, List.set_cons_zero, List.set_cons_succ]
                        refine AllT.go (rs := [36]) (by kernel_rfl) (by simp) ?_
                        refine AllT.late (o := ⟨_, _, _, _, _, _⟩) rfl (by decide) (fun K hK => ?_) AllT.nil
                        go_simp
                        refine hK.out _ _ trivial (fun _ => ?_)
                        clear hK K
                        try simp only [Act.put, List.setIfInBounds_toArray, List.set_cons_zero, List.set_cons_succ]
                        refine AnyT.done (by kernel_rfl) ?_ _
                        go_wp2_with fail
                        refine ⟨?_, ?meas5⟩
                        (repeat apply Exists.intro)
                        refine ⟨?rell5, rfl⟩
                        case rell5 => exact fin2 SC.out HI.out hbs HSD.out HL.out.1 HL.out.2 HSE.out hlt (by go_num)
                        case meas5 => simp [intOf]; omega
                      exact AllT.nil
                    exact AllT.nil
                  exact AllT.nil
                refine AllT.early (o := ⟨_, _, _, _, _, _⟩) rfl (fun K hK => ?_) ?_
                · go_simp
                  refine hK.out _ _ (I3.held (HI.out.alloc _)) (fun hHeld' => ?_)
                  clear hK K hHeld
                  have hHeld := hHeld'
                  clear hHeld'
                  have HI2 := Lib.hid (HI.out.alloc (.cells #[.bool false] 4))
                  have PC2 := Lib.hid (Pc.new HI.out #[.bool false] 4)
                  have PX0 := Lib.hid (PC0.out.alloc (.cells #[.bool false] 4))
                  clear PC0
                  have PC0 := PX0
                  clear PX0
                  have PX1 := Lib.hid (PC1.out.alloc (.cells #[.bool false] 4))
                  clear PC1
                  have PC1 := PX1
                  clear PX1
                  clear HI
                  have HI := HI2
                  clear HI2
                  generalize World.alloc W14 (.cells #[.bool false] 4) = W22 at *
                  generalize W14.heap.size = x2 at *
                  try simp only [Act.put, List.setIfInBounds_toArray, List.set_cons_zero, List.set_cons_succ]
                  refine AllT.go (rs := [12]) (by kernel_rfl) (by simp) ?_
                  refine AllT.early (o := ⟨_, _, _, _, _, _⟩) rfl (fun K hK => ?_) ?_
                  · refine step_append_lies _ rfl (.tmp 70) (.tmp 75) 34 rfl 0 48 _ (.agg #[.int .i64 0, .int .i64 0, .bool false]) 3 24 Tryz.underlying34 HIM.out.1 HIM.out.2.1 HIM.out.2.2.1 HIM.out.2.2.2 rfl (by decide) (vr 0) L.length (rowW L 4 0) rfl (HI.out.ow 0 (by decide)) ⟨x0, 0, none⟩ 1 1 [.int .i64 sa, .int .i64 sc, .bool false] rfl rfl PC0.out.at_ (by intro u hu; simp at hu; rcases hu with rfl | rfl | rfl <;> rfl) (by decide) HX1.out.1 (HX1.out.2 24 (by decide)) (Nat.zero_le _) W22.heap.size rfl ?_
                    intro g0 k0 W23 hrow hgrow hat hlt
                    have HI2 := Lib.hid (HI.out.app 0 (by decide) hrow hgrow hat rfl)
                    have PX1 := Lib.hid (PC1.out.app (n := L.length + 1) (c := k0) HI.out 0 (by decide) hgrow hat rfl)
                    clear PC1
                    have PC1 := PX1
                    clear PX1
                    have PX2 := Lib.hid (PC2.out.app (n := L.length + 1) (c := k0) HI.out 0 (by decide) hgrow hat rfl)
                    clear PC2
                    have PC2 := PX2
                    clear PX2
                    clear HI PC0 hrow hgrow hat hlt
                    have HI := HI2
                    clear HI2
                    refine hK.out _ _ HI.out.held (fun hHeld' => ?_)
                    clear hK K hHeld
                    have hHeld := hHeld'
                    clear hHeld'
                    try simp only [Act.put, List.setIfInBounds_toArray, List.set_cons_zero, List.set_cons_succ]
                    refine AllT.go (rs := [21]) (by kernel_rfl) (by simp) ?_
                    refine AllT.early (o := ⟨_, _, _, _, _, _⟩) rfl (fun K hK => ?_) ?_
                    · refine step_append_lies _ rfl (.tmp 80) (.tmp 84) 36 rfl 0 46 _ (.agg #[.int .i64 0, .int .i64 0]) 2 16 Tryz.underlying36 HIP.out.1 HIP.out.2.1 HIP.out.2.2.1 HIP.out.2.2.2 rfl (by decide) (vr 2) L.length (rowW L 4 2) rfl (HI.out.ow 2 (by decide)) ⟨x1, 0, none⟩ 1 1 [.int .i64 sa, .int .i64 sc] rfl rfl PC1.out.at_ (by intro u hu; simp at hu; rcases hu with rfl | rfl <;> rfl) (by decide) HX1.out.1 (HX1.out.2 16 (by decide)) (Nat.zero_le _) W23.heap.size rfl ?_
                      intro g1 k1 W24 hrow hgrow hat hlt
                      have HI2 := Lib.hid (HI.out.app 2 (by decide) hrow hgrow hat rfl)
                      have PX2 := Lib.hid (PC2.out.app (n := L.length + 1) (c := k1) HI.out 2 (by decide) hgrow hat rfl)
                      clear PC2
                      have PC2 := PX2
                      clear PX2
                      clear HI PC1 hrow hgrow hat hlt
                      have HI := HI2
                      clear HI2
                      refine hK.out _ _ HI.out.held (fun hHeld' => ?_)
                      clear hK K hHeld
                      have hHeld := hHeld'
                      clear hHeld'
                      try simp only [Act.put, List.setIfInBounds_toArray, List.set_cons_zero, List.set_cons_succ]
                      refine AllT.go (rs := [27]) (by kernel_rfl) (by simp) ?_
                      refine AllT.early (o := ⟨_, _, _, _, _, _⟩) rfl (fun K hK => ?_) ?_
                      · refine step_append_lies _ rfl (.tmp 89) (.tmp 90) 37 rfl 0 4 _ (.bool false) 1 1 Tryz.underlying37 HIB.out.1 HIB.out.2.1 HIB.out.2.2.1 HIB.out.2.2.2 rfl (by decide) (vr 3) L.length (rowW L 4 3) rfl (HI.out.ow 3 (by decide)) ⟨x2, 0, none⟩ 1 1 [.bool false] rfl rfl PC2.out.at_ (by intro u hu; simp at hu; subst hu; rfl) (by decide) HX1.out.1 (HX1.out.2 1 (by decide)) (Nat.zero_le _) W24.heap.size rfl ?_
                        intro g2 k2 W25 hrow hgrow hat hlt
                        have HI2 := Lib.hid (HI.out.app 3 (by decide) hrow hgrow hat rfl)
                        clear HI PC2 hrow hgrow hat hlt
                        have HI := HI2
                        clear HI2
                        refine hK.out _ _ HI.out.held (fun hHeld' => ?_)
                        clear hK K hHeld
                        have hHeld := hHeld'
                        clear hHeld'
                        try simp only [Act.put, List.setIfInBounds_toArray, List.set_cons_zero, List.set_cons_succ]
                        refine AnyT.pick (i := 28) (oi := ⟨_, _, _, _, _, _⟩) (v := ?_) rfl (by kernel_rfl) (by kernel_rfl) (by kernel_rfl) (fun _ _ _ h => h) (Or.inl ⟨by rfl, ?y28_53⟩) ?_
                        case' y28_53 => ((intro w hSw; go_simp) <;> (with_reducible rfl))
                        try simp only [Act.put, List.setIfInBounds_toArray, List.set_cons_zero, List.set_cons_succ]
                        refine AnyT.pick (i := 29) (oi := ⟨_, _, _, _, _, _⟩) (v := ?_) rfl (by kernel_rfl) (by kernel_rfl) (by kernel_rfl) (fun _ _ _ h => h) (Or.inl ⟨by rfl, ?y29_54⟩) ?_
                        case' y29_54 => ((intro w hSw; go_simp) <;> (with_reducible rfl))
                        try simp only [Act.put, List.setIfInBounds_toArray, List.set_cons_zero, List.set_cons_succ]
                        refine AllT.go (rs := [30]) (by kernel_rfl) (by simp) ?_
                        refine AllT.late (o := ⟨_, _, _, _, _, _⟩) rfl (by decide) (fun K hK => ?_) AllT.nil
                        go_simp
                        refine hK.out _ _ trivial (fun _ => ?_)
                        clear hK K
                        try simp only [Act.put, List.setIfInBounds_toArray, List.set_cons_zero, List.set_cons_succ]
                        refine AnyT.pick (i := 31) (oi := ⟨_, _, _, _, _, _⟩) (v := ?_) rfl (by kernel_rfl) (by kernel_rfl) (by kernel_rfl) (fun _ _ _ h => h) (Or.inl ⟨by rfl, ?y31_55⟩) ?_
                        case' y31_55 => ((intro w hSw; go_simp) <;> (with_reducible rfl))
                        try simp only [Act.put, List.setIfInBounds_toArray, List.set_cons_zero, List.set_cons_succ]
                        refine AnyT.pick (i := 32) (oi := ⟨_, _, _, _, _, _⟩) (v := ?_) rfl (by kernel_rfl) (by kernel_rfl) (by kernel_rfl) (fun _ _ _ h => h) (Or.inl ⟨by rfl, ?y32_56⟩) ?_
                        case' y32_56 => ((intro w hSw; go_simp) <;> (with_reducible rfl))
                        try simp only [Act.put, List.setIfInBounds_toArray, List.set_cons_zero, List.set_cons_succ]
                        refine AllT.go (rs := [33]) (by kernel_rfl) (by simp) ?_
                        refine AllT.late (o := ⟨_, _, _, _, _, _⟩) rfl (by decide) (fun K hK => ?_) AllT.nil
                        go_simp
                        refine hK.out _ _ trivial (fun _ => ?_)
                        clear hK K
                        try simp only [Act.put, List.setIfInBounds_toArray, List.set_cons_zero, List.set_cons_succ]
                        refine AnyT.pick (i := 34) (oi := ⟨_, _, _, _, _, _⟩) (v := ?_) rfl (by kernel_rfl) (by kernel_rfl) (by kernel_rfl) (fun _ _ _ h => h) (Or.inl ⟨by rfl, ?y34_57⟩) ?_
                        case' y34_57 => ((intro w hSw; go_simp) <;> (with_reducible rfl))
                        try simp only [Act.put, List.setIfInBounds_toArray, List.set_cons_zero, List.set_cons_succ]
                        refine AnyT.pick (i := 35) (oi := ⟨_, _, _, _, _, _⟩) (v := ?_) rfl (by kernel_rfl) (by kernel_rfl) (by kernel_rfl) (fun _ _ _ h => h) (Or.inl ⟨by rfl, ?y35_58⟩) ?_
                        case' y35_58 => ((intro w hSw; go_simp) <;> (with_reducible rfl))
                        try simp only [Act.put, List.setIfInBounds_toArray, List.set_cons_zero, List.set_cons_succ]
                        refine AllT.go (rs := [36]) (by kernel_rfl) (by simp) ?_
                        refine AllT.late (o := ⟨_, _, _, _, _, _⟩) rfl (by decide) (fun K hK => ?_) AllT.nil
                        go_simp
                        refine hK.out _ _ trivial (fun _ => ?_)
                        clear hK K
                        try simp only [Act.put, List.setIfInBounds_toArray, List.set_cons_zero, List.set_cons_succ]
                        refine AnyT.done (by kernel_rfl) ?_ _
                        go_wp2_with fail
                        refine ⟨?_, ?meas6⟩
                        (repeat apply Exists.intro)
                        refine ⟨?rell6, rfl⟩
                        case rell6 => exact fin2 SC.out HI.out hbs HSD.out HL.out.1 HL.out.2 HSE.out hlt (by go_num)
                        case meas6 => simp [intOf]; omega
                      exact AllT.nil
                    exact AllT.nil
                  exact AllT.nil
                exact AllT.nil
              refine AllT.early (o := ⟨_, _, _, _, _, _⟩) rfl (fun K hK => ?_) ?_
              · go_simp
                refine hK.out _ _ (I3.held (HI.out.alloc _)) (fun hHeld' => ?_)
                clear hK K hHeld
                have hHeld := hHeld'
                clear hHeld'
                have HI2 := Lib.hid (HI.out.alloc (.cells #[.bool false] 4))
                have PC2 := Lib.hid (Pc.new HI.out #[.bool false] 4)
                have PX0 := Lib.hid (PC0.out.alloc (.cells #[.bool false] 4))
                clear PC0
                have PC0 := PX0
                clear PX0
                clear HI
                have HI := HI2
                clear HI2
                generalize World.alloc W1 (.cells #[.bool false] 4) = W26 at *
                generalize W1.heap.size = x2 at *
                try simp only [Act.put, List.setIfInBounds_toArray, List.set_cons_zero, List.set_cons_succ]
                refine AllT.go (rs := [12, 20]) (by kernel_rfl) (by simp) ?_
                refine AllT.early (o := ⟨_, _, _, _, _, _⟩) rfl (fun K hK => ?_) ?_
                · refine step_append_lies _ rfl (.tmp 70) (.tmp 75) 34 rfl 0 48 _ (.agg #[.int .i64 0, .int .i64 0, .bool false]) 3 24 Tryz.underlying34 HIM.out.1 HIM.out.2.1 HIM.out.2.2.1 HIM.out.2.2.2 rfl (by decide) (vr 0) L.length (rowW L 4 0) rfl (HI.out.ow 0 (by decide)) ⟨x0, 0, none⟩ 1 1 [.int .i64 sa, .int .i64 sc, .bool false] rfl rfl PC0.out.at_ (by intro u hu; simp at hu; rcases hu with rfl | rfl | rfl <;> rfl) (by decide) HX1.out.1 (HX1.out.2 24 (by decide)) (Nat.zero_le _) W26.heap.size rfl ?_
                  intro g0 k0 W27 hrow hgrow hat hlt
                  have HI2 := Lib.hid (HI.out.app 0 (by decide) hrow hgrow hat rfl)
                  have PX2 := Lib.hid (PC2.out.app (n := L.length + 1) (c := k0) HI.out 0 (by decide) hgrow hat rfl)
                  clear PC2
                  have PC2 := PX2
                  clear PX2
                  clear HI PC0 hrow hgrow hat hlt
                  have HI := HI2
                  clear HI2
                  refine hK.out _ _ HI.out.held (fun hHeld' => ?_)
                  clear hK K hHeld
                  have hHeld := hHeld'
                  clear hHeld'
                  try simp only [Act.put, List.setIfInBounds_toArray, List.set_cons_zero, List.set_cons_succ]
                  refine AllT.go (rs := [20]) (by kernel_rfl) (by simp) ?_
                  refine AllT.early (o := ⟨_, _, _, _, _, _⟩) rfl (fun K hK => ?_) ?_
                  · go_simp
                    refine hK.out _ _ (I3.held (HI.out.alloc _)) (fun hHeld' => ?_)
                    clear hK K hHeld
                    have hHeld := hHeld'
                    clear hHeld'
                    have HI2 := Lib.hid (HI.out.alloc (.cells #[.int .i64 sa, .int .i64 sc] 46))
                    have PC1 := Lib.hid (Pc.new HI.out #[.int .i64 sa, .int .i64 sc] 46)
                    have PX2 := Lib.hid (PC2.out.alloc (.cells #[.int .i64 sa, .int .i64 sc] 46))
                    clear PC2
                    have PC2 := PX2
                    clear PX2
                    clear HI
                    have HI := HI2
                    clear HI2
                    generalize World.alloc W27 (.cells #[.int .i64 sa, .int .i64 sc] 46) = W28 at *
                    generalize W27.heap.size = x1 at *
                    try simp only [Act.put, List.setIfInBounds_toArray, List.set_cons_zero, List.set_cons_succ]
                    refine AllT.go (rs := [21]) (by kernel_rfl) (by simp) ?_
                    refine AllT.early (o := ⟨_, _, _, _, _, _⟩) rfl (fun K hK => ?_) ?_
                    · refine step_append_lies _ rfl (.tmp 80) (.tmp 84) 36 rfl 0 46 _ (.agg #[.int .i64 0, .int .i64 0]) 2 16 Tryz.underlying36 HIP.out.1 HIP.out.2.1 HIP.out.2.2.1 HIP.out.2.2.2 rfl (by decide) (vr 2) L.length (rowW L 4 2) rfl (HI.out.ow 2 (by decide)) ⟨x1, 0, none⟩ 1 1 [.int .i64 sa, .int .i64 sc] rfl rfl PC1.out.at_ (by intro u hu; simp at hu; rcases hu with rfl | rfl <;> rfl) (by decide) HX1.out.1 (HX1.out.2 16 (by decide)) (Nat.zero_le _) W28.heap.size rfl ?_
                      intro g1 k1 W29 hrow hgrow hat hlt
                      have HI2 := Lib.hid (HI.out.app 2 (by decide) hrow hgrow hat rfl)
                      have PX2 := Lib.hid (PC2.out.app (n := L.length + 1) (c := k1) HI.out 2 (by decide) hgrow hat rfl)
                      clear PC2
                      have PC2 := PX2
                      clear PX2
                      clear HI PC1 hrow hgrow hat hlt
                      have HI := HI2
                      clear HI2
                      refine hK.out _ _ HI.out.held (fun hHeld' => ?_)
                      clear hK K hHeld
                      have hHeld := hHeld'
                      clear hHeld'
                      try simp only [Act.put, List.setIfInBounds_toArray, List.set_cons_zero, List.set_cons_succ]
                      refine AllT.go (rs := [27]) (by kernel_rfl) (by simp) ?_
                      refine AllT.early (o := ⟨_, _, _, _, _, _⟩) rfl (fun K hK => ?_) ?_
                      · refine step_append_lies _ rfl (.tmp 89) (.tmp 90) 37 rfl 0 4 _ (.bool false) 1 1 Tryz.underlying37 HIB.out.1 HIB.out.2.1 HIB.out.2.2.1 HIB.out.2.2.2 rfl (by decide) (vr 3) L.length (rowW L 4 3) rfl (HI.out.ow 3 (by decide)) ⟨x2, 0, none⟩ 1 1 [.bool false] rfl rfl PC2.out.at_ (by intro u hu; simp at hu; subst hu; rfl) (by decide) HX1.out.1 (HX1.out.2 1 (by decide)) (Nat.zero_le _) W29.heap.size rfl ?_
                        intro g2 k2 W30 hrow hgrow hat hlt
                        have HI2 := Lib.hid (HI.out.app 3 (by decide) hrow hgrow hat rfl)
                        clear HI PC2 hrow hgrow hat hlt
                        have HI := HI2
                        clear HI2
                        refine hK.out _ _ HI.out.held (fun hHeld' => ?_)
                        clear hK K hHeld
                        have hHeld := hHeld'
                        clear hHeld'
                        try simp only [Act.put, List.setIfInBounds_toArray, List.set_cons_zero, List.set_cons_succ]
                        refine AnyT.pick (i := 28) (oi := ⟨_, _, _, _, _, _⟩) (v := ?_) rfl (by kernel_rfl) (by kernel_rfl) (by kernel_rfl) (fun _ _ _ h => h) (Or.inl ⟨by rfl, ?y28_59⟩) ?_
                        case' y28_59 => ((intro w hSw; go_simp) <;> (with_reducible rfl))
                        try simp only [Act.put, List.setIfInBounds_toArray, List.set_cons_zero, List.set_cons_succ]
                        refine AnyT.pick (i := 29) (oi := ⟨_, _, _, _, _, _⟩) (v := ?_) rfl (by kernel_rfl) (by kernel_rfl) (by kernel_rfl) (fun _ _ _ h => h) (Or.inl ⟨by rfl, ?y29_60⟩) ?_
                        case' y29_60 => ((intro w hSw; go_simp) <;> (with_reducible rfl))
                        try simp only [Act.put, List.setIfInBounds_toArray, List.set_cons_zero, List.set_cons_succ]
                        refine AllT.go (rs := [30]) (by kernel_rfl) (by simp) ?_
                        refine AllT.late (o := ⟨_, _, _, _, _, _⟩) rfl (by decide) (fun K hK => ?_) AllT.nil
                        go_simp
                        refine hK.out _ _ trivial (fun _ => ?_)
                        clear hK K
                        try simp only [Act.put, List.setIfInBounds_toArray, List.set_cons_zero, List.set_cons_succ]
                        refine AnyT.pick (i := 31) (oi := ⟨_, _, _, _, _, _⟩) (v := ?_) rfl (by kernel_rfl) (by kernel_rfl) (by kernel_rfl) (fun _ _ _ h => h) (Or.inl ⟨by rfl, ?y31_61⟩) ?_
                        case' y31_61 => ((intro w hSw; go_simp) <;> (with_reducible rfl))
                        try simp only [Act.put, List.setIfInBounds_toArray, List.set_cons_zero, List.set_cons_succ]
                        refine AnyT.pick (i := 32) (oi := ⟨_, _, _, _, _, _⟩) (v := ?_) rfl (by kernel_rfl) (by kernel_rfl) (by kernel_rfl) (fun _ _ _ h => h) (Or.inl ⟨by rfl, ?y32_62⟩) ?_
                        case' y32_62 => ((intro w hSw; go_simp) <;> (with_reducible rfl))
                        try simp only [Act.put, List.setIfInBounds_toArray, List.set_cons_zero, List.set_cons_succ]
                        refine AllT.go (rs := [33]) (by kernel_rfl) (by simp) ?_
                        refine AllT.late (o := ⟨_, _, _, _, _, _⟩) rfl (by decide) (fun K hK => ?_) AllT.nil
                        go_simp
                        refine hK.out _ _ trivial (fun _ => ?_)
                        clear hK K
                        try simp only [Act.put, List.setIfInBounds_toArray, List.set_cons_zero, List.set_cons_succ]
                        refine AnyT.pick (i := 34) (oi := ⟨_, _, _, _, _, _⟩) (v := ?_) rfl (by kernel_rfl) (by kernel_rfl) (by kernel_rfl) (fun _ _ _ h => h) (Or.inl ⟨by rfl, ?y34_63⟩) ?_
                        case' y34_63 => ((intro w hSw; go_simp) <;> (with_reducible rfl))
                        try simp only [Act.put, List.setIfInBounds_toArray, List.set_cons_zero, List.set_cons_succ]
                        refine AnyT.pick (i := 35) (oi := ⟨_, _, _, _, _, _⟩) (v := ?_) rfl (by kernel_rfl) (by kernel_rfl) (by kernel_rfl) (fun _ _ _ h => h) (Or.inl ⟨by rfl, ?y35_64⟩) ?_
                        case' y35_64 => ((intro w hSw; go_simp) <;> (with_reducible rfl))
                        try simp only [Act.put, List.setIfInBounds_toArray, List.set_cons_zero, List.set_cons_succ]
                        refine AllT.go (rs := [36]) (by kernel_rfl) (by simp) ?_
                        refine AllT.late (o := ⟨_, _, _, _, _, _⟩) rfl (by decide) (fun K hK => ?_) AllT.nil
                        go_simp
                        refine hK.out _ _ trivial (fun _ => ?_)
                        clear hK K
                        try simp only [Act.put, List.setIfInBounds_toArray, List.set_cons_zero, List.set_cons_succ]
                        refine AnyT.done (by kernel_rfl) ?_ _
                        go_wp2_with fail
                        refine ⟨?_, ?meas7⟩
                        (repeat apply Exists.intro)
                        refine ⟨?rell7, rfl⟩
                        case rell7 => exact fin2 SC.out HI.out hbs HSD.out HL.out.1 HL.out.2 HSE.out hlt (by go_num)
                        case meas7 => simp [intOf]; omega
                      exact AllT.nil
                    exact AllT.nil
                  exact AllT.nil
                refine AllT.early (o := ⟨_, _, _, _, _, _⟩) rfl (fun K hK => ?_) ?_
                · go_simp
                  refine hK.out _ _ (I3.held (HI.out.alloc _)) (fun hHeld' => ?_)
                  clear hK K hHeld
                  have hHeld := hHeld'
                  clear hHeld'
                  have HI2 := Lib.hid (HI.out.alloc (.cells #[.int .i64 sa, .int .i64 sc] 46))
                  have PC1 := Lib.hid (Pc.new HI.out #[.int .i64 sa, .int .i64 sc] 46)
                  have PX0 := Lib.hid (PC0.out.alloc (.cells #[.int .i64 sa, .int .i64 sc] 46))
                  clear PC0
                  have PC0 := PX0
                  clear PX0
                  have PX2 := Lib.hid (PC2.out.alloc (.cells #[.int .i64 sa, .int .i64 sc] 46))
                  clear PC2
                  have PC2 := PX2
                  clear PX2
                  clear HI
                  have HI := HI2
                  clear HI2
                  generalize World.alloc W26 (.cells #[.int .i64 sa, .int .i64 sc] 46) = W31 at *
                  generalize W26.heap.size = x1 at *
                  try simp only [Act.put, List.setIfInBounds_toArray, List.set_cons_zero, List.set_cons_succ]
                  refine AllT.go (rs := [12]) (by kernel_rfl) (by simp) ?_
                  refine AllT.early (o := ⟨_, _, _, _, _, _⟩) rfl (fun K hK => ?_) ?_
                  · refine step_append_lies _ rfl (.tmp 70) (.tmp 75) 34 rfl 0 48 _ (.agg #[.int .i64 0, .int .i64 0, .bool false]) 3 24 Tryz.underlying34 HIM.out.1 HIM.out.2.1 HIM.out.2.2.1 HIM.out.2.2.2 rfl (by decide) (vr 0) L.length (rowW L 4 0) rfl (HI.out.ow 0 (by decide)) ⟨x0, 0, none⟩ 1 1 [.int .i64 sa, .int .i64 sc, .bool false] rfl rfl PC0.out.at_ (by intro u hu; simp at hu; rcases hu with rfl | rfl | rfl <;> rfl) (by decide) HX1.out.1 (HX1.out.2 24 (by decide)) (Nat.zero_le _) W31.heap.size rfl ?_
                    intro g0 k0 W32 hrow hgrow hat hlt
                    have HI2 := Lib.hid (HI.out.app 0 (by decide) hrow hgrow hat rfl)
                    have PX1 := Lib.hid (PC1.out.app (n := L.length + 1) (c := k0) HI.out 0 (by decide) hgrow hat rfl)
                    clear PC1
                    have PC1 := PX1
                    clear PX1
                    have PX2 := Lib.hid (PC2.out.app (n := L.length + 1) (c := k0) HI.out 0 (by decide) hgrow hat rfl)
                    clear PC2
                    have PC2 := PX2
                    clear PX2
                    clear HI PC0 hrow hgrow hat hlt
                    have HI := HI2
                    clear HI2
                    refine hK.out _ _ HI.out.held (fun hHeld' => ?_)
                    clear hK K hHeld
                    have hHeld := hHeld'
                    clear hHeld'
                    try simp only [Act.put, List.setIfInBounds_toArray, List.set_cons_zero, List.set_cons_succ]
                    refine AllT.go (rs := [21]) (by kernel_rfl) (by simp) ?_
                    refine AllT.early (o := ⟨_, _, _, _, _, _⟩) rfl (fun K hK => ?_) ?_
                    · refine step_append_lies _ rfl (.tmp 80) (.tmp 84) 36 rfl 0 46 _ (.agg #[.int .i64 0, .int .i64 0]) 2 16 Tryz.underlying36 HIP.out.1 HIP.out.2.1 HIP.out.2.2.1 HIP.out.2.2.2 rfl (by decide) (vr 2) L.length (rowW L 4 2) rfl (HI.out.ow 2 (by decide)) ⟨x1, 0, none⟩ 1 1 [.int .i64 sa, .int .i64 sc] rfl rfl PC1.out.at_ (by intro u hu; simp at hu; rcases hu with rfl | rfl <;> rfl) (by decide) HX1.out.1 (HX1.out.2 16 (by decide)) (Nat.zero_le _) W32.heap.size rfl ?_
                      intro g1 k1 W33 hrow hgrow hat hlt
                      have HI2 := Lib.hid (HI.out.app 2 (by decide) hrow hgrow hat rfl)
                      have PX2 := Lib.hid (PC2.out.app (n := L.length + 1) (c := k1) HI.out 2 (by decide) hgrow hat rfl)
                      clear PC2
                      have PC2 := PX2
                      clear PX2
                      clear HI PC1 hrow hgrow hat hlt
                      have HI := HI2
                      clear HI2
                      refine hK.out _ _ HI.out.held (fun hHeld' => ?_)
                      clear hK K hHeld
                      have hHeld := hHeld'
                      clear hHeld'
                      try simp only [Act.put, List.setIfInBounds_toArray, List.set_cons_zero, List.set_cons_succ]
                      refine AllT.go (rs := [27]) (by kernel_rfl) (by simp) ?_
                      refine AllT.early (o := ⟨_, _, _, _, _, _⟩) rfl (fun K hK => ?_) ?_
                      · refine step_append_lies _ rfl (.tmp 89) (.tmp 90) 37 rfl 0 4 _ (.bool false) 1 1 Tryz.underlying37 HIB.out.1 HIB.out.2.1 HIB.out.2.2.1 HIB.out.2.2.2 rfl (by decide) (vr 3) L.length (rowW L 4 3) rfl (HI.out.ow 3 (by decide)) ⟨x2, 0, none⟩ 1 1 [.bool false] rfl rfl PC2.out.at_ (by intro u hu; simp at hu; subst hu; rfl) (by decide) HX1.out.1 (HX1.out.2 1 (by decide)) (Nat.zero_le _) W33.heap.size rfl ?_
                        intro g2 k2 W34 hrow hgrow hat hlt
                        have HI2 := Lib.hid (HI.out.app 3 (by decide) hrow hgrow hat rfl)
                        clear HI PC2 hrow hgrow hat hlt
                        have HI := HI2
                        clear HI2
                        refine hK.out _ _ HI.out.held (fun hHeld' => ?_)
                        clear hK K hHeld
                        have hHeld := hHeld'
                        clear hHeld'
                        try simp only [Act.put, List.setIfInBounds_toArray, List.set_cons_zero, List.set_cons_succ]
                        refine AnyT.pick (i := 28) (oi := ⟨_, _, _, _, _, _⟩) (v := ?_) rfl (by kernel_rfl) (by kernel_rfl) (by kernel_rfl) (fun _ _ _ h => h) (Or.inl ⟨by rfl, ?y28_65⟩) ?_
                        case' y28_65 => ((intro w hSw; go_simp) <;> (with_reducible rfl))
                        try simp only [Act.put, List.setIfInBounds_toArray, List.set_cons_zero, List.set_cons_succ]
                        refine AnyT.pick (i := 29) (oi := ⟨_, _, _, _, _, _⟩) (v := ?_) rfl (by kernel_rfl) (by kernel_rfl) (by kernel_rfl) (fun _ _ _ h => h) (Or.inl ⟨by rfl, ?y29_66⟩) ?_
                        case' y29_66 => ((intro w hSw; go_simp) <;> (with_reducible rfl))
                        try simp only [Act.put, List.setIfInBounds_toArray, List.set_cons_zero, List.set_cons_succ]
                        refine AllT.go (rs := [30]) (by kernel_rfl) (by simp) ?_
                        refine AllT.late (o := ⟨_, _, _, _, _, _⟩) rfl (by decide) (fun K hK => ?_) AllT.nil
                        go_simp
                        refine hK.out _ _ trivial (fun _ => ?_)
                        clear hK K
                        try simp only [Act.put, List.setIfInBounds_toArray, List.set_cons_zero, List.set_cons_succ]
                        refine AnyT.pick (i := 31) (oi := ⟨_, _, _, _, _, _⟩) (v := ?_) rfl (by kernel_rfl) (by kernel_rfl) (by kernel_rfl) (fun _ _ _ h => h) (Or.inl ⟨by rfl, ?y31_67⟩) ?_
                        case' y31_67 => ((intro w hSw; go_simp) <;> (with_reducible rfl))
                        try simp only [Act.put, List.setIfInBounds_toArray, List.set_cons_zero, List.set_cons_succ]
                        refine AnyT.pick (i := 32) (oi := ⟨_, _, _, _, _, _⟩) (v := ?_) rfl (by kernel_rfl) (by kernel_rfl) (by kernel_rfl) (fun _ _ _ h => h) (Or.inl ⟨by rfl, ?y32_68⟩) ?_
                        case' y32_68 => ((intro w hSw; go_simp) <;> (with_reducible rfl))
                        try simp only [Act.put, List.setIfInBounds_toArray, List.set_cons_zero, List.set_cons_succ]
                        refine AllT.go (rs := [33]) (by kernel_rfl) (by simp) ?_
                        refine AllT.late (o := ⟨_, _, _, _, _, _⟩) rfl (by decide) (fun K hK => ?_) AllT.nil
                        go_simp
                        refine hK.out _ _ trivial (fun _ => ?_)
                        clear hK K
                        try simp only [Act.put, List.setIfInBounds_toArray, List.set_cons_zero, List.set_cons_succ]
                        refine AnyT.pick (i := 34) (oi := ⟨_, _, _, _, _, _⟩) (v := ?_) rfl (by kernel_rfl) (by kernel_rfl) (by kernel_rfl) (fun _ _ _ h => h) (Or.inl ⟨by rfl, ?y34_69⟩) ?_
                        case' y34_69 => ((intro w hSw; go_simp) <;> (with_reducible rfl))
                        try simp only [Act.put, List.setIfInBounds_toArray, List.set_cons_zero, List.set_cons_succ]
                        refine AnyT.pick (i := 35) (oi := ⟨_, _, _, _, _, _⟩) (v := ?_) rfl (by kernel_rfl) (by kernel_rfl) (by kernel_rfl) (fun _ _ _ h => h) (Or.inl ⟨by rfl, ?y35_70⟩) ?_
                        case' y35_70 => ((intro w hSw; go_simp) <;> (with_reducible rfl))
                        try simp only [Act.put, List.setIfInBounds_toArray, List.set_cons_zero, List.set_cons_succ]
                        refine AllT.go (rs := [36]) (by kernel_rfl) (by simp) ?_
                        refine AllT.late (o := ⟨_, _, _, _, _, _⟩) rfl (by decide) (fun K hK => ?_) AllT.nil
                        go_simp
                        refine hK.out _ _ trivial (fun _ => ?_)
                        clear hK K
                        try simp only [Act.put, List.setIfInBounds_toArray, List.set_cons_zero, List.set_cons_succ]
                        refine AnyT.done (by kernel_rfl) ?_ _
                        go_wp2_with fail
                        refine ⟨?_, ?meas8⟩
                        (repeat apply Exists.intro)
                        refine ⟨?rell8, rfl⟩
                        case rell8 => exact fin2 SC.out HI.out hbs HSD.out HL.out.1 HL.out.2 HSE.out hlt (by go_num)
                        case meas8 => simp [intOf]; omega
                      exact AllT.nil
                    exact AllT.nil
                  exact AllT.nil
                exact AllT.nil
              exact AllT.nil
            refine AllT.early (o := ⟨_, _, _, _, _, _⟩) rfl (fun K hK => ?_) ?_
            · go_simp
              refine hK.out _ _ (I3.held (HI.out.alloc _)) (fun hHeld' => ?_)
              clear hK K hHeld
              have hHeld := hHeld'
              clear hHeld'
              have HI2 := Lib.hid (HI.out.alloc (.cells #[.int .i64 sa, .int .i64 sc] 46))
              have PC1 := Lib.hid (Pc.new HI.out #[.int .i64 sa, .int .i64 sc] 46)
              clear HI
              have HI := HI2
              clear HI2
              generalize World.alloc W0 (.cells #[.int .i64 sa, .int .i64 sc] 46) = W35 at *
              generalize W0.heap.size = x1 at *
              try simp only [Act.put, List.setIfInBounds_toArray, List.set_cons_zero, List.set_cons_succ]
              refine AllT.go (rs := [11, 26]) (by kernel_rfl) (by simp) ?_
              refine AllT.early (o := ⟨_, _, _, _, _, _⟩) rfl (fun K hK => ?_) ?_
              · go_simp
                refine hK.out _ _ (I3.held (HI.out.alloc _)) (fun hHeld' => ?_)
                clear hK K hHeld
                have hHeld := hHeld'
                clear hHeld'
                have HI2 := Lib.hid (HI.out.alloc (.cells #[.int .i64 sa, .int .i64 sc, .bool false] 48))
                have PC0 := Lib.hid (Pc.new HI.out #[.int .i64 sa, .int .i64 sc, .bool false] 48)
                have PX1 := Lib.hid (PC1.out.alloc (.cells #[.int .i64 sa, .int .i64 sc, .bool false] 48))
                clear PC1
                have PC1 := PX1
                clear PX1
                clear HI
                have HI := HI2
                clear HI2
                generalize World.alloc W35 (.cells #[.int .i64 sa, .int .i64 sc, .bool false] 48) = W36 at *
                generalize W35.heap.size = x0 at *
                try simp only [Act.put, List.setIfInBounds_toArray, List.set_cons_zero, List.set_cons_succ]
                refine AllT.go (rs := [12, 26]) (by kernel_rfl) (by simp) ?_
                refine AllT.early (o := ⟨_, _, _, _, _, _⟩) rfl (fun K hK => ?_) ?_
                · refine step_append_lies _ rfl (.tmp 70) (.tmp 75) 34 rfl 0 48 _ (.agg #[.int .i64 0, .int .i64 0, .bool false]) 3 24 Tryz.underlying34 HIM.out.1 HIM.out.2.1 HIM.out.2.2.1 HIM.out.2.2.2 rfl (by decide) (vr 0) L.length (rowW L 4 0) rfl (HI.out.ow 0 (by decide)) ⟨x0, 0, none⟩ 1 1 [.int .i64 sa, .int .i64 sc, .bool false] rfl rfl PC0.out.at_ (by intro u hu; simp at hu; rcases hu with rfl | rfl | rfl <;> rfl) (by decide) HX1.out.1 (HX1.out.2 24 (by decide)) (Nat.zero_le _) W36.heap.size rfl ?_
                  intro g0 k0 W37 hrow hgrow hat hlt
                  have HI2 := Lib.hid (HI.out.app 0 (by decide) hrow hgrow hat rfl)
                  have PX1 := Lib.hid (PC1.out.app (n := L.length + 1) (c := k0) HI.out 0 (by decide) hgrow hat rfl)
                  clear PC1
                  have PC1 := PX1
                  clear PX1
                  clear HI PC0 hrow hgrow hat hlt
                  have HI := HI2
                  clear HI2
                  refine hK.out _ _ HI.out.held (fun hHeld' => ?_)
                  clear hK K hHeld
                  have hHeld := hHeld'
                  clear hHeld'
                  try simp only [Act.put, List.setIfInBounds_toArray, List.set_cons_zero, List.set_cons_succ]
                  refine AllT.go (rs := [21, 26]) (by kernel_rfl) (by simp) ?_
                  refine AllT.early (o := ⟨_, _, _, _, _, _⟩) rfl (fun K hK => ?_) ?_
                  · refine step_append_lies _ rfl (.tmp 80) (.tmp 84) 36 rfl 0 46 _ (.agg #[.int .i64 0, .int .i64 0]) 2 16 Tryz.underlying36 HIP.out.1 HIP.out.2.1 HIP.out.2.2.1 HIP.out.2.2.2 rfl (by decide) (vr 2) L.length (rowW L 4 2) rfl (HI.out.ow 2 (by decide)) ⟨x1, 0, none⟩ 1 1 [.int .i64 sa, .int .i64 sc] rfl rfl PC1.out.at_ (by intro u hu; simp at hu; rcases hu with rfl | rfl <;> rfl) (by decide) HX1.out.1 (HX1.out.2 16 (by decide)) (Nat.zero_le _) W37.heap.size rfl ?_
                    intro g1 k1 W38 hrow hgrow hat hlt
                    have HI2 := Lib.hid (HI.out.app 2 (by decide) hrow hgrow hat rfl)
                    clear HI PC1 hrow hgrow hat hlt
                    have HI := HI2
                    clear HI2
                    refine hK.out _ _ HI.out.held (fun hHeld' => ?_)
                    clear hK K hHeld
                    have hHeld := hHeld'
                    clear hHeld'
                    try simp only [Act.put, List.setIfInBounds_toArray, List.set_cons_zero, List.set_cons_succ]
                    refine AllT.go (rs := [26]) (by kernel_rfl) (by simp) ?_
                    refine AllT.early (o := ⟨_, _, _, _, _, _⟩) rfl (fun K hK => ?_) ?_
                    · go_simp
                      refine hK.out _ _ (I3.held (HI.out.alloc _)) (fun hHeld' => ?_)
                      clear hK K hHeld
                      have hHeld := hHeld'
                      clear hHeld'
                      have HI2 := Lib.hid (HI.out.alloc (.cells #[.bool false] 4))
                      have PC2 := Lib.hid (Pc.new HI.out #[.bool false] 4)
                      clear HI
                      have HI := HI2
                      clear HI2
                      generalize World.alloc W38 (.cells #[.bool false] 4) = W39 at *
                      generalize W38.heap.size = x2 at *
                      try simp only [Act.put, List.setIfInBounds_toArray, List.set_cons_zero, List.set_cons_succ]
                      refine AllT.go (rs := [27]) (by kernel_rfl) (by simp) ?_
                      refine AllT.early (o := ⟨_, _, _, _, _, _⟩) rfl (fun K hK => ?_) ?_
                      · refine step_append_lies _ rfl (.tmp 89) (.tmp 90) 37 rfl 0 4 _ (.bool false) 1 1 Tryz.underlying37 HIB.out.1 HIB.out.2.1 HIB.out.2.2.1 HIB.out.2.2.2 rfl (by decide) (vr 3) L.length (rowW L 4 3) rfl (HI.out.ow 3 (by decide)) ⟨x2, 0, none⟩ 1 1 [.bool false] rfl rfl PC2.out.at_ (by intro u hu; simp at hu; subst hu; rfl) (by decide) HX1.out.1 (HX1.out.2 1 (by decide)) (Nat.zero_le _) W39.heap.size rfl ?_
                        intro g2 k2 W40 hrow hgrow hat hlt
                        have HI2 := Lib.hid (HI.out.app 3 (by decide) hrow hgrow hat rfl)
                        clear HI PC2 hrow hgrow hat hlt
                        have HI := HI2
                        clear HI2
                        refine hK.out _ _ HI.out.held (fun hHeld' => ?_)
                        clear hK K hHeld
                        have hHeld := hHeld'
                        clear hHeld'
                        try simp only [Act.put, List.setIfInBounds_toArray, List.set_cons_zero, List.set_cons_succ]
                        refine AnyT.pick (i := 28) (oi := ⟨_, _, _, _, _, _⟩) (v := ?_) rfl (by kernel_rfl) (by kernel_rfl) (by kernel_rfl) (fun _ _ _ h => h) (Or.inl ⟨by rfl, ?y28_71⟩) ?_
                        case' y28_71 => ((intro w hSw; go_simp) <;> (with_reducible rfl))
                        try simp only [Act.put, List.setIfInBounds_toArray, List.set_cons_zero, List.set_cons_succ]
                        refine AnyT.pick (i := 29) (oi := ⟨_, _, _, _, _, _⟩) (v := ?_) rfl (by kernel_rfl) (by kernel_rfl) (by kernel_rfl) (fun _ _ _ h => h) (Or.inl ⟨by rfl, ?y29_72⟩) ?_
                        case' y29_72 => ((intro w hSw; go_simp) <;> (with_reducible rfl))
                        try simp only [Act.put, List.setIfInBounds_toArray, List.set_cons_zero, List.set_cons_succ]
                        refine AllT.go (rs := [30]) (by kernel_rfl) (by simp) ?_
                        refine AllT.late (o := ⟨_, _, _, _, _, _⟩) rfl (by decide) (fun K hK => ?_) AllT.nil
                        go_simp
                        refine hK.out _ _ trivial (fun _ => ?_)
                        clear hK K
                        try simp only [Act.put, List.setIfInBounds_toArray, List.set_cons_zero, List.set_cons_succ]
                        refine AnyT.pick (i := 31) (oi := ⟨_, _, _, _, _, _⟩) (v := ?_) rfl (by kernel_rfl) (by kernel_rfl) (by kernel_rfl) (fun _ _ _ h => h) (Or.inl ⟨by rfl, ?y31_73⟩) ?_
                        case' y31_73 => ((intro w hSw; go_simp) <;> (with_reducible rfl))
                        try simp only [Act.put, List.setIfInBounds_toArray, List.set_cons_zero, List.set_cons_succ]
                        refine AnyT.pick (i := 32) (oi := ⟨_, _, _, _, _, _⟩) (v := ?_) rfl (by kernel_rfl) (by kernel_rfl) (by kernel_rfl) (fun _ _ _ h => h) (Or.inl ⟨by rfl, ?y32_74⟩) ?_
                        case' y32_74 => ((intro w hSw; go_simp) <;> (with_reducible rfl))
                        try simp only [Act.put, List.setIfInBounds_toArray, List.set_cons_zero, List.set_cons_succ]
                        refine AllT.go (rs := [33]) (by kernel_rfl) (by simp) ?_
                        refine AllT.late (o := ⟨_, _, _, _, _, _⟩) rfl (by decide) (fun K hK => ?_) AllT.nil
                        go_simp
                        refine hK.out _ _ trivial (fun _ => ?_)
                        clear hK K
                        try simp only [Act.put, List.setIfInBounds_toArray, List.set_cons_zero, List.set_cons_succ]
                        refine AnyT.pick (i := 34) (oi := ⟨_, _, _, _, _, _⟩) (v := ?_) rfl (by kernel_rfl) (by kernel_rfl) (by kernel_rfl) (fun _ _ _ h => h) (Or.inl ⟨by rfl, ?y34_75⟩) ?_
                        case' y34_75 => ((intro w hSw; go_simp) <;> (with_reducible rfl))
                        try simp only [Act.put, List.setIfInBounds_toArray, List.set_cons_zero, List.set_cons_succ]
                        refine AnyT.pick (i := 35) (oi := ⟨_, _, _, _, _, _⟩) (v := ?_) rfl (by kernel_rfl) (by kernel_rfl) (by kernel_rfl) (fun _ _ _ h => h) (Or.inl ⟨by rfl, ?y35_76⟩) ?_
                        case' y35_76 => ((intro w hSw; go_simp) <;> (with_reducible rfl))
                        try simp only [Act.put, List.setIfInBounds_toArray, List.set_cons_zero, List.set_cons_succ]
                        refine AllT.go (rs := [36]) (by kernel_rfl) (by simp) ?_
                        refine AllT.late (o := ⟨_, _, _, _, _, _⟩) rfl (by decide) (fun K hK => ?_) AllT.nil
                        go_simp
                        refine hK.out _ _ trivial (fun _ => ?_)
                        clear hK K
                        try simp only [Act.put, List.setIfInBounds_toArray, List.set_cons_zero, List.set_cons_succ]
                        refine AnyT.done (by kernel_rfl) ?_ _
                        go_wp2_with fail
                        refine ⟨?_, ?meas9⟩
                        (repeat apply Exists.intro)
                        refine ⟨?rell9, rfl⟩
                        case rell9 => exact fin2 SC.out HI.out hbs HSD.out HL.out.1 HL.out.2 HSE.out hlt (by go_num)
                        case meas9 => simp [intOf]; omega
                      exact AllT.nil
                    exact AllT.nil
                  refine AllT.early (o := ⟨_, _, _, _, _, _⟩) rfl (fun K hK => ?_) ?_
                  · go_simp
                    refine hK.out _ _ (I3.held (HI.out.alloc _)) (fun hHeld' => ?_)
                    clear hK K hHeld
                    have hHeld := hHeld'
                    clear hHeld'
                    have HI2 := Lib.hid (HI.out.alloc (.cells #[.bool false] 4))
                    have PC2 := Lib.hid (Pc.new HI.out #[.bool false] 4)
                    have PX1 := Lib.hid (PC1.out.alloc (.cells #[.bool false] 4))
                    clear PC1
                    have PC1 := PX1
                    clear PX1
                    clear HI
                    have HI := HI2
                    clear HI2
                    generalize World.alloc W37 (.cells #[.bool false] 4) = W41 at *
                    generalize W37.heap.size = x2 at *
                    try simp only [Act.put, List.setIfInBounds_toArray, List.set_cons_zero, List.set_cons_succ]
                    refine AllT.go (rs := [21]) (by kernel_rfl) (by simp) ?_
                    refine AllT.early (o := ⟨_, _, _, _, _, _⟩) rfl (fun K hK => ?_) ?_
                    · refine step_append_lies _ rfl (.tmp 80) (.tmp 84) 36 rfl 0 46 _ (.agg #[.int .i64 0, .int .i64 0]) 2 16 Tryz.underlying36 HIP.out.1 HIP.out.2.1 HIP.out.2.2.1 HIP.out.2.2.2 rfl (by decide) (vr 2) L.length (rowW L 4 2) rfl (HI.out.ow 2 (by decide)) ⟨x1, 0, none⟩ 1 1 [.int .i64 sa, .int .i64 sc] rfl rfl PC1.out.at_ (by intro u hu; simp at hu; rcases hu with rfl | rfl <;> rfl) (by decide) HX1.out.1 (HX1.out.2 16 (by decide)) (Nat.zero_le _) W41.heap.size rfl ?_
                      intro g1 k1 W42 hrow hgrow hat hlt
                      have HI2 := Lib.hid (HI.out.app 2 (by decide) hrow hgrow hat rfl)
                      have PX2 := Lib.hid (PC2.out.app (n := L.length + 1) (c := k1) HI.out 2 (by decide) hgrow hat rfl)
                      clear PC2
                      have PC2 := PX2
                      clear PX2
                      clear HI PC1 hrow hgrow hat hlt
                      have HI := HI2
                      clear HI2
                      refine hK.out _ _ HI.out.held (fun hHeld' => ?_)
                      clear hK K hHeld
                      have hHeld := hHeld'
                      clear hHeld'
                      try simp only [Act.put, List.setIfInBounds_toArray, List.set_cons_zero, List.set_cons_succ]
                      refine AllT.go (rs := [27]) (by kernel_rfl) (by simp) ?_
                      refine AllT.early (o := ⟨_, _, _, _, _, _⟩) rfl (fun K hK => ?_) ?_
                      · refine step_append_lies _ rfl (.tmp 89) (.tmp 90) 37 rfl 0 4 _ (.bool false) 1 1 Tryz.underlying37 HIB.out.1 HIB.out.2.1 HIB.out.2.2.1 HIB.out.2.2.2 rfl (by decide) (vr 3) L.length (rowW L 4 3) rfl (HI.out.ow 3 (by decide)) ⟨x2, 0, none⟩ 1 1 [.bool false] rfl rfl PC2.out.at_ (by intro u hu; simp at hu; subst hu; rfl) (by decide) HX1.out.1 (HX1.out.2 1 (by decide)) (Nat.zero_le _) W42.heap.size rfl ?_
                        intro g2 k2 W43 hrow hgrow hat hlt
                        have HI2 := Lib.hid (HI.out.app 3 (by decide) hrow hgrow hat rfl)
                        clear HI PC2 hrow hgrow hat hlt
                        have HI := HI2
                        clear HI2
                        refine hK.out _ _ HI.out.held (fun hHeld' => ?_)
                        clear hK K hHeld
                        have hHeld := hHeld'
                        clear hHeld'
                        try simp only [Act.put, List.setIfInBounds_toArray, List.set_cons_zero, List.set_cons_succ]
                        refine AnyT.pick (i := 28) (oi := ⟨_, _, _, _, _, _⟩) (v := ?_) rfl (by kernel_rfl) (by kernel_rfl) (by kernel_rfl) (fun _ _ _ h => h) (Or.inl ⟨by rfl, ?y28_77⟩) ?_
                        case' y28_77 => ((intro w hSw; go_simp) <;> (with_reducible rfl))
                        try simp only [Act.put, List.setIfInBounds_toArray, List.set_cons_zero, List.set_cons_succ]
                        refine AnyT.pick (i := 29) (oi := ⟨_, _, _, _, _, _⟩) (v := ?_) rfl (by kernel_rfl) (by kernel_rfl) (by kernel_rfl) (fun _ _ _ h => h) (Or.inl ⟨by rfl, ?y29_78⟩) ?_
                        case' y29_78 => ((intro w hSw; go_simp) <;> (with_reducible rfl))
                        try simp only [Act.put, List.setIfInBounds_toArray, List.set_cons_zero, List.set_cons_succ]
                        refine AllT.go (rs := [30]) (by kernel_rfl) (by simp) ?_
                        refine AllT.late (o := ⟨_, _, _, _, _, _⟩) rfl (by decide) (fun K hK => ?_) AllT.nil
                        go_simp
                        refine hK.out _ _ trivial (fun _ => ?_)
                        clear hK K
                        try simp only [Act.put, List.setIfInBounds_toArray, List.set_cons_zero, List.set_cons_succ]
                        refine AnyT.pick (i := 31) (oi := ⟨_, _, _, _, _, _⟩) (v := ?_) rfl (by kernel_rfl) (by kernel_rfl) (by kernel_rfl) (fun _ _ _ h => h) (Or.inl ⟨by rfl, ?y31_79⟩) ?_
                        case' y31_79 => ((intro w hSw; go_simp) <;> (with_reducible rfl))
                        try simp only [Act.put, List.setIfInBounds_toArray, List.set_cons_zero, List.set_cons_succ]
                        refine AnyT.pick (i := 32) (oi := ⟨_, _, _, _, _, _⟩) (v := ?_) rfl (by kernel_rfl) (by kernel_rfl) (by kernel_rfl) (fun _ _ _ h => h) (Or.inl ⟨by rfl, ?y32_80⟩) ?_
                        case' y32_80 => ((intro w hSw; go_simp) <;> (with_reducible rfl))
                        try simp only [Act.put, List.setIfInBounds_toArray, List.set_cons_zero, List.set_cons_succ]
                        refine AllT.go (rs := [33]) (by kernel_rfl) (by simp) ?_
                        refine AllT.late (o := ⟨_, _, _, _, _, _⟩) rfl (by decide) (fun K hK => ?_) AllT.nil
                        go_simp
                        refine hK.out _ _ trivial (fun _ => ?_)
                        clear hK K
                        try simp only [Act.put, List.setIfInBounds_toArray, List.set_cons_zero, List.set_cons_succ]
                        refine AnyT.pick (i := 34) (oi := ⟨_, _, _, _, _, _⟩) (v := ?_) rfl (by kernel_rfl) (by kernel_rfl) (by kernel_rfl) (fun _ _ _ h => h) (Or.inl ⟨by rfl, ?y34_81⟩) ?_
                        case' y34_81 => ((intro w hSw; go_simp) <;> (with_reducible rfl))
                        try simp only [Act.put, List.setIfInBounds_toArray, List.set_cons_zero, List.set_cons_succ]
                        refine AnyT.pick (i := 35) (oi := ⟨_, _, _, _, _, _⟩) (v := ?_) rfl (by kernel_rfl) (by kernel_rfl) (by kernel_rfl) (fun _ _ _ h => h) (Or.inl ⟨by rfl, ?y35_82⟩) ?_
                        case' y35_82 => ((intro w hSw; go_simp) <;> (with_reducible rfl))
                        try simp only [Act.put, List.setIfInBounds_toArray, List.set_cons_zero, List.set_cons_succ]
                        refine AllT.go (rs := [36]) (by kernel_rfl) (by simp) ?_
                        refine AllT.late (o := ⟨_, _, _, _, _, _⟩) rfl (by decide) (fun K hK => ?_) AllT.nil
                        go_simp
                        refine hK.out _ _ trivial (fun _ => ?_)
                        clear hK K
                        try simp only [Act.put, List.setIfInBounds_toArray, List.set_cons_zero, List.set_cons_succ]
                        refine AnyT.done (by kernel_rfl) ?_ _
                        go_wp2_with fail
                        refine ⟨?_, ?meas10⟩
                        (repeat apply Exists.intro)
                        refine ⟨?rell10, rfl⟩
                        case rell10 => exact fin2 SC.out HI.out hbs HSD.out HL.out.1 HL.out.2 HSE.out hlt (by go_num)
                        case meas10 => simp [intOf]; omega
                      exact AllT.nil
                    exact AllT.nil
                  exact AllT.nil
                refine AllT.early (o := ⟨_, _, _, _, _, _⟩) rfl (fun K hK => ?_) ?_
                · go_simp
                  refine hK.out _ _ (I3.held (HI.out.alloc _)) (fun hHeld' => ?_)
                  clear hK K hHeld
                  have hHeld := hHeld'
                  clear hHeld'
                  have HI2 := Lib.hid (HI.out.alloc (.cells #[.bool false] 4))
                  have PC2 := Lib.hid (Pc.new HI.out #[.bool false] 4)
                  have PX0 := Lib.hid (PC0.out.alloc (.cells #[.bool false] 4))
                  clear PC0
                  have PC0 := PX0
                  clear PX0
                  have PX1 := Lib.hid (PC1.out.alloc (.cells #[.bool false] 4))
                  clear PC1
                  have PC1 := PX1
                  clear PX1
                  clear HI
                  have HI := HI2
                  clear HI2
                  generalize World.alloc W36 (.cells #[.bool false] 4) = W44 at *
                  generalize W36.heap.size = x2 at *
                  try simp only [Act.put, List.setIfInBounds_toArray, List.set_cons_zero, List.set_cons_succ]
                  refine AllT.go (rs := [12]) (by kernel_rfl) (by simp) ?_
                  refine AllT.early (o := ⟨_, _, _, _, _, _⟩) rfl (fun K hK => ?_) ?_
                  · refine step_append_lies _ rfl (.tmp 70) (.tmp 75) 34 rfl 0 48 _ (.agg #[.int .i64 0, .int .i64 0, .bool false]) 3 24 Tryz.underlying34 HIM.out.1 HIM.out.2.1 HIM.out.2.2.1 HIM.out.2.2.2 rfl (by decide) (vr 0) L.length (rowW L 4 0) rfl (HI.out.ow 0 (by decide)) ⟨x0, 0, none⟩ 1 1 [.int .i64 sa, .int .i64 sc, .bool false] rfl rfl PC0.out.at_ (by intro u hu; simp at hu; rcases hu with rfl | rfl | rfl <;> rfl) (by decide) HX1.out.1 (HX1.out.2 24 (by decide)) (Nat.zero_le _) W44.heap.size rfl ?_
                    intro g0 k0 W45 hrow hgrow hat hlt
                    have HI2 := Lib.hid (HI.out.app 0 (by decide) hrow hgrow hat rfl)
                    have PX1 := Lib.hid (PC1.out.app (n := L.length + 1) (c := k0) HI.out 0 (by decide) hgrow hat rfl)
                    clear PC1
                    have PC1 := PX1
                    clear PX1
                    have PX2 := Lib.hid (PC2.out.app (n := L.length + 1) (c := k0) HI.out 0 (by decide) hgrow hat rfl)
                    clear PC2
                    have PC2 := PX2
                    clear PX2
                    clear HI PC0 hrow hgrow hat hlt
                    have HI := HI2
                    clear HI2
                    refine hK.out _ _ HI.out.held (fun hHeld' => ?_)
                    clear hK K hHeld
                    have hHeld := hHeld'
                    clear hHeld'
                    try simp only [Act.put, List.setIfInBounds_toArray, List.set_cons_zero, List.set_cons_succ]
                    refine AllT.go (rs := [21]) (by kernel_rfl) (by simp) ?_
                    refine AllT.early (o := ⟨_, _, _, _, _, _⟩) rfl (fun K hK => ?_) ?_
                    · refine step_append_lies _ rfl (.tmp 80) (.tmp 84) 36 rfl 0 46 _ (.agg #[.int .i64 0, .int .i64 0]) 2 16 Tryz.underlying36 HIP.out.1 HIP.out.2.1 HIP.out.2.2.1 HIP.out.2.2.2 rfl (by decide) (vr 2) L.length (rowW L 4 2) rfl (HI.out.ow 2 (by decide)) ⟨x1, 0, none⟩ 1 1 [.int .i64 sa, .int .i64 sc] rfl rfl PC1.out.at_ (by intro u hu; simp at hu; rcases hu with rfl | rfl <;> rfl) (by decide) HX1.out.1 (HX1.out.2 16 (by decide)) (Nat.zero_le _) W45.heap.size rfl ?_
                      intro g1 k1 W46 hrow hgrow hat hlt
                      have HI2 := Lib.hid (HI.out.app 2 (by decide) hrow hgrow hat rfl)
                      have PX2 := Lib.hid (PC2.out.app (n := L.length + 1) (c := k1) HI.out 2 (by decide) hgrow hat rfl)
                      clear PC2
                      have PC2 := PX2
                      clear PX2
                      clear HI PC1 hrow hgrow hat hlt
                      have HI := HI2
                      clear HI2
                      refine hK.out _ _ HI.out.held (fun hHeld' => ?_)
                      clear hK K hHeld
                      have hHeld := hHeld'
                      clear hHeld'
                      try simp only [Act.put, List.setIfInBounds_toArray, List.set_cons_zero, List.set_cons_succ]
                      refine AllT.go (rs := [27]) (by kernel_rfl) (by simp) ?_
                      refine AllT.early (o := ⟨_, _, _, _, _, _⟩) rfl (fun K hK => ?_) ?_
                      · refine step_append_lies _ rfl (.tmp 89) (.tmp 90) 37 rfl 0 4 _ (.bool false) 1 1 Tryz.underlying37 HIB.out.1 HIB.out.2.1 HIB.out.2.2.1 HIB.out.2.2.2 rfl (by decide) (vr 3) L.length (rowW L 4 3) rfl (HI.out.ow 3 (by decide)) ⟨x2, 0, none⟩ 1 1 [.bool false] rfl rfl PC2.out.at_ (by intro u hu; simp at hu; subst hu; rfl) (by decide) HX1.out.1 (HX1.out.2 1 (by decide)) (Nat.zero_le _) W46.heap.size rfl ?_
                        intro g2 k2 W47 hrow hgrow hat hlt
                        have HI2 := Lib.hid (HI.out.app 3 (by decide) hrow hgrow hat rfl)
                        clear HI PC2 hrow hgrow hat hlt
                        have HI := HI2
                        clear HI2
                        refine hK.out _ _ HI.out.held (fun hHeld' => ?_)
                        clear hK K hHeld
                        have hHeld := hHeld'
                        clear hHeld'
                        try simp only [Act.put, List.setIfInBounds_toArray, List.set_cons_zero, List.set_cons_succ]
                        refine AnyT.pick (i := 28) (oi := ⟨_, _, _, _, _, _⟩) (v := ?_) rfl (by kernel_rfl) (by kernel_rfl) (by kernel_rfl) (fun _ _ _ h => h) (Or.inl ⟨by rfl, ?y28_83⟩) ?_
                        case' y28_83 => ((intro w hSw; go_simp) <;> (with_reducible rfl))
                        try simp only [Act.put, List.setIfInBounds_toArray, List.set_cons_zero, List.set_cons_succ]
                        refine AnyT.pick (i := 29) (oi := ⟨_, _, _, _, _, _⟩) (v := ?_) rfl (by kernel_rfl) (by kernel_rfl) (by kernel_rfl) (fun _ _ _ h => h) (Or.inl ⟨by rfl, ?y29_84⟩) ?_
                        case' y29_84 => ((intro w hSw; go_simp) <;> (with_reducible rfl))
                        try simp only [Act.put, List.setIfInBounds_toArray, List.set_cons_zero, List.set_cons_succ]
                        refine AllT.go (rs := [30]) (by kernel_rfl) (by simp) ?_
                        refine AllT.late (o := ⟨_, _, _, _, _, _⟩) rfl (by decide) (fun K hK => ?_) AllT.nil
                        go_simp
                        refine hK.out _ _ trivial (fun _ => ?_)
                        clear hK K
                        try simp only [Act.put, List.setIfInBounds_toArray, List.set_cons_zero, List.set_cons_succ]
                        refine AnyT.pick (i := 31) (oi := ⟨_, _, _, _, _, _⟩) (v := ?_) rfl (by kernel_rfl) (by kernel_rfl) (by kernel_rfl) (fun _ _ _ h => h) (Or.inl ⟨by rfl, ?y31_85⟩) ?_
                        case' y31_85 => ((intro w hSw; go_simp) <;> (with_reducible rfl))
                        try simp only [Act.put, List.setIfInBounds_toArray, List.set_cons_zero, List.set_cons_succ]
                        refine AnyT.pick (i := 32) (oi := ⟨_, _, _, _, _, _⟩) (v := ?_) rfl (by kernel_rfl) (by kernel_rfl) (by kernel_rfl) (fun _ _ _ h => h) (Or.inl ⟨by rfl, ?y32_86⟩) ?_
                        case' y32_86 => ((intro w hSw; go_simp) <;> (with_reducible rfl))
                        try simp only [Act.put, List.setIfInBounds_toArray, List.set_cons_zero, List.set_cons_succ]
                        refine AllT.go (rs := [33]) (by kernel_rfl) (by simp) ?_
                        refine AllT.late (o := ⟨_, _, _, _, _, _⟩) rfl (by decide) (fun K hK => ?_) AllT.nil
                        go_simp
                        refine hK.out _ _ trivial (fun _ => ?_)
                        clear hK K
                        try simp only [Act.put, List.setIfInBounds_toArray, List.set_cons_zero, List.set_cons_succ]
                        refine AnyT.pick (i := 34) (oi := ⟨_, _, _, _, _, _⟩) (v := ?_) rfl (by kernel_rfl) (by kernel_rfl) (by kernel_rfl) (fun _ _ _ h => h) (Or.inl ⟨by rfl, ?y34_87⟩) ?_
                        case' y34_87 => ((intro w hSw; go_simp) <;> (with_reducible rfl))
                        try simp only [Act.put, List.setIfInBounds_toArray, List.set_cons_zero, List.set_cons_succ]
                        refine AnyT.pick (i := 35) (oi := ⟨_, _, _, _, _, _⟩) (v := ?_) rfl (by kernel_rfl) (by kernel_rfl) (by kernel_rfl) (fun _ _ _ h => h) (Or.inl ⟨by rfl, ?y35_88⟩) ?_
                        case' y35_88 => ((intro w hSw; go_simp) <;> (with_reducible rfl))
                        try simp only [Act.put, List.setIfInBounds_toArray, List.set_cons_zero, List.set_cons_succ]
                        refine AllT.go (rs := [36]) (by kernel_rfl) (by simp) ?_
                        refine AllT.late (o := ⟨_, _, _, _, _, _⟩) rfl (by decide) (fun K hK => ?_) AllT.nil
                        go_simp
                        refine hK.out _ _ trivial (fun _ => ?_)
                        clear hK K
                        try simp only [Act.put, List.setIfInBounds_toArray, List.set_cons_zero, List.set_cons_succ]
                        refine AnyT.done (by kernel_rfl) ?_ _
                        go_wp2_with fail
                        refine ⟨?_, ?meas11⟩
                        (repeat apply Exists.intro)
                        refine ⟨?rell11, rfl⟩
                        case rell11 => exact fin2 SC.out HI.out hbs HSD.out HL.out.1 HL.out.2 HSE.out hlt (by go_num)
                        case meas11 => simp [intOf]; omega
                      exact AllT.nil
                    exact AllT.nil
                  exact AllT.nil
                exact AllT.nil
              refine AllT.early (o := ⟨_, _, _, _, _, _⟩) rfl (fun K hK => ?_) ?_
              · go_simp
                refine hK.out _ _ (I3.held (HI.out.alloc _)) (fun hHeld' => ?_)
                clear hK K hHeld
                have hHeld := hHeld'
                clear hHeld'
                have HI2 := Lib.hid (HI.out.alloc (.cells #[.bool false] 4))
                have PC2 := Lib.hid (Pc.new HI.out #[.bool false] 4)
                have PX1 := Lib.hid (PC1.out.alloc (.cells #[.bool false] 4))
                clear PC1
                have PC1 := PX1
                clear PX1
                clear HI
                have HI := HI2
                clear HI2
                generalize World.alloc W35 (.cells #[.bool false] 4) = W48 at *
                generalize W35.heap.size = x2 at *
                try simp only [Act.put, List.setIfInBounds_toArray, List.set_cons_zero, List.set_cons_succ]
                refine AllT.go (rs := [11]) (by kernel_rfl) (by simp) ?_
                refine AllT.early (o := ⟨_, _, _, _, _, _⟩) rfl (fun K hK => ?_) ?_
                · go_simp
                  refine hK.out _ _ (I3.held (HI.out.alloc _)) (fun hHeld' => ?_)
                  clear hK K hHeld
                  have hHeld := hHeld'
                  clear hHeld'
                  have HI2 := Lib.hid (HI.out.alloc (.cells #[.int .i64 sa, .int .i64 sc, .bool false] 48))
                  have PC0 := Lib.hid (Pc.new HI.out #[.int .i64 sa, .int .i64 sc, .bool false] 48)
                  have PX1 := Lib.hid (PC1.out.alloc (.cells #[.int .i64 sa, .int .i64 sc, .bool false] 48))
                  clear PC1
                  have PC1 := PX1
                  clear PX1
                  have PX2 := Lib.hid (PC2.out.alloc (.cells #[.int .i64 sa, .int .i64 sc, .bool false] 48))
                  clear PC2
                  have PC2 := PX2
                  clear PX2
                  clear HI
                  have HI := HI2
                  clear HI2
                  generalize World.alloc W48 (.cells #[.int .i64 sa, .int .i64 sc, .bool false] 48) = W49 at *
                  generalize W48.heap.size = x0 at *
                  try simp only [Act.put, List.setIfInBounds_toArray, List.set_cons_zero, List.set_cons_succ]
                  refine AllT.go (rs := [12]) (by kernel_rfl) (by simp) ?_
                  refine AllT.early (o := ⟨_, _, _, _, _, _⟩) rfl (fun K hK => ?_) ?_
                  · refine step_append_lies _ rfl (.tmp 70) (.tmp 75) 34 rfl 0 48 _ (.agg #[.int .i64 0, .int .i64 0, .bool false]) 3 24 Tryz.underlying34 HIM.out.1 HIM.out.2.1 HIM.out.2.2.1 HIM.out.2.2.2 rfl (by decide) (vr 0) L.length (rowW L 4 0) rfl (HI.out.ow 0 (by decide)) ⟨x0, 0, none⟩ 1 1 [.int .i64 sa, .int .i64 sc, .bool false] rfl rfl PC0.out.at_ (by intro u hu; simp at hu; rcases hu with rfl | rfl | rfl <;> rfl) (by decide) HX1.out.1 (HX1.out.2 24 (by decide)) (Nat.zero_le _) W49.heap.size rfl ?_
                    intro g0 k0 W50 hrow hgrow hat hlt
                    have HI2 := Lib.hid (HI.out.app 0 (by decide) hrow hgrow hat rfl)
                    have PX1 := Lib.hid (PC1.out.app (n := L.length + 1) (c := k0) HI.out 0 (by decide) hgrow hat rfl)
                    clear PC1
                    have PC1 := PX1
                    clear PX1
                    have PX2 := Lib.hid (PC2.out.app (n := L.length + 1) (c := k0) HI.out 0 (by decide) hgrow hat rfl)
                    clear PC2
                    have PC2 := PX2
                    clear PX2
                    clear HI PC0 hrow hgrow hat hlt
                    have HI := HI2
                    clear HI2
                    refine hK.out _ _ HI.out.held (fun hHeld' => ?_)
                    clear hK K hHeld
                    have hHeld := hHeld'
                    clear hHeld'
                    try simp only [Act.put, List.setIfInBounds_toArray, List.set_cons_zero, List.set_cons_succ]
                    refine AllT.go (rs := [21]) (by kernel_rfl) (by simp) ?_
                    refine AllT.early (o := ⟨_, _, _, _, _, _⟩) rfl (fun K hK => ?_) ?_
                    · refine step_append_lies _ rfl (.tmp 80) (.tmp 84) 36 rfl 0 46 _ (.agg #[.int .i64 0, .int .i64 0]) 2 16 Tryz.underlying36 HIP.out.1 HIP.out.2.1 HIP.out.2.2.1 HIP.out.2.2.2 rfl (by decide) (vr 2) L.length (rowW L 4 2) rfl (HI.out.ow 2 (by decide)) ⟨x1, 0, none⟩ 1 1 [.int .i64 sa, .int .i64 sc] rfl rfl PC1.out.at_ (by intro u hu; simp at hu; rcases hu with rfl | rfl <;> rfl) (by decide) HX1.out.1 (HX1.out.2 16 (by decide)) (Nat.zero_le _) W50.heap.size rfl ?_
                      intro g1 k1 W51 hrow hgrow hat hlt
                      have HI2 := Lib.hid (HI.out.app 2 (by decide) hrow hgrow hat rfl)
                      have PX2 := Lib.hid (PC2.out.app (n := L.length + 1) (c := k1) HI.out 2 (by decide) hgrow hat rfl)
                      clear PC2
                      have PC2 := PX2
                      clear PX2
                      clear HI PC1 hrow hgrow hat hlt
                      have HI := HI2
                      clear HI2
                      refine hK.out _ _ HI.out.held (fun hHeld' => ?_)
                      clear hK K hHeld
                      have hHeld := hHeld'
                      clear hHeld'
                      try simp only [Act.put, List.setIfInBounds_toArray, List.set_cons_zero, List.set_cons_succ]
                      refine AllT.go (rs := [27]) (by kernel_rfl) (by simp) ?_
                      refine AllT.early (o := ⟨_, _, _, _, _, _⟩) rfl (fun K hK => ?_) ?_
                      · refine step_append_lies _ rfl (.tmp 89) (.tmp 90) 37 rfl 0 4 _ (.bool false) 1 1 Tryz.underlying37 HIB.out.1 HIB.out.2.1 HIB.out.2.2.1 HIB.out.2.2.2 rfl (by decide) (vr 3) L.length (rowW L 4 3) rfl (HI.out.ow 3 (by decide)) ⟨x2, 0, none⟩ 1 1 [.bool false] rfl rfl PC2.out.at_ (by intro u hu; simp at hu; subst hu; rfl) (by decide) HX1.out.1 (HX1.out.2 1 (by decide)) (Nat.zero_le _) W51.heap.size rfl ?_
                        intro g2 k2 W52 hrow hgrow hat hlt
                        have HI2 := Lib.hid (HI.out.app 3 (by decide) hrow hgrow hat rfl)
                        clear HI PC2 hrow hgrow hat hlt
                        have HI := HI2
                        clear HI2
                        refine hK.out _ _ HI.out.held (fun hHeld' => ?_)
                        clear hK K hHeld
                        have hHeld := hHeld'
                        clear hHeld'
                        try simp only [Act.put, List.setIfInBounds_toArray, List.set_cons_zero, List.set_cons_succ]
                        refine AnyT.pick (i := 28) (oi := ⟨_, _, _, _, _, _⟩) (v := ?_) rfl (by kernel_rfl) (by kernel_rfl) (by kernel_rfl) (fun _ _ _ h => h) (Or.inl ⟨by rfl, ?y28_89⟩) ?_
                        case' y28_89 => ((intro w hSw; go_simp) <;> (with_reducible rfl))
                        try simp only [Act.put, List.setIfInBounds_toArray, List.set_cons_zero, List.set_cons_succ]
                        refine AnyT.pick (i := 29) (oi := ⟨_, _, _, _, _, _⟩) (v := ?_) rfl (by kernel_rfl) (by kernel_rfl) (by kernel_rfl) (fun _ _ _ h => h) (Or.inl ⟨by rfl, ?y29_90⟩) ?_
                        case' y29_90 => ((intro w hSw; go_simp) <;> (with_reducible rfl))
                        try simp only [Act.put, List.setIfInBounds_toArray, List.set_cons_zero, List.set_cons_succ]
                        refine AllT.go (rs := [30]) (by kernel_rfl) (by simp) ?_
                        refine AllT.late (o := ⟨_, _, _, _, _, _⟩) rfl (by decide) (fun K hK => ?_) AllT.nil
                        go_simp
                        refine hK.out _ _ trivial (fun _ => ?_)
                        clear hK K
                        try simp only [Act.put, List.setIfInBounds_toArray, List.set_cons_zero, List.set_cons_succ]
                        refine AnyT.pick (i := 31) (oi := ⟨_, _, _, _, _, _⟩) (v := ?_) rfl (by kernel_rfl) (by kernel_rfl) (by kernel_rfl) (fun _ _ _ h => h) (Or.inl ⟨by rfl, ?y31_91⟩) ?_
                        case' y31_91 => ((intro w hSw; go_simp) <;> (with_reducible rfl))
                        try simp only [Act.put, List.setIfInBounds_toArray, List.set_cons_zero, List.set_cons_succ]
                        refine AnyT.pick (i := 32) (oi := ⟨_, _, _, _, _, _⟩) (v := ?_) rfl (by kernel_rfl) (by kernel_rfl) (by kernel_rfl) (fun _ _ _ h => h) (Or.inl ⟨by rfl, ?y32_92⟩) ?_
                        case' y32_92 => ((intro w hSw; go_simp) <;> (with_reducible rfl))
                        try simp only [Act.put, List.setIfInBounds_toArray, List.set_cons_zero, List.set_cons_succ]
                        refine AllT.go (rs := [33]) (by kernel_rfl) (by simp) ?_
                        refine AllT.late (o := ⟨_, _, _, _, _, _⟩) rfl (by decide) (fun K hK => ?_) AllT.nil
                        go_simp
                        refine hK.out _ _ trivial (fun _ => ?_)
                        clear hK K
                        try simp only [Act.put, List.setIfInBounds_toArray, List.set_cons_zero, List.set_cons_succ]
                        refine AnyT.pick (i := 34) (oi := ⟨_, _, _, _, _, _⟩) (v := ?_) rfl (by kernel_rfl) (by kernel_rfl) (by kernel_rfl) (fun _ _ _ h => h) (Or.inl ⟨by rfl, ?y34_93⟩) ?_
                        case' y34_93 => ((intro w hSw; go_simp) <;> (with_reducible rfl))
                        try simp only [Act.put, List.setIfInBounds_toArray, List.set_cons_zero, List.set_cons_succ]
                        refine AnyT.pick (i := 35) (oi := ⟨_, _, _, _, _, _⟩) (v := ?_) rfl (by kernel_rfl) (by kernel_rfl) (by kernel_rfl) (fun _ _ _ h => h) (Or.inl ⟨by rfl, ?y35_94⟩) ?_
                        case' y35_94 => ((intro w hSw; go_simp) <;> (with_reducible rfl))
                        try simp only [Act.put, List.setIfInBounds_toArray, List.set_cons_zero, List.set_cons_succ]
                        refine AllT.go (rs := [36]) (by kernel_rfl) (by simp) ?_
                        refine AllT.late (o := ⟨_, _, _, _, _, _⟩) rfl (by decide) (fun K hK => ?_) AllT.nil
                        go_simp
                        refine hK.out _ _ trivial (fun _ => ?_)
                        clear hK K
                        try simp only [Act.put, List.setIfInBounds_toArray, List.set_cons_zero, List.set_cons_succ]
                        refine AnyT.done (by kernel_rfl) ?_ _
                        go_wp2_with fail
                        refine ⟨?_, ?meas12⟩
                        (repeat apply Exists.intro)
                        refine ⟨?rell12, rfl⟩
                        case rell12 => exact fin2 SC.out HI.out hbs HSD.out HL.out.1 HL.out.2 HSE.out hlt (by go_num)
                        case meas12 => simp [intOf]; omega
                      exact AllT.nil
                    exact AllT.nil
                  exact AllT.nil
                exact AllT.nil
              exact AllT.nil
            refine AllT.early (o := ⟨_, _, _, _, _, _⟩) rfl (fun K hK => ?_) ?_
            · go_simp
              refine hK.out _ _ (I3.held (HI.out.alloc _)) (fun hHeld' => ?_)
              clear hK K hHeld
              have hHeld := hHeld'
              clear hHeld'
              have HI2 := Lib.hid (HI.out.alloc (.cells #[.bool false] 4))
              have PC2 := Lib.hid (Pc.new HI.out #[.bool false] 4)
              clear HI
              have HI := HI2
              clear HI2
              generalize World.alloc W0 (.cells #[.bool false] 4) = W53 at *
              generalize W0.heap.size = x2 at *
              try simp only [Act.put, List.setIfInBounds_toArray, List.set_cons_zero, List.set_cons_succ]
              refine AllT.go (rs := [11, 20]) (by kernel_rfl) (by simp) ?_
              refine AllT.early (o := ⟨_, _, _, _, _, _⟩) rfl (fun K hK => ?_) ?_
              · go_simp
                refine hK.out _ _ (I3.held (HI.out.alloc _)) (fun hHeld' => ?_)
                clear hK K hHeld
                have hHeld := hHeld'
                clear hHeld'
                have HI2 := Lib.hid (HI.out.alloc (.cells #[.int .i64 sa, .int .i64 sc, .bool false] 48))
                have PC0 := Lib.hid (Pc.new HI.out #[.int .i64 sa, .int .i64 sc, .bool false] 48)
                have PX2 := Lib.hid (PC2.out.alloc (.cells #[.int .i64 sa, .int .i64 sc, .bool false] 48))
                clear PC2
                have PC2 := PX2
                clear PX2
                clear HI
                have HI := HI2
                clear HI2
                generalize World.alloc W53 (.cells #[.int .i64 sa, .int .i64 sc, .bool false] 48) = W54 at *
                generalize W53.heap.size = x0 at *
                try simp only [Act.put, List.setIfInBounds_toArray, List.set_cons_zero, List.set_cons_succ]
                refine AllT.go (rs := [12, 20]) (by kernel_rfl) (by simp) ?_
                refine AllT.early (o := ⟨_, _, _, _, _, _⟩) rfl (fun K hK => ?_) ?_
                · refine step_append_lies _ rfl (.tmp 70) (.tmp 75) 34 rfl 0 48 _ (.agg #[.int .i64 0, .int .i64 0, .bool false]) 3 24 Tryz.underlying34 HIM.out.1 HIM.out.2.1 HIM.out.2.2.1 HIM.out.2.2.2 rfl (by decide) (vr 0) L.length (rowW L 4 0) rfl (HI.out.ow 0 (by decide)) ⟨x0, 0, none⟩ 1 1 [.int .i64 sa, .int .i64 sc, .bool false] rfl rfl PC0.out.at_ (by intro u hu; simp at hu; rcases hu with rfl | rfl | rfl <;> rfl) (by decide) HX1.out.1 (HX1.out.2 24 (by decide)) (Nat.zero_le _) W54.heap.size rfl ?_
                  intro g0 k0 W55 hrow hgrow hat hlt
                  have HI2 := Lib.hid (HI.out.app 0 (by decide) hrow hgrow hat rfl)
                  have PX2 := Lib.hid (PC2.out.app (n := L.length + 1) (c := k0) HI.out 0 (by decide) hgrow hat rfl)
                  clear PC2
                  have PC2 := PX2
                  clear PX2
                  clear HI PC0 hrow hgrow hat hlt
                  have HI := HI2
                  clear HI2
                  refine hK.out _ _ HI.out.held (fun hHeld' => ?_)
                  clear hK K hHeld
                  have hHeld := hHeld'
                  clear hHeld'
                  try simp only [Act.put, List.setIfInBounds_toArray, List.set_cons_zero, List.set_cons_succ]
                  refine AllT.go (rs := [20]) (by kernel_rfl) (by simp) ?_
                  refine AllT.early (o := ⟨_, _, _, _, _, _⟩) rfl (fun K hK => ?_) ?_
                  · go_simp
                    refine hK.out _ _ (I3.held (HI.out.alloc _)) (fun hHeld' => ?_)
                    clear hK K hHeld
                    have hHeld := hHeld'
                    clear hHeld'
                    have HI2 := Lib.hid (HI.out.alloc (.cells #[.int .i64 sa, .int .i64 sc] 46))
                    have PC1 := Lib.hid (Pc.new HI.out #[.int .i64 sa, .int .i64 sc] 46)
                    have PX2 := Lib.hid (PC2.out.alloc (.cells #[.int .i64 sa, .int .i64 sc] 46))
                    clear PC2
                    have PC2 := PX2
                    clear PX2
                    clear HI
                    have HI := HI2
                    clear HI2
                    generalize World.alloc W55 (.cells #[.int .i64 sa, .int .i64 sc] 46) = W56 at *
                    generalize W55.heap.size = x1 at *
                    try simp only [Act.put, List.setIfInBounds_toArray, List.set_cons_zero, List.set_cons_succ]
                    refine AllT.go (rs := [21]) (by kernel_rfl) (by simp) ?_
                    refine AllT.early (o := ⟨_, _, _, _, _, _⟩) rfl (fun K hK => ?_) ?_
                    · refine step_append_lies _ rfl (.tmp 80) (.tmp 84) 36 rfl 0 46 _ (.agg #[.int .i64 0, .int .i64 0]) 2 16 Tryz.underlying36 HIP.out.1 HIP.out.2.1 HIP.out.2.2.1 HIP.out.2.2.2 rfl (by decide) (vr 2) L.length (rowW L 4 2) rfl (HI.out.ow 2 (by decide)) ⟨x1, 0, none⟩ 1 1 [.int .i64 sa, .int .i64 sc] rfl rfl PC1.out.at_ (by intro u hu; simp at hu; rcases hu with rfl | rfl <;> rfl) (by decide) HX1.out.1 (HX1.out.2 16 (by decide)) (Nat.zero_le _) W56.heap.size rfl ?_
                      intro g1 k1 W57 hrow hgrow hat hlt
                      have HI2 := Lib.hid (HI.out.app 2 (by decide) hrow hgrow hat rfl)
                      have PX2 := Lib.hid (PC2.out.app (n := L.length + 1) (c := k1) HI.out 2 (by decide) hgrow hat rfl)
                      clear PC2
                      have PC2 := PX2
                      clear PX2
                      clear HI PC1 hrow hgrow hat hlt
                      have HI := HI2
                      clear HI2
                      refine hK.out _ _ HI.out.held (fun hHeld' => ?_)
                      clear hK K hHeld
                      have hHeld := hHeld'
                      clear hHeld'
                      try simp only [Act.put, List.setIfInBounds_toArray, List.set_cons_zero, List.set_cons_succ]
                      refine AllT.go (rs := [27]) (by kernel_rfl) (by simp) ?_
                      refine AllT.early (o := ⟨_, _, _, _, _, _⟩) rfl (fun K hK => ?_) ?_
                      · refine step_append_lies _ rfl (.tmp 89) (.tmp 90) 37 rfl 0 4 _ (.bool false) 1 1 Tryz.underlying37 HIB.out.1 HIB.out.2.1 HIB.out.2.2.1 HIB.out.2.2.2 rfl (by decide) (vr 3) L.length (rowW L 4 3) rfl (HI.out.ow 3 (by decide)) ⟨x2, 0, none⟩ 1 1 [.bool false] rfl rfl PC2.out.at_ (by intro u hu; simp at hu; subst hu; rfl) (by decide) HX1.out.1 (HX1.out.2 1 (by decide)) (Nat.zero_le _) W57.heap.size rfl ?_
                        intro g2 k2 W58 hrow hgrow hat hlt
                        have HI2 := Lib.hid (HI.out.app 3 (by decide) hrow hgrow hat rfl)
                        clear HI PC2 hrow hgrow hat hlt
                        have HI := HI2
                        clear HI2
                        refine hK.out _ _ HI.out.held (fun hHeld' => ?_)
                        clear hK K hHeld
                        have hHeld := hHeld'
                        clear hHeld'
                        try simp only [Act.put, List.setIfInBounds_toArray, List.set_cons_zero, List.set_cons_succ]
                        refine AnyT.pick (i := 28) (oi := ⟨_, _, _, _, _, _⟩) (v := ?_) rfl (by kernel_rfl) (by kernel_rfl) (by kernel_rfl) (fun _ _ _ h => h) (Or.inl ⟨by rfl, ?y28_95⟩) ?_
                        case' y28_95 => ((intro w hSw; go_simp) <;> (with_reducible rfl))
                        try simp only [Act.put, List.setIfInBounds_toArray, List.set_cons_zero, List.set_cons_succ]
                        refine AnyT.pick (i := 29) (oi := ⟨_, _, _, _, _, _⟩) (v := ?_) rfl (by kernel_rfl) (by kernel_rfl) (by kernel_rfl) (fun _ _ _ h => h) (Or.inl ⟨by rfl, ?y29_96⟩) ?_
                        case' y29_96 => ((intro w hSw; go_simp) <;> (with_reducible rfl))
                        try simp only [Act.put, List.setIfInBounds_toArray, List.set_cons_zero, List.set_cons_succ]
                        refine AllT.go (rs := [30]) (by kernel_rfl) (by simp) ?_
                        refine AllT.late (o := ⟨_, _, _, _, _, _⟩) rfl (by decide) (fun K hK => ?_) AllT.nil
                        go_simp
                        refine hK.out _ _ trivial (fun _ => ?_)
                        clear hK K
                        try simp only [Act.put, List.setIfInBounds_toArray, List.set_cons_zero, List.set_cons_succ]
                        refine AnyT.pick (i := 31) (oi := ⟨_, _, _, _, _, _⟩) (v := ?_) rfl (by kernel_rfl) (by kernel_rfl) (by kernel_rfl) (fun _ _ _ h => h) (Or.inl ⟨by rfl, ?y31_97⟩) ?_
                        case' y31_97 => ((intro w hSw; go_simp) <;> (with_reducible rfl))
                        try simp only [Act.put, List.setIfInBounds_toArray, List.set_cons_zero, List.set_cons_succ]
                        refine AnyT.pick (i := 32) (oi := ⟨_, _, _, _, _, _⟩) (v := ?_) rfl (by kernel_rfl) (by kernel_rfl) (by kernel_rfl) (fun _ _ _ h => h) (Or.inl ⟨by rfl, ?y32_98⟩) ?_
                        case' y32_98 => ((intro w hSw; go_simp) <;> (with_reducible rfl))
                        try simp only [Act.put, List.setIfInBounds_toArray, List.set_cons_zero, List.set_cons_succ]
                        refine AllT.go (rs := [33]) (by kernel_rfl) (by simp) ?_
                        refine AllT.late (o := ⟨_, _, _, _, _, _⟩) rfl (by decide) (fun K hK => ?_) AllT.nil
                        go_simp
                        refine hK.out _ _ trivial (fun _ => ?_)
                        clear hK K
                        try simp only [Act.put, List.setIfInBounds_toArray, List.set_cons_zero, List.set_cons_succ]
                        refine AnyT.pick (i := 34) (oi := ⟨_, _, _, _, _, _⟩) (v := ?_) rfl (by kernel_rfl) (by kernel_rfl) (by kernel_rfl) (fun _ _ _ h => h) (Or.inl ⟨by rfl, ?y34_99⟩) ?_
                        case' y34_99 => ((intro w hSw; go_simp) <;> (with_reducible rfl))
                        try simp only [Act.put, List.setIfInBounds_toArray, List.set_cons_zero, List.set_cons_succ]
                        refine AnyT.pick (i := 35) (oi := ⟨_, _, _, _, _, _⟩) (v := ?_) rfl (by kernel_rfl) (by kernel_rfl) (by kernel_rfl) (fun _ _ _ h => h) (Or.inl ⟨by rfl, ?y35_100⟩) ?_
                        case' y35_100 => ((intro w hSw; go_simp) <;> (with_reducible rfl))
                        try simp only [Act.put, List.setIfInBounds_toArray, List.set_cons_zero, List.set_cons_succ]
                        refine AllT.go (rs := [36]) (by kernel_rfl) (by simp) ?_
                        refine AllT.late (o := ⟨_, _, _, _, _, _⟩) rfl (by decide) (fun K hK => ?_) AllT.nil
                        go_simp
                        refine hK.out _ _ trivial (fun _ => ?_)
                        clear hK K
                        try simp only [Act.put, List.setIfInBounds_toArray, List.set_cons_zero, List.set_cons_succ]
                        refine AnyT.done (by kernel_rfl) ?_ _
                        go_wp2_with fail
                        refine ⟨?_, ?meas13⟩
                        (repeat apply Exists.intro)
                        refine ⟨?rell13, rfl⟩
                        case rell13 => exact fin2 SC.out HI.out hbs HSD.out HL.out.1 HL.out.2 HSE.out hlt (by go_num)
                        case meas13 => simp [intOf]; omega
                      exact AllT.nil
                    exact AllT.nil
                  exact AllT.nil
                refine AllT.early (o := ⟨_, _, _, _, _, _⟩) rfl (fun K hK => ?_) ?_
                · go_simp
                  refine hK.out _ _ (I3.held (HI.out.alloc _)) (fun hHeld' => ?_)
                  clear hK K hHeld
                  have hHeld := hHeld'
                  clear hHeld'
                  have HI2 := Lib.hid (HI.out.alloc (.cells #[.int .i64 sa, .int .i64 sc] 46))
                  have PC1 := Lib.hid (Pc.new HI.out #[.int .i64 sa, .int .i64 sc] 46)
                  have PX0 := Lib.hid (PC0.out.alloc (.cells #[.int .i64 sa, .int .i64 sc] 46))
                  clear PC0
                  have PC0 := PX0
                  clear PX0
                  have PX2 := Lib.hid (PC2.out.alloc (.cells #[.int .i64 sa, .int .i64 sc] 46))
                  clear PC2
                  have PC2 := PX2
                  clear PX2
                  clear HI
                  have HI := HI2
                  clear HI2
                  generalize World.alloc W54 (.cells #[.int .i64 sa, .int .i64 sc] 46) = W59 at *
                  generalize W54.heap.size = x1 at *
                  try simp only [Act.put, List.setIfInBounds_toArray, List.set_cons_zero, List.set_cons_succ]
                  refine AllT.go (rs := [12]) (by kernel_rfl) (by simp) ?_
                  refine AllT.early (o := ⟨_, _, _, _, _, _⟩) rfl (fun K hK => ?_) ?_
                  · refine step_append_lies _ rfl (.tmp 70) (.tmp 75) 34 rfl 0 48 _ (.agg #[.int .i64 0, .int .i64 0, .bool false]) 3 24 Tryz.underlying34 HIM.out.1 HIM.out.2.1 HIM.out.2.2.1 HIM.out.2.2.2 rfl (by decide) (vr 0) L.length (rowW L 4 0) rfl (HI.out.ow 0 (by decide)) ⟨x0, 0, none⟩ 1 1 [.int .i64 sa, .int .i64 sc, .bool false] rfl rfl PC0.out.at_ (by intro u hu; simp at hu; rcases hu with rfl | rfl | rfl <;> rfl) (by decide) HX1.out.1 (HX1.out.2 24 (by decide)) (Nat.zero_le _) W59.heap.size rfl ?_
                    intro g0 k0 W60 hrow hgrow hat hlt
                    have HI2 := Lib.hid (HI.out.app 0 (by decide) hrow hgrow hat rfl)
                    have PX1 := Lib.hid (PC1.out.app (n := L.length + 1) (c := k0) HI.out 0 (by decide) hgrow hat rfl)
                    clear PC1
                    have PC1 := PX1
                    clear PX1
                    have PX2 := Lib.hid (PC2.out.app (n := L.length + 1) (c := k0) HI.out 0 (by decide) hgrow hat rfl)
                    clear PC2
                    have PC2 := PX2
                    clear PX2
                    clear HI PC0 hrow hgrow hat hlt
                    have HI := HI2
                    clear HI2
                    refine hK.out _ _ HI.out.held (fun hHeld' => ?_)
                    clear hK K hHeld
                    have hHeld := hHeld'
                    clear hHeld'
                    try simp only [Act.put, List.setIfInBounds_toArray, List.set_cons_zero, List.set_cons_succ]
                    refine AllT.go (rs := [21]) (by kernel_rfl) (by simp) ?_
                    refine AllT.early (o := ⟨_, _, _, _, _, _⟩) rfl (fun K hK => ?_) ?_
                    · refine step_append_lies _ rfl (.tmp 80) (.tmp 84) 36 rfl 0 46 _ (.agg #[.int .i64 0, .int .i64 0]) 2 16 Tryz.underlying36 HIP.out.1 HIP.out.2.1 HIP.out.2.2.1 HIP.out.2.2.2 rfl (by decide) (vr 2) L.length (rowW L 4 2) rfl (HI.out.ow 2 (by decide)) ⟨x1, 0, none⟩ 1 1 [.int .i64 sa, .int .i64 sc] rfl rfl PC1.out.at_ (by intro u hu; simp at hu; rcases hu with rfl | rfl <;> rfl) (by decide) HX1.out.1 (HX1.out.2 16 (by decide)) (Nat.zero_le _) W60.heap.size rfl ?_
                      intro g1 k1 W61 hrow hgrow hat hlt
                      have HI2 := Lib.hid (HI.out.app 2 (by decide) hrow hgrow hat rfl)
                      have PX2 := Lib.hid (PC2.out.app (n := L.length + 1) (c := k1) HI.out 2 (by decide) hgrow hat rfl)
                      clear PC2
                      have PC2 := PX2
                      clear PX2
                      clear HI PC1 hrow hgrow hat hlt
                      have HI := HI2
                      clear HI2
                      refine hK.out _ _ HI.out.held (fun hHeld' => ?_)
                      clear hK K hHeld
                      have hHeld := hHeld'
                      clear hHeld'
                      try simp only [Act.put, List.setIfInBounds_toArray, List.set_cons_zero, List.set_cons_succ]
                      refine AllT.go (rs := [27]) (by kernel_rfl) (by simp) ?_
                      refine AllT.early (o := ⟨_, _, _, _, _, _⟩) rfl (fun K hK => ?_) ?_
                      · refine step_append_lies _ rfl (.tmp 89) (.tmp 90) 37 rfl 0 4 _ (.bool false) 1 1 Tryz.underlying37 HIB.out.1 HIB.out.2.1 HIB.out.2.2.1 HIB.out.2.2.2 rfl (by decide) (vr 3) L.length (rowW L 4 3) rfl (HI.out.ow 3 (by decide)) ⟨x2, 0, none⟩ 1 1 [.bool false] rfl rfl PC2.out.at_ (by intro u hu; simp at hu; subst hu; rfl) (by decide) HX1.out.1 (HX1.out.2 1 (by decide)) (Nat.zero_le _) W61.heap.size rfl ?_
                        intro g2 k2 W62 hrow hgrow hat hlt
                        have HI2 := Lib.hid (HI.out.app 3 (by decide) hrow hgrow hat rfl)
                        clear HI PC2 hrow hgrow hat hlt
                        have HI := HI2
                        clear HI2
                        refine hK.out _ _ HI.out.held (fun hHeld' => ?_)
                        clear hK K hHeld
                        have hHeld := hHeld'
                        clear hHeld'
                        try simp only [Act.put, List.setIfInBounds_toArray, List.set_cons_zero, List.set_cons_succ]
                        refine AnyT.pick (i := 28) (oi := ⟨_, _, _, _, _, _⟩) (v := ?_) rfl (by kernel_rfl) (by kernel_rfl) (by kernel_rfl) (fun _ _ _ h => h) (Or.inl ⟨by rfl, ?y28_101⟩) ?_
                        case' y28_101 => ((intro w hSw; go_simp) <;> (with_reducible rfl))
                        try simp only [Act.put, List.setIfInBounds_toArray, List.set_cons_zero, List.set_cons_succ]
                        refine AnyT.pick (i := 29) (oi := ⟨_, _, _, _, _, _⟩) (v := ?_) rfl (by kernel_rfl) (by kernel_rfl) (by kernel_rfl) (fun _ _ _ h => h) (Or.inl ⟨by rfl, ?y29_102⟩) ?_
                        case' y29_102 => ((intro w hSw; go_simp) <;> (with_reducible rfl))
                        try simp only [Act.put, List.setIfInBounds_toArray, List.set_cons_zero, List.set_cons_succ]
                        refine AllT.go (rs := [30]) (by kernel_rfl) (by simp) ?_
                        refine AllT.late (o := ⟨_, _, _, _, _, _⟩) rfl (by decide) (fun K hK => ?_) AllT.nil
                        go_simp
                        refine hK.out _ _ trivial (fun _ => ?_)
                        clear hK K
                        try simp only [Act.put, List.setIfInBounds_toArray, List.set_cons_zero, List.set_cons_succ]
                        refine AnyT.pick (i := 31) (oi := ⟨_, _, _, _, _, _⟩) (v := ?_) rfl (by kernel_rfl) (by kernel_rfl) (by kernel_rfl) (fun _ _ _ h => h) (Or.inl ⟨by rfl, ?y31_103⟩) ?_
                        case' y31_103 => ((intro w hSw; go_simp) <;> (with_reducible rfl))
                        try simp only [Act.put, List.setIfInBounds_toArray, List.set_cons_zero, List.set_cons_succ]
                        refine AnyT.pick (i := 32) (oi := ⟨_, _, _, _, _, _⟩) (v := ?_) rfl (by kernel_rfl) (by kernel_rfl) (by kernel_rfl) (fun _ _ _ h => h) (Or.inl ⟨by rfl, ?y32_104⟩) ?_
                        case' y32_104 => ((intro w hSw; go_simp) <;> (with_reducible rfl))
                        try simp only [Act.put, List.setIfInBounds_toArray, List.set_cons_zero, List.set_cons_succ]
                        refine AllT.go (rs := [33]) (by kernel_rfl) (by simp) ?_
                        refine AllT.late (o := ⟨_, _, _, _, _, _⟩) rfl (by decide) (fun K hK => ?_) AllT.nil
                        go_simp
                        refine hK.out _ _ trivial (fun _ => ?_)
                        clear hK K
                        try simp only [Act.put, List.setIfInBounds_toArray, List.set_cons_zero, List.set_cons_succ]
                        refine AnyT.pick (i := 34) (oi := ⟨_, _, _, _, _, _⟩) (v := ?_) rfl (by kernel_rfl) (by kernel_rfl) (by kernel_rfl) (fun _ _ _ h => h) (Or.inl ⟨by rfl, ?y34_105⟩) ?_
                        case' y34_105 => ((intro w hSw; go_simp) <;> (with_reducible rfl))
                        try simp only [Act.put, List.setIfInBounds_toArray, List.set_cons_zero, List.set_cons_succ]
                        refine AnyT.pick (i := 35) (oi := ⟨_, _, _, _, _, _⟩) (v := ?_) rfl (by kernel_rfl) (by kernel_rfl) (by kernel_rfl) (fun _ _ _ h => h) (Or.inl ⟨by rfl, ?y35_106⟩) ?_
                        case' y35_106 => ((intro w hSw; go_simp) <;> (with_reducible rfl))
                        try simp only [Act.put, List.setIfInBounds_toArray, List.set_cons_zero, List.set_cons_succ]
                        refine AllT.go (rs := [36]) (by kernel_rfl) (by simp) ?_
                        refine AllT.late (o := ⟨_, _, _, _, _, _⟩) rfl (by decide) (fun K hK => ?_) AllT.nil
                        go_simp
                        refine hK.out _ _ trivial (fun _ => ?_)
                        clear hK K
                        try simp only [Act.put, List.setIfInBounds_toArray, List.set_cons_zero, List.set_cons_succ]
                        refine AnyT.done (by kernel_rfl) ?_ _
                        go_wp2_with fail
                        refine ⟨?_, ?meas14⟩
                        (repeat apply Exists.intro)
                        refine ⟨?rell14, rfl⟩
                        case rell14 => exact fin2 SC.out HI.out hbs HSD.out HL.out.1 HL.out.2 HSE.out hlt (by go_num)
                        case meas14 => simp [intOf]; omega
                      exact AllT.nil
                    exact AllT.nil
                  exact AllT.nil
                exact AllT.nil
              refine AllT.early (o := ⟨_, _, _, _, _, _⟩) rfl (fun K hK => ?_) ?_
              · go_simp
                refine hK.out _ _ (I3.held (HI.out.alloc _)) (fun hHeld' => ?_)
                clear hK K hHeld
                have hHeld := hHeld'
                clear hHeld'
                have HI2 := Lib.hid (HI.out.alloc (.cells #[.int .i64 sa, .int .i64 sc] 46))
                have PC1 := Lib.hid (Pc.new HI.out #[.int .i64 sa, .int .i64 sc] 46)
                have PX2 := Lib.hid (PC2.out.alloc (.cells #[.int .i64 sa, .int .i64 sc] 46))
                clear PC2
                have PC2 := PX2
                clear PX2
                clear HI
                have HI := HI2
                clear HI2
                generalize World.alloc W53 (.cells #[.int .i64 sa, .int .i64 sc] 46) = W63 at *
                generalize W53.heap.size = x1 at *
                try simp only [Act.put, List.setIfInBounds_toArray, List.set_cons_zero, List.set_cons_succ]
                refine AllT.go (rs := [11]) (by kernel_rfl) (by simp) ?_
                refine AllT.early (o := ⟨_, _, _, _, _, _⟩) rfl (fun K hK => ?_) ?_
                · go_simp
                  refine hK.out _ _ (I3.held (HI.out.alloc _)) (fun hHeld' => ?_)
                  clear hK K hHeld
                  have hHeld := hHeld'
                  clear hHeld'
                  have HI2 := Lib.hid (HI.out.alloc (.cells #[.int .i64 sa, .int .i64 sc, .bool false] 48))
                  have PC0 := Lib.hid (Pc.new HI.out #[.int .i64 sa, .int .i64 sc, .bool false] 48)
                  have PX1 := Lib.hid (PC1.out.alloc (.cells #[.int .i64 sa, .int .i64 sc, .bool false] 48))
                  clear PC1
                  have PC1 := PX1
                  clear PX1
                  have PX2 := Lib.hid (PC2.out.alloc (.cells #[.int .i64 sa, .int .i64 sc, .bool false] 48))
                  clear PC2
                  have PC2 := PX2
                  clear PX2
                  clear HI
                  have HI := HI2
                  clear HI2
                  generalize World.alloc W63 (.cells #[.int .i64 sa, .int .i64 sc, .bool false] 48) = W64 at *
                  generalize W63.heap.size = x0 at *
                  try simp only [Act.put, List.setIfInBounds_toArray, List.set_cons_zero, List.set_cons_succ]
                  refine AllT.go (rs := [12]) (by kernel_rfl) (by simp) ?_
                  refine AllT.early (o := ⟨_, _, _, _, _, _⟩) rfl (fun K hK => ?_) ?_
                  · refine step_append_lies _ rfl (.tmp 70) (.tmp 75) 34 rfl 0 48 _ (.agg #[.int .i64 0, .int .i64 0, .bool false]) 3 24 Tryz.underlying34 HIM.out.1 HIM.out.2.1 HIM.out.2.2.1 HIM.out.2.2.2 rfl (by decide) (vr 0) L.length (rowW L 4 0) rfl (HI.out.ow 0 (by decide)) ⟨x0, 0, none⟩ 1 1 [.int .i64 sa, .int .i64 sc, .bool false] rfl rfl PC0.out.at_ (by intro u hu; simp at hu; rcases hu with rfl | rfl | rfl <;> rfl) (by decide) HX1.out.1 (HX1.out.2 24 (by decide)) (Nat.zero_le _) W64.heap.size rfl ?_
                    intro g0 k0 W65 hrow hgrow hat hlt
                    have HI2 := Lib.hid (HI.out.app 0 (by decide) hrow hgrow hat rfl)
                    have PX1 := Lib.hid (PC1.out.app (n := L.length + 1) (c := k0) HI.out 0 (by decide) hgrow hat rfl)
                    clear PC1
                    have PC1 := PX1
                    clear PX1
                    have PX2 := Lib.hid (PC2.out.app (n := L.length + 1) (c := k0) HI.out 0 (by decide) hgrow hat rfl)
                    clear PC2
                    have PC2 := PX2
                    clear PX2
                    clear HI PC0 hrow hgrow hat hlt
                    have HI := HI2
                    clear HI2
                    refine hK.out _ _ HI.out.held (fun hHeld' => ?_)
                    clear hK K hHeld
                    have hHeld := hHeld'
                    clear hHeld'
                    try simp only [Act.put, List.setIfInBounds_toArray, List.set_cons_zero, List.set_cons_succ]
                    refine AllT.go (rs := [21]) (by kernel_rfl) (by simp) ?_
                    refine AllT.early (o := ⟨_, _, _, _, _, _⟩) rfl (fun K hK => ?_) ?_
                    · refine step_append_lies _ rfl (.tmp 80) (.tmp 84) 36 rfl 0 46 _ (.agg #[.int .i64 0, .int .i64 0]) 2 16 Tryz.underlying36 HIP.out.1 HIP.out.2.1 HIP.out.2.2.1 HIP.out.2.2.2 rfl (by decide) (vr 2) L.length (rowW L 4 2) rfl (HI.out.ow 2 (by decide)) ⟨x1, 0, none⟩ 1 1 [.int .i64 sa, .int .i64 sc] rfl rfl PC1.out.at_ (by intro u hu; simp at hu; rcases hu with rfl | rfl <;> rfl) (by decide) HX1.out.1 (HX1.out.2 16 (by decide)) (Nat.zero_le _) W65.heap.size rfl ?_
                      intro g1 k1 W66 hrow hgrow hat hlt
                      have HI2 := Lib.hid (HI.out.app 2 (by decide) hrow hgrow hat rfl)
                      have PX2 := Lib.hid (PC2.out.app (n := L.length + 1) (c := k1) HI.out 2 (by decide) hgrow hat rfl)
                      clear PC2
                      have PC2 := PX2
                      clear PX2
                      clear HI PC1 hrow hgrow hat hlt
                      have HI := HI2
                      clear HI2
                      refine hK.out _ _ HI.out.held (fun hHeld' => ?_)
                      clear hK K hHeld
                      have hHeld := hHeld'
                      clear hHeld'
                      try simp only [Act.put, List.setIfInBounds_toArray, List.set_cons_zero, List.set_cons_succ]
                      refine AllT.go (rs := [27]) (by kernel_rfl) (by simp) ?_
                      refine AllT.early (o := ⟨_, _, _, _, _, _⟩) rfl (fun K hK => ?_) ?_
                      · refine step_append_lies _ rfl (.tmp 89) (.tmp 90) 37 rfl 0 4 _ (.bool false) 1 1 Tryz.underlying37 HIB.out.1 HIB.out.2.1 HIB.out.2.2.1 HIB.out.2.2.2 rfl (by decide) (vr 3) L.length (rowW L 4 3) rfl (HI.out.ow 3 (by decide)) ⟨x2, 0, none⟩ 1 1 [.bool false] rfl rfl PC2.out.at_ (by intro u hu; simp at hu; subst hu; rfl) (by decide) HX1.out.1 (HX1.out.2 1 (by decide)) (Nat.zero_le _) W66.heap.size rfl ?_
                        intro g2 k2 W67 hrow hgrow hat hlt
                        have HI2 := Lib.hid (HI.out.app 3 (by decide) hrow hgrow hat rfl)
                        clear HI PC2 hrow hgrow hat hlt
                        have HI := HI2
                        clear HI2
                        refine hK.out _ _ HI.out.held (fun hHeld' => ?_)
                        clear hK K hHeld
                        have hHeld := hHeld'
                        clear hHeld'
                        try simp only [Act.put, List.setIfInBounds_toArray, List.set_cons_zero, List.set_cons_succ]
                        refine AnyT.pick (i := 28) (oi := ⟨_, _, _, _, _, _⟩) (v := ?_) rfl (by kernel_rfl) (by kernel_rfl) (by kernel_rfl) (fun _ _ _ h => h) (Or.inl ⟨by rfl, ?y28_107⟩) ?_
                        case' y28_107 => ((intro w hSw; go_simp) <;> (with_reducible rfl))
                        try simp only [Act.put, List.setIfInBounds_toArray, List.set_cons_zero, List.set_cons_succ]
                        refine AnyT.pick (i := 29) (oi := ⟨_, _, _, _, _, _⟩) (v := ?_) rfl (by kernel_rfl) (by kernel_rfl) (by kernel_rfl) (fun _ _ _ h => h) (Or.inl ⟨by rfl, ?y29_108⟩) ?_
                        case' y29_108 => ((intro w hSw; go_simp) <;> (with_reducible rfl))
                        try simp only [Act.put, List.setIfInBounds_toArray, List.set_cons_zero, List.set_cons_succ]
                        refine AllT.go (rs := [30]) (by kernel_rfl) (by simp) ?_
                        refine AllT.late (o := ⟨_, _, _, _, _, _⟩) rfl (by decide) (fun K hK => ?_) AllT.nil
                        go_simp
                        refine hK.out _ _ trivial (fun _ => ?_)
                        clear hK K
                        try simp only [Act.put, List.setIfInBounds_toArray, List.set_cons_zero, List.set_cons_succ]
                        refine AnyT.pick (i := 31) (oi := ⟨_, _, _, _, _, _⟩) (v := ?_) rfl (by kernel_rfl) (by kernel_rfl) (by kernel_rfl) (fun _ _ _ h => h) (Or.inl ⟨by rfl, ?y31_109⟩) ?_
                        case' y31_109 => ((intro w hSw; go_simp) <;> (with_reducible rfl))
                        try simp only [Act.put, List.setIfInBounds_toArray, List.set_cons_zero, List.set_cons_succ]
                        refine AnyT.pick (i := 32) (oi := ⟨_, _, _, _, _, _⟩) (v := ?_) rfl (by kernel_rfl) (by kernel_rfl) (by kernel_rfl) (fun _ _ _ h => h) (Or.inl ⟨by rfl, ?y32_110⟩) ?_
                        case' y32_110 => ((intro w hSw; go_simp) <;> (with_reducible rfl))
                        try simp only [Act.put, List.setIfInBounds_toArray, List.set_cons_zero, List.set_cons_succ]
                        refine AllT.go (rs := [33]) (by kernel_rfl) (by simp) ?_
                        refine AllT.late (o := ⟨_, _, _, _, _, _⟩) rfl (by decide) (fun K hK => ?_) AllT.nil
                        go_simp
                        refine hK.out _ _ trivial (fun _ => ?_)
                        clear hK K
                        try simp only [Act.put, List.setIfInBounds_toArray, List.set_cons_zero, List.set_cons_succ]
                        refine AnyT.pick (i := 34) (oi := ⟨_, _, _, _, _, _⟩) (v := ?_) rfl (by kernel_rfl) (by kernel_rfl) (by kernel_rfl) (fun _ _ _ h => h) (Or.inl ⟨by rfl, ?y34_111⟩) ?_
                        case' y34_111 => ((intro w hSw; go_simp) <;> (with_reducible rfl))
                        try simp only [Act.put, List.setIfInBounds_toArray, List.set_cons_zero, List.set_cons_succ]
                        refine AnyT.pick (i := 35) (oi := ⟨_, _, _, _, _, _⟩) (v := ?_) rfl (by kernel_rfl) (by kernel_rfl) (by kernel_rfl) (fun _ _ _ h => h) (Or.inl ⟨by rfl, ?y35_112⟩) ?_
                        case' y35_112 => ((intro w hSw; go_simp) <;> (with_reducible rfl))
                        try simp only [Act.put, List.setIfInBounds_toArray, List.set_cons_zero, List.set_cons_succ]
                        refine AllT.go (rs := [36]) (by kernel_rfl) (by simp) ?_
                        refine AllT.late (o := ⟨_, _, _, _, _, _⟩) rfl (by decide) (fun K hK => ?_) AllT.nil
                        go_simp
                        refine hK.out _ _ trivial (fun _ => ?_)
                        clear hK K
                        try simp only [Act.put, List.setIfInBounds_toArray, List.set_cons_zero, List.set_cons_succ]
                        refine AnyT.done (by kernel_rfl) ?_ _
                        go_wp2_with fail
                        refine ⟨?_, ?meas15⟩
                        (repeat apply Exists.intro)
                        refine ⟨?rell15, rfl⟩
                        case rell15 => exact fin2 SC.out HI.out hbs HSD.out HL.out.1 HL.out.2 HSE.out hlt (by go_num)
                        case meas15 => simp [intOf]; omega
                      exact AllT.nil
                    exact AllT.nil
                  exact AllT.nil
                exact AllT.nil
              exact AllT.nil
            exact AllT.nil
        · have hte : t = n := by omega
          subst hte
          go_wp2_with fail
          go_ret
          exact ⟨q, p, cb, vr, v, bs, rfl, hbs, SS.out⟩
end Go.Proofs.YtmmfpkkkpeapeaaGreatDoor.mb
