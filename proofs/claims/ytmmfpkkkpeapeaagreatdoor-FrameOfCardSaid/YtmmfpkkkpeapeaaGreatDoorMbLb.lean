/- WrapBack: what holds before a round: plain laws of memory. (5 texts in one.) -/
import Derived.Test.YtmmfpkkkpeapeaaGreatDoorMbLa
import Derived.Test.YtmmfpkkkpeapeaaGreatDoorWt

/- palinglaw15.Make, walked (printed by mk_gen.py). -/
set_option linter.unusedVariables false
set_option linter.unusedSimpArgs false
namespace Go.Proofs.YtmmfpkkkpeapeaaGreatDoor.mb
open Go.RowKit Go.Maps mem rec ar
attribute [local go_sem ↓] Go.wp_at_zero Go.wp_at_succ
set_option maxRecDepth 100000
set_option maxHeartbeats 20000000
def none2 : Ca := fun _ _ => none
/-- Behind some owners: their records' fields lie in bs; n of the records are listed. -/
structure M1 (w0 w : World) (q p cb : Nat) (vr v : Nat → Value) (bs : List Nat) (n : Nat) : Prop where
  rw_ : Rw w q (.pointer (some ⟨p, 0, none⟩)) (.map (some cb)) vr (lenW 0 n) (rowW [] n)
  pt : Parts w p v (mk4 bs)
  ow : w.ownsMap Tryz.prog 113 R1 cb 0 (.map [])
  cn : cb ∉ foot p v
  dj : ∀ b ∈ foot q vr, b ∉ cb :: foot p v
  f1 : ∀ b ∈ foot q vr, w0.heap.size ≤ b
  f2 : ∀ b ∈ cb :: foot p v, w0.heap.size ≤ b
  bel : Up w0 w
theorem M1.up {w0 w w1 : World} {q p cb n : Nat} {vr v : Nat → Value} {bs : List Nat} (h : M1 w0 w q p cb vr v bs n) (u : Up w w1) : M1 w0 w1 q p cb vr v bs n :=
  ⟨h.rw_.up u, h.pt.up u, map_chg h.ow u.chg (by simp), h.cn, h.dj, h.f1, h.f2, h.bel.trans u⟩
theorem M1.start (w : World) : M1 w (((w.alloc (.cells #[.slice none 0 0, .slice none 0 0, .slice none 0 0, .slice none 0 0] 120)).alloc (.map #[] 0)).alloc (.cells #[.pointer (some ⟨w.heap.size, 0, none⟩), .map (some (w.heap.size + 1)), .slice none 0 0, .slice none 0 0, .slice none 0 0, .slice none 0 0] 39)) (w.heap.size + 1 + 1) w.heap.size (w.heap.size + 1) (fun _ => .slice none 0 0) (fun _ => .slice none 0 0) [] 0 := by
  obtain ⟨pt1, fo1⟩ := sb.start_parts w
  have own1 : ((w.alloc (.cells #[.slice none 0 0, .slice none 0 0, .slice none 0 0, .slice none 0 0] 120)).alloc (.map #[] 0)).ownsMap Tryz.prog 113 R1 (w.alloc (.cells #[.slice none 0 0, .slice none 0 0, .slice none 0 0, .slice none 0 0] 120)).heap.size 0 (.map []) := World.ownsMap_made (H := Nat) _ Tryz.prog 113 R1
  rw [World.size_alloc] at own1
  have nf : ∀ b, b ∈ foot w.heap.size (fun _ => Value.slice none 0 0) → b = w.heap.size := fun b hb => by
    rcases mem_foot.1 hb with h | ⟨i, hi, h⟩
    · exact h
    · simp [Value.ownBlock] at h
  have nq : ∀ b, b ∈ foot (w.heap.size + 1 + 1) (fun _ => Value.slice none 0 0) → b = w.heap.size + 1 + 1 := fun b hb => by
    rcases mem_foot.1 hb with h | ⟨i, hi, h⟩
    · exact h
    · simp [Value.ownBlock] at h
  have z : ((w.alloc (.cells #[.slice none 0 0, .slice none 0 0, .slice none 0 0, .slice none 0 0] 120)).alloc (.map #[] 0)).heap.size = w.heap.size + 1 + 1 := by simp
  refine ⟨⟨?_, fun i hi => ?_, fun i j b hi hj h => by simp [Value.ownBlock] at h, fun i hi => by simp [Value.ownBlock]⟩, pt1.up (((Up.refl _).alloc _).alloc _), map_chg own1 ((Up.refl _).alloc _).chg (by simp), fun hx => by have := nf _ hx; omega, fun b hb hx => ?_, fun b hb => by have := nq b hb; omega, fun b hb => ?_, (((Up.refl _).alloc _).alloc _).alloc _⟩
  · have h := heap_alloc_new ((w.alloc (.cells #[.slice none 0 0, .slice none 0 0, .slice none 0 0, .slice none 0 0] 120)).alloc (.map #[] 0)) (.cells #[.pointer (some ⟨w.heap.size, 0, none⟩), .map (some (w.heap.size + 1)), .slice none 0 0, .slice none 0 0, .slice none 0 0, .slice none 0 0] 39)
    rw [z] at h
    exact h
  · have e : lenW 0 0 i = 0 := by unfold lenW; split <;> rfl
    have e2 : rowW [] 0 i = [] := by unfold rowW; split <;> rfl
    rw [e, e2]
    exact ⟨by simp, .inl ⟨rfl, rfl⟩⟩
  · have h1 := nq b hb
    rcases List.mem_cons.1 hx with h2 | h2
    · omega
    · have := nf b h2; omega
  · rcases List.mem_cons.1 hb with h2 | h2
    · omega
    · have := nf b h2; omega
theorem M1.put {w0 w w1 : World} {q p cb n : Nat} {vr v v1 : Nat → Value} {bs bs' : List Nat} (h : M1 w0 w q p cb vr v bs n) (pt : Parts w1 p v1 (mk4 bs')) (c : Chg (foot p v) w w1) (fb : ∀ b ∈ foot p v1, b ∈ foot p v ∨ w.heap.size ≤ b) : M1 w0 w1 q p cb vr v1 bs' n := by
  have z := h.bel.size
  have hlt := h.ow.lt
  refine ⟨h.rw_.chg c (fun b hb hx => h.dj b hb (List.mem_cons_of_mem _ hx)), pt, map_chg h.ow c h.cn, fun hx => ?_, fun b hb hx => ?_, h.f1, fun b hb => ?_, Below.trans h.bel (c.below z (fun b hb => h.f2 b (List.mem_cons_of_mem _ hb)))⟩
  · rcases fb cb hx with h1 | h1
    · exact h.cn h1
    · omega
  · rcases List.mem_cons.1 hx with h1 | h1
    · exact h.dj b hb (by rw [h1]; exact List.mem_cons_self ..)
    · rcases fb b h1 with h2 | h2
      · exact h.dj b hb (List.mem_cons_of_mem _ h2)
      · have := h.rw_.lt b hb; omega
  · rcases List.mem_cons.1 hb with h1 | h1
    · exact h.f2 b (by rw [h1]; exact List.mem_cons_self ..)
    · rcases fb b h1 with h2 | h2
      · exact h.f2 b (List.mem_cons_of_mem _ h2)
      · omega
/-- Listed. -/
theorem M1.obj {w0 w wx w1 : World} {q p cb n g c H : Nat} {vr v : Nat → Value} {bs : List Nat} (h : M1 w0 w q p cb vr v bs n) (u : Up w wx) (hrow : w1.ownsRow 0 41 1 (.slice (some ⟨g, 0, none⟩) (n + 1) c) (n + 1) (rowW [] n 1 ++ [.int .u64 (4294967296 + (n : Int))])) (hg : wx.grownBy w1 (vr 1).ownBlock) (at_ : (vr 1).ownBlock = some g ∨ g = H) (hH : wx.heap.size = H) :
    ∃ vr', M1 w0 (w1.setCell ⟨q, 3, none⟩ (.slice (some ⟨g, 0, none⟩) (n + 1) c)) q p cb vr' v bs (n + 1) := by
  subst hH
  have H0 := h.up u
  have z := H0.bel.size
  obtain ⟨h1, h2, h3⟩ := H0.rw_.put (N' := lenW 0 (n + 1)) (X' := rowW [] (n + 1)) 1 (by omega) hg (.slice (some ⟨g, 0, none⟩) (n + 1) c) g rfl (at_.imp id (fun e => by omega)) (by
      show w1.ownsRow 0 _ 1 _ (n + 1) ((List.range (n + 1)).map _)
      rw [List.range_succ, List.map_append]
      exact hrow) (fun j hj hne => by rcases (by omega : j = 0 ∨ j = 2 ∨ j = 3) with rfl | rfl | rfl <;> exact ⟨rfl, rfl⟩)
  refine ⟨_, h1, H0.pt.chg h2 (fun b hb hx => H0.dj b hx (List.mem_cons_of_mem _ hb)), map_chg H0.ow h2 (fun hx => H0.dj cb hx (List.mem_cons_self ..)), H0.cn, fun b hb hx => ?_, fun b hb => ?_, H0.f2, Below.trans H0.bel (h2.below z H0.f1)⟩
  · rcases h3 b hb with h4 | h4
    · exact H0.dj b h4 hx
    · rcases List.mem_cons.1 hx with h5 | h5
      · have := H0.ow.lt; omega
      · have := H0.pt.lt b h5; omega
  · rcases h3 b hb with h4 | h4
    · exact H0.f1 b h4
    · omega
theorem M1.done {w0 w : World} {q p cb : Nat} {vr v : Nat → Value} {bs : List Nat} (h : M1 w0 w q p cb vr v bs 4) (hb : bs.length = 4) : St w0 w q p cb vr v (mk4 bs) none2 [] 59 0 :=
  ⟨h.rw_, ⟨h.pt, (room4 bs (by omega) 59 (by decide)).2, fun n hn => quo4 bs n 59 (by omega) (by decide), ⟨0, _, by decide, h.ow, CacheIs.nil⟩, h.cn, net4 bs (by omega) []⟩, h.dj, h.f1, h.f2, by simp, h.bel⟩
/-- Behind the three appends. -/
theorem St.fin {w0 w W : World} {q p cb g0 g2 g3 c0 c2 c3 : Nat} {vr v : Nat → Value} {bs : List Nat} {L : List Mb} {sa sb : Int} (h : St w0 w q p cb vr v (mk4 bs) none2 L 59 0)
    (hI : I3 w W q (.pointer (some ⟨p, 0, none⟩)) (.map (some cb)) vr (upd (upd (upd vr 0 (.slice (some ⟨g0, 0, none⟩) (L.length + 1) c0)) 2 (.slice (some ⟨g2, 0, none⟩) (L.length + 1) c2)) 3 (.slice (some ⟨g3, 0, none⟩) (L.length + 1) c3)) (updN (updN (updN (lenW L.length 4) 0 (L.length + 1)) 2 (L.length + 1)) 3 (L.length + 1))
      (updX (updX (updX (rowW L 4) 0 (rowW L 4 0 ++ [.int .i64 sa, .int .i64 sb, .bool false])) 2 (rowW L 4 2 ++ [.int .i64 sa, .int .i64 sb])) 3 (rowW L 4 3 ++ [.bool false]))) (hb : bs.length = 4) (hs : (0 ≤ sa ∧ sa < 4) ∧ (0 ≤ sb ∧ sb < 4)) :
    ∃ vr', St w0 (((W.setCell ⟨q, 2, none⟩ (.slice (some ⟨g0, 0, none⟩) (L.length + 1) c0)).setCell ⟨q, 4, none⟩ (.slice (some ⟨g2, 0, none⟩) (L.length + 1) c2)).setCell ⟨q, 5, none⟩ (.slice (some ⟨g3, 0, none⟩) (L.length + 1) c3)) q p cb vr' v (mk4 bs) none2 (L ++ [(sa, sb, false)]) 59 0 := by
  have H := h
  obtain ⟨h1, h2, h3⟩ := hI.done rfl
  have z := H.bel.size
  refine ⟨_, ⟨h1.hd, fun i hi => ?_, h1.ap, h1.pp⟩, ?_, fun b hb hx => ?_, fun b hb => ?_, H.f2, fun m hm => ?_, Below.trans H.bel (h2.below z H.f1)⟩
  · have := h1.ow i hi
    rw [List.length_append]
    rcases (by omega : i = 0 ∨ i = 1 ∨ i = 2 ∨ i = 3) with rfl | rfl | rfl | rfl
    · show World.ownsRow _ 0 _ _ _ (L.length + 1) ((L ++ [(sa, sb, false)]).flatMap cellsM)
      rw [List.flatMap_append]
      exact this
    · exact this
    · show World.ownsRow _ 0 _ _ _ (L.length + 1) ((L ++ [(sa, sb, false)]).flatMap _)
      rw [List.flatMap_append]
      exact this
    · show World.ownsRow _ 0 _ _ _ (L.length + 1) ((L ++ [(sa, sb, false)]).map _)
      rw [List.map_append]
      exact this
  · have hw := H.wr.chg h2 (fun b hb hx => H.dj b hx hb)
    exact ⟨hw.pt, hw.rm, hw.qu, hw.ow, hw.cn, net4 bs (by omega) _⟩
  · rcases h3 b hb with h4 | h4
    · exact H.dj b h4 hx
    · have := H.wr.lt b hx; omega
  · rcases h3 b hb with h4 | h4
    · exact H.f1 b h4
    · omega
  · rcases List.mem_append.1 hm with h4 | h4
    · exact H.sd m h4
    · rw [List.mem_singleton.1 h4]; exact hs
theorem fin2 {w0 w W : World} {q p cb g0 g2 g3 c0 c2 c3 t n : Nat} {vr v : Nat → Value} {bs : List Nat} {L : List Mb} {sa sb : Int} {ps : Nat → Int × Int} {i : Value} (h : St w0 w q p cb vr v (mk4 bs) none2 L 59 0)
    (hI : I3 w W q (.pointer (some ⟨p, 0, none⟩)) (.map (some cb)) vr (upd (upd (upd vr 0 (.slice (some ⟨g0, 0, none⟩) (L.length + 1) c0)) 2 (.slice (some ⟨g2, 0, none⟩) (L.length + 1) c2)) 3 (.slice (some ⟨g3, 0, none⟩) (L.length + 1) c3)) (updN (updN (updN (lenW L.length 4) 0 (L.length + 1)) 2 (L.length + 1)) 3 (L.length + 1))
      (updX (updX (updX (rowW L 4) 0 (rowW L 4 0 ++ [.int .i64 sa, .int .i64 sb, .bool false])) 2 (rowW L 4 2 ++ [.int .i64 sa, .int .i64 sb])) 3 (rowW L 4 3 ++ [.bool false]))) (hb : bs.length = 4) (hs : (0 ≤ sa ∧ sa < 4) ∧ (0 ≤ sb ∧ sb < 4)) (hL : L = (List.range t).map fun i => sideOf (ps i)) (hLt : L.length = t) (hse : sideOf (ps t) = (sa, sb, false)) (hlt : t < n) (hi : i = .int .i64 ((t + 1 : Nat) : Int)) :
    ∃ (t : Nat) (vr : Nat → Value), t ≤ n ∧ i = .int .i64 t ∧ St w0 (((W.setCell ⟨q, 2, none⟩ (.slice (some ⟨g0, 0, none⟩) (L.length + 1) c0)).setCell ⟨q, 4, none⟩ (.slice (some ⟨g2, 0, none⟩) (L.length + 1) c2)).setCell ⟨q, 5, none⟩ (.slice (some ⟨g3, 0, none⟩) (L.length + 1) c3)) q p cb vr v (mk4 bs) none2 ((List.range t).map fun i => sideOf (ps i)) 59 0 := by
  obtain ⟨vr', hv⟩ := h.fin hI hb hs
  exact ⟨t + 1, vr', by omega, hi, by rw [List.range_succ, List.map_append, ← hL]; show St w0 _ _ _ _ _ _ _ _ (L ++ [sideOf (ps t)]) _ _; rw [hse]; exact hv⟩
theorem infoMb : (Tryz.prog.info? 48).map (fun i => (i.zero, i.size, i.bytes)) = some (some (.agg #[.int .i64 0, .int .i64 0, .bool false]), 3, 24) := by kernel_rfl
theorem infoP2 : (Tryz.prog.info? 46).map (fun i => (i.zero, i.size, i.bytes)) = some (some (.agg #[.int .i64 0, .int .i64 0]), 2, 16) := by kernel_rfl
theorem infoBl : (Tryz.prog.info? 4).map (fun i => (i.zero, i.size, i.bytes)) = some (some (.bool false), 1, 1) := by kernel_rfl
theorem infoRf : (Tryz.prog.info? 41).map (fun i => (i.zero, i.size, i.bytes)) = some (some (.int .u64 0), 1, 8) := by kernel_rfl
theorem make_walk (pa : Option Addr) (n cap : Nat) (ps : Nat → Int × Int) (w : World) (hn : n ≤ 6) (hp : n = 0 ∨ ∃ b off, pa = some ⟨b, off, none⟩ ∧ b < w.heap.size ∧ ∀ i, i < n → P2At w b (off + i * 2) (ps i)) :
    Calls Tryz.prog 8 #[.slice pa n cap] w fun e w' => ∃ (q p cb : Nat) (vr v : Nat → Value) (bs : List Nat), e = .returned (.pointer (some ⟨q, 0, none⟩)) ∧ bs.length = 4 ∧ St w w' q p cb vr v (mk4 bs) none2 ((List.range n).map fun i => sideOf (ps i)) 59 0 := by
  have hmm := @run_makeMap Tryz.prog
  have HPS := Lib.hid hp
  clear hp
  go_enter Tryz.func8, Tryz.ntmps8
  go_upto_region 2 with (go_at_call 33; refine (new_arena _).mono ?_; rintro e w1 ⟨rfl, rfl⟩)
  have ST := Lib.hid (M1.start w)
  clear hmm
  generalize World.alloc _ (.cells #[.pointer (some ⟨w.heap.size, 0, none⟩), .map (some (w.heap.size + 1)), .slice none 0 0, .slice none 0 0, .slice none 0 0, .slice none 0 0] 39) = W3 at *
  generalize w.heap.size + 1 + 1 = q at ST ⊢
  generalize w.heap.size + 1 = cb at ST ⊢
  generalize w.heap.size = p at ST ⊢
  go_wp2_with fail
  go_loopw [15] (fun i wr => ∃ (t : Nat) (vr v : Nat → Value) (bs : List Nat), t ≤ 4 ∧ bs.length = t ∧ i = .int .i64 t ∧ M1 w wr q p cb vr v bs t) (fun i _ => 4 - (intOf i).toNat)
  case atStart => exact ⟨0, _, _, [], by omega, rfl, rfl, ST.out⟩
  case round =>
    obtain ⟨t, vr, v, bs, ht, hbs, rfl, hM⟩ := hrel
    have MM := Lib.hid hM
    clear hM ST
    by_cases hlt : t < 4
    · have it0 : (t : Int) < 4 := by omega
      have q0 : wr.cell? ⟨q, 0, none⟩ = some (.pointer (some ⟨p, 0, none⟩)) := MM.out.rw_.hd.cell 0
      have P1 := Lib.hid (owner_any wr p v (mk4 bs) 60 MM.out.pt (by decide) (by show (bs.map _).length < 1000; simp; omega) (by show (bs.map _).length = (bs.map _).length; simp))
      go_upto_region 6 with (go_at_call 26; refine P1.out.mono ?_; rintro e w1 ⟨v1, rfl, hP1, hC1, hF1⟩)
      clear P1
      have q1 : w1.cell? ⟨q, 0, none⟩ = some (.pointer (some ⟨p, 0, none⟩)) := (hC1.cell (MM.out.rw_.lt q foot_p) (fun hx => MM.out.dj q foot_p (List.mem_cons_of_mem _ hx))).trans q0
      clear q0
      have hqp : Hid (q ∉ foot p v1) := fun hx => by
        rcases hF1 q hx with h1 | h1
        · exact MM.out.dj q foot_p (List.mem_cons_of_mem _ h1)
        · have := MM.out.rw_.lt q foot_p; omega
      have hqw : Hid (q < w1.heap.size) := Nat.lt_of_lt_of_le (MM.out.rw_.lt q foot_p) hC1.size
      have HP1 := Lib.hid (And.intro hP1 (And.intro hC1 hF1))
      clear hP1 hC1 hF1
      have NX : Hid (∀ wx, Calls Tryz.prog 34 #[.int .i64 t] wx fun e w' => ∃ bm, e = .returned (.agg #[.int .u8 0, .int .i64 t, .bool false, .map (some bm), .int .i64 0, .int .i64 0, .slice none 0 0, .int .u64 0, .int .u8 0, .int .i64 0, .string ⟨#[]⟩, .int .i64 0, .int .u64 0, .int .i64 0]) ∧ Up wx w') := fun wx => (new_any t wx).mono (fun e w' ⟨bm, h1, h2, _⟩ => ⟨bm, h1, h2⟩)
      have PX : Hid (∀ wx (bm : Nat), Up w1 wx → Calls Tryz.prog 27 #[.pointer (some ⟨p, 0, none⟩), .agg (recOb t bm).cells.toArray] wx fun e w' => ∃ v', e = .returned (.tuple #[.int .u64 (4294967296 + (t : Int)), .int .i64 0]) ∧ (Parts w' p v' (mk4 (bs ++ [bm])) ∧ Chg (foot p v1) w1 w' ∧ ∀ b ∈ foot p v', b ∈ foot p v1 ∨ w1.heap.size ≤ b) ∧ w'.cell? ⟨q, 0, none⟩ = w1.cell? ⟨q, 0, none⟩) := by
        intro wx bm hx
        refine (put_k wx p v1 (mk4o bs) (recOb t bm) (HP1.out.1.up hx) t 8 8 rfl (room4 bs (by omega) 9 (by decide)).1 (by rw [← hbs]; exact quo4o bs 9 (by decide))).mono ?_
        rintro e w' ⟨v', rfl, h1, h2, h3⟩
        rw [← hbs] at h1
        rw [add4] at h1
        have C := (hx.chg.mono (G := foot p v1) (by simp)).trans h2 (fun x hx => .inl hx)
        refine ⟨v', by rw [name4, hbs, Int.natCast_add]; rfl, ⟨h1, C, fun b hb => ?_⟩, C.cell (p := ⟨q, 0, none⟩) hqw.out hqp.out⟩
        rcases h3 b hb with h4 | h4
        · exact .inl h4
        · exact .inr (Nat.le_trans hx.size h4)
      simp only [recOb, Ob.cells, zero3] at PX
      go_cut [5] from 23 to 32 (fun r wx => r = .int .u64 (4294967296 + (t : Int)) ∧ ∃ (v3 : Nat → Value) (bm : Nat), M1 w wx q p cb vr v3 (bs ++ [bm]) t)
      case first =>
        go_region_held3 (fun w' => w'.cell? ⟨q, 0, none⟩ = some (.pointer (some ⟨p, 0, none⟩)))
          ((first | assumption | (refine up_cell ?_ q1; assumption) | (refine Eq.trans ?_ q1; assumption)))
          (first
            | (go_at_call 34; refine (NX.out _).mono ?_; rintro e w2 ⟨bm, rfl, hU2⟩; have hU3 : Up w1 w2 := Up.trans (by first | exact Up.refl _ | exact (Up.refl _).drew) hU2)
            | (go_at_call 27; refine (PX.out _ _ ?_).mono ?_; (· assumption); rintro e w3 ⟨v3, rfl, hP3, hq3⟩))
        all_goals
          go_wp2_with fail
          go_meet
          exact ⟨rfl, v3, bm, MM.out.put hP3.1 (HP1.out.2.1.trans hP3.2.1 HP1.out.2.2) (fun b hb => by
            rcases hP3.2.2 b hb with h1 | h1
            · exact HP1.out.2.2 b h1
            · exact .inr (Nat.le_trans HP1.out.2.1.size h1))⟩
      case rest =>
        obtain ⟨rfl, v3, bm, hM3⟩ := hcut
        clear PX NX HP1 q1 hqp hqw MM
        have q3 : wc.cell? ⟨q, 3, none⟩ = some (vr 1) := (hM3.rw_.cell 1 (by decide)).1
        have f3 : wc.frozen? ⟨q, 3, none⟩ = false := (hM3.rw_.cell 1 (by decide)).2
        have hq0 : q < wc.heap.size := hM3.rw_.lt q foot_p
        have HNQ : Hid (some q ≠ (vr 1).ownBlock) := fun e => hM3.rw_.pp 1 (by decide) e.symm
        have MM := Lib.hid hM3
        clear hM3
        obtain ⟨ir, hi, hz0, hz1, hz2⟩ := info_parts infoRf
        have HI := Lib.hid (And.intro hi (And.intro hz0 (And.intro hz1 hz2)))
        clear hi hz0 hz1 hz2
        go_wp2_with (at_builtin; go_loud (refine wpList_append_lies _ rfl (.tmp 37) (.tmp 39) 35 rfl 0 41 ir (.int .u64 0) 1 8 Tryz.underlying35 HI.out.1 HI.out.2.1 HI.out.2.2.1 HI.out.2.2.2 rfl (by decide) (vr 1) t (rowW [] t 1) rfl ((MM.out.rw_.ow 1 (by decide)).alloc _) ⟨wc.heap.size, 0, none⟩ 1 1 [.int .u64 (4294967296 + (t : Int))] rfl rfl (World.news_of_block (cs := #[.int .u64 (4294967296 + (t : Int))]) (t := 41) (fr := (0, 0)) (by exact heap_alloc_new wc _)) (by intro u hu; simp at hu; subst hu; rfl) (by decide) (by unfold maxLen; omega) (by omega) (by omega) (wc.heap.size + 1) (by simp) ?_; intro g1 cap1 w5 hown5 hgrow5 hat5 hlt5; have y1 : w5.frozen? ⟨q, 3, none⟩ = false := (hgrow5.frozen_far ⟨q, 3, none⟩ (by first | omega | (show q < _; simp; omega)) HNQ.out).trans ((World.frozen?_alloc_past _ _ _ (by first | omega | (simp; omega) | (show q < _; omega))).trans f3); have y2 : w5.cell? ⟨q, 3, none⟩ = some (vr 1) := (hgrow5.cell_far ⟨q, 3, none⟩ (by first | omega | (show q < _; simp; omega)) HNQ.out).trans ((World.cell?_alloc_lt _ _ _ (by first | omega | (simp; omega) | (show q < _; omega))).trans q3); have HG := Lib.hid (And.intro hown5 (And.intro hgrow5 hat5)); clear hown5 hgrow5 hat5 hlt5))
        go_roundw
        case rel =>
          obtain ⟨vr', h1⟩ := MM.out.obj ((Up.refl wc).alloc (.cells #[.int .u64 (4294967296 + (t : Int))] 41)) HG.out.1 HG.out.2.1 HG.out.2.2 (by simp)
          exact ⟨t + 1, vr', v3, bs ++ [bm], by omega, by simp [hbs], by go_num, h1⟩
        case measure => simp [intOf]; omega
    · have hte : t = 4 := by omega
      subst hte
      have SS := Lib.hid (MM.out.done hbs)
      clear MM
      go_wp2_with fail
      go_loopw [46] (fun i wr => ∃ (t : Nat) (vr : Nat → Value), t ≤ n ∧ i = .int .i64 t ∧ St w wr q p cb vr v (mk4 bs) none2 ((List.range t).map fun i => sideOf (ps i)) 59 0) (fun i _ => n - (intOf i).toNat)
      case atStart => exact ⟨0, vr, by omega, rfl, SS.out⟩
      case round =>
        obtain ⟨t, vr, ht, rfl, hS⟩ := hrel
        clear SS
        have SS := Lib.hid hS
        clear hS
        by_cases hlt : t < n
        · obtain ⟨pb, off, rfl, hpb, hpp⟩ := HPS.out.resolve_left (by omega)
          obtain ⟨x0, x1, y0, y1, y2, y3⟩ := hpp t hlt
          have c0 := up_cell SS.out.bel x0
          have c1 := up_cell SS.out.bel x1
          obtain ⟨x, hx⟩ : ∃ x, x = ps t := ⟨_, rfl⟩
          rw [← hx] at c0 c1 y0 y1 y2 y3
          have HX := Lib.hid hx
          clear x0 x1 hx hpp
          obtain ⟨xa, xb⟩ := x
          simp only at c0 c1 y0 y1 y2 y3
          have it0 : (t : Int) < (n : Int) := by omega
          have hpbw : pb < wr.heap.size := Nat.lt_of_lt_of_le hpb SS.out.bel.size
          go_wp2_with fail
          have hU0 : Up wr (wr.alloc (.cells #[.int .u8 xa, .int .u8 xb] 106)) := (Up.refl wr).alloc _
          go_quiet (fail)
          have hUq := up_drewN hU0 nq
          have E1 : Hid ((sideOf (xa, xb)).1 = xa % 4) := rfl
          have E2 : Hid ((sideOf (xa, xb)).2.1 = if xa % 4 = xb % 4 then (xa % 4 + 1) % 4 else xb % 4) := rfl
          have b0 : 0 ≤ xa % 4 ∧ xa % 4 < 4 := by omega
          obtain ⟨b0, b1⟩ := b0
          generalize xa % 4 = a at *
          generalize xb % 4 = b at *
          generalize World.drewN _ nq = wq at *
          clear c0 c1 y0 y1 y2 y3
          go_upto_if 60 with (fail)
          go_cut [10, 60] from 61 to 63 (fun r c wx => r = .int .i64 (sideOf (xa, xb)).2.1 ∧ wx = wq)
          case first =>
            by_cases he : a = b
            · subst he
              have hw : IntKind.i64.wrap (a + 1) = a + 1 := by rw [IntKind.wrap_i64] <;> omega
              have ht1 : (a + 1).tmod 4 = (a + 1) % 4 := Int.tmod_eq_emod_of_nonneg (by omega)
              have hw2 : IntKind.i64.wrap ((a + 1) % 4) = (a + 1) % 4 := by rw [IntKind.wrap_i64] <;> omega
              have E3 : Hid ((sideOf (xa, xb)).2.1 = (a + 1) % 4) := Lib.hid (E2.out.trans (if_pos rfl))
              clear E1 E2
              go_wp2_with fail
              go_meet
              exact ⟨by rw [E3.out], rfl⟩
            · have he2 : (a == b) = false := by simpa using he
              have E3 : Hid ((sideOf (xa, xb)).2.1 = b) := Lib.hid (E2.out.trans (if_neg he))
              clear E1 E2
              go_wp2_with fail
              go_meet
              exact ⟨by rw [E3.out], rfl⟩
          case rest =>
            obtain ⟨rfl, rfl⟩ := hcut
            rw [← E1.out]
            clear E1 E2 b0 b1
            have hU1 := hUq
            have SC := Lib.hid (SS.out.up hU1)
            clear SS hU0 hUq hU1
            obtain ⟨sa, hsa⟩ : ∃ sa, sa = (sideOf (xa, xb)).1 := ⟨_, rfl⟩
            obtain ⟨sc, hsb⟩ : ∃ sc, sc = (sideOf (xa, xb)).2.1 := ⟨_, rfl⟩
            rw [← hsa, ← hsb]
            have HSD : Hid ((0 ≤ sa ∧ sa < 4) ∧ (0 ≤ sc ∧ sc < 4)) := by rw [hsa, hsb]; exact sideOf_lt _
            have HSE : Hid (sideOf (ps t) = (sa, sc, false)) := by rw [← HX.out, hsa, hsb]; rfl
            clear hsa hsb
            obtain ⟨L, hL⟩ : ∃ L, L = (List.range t).map fun i => sideOf (ps i) := ⟨_, rfl⟩
            rw [← hL] at SC
            have hLt : L.length = t := by rw [hL]; simp
            have HL := Lib.hid (And.intro hL hLt)
            have HX1 : Hid (L.length + 1 ≤ maxLen ∧ ∀ y, y ≤ 24 → (L.length + 1) * y ≤ 140737488355328) := ⟨by unfold maxLen; omega, fun y hy => Nat.le_trans (Nat.mul_le_mul (show L.length + 1 ≤ 7 by omega) hy) (by decide)⟩
            clear hL hLt
            go_wp2_with fail
            obtain ⟨iM, hi, hz0, hz1, hz2⟩ := info_parts infoMb
            have HIM := Lib.hid (And.intro hi (And.intro hz0 (And.intro hz1 hz2)))
            clear hi hz0 hz1 hz2
            obtain ⟨iP, hi, hz0, hz1, hz2⟩ := info_parts infoP2
            have HIP := Lib.hid (And.intro hi (And.intro hz0 (And.intro hz1 hz2)))
            clear hi hz0 hz1 hz2
            obtain ⟨iB, hi, hz0, hz1, hz2⟩ := info_parts infoBl
            have HIB := Lib.hid (And.intro hi (And.intro hz0 (And.intro hz1 hz2)))
            clear hi hz0 hz1 hz2
            have HI := Lib.hid ((I3.start SC.out.rw_).drew)
            refine AnyT.start (S := fun w' => w'.cell? ⟨q, 2, none⟩ = some (vr 0) ∧ w'.cell? ⟨q, 4, none⟩ = some (vr 2) ∧ w'.cell? ⟨q, 5, none⟩ = some (vr 3) ∧ w'.frozen? ⟨q, 2, none⟩ = false ∧ w'.frozen? ⟨q, 4, none⟩ = false ∧ w'.frozen? ⟨q, 5, none⟩ = false) 28 (by kernel_rfl) HI.out.held (fun hHeld => ?_)
            generalize World.drew wc = W0 at *
            refine AnyT.pick (i := 0) (oi := ⟨_, _, _, _, _, _⟩) (v := ?_) rfl (by kernel_rfl) (by kernel_rfl) (by kernel_rfl) (fun _ _ _ h => h) (Or.inl ⟨by rfl, ?y0_1⟩) ?_
            case' y0_1 => ((intro w hSw; go_simp) <;> (with_reducible rfl))
            try simp only [Act.put, List.setIfInBounds_toArray, List.set_cons_zero, List.set_cons_succ]
            refine AnyT.pick (i := 1) (oi := ⟨_, _, _, _, _, _⟩) (v := ?_) rfl (by kernel_rfl) (by kernel_rfl) (by kernel_rfl) (fun _ _ _ h => h) (Or.inl ⟨by rfl, ?y1_2⟩) ?_
            case' y1_2 => ((intro w hSw; go_simp) <;> (with_reducible rfl))
            try simp only [Act.put, List.setIfInBounds_toArray, List.set_cons_zero, List.set_cons_succ]
            refine AnyT.pick (i := 2) (oi := ⟨_, _, _, _, _, _⟩) (v := ?_) rfl (by kernel_rfl) (by kernel_rfl) (by kernel_rfl) (fun _ _ _ h => h) (Or.inl ⟨by rfl, ?y2_3⟩) ?_
            case' y2_3 => ((intro w hSw; go_simp) <;> (with_reducible rfl))
            try simp only [Act.put, List.setIfInBounds_toArray, List.set_cons_zero, List.set_cons_succ]
            refine AnyT.pick (i := 3) (oi := ⟨_, _, _, _, _, _⟩) (v := ?_) rfl (by kernel_rfl) (by kernel_rfl) (by kernel_rfl) (fun _ _ _ h => h) (Or.inl ⟨by rfl, ?y3_4⟩) ?_
            case' y3_4 => ((intro w hSw; go_simp) <;> (with_reducible rfl))
            try simp only [Act.put, List.setIfInBounds_toArray, List.set_cons_zero, List.set_cons_succ]
            refine AnyT.pick (i := 4) (oi := ⟨_, _, _, _, _, _⟩) (v := ?_) rfl (by kernel_rfl) (by kernel_rfl) (by kernel_rfl) (fun _ _ _ h => h) (Or.inl ⟨by rfl, ?y4_5⟩) ?_
            case' y4_5 => ((intro w hSw; go_simp) <;> (with_reducible rfl))
            try simp only [Act.put, List.setIfInBounds_toArray, List.set_cons_zero, List.set_cons_succ]
            refine AnyT.pick (i := 5) (oi := ⟨_, _, _, _, _, _⟩) (v := ?_) rfl (by kernel_rfl) (by kernel_rfl) (by kernel_rfl) (fun _ _ _ h => h) (Or.inl ⟨by rfl, ?y5_6⟩) ?_
            case' y5_6 => ((intro w hSw; go_simp) <;> (with_reducible rfl))
            try simp only [Act.put, List.setIfInBounds_toArray, List.set_cons_zero, List.set_cons_succ]
            refine AnyT.take (i := 6) (oi := ⟨_, _, _, _, _, _⟩) (v := ?_) rfl (by kernel_rfl) (by kernel_rfl) (by kernel_rfl) (by kernel_rfl) (fun _ _ _ h => h) (Or.inl ⟨by rfl, ?y6_7⟩) (by assumption) ?_
            case' y6_7 => ((intro w hSw; (try dsimp only at hSw); go_simp) <;> (with_reducible rfl))
            try simp only [Act.put, List.setIfInBounds_toArray, List.set_cons_zero, List.set_cons_succ]
            refine AnyT.pick (i := 7) (oi := ⟨_, _, _, _, _, _⟩) (v := ?_) rfl (by kernel_rfl) (by kernel_rfl) (by kernel_rfl) (fun _ _ _ h => h) (Or.inl ⟨by rfl, ?y7_8⟩) ?_
            case' y7_8 => ((intro w hSw; go_simp) <;> (with_reducible rfl))
            try simp only [Act.put, List.setIfInBounds_toArray, List.set_cons_zero, List.set_cons_succ]
            refine AnyT.pick (i := 8) (oi := ⟨_, _, _, _, _, _⟩) (v := ?_) rfl (by kernel_rfl) (by kernel_rfl) (by kernel_rfl) (fun _ _ _ h => h) (Or.inl ⟨by rfl, ?y8_9⟩) ?_
            case' y8_9 => ((intro w hSw; go_simp) <;> (with_reducible rfl))
            try simp only [Act.put, List.setIfInBounds_toArray, List.set_cons_zero, List.set_cons_succ]
            refine AnyT.pick (i := 9) (oi := ⟨_, _, _, _, _, _⟩) (v := ?_) rfl (by kernel_rfl) (by kernel_rfl) (by kernel_rfl) (fun _ _ _ h => h) (Or.inl ⟨by rfl, ?y9_10⟩) ?_
            case' y9_10 => ((intro w hSw; go_simp) <;> (with_reducible rfl))
            try simp only [Act.put, List.setIfInBounds_toArray, List.set_cons_zero, List.set_cons_succ]
            refine AnyT.pick (i := 10) (oi := ⟨_, _, _, _, _, _⟩) (v := ?_) rfl (by kernel_rfl) (by kernel_rfl) (by kernel_rfl) (fun _ _ _ h => h) (Or.inl ⟨by rfl, ?y10_11⟩) ?_
            case' y10_11 => ((intro w hSw; go_simp) <;> (with_reducible rfl))
            try simp only [Act.put, List.setIfInBounds_toArray, List.set_cons_zero, List.set_cons_succ]
            refine AnyT.pick (i := 13) (oi := ⟨_, _, _, _, _, _⟩) (v := ?_) rfl (by kernel_rfl) (by kernel_rfl) (by kernel_rfl) (fun _ _ _ h => h) (Or.inl ⟨by rfl, ?y13_12⟩) ?_
            case' y13_12 => ((intro w hSw; go_simp) <;> (with_reducible rfl))
            try simp only [Act.put, List.setIfInBounds_toArray, List.set_cons_zero, List.set_cons_succ]
            refine AnyT.pick (i := 14) (oi := ⟨_, _, _, _, _, _⟩) (v := ?_) rfl (by kernel_rfl) (by kernel_rfl) (by kernel_rfl) (fun _ _ _ h => h) (Or.inl ⟨by rfl, ?y14_13⟩) ?_
            case' y14_13 => ((intro w hSw; go_simp) <;> (with_reducible rfl))
            try simp only [Act.put, List.setIfInBounds_toArray, List.set_cons_zero, List.set_cons_succ]
            refine AnyT.pick (i := 15) (oi := ⟨_, _, _, _, _, _⟩) (v := ?_) rfl (by kernel_rfl) (by kernel_rfl) (by kernel_rfl) (fun _ _ _ h => h) (Or.inl ⟨by rfl, ?y15_14⟩) ?_
            case' y15_14 => ((intro w hSw; go_simp) <;> (with_reducible rfl))
            try simp only [Act.put, List.setIfInBounds_toArray, List.set_cons_zero, List.set_cons_succ]
            refine AnyT.take (i := 16) (oi := ⟨_, _, _, _, _, _⟩) (v := ?_) rfl (by kernel_rfl) (by kernel_rfl) (by kernel_rfl) (by kernel_rfl) (fun _ _ _ h => h) (Or.inl ⟨by rfl, ?y16_15⟩) (by assumption) ?_
            case' y16_15 => ((intro w hSw; (try dsimp only at hSw); go_simp) <;> (with_reducible rfl))
            try simp only [Act.put, List.setIfInBounds_toArray, List.set_cons_zero, List.set_cons_succ]
            refine AnyT.pick (i := 17) (oi := ⟨_, _, _, _, _, _⟩) (v := ?_) rfl (by kernel_rfl) (by kernel_rfl) (by kernel_rfl) (fun _ _ _ h => h) (Or.inl ⟨by rfl, ?y17_16⟩) ?_
            case' y17_16 => ((intro w hSw; go_simp) <;> (with_reducible rfl))
            try simp only [Act.put, List.setIfInBounds_toArray, List.set_cons_zero, List.set_cons_succ]
            refine AnyT.pick (i := 18) (oi := ⟨_, _, _, _, _, _⟩) (v := ?_) rfl (by kernel_rfl) (by kernel_rfl) (by kernel_rfl) (fun _ _ _ h => h) (Or.inl ⟨by rfl, ?y18_17⟩) ?_
            case' y18_17 => ((intro w hSw; go_simp) <;> (with_reducible rfl))
            try simp only [Act.put, List.setIfInBounds_toArray, List.set_cons_zero, List.set_cons_succ]
            refine AnyT.pick (i := 19) (oi := ⟨_, _, _, _, _, _⟩) (v := ?_) rfl (by kernel_rfl) (by kernel_rfl) (by kernel_rfl) (fun _ _ _ h => h) (Or.inl ⟨by rfl, ?y19_18⟩) ?_
            case' y19_18 => ((intro w hSw; go_simp) <;> (with_reducible rfl))
            try simp only [Act.put, List.setIfInBounds_toArray, List.set_cons_zero, List.set_cons_succ]
            refine AnyT.pick (i := 22) (oi := ⟨_, _, _, _, _, _⟩) (v := ?_) rfl (by kernel_rfl) (by kernel_rfl) (by kernel_rfl) (fun _ _ _ h => h) (Or.inl ⟨by rfl, ?y22_19⟩) ?_
            case' y22_19 => ((intro w hSw; go_simp) <;> (with_reducible rfl))
            try simp only [Act.put, List.setIfInBounds_toArray, List.set_cons_zero, List.set_cons_succ]
            refine AnyT.pick (i := 23) (oi := ⟨_, _, _, _, _, _⟩) (v := ?_) rfl (by kernel_rfl) (by kernel_rfl) (by kernel_rfl) (fun _ _ _ h => h) (Or.inl ⟨by rfl, ?y23_20⟩) ?_
            case' y23_20 => ((intro w hSw; go_simp) <;> (with_reducible rfl))
            try simp only [Act.put, List.setIfInBounds_toArray, List.set_cons_zero, List.set_cons_succ]
            refine AnyT.pick (i := 24) (oi := ⟨_, _, _, _, _, _⟩) (v := ?_) rfl (by kernel_rfl) (by kernel_rfl) (by kernel_rfl) (fun _ _ _ h => h) (Or.inl ⟨by rfl, ?y24_21⟩) ?_
            case' y24_21 => ((intro w hSw; go_simp) <;> (with_reducible rfl))
            try simp only [Act.put, List.setIfInBounds_toArray, List.set_cons_zero, List.set_cons_succ]
            refine AnyT.take (i := 25) (oi := ⟨_, _, _, _, _, _⟩) (v := ?_) rfl (by kernel_rfl) (by kernel_rfl) (by kernel_rfl) (by kernel_rfl) (fun _ _ _ h => h) (Or.inl ⟨by rfl, ?y25_22⟩) (by assumption) ?_
            case' y25_22 => ((intro w hSw; (try dsimp only at hSw); go_simp) <;> (with_reducible rfl))
            try simp only [Act.put, List.setIfInBounds_toArray, List.set_cons_zero, List.set_cons_succ]
            refine AllT.go (rs := [11, 20, 26]) (by kernel_rfl) (by simp) ?_
            refine AllT.early (o := ⟨_, _, _, _, _, _⟩) rfl (fun K hK => ?_) ?_
            · go_simp
              refine hK.out _ _ (I3.held (HI.out.alloc _)) (fun hHeld' => ?_)
              clear hK K hHeld
              have hHeld := hHeld'
              clear hHeld'
              have HI2 := Lib.hid (HI.out.alloc (.cells #[.int .i64 sa, .int .i64 sc, .bool false] 48))
              have PC0 := Lib.hid (Pc.new HI.out #[.int .i64 sa, .int .i64 sc, .bool false] 48)
              clear HI
              have HI := HI2
              clear HI2
              generalize World.alloc W0 (.cells #[.int .i64 sa, .int .i64 sc, .bool false] 48) = W1 at *
              generalize W0.heap.size = x0 at *
              try simp only [Act.put, List.setIfInBounds_toArray, List.set_cons_zero, List.set_cons_succ]
              refine AllT.go (rs := [12, 20, 26]) (by kernel_rfl) (by simp) ?_
              refine AllT.early (o := ⟨_, _, _, _, _, _⟩) rfl (fun K hK => ?_) ?_
              · refine step_append_lies _ rfl (.tmp 70) (.tmp 75) 34 rfl 0 48 _ (.agg #[.int .i64 0, .int .i64 0, .bool false]) 3 24 Tryz.underlying34 HIM.out.1 HIM.out.2.1 HIM.out.2.2.1 HIM.out.2.2.2 rfl (by decide) (vr 0) L.length (rowW L 4 0) rfl (HI.out.ow 0 (by decide)) ⟨x0, 0, none⟩ 1 1 [.int .i64 sa, .int .i64 sc, .bool false] rfl rfl PC0.out.at_ (by intro u hu; simp at hu; rcases hu with rfl | rfl | rfl <;> rfl) (by decide) HX1.out.1 (HX1.out.2 24 (by decide)) (Nat.zero_le _) W1.heap.size rfl ?_
                intro g0 k0 W2 hrow hgrow hat hlt
                have HI2 := Lib.hid (HI.out.app 0 (by decide) hrow hgrow hat rfl)
                clear HI PC0 hrow hgrow hat hlt
                have HI := HI2
                clear HI2
                refine hK.out _ _ HI.out.held (fun hHeld' => ?_)
                clear hK K hHeld
                have hHeld := hHeld'
                clear hHeld'
                try simp only [Act.put, List.setIfInBounds_toArray, List.set_cons_zero, List.set_cons_succ]
                refine AllT.go (rs := [20, 26]) (by kernel_rfl) (by simp) ?_
                refine AllT.early (o := ⟨_, _, _, _, _, _⟩) rfl (fun K hK => ?_) ?_
                · go_simp
                  refine hK.out _ _ (I3.held (HI.out.alloc _)) (fun hHeld' => ?_)
                  clear hK K hHeld
                  have hHeld := hHeld'
                  clear hHeld'
                  have HI2 := Lib.hid (HI.out.alloc (.cells #[.int .i64 sa, .int .i64 sc] 46))
                  have PC1 := Lib.hid (Pc.new HI.out #[.int .i64 sa, .int .i64 sc] 46)
                  clear HI
                  have HI := HI2
                  clear HI2
                  generalize World.alloc W2 (.cells #[.int .i64 sa, .int .i64 sc] 46) = W3 at *
                  generalize W2.heap.size = x1 at *
                  try simp only [Act.put, List.setIfInBounds_toArray, List.set_cons_zero, List.set_cons_succ]
                  refine AllT.go (rs := [21, 26]) (by kernel_rfl) (by simp) ?_
                  refine AllT.early (o := ⟨_, _, _, _, _, _⟩) rfl (fun K hK => ?_) ?_
                  · refine step_append_lies _ rfl (.tmp 80) (.tmp 84) 36 rfl 0 46 _ (.agg #[.int .i64 0, .int .i64 0]) 2 16 Tryz.underlying36 HIP.out.1 HIP.out.2.1 HIP.out.2.2.1 HIP.out.2.2.2 rfl (by decide) (vr 2) L.length (rowW L 4 2) rfl (HI.out.ow 2 (by decide)) ⟨x1, 0, none⟩ 1 1 [.int .i64 sa, .int .i64 sc] rfl rfl PC1.out.at_ (by intro u hu; simp at hu; rcases hu with rfl | rfl <;> rfl) (by decide) HX1.out.1 (HX1.out.2 16 (by decide)) (Nat.zero_le _) W3.heap.size rfl ?_
                    intro g1 k1 W4 hrow hgrow hat hlt
                    have HI2 := Lib.hid (HI.out.app 2 (by decide) hrow hgrow hat rfl)
                    clear HI PC1 hrow hgrow hat hlt
                    have HI := HI2
                    clear HI2
                    refine hK.out _ _ HI.out.held (fun hHeld' => ?_)
                    clear hK K hHeld
                    have hHeld := hHeld'
                    clear hHeld'
                    try simp only [Act.put, List.setIfInBounds_toArray, List.set_cons_zero, List.set_cons_succ]
                    refine AllT.go (rs := [26]) (by kernel_rfl) (by simp) ?_
                    refine AllT.early (o := ⟨_, _, _, _, _, _⟩) rfl (fun K hK => ?_) ?_
                    · go_simp
                      refine hK.out _ _ (I3.held (HI.out.alloc _)) (fun hHeld' => ?_)
                      clear hK K hHeld
                      have hHeld := hHeld'
                      clear hHeld'
                      have HI2 := Lib.hid (HI.out.alloc (.cells #[.bool false] 4))
                      have PC2 := Lib.hid (Pc.new HI.out #[.bool false] 4)
                      clear HI
                      have HI := HI2
                      clear HI2
                      generalize World.alloc W4 (.cells #[.bool false] 4) = W5 at *
                      generalize W4.heap.size = x2 at *
                      try simp only [Act.put, List.setIfInBounds_toArray, List.set_cons_zero, List.set_cons_succ]
                      refine AllT.go (rs := [27]) (by kernel_rfl) (by simp) ?_
                      refine AllT.early (o := ⟨_, _, _, _, _, _⟩) rfl (fun K hK => ?_) ?_
                      · refine step_append_lies _ rfl (.tmp 89) (.tmp 90) 37 rfl 0 4 _ (.bool false) 1 1 Tryz.underlying37 HIB.out.1 HIB.out.2.1 HIB.out.2.2.1 HIB.out.2.2.2 rfl (by decide) (vr 3) L.length (rowW L 4 3) rfl (HI.out.ow 3 (by decide)) ⟨x2, 0, none⟩ 1 1 [.bool false] rfl rfl PC2.out.at_ (by intro u hu; simp at hu; subst hu; rfl) (by decide) HX1.out.1 (HX1.out.2 1 (by decide)) (Nat.zero_le _) W5.heap.size rfl ?_
                        intro g2 k2 W6 hrow hgrow hat hlt
                        have HI2 := Lib.hid (HI.out.app 3 (by decide) hrow hgrow hat rfl)
                        clear HI PC2 hrow hgrow hat hlt
                        have HI := HI2
                        clear HI2
                        refine hK.out _ _ HI.out.held (fun hHeld' => ?_)
                        clear hK K hHeld
                        have hHeld := hHeld'
                        clear hHeld'
                        try simp only [Act.put, List.setIfInBounds_toArray, List.set_cons_zero, List.set_cons_succ]
                        refine AnyT.pick (i := 28) (oi := ⟨_, _, _, _, _, _⟩) (v := ?_) rfl (by kernel_rfl) (by kernel_rfl) (by kernel_rfl) (fun _ _ _ h => h) (Or.inl ⟨by rfl, ?y28_23⟩) ?_
                        case' y28_23 => ((intro w hSw; go_simp) <;> (with_reducible rfl))
                        try simp only [Act.put, List.setIfInBounds_toArray, List.set_cons_zero, List.set_cons_succ]
                        refine AnyT.pick (i := 29) (oi := ⟨_, _, _, _, _, _⟩) (v := ?_) rfl (by kernel_rfl) (by kernel_rfl) (by kernel_rfl) (fun _ _ _ h => h) (Or.inl ⟨by rfl, ?y29_24⟩) ?_
                        case' y29_24 => ((intro w hSw; go_simp) <;> (with_reducible rfl))
                        try simp only [Act.put, List.setIfInBounds_toArray, List.set_cons_zero, List.set_cons_succ]
                        refine AllT.go (rs := [30]) (by kernel_rfl) (by simp) ?_
                        refine AllT.late (o := ⟨_, _, _, _, _, _⟩) rfl (by decide) (fun K hK => ?_) AllT.nil
                        go_simp
                        refine hK.out _ _ trivial (fun _ => ?_)
                        clear hK K
                        try simp only [Act.put, List.setIfInBounds_toArray, List.set_cons_zero, List.set_cons_succ]
                        refine AnyT.pick (i := 31) (oi := ⟨_, _, _, _, _, _⟩) (v := ?_) rfl (by kernel_rfl) (by kernel_rfl) (by kernel_rfl) (fun _ _ _ h => h) (Or.inl ⟨by rfl, ?y31_25⟩) ?_
                        case' y31_25 => ((intro w hSw; go_simp) <;> (with_reducible rfl))
                        try simp only [Act.put, List.setIfInBounds_toArray, List.set_cons_zero, List.set_cons_succ]
                        refine AnyT.pick (i := 32) (oi := ⟨_, _, _, _, _, _⟩) (v := ?_) rfl (by kernel_rfl) (by kernel_rfl) (by kernel_rfl) (fun _ _ _ h => h) (Or.inl ⟨by rfl, ?y32_26⟩) ?_
                        case' y32_26 => ((intro w hSw; go_simp) <;> (with_reducible rfl))
                        try simp only [Act.put, List.setIfInBounds_toArray, List.set_cons_zero, List.set_cons_succ]
                        refine AllT.go (rs := [33]) (by kernel_rfl) (by simp) ?_
                        refine AllT.late (o := ⟨_, _, _, _, _, _⟩) rfl (by decide) (fun K hK => ?_) AllT.nil
                        go_simp
                        refine hK.out _ _ trivial (fun _ => ?_)
                        clear hK K
                        try simp only [Act.put, List.setIfInBounds_toArray, List.set_cons_zero, List.set_cons_succ]
                        refine AnyT.pick (i := 34) (oi := ⟨_, _, _, _, _, _⟩) (v := ?_) rfl (by kernel_rfl) (by kernel_rfl) (by kernel_rfl) (fun _ _ _ h => h) (Or.inl ⟨by rfl, ?y34_27⟩) ?_
                        case' y34_27 => ((intro w hSw; go_simp) <;> (with_reducible rfl))
                        try simp only [Act.put, List.setIfInBounds_toArray, List.set_cons_zero, List.set_cons_succ]
                        refine AnyT.pick (i := 35) (oi := ⟨_, _, _, _, _, _⟩) (v := ?_) rfl (by kernel_rfl) (by kernel_rfl) (by kernel_rfl) (fun _ _ _ h => h) (Or.inl ⟨by rfl, ?y35_28⟩) ?_
                        case' y35_28 => ((intro w hSw; go_simp) <;> (with_reducible rfl))
                        try simp only [Act.put, List.setIfInBounds_toArray, List.set_cons_zero, List.set_cons_succ]
                        refine AllT.go (rs := [36]) (by kernel_rfl) (by simp) ?_
                        refine AllT.late (o := ⟨_, _, _, _, _, _⟩) rfl (by decide) (fun K hK => ?_) AllT.nil
                        go_simp
                        refine hK.out _ _ trivial (fun _ => ?_)
                        clear hK K
                        try simp only [Act.put, List.setIfInBounds_toArray, List.set_cons_zero, List.set_cons_succ]
                        refine AnyT.done (by kernel_rfl) ?_ _
                        go_wp2_with fail
                        refine ⟨?_, ?meas1⟩
                        (repeat apply Exists.intro)
                        refine ⟨?rell1, rfl⟩
                        case rell1 => exact fin2 SC.out HI.out hbs HSD.out HL.out.1 HL.out.2 HSE.out hlt (by go_num)
                        case meas1 => simp [intOf]; omega
                      exact AllT.nil
                    exact AllT.nil
                  refine AllT.early (o := ⟨_, _, _, _, _, _⟩) rfl (fun K hK => ?_) ?_
                  · go_simp
                    refine hK.out _ _ (I3.held (HI.out.alloc _)) (fun hHeld' => ?_)
                    clear hK K hHeld
                    have hHeld := hHeld'
                    clear hHeld'
                    have HI2 := Lib.hid (HI.out.alloc (.cells #[.bool false] 4))
                    have PC2 := Lib.hid (Pc.new HI.out #[.bool false] 4)
                    have PX1 := Lib.hid (PC1.out.alloc (.cells #[.bool false] 4))
                    clear PC1
                    have PC1 := PX1
                    clear PX1
                    clear HI
                    have HI := HI2
                    clear HI2
                    generalize World.alloc W3 (.cells #[.bool false] 4) = W7 at *
                    generalize W3.heap.size = x2 at *
                    try simp only [Act.put, List.setIfInBounds_toArray, List.set_cons_zero, List.set_cons_succ]
                    refine AllT.go (rs := [21]) (by kernel_rfl) (by simp) ?_
                    refine AllT.early (o := ⟨_, _, _, _, _, _⟩) rfl (fun K hK => ?_) ?_
                    · refine step_append_lies _ rfl (.tmp 80) (.tmp 84) 36 rfl 0 46 _ (.agg #[.int .i64 0, .int .i64 0]) 2 16 Tryz.underlying36 HIP.out.1 HIP.out.2.1 HIP.out.2.2.1 HIP.out.2.2.2 rfl (by decide) (vr 2) L.length (rowW L 4 2) rfl (HI.out.ow 2 (by decide)) ⟨x1, 0, none⟩ 1 1 [.int .i64 sa, .int .i64 sc] rfl rfl PC1.out.at_ (by intro u hu; simp at hu; rcases hu with rfl | rfl <;> rfl) (by decide) HX1.out.1 (HX1.out.2 16 (by decide)) (Nat.zero_le _) W7.heap.size rfl ?_
                      intro g1 k1 W8 hrow hgrow hat hlt
                      have HI2 := Lib.hid (HI.out.app 2 (by decide) hrow hgrow hat rfl)
                      have PX2 := Lib.hid (PC2.out.app (n := L.length + 1) (c := k1) HI.out 2 (by decide) hgrow hat rfl)
                      clear PC2
                      have PC2 := PX2
                      clear PX2
                      clear HI PC1 hrow hgrow hat hlt
                      have HI := HI2
                      clear HI2
                      refine hK.out _ _ HI.out.held (fun hHeld' => ?_)
                      clear hK K hHeld
                      have hHeld := hHeld'
                      clear hHeld'
                      try simp only [Act.put, List.setIfInBounds_toArray, List.set_cons_zero, List.set_cons_succ]
                      refine AllT.go (rs := [27]) (by kernel_rfl) (by simp) ?_
                      refine AllT.early (o := ⟨_, _, _, _, _, _⟩) rfl (fun K hK => ?_) ?_
                      · refine step_append_lies _ rfl (.tmp 89) (.tmp 90) 37 rfl 0 4 _ (.bool false) 1 1 Tryz.underlying37 HIB.out.1 HIB.out.2.1 HIB.out.2.2.1 HIB.out.2.2.2 rfl (by decide) (vr 3) L.length (rowW L 4 3) rfl (HI.out.ow 3 (by decide)) ⟨x2, 0, none⟩ 1 1 [.bool false] rfl rfl PC2.out.at_ (by intro u hu; simp at hu; subst hu; rfl) (by decide) HX1.out.1 (HX1.out.2 1 (by decide)) (Nat.zero_le _) W8.heap.size rfl ?_
                        intro g2 k2 W9 hrow hgrow hat hlt
                        have HI2 := Lib.hid (HI.out.app 3 (by decide) hrow hgrow hat rfl)
                        clear HI PC2 hrow hgrow hat hlt
                        have HI := HI2
                        clear HI2
                        refine hK.out _ _ HI.out.held (fun hHeld' => ?_)
                        clear hK K hHeld
                        have hHeld := hHeld'
                        clear hHeld'
                        try simp only [Act.put, List.setIfInBounds_toArray, List.set_cons_zero, List.set_cons_succ]
                        refine AnyT.pick (i := 28) (oi := ⟨_, _, _, _, _, _⟩) (v := ?_) rfl (by kernel_rfl) (by kernel_rfl) (by kernel_rfl) (fun _ _ _ h => h) (Or.inl ⟨by rfl, ?y28_29⟩) ?_
                        case' y28_29 => ((intro w hSw; go_simp) <;> (with_reducible rfl))
                        try simp only [Act.put, List.setIfInBounds_toArray, List.set_cons_zero, List.set_cons_succ]
                        refine AnyT.pick (i := 29) (oi := ⟨_, _, _, _, _, _⟩) (v := ?_) rfl (by kernel_rfl) (by kernel_rfl) (by kernel_rfl) (fun _ _ _ h => h) (Or.inl ⟨by rfl, ?y29_30⟩) ?_
                        case' y29_30 => ((intro w hSw; go_simp) <;> (with_reducible rfl))
                        try simp only [Act.put, List.setIfInBounds_toArray, List.set_cons_zero, List.set_cons_succ]
                        refine AllT.go (rs := [30]) (by kernel_rfl) (by simp) ?_
                        refine AllT.late (o := ⟨_, _, _, _, _, _⟩) rfl (by decide) (fun K hK => ?_) AllT.nil
                        go_simp
                        refine hK.out _ _ trivial (fun _ => ?_)
                        clear hK K
                        try simp only [Act.put, List.setIfInBounds_toArray, List.set_cons_zero, List.set_cons_succ]
                        refine AnyT.pick (i := 31) (oi := ⟨_, _, _, _, _, _⟩) (v := ?_) rfl (by kernel_rfl) (by kernel_rfl) (by kernel_rfl) (fun _ _ _ h => h) (Or.inl ⟨by rfl, ?y31_31⟩) ?_
                        case' y31_31 => ((intro w hSw; go_simp) <;> (with_reducible rfl))
                        try simp only [Act.put, List.setIfInBounds_toArray, List.set_cons_zero, List.set_cons_succ]
                        refine AnyT.pick (i := 32) (oi := ⟨_, _, _, _, _, _⟩) (v := ?_) rfl (by kernel_rfl) (by kernel_rfl) (by kernel_rfl) (fun _ _ _ h => h) (Or.inl ⟨by rfl, ?y32_32⟩) ?_
                        case' y32_32 => ((intro w hSw; go_simp) <;> (with_reducible rfl))
                        try simp only [Act.put, List.setIfInBounds_toArray, List.set_cons_zero, List.set_cons_succ]
                        refine AllT.go (rs := [33]) (by kernel_rfl) (by simp) ?_
                        refine AllT.late (o := ⟨_, _, _, _, _, _⟩) rfl (by decide) (fun K hK => ?_) AllT.nil
                        go_simp
                        refine hK.out _ _ trivial (fun _ => ?_)
                        clear hK K
                        try simp only [Act.put, List.setIfInBounds_toArray, List.set_cons_zero, List.set_cons_succ]
                        refine AnyT.pick (i := 34) (oi := ⟨_, _, _, _, _, _⟩) (v := ?_) rfl (by kernel_rfl) (by kernel_rfl) (by kernel_rfl) (fun _ _ _ h => h) (Or.inl ⟨by rfl, ?y34_33⟩) ?_
                        case' y34_33 => ((intro w hSw; go_simp) <;> (with_reducible rfl))
                        try simp only [Act.put, List.setIfInBounds_toArray, List.set_cons_zero, List.set_cons_succ]
                        refine AnyT.pick (i := 35) (oi := ⟨_, _, _, _, _, _⟩) (v := ?_) rfl (by kernel_rfl) (by kernel_rfl) (by kernel_rfl) (fun _ _ _ h => h) (Or.inl ⟨by rfl, ?y35_34⟩) ?_
                        case' y35_34 => ((intro w hSw; go_simp) <;> (with_reducible rfl))
                        try simp only [Act.put, List.setIfInBounds_toArray, List.set_cons_zero, List.set_cons_succ]
                        refine AllT.go (rs := [36]) (by kernel_rfl) (by simp) ?_
                        refine AllT.late (o := ⟨_, _, _, _, _, _⟩) rfl (by decide) (fun K hK => ?_) AllT.nil
                        go_simp
                        refine hK.out _ _ trivial (fun _ => ?_)
                        clear hK K
                        try simp only [Act.put, List.setIfInBounds_toArray, List.set_cons_zero, List.set_cons_succ]
                        refine AnyT.done (by kernel_rfl) ?_ _
                        go_wp2_with fail
                        refine ⟨?_, ?meas2⟩
                        (repeat apply Exists.intro)
                        refine ⟨?rell2, rfl⟩
                        case rell2 => exact fin2 SC.out HI.out hbs HSD.out HL.out.1 HL.out.2 HSE.out hlt (by go_num)
                        case meas2 => simp [intOf]; omega
                      exact AllT.nil
                    exact AllT.nil
                  exact AllT.nil
                refine AllT.early (o := ⟨_, _, _, _, _, _⟩) rfl (fun K hK => ?_) ?_
                · go_simp
                  refine hK.out _ _ (I3.held (HI.out.alloc _)) (fun hHeld' => ?_)
                  clear hK K hHeld
                  have hHeld := hHeld'
                  clear hHeld'
                  have HI2 := Lib.hid (HI.out.alloc (.cells #[.bool false] 4))
                  have PC2 := Lib.hid (Pc.new HI.out #[.bool false] 4)
                  clear HI
                  have HI := HI2
                  clear HI2
                  generalize World.alloc W2 (.cells #[.bool false] 4) = W10 at *
                  generalize W2.heap.size = x2 at *
                  try simp only [Act.put, List.setIfInBounds_toArray, List.set_cons_zero, List.set_cons_succ]
                  refine AllT.go (rs := [20]) (by kernel_rfl) (by simp) ?_
                  refine AllT.early (o := ⟨_, _, _, _, _, _⟩) rfl (fun K hK => ?_) ?_
                  · go_simp
                    refine hK.out _ _ (I3.held (HI.out.alloc _)) (fun hHeld' => ?_)
                    clear hK K hHeld
                    have hHeld := hHeld'
                    clear hHeld'
                    have HI2 := Lib.hid (HI.out.alloc (.cells #[.int .i64 sa, .int .i64 sc] 46))
                    have PC1 := Lib.hid (Pc.new HI.out #[.int .i64 sa, .int .i64 sc] 46)
                    have PX2 := Lib.hid (PC2.out.alloc (.cells #[.int .i64 sa, .int .i64 sc] 46))
                    clear PC2
                    have PC2 := PX2
                    clear PX2
                    clear HI
                    have HI := HI2
                    clear HI2
                    generalize World.alloc W10 (.cells #[.int .i64 sa, .int .i64 sc] 46) = W11 at *
                    generalize W10.heap.size = x1 at *
                    try simp only [Act.put, List.setIfInBounds_toArray, List.set_cons_zero, List.set_cons_succ]
                    refine AllT.go (rs := [21]) (by kernel_rfl) (by simp) ?_
                    refine AllT.early (o := ⟨_, _, _, _, _, _⟩) rfl (fun K hK => ?_) ?_
                    · refine step_append_lies _ rfl (.tmp 80) (.tmp 84) 36 rfl 0 46 _ (.agg #[.int .i64 0, .int .i64 0]) 2 16 Tryz.underlying36 HIP.out.1 HIP.out.2.1 HIP.out.2.2.1 HIP.out.2.2.2 rfl (by decide) (vr 2) L.length (rowW L 4 2) rfl (HI.out.ow 2 (by decide)) ⟨x1, 0, none⟩ 1 1 [.int .i64 sa, .int .i64 sc] rfl rfl PC1.out.at_ (by intro u hu; simp at hu; rcases hu with rfl | rfl <;> rfl) (by decide) HX1.out.1 (HX1.out.2 16 (by decide)) (Nat.zero_le _) W11.heap.size rfl ?_
                      intro g1 k1 W12 hrow hgrow hat hlt
                      have HI2 := Lib.hid (HI.out.app 2 (by decide) hrow hgrow hat rfl)
                      have PX2 := Lib.hid (PC2.out.app (n := L.length + 1) (c := k1) HI.out 2 (by decide) hgrow hat rfl)
                      clear PC2
                      have PC2 := PX2
                      clear PX2
                      clear HI PC1 hrow hgrow hat hlt
                      have HI := HI2
                      clear HI2
                      refine hK.out _ _ HI.out.held (fun hHeld' => ?_)
                      clear hK K hHeld
                      have hHeld := hHeld'
                      clear hHeld'
                      try simp only [Act.put, List.setIfInBounds_toArray, List.set_cons_zero, List.set_cons_succ]
                      refine AllT.go (rs := [27]) (by kernel_rfl) (by simp) ?_
                      refine AllT.early (o := ⟨_, _, _, _, _, _⟩) rfl (fun K hK => ?_) ?_
                      · refine step_append_lies _ rfl (.tmp 89) (.tmp 90) 37 rfl 0 4 _ (.bool false) 1 1 Tryz.underlying37 HIB.out.1 HIB.out.2.1 HIB.out.2.2.1 HIB.out.2.2.2 rfl (by decide) (vr 3) L.length (rowW L 4 3) rfl (HI.out.ow 3 (by decide)) ⟨x2, 0, none⟩ 1 1 [.bool false] rfl rfl PC2.out.at_ (by intro u hu; simp at hu; subst hu; rfl) (by decide) HX1.out.1 (HX1.out.2 1 (by decide)) (Nat.zero_le _) W12.heap.size rfl ?_
                        intro g2 k2 W13 hrow hgrow hat hlt
                        have HI2 := Lib.hid (HI.out.app 3 (by decide) hrow hgrow hat rfl)
                        clear HI PC2 hrow hgrow hat hlt
                        have HI := HI2
                        clear HI2
                        refine hK.out _ _ HI.out.held (fun hHeld' => ?_)
                        clear hK K hHeld
                        have hHeld := hHeld'
                        clear hHeld'
                        try simp only [Act.put, List.setIfInBounds_toArray, List.set_cons_zero, List.set_cons_succ]
                        refine AnyT.pick (i := 28) (oi := ⟨_, _, _, _, _, _⟩) (v := ?_) rfl (by kernel_rfl) (by kernel_rfl) (by kernel_rfl) (fun _ _ _ h => h) (Or.inl ⟨by rfl, ?y28_35⟩) ?_
                        case' y28_35 => ((intro w hSw; go_simp) <;> (with_reducible rfl))
                        try simp only [Act.put, List.setIfInBounds_toArray, List.set_cons_zero, List.set_cons_succ]
                        refine AnyT.pick (i := 29) (oi := ⟨_, _, _, _, _, _⟩) (v := ?_) rfl (by kernel_rfl) (by kernel_rfl) (by kernel_rfl) (fun _ _ _ h => h) (Or.inl ⟨by rfl, ?y29_36⟩) ?_
                        case' y29_36 => ((intro w hSw; go_simp) <;> (with_reducible rfl))
                        try simp only [Act.put, List.setIfInBounds_toArray, List.set_cons_zero, List.set_cons_succ]
                        refine AllT.go (rs := [30]) (by kernel_rfl) (by simp) ?_
                        refine AllT.late (o := ⟨_, _, _, _, _, _⟩) rfl (by decide) (fun K hK => ?_) AllT.nil
                        go_simp
                        refine hK.out _ _ trivial (fun _ => ?_)
                        clear hK K
                        try simp only [Act.put, List.setIfInBounds_toArray, List.set_cons_zero, List.set_cons_succ]
                        refine AnyT.pick (i := 31) (oi := ⟨_, _, _, _, _, _⟩) (v := ?_) rfl (by kernel_rfl) (by kernel_rfl) (by kernel_rfl) (fun _ _ _ h => h) (Or.inl ⟨by rfl, ?y31_37⟩) ?_
                        case' y31_37 => ((intro w hSw; go_simp) <;> (with_reducible rfl))
                        try simp only [Act.put, List.setIfInBounds_toArray, List.set_cons_zero, List.set_cons_succ]
                        refine AnyT.pick (i := 32) (oi := ⟨_, _, _, _, _, _⟩) (v := ?_) rfl (by kernel_rfl) (by kernel_rfl) (by kernel_rfl) (fun _ _ _ h => h) (Or.inl ⟨by rfl, ?y32_38⟩) ?_
                        case' y32_38 => ((intro w hSw; go_simp) <;> (with_reducible rfl))
                        try simp only [Act.put, List.setIfInBounds_toArray, List.set_cons_zero, List.set_cons_succ]
                        refine AllT.go (rs := [33]) (by kernel_rfl) (by simp) ?_
                        refine AllT.late (o := ⟨_, _, _, _, _, _⟩) rfl (by decide) (fun K hK => ?_) AllT.nil
                        go_simp
                        refine hK.out _ _ trivial (fun _ => ?_)
                        clear hK K
                        try simp only [Act.put, List.setIfInBounds_toArray, List.set_cons_zero, List.set_cons_succ]
                        refine AnyT.pick (i := 34) (oi := ⟨_, _, _, _, _, _⟩) (v := ?_) rfl (by kernel_rfl) (by kernel_rfl) (by kernel_rfl) (fun _ _ _ h => h) (Or.inl ⟨by rfl, ?y34_39⟩) ?_
                        case' y34_39 => ((intro w hSw; go_simp) <;> (with_reducible rfl))
                        try simp only [Act.put, List.setIfInBounds_toArray, List.set_cons_zero, List.set_cons_succ]
                        refine AnyT.pick (i := 35) (oi := ⟨_, _, _, _, _, _⟩) (v := ?_) rfl (by kernel_rfl) (by kernel_rfl) (by kernel_rfl) (fun _ _ _ h => h) (Or.inl ⟨by rfl, ?y35_40⟩) ?_
                        case' y35_40 => ((intro w hSw; go_simp) <;> (with_reducible rfl))
                        try simp only [Act.put, List.setIfInBounds_toArray, List.set_cons_zero, List.set_cons_succ]
                        refine AllT.go (rs := [36]) (by kernel_rfl) (by simp) ?_
                        refine AllT.late (o := ⟨_, _, _, _, _, _⟩) rfl (by decide) (fun K hK => ?_) AllT.nil
                        go_simp
                        refine hK.out _ _ trivial (fun _ => ?_)
                        clear hK K
                        try simp only [Act.put, List.setIfInBounds_toArray, List.set_cons_zero, List.set_cons_succ]
                        refine AnyT.done (by kernel_rfl) ?_ _
                        go_wp2_with fail
                        refine ⟨?_, ?meas3⟩
                        (repeat apply Exists.intro)
                        refine ⟨?rell3, rfl⟩
                        case rell3 => exact fin2 SC.out HI.out hbs HSD.out HL.out.1 HL.out.2 HSE.out hlt (by go_num)
                        case meas3 => simp [intOf]; omega
                      exact AllT.nil
                    exact AllT.nil
                  exact AllT.nil
                exact AllT.nil
              refine AllT.early (o := ⟨_, _, _, _, _, _⟩) rfl (fun K hK => ?_) ?_
              · go_simp
                refine hK.out _ _ (I3.held (HI.out.alloc _)) (fun hHeld' => ?_)
                clear hK K hHeld
                have hHeld := hHeld'
                clear hHeld'
                have HI2 := Lib.hid (HI.out.alloc (.cells #[.int .i64 sa, .int .i64 sc] 46))
                have PC1 := Lib.hid (Pc.new HI.out #[.int .i64 sa, .int .i64 sc] 46)
                have PX0 := Lib.hid (PC0.out.alloc (.cells #[.int .i64 sa, .int .i64 sc] 46))
                clear PC0
                have PC0 := PX0
                clear PX0
                clear HI
                have HI := HI2
                clear HI2
                generalize World.alloc W1 (.cells #[.int .i64 sa, .int .i64 sc] 46) = W14 at *
                generalize W1.heap.size = x1 at *
                try simp only [Act.put, List.setIfInBounds_toArray, List.set_cons_zero, List.set_cons_succ]
                refine AllT.go (rs := [12, 26]) (by kernel_rfl) (by simp) ?_
                refine AllT.early (o := ⟨_, _, _, _, _, _⟩) rfl (fun K hK => ?_) ?_
                · refine step_append_lies _ rfl (.tmp 70) (.tmp 75) 34 rfl 0 48 _ (.agg #[.int .i64 0, .int .i64 0, .bool false]) 3 24 Tryz.underlying34 HIM.out.1 HIM.out.2.1 HIM.out.2.2.1 HIM.out.2.2.2 rfl (by decide) (vr 0) L.length (rowW L 4 0) rfl (HI.out.ow 0 (by decide)) ⟨x0, 0, none⟩ 1 1 [.int .i64 sa, .int .i64 sc, .bool false] rfl rfl PC0.out.at_ (by intro u hu; simp at hu; rcases hu with rfl | rfl | rfl <;> rfl) (by decide) HX1.out.1 (HX1.out.2 24 (by decide)) (Nat.zero_le _) W14.heap.size rfl ?_
                  intro g0 k0 W15 hrow hgrow hat hlt
                  have HI2 := Lib.hid (HI.out.app 0 (by decide) hrow hgrow hat rfl)
                  have PX1 := Lib.hid (PC1.out.app (n := L.length + 1) (c := k0) HI.out 0 (by decide) hgrow hat rfl)
                  clear PC1
                  have PC1 := PX1
                  clear PX1
                  clear HI PC0 hrow hgrow hat hlt
                  have HI := HI2
                  clear HI2
                  refine hK.out _ _ HI.out.held (fun hHeld' => ?_)
                  clear hK K hHeld
                  have hHeld := hHeld'
                  clear hHeld'
                  try simp only [Act.put, List.setIfInBounds_toArray, List.set_cons_zero, List.set_cons_succ]
                  refine AllT.go (rs := [21, 26]) (by kernel_rfl) (by simp) ?_
                  refine AllT.early (o := ⟨_, _, _, _, _, _⟩) rfl (fun K hK => ?_) ?_
                  · refine step_append_lies _ rfl (.tmp 80) (.tmp 84) 36 rfl 0 46 _ (.agg #[.int .i64 0, .int .i64 0]) 2 16 Tryz.underlying36 HIP.out.1 HIP.out.2.1 HIP.out.2.2.1 HIP.out.2.2.2 rfl (by decide) (vr 2) L.length (rowW L 4 2) rfl (HI.out.ow 2 (by decide)) ⟨x1, 0, none⟩ 1 1 [.int .i64 sa, .int .i64 sc] rfl rfl PC1.out.at_ (by intro u hu; simp at hu; rcases hu with rfl | rfl <;> rfl) (by decide) HX1.out.1 (HX1.out.2 16 (by decide)) (Nat.zero_le _) W15.heap.size rfl ?_
                    intro g1 k1 W16 hrow hgrow hat hlt
                    have HI2 := Lib.hid (HI.out.app 2 (by decide) hrow hgrow hat rfl)
                    clear HI PC1 hrow hgrow hat hlt
                    have HI := HI2
                    clear HI2
                    refine hK.out _ _ HI.out.held (fun hHeld' => ?_)
                    clear hK K hHeld
                    have hHeld := hHeld'
                    clear hHeld'
                    try simp only [Act.put, List.setIfInBounds_toArray, List.set_cons_zero, List.set_cons_succ]
                    refine AllT.go (rs := [26]) (by kernel_rfl) (by simp) ?_
                    refine AllT.early (o := ⟨_, _, _, _, _, _⟩) rfl (fun K hK => ?_) ?_
                    · go_simp
                      refine hK.out _ _ (I3.held (HI.out.alloc _)) (fun hHeld' => ?_)
                      clear hK K hHeld
                      have hHeld := hHeld'
                      clear hHeld'
                      have HI2 := Lib.hid (HI.out.alloc (.cells #[.bool false] 4))
                      have PC2 := Lib.hid (Pc.new HI.out #[.bool false] 4)
                      clear HI
                      have HI := HI2
                      clear HI2
                      generalize World.alloc W16 (.cells #[.bool false] 4) = W17 at *
                      generalize W16.heap.size = x2 at *
                      try simp only [Act.put, List.setIfInBounds_toArray, List.set_cons_zero, List.set_cons_succ]
                      refine AllT.go (rs := [27]) (by kernel_rfl) (by simp) ?_
                      refine AllT.early (o := ⟨_, _, _, _, _, _⟩) rfl (fun K hK => ?_) ?_
                      · refine step_append_lies _ rfl (.tmp 89) (.tmp 90) 37 rfl 0 4 _ (.bool false) 1 1 Tryz.underlying37 HIB.out.1 HIB.out.2.1 HIB.out.2.2.1 HIB.out.2.2.2 rfl (by decide) (vr 3) L.length (rowW L 4 3) rfl (HI.out.ow 3 (by decide)) ⟨x2, 0, none⟩ 1 1 [.bool false] rfl rfl PC2.out.at_ (by intro u hu; simp at hu; subst hu; rfl) (by decide) HX1.out.1 (HX1.out.2 1 (by decide)) (Nat.zero_le _) W17.heap.size rfl ?_
                        intro g2 k2 W18 hrow hgrow hat hlt
                        have HI2 := Lib.hid (HI.out.app 3 (by decide) hrow hgrow hat rfl)
                        clear HI PC2 hrow hgrow hat hlt
                        have HI := HI2
                        clear HI2
                        refine hK.out _ _ HI.out.held (fun hHeld' => ?_)
                        clear hK K hHeld
                        have hHeld := hHeld'
                        clear hHeld'
                        try simp only [Act.put, List.setIfInBounds_toArray, List.set_cons_zero, List.set_cons_succ]
                        refine AnyT.pick (i := 28) (oi := ⟨_, _, _, _, _, _⟩) (v := ?_) rfl (by kernel_rfl) (by kernel_rfl) (by kernel_rfl) (fun _ _ _ h => h) (Or.inl ⟨by rfl, ?y28_41⟩) ?_
                        case' y28_41 => ((intro w hSw; go_simp) <;> (with_reducible rfl))
                        try simp only [Act.put, List.setIfInBounds_toArray, List.set_cons_zero, List.set_cons_succ]
                        refine AnyT.pick (i := 29) (oi := ⟨_, _, _, _, _, _⟩) (v := ?_) rfl (by kernel_rfl) (by kernel_rfl) (by kernel_rfl) (fun _ _ _ h => h) (Or.inl ⟨by rfl, ?y29_42⟩) ?_
                        case' y29_42 => ((intro w hSw; go_simp) <;> (with_reducible rfl))
                        try simp only [Act.put, List.setIfInBounds_toArray, List.set_cons_zero, List.set_cons_succ]
                        refine AllT.go (rs := [30]) (by kernel_rfl) (by simp) ?_
                        refine AllT.late (o := ⟨_, _, _, _, _, _⟩) rfl (by decide) (fun K hK => ?_) AllT.nil
                        go_simp
                        refine hK.out _ _ trivial (fun _ => ?_)
                        clear hK K
                        try simp only [Act.put, List.setIfInBounds_toArray, List.set_cons_zero, List.set_cons_succ]
                        refine AnyT.pick (i := 31) (oi := ⟨_, _, _, _, _, _⟩) (v := ?_) rfl (by kernel_rfl) (by kernel_rfl) (by kernel_rfl) (fun _ _ _ h => h) (Or.inl ⟨by rfl, ?y31_43⟩) ?_
                        case' y31_43 => ((intro w hSw; go_simp) <;> (with_reducible rfl))
                        try simp only [Act.put, List.setIfInBounds_toArray, List.set_cons_zero, List.set_cons_succ]
                        refine AnyT.pick (i := 32) (oi := ⟨_, _, _, _, _, _⟩) (v := ?_) rfl (by kernel_rfl) (by kernel_rfl) (by kernel_rfl) (fun _ _ _ h => h) (Or.inl ⟨by rfl, ?y32_44⟩) ?_
                        case' y32_44 => ((intro w hSw; go_simp) <;> (with_reducible rfl))
                        try simp only [Act.put, List.setIfInBounds_toArray, List.set_cons_zero, List.set_cons_succ]
                        refine AllT.go (rs := [33]) (by kernel_rfl) (by simp) ?_
                        refine AllT.late (o := ⟨_, _, _, _, _, _⟩) rfl (by decide) (fun K hK => ?_) AllT.nil
                        go_simp
                        refine hK.out _ _ trivial (fun _ => ?_)
                        clear hK K
                        try simp only [Act.put, List.setIfInBounds_toArray, List.set_cons_zero, List.set_cons_succ]
                        refine AnyT.pick (i := 34) (oi := ⟨_, _, _, _, _, _⟩) (v := ?_) rfl (by kernel_rfl) (by kernel_rfl) (by kernel_rfl) (fun _ _ _ h => h) (Or.inl ⟨by rfl, ?y34_45⟩) ?_
                        case' y34_45 => ((intro w hSw; go_simp) <;> (with_reducible rfl))
                        try simp only [Act.put, List.setIfInBounds_toArray, List.set_cons_zero, List.set_cons_succ]
                        refine AnyT.pick (i := 35) (oi := ⟨_, _, _, _, _, _⟩) (v := ?_) rfl (by kernel_rfl) (by kernel_rfl) (by kernel_rfl) (fun _ _ _ h => h) (Or.inl ⟨by rfl, ?y35_46⟩) ?_
                        case' y35_46 => ((intro w hSw; go_simp) <;> (with_reducible rfl))
                        try simp only [Act.put, List.setIfInBounds_toArray, List.set_cons_zero, List.set_cons_succ]
                        refine AllT.go (rs := [36]) (by kernel_rfl) (by simp) ?_
                        refine AllT.late (o := ⟨_, _, _, _, _, _⟩) rfl (by decide) (fun K hK => ?_) AllT.nil
                        go_simp
                        refine hK.out _ _ trivial (fun _ => ?_)
                        clear hK K
                        try simp only [Act.put, List.setIfInBounds_toArray, List.set_cons_zero, List.set_cons_succ]
                        refine AnyT.done (by kernel_rfl) ?_ _
                        go_wp2_with fail
                        refine ⟨?_, ?meas4⟩
                        (repeat apply Exists.intro)
                        refine ⟨?rell4, rfl⟩
                        case rell4 => exact fin2 SC.out HI.out hbs HSD.out HL.out.1 HL.out.2 HSE.out hlt (by go_num)
                        case meas4 => simp [intOf]; omega
                      exact AllT.nil
                    exact AllT.nil
                  refine AllT.early (o := ⟨_, _, _, _, _, _⟩) rfl (fun K hK => ?_) ?_
                  · go_simp
                    refine hK.out _ _ (I3.held (HI.out.alloc _)) (fun hHeld' => ?_)
                    clear hK K hHeld
                    have hHeld := hHeld'
                    clear hHeld'
                    have HI2 := Lib.hid (HI.out.alloc (.cells #[.bool false] 4))
                    have PC2 := Lib.hid (Pc.new HI.out #[.bool false] 4)
                    have PX1 := Lib.hid (PC1.out.alloc (.cells #[.bool false] 4))
                    clear PC1
                    have PC1 := PX1
                    clear PX1
                    clear HI
                    have HI := HI2
                    clear HI2
                    generalize World.alloc W15 (.cells #[.bool false] 4) = W19 at *
                    generalize W15.heap.size = x2 at *
                    try simp only [Act.put, List.setIfInBounds_toArray, List.set_cons_zero, List.set_cons_succ]
                    refine AllT.go (rs := [21]) (by kernel_rfl) (by simp) ?_
                    refine AllT.early (o := ⟨_, _, _, _, _, _⟩) rfl (fun K hK => ?_) ?_
                    · refine step_append_lies _ rfl (.tmp 80) (.tmp 84) 36 rfl 0 46 _ (.agg #[.int .i64 0, .int .i64 0]) 2 16 Tryz.underlying36 HIP.out.1 HIP.out.2.1 HIP.out.2.2.1 HIP.out.2.2.2 rfl (by decide) (vr 2) L.length (rowW L 4 2) rfl (HI.out.ow 2 (by decide)) ⟨x1, 0, none⟩ 1 1 [.int .i64 sa, .int .i64 sc] rfl rfl PC1.out.at_ (by intro u hu; simp at hu; rcases hu with rfl | rfl <;> rfl) (by decide) HX1.out.1 (HX1.out.2 16 (by decide)) (Nat.zero_le _) W19.heap.size rfl ?_
                      intro g1 k1 W20 hrow hgrow hat hlt
                      have HI2 := Lib.hid (HI.out.app 2 (by decide) hrow hgrow hat rfl)
                      have PX2 := Lib.hid (PC2.out.app (n := L.length + 1) (c := k1) HI.out 2 (by decide) hgrow hat rfl)
                      clear PC2
                      have PC2 := PX2
                      clear PX2
                      clear HI PC1 hrow hgrow hat hlt
                      have HI := HI2
                      clear HI2
                      refine hK.out _ _ HI.out.held (fun hHeld' => ?_)
                      clear hK K hHeld
                      have hHeld := hHeld'
                      clear hHeld'
                      try simp only [Act.put, List.setIfInBounds_toArray, List.set_cons_zero, List.set_cons_succ]
                      refine AllT.go (rs := [27]) (by kernel_rfl) (by simp) ?_
                      refine AllT.early (o := ⟨_, _, _, _, _, _⟩) rfl (fun K hK => ?_) ?_
                      · refine step_append_lies _ rfl (.tmp 89) (.tmp 90) 37 rfl 0 4 _ (.bool false) 1 1 Tryz.underlying37 HIB.out.1 HIB.out.2.1 HIB.out.2.2.1 HIB.out.2.2.2 rfl (by decide) (vr 3) L.length (rowW L 4 3) rfl (HI.out.ow 3 (by decide)) ⟨x2, 0, none⟩ 1 1 [.bool false] rfl rfl PC2.out.at_ (by intro u hu; simp at hu; subst hu; rfl) (by decide) HX1.out.1 (HX1.out.2 1 (by decide)) (Nat.zero_le _) W20.heap.size rfl ?_
                        intro g2 k2 W21 hrow hgrow hat hlt
                        have HI2 := Lib.hid (HI.out.app 3 (by decide) hrow hgrow hat rfl)
                        clear HI PC2 hrow hgrow hat hlt
                        have HI := HI2
                        clear HI2
                        refine hK.out _ _ HI.out.held (fun hHeld' => ?_)
                        clear hK K hHeld
                        have hHeld := hHeld'
                        clear hHeld'
                        try simp only [Act.put, List.setIfInBounds_toArray, List.set_cons_zero, List.set_cons_succ]
                        refine AnyT.pick (i := 28) (oi := ⟨_, _, _, _, _, _⟩) (v := ?_) rfl (by kernel_rfl) (by kernel_rfl) (by kernel_rfl) (fun _ _ _ h => h) (Or.inl ⟨by rfl, ?y28_47⟩) ?_
                        case' y28_47 => ((intro w hSw; go_simp) <;> (with_reducible rfl))
                        try simp only [Act.put, List.setIfInBounds_toArray, List.set_cons_zero, List.set_cons_succ]
                        refine AnyT.pick (i := 29) (oi := ⟨_, _, _, _, _, _⟩) (v := ?_) rfl (by kernel_rfl) (by kernel_rfl) (by kernel_rfl) (fun _ _ _ h => h) (Or.inl ⟨by rfl, ?y29_48⟩) ?_
                        case' y29_48 => ((intro w hSw; go_simp) <;> (with_reducible rfl))
                        try simp only [Act.put, List.setIfInBounds_toArray, List.set_cons_zero, List.set_cons_succ]
                        refine AllT.go (rs := [30]) (by kernel_rfl) (by simp) ?_
                        refine AllT.late (o := ⟨_, _, _, _, _, _⟩) rfl (by decide) (fun K hK => ?_) AllT.nil
                        go_simp
                        refine hK.out _ _ trivial (fun _ => ?_)
                        clear hK K
                        try simp only [Act.put, List.setIfInBounds_toArray, List.set_cons_zero, List.set_cons_succ]
                        refine AnyT.pick (i := 31) (oi := ⟨_, _, _, _, _, _⟩) (v := ?_) rfl (by kernel_rfl) (by kernel_rfl) (by kernel_rfl) (fun _ _ _ h => h) (Or.inl ⟨by rfl, ?y31_49⟩) ?_
                        case' y31_49 => ((intro w hSw; go_simp) <;> (with_reducible rfl))
                        try simp only [Act.put, List.setIfInBounds_toArray, List.set_cons_zero, List.set_cons_succ]
                        refine AnyT.pick (i := 32) (oi := ⟨_, _, _, _, _, _⟩) (v := ?_) rfl (by kernel_rfl) (by kernel_rfl) (by kernel_rfl) (fun _ _ _ h => h) (Or.inl ⟨by rfl, ?y32_50⟩) ?_
                        case' y32_50 => ((intro w hSw; go_simp) <;> (with_reducible rfl))
                        try simp only [Act.put, List.setIfInBounds_toArray, List.set_cons_zero, List.set_cons_succ]
                        refine AllT.go (rs := [33]) (by kernel_rfl) (by simp) ?_
                        refine AllT.late (o := ⟨_, _, _, _, _, _⟩) rfl (by decide) (fun K hK => ?_) AllT.nil
                        go_simp
                        refine hK.out _ _ trivial (fun _ => ?_)
                        clear hK K
                        try simp only [Act.put, List.setIfInBounds_toArray, List.set_cons_zero, List.set_cons_succ]
                        refine AnyT.pick (i := 34) (oi := ⟨_, _, _, _, _, _⟩) (v := ?_) rfl (by kernel_rfl) (by kernel_rfl) (by kernel_rfl) (fun _ _ _ h => h) (Or.inl ⟨by rfl, ?y34_51⟩) ?_
                        case' y34_51 => ((intro w hSw; go_simp) <;> (with_reducible rfl))
                        try simp only [Act.put, List.setIfInBounds_toArray, List.set_cons_zero, List.set_cons_succ]
                        refine AnyT.pick (i := 35) (oi := ⟨_, _, _, _, _, _⟩) (v := ?_) rfl (by kernel_rfl) (by kernel_rfl) (by kernel_rfl) (fun _ _ _ h => h) (Or.inl ⟨by rfl, ?y35_52⟩) ?_
                        case' y35_52 => ((intro w hSw; go_simp) <;> (with_reducible rfl))
                        try simp only [Act.put, List.setIfInBounds_toArray, List.set_cons_zero, List.set_cons_succ]
                        refine AllT.go (rs := [36]) (by kernel_rfl) (by simp) ?_
                        refine AllT.late (o := ⟨_, _, _, _, _, _⟩) rfl (by decide) (fun K hK => ?_) AllT.nil
                        go_simp
                        refine hK.out _ _ trivial (fun _ => ?_)
                        clear hK K
                        try simp only [Act.put, List.setIfInBounds_toArray, List.set_cons_zero, List.set_cons_succ]
                        refine AnyT.done (by kernel_rfl) ?_ _
                        go_wp2_with fail
                        refine ⟨?_, ?meas5⟩
                        (repeat apply Exists.intro)
                        refine ⟨?rell5, rfl⟩
                        case rell5 => exact fin2 SC.out HI.out hbs HSD.out HL.out.1 HL.out.2 HSE.out hlt (by go_num)
                        case meas5 => simp [intOf]; omega
                      exact AllT.nil
                    exact AllT.nil
                  exact AllT.nil
                refine AllT.early (o := ⟨_, _, _, _, _, _⟩) rfl (fun K hK => ?_) ?_
                · go_simp
                  refine hK.out _ _ (I3.held (HI.out.alloc _)) (fun hHeld' => ?_)
                  clear hK K hHeld
                  have hHeld := hHeld'
                  clear hHeld'
                  have HI2 := Lib.hid (HI.out.alloc (.cells #[.bool false] 4))
                  have PC2 := Lib.hid (Pc.new HI.out #[.bool false] 4)
                  have PX0 := Lib.hid (PC0.out.alloc (.cells #[.bool false] 4))
                  clear PC0
                  have PC0 := PX0
                  clear PX0
                  have PX1 := Lib.hid (PC1.out.alloc (.cells #[.bool false] 4))
                  clear PC1
                  have PC1 := PX1
                  clear PX1
                  clear HI
                  have HI := HI2
                  clear HI2
                  generalize World.alloc W14 (.cells #[.bool false] 4) = W22 at *
                  generalize W14.heap.size = x2 at *
                  try simp only [Act.put, List.setIfInBounds_toArray, List.set_cons_zero, List.set_cons_succ]
                  refine AllT.go (rs := [12]) (by kernel_rfl) (by simp) ?_
                  refine AllT.early (o := ⟨_, _, _, _, _, _⟩) rfl (fun K hK => ?_) ?_
                  · refine step_append_lies _ rfl (.tmp 70) (.tmp 75) 34 rfl 0 48 _ (.agg #[.int .i64 0, .int .i64 0, .bool false]) 3 24 Tryz.underlying34 HIM.out.1 HIM.out.2.1 HIM.out.2.2.1 HIM.out.2.2.2 rfl (by decide) (vr 0) L.length (rowW L 4 0) rfl (HI.out.ow 0 (by decide)) ⟨x0, 0, none⟩ 1 1 [.int .i64 sa, .int .i64 sc, .bool false] rfl rfl PC0.out.at_ (by intro u hu; simp at hu; rcases hu with rfl | rfl | rfl <;> rfl) (by decide) HX1.out.1 (HX1.out.2 24 (by decide)) (Nat.zero_le _) W22.heap.size rfl ?_
                    intro g0 k0 W23 hrow hgrow hat hlt
                    have HI2 := Lib.hid (HI.out.app 0 (by decide) hrow hgrow hat rfl)
                    have PX1 := Lib.hid (PC1.out.app (n := L.length + 1) (c := k0) HI.out 0 (by decide) hgrow hat rfl)
                    clear PC1
                    have PC1 := PX1
                    clear PX1
                    have PX2 := Lib.hid (PC2.out.app (n := L.length + 1) (c := k0) HI.out 0 (by decide) hgrow hat rfl)
                    clear PC2
                    have PC2 := PX2
                    clear PX2
                    clear HI PC0 hrow hgrow hat hlt
                    have HI := HI2
                    clear HI2
                    refine hK.out _ _ HI.out.held (fun hHeld' => ?_)
                    clear hK K hHeld
                    have hHeld := hHeld'
                    clear hHeld'
                    try simp only [Act.put, List.setIfInBounds_toArray, List.set_cons_zero, List.set_cons_succ]
                    refine AllT.go (rs := [21]) (by kernel_rfl) (by simp) ?_
                    refine AllT.early (o := ⟨_, _, _, _, _, _⟩) rfl (fun K hK => ?_) ?_
                    · refine step_append_lies _ rfl (.tmp 80) (.tmp 84) 36 rfl 0 46 _ (.agg #[.int .i64 0, .int .i64 0]) 2 16 Tryz.underlying36 HIP.out.1 HIP.out.2.1 HIP.out.2.2.1 HIP.out.2.2.2 rfl (by decide) (vr 2) L.length (rowW L 4 2) rfl (HI.out.ow 2 (by decide)) ⟨x1, 0, none⟩ 1 1 [.int .i64 sa, .int .i64 sc] rfl rfl PC1.out.at_ (by intro u hu; simp at hu; rcases hu with rfl | rfl <;> rfl) (by decide) HX1.out.1 (HX1.out.2 16 (by decide)) (Nat.zero_le _) W23.heap.size rfl ?_
                      intro g1 k1 W24 hrow hgrow hat hlt
                      have HI2 := Lib.hid (HI.out.app 2 (by decide) hrow hgrow hat rfl)
                      have PX2 := Lib.hid (PC2.out.app (n := L.length + 1) (c := k1) HI.out 2 (by decide) hgrow hat rfl)
                      clear PC2
                      have PC2 := PX2
                      clear PX2
                      clear HI PC1 hrow hgrow hat hlt
                      have HI := HI2
                      clear HI2
                      refine hK.out _ _ HI.out.held (fun hHeld' => ?_)
                      clear hK K hHeld
                      have hHeld := hHeld'
                      clear hHeld'
                      try simp only [Act.put, List.setIfInBounds_toArray, List.set_cons_zero, List.set_cons_succ]
                      refine AllT.go (rs := [27]) (by kernel_rfl) (by simp) ?_
                      refine AllT.early (o := ⟨_, _, _, _, _, _⟩) rfl (fun K hK => ?_) ?_
                      · refine step_append_lies _ rfl (.tmp 89) (.tmp 90) 37 rfl 0 4 _ (.bool false) 1 1 Tryz.underlying37 HIB.out.1 HIB.out.2.1 HIB.out.2.2.1 HIB.out.2.2.2 rfl (by decide) (vr 3) L.length (rowW L 4 3) rfl (HI.out.ow 3 (by decide)) ⟨x2, 0, none⟩ 1 1 [.bool false] rfl rfl PC2.out.at_ (by intro u hu; simp at hu; subst hu; rfl) (by decide) HX1.out.1 (HX1.out.2 1 (by decide)) (Nat.zero_le _) W24.heap.size rfl ?_
                        intro g2 k2 W25 hrow hgrow hat hlt
                        have HI2 := Lib.hid (HI.out.app 3 (by decide) hrow hgrow hat rfl)
                        clear HI PC2 hrow hgrow hat hlt
                        have HI := HI2
                        clear HI2
                        refine hK.out _ _ HI.out.held (fun hHeld' => ?_)
                        clear hK K hHeld
                        have hHeld := hHeld'
                        clear hHeld'
                        try simp only [Act.put, List.setIfInBounds_toArray, List.set_cons_zero, List.set_cons_succ]
                        refine AnyT.pick (i := 28) (oi := ⟨_, _, _, _, _, _⟩) (v := ?_) rfl (by kernel_rfl) (by kernel_rfl) (by kernel_rfl) (fun _ _ _ h => h) (Or.inl ⟨by rfl, ?y28_53⟩) ?_
                        case' y28_53 => ((intro w hSw; go_simp) <;> (with_reducible rfl))
                        try simp only [Act.put, List.setIfInBounds_toArray, List.set_cons_zero, List.set_cons_succ]
                        refine AnyT.pick (i := 29) (oi := ⟨_, _, _, _, _, _⟩) (v := ?_) rfl (by kernel_rfl) (by kernel_rfl) (by kernel_rfl) (fun _ _ _ h => h) (Or.inl ⟨by rfl, ?y29_54⟩) ?_
                        case' y29_54 => ((intro w hSw; go_simp) <;> (with_reducible rfl))
                        try simp only [Act.put, List.setIfInBounds_toArray, List.set_cons_zero, List.set_cons_succ]
                        refine AllT.go (rs := [30]) (by kernel_rfl) (by simp) ?_
                        refine AllT.late (o := ⟨_, _, _, _, _, _⟩) rfl (by decide) (fun K hK => ?_) AllT.nil
                        go_simp
                        refine hK.out _ _ trivial (fun _ => ?_)
                        clear hK K
                        try simp only [Act.put, List.setIfInBounds_toArray, List.set_cons_zero, List.set_cons_succ]
                        refine AnyT.pick (i := 31) (oi := ⟨_, _, _, _, _, _⟩) (v := ?_) rfl (by kernel_rfl) (by kernel_rfl) (by kernel_rfl) (fun _ _ _ h => h) (Or.inl ⟨by rfl, ?y31_55⟩) ?_
                        case' y31_55 => ((intro w hSw; go_simp) <;> (with_reducible rfl))
                        try simp only [Act.put, List.setIfInBounds_toArray, List.set_cons_zero, List.set_cons_succ]
                        refine AnyT.pick (i := 32) (oi := ⟨_, _, _, _, _, _⟩) (v := ?_) rfl (by kernel_rfl) (by kernel_rfl) (by kernel_rfl) (fun _ _ _ h => h) (Or.inl ⟨by rfl, ?y32_56⟩) ?_
                        case' y32_56 => ((intro w hSw; go_simp) <;> (with_reducible rfl))
                        try simp only [Act.put, List.setIfInBounds_toArray, List.set_cons_zero, List.set_cons_succ]
                        refine AllT.go (rs := [33]) (by kernel_rfl) (by simp) ?_
                        refine AllT.late (o := ⟨_, _, _, _, _, _⟩) rfl (by decide) (fun K hK => ?_) AllT.nil
                        go_simp
                        refine hK.out _ _ trivial (fun _ => ?_)
                        clear hK K
                        try simp only [Act.put, List.setIfInBounds_toArray, List.set_cons_zero, List.set_cons_succ]
                        refine AnyT.pick (i := 34) (oi := ⟨_, _, _, _, _, _⟩) (v := ?_) rfl (by kernel_rfl) (by kernel_rfl) (by kernel_rfl) (fun _ _ _ h => h) (Or.inl ⟨by rfl, ?y34_57⟩) ?_
                        case' y34_57 => ((intro w hSw; go_simp) <;> (with_reducible rfl))
                        try simp only [Act.put, List.setIfInBounds_toArray, List.set_cons_zero, List.set_cons_succ]
                        refine AnyT.pick (i := 35) (oi := ⟨_, _, _, _, _, _⟩) (v := ?_) rfl (by kernel_rfl) (by kernel_rfl) (by kernel_rfl) (fun _ _ _ h => h) (Or.inl ⟨by rfl, ?y35_58⟩) ?_
                        case' y35_58 => ((intro w hSw; go_simp) <;> (with_reducible rfl))
                        try simp only [Act.put, List.setIfInBounds_toArray, List.set_cons_zero, List.set_cons_succ]
                        refine AllT.go (rs := [36]) (by kernel_rfl) (by simp) ?_
                        refine AllT.late (o := ⟨_, _, _, _, _, _⟩) rfl (by decide) (fun K hK => ?_) AllT.nil
                        go_simp
                        refine hK.out _ _ trivial (fun _ => ?_)
                        clear hK K
                        try simp only [Act.put, List.setIfInBounds_toArray, List.set_cons_zero, List.set_cons_succ]
                        refine AnyT.done (by kernel_rfl) ?_ _
                        go_wp2_with fail
                        refine ⟨?_, ?meas6⟩
                        (repeat apply Exists.intro)
                        refine ⟨?rell6, rfl⟩
                        case rell6 => exact fin2 SC.out HI.out hbs HSD.out HL.out.1 HL.out.2 HSE.out hlt (by go_num)
                        case meas6 => simp [intOf]; omega
                      exact AllT.nil
                    exact AllT.nil
                  exact AllT.nil
                exact AllT.nil
              refine AllT.early (o := ⟨_, _, _, _, _, _⟩) rfl (fun K hK => ?_) ?_
              · go_simp
                refine hK.out _ _ (I3.held (HI.out.alloc _)) (fun hHeld' => ?_)
                clear hK K hHeld
                have hHeld := hHeld'
                clear hHeld'
                have HI2 := Lib.hid (HI.out.alloc (.cells #[.bool false] 4))
                have PC2 := Lib.hid (Pc.new HI.out #[.bool false] 4)
                have PX0 := Lib.hid (PC0.out.alloc (.cells #[.bool false] 4))
                clear PC0
                have PC0 := PX0
                clear PX0
                clear HI
                have HI := HI2
                clear HI2
                generalize World.alloc W1 (.cells #[.bool false] 4) = W26 at *
                generalize W1.heap.size = x2 at *
                try simp only [Act.put, List.setIfInBounds_toArray, List.set_cons_zero, List.set_cons_succ]
                refine AllT.go (rs := [12, 20]) (by kernel_rfl) (by simp) ?_
                refine AllT.early (o := ⟨_, _, _, _, _, _⟩) rfl (fun K hK => ?_) ?_
                · refine step_append_lies _ rfl (.tmp 70) (.tmp 75) 34 rfl 0 48 _ (.agg #[.int .i64 0, .int .i64 0, .bool false]) 3 24 Tryz.underlying34 HIM.out.1 HIM.out.2.1 HIM.out.2.2.1 HIM.out.2.2.2 rfl (by decide) (vr 0) L.length (rowW L 4 0) rfl (HI.out.ow 0 (by decide)) ⟨x0, 0, none⟩ 1 1 [.int .i64 sa, .int .i64 sc, .bool false] rfl rfl PC0.out.at_ (by intro u hu; simp at hu; rcases hu with rfl | rfl | rfl <;> rfl) (by decide) HX1.out.1 (HX1.out.2 24 (by decide)) (Nat.zero_le _) W26.heap.size rfl ?_
                  intro g0 k0 W27 hrow hgrow hat hlt
                  have HI2 := Lib.hid (HI.out.app 0 (by decide) hrow hgrow hat rfl)
                  have PX2 := Lib.hid (PC2.out.app (n := L.length + 1) (c := k0) HI.out 0 (by decide) hgrow hat rfl)
                  clear PC2
                  have PC2 := PX2
                  clear PX2
                  clear HI PC0 hrow hgrow hat hlt
                  have HI := HI2
                  clear HI2
                  refine hK.out _ _ HI.out.held (fun hHeld' => ?_)
                  clear hK K hHeld
                  have hHeld := hHeld'
                  clear hHeld'
                  try simp only [Act.put, List.setIfInBounds_toArray, List.set_cons_zero, List.set_cons_succ]
                  refine AllT.go (rs := [20]) (by kernel_rfl) (by simp) ?_
                  refine AllT.early (o := ⟨_, _, _, _, _, _⟩) rfl (fun K hK => ?_) ?_
                  · go_simp
                    refine hK.out _ _ (I3.held (HI.out.alloc _)) (fun hHeld' => ?_)
                    clear hK K hHeld
                    have hHeld := hHeld'
                    clear hHeld'
                    have HI2 := Lib.hid (HI.out.alloc (.cells #[.int .i64 sa, .int .i64 sc] 46))
                    have PC1 := Lib.hid (Pc.new HI.out #[.int .i64 sa, .int .i64 sc] 46)
                    have PX2 := Lib.hid (PC2.out.alloc (.cells #[.int .i64 sa, .int .i64 sc] 46))
                    clear PC2
                    have PC2 := PX2
                    clear PX2
                    clear HI
                    have HI := HI2
                    clear HI2
                    generalize World.alloc W27 (.cells #[.int .i64 sa, .int .i64 sc] 46) = W28 at *
                    generalize W27.heap.size = x1 at *
                    try simp only [Act.put, List.setIfInBounds_toArray, List.set_cons_zero, List.set_cons_succ]
                    refine AllT.go (rs := [21]) (by kernel_rfl) (by simp) ?_
                    refine AllT.early (o := ⟨_, _, _, _, _, _⟩) rfl (fun K hK => ?_) ?_
                    · refine step_append_lies _ rfl (.tmp 80) (.tmp 84) 36 rfl 0 46 _ (.agg #[.int .i64 0, .int .i64 0]) 2 16 Tryz.underlying36 HIP.out.1 HIP.out.2.1 HIP.out.2.2.1 HIP.out.2.2.2 rfl (by decide) (vr 2) L.length (rowW L 4 2) rfl (HI.out.ow 2 (by decide)) ⟨x1, 0, none⟩ 1 1 [.int .i64 sa, .int .i64 sc] rfl rfl PC1.out.at_ (by intro u hu; simp at hu; rcases hu with rfl | rfl <;> rfl) (by decide) HX1.out.1 (HX1.out.2 16 (by decide)) (Nat.zero_le _) W28.heap.size rfl ?_
                      intro g1 k1 W29 hrow hgrow hat hlt
                      have HI2 := Lib.hid (HI.out.app 2 (by decide) hrow hgrow hat rfl)
                      have PX2 := Lib.hid (PC2.out.app (n := L.length + 1) (c := k1) HI.out 2 (by decide) hgrow hat rfl)
                      clear PC2
                      have PC2 := PX2
                      clear PX2
                      clear HI PC1 hrow hgrow hat hlt
                      have HI := HI2
                      clear HI2
                      refine hK.out _ _ HI.out.held (fun hHeld' => ?_)
                      clear hK K hHeld
                      have hHeld := hHeld'
                      clear hHeld'
                      try simp only [Act.put, List.setIfInBounds_toArray, List.set_cons_zero, List.set_cons_succ]
                      refine AllT.go (rs := [27]) (by kernel_rfl) (by simp) ?_
                      refine AllT.early (o := ⟨_, _, _, _, _, _⟩) rfl (fun K hK => ?_) ?_
                      · refine step_append_lies _ rfl (.tmp 89) (.tmp 90) 37 rfl 0 4 _ (.bool false) 1 1 Tryz.underlying37 HIB.out.1 HIB.out.2.1 HIB.out.2.2.1 HIB.out.2.2.2 rfl (by decide) (vr 3) L.length (rowW L 4 3) rfl (HI.out.ow 3 (by decide)) ⟨x2, 0, none⟩ 1 1 [.bool false] rfl rfl PC2.out.at_ (by intro u hu; simp at hu; subst hu; rfl) (by decide) HX1.out.1 (HX1.out.2 1 (by decide)) (Nat.zero_le _) W29.heap.size rfl ?_
                        intro g2 k2 W30 hrow hgrow hat hlt
                        have HI2 := Lib.hid (HI.out.app 3 (by decide) hrow hgrow hat rfl)
                        clear HI PC2 hrow hgrow hat hlt
                        have HI := HI2
                        clear HI2
                        refine hK.out _ _ HI.out.held (fun hHeld' => ?_)
                        clear hK K hHeld
                        have hHeld := hHeld'
                        clear hHeld'
                        try simp only [Act.put, List.setIfInBounds_toArray, List.set_cons_zero, List.set_cons_succ]
                        refine AnyT.pick (i := 28) (oi := ⟨_, _, _, _, _, _⟩) (v := ?_) rfl (by kernel_rfl) (by kernel_rfl) (by kernel_rfl) (fun _ _ _ h => h) (Or.inl ⟨by rfl, ?y28_59⟩) ?_
                        case' y28_59 => ((intro w hSw; go_simp) <;> (with_reducible rfl))
                        try simp only [Act.put, List.setIfInBounds_toArray, List.set_cons_zero, List.set_cons_succ]
                        refine AnyT.pick (i := 29) (oi := ⟨_, _, _, _, _, _⟩) (v := ?_) rfl (by kernel_rfl) (by kernel_rfl) (by kernel_rfl) (fun _ _ _ h => h) (Or.inl ⟨by rfl, ?y29_60⟩) ?_
                        case' y29_60 => ((intro w hSw; go_simp) <;> (with_reducible rfl))
                        try simp only [Act.put, List.setIfInBounds_toArray, List.set_cons_zero, List.set_cons_succ]
                        refine AllT.go (rs := [30]) (by kernel_rfl) (by simp) ?_
                        refine AllT.late (o := ⟨_, _, _, _, _, _⟩) rfl (by decide) (fun K hK => ?_) AllT.nil
                        go_simp
                        refine hK.out _ _ trivial (fun _ => ?_)
                        clear hK K
                        try simp only [Act.put, List.setIfInBounds_toArray, List.set_cons_zero, List.set_cons_succ]
                        refine AnyT.pick (i := 31) (oi := ⟨_, _, _, _, _, _⟩) (v := ?_) rfl (by kernel_rfl) (by kernel_rfl) (by kernel_rfl) (fun _ _ _ h => h) (Or.inl ⟨by rfl, ?y31_61⟩) ?_
                        case' y31_61 => ((intro w hSw; go_simp) <;> (with_reducible rfl))
                        try simp only [Act.put, List.setIfInBounds_toArray, List.set_cons_zero, List.set_cons_succ]
                        refine AnyT.pick (i := 32) (oi := ⟨_, _, _, _, _, _⟩) (v := ?_) rfl (by kernel_rfl) (by kernel_rfl) (by kernel_rfl) (fun _ _ _ h => h) (Or.inl ⟨by rfl, ?y32_62⟩) ?_
                        case' y32_62 => ((intro w hSw; go_simp) <;> (with_reducible rfl))
                        try simp only [Act.put, List.setIfInBounds_toArray, List.set_cons_zero, List.set_cons_succ]
                        refine AllT.go (rs := [33]) (by kernel_rfl) (by simp) ?_
                        refine AllT.late (o := ⟨_, _, _, _, _, _⟩) rfl (by decide) (fun K hK => ?_) AllT.nil
                        go_simp
                        refine hK.out _ _ trivial (fun _ => ?_)
                        clear hK K
                        try simp only [Act.put, List.setIfInBounds_toArray, List.set_cons_zero, List.set_cons_succ]
                        refine AnyT.pick (i := 34) (oi := ⟨_, _, _, _, _, _⟩) (v := ?_) rfl (by kernel_rfl) (by kernel_rfl) (by kernel_rfl) (fun _ _ _ h => h) (Or.inl ⟨by rfl, ?y34_63⟩) ?_
                        case' y34_63 => ((intro w hSw; go_simp) <;> (with_reducible rfl))
                        try simp only [Act.put, List.setIfInBounds_toArray, List.set_cons_zero, List.set_cons_succ]
                        refine AnyT.pick (i := 35) (oi := ⟨_, _, _, _, _, _⟩) (v := ?_) rfl (by kernel_rfl) (by kernel_rfl) (by kernel_rfl) (fun _ _ _ h => h) (Or.inl ⟨by rfl, ?y35_64⟩) ?_
                        case' y35_64 => ((intro w hSw; go_simp) <;> (with_reducible rfl))
                        try simp only [Act.put, List.setIfInBounds_toArray, List.set_cons_zero, List.set_cons_succ]
                        refine AllT.go (rs := [36]) (by kernel_rfl) (by simp) ?_
                        refine AllT.late (o := ⟨_, _, _, _, _, _⟩) rfl (by decide) (fun K hK => ?_) AllT.nil
                        go_simp
                        refine hK.out _ _ trivial (fun _ => ?_)
                        clear hK K
                        try simp only [Act.put, List.setIfInBounds_toArray, List.set_cons_zero, List.set_cons_succ]
                        refine AnyT.done (by kernel_rfl) ?_ _
                        go_wp2_with fail
                        refine ⟨?_, ?meas7⟩
                        (repeat apply Exists.intro)
                        refine ⟨?rell7, rfl⟩
                        case rell7 => exact fin2 SC.out HI.out hbs HSD.out HL.out.1 HL.out.2 HSE.out hlt (by go_num)
                        case meas7 => simp [intOf]; omega
                      exact AllT.nil
                    exact AllT.nil
                  exact AllT.nil
                refine AllT.early (o := ⟨_, _, _, _, _, _⟩) rfl (fun K hK => ?_) ?_
                · go_simp
                  refine hK.out _ _ (I3.held (HI.out.alloc _)) (fun hHeld' => ?_)
                  clear hK K hHeld
                  have hHeld := hHeld'
                  clear hHeld'
                  have HI2 := Lib.hid (HI.out.alloc (.cells #[.int .i64 sa, .int .i64 sc] 46))
                  have PC1 := Lib.hid (Pc.new HI.out #[.int .i64 sa, .int .i64 sc] 46)
                  have PX0 := Lib.hid (PC0.out.alloc (.cells #[.int .i64 sa, .int .i64 sc] 46))
                  clear PC0
                  have PC0 := PX0
                  clear PX0
                  have PX2 := Lib.hid (PC2.out.alloc (.cells #[.int .i64 sa, .int .i64 sc] 46))
                  clear PC2
                  have PC2 := PX2
                  clear PX2
                  clear HI
                  have HI := HI2
                  clear HI2
                  generalize World.alloc W26 (.cells #[.int .i64 sa, .int .i64 sc] 46) = W31 at *
                  generalize W26.heap.size = x1 at *
                  try simp only [Act.put, List.setIfInBounds_toArray, List.set_cons_zero, List.set_cons_succ]
                  refine AllT.go (rs := [12]) (by kernel_rfl) (by simp) ?_
                  refine AllT.early (o := ⟨_, _, _, _, _, _⟩) rfl (fun K hK => ?_) ?_
                  · refine step_append_lies _ rfl (.tmp 70) (.tmp 75) 34 rfl 0 48 _ (.agg #[.int .i64 0, .int .i64 0, .bool false]) 3 24 Tryz.underlying34 HIM.out.1 HIM.out.2.1 HIM.out.2.2.1 HIM.out.2.2.2 rfl (by decide) (vr 0) L.length (rowW L 4 0) rfl (HI.out.ow 0 (by decide)) ⟨x0, 0, none⟩ 1 1 [.int .i64 sa, .int .i64 sc, .bool false] rfl rfl PC0.out.at_ (by intro u hu; simp at hu; rcases hu with rfl | rfl | rfl <;> rfl) (by decide) HX1.out.1 (HX1.out.2 24 (by decide)) (Nat.zero_le _) W31.heap.size rfl ?_
                    intro g0 k0 W32 hrow hgrow hat hlt
                    have HI2 := Lib.hid (HI.out.app 0 (by decide) hrow hgrow hat rfl)
                    have PX1 := Lib.hid (PC1.out.app (n := L.length + 1) (c := k0) HI.out 0 (by decide) hgrow hat rfl)
                    clear PC1
                    have PC1 := PX1
                    clear PX1
                    have PX2 := Lib.hid (PC2.out.app (n := L.length + 1) (c := k0) HI.out 0 (by decide) hgrow hat rfl)
                    clear PC2
                    have PC2 := PX2
                    clear PX2
                    clear HI PC0 hrow hgrow hat hlt
                    have HI := HI2
                    clear HI2
                    refine hK.out _ _ HI.out.held (fun hHeld' => ?_)
                    clear hK K hHeld
                    have hHeld := hHeld'
                    clear hHeld'
                    try simp only [Act.put, List.setIfInBounds_toArray, List.set_cons_zero, List.set_cons_succ]
                    refine AllT.go (rs := [21]) (by kernel_rfl) (by simp) ?_
                    refine AllT.early (o := ⟨_, _, _, _, _, _⟩) rfl (fun K hK => ?_) ?_
                    · refine step_append_lies _ rfl (.tmp 80) (.tmp 84) 36 rfl 0 46 _ (.agg #[.int .i64 0, .int .i64 0]) 2 16 Tryz.underlying36 HIP.out.1 HIP.out.2.1 HIP.out.2.2.1 HIP.out.2.2.2 rfl (by decide) (vr 2) L.length (rowW L 4 2) rfl (HI.out.ow 2 (by decide)) ⟨x1, 0, none⟩ 1 1 [.int .i64 sa, .int .i64 sc] rfl rfl PC1.out.at_ (by intro u hu; simp at hu; rcases hu with rfl | rfl <;> rfl) (by decide) HX1.out.1 (HX1.out.2 16 (by decide)) (Nat.zero_le _) W32.heap.size rfl ?_
                      intro g1 k1 W33 hrow hgrow hat hlt
                      have HI2 := Lib.hid (HI.out.app 2 (by decide) hrow hgrow hat rfl)
                      have PX2 := Lib.hid (PC2.out.app (n := L.length + 1) (c := k1) HI.out 2 (by decide) hgrow hat rfl)
                      clear PC2
                      have PC2 := PX2
                      clear PX2
                      clear HI PC1 hrow hgrow hat hlt
                      have HI := HI2
                      clear HI2
                      refine hK.out _ _ HI.out.held (fun hHeld' => ?_)
                      clear hK K hHeld
                      have hHeld := hHeld'
                      clear hHeld'
                      try simp only [Act.put, List.setIfInBounds_toArray, List.set_cons_zero, List.set_cons_succ]
                      refine AllT.go (rs := [27]) (by kernel_rfl) (by simp) ?_
                      refine AllT.early (o := ⟨_, _, _, _, _, _⟩) rfl (fun K hK => ?_) ?_
                      · refine step_append_lies _ rfl (.tmp 89) (.tmp 90) 37 rfl 0 4 _ (.bool false) 1 1 Tryz.underlying37 HIB.out.1 HIB.out.2.1 HIB.out.2.2.1 HIB.out.2.2.2 rfl (by decide) (vr 3) L.length (rowW L 4 3) rfl (HI.out.ow 3 (by decide)) ⟨x2, 0, none⟩ 1 1 [.bool false] rfl rfl PC2.out.at_ (by intro u hu; simp at hu; subst hu; rfl) (by decide) HX1.out.1 (HX1.out.2 1 (by decide)) (Nat.zero_le _) W33.heap.size rfl ?_
                        intro g2 k2 W34 hrow hgrow hat hlt
                        have HI2 := Lib.hid (HI.out.app 3 (by decide) hrow hgrow hat rfl)
                        clear HI PC2 hrow hgrow hat hlt
                        have HI := HI2
                        clear HI2
                        refine hK.out _ _ HI.out.held (fun hHeld' => ?_)
                        clear hK K hHeld
                        have hHeld := hHeld'
                        clear hHeld'
                        try simp only [Act.put, List.setIfInBounds_toArray, List.set_cons_zero, List.set_cons_succ]
                        refine AnyT.pick (i := 28) (oi := ⟨_, _, _, _, _, _⟩) (v := ?_) rfl (by kernel_rfl) (by kernel_rfl) (by kernel_rfl) (fun _ _ _ h => h) (Or.inl ⟨by rfl, ?y28_65⟩) ?_
                        case' y28_65 => ((intro w hSw; go_simp) <;> (with_reducible rfl))
                        try simp only [Act.put, List.setIfInBounds_toArray, List.set_cons_zero, List.set_cons_succ]
                        refine AnyT.pick (i := 29) (oi := ⟨_, _, _, _, _, _⟩) (v := ?_) rfl (by kernel_rfl) (by kernel_rfl) (by kernel_rfl) (fun _ _ _ h => h) (Or.inl ⟨by rfl, ?y29_66⟩) ?_
                        case' y29_66 => ((intro w hSw; go_simp) <;> (with_reducible rfl))
                        try simp only [Act.put, List.setIfInBounds_toArray, List.set_cons_zero, List.set_cons_succ]
                        refine AllT.go (rs := [30]) (by kernel_rfl) (by simp) ?_
                        refine AllT.late (o := ⟨_, _, _, _, _, _⟩) rfl (by decide) (fun K hK => ?_) AllT.nil
                        go_simp
                        refine hK.out _ _ trivial (fun _ => ?_)
                        clear hK K
                        try simp only [Act.put, List.setIfInBounds_toArray, List.set_cons_zero, List.set_cons_succ]
                        refine AnyT.pick (i := 31) (oi := ⟨_, _, _, _, _, _⟩) (v := ?_) rfl (by kernel_rfl) (by kernel_rfl) (by kernel_rfl) (fun _ _ _ h => h) (Or.inl ⟨by rfl, ?y31_67⟩) ?_
                        case' y31_67 => ((intro w hSw; go_simp) <;> (with_reducible rfl))
                        try simp only [Act.put, List.setIfInBounds_toArray, List.set_cons_zero, List.set_cons_succ]
                        refine AnyT.pick (i := 32) (oi := ⟨_, _, _, _, _, _⟩) (v := ?_) rfl (by kernel_rfl) (by kernel_rfl) (by kernel_rfl) (fun _ _ _ h => h) (Or.inl ⟨by rfl, ?y32_68⟩) ?_
                        case' y32_68 => ((intro w hSw; go_simp) <;> (with_reducible rfl))
                        try simp only [Act.put, List.setIfInBounds_toArray, List.set_cons_zero, List.set_cons_succ]
                        refine AllT.go (rs := [33]) (by kernel_rfl) (by simp) ?_
                        refine AllT.late (o := ⟨_, _, _, _, _, _⟩) rfl (by decide) (fun K hK => ?_) AllT.nil
                        go_simp
                        refine hK.out _ _ trivial (fun _ => ?_)
                        clear hK K
                        try simp only [Act.put, List.setIfInBounds_toArray, List.set_cons_zero, List.set_cons_succ]
                        refine AnyT.pick (i := 34) (oi := ⟨_, _, _, _, _, _⟩) (v := ?_) rfl (by kernel_rfl) (by kernel_rfl) (by kernel_rfl) (fun _ _ _ h => h) (Or.inl ⟨by rfl, ?y34_69⟩) ?_
                        case' y34_69 => ((intro w hSw; go_simp) <;> (with_reducible rfl))
                        try simp only [Act.put, List.setIfInBounds_toArray, List.set_cons_zero, List.set_cons_succ]
                        refine AnyT.pick (i := 35) (oi := ⟨_, _, _, _, _, _⟩) (v := ?_) rfl (by kernel_rfl) (by kernel_rfl) (by kernel_rfl) (fun _ _ _ h => h) (Or.inl ⟨by rfl, ?y35_70⟩) ?_
                        case' y35_70 => ((intro w hSw; go_simp) <;> (with_reducible rfl))
                        try simp only [Act.put, List.setIfInBounds_toArray, List.set_cons_zero, List.set_cons_succ]
                        refine AllT.go (rs := [36]) (by kernel_rfl) (by simp) ?_
                        refine AllT.late (o := ⟨_, _, _, _, _, _⟩) rfl (by decide) (fun K hK => ?_) AllT.nil
                        go_simp
                        refine hK.out _ _ trivial (fun _ => ?_)
                        clear hK K
                        try simp only [Act.put, List.setIfInBounds_toArray, List.set_cons_zero, List.set_cons_succ]
                        refine AnyT.done (by kernel_rfl) ?_ _
                        go_wp2_with fail
                        refine ⟨?_, ?meas8⟩
                        (repeat apply Exists.intro)
                        refine ⟨?rell8, rfl⟩
                        case rell8 => exact fin2 SC.out HI.out hbs HSD.out HL.out.1 HL.out.2 HSE.out hlt (by go_num)
                        case meas8 => simp [intOf]; omega
                      exact AllT.nil
                    exact AllT.nil
                  exact AllT.nil
                exact AllT.nil
              exact AllT.nil
            refine AllT.early (o := ⟨_, _, _, _, _, _⟩) rfl (fun K hK => ?_) ?_
            · go_simp
              refine hK.out _ _ (I3.held (HI.out.alloc _)) (fun hHeld' => ?_)
              clear hK K hHeld
              have hHeld := hHeld'
              clear hHeld'
              have HI2 := Lib.hid (HI.out.alloc (.cells #[.int .i64 sa, .int .i64 sc] 46))
              have PC1 := Lib.hid (Pc.new HI.out #[.int .i64 sa, .int .i64 sc] 46)
              clear HI
              have HI := HI2
              clear HI2
              generalize World.alloc W0 (.cells #[.int .i64 sa, .int .i64 sc] 46) = W35 at *
              generalize W0.heap.size = x1 at *
              try simp only [Act.put, List.setIfInBounds_toArray, List.set_cons_zero, List.set_cons_succ]
              refine AllT.go (rs := [11, 26]) (by kernel_rfl) (by simp) ?_
              refine AllT.early (o := ⟨_, _, _, _, _, _⟩) rfl (fun K hK => ?_) ?_
              · go_simp
                refine hK.out _ _ (I3.held (HI.out.alloc _)) (fun hHeld' => ?_)
                clear hK K hHeld
                have hHeld := hHeld'
                clear hHeld'
                have HI2 := Lib.hid (HI.out.alloc (.cells #[.int .i64 sa, .int .i64 sc, .bool false] 48))
                have PC0 := Lib.hid (Pc.new HI.out #[.int .i64 sa, .int .i64 sc, .bool false] 48)
                have PX1 := Lib.hid (PC1.out.alloc (.cells #[.int .i64 sa, .int .i64 sc, .bool false] 48))
                clear PC1
                have PC1 := PX1
                clear PX1
                clear HI
                have HI := HI2
                clear HI2
                generalize World.alloc W35 (.cells #[.int .i64 sa, .int .i64 sc, .bool false] 48) = W36 at *
                generalize W35.heap.size = x0 at *
                try simp only [Act.put, List.setIfInBounds_toArray, List.set_cons_zero, List.set_cons_succ]
                refine AllT.go (rs := [12, 26]) (by kernel_rfl) (by simp) ?_
                refine AllT.early (o := ⟨_, _, _, _, _, _⟩) rfl (fun K hK => ?_) ?_
                · refine step_append_lies _ rfl (.tmp 70) (.tmp 75) 34 rfl 0 48 _ (.agg #[.int .i64 0, .int .i64 0, .bool false]) 3 24 Tryz.underlying34 HIM.out.1 HIM.out.2.1 HIM.out.2.2.1 HIM.out.2.2.2 rfl (by decide) (vr 0) L.length (rowW L 4 0) rfl (HI.out.ow 0 (by decide)) ⟨x0, 0, none⟩ 1 1 [.int .i64 sa, .int .i64 sc, .bool false] rfl rfl PC0.out.at_ (by intro u hu; simp at hu; rcases hu with rfl | rfl | rfl <;> rfl) (by decide) HX1.out.1 (HX1.out.2 24 (by decide)) (Nat.zero_le _) W36.heap.size rfl ?_
                  intro g0 k0 W37 hrow hgrow hat hlt
                  have HI2 := Lib.hid (HI.out.app 0 (by decide) hrow hgrow hat rfl)
                  have PX1 := Lib.hid (PC1.out.app (n := L.length + 1) (c := k0) HI.out 0 (by decide) hgrow hat rfl)
                  clear PC1
                  have PC1 := PX1
                  clear PX1
                  clear HI PC0 hrow hgrow hat hlt
                  have HI := HI2
                  clear HI2
                  refine hK.out _ _ HI.out.held (fun hHeld' => ?_)
                  clear hK K hHeld
                  have hHeld := hHeld'
                  clear hHeld'
                  try simp only [Act.put, List.setIfInBounds_toArray, List.set_cons_zero, List.set_cons_succ]
                  refine AllT.go (rs := [21, 26]) (by kernel_rfl) (by simp) ?_
                  refine AllT.early (o := ⟨_, _, _, _, _, _⟩) rfl (fun K hK => ?_) ?_
                  · refine step_append_lies _ rfl (.tmp 80) (.tmp 84) 36 rfl 0 46 _ (.agg #[.int .i64 0, .int .i64 0]) 2 16 Tryz.underlying36 HIP.out.1 HIP.out.2.1 HIP.out.2.2.1 HIP.out.2.2.2 rfl (by decide) (vr 2) L.length (rowW L 4 2) rfl (HI.out.ow 2 (by decide)) ⟨x1, 0, none⟩ 1 1 [.int .i64 sa, .int .i64 sc] rfl rfl PC1.out.at_ (by intro u hu; simp at hu; rcases hu with rfl | rfl <;> rfl) (by decide) HX1.out.1 (HX1.out.2 16 (by decide)) (Nat.zero_le _) W37.heap.size rfl ?_
                    intro g1 k1 W38 hrow hgrow hat hlt
                    have HI2 := Lib.hid (HI.out.app 2 (by decide) hrow hgrow hat rfl)
                    clear HI PC1 hrow hgrow hat hlt
                    have HI := HI2
                    clear HI2
                    refine hK.out _ _ HI.out.held (fun hHeld' => ?_)
                    clear hK K hHeld
                    have hHeld := hHeld'
                    clear hHeld'
                    try simp only [Act.put, List.setIfInBounds_toArray, List.set_cons_zero, List.set_cons_succ]
                    refine AllT.go (rs := [26]) (by kernel_rfl) (by simp) ?_
                    refine AllT.early (o := ⟨_, _, _, _, _, _⟩) rfl (fun K hK => ?_) ?_
                    · go_simp
                      refine hK.out _ _ (I3.held (HI.out.alloc _)) (fun hHeld' => ?_)
                      clear hK K hHeld
                      have hHeld := hHeld'
                      clear hHeld'
                      have HI2 := Lib.hid (HI.out.alloc (.cells #[.bool false] 4))
                      have PC2 := Lib.hid (Pc.new HI.out #[.bool false] 4)
                      clear HI
                      have HI := HI2
                      clear HI2
                      generalize World.alloc W38 (.cells #[.bool false] 4) = W39 at *
                      generalize W38.heap.size = x2 at *
                      try simp only [Act.put, List.setIfInBounds_toArray, List.set_cons_zero, List.set_cons_succ]
                      refine AllT.go (rs := [27]) (by kernel_rfl) (by simp) ?_
                      refine AllT.early (o := ⟨_, _, _, _, _, _⟩) rfl (fun K hK => ?_) ?_
                      · refine step_append_lies _ rfl (.tmp 89) (.tmp 90) 37 rfl 0 4 _ (.bool false) 1 1 Tryz.underlying37 HIB.out.1 HIB.out.2.1 HIB.out.2.2.1 HIB.out.2.2.2 rfl (by decide) (vr 3) L.length (rowW L 4 3) rfl (HI.out.ow 3 (by decide)) ⟨x2, 0, none⟩ 1 1 [.bool false] rfl rfl PC2.out.at_ (by intro u hu; simp at hu; subst hu; rfl) (by decide) HX1.out.1 (HX1.out.2 1 (by decide)) (Nat.zero_le _) W39.heap.size rfl ?_
                        intro g2 k2 W40 hrow hgrow hat hlt
                        have HI2 := Lib.hid (HI.out.app 3 (by decide) hrow hgrow hat rfl)
                        clear HI PC2 hrow hgrow hat hlt
                        have HI := HI2
                        clear HI2
                        refine hK.out _ _ HI.out.held (fun hHeld' => ?_)
                        clear hK K hHeld
                        have hHeld := hHeld'
                        clear hHeld'
                        try simp only [Act.put, List.setIfInBounds_toArray, List.set_cons_zero, List.set_cons_succ]
                        refine AnyT.pick (i := 28) (oi := ⟨_, _, _, _, _, _⟩) (v := ?_) rfl (by kernel_rfl) (by kernel_rfl) (by kernel_rfl) (fun _ _ _ h => h) (Or.inl ⟨by rfl, ?y28_71⟩) ?_
                        case' y28_71 => ((intro w hSw; go_simp) <;> (with_reducible rfl))
                        try simp only [Act.put, List.setIfInBounds_toArray, List.set_cons_zero, List.set_cons_succ]
                        refine AnyT.pick (i := 29) (oi := ⟨_, _, _, _, _, _⟩) (v := ?_) rfl (by kernel_rfl) (by kernel_rfl) (by kernel_rfl) (fun _ _ _ h => h) (Or.inl ⟨by rfl, ?y29_72⟩) ?_
                        case' y29_72 => ((intro w hSw; go_simp) <;> (with_reducible rfl))
                        try simp only [Act.put, List.setIfInBounds_toArray, List.set_cons_zero, List.set_cons_succ]
                        refine AllT.go (rs := [30]) (by kernel_rfl) (by simp) ?_
                        refine AllT.late (o := ⟨_, _, _, _, _, _⟩) rfl (by decide) (fun K hK => ?_) AllT.nil
                        go_simp
                        refine hK.out _ _ trivial (fun _ => ?_)
                        clear hK K
                        try simp only [Act.put, List.setIfInBounds_toArray, List.set_cons_zero, List.set_cons_succ]
                        refine AnyT.pick (i := 31) (oi := ⟨_, _, _, _, _, _⟩) (v := ?_) rfl (by kernel_rfl) (by kernel_rfl) (by kernel_rfl) (fun _ _ _ h => h) (Or.inl ⟨by rfl, ?y31_73⟩) ?_
                        case' y31_73 => ((intro w hSw; go_simp) <;> (with_reducible rfl))
                        try simp only [Act.put, List.setIfInBounds_toArray, List.set_cons_zero, List.set_cons_succ]
                        refine AnyT.pick (i := 32) (oi := ⟨_, _, _, _, _, _⟩) (v := ?_) rfl (by kernel_rfl) (by kernel_rfl) (by kernel_rfl) (fun _ _ _ h => h) (Or.inl ⟨by rfl, ?y32_74⟩) ?_
                        case' y32_74 => ((intro w hSw; go_simp) <;> (with_reducible rfl))
                        try simp only [Act.put, List.setIfInBounds_toArray, List.set_cons_zero, List.set_cons_succ]
                        refine AllT.go (rs := [33]) (by kernel_rfl) (by simp) ?_
                        refine AllT.late (o := ⟨_, _, _, _, _, _⟩) rfl (by decide) (fun K hK => ?_) AllT.nil
                        go_simp
                        refine hK.out _ _ trivial (fun _ => ?_)
                        clear hK K
                        try simp only [Act.put, List.setIfInBounds_toArray, List.set_cons_zero, List.set_cons_succ]
                        refine AnyT.pick (i := 34) (oi := ⟨_, _, _, _, _, _⟩) (v := ?_) rfl (by kernel_rfl) (by kernel_rfl) (by kernel_rfl) (fun _ _ _ h => h) (Or.inl ⟨by rfl, ?y34_75⟩) ?_
                        case' y34_75 => ((intro w hSw; go_simp) <;> (with_reducible rfl))
                        try simp only [Act.put, List.setIfInBounds_toArray, List.set_cons_zero, List.set_cons_succ]
                        refine AnyT.pick (i := 35) (oi := ⟨_, _, _, _, _, _⟩) (v := ?_) rfl (by kernel_rfl) (by kernel_rfl) (by kernel_rfl) (fun _ _ _ h => h) (Or.inl ⟨by rfl, ?y35_76⟩) ?_
                        case' y35_76 => ((intro w hSw; go_simp) <;> (with_reducible rfl))
                        try simp only [Act.put, List.setIfInBounds_toArray, List.set_cons_zero, List.set_cons_succ]
                        refine AllT.go (rs := [36]) (by kernel_rfl) (by simp) ?_
                        refine AllT.late (o := ⟨_, _, _, _, _, _⟩) rfl (by decide) (fun K hK => ?_) AllT.nil
                        go_simp
                        refine hK.out _ _ trivial (fun _ => ?_)
                        clear hK K
                        try simp only [Act.put, List.setIfInBounds_toArray, List.set_cons_zero, List.set_cons_succ]
                        refine AnyT.done (by kernel_rfl) ?_ _
                        go_wp2_with fail
                        refine ⟨?_, ?meas9⟩
                        (repeat apply Exists.intro)
                        refine ⟨?rell9, rfl⟩
                        case rell9 => exact fin2 SC.out HI.out hbs HSD.out HL.out.1 HL.out.2 HSE.out hlt (by go_num)
                        case meas9 => simp [intOf]; omega
                      exact AllT.nil
                    exact AllT.nil
                  refine AllT.early (o := ⟨_, _, _, _, _, _⟩) rfl (fun K hK => ?_) ?_
                  · go_simp
                    refine hK.out _ _ (I3.held (HI.out.alloc _)) (fun hHeld' => ?_)
                    clear hK K hHeld
                    have hHeld := hHeld'
                    clear hHeld'
                    have HI2 := Lib.hid (HI.out.alloc (.cells #[.bool false] 4))
                    have PC2 := Lib.hid (Pc.new HI.out #[.bool false] 4)
                    have PX1 := Lib.hid (PC1.out.alloc (.cells #[.bool false] 4))
                    clear PC1
                    have PC1 := PX1
                    clear PX1
                    clear HI
                    have HI := HI2
                    clear HI2
                    generalize World.alloc W37 (.cells #[.bool false] 4) = W41 at *
                    generalize W37.heap.size = x2 at *
                    try simp only [Act.put, List.setIfInBounds_toArray, List.set_cons_zero, List.set_cons_succ]
                    refine AllT.go (rs := [21]) (by kernel_rfl) (by simp) ?_
                    refine AllT.early (o := ⟨_, _, _, _, _, _⟩) rfl (fun K hK => ?_) ?_
                    · refine step_append_lies _ rfl (.tmp 80) (.tmp 84) 36 rfl 0 46 _ (.agg #[.int .i64 0, .int .i64 0]) 2 16 Tryz.underlying36 HIP.out.1 HIP.out.2.1 HIP.out.2.2.1 HIP.out.2.2.2 rfl (by decide) (vr 2) L.length (rowW L 4 2) rfl (HI.out.ow 2 (by decide)) ⟨x1, 0, none⟩ 1 1 [.int .i64 sa, .int .i64 sc] rfl rfl PC1.out.at_ (by intro u hu; simp at hu; rcases hu with rfl | rfl <;> rfl) (by decide) HX1.out.1 (HX1.out.2 16 (by decide)) (Nat.zero_le _) W41.heap.size rfl ?_
                      intro g1 k1 W42 hrow hgrow hat hlt
                      have HI2 := Lib.hid (HI.out.app 2 (by decide) hrow hgrow hat rfl)
                      have PX2 := Lib.hid (PC2.out.app (n := L.length + 1) (c := k1) HI.out 2 (by decide) hgrow hat rfl)
                      clear PC2
                      have PC2 := PX2
                      clear PX2
                      clear HI PC1 hrow hgrow hat hlt
                      have HI := HI2
                      clear HI2
                      refine hK.out _ _ HI.out.held (fun hHeld' => ?_)
                      clear hK K hHeld
                      have hHeld := hHeld'
                      clear hHeld'
                      try simp only [Act.put, List.setIfInBounds_toArray, List.set_cons_zero, List.set_cons_succ]
                      refine AllT.go (rs := [27]) (by kernel_rfl) (by simp) ?_
                      refine AllT.early (o := ⟨_, _, _, _, _, _⟩) rfl (fun K hK => ?_) ?_
                      · refine step_append_lies _ rfl (.tmp 89) (.tmp 90) 37 rfl 0 4 _ (.bool false) 1 1 Tryz.underlying37 HIB.out.1 HIB.out.2.1 HIB.out.2.2.1 HIB.out.2.2.2 rfl (by decide) (vr 3) L.length (rowW L 4 3) rfl (HI.out.ow 3 (by decide)) ⟨x2, 0, none⟩ 1 1 [.bool false] rfl rfl PC2.out.at_ (by intro u hu; simp at hu; subst hu; rfl) (by decide) HX1.out.1 (HX1.out.2 1 (by decide)) (Nat.zero_le _) W42.heap.size rfl ?_
                        intro g2 k2 W43 hrow hgrow hat hlt
                        have HI2 := Lib.hid (HI.out.app 3 (by decide) hrow hgrow hat rfl)
                        clear HI PC2 hrow hgrow hat hlt
                        have HI := HI2
                        clear HI2
                        refine hK.out _ _ HI.out.held (fun hHeld' => ?_)
                        clear hK K hHeld
                        have hHeld := hHeld'
                        clear hHeld'
                        try simp only [Act.put, List.setIfInBounds_toArray, List.set_cons_zero, List.set_cons_succ]
                        refine AnyT.pick (i := 28) (oi := ⟨_, _, _, _, _, _⟩) (v := ?_) rfl (by kernel_rfl) (by kernel_rfl) (by kernel_rfl) (fun _ _ _ h => h) (Or.inl ⟨by rfl, ?y28_77⟩) ?_
                        case' y28_77 => ((intro w hSw; go_simp) <;> (with_reducible rfl))
                        try simp only [Act.put, List.setIfInBounds_toArray, List.set_cons_zero, List.set_cons_succ]
                        refine AnyT.pick (i := 29) (oi := ⟨_, _, _, _, _, _⟩) (v := ?_) rfl (by kernel_rfl) (by kernel_rfl) (by kernel_rfl) (fun _ _ _ h => h) (Or.inl ⟨by rfl, ?y29_78⟩) ?_
                        case' y29_78 => ((intro w hSw; go_simp) <;> (with_reducible rfl))
                        try simp only [Act.put, List.setIfInBounds_toArray, List.set_cons_zero, List.set_cons_succ]
                        refine AllT.go (rs := [30]) (by kernel_rfl) (by simp) ?_
                        refine AllT.late (o := ⟨_, _, _, _, _, _⟩) rfl (by decide) (fun K hK => ?_) AllT.nil
                        go_simp
                        refine hK.out _ _ trivial (fun _ => ?_)
                        clear hK K
                        try simp only [Act.put, List.setIfInBounds_toArray, List.set_cons_zero, List.set_cons_succ]
                        refine AnyT.pick (i := 31) (oi := ⟨_, _, _, _, _, _⟩) (v := ?_) rfl (by kernel_rfl) (by kernel_rfl) (by kernel_rfl) (fun _ _ _ h => h) (Or.inl ⟨by rfl, ?y31_79⟩) ?_
                        case' y31_79 => ((intro w hSw; go_simp) <;> (with_reducible rfl))
                        try simp only [Act.put, List.setIfInBounds_toArray, List.set_cons_zero, List.set_cons_succ]
                        refine AnyT.pick (i := 32) (oi := ⟨_, _, _, _, _, _⟩) (v := ?_) rfl (by kernel_rfl) (by kernel_rfl) (by kernel_rfl) (fun _ _ _ h => h) (Or.inl ⟨by rfl, ?y32_80⟩) ?_
                        case' y32_80 => ((intro w hSw; go_simp) <;> (with_reducible rfl))
                        try simp only [Act.put, List.setIfInBounds_toArray, List.set_cons_zero, List.set_cons_succ]
                        refine AllT.go (rs := [33]) (by kernel_rfl) (by simp) ?_
                        refine AllT.late (o := ⟨_, _, _, _, _, _⟩) rfl (by decide) (fun K hK => ?_) AllT.nil
                        go_simp
                        refine hK.out _ _ trivial (fun _ => ?_)
                        clear hK K
                        try simp only [Act.put, List.setIfInBounds_toArray, List.set_cons_zero, List.set_cons_succ]
                        refine AnyT.pick (i := 34) (oi := ⟨_, _, _, _, _, _⟩) (v := ?_) rfl (by kernel_rfl) (by kernel_rfl) (by kernel_rfl) (fun _ _ _ h => h) (Or.inl ⟨by rfl, ?y34_81⟩) ?_
                        case' y34_81 => ((intro w hSw; go_simp) <;> (with_reducible rfl))
                        try simp only [Act.put, List.setIfInBounds_toArray, List.set_cons_zero, List.set_cons_succ]
                        refine AnyT.pick (i := 35) (oi := ⟨_, _, _, _, _, _⟩) (v := ?_) rfl (by kernel_rfl) (by kernel_rfl) (by kernel_rfl) (fun _ _ _ h => h) (Or.inl ⟨by rfl, ?y35_82⟩) ?_
                        case' y35_82 => ((intro w hSw; go_simp) <;> (with_reducible rfl))
                        try simp only [Act.put, List.setIfInBounds_toArray, List.set_cons_zero, List.set_cons_succ]
                        refine AllT.go (rs := [36]) (by kernel_rfl) (by simp) ?_
                        refine AllT.late (o := ⟨_, _, _, _, _, _⟩) rfl (by decide) (fun K hK => ?_) AllT.nil
                        go_simp
                        refine hK.out _ _ trivial (fun _ => ?_)
                        clear hK K
                        try simp only [Act.put, List.setIfInBounds_toArray, List.set_cons_zero, List.set_cons_succ]
                        refine AnyT.done (by kernel_rfl) ?_ _
                        go_wp2_with fail
                        refine ⟨?_, ?meas10⟩
                        (repeat apply Exists.intro)
                        refine ⟨?rell10, rfl⟩
                        case rell10 => exact fin2 SC.out HI.out hbs HSD.out HL.out.1 HL.out.2 HSE.out hlt (by go_num)
                        case meas10 => simp [intOf]; omega
                      exact AllT.nil
                    exact AllT.nil
                  exact AllT.nil
                refine AllT.early (o := ⟨_, _, _, _, _, _⟩) rfl (fun K hK => ?_) ?_
                · go_simp
                  refine hK.out _ _ (I3.held (HI.out.alloc _)) (fun hHeld' => ?_)
                  clear hK K hHeld
                  have hHeld := hHeld'
                  clear hHeld'
                  have HI2 := Lib.hid (HI.out.alloc (.cells #[.bool false] 4))
                  have PC2 := Lib.hid (Pc.new HI.out #[.bool false] 4)
                  have PX0 := Lib.hid (PC0.out.alloc (.cells #[.bool false] 4))
                  clear PC0
                  have PC0 := PX0
                  clear PX0
                  have PX1 := Lib.hid (PC1.out.alloc (.cells #[.bool false] 4))
                  clear PC1
                  have PC1 := PX1
                  clear PX1
                  clear HI
                  have HI := HI2
                  clear HI2
                  generalize World.alloc W36 (.cells #[.bool false] 4) = W44 at *
                  generalize W36.heap.size = x2 at *
                  try simp only [Act.put, List.setIfInBounds_toArray, List.set_cons_zero, List.set_cons_succ]
                  refine AllT.go (rs := [12]) (by kernel_rfl) (by simp) ?_
                  refine AllT.early (o := ⟨_, _, _, _, _, _⟩) rfl (fun K hK => ?_) ?_
                  · refine step_append_lies _ rfl (.tmp 70) (.tmp 75) 34 rfl 0 48 _ (.agg #[.int .i64 0, .int .i64 0, .bool false]) 3 24 Tryz.underlying34 HIM.out.1 HIM.out.2.1 HIM.out.2.2.1 HIM.out.2.2.2 rfl (by decide) (vr 0) L.length (rowW L 4 0) rfl (HI.out.ow 0 (by decide)) ⟨x0, 0, none⟩ 1 1 [.int .i64 sa, .int .i64 sc, .bool false] rfl rfl PC0.out.at_ (by intro u hu; simp at hu; rcases hu with rfl | rfl | rfl <;> rfl) (by decide) HX1.out.1 (HX1.out.2 24 (by decide)) (Nat.zero_le _) W44.heap.size rfl ?_
                    intro g0 k0 W45 hrow hgrow hat hlt
                    have HI2 := Lib.hid (HI.out.app 0 (by decide) hrow hgrow hat rfl)
                    have PX1 := Lib.hid (PC1.out.app (n := L.length + 1) (c := k0) HI.out 0 (by decide) hgrow hat rfl)
                    clear PC1
                    have PC1 := PX1
                    clear PX1
                    have PX2 := Lib.hid (PC2.out.app (n := L.length + 1) (c := k0) HI.out 0 (by decide) hgrow hat rfl)
                    clear PC2
                    have PC2 := PX2
                    clear PX2
                    clear HI PC0 hrow hgrow hat hlt
                    have HI := HI2
                    clear HI2
                    refine hK.out _ _ HI.out.held (fun hHeld' => ?_)
                    clear hK K hHeld
                    have hHeld := hHeld'
                    clear hHeld'
                    try simp only [Act.put, List.setIfInBounds_toArray, List.set_cons_zero, List.set_cons_succ]
                    refine AllT.go (rs := [21]) (by kernel_rfl) (by simp) ?_
                    refine AllT.early (o := ⟨_, _, _, _, _, _⟩) rfl (fun K hK => ?_) ?_
                    · refine step_append_lies _ rfl (.tmp 80) (.tmp 84) 36 rfl 0 46 _ (.agg #[.int .i64 0, .int .i64 0]) 2 16 Tryz.underlying36 HIP.out.1 HIP.out.2.1 HIP.out.2.2.1 HIP.out.2.2.2 rfl (by decide) (vr 2) L.length (rowW L 4 2) rfl (HI.out.ow 2 (by decide)) ⟨x1, 0, none⟩ 1 1 [.int .i64 sa, .int .i64 sc] rfl rfl PC1.out.at_ (by intro u hu; simp at hu; rcases hu with rfl | rfl <;> rfl) (by decide) HX1.out.1 (HX1.out.2 16 (by decide)) (Nat.zero_le _) W45.heap.size rfl ?_
                      intro g1 k1 W46 hrow hgrow hat hlt
                      have HI2 := Lib.hid (HI.out.app 2 (by decide) hrow hgrow hat rfl)
                      have PX2 := Lib.hid (PC2.out.app (n := L.length + 1) (c := k1) HI.out 2 (by decide) hgrow hat rfl)
                      clear PC2
                      have PC2 := PX2
                      clear PX2
                      clear HI PC1 hrow hgrow hat hlt
                      have HI := HI2
                      clear HI2
                      refine hK.out _ _ HI.out.held (fun hHeld' => ?_)
                      clear hK K hHeld
                      have hHeld := hHeld'
                      clear hHeld'
                      try simp only [Act.put, List.setIfInBounds_toArray, List.set_cons_zero, List.set_cons_succ]
                      refine AllT.go (rs := [27]) (by kernel_rfl) (by simp) ?_
                      refine AllT.early (o := ⟨_, _, _, _, _, _⟩) rfl (fun K hK => ?_) ?_
                      · refine step_append_lies _ rfl (.tmp 89) (.tmp 90) 37 rfl 0 4 _ (.bool false) 1 1 Tryz.underlying37 HIB.out.1 HIB.out.2.1 HIB.out.2.2.1 HIB.out.2.2.2 rfl (by decide) (vr 3) L.length (rowW L 4 3) rfl (HI.out.ow 3 (by decide)) ⟨x2, 0, none⟩ 1 1 [.bool false] rfl rfl PC2.out.at_ (by intro u hu; simp at hu; subst hu; rfl) (by decide) HX1.out.1 (HX1.out.2 1 (by decide)) (Nat.zero_le _) W46.heap.size rfl ?_
                        intro g2 k2 W47 hrow hgrow hat hlt
                        have HI2 := Lib.hid (HI.out.app 3 (by decide) hrow hgrow hat rfl)
                        clear HI PC2 hrow hgrow hat hlt
                        have HI := HI2
                        clear HI2
                        refine hK.out _ _ HI.out.held (fun hHeld' => ?_)
                        clear hK K hHeld
                        have hHeld := hHeld'
                        clear hHeld'
                        try simp only [Act.put, List.setIfInBounds_toArray, List.set_cons_zero, List.set_cons_succ]
                        refine AnyT.pick (i := 28) (oi := ⟨_, _, _, _, _, _⟩) (v := ?_) rfl (by kernel_rfl) (by kernel_rfl) (by kernel_rfl) (fun _ _ _ h => h) (Or.inl ⟨by rfl, ?y28_83⟩) ?_
                        case' y28_83 => ((intro w hSw; go_simp) <;> (with_reducible rfl))
                        try simp only [Act.put, List.setIfInBounds_toArray, List.set_cons_zero, List.set_cons_succ]
                        refine AnyT.pick (i := 29) (oi := ⟨_, _, _, _, _, _⟩) (v := ?_) rfl (by kernel_rfl) (by kernel_rfl) (by kernel_rfl) (fun _ _ _ h => h) (Or.inl ⟨by rfl, ?y29_84⟩) ?_
                        case' y29_84 => ((intro w hSw; go_simp) <;> (with_reducible rfl))
                        try simp only [Act.put, List.setIfInBounds_toArray, List.set_cons_zero, List.set_cons_succ]
                        refine AllT.go (rs := [30]) (by kernel_rfl) (by simp) ?_
                        refine AllT.late (o := ⟨_, _, _, _, _, _⟩) rfl (by decide) (fun K hK => ?_) AllT.nil
                        go_simp
                        refine hK.out _ _ trivial (fun _ => ?_)
                        clear hK K
                        try simp only [Act.put, List.setIfInBounds_toArray, List.set_cons_zero, List.set_cons_succ]
                        refine AnyT.pick (i := 31) (oi := ⟨_, _, _, _, _, _⟩) (v := ?_) rfl (by kernel_rfl) (by kernel_rfl) (by kernel_rfl) (fun _ _ _ h => h) (Or.inl ⟨by rfl, ?y31_85⟩) ?_
                        case' y31_85 => ((intro w hSw; go_simp) <;> (with_reducible rfl))
                        try simp only [Act.put, List.setIfInBounds_toArray, List.set_cons_zero, List.set_cons_succ]
                        refine AnyT.pick (i := 32) (oi := ⟨_, _, _, _, _, _⟩) (v := ?_) rfl (by kernel_rfl) (by kernel_rfl) (by kernel_rfl) (fun _ _ _ h => h) (Or.inl ⟨by rfl, ?y32_86⟩) ?_
                        case' y32_86 => ((intro w hSw; go_simp) <;> (with_reducible rfl))
                        try simp only [Act.put, List.setIfInBounds_toArray, List.set_cons_zero, List.set_cons_succ]
                        refine AllT.go (rs := [33]) (by kernel_rfl) (by simp) ?_
                        refine AllT.late (o := ⟨_, _, _, _, _, _⟩) rfl (by decide) (fun K hK => ?_) AllT.nil
                        go_simp
                        refine hK.out _ _ trivial (fun _ => ?_)
                        clear hK K
                        try simp only [Act.put, List.setIfInBounds_toArray, List.set_cons_zero, List.set_cons_succ]
                        refine AnyT.pick (i := 34) (oi := ⟨_, _, _, _, _, _⟩) (v := ?_) rfl (by kernel_rfl) (by kernel_rfl) (by kernel_rfl) (fun _ _ _ h => h) (Or.inl ⟨by rfl, ?y34_87⟩) ?_
                        case' y34_87 => ((intro w hSw; go_simp) <;> (with_reducible rfl))
                        try simp only [Act.put, List.setIfInBounds_toArray, List.set_cons_zero, List.set_cons_succ]
                        refine AnyT.pick (i := 35) (oi := ⟨_, _, _, _, _, _⟩) (v := ?_) rfl (by kernel_rfl) (by kernel_rfl) (by kernel_rfl) (fun _ _ _ h => h) (Or.inl ⟨by rfl, ?y35_88⟩) ?_
                        case' y35_88 => ((intro w hSw; go_simp) <;> (with_reducible rfl))
                        try simp only [Act.put, List.setIfInBounds_toArray, List.set_cons_zero, List.set_cons_succ]
                        refine AllT.go (rs := [36]) (by kernel_rfl) (by simp) ?_
                        refine AllT.late (o := ⟨_, _, _, _, _, _⟩) rfl (by decide) (fun K hK => ?_) AllT.nil
                        go_simp
                        refine hK.out _ _ trivial (fun _ => ?_)
                        clear hK K
                        try simp only [Act.put, List.setIfInBounds_toArray, List.set_cons_zero, List.set_cons_succ]
                        refine AnyT.done (by kernel_rfl) ?_ _
                        go_wp2_with fail
                        refine ⟨?_, ?meas11⟩
                        (repeat apply Exists.intro)
                        refine ⟨?rell11, rfl⟩
                        case rell11 => exact fin2 SC.out HI.out hbs HSD.out HL.out.1 HL.out.2 HSE.out hlt (by go_num)
                        case meas11 => simp [intOf]; omega
                      exact AllT.nil
                    exact AllT.nil
                  exact AllT.nil
                exact AllT.nil
              refine AllT.early (o := ⟨_, _, _, _, _, _⟩) rfl (fun K hK => ?_) ?_
              · go_simp
                refine hK.out _ _ (I3.held (HI.out.alloc _)) (fun hHeld' => ?_)
                clear hK K hHeld
                have hHeld := hHeld'
                clear hHeld'
                have HI2 := Lib.hid (HI.out.alloc (.cells #[.bool false] 4))
                have PC2 := Lib.hid (Pc.new HI.out #[.bool false] 4)
                have PX1 := Lib.hid (PC1.out.alloc (.cells #[.bool false] 4))
                clear PC1
                have PC1 := PX1
                clear PX1
                clear HI
                have HI := HI2
                clear HI2
                generalize World.alloc W35 (.cells #[.bool false] 4) = W48 at *
                generalize W35.heap.size = x2 at *
                try simp only [Act.put, List.setIfInBounds_toArray, List.set_cons_zero, List.set_cons_succ]
                refine AllT.go (rs := [11]) (by kernel_rfl) (by simp) ?_
                refine AllT.early (o := ⟨_, _, _, _, _, _⟩) rfl (fun K hK => ?_) ?_
                · go_simp
                  refine hK.out _ _ (I3.held (HI.out.alloc _)) (fun hHeld' => ?_)
                  clear hK K hHeld
                  have hHeld := hHeld'
                  clear hHeld'
                  have HI2 := Lib.hid (HI.out.alloc (.cells #[.int .i64 sa, .int .i64 sc, .bool false] 48))
                  have PC0 := Lib.hid (Pc.new HI.out #[.int .i64 sa, .int .i64 sc, .bool false] 48)
                  have PX1 := Lib.hid (PC1.out.alloc (.cells #[.int .i64 sa, .int .i64 sc, .bool false] 48))
                  clear PC1
                  have PC1 := PX1
                  clear PX1
                  have PX2 := Lib.hid (PC2.out.alloc (.cells #[.int .i64 sa, .int .i64 sc, .bool false] 48))
                  clear PC2
                  have PC2 := PX2
                  clear PX2
                  clear HI
                  have HI := HI2
                  clear HI2
                  generalize World.alloc W48 (.cells #[.int .i64 sa, .int .i64 sc, .bool false] 48) = W49 at *
                  generalize W48.heap.size = x0 at *
                  try simp only [Act.put, List.setIfInBounds_toArray, List.set_cons_zero, List.set_cons_succ]
                  refine AllT.go (rs := [12]) (by kernel_rfl) (by simp) ?_
                  refine AllT.early (o := ⟨_, _, _, _, _, _⟩) rfl (fun K hK => ?_) ?_
                  · refine step_append_lies _ rfl (.tmp 70) (.tmp 75) 34 rfl 0 48 _ (.agg #[.int .i64 0, .int .i64 0, .bool false]) 3 24 Tryz.underlying34 HIM.out.1 HIM.out.2.1 HIM.out.2.2.1 HIM.out.2.2.2 rfl (by decide) (vr 0) L.length (rowW L 4 0) rfl (HI.out.ow 0 (by decide)) ⟨x0, 0, none⟩ 1 1 [.int .i64 sa, .int .i64 sc, .bool false] rfl rfl PC0.out.at_ (by intro u hu; simp at hu; rcases hu with rfl | rfl | rfl <;> rfl) (by decide) HX1.out.1 (HX1.out.2 24 (by decide)) (Nat.zero_le _) W49.heap.size rfl ?_
                    intro g0 k0 W50 hrow hgrow hat hlt
                    have HI2 := Lib.hid (HI.out.app 0 (by decide) hrow hgrow hat rfl)
                    have PX1 := Lib.hid (PC1.out.app (n := L.length + 1) (c := k0) HI.out 0 (by decide) hgrow hat rfl)
                    clear PC1
                    have PC1 := PX1
                    clear PX1
                    have PX2 := Lib.hid (PC2.out.app (n := L.length + 1) (c := k0) HI.out 0 (by decide) hgrow hat rfl)
                    clear PC2
                    have PC2 := PX2
                    clear PX2
                    clear HI PC0 hrow hgrow hat hlt
                    have HI := HI2
                    clear HI2
                    refine hK.out _ _ HI.out.held (fun hHeld' => ?_)
                    clear hK K hHeld
                    have hHeld := hHeld'
                    clear hHeld'
                    try simp only [Act.put, List.setIfInBounds_toArray, List.set_cons_zero, List.set_cons_succ]
                    refine AllT.go (rs := [21]) (by kernel_rfl) (by simp) ?_
                    refine AllT.early (o := ⟨_, _, _, _, _, _⟩) rfl (fun K hK => ?_) ?_
                    · refine step_append_lies _ rfl (.tmp 80) (.tmp 84) 36 rfl 0 46 _ (.agg #[.int .i64 0, .int .i64 0]) 2 16 Tryz.underlying36 HIP.out.1 HIP.out.2.1 HIP.out.2.2.1 HIP.out.2.2.2 rfl (by decide) (vr 2) L.length (rowW L 4 2) rfl (HI.out.ow 2 (by decide)) ⟨x1, 0, none⟩ 1 1 [.int .i64 sa, .int .i64 sc] rfl rfl PC1.out.at_ (by intro u hu; simp at hu; rcases hu with rfl | rfl <;> rfl) (by decide) HX1.out.1 (HX1.out.2 16 (by decide)) (Nat.zero_le _) W50.heap.size rfl ?_
                      intro g1 k1 W51 hrow hgrow hat hlt
                      have HI2 := Lib.hid (HI.out.app 2 (by decide) hrow hgrow hat rfl)
                      have PX2 := Lib.hid (PC2.out.app (n := L.length + 1) (c := k1) HI.out 2 (by decide) hgrow hat rfl)
                      clear PC2
                      have PC2 := PX2
                      clear PX2
                      clear HI PC1 hrow hgrow hat hlt
                      have HI := HI2
                      clear HI2
                      refine hK.out _ _ HI.out.held (fun hHeld' => ?_)
                      clear hK K hHeld
                      have hHeld := hHeld'
                      clear hHeld'
                      try simp only [Act.put, List.setIfInBounds_toArray, List.set_cons_zero, List.set_cons_succ]
                      refine AllT.go (rs := [27]) (by kernel_rfl) (by simp) ?_
                      refine AllT.early (o := ⟨_, _, _, _, _, _⟩) rfl (fun K hK => ?_) ?_
                      · refine step_append_lies _ rfl (.tmp 89) (.tmp 90) 37 rfl 0 4 _ (.bool false) 1 1 Tryz.underlying37 HIB.out.1 HIB.out.2.1 HIB.out.2.2.1 HIB.out.2.2.2 rfl (by decide) (vr 3) L.length (rowW L 4 3) rfl (HI.out.ow 3 (by decide)) ⟨x2, 0, none⟩ 1 1 [.bool false] rfl rfl PC2.out.at_ (by intro u hu; simp at hu; subst hu; rfl) (by decide) HX1.out.1 (HX1.out.2 1 (by decide)) (Nat.zero_le _) W51.heap.size rfl ?_
                        intro g2 k2 W52 hrow hgrow hat hlt
                        have HI2 := Lib.hid (HI.out.app 3 (by decide) hrow hgrow hat rfl)
                        clear HI PC2 hrow hgrow hat hlt
                        have HI := HI2
                        clear HI2
                        refine hK.out _ _ HI.out.held (fun hHeld' => ?_)
                        clear hK K hHeld
                        have hHeld := hHeld'
                        clear hHeld'
                        try simp only [Act.put, List.setIfInBounds_toArray, List.set_cons_zero, List.set_cons_succ]
                        refine AnyT.pick (i := 28) (oi := ⟨_, _, _, _, _, _⟩) (v := ?_) rfl (by kernel_rfl) (by kernel_rfl) (by kernel_rfl) (fun _ _ _ h => h) (Or.inl ⟨by rfl, ?y28_89⟩) ?_
                        case' y28_89 => ((intro w hSw; go_simp) <;> (with_reducible rfl))
                        try simp only [Act.put, List.setIfInBounds_toArray, List.set_cons_zero, List.set_cons_succ]
                        refine AnyT.pick (i := 29) (oi := ⟨_, _, _, _, _, _⟩) (v := ?_) rfl (by kernel_rfl) (by kernel_rfl) (by kernel_rfl) (fun _ _ _ h => h) (Or.inl ⟨by rfl, ?y29_90⟩) ?_
                        case' y29_90 => ((intro w hSw; go_simp) <;> (with_reducible rfl))
                        try simp only [Act.put, List.setIfInBounds_toArray, List.set_cons_zero, List.set_cons_succ]
                        refine AllT.go (rs := [30]) (by kernel_rfl) (by simp) ?_
                        refine AllT.late (o := ⟨_, _, _, _, _, _⟩) rfl (by decide) (fun K hK => ?_) AllT.nil
                        go_simp
                        refine hK.out _ _ trivial (fun _ => ?_)
                        clear hK K
                        try simp only [Act.put, List.setIfInBounds_toArray, List.set_cons_zero, List.set_cons_succ]
                        refine AnyT.pick (i := 31) (oi := ⟨_, _, _, _, _, _⟩) (v := ?_) rfl (by kernel_rfl) (by kernel_rfl) (by kernel_rfl) (fun _ _ _ h => h) (Or.inl ⟨by rfl, ?y31_91⟩) ?_
                        case' y31_91 => ((intro w hSw; go_simp) <;> (with_reducible rfl))
                        try simp only [Act.put, List.setIfInBounds_toArray, List.set_cons_zero, List.set_cons_succ]
                        refine AnyT.pick (i := 32) (oi := ⟨_, _, _, _, _, _⟩) (v := ?_) rfl (by kernel_rfl) (by kernel_rfl) (by kernel_rfl) (fun _ _ _ h => h) (Or.inl ⟨by rfl, ?y32_92⟩) ?_
                        case' y32_92 => ((intro w hSw; go_simp) <;> (with_reducible rfl))
                        try simp only [Act.put, List.setIfInBounds_toArray, List.set_cons_zero, List.set_cons_succ]
                        refine AllT.go (rs := [33]) (by kernel_rfl) (by simp) ?_
                        refine AllT.late (o := ⟨_, _, _, _, _, _⟩) rfl (by decide) (fun K hK => ?_) AllT.nil
                        go_simp
                        refine hK.out _ _ trivial (fun _ => ?_)
                        clear hK K
                        try simp only [Act.put, List.setIfInBounds_toArray, List.set_cons_zero, List.set_cons_succ]
                        refine AnyT.pick (i := 34) (oi := ⟨_, _, _, _, _, _⟩) (v := ?_) rfl (by kernel_rfl) (by kernel_rfl) (by kernel_rfl) (fun _ _ _ h => h) (Or.inl ⟨by rfl, ?y34_93⟩) ?_
                        case' y34_93 => ((intro w hSw; go_simp) <;> (with_reducible rfl))
                        try simp only [Act.put, List.setIfInBounds_toArray, List.set_cons_zero, List.set_cons_succ]
                        refine AnyT.pick (i := 35) (oi := ⟨_, _, _, _, _, _⟩) (v := ?_) rfl (by kernel_rfl) (by kernel_rfl) (by kernel_rfl) (fun _ _ _ h => h) (Or.inl ⟨by rfl, ?y35_94⟩) ?_
                        case' y35_94 => ((intro w hSw; go_simp) <;> (with_reducible rfl))
                        try simp only [Act.put, List.setIfInBounds_toArray, List.set_cons_zero, List.set_cons_succ]
                        refine AllT.go (rs := [36]) (by kernel_rfl) (by simp) ?_
                        refine AllT.late (o := ⟨_, _, _, _, _, _⟩) rfl (by decide) (fun K hK => ?_) AllT.nil
                        go_simp
                        refine hK.out _ _ trivial (fun _ => ?_)
                        clear hK K
                        try simp only [Act.put, List.setIfInBounds_toArray, List.set_cons_zero, List.set_cons_succ]
                        refine AnyT.done (by kernel_rfl) ?_ _
                        go_wp2_with fail
                        refine ⟨?_, ?meas12⟩
                        (repeat apply Exists.intro)
                        refine ⟨?rell12, rfl⟩
                        case rell12 => exact fin2 SC.out HI.out hbs HSD.out HL.out.1 HL.out.2 HSE.out hlt (by go_num)
                        case meas12 => simp [intOf]; omega
                      exact AllT.nil
                    exact AllT.nil
                  exact AllT.nil
                exact AllT.nil
              exact AllT.nil
            refine AllT.early (o := ⟨_, _, _, _, _, _⟩) rfl (fun K hK => ?_) ?_
            · go_simp
              refine hK.out _ _ (I3.held (HI.out.alloc _)) (fun hHeld' => ?_)
              clear hK K hHeld
              have hHeld := hHeld'
              clear hHeld'
              have HI2 := Lib.hid (HI.out.alloc (.cells #[.bool false] 4))
              have PC2 := Lib.hid (Pc.new HI.out #[.bool false] 4)
              clear HI
              have HI := HI2
              clear HI2
              generalize World.alloc W0 (.cells #[.bool false] 4) = W53 at *
              generalize W0.heap.size = x2 at *
              try simp only [Act.put, List.setIfInBounds_toArray, List.set_cons_zero, List.set_cons_succ]
              refine AllT.go (rs := [11, 20]) (by kernel_rfl) (by simp) ?_
              refine AllT.early (o := ⟨_, _, _, _, _, _⟩) rfl (fun K hK => ?_) ?_
              · go_simp
                refine hK.out _ _ (I3.held (HI.out.alloc _)) (fun hHeld' => ?_)
                clear hK K hHeld
                have hHeld := hHeld'
                clear hHeld'
                have HI2 := Lib.hid (HI.out.alloc (.cells #[.int .i64 sa, .int .i64 sc, .bool false] 48))
                have PC0 := Lib.hid (Pc.new HI.out #[.int .i64 sa, .int .i64 sc, .bool false] 48)
                have PX2 := Lib.hid (PC2.out.alloc (.cells #[.int .i64 sa, .int .i64 sc, .bool false] 48))
                clear PC2
                have PC2 := PX2
                clear PX2
                clear HI
                have HI := HI2
                clear HI2
                generalize World.alloc W53 (.cells #[.int .i64 sa, .int .i64 sc, .bool false] 48) = W54 at *
                generalize W53.heap.size = x0 at *
                try simp only [Act.put, List.setIfInBounds_toArray, List.set_cons_zero, List.set_cons_succ]
                refine AllT.go (rs := [12, 20]) (by kernel_rfl) (by simp) ?_
                refine AllT.early (o := ⟨_, _, _, _, _, _⟩) rfl (fun K hK => ?_) ?_
                · refine step_append_lies _ rfl (.tmp 70) (.tmp 75) 34 rfl 0 48 _ (.agg #[.int .i64 0, .int .i64 0, .bool false]) 3 24 Tryz.underlying34 HIM.out.1 HIM.out.2.1 HIM.out.2.2.1 HIM.out.2.2.2 rfl (by decide) (vr 0) L.length (rowW L 4 0) rfl (HI.out.ow 0 (by decide)) ⟨x0, 0, none⟩ 1 1 [.int .i64 sa, .int .i64 sc, .bool false] rfl rfl PC0.out.at_ (by intro u hu; simp at hu; rcases hu with rfl | rfl | rfl <;> rfl) (by decide) HX1.out.1 (HX1.out.2 24 (by decide)) (Nat.zero_le _) W54.heap.size rfl ?_
                  intro g0 k0 W55 hrow hgrow hat hlt
                  have HI2 := Lib.hid (HI.out.app 0 (by decide) hrow hgrow hat rfl)
                  have PX2 := Lib.hid (PC2.out.app (n := L.length + 1) (c := k0) HI.out 0 (by decide) hgrow hat rfl)
                  clear PC2
                  have PC2 := PX2
                  clear PX2
                  clear HI PC0 hrow hgrow hat hlt
                  have HI := HI2
                  clear HI2
                  refine hK.out _ _ HI.out.held (fun hHeld' => ?_)
                  clear hK K hHeld
                  have hHeld := hHeld'
                  clear hHeld'
                  try simp only [Act.put, List.setIfInBounds_toArray, List.set_cons_zero, List.set_cons_succ]
                  refine AllT.go (rs := [20]) (by kernel_rfl) (by simp) ?_
                  refine AllT.early (o := ⟨_, _, _, _, _, _⟩) rfl (fun K hK => ?_) ?_
                  · go_simp
                    refine hK.out _ _ (I3.held (HI.out.alloc _)) (fun hHeld' => ?_)
                    clear hK K hHeld
                    have hHeld := hHeld'
                    clear hHeld'
                    have HI2 := Lib.hid (HI.out.alloc (.cells #[.int .i64 sa, .int .i64 sc] 46))
                    have PC1 := Lib.hid (Pc.new HI.out #[.int .i64 sa, .int .i64 sc] 46)
                    have PX2 := Lib.hid (PC2.out.alloc (.cells #[.int .i64 sa, .int .i64 sc] 46))
                    clear PC2
                    have PC2 := PX2
                    clear PX2
                    clear HI
                    have HI := HI2
                    clear HI2
                    generalize World.alloc W55 (.cells #[.int .i64 sa, .int .i64 sc] 46) = W56 at *
                    generalize W55.heap.size = x1 at *
                    try simp only [Act.put, List.setIfInBounds_toArray, List.set_cons_zero, List.set_cons_succ]
                    refine AllT.go (rs := [21]) (by kernel_rfl) (by simp) ?_
                    refine AllT.early (o := ⟨_, _, _, _, _, _⟩) rfl (fun K hK => ?_) ?_
                    · refine step_append_lies _ rfl (.tmp 80) (.tmp 84) 36 rfl 0 46 _ (.agg #[.int .i64 0, .int .i64 0]) 2 16 Tryz.underlying36 HIP.out.1 HIP.out.2.1 HIP.out.2.2.1 HIP.out.2.2.2 rfl (by decide) (vr 2) L.length (rowW L 4 2) rfl (HI.out.ow 2 (by decide)) ⟨x1, 0, none⟩ 1 1 [.int .i64 sa, .int .i64 sc] rfl rfl PC1.out.at_ (by intro u hu; simp at hu; rcases hu with rfl | rfl <;> rfl) (by decide) HX1.out.1 (HX1.out.2 16 (by decide)) (Nat.zero_le _) W56.heap.size rfl ?_
                      intro g1 k1 W57 hrow hgrow hat hlt
                      have HI2 := Lib.hid (HI.out.app 2 (by decide) hrow hgrow hat rfl)
                      have PX2 := Lib.hid (PC2.out.app (n := L.length + 1) (c := k1) HI.out 2 (by decide) hgrow hat rfl)
                      clear PC2
                      have PC2 := PX2
                      clear PX2
                      clear HI PC1 hrow hgrow hat hlt
                      have HI := HI2
                      clear HI2
                      refine hK.out _ _ HI.out.held (fun hHeld' => ?_)
                      clear hK K hHeld
                      have hHeld := hHeld'
                      clear hHeld'
                      try simp only [Act.put, List.setIfInBounds_toArray, List.set_cons_zero, List.set_cons_succ]
                      refine AllT.go (rs := [27]) (by kernel_rfl) (by simp) ?_
                      refine AllT.early (o := ⟨_, _, _, _, _, _⟩) rfl (fun K hK => ?_) ?_
                      · refine step_append_lies _ rfl (.tmp 89) (.tmp 90) 37 rfl 0 4 _ (.bool false) 1 1 Tryz.underlying37 HIB.out.1 HIB.out.2.1 HIB.out.2.2.1 HIB.out.2.2.2 rfl (by decide) (vr 3) L.length (rowW L 4 3) rfl (HI.out.ow 3 (by decide)) ⟨x2, 0, none⟩ 1 1 [.bool false] rfl rfl PC2.out.at_ (by intro u hu; simp at hu; subst hu; rfl) (by decide) HX1.out.1 (HX1.out.2 1 (by decide)) (Nat.zero_le _) W57.heap.size rfl ?_
                        intro g2 k2 W58 hrow hgrow hat hlt
                        have HI2 := Lib.hid (HI.out.app 3 (by decide) hrow hgrow hat rfl)
                        clear HI PC2 hrow hgrow hat hlt
                        have HI := HI2
                        clear HI2
                        refine hK.out _ _ HI.out.held (fun hHeld' => ?_)
                        clear hK K hHeld
                        have hHeld := hHeld'
                        clear hHeld'
                        try simp only [Act.put, List.setIfInBounds_toArray, List.set_cons_zero, List.set_cons_succ]
                        refine AnyT.pick (i := 28) (oi := ⟨_, _, _, _, _, _⟩) (v := ?_) rfl (by kernel_rfl) (by kernel_rfl) (by kernel_rfl) (fun _ _ _ h => h) (Or.inl ⟨by rfl, ?y28_95⟩) ?_
                        case' y28_95 => ((intro w hSw; go_simp) <;> (with_reducible rfl))
                        try simp only [Act.put, List.setIfInBounds_toArray, List.set_cons_zero, List.set_cons_succ]
                        refine AnyT.pick (i := 29) (oi := ⟨_, _, _, _, _, _⟩) (v := ?_) rfl (by kernel_rfl) (by kernel_rfl) (by kernel_rfl) (fun _ _ _ h => h) (Or.inl ⟨by rfl, ?y29_96⟩) ?_
                        case' y29_96 => ((intro w hSw; go_simp) <;> (with_reducible rfl))
                        try simp only [Act.put, List.setIfInBounds_toArray, List.set_cons_zero, List.set_cons_succ]
                        refine AllT.go (rs := [30]) (by kernel_rfl) (by simp) ?_
                        refine AllT.late (o := ⟨_, _, _, _, _, _⟩) rfl (by decide) (fun K hK => ?_) AllT.nil
                        go_simp
                        refine hK.out _ _ trivial (fun _ => ?_)
                        clear hK K
                        try simp only [Act.put, List.setIfInBounds_toArray, List.set_cons_zero, List.set_cons_succ]
                        refine AnyT.pick (i := 31) (oi := ⟨_, _, _, _, _, _⟩) (v := ?_) rfl (by kernel_rfl) (by kernel_rfl) (by kernel_rfl) (fun _ _ _ h => h) (Or.inl ⟨by rfl, ?y31_97⟩) ?_
                        case' y31_97 => ((intro w hSw; go_simp) <;> (with_reducible rfl))
                        try simp only [Act.put, List.setIfInBounds_toArray, List.set_cons_zero, List.set_cons_succ]
                        refine AnyT.pick (i := 32) (oi := ⟨_, _, _, _, _, _⟩) (v := ?_) rfl (by kernel_rfl) (by kernel_rfl) (by kernel_rfl) (fun _ _ _ h => h) (Or.inl ⟨by rfl, ?y32_98⟩) ?_
                        case' y32_98 => ((intro w hSw; go_simp) <;> (with_reducible rfl))
                        try simp only [Act.put, List.setIfInBounds_toArray, List.set_cons_zero, List.set_cons_succ]
                        refine AllT.go (rs := [33]) (by kernel_rfl) (by simp) ?_
                        refine AllT.late (o := ⟨_, _, _, _, _, _⟩) rfl (by decide) (fun K hK => ?_) AllT.nil
                        go_simp
                        refine hK.out _ _ trivial (fun _ => ?_)
                        clear hK K
                        try simp only [Act.put, List.setIfInBounds_toArray, List.set_cons_zero, List.set_cons_succ]
                        refine AnyT.pick (i := 34) (oi := ⟨_, _, _, _, _, _⟩) (v := ?_) rfl (by kernel_rfl) (by kernel_rfl) (by kernel_rfl) (fun _ _ _ h => h) (Or.inl ⟨by rfl, ?y34_99⟩) ?_
                        case' y34_99 => ((intro w hSw; go_simp) <;> (with_reducible rfl))
                        try simp only [Act.put, List.setIfInBounds_toArray, List.set_cons_zero, List.set_cons_succ]
                        refine AnyT.pick (i := 35) (oi := ⟨_, _, _, _, _, _⟩) (v := ?_) rfl (by kernel_rfl) (by kernel_rfl) (by kernel_rfl) (fun _ _ _ h => h) (Or.inl ⟨by rfl, ?y35_100⟩) ?_
                        case' y35_100 => ((intro w hSw; go_simp) <;> (with_reducible rfl))
                        try simp only [Act.put, List.setIfInBounds_toArray, List.set_cons_zero, List.set_cons_succ]
                        refine AllT.go (rs := [36]) (by kernel_rfl) (by simp) ?_
                        refine AllT.late (o := ⟨_, _, _, _, _, _⟩) rfl (by decide) (fun K hK => ?_) AllT.nil
                        go_simp
                        refine hK.out _ _ trivial (fun _ => ?_)
                        clear hK K
                        try simp only [Act.put, List.setIfInBounds_toArray, List.set_cons_zero, List.set_cons_succ]
                        refine AnyT.done (by kernel_rfl) ?_ _
                        go_wp2_with fail
                        refine ⟨?_, ?meas13⟩
                        (repeat apply Exists.intro)
                        refine ⟨?rell13, rfl⟩
                        case rell13 => exact fin2 SC.out HI.out hbs HSD.out HL.out.1 HL.out.2 HSE.out hlt (by go_num)
                        case meas13 => simp [intOf]; omega
                      exact AllT.nil
                    exact AllT.nil
                  exact AllT.nil
                refine AllT.early (o := ⟨_, _, _, _, _, _⟩) rfl (fun K hK => ?_) ?_
                · go_simp
                  refine hK.out _ _ (I3.held (HI.out.alloc _)) (fun hHeld' => ?_)
                  clear hK K hHeld
                  have hHeld := hHeld'
                  clear hHeld'
                  have HI2 := Lib.hid (HI.out.alloc (.cells #[.int .i64 sa, .int .i64 sc] 46))
                  have PC1 := Lib.hid (Pc.new HI.out #[.int .i64 sa, .int .i64 sc] 46)
                  have PX0 := Lib.hid (PC0.out.alloc (.cells #[.int .i64 sa, .int .i64 sc] 46))
                  clear PC0
                  have PC0 := PX0
                  clear PX0
                  have PX2 := Lib.hid (PC2.out.alloc (.cells #[.int .i64 sa, .int .i64 sc] 46))
                  clear PC2
                  have PC2 := PX2
                  clear PX2
                  clear HI
                  have HI := HI2
                  clear HI2
                  generalize World.alloc W54 (.cells #[.int .i64 sa, .int .i64 sc] 46) = W59 at *
                  generalize W54.heap.size = x1 at *
                  try simp only [Act.put, List.setIfInBounds_toArray, List.set_cons_zero, List.set_cons_succ]
                  refine AllT.go (rs := [12]) (by kernel_rfl) (by simp) ?_
                  refine AllT.early (o := ⟨_, _, _, _, _, _⟩) rfl (fun K hK => ?_) ?_
                  · refine step_append_lies _ rfl (.tmp 70) (.tmp 75) 34 rfl 0 48 _ (.agg #[.int .i64 0, .int .i64 0, .bool false]) 3 24 Tryz.underlying34 HIM.out.1 HIM.out.2.1 HIM.out.2.2.1 HIM.out.2.2.2 rfl (by decide) (vr 0) L.length (rowW L 4 0) rfl (HI.out.ow 0 (by decide)) ⟨x0, 0, none⟩ 1 1 [.int .i64 sa, .int .i64 sc, .bool false] rfl rfl PC0.out.at_ (by intro u hu; simp at hu; rcases hu with rfl | rfl | rfl <;> rfl) (by decide) HX1.out.1 (HX1.out.2 24 (by decide)) (Nat.zero_le _) W59.heap.size rfl ?_
                    intro g0 k0 W60 hrow hgrow hat hlt
                    have HI2 := Lib.hid (HI.out.app 0 (by decide) hrow hgrow hat rfl)
                    have PX1 := Lib.hid (PC1.out.app (n := L.length + 1) (c := k0) HI.out 0 (by decide) hgrow hat rfl)
                    clear PC1
                    have PC1 := PX1
                    clear PX1
                    have PX2 := Lib.hid (PC2.out.app (n := L.length + 1) (c := k0) HI.out 0 (by decide) hgrow hat rfl)
                    clear PC2
                    have PC2 := PX2
                    clear PX2
                    clear HI PC0 hrow hgrow hat hlt
                    have HI := HI2
                    clear HI2
                    refine hK.out _ _ HI.out.held (fun hHeld' => ?_)
                    clear hK K hHeld
                    have hHeld := hHeld'
                    clear hHeld'
                    try simp only [Act.put, List.setIfInBounds_toArray, List.set_cons_zero, List.set_cons_succ]
                    refine AllT.go (rs := [21]) (by kernel_rfl) (by simp) ?_
                    refine AllT.early (o := ⟨_, _, _, _, _, _⟩) rfl (fun K hK => ?_) ?_
                    · refine step_append_lies _ rfl (.tmp 80) (.tmp 84) 36 rfl 0 46 _ (.agg #[.int .i64 0, .int .i64 0]) 2 16 Tryz.underlying36 HIP.out.1 HIP.out.2.1 HIP.out.2.2.1 HIP.out.2.2.2 rfl (by decide) (vr 2) L.length (rowW L 4 2) rfl (HI.out.ow 2 (by decide)) ⟨x1, 0, none⟩ 1 1 [.int .i64 sa, .int .i64 sc] rfl rfl PC1.out.at_ (by intro u hu; simp at hu; rcases hu with rfl | rfl <;> rfl) (by decide) HX1.out.1 (HX1.out.2 16 (by decide)) (Nat.zero_le _) W60.heap.size rfl ?_
                      intro g1 k1 W61 hrow hgrow hat hlt
                      have HI2 := Lib.hid (HI.out.app 2 (by decide) hrow hgrow hat rfl)
                      have PX2 := Lib.hid (PC2.out.app (n := L.length + 1) (c := k1) HI.out 2 (by decide) hgrow hat rfl)
                      clear PC2
                      have PC2 := PX2
                      clear PX2
                      clear HI PC1 hrow hgrow hat hlt
                      have HI := HI2
                      clear HI2
                      refine hK.out _ _ HI.out.held (fun hHeld' => ?_)
                      clear hK K hHeld
                      have hHeld := hHeld'
                      clear hHeld'
                      try simp only [Act.put, List.setIfInBounds_toArray, List.set_cons_zero, List.set_cons_succ]
                      refine AllT.go (rs := [27]) (by kernel_rfl) (by simp) ?_
                      refine AllT.early (o := ⟨_, _, _, _, _, _⟩) rfl (fun K hK => ?_) ?_
                      · refine step_append_lies _ rfl (.tmp 89) (.tmp 90) 37 rfl 0 4 _ (.bool false) 1 1 Tryz.underlying37 HIB.out.1 HIB.out.2.1 HIB.out.2.2.1 HIB.out.2.2.2 rfl (by decide) (vr 3) L.length (rowW L 4 3) rfl (HI.out.ow 3 (by decide)) ⟨x2, 0, none⟩ 1 1 [.bool false] rfl rfl PC2.out.at_ (by intro u hu; simp at hu; subst hu; rfl) (by decide) HX1.out.1 (HX1.out.2 1 (by decide)) (Nat.zero_le _) W61.heap.size rfl ?_
                        intro g2 k2 W62 hrow hgrow hat hlt
                        have HI2 := Lib.hid (HI.out.app 3 (by decide) hrow hgrow hat rfl)
                        clear HI PC2 hrow hgrow hat hlt
                        have HI := HI2
                        clear HI2
                        refine hK.out _ _ HI.out.held (fun hHeld' => ?_)
                        clear hK K hHeld
                        have hHeld := hHeld'
                        clear hHeld'
                        try simp only [Act.put, List.setIfInBounds_toArray, List.set_cons_zero, List.set_cons_succ]
                        refine AnyT.pick (i := 28) (oi := ⟨_, _, _, _, _, _⟩) (v := ?_) rfl (by kernel_rfl) (by kernel_rfl) (by kernel_rfl) (fun _ _ _ h => h) (Or.inl ⟨by rfl, ?y28_101⟩) ?_
                        case' y28_101 => ((intro w hSw; go_simp) <;> (with_reducible rfl))
                        try simp only [Act.put, List.setIfInBounds_toArray, List.set_cons_zero, List.set_cons_succ]
                        refine AnyT.pick (i := 29) (oi := ⟨_, _, _, _, _, _⟩) (v := ?_) rfl (by kernel_rfl) (by kernel_rfl) (by kernel_rfl) (fun _ _ _ h => h) (Or.inl ⟨by rfl, ?y29_102⟩) ?_
                        case' y29_102 => ((intro w hSw; go_simp) <;> (with_reducible rfl))
                        try simp only [Act.put, List.setIfInBounds_toArray, List.set_cons_zero, List.set_cons_succ]
                        refine AllT.go (rs := [30]) (by kernel_rfl) (by simp) ?_
                        refine AllT.late (o := ⟨_, _, _, _, _, _⟩) rfl (by decide) (fun K hK => ?_) AllT.nil
                        go_simp
                        refine hK.out _ _ trivial (fun _ => ?_)
                        clear hK K
                        try simp only [Act.put, List.setIfInBounds_toArray, List.set_cons_zero, List.set_cons_succ]
                        refine AnyT.pick (i := 31) (oi := ⟨_, _, _, _, _, _⟩) (v := ?_) rfl (by kernel_rfl) (by kernel_rfl) (by kernel_rfl) (fun _ _ _ h => h) (Or.inl ⟨by rfl, ?y31_103⟩) ?_
                        case' y31_103 => ((intro w hSw; go_simp) <;> (with_reducible rfl))
                        try simp only [Act.put, List.setIfInBounds_toArray, List.set_cons_zero, List.set_cons_succ]
                        refine AnyT.pick (i := 32) (oi := ⟨_, _, _, _, _, _⟩) (v := ?_) rfl (by kernel_rfl) (by kernel_rfl) (by kernel_rfl) (fun _ _ _ h => h) (Or.inl ⟨by rfl, ?y32_104⟩) ?_
                        case' y32_104 => ((intro w hSw; go_simp) <;> (with_reducible rfl))
                        try simp only [Act.put, List.setIfInBounds_toArray, List.set_cons_zero, List.set_cons_succ]
                        refine AllT.go (rs := [33]) (by kernel_rfl) (by simp) ?_
                        refine AllT.late (o := ⟨_, _, _, _, _, _⟩) rfl (by decide) (fun K hK => ?_) AllT.nil
                        go_simp
                        refine hK.out _ _ trivial (fun _ => ?_)
                        clear hK K
                        try simp only [Act.put, List.setIfInBounds_toArray, List.set_cons_zero, List.set_cons_succ]
                        refine AnyT.pick (i := 34) (oi := ⟨_, _, _, _, _, _⟩) (v := ?_) rfl (by kernel_rfl) (by kernel_rfl) (by kernel_rfl) (fun _ _ _ h => h) (Or.inl ⟨by rfl, ?y34_105⟩) ?_
                        case' y34_105 => ((intro w hSw; go_simp) <;> (with_reducible rfl))
                        try simp only [Act.put, List.setIfInBounds_toArray, List.set_cons_zero, List.set_cons_succ]
                        refine AnyT.pick (i := 35) (oi := ⟨_, _, _, _, _, _⟩) (v := ?_) rfl (by kernel_rfl) (by kernel_rfl) (by kernel_rfl) (fun _ _ _ h => h) (Or.inl ⟨by rfl, ?y35_106⟩) ?_
                        case' y35_106 => ((intro w hSw; go_simp) <;> (with_reducible rfl))
                        try simp only [Act.put, List.setIfInBounds_toArray, List.set_cons_zero, List.set_cons_succ]
                        refine AllT.go (rs := [36]) (by kernel_rfl) (by simp) ?_
                        refine AllT.late (o := ⟨_, _, _, _, _, _⟩) rfl (by decide) (fun K hK => ?_) AllT.nil
                        go_simp
                        refine hK.out _ _ trivial (fun _ => ?_)
                        clear hK K
                        try simp only [Act.put, List.setIfInBounds_toArray, List.set_cons_zero, List.set_cons_succ]
                        refine AnyT.done (by kernel_rfl) ?_ _
                        go_wp2_with fail
                        refine ⟨?_, ?meas14⟩
                        (repeat apply Exists.intro)
                        refine ⟨?rell14, rfl⟩
                        case rell14 => exact fin2 SC.out HI.out hbs HSD.out HL.out.1 HL.out.2 HSE.out hlt (by go_num)
                        case meas14 => simp [intOf]; omega
                      exact AllT.nil
                    exact AllT.nil
                  exact AllT.nil
                exact AllT.nil
              refine AllT.early (o := ⟨_, _, _, _, _, _⟩) rfl (fun K hK => ?_) ?_
              · go_simp
                refine hK.out _ _ (I3.held (HI.out.alloc _)) (fun hHeld' => ?_)
                clear hK K hHeld
                have hHeld := hHeld'
                clear hHeld'
                have HI2 := Lib.hid (HI.out.alloc (.cells #[.int .i64 sa, .int .i64 sc] 46))
                have PC1 := Lib.hid (Pc.new HI.out #[.int .i64 sa, .int .i64 sc] 46)
                have PX2 := Lib.hid (PC2.out.alloc (.cells #[.int .i64 sa, .int .i64 sc] 46))
                clear PC2
                have PC2 := PX2
                clear PX2
                clear HI
                have HI := HI2
                clear HI2
                generalize World.alloc W53 (.cells #[.int .i64 sa, .int .i64 sc] 46) = W63 at *
                generalize W53.heap.size = x1 at *
                try simp only [Act.put, List.setIfInBounds_toArray, List.set_cons_zero, List.set_cons_succ]
                refine AllT.go (rs := [11]) (by kernel_rfl) (by simp) ?_
                refine AllT.early (o := ⟨_, _, _, _, _, _⟩) rfl (fun K hK => ?_) ?_
                · go_simp
                  refine hK.out _ _ (I3.held (HI.out.alloc _)) (fun hHeld' => ?_)
                  clear hK K hHeld
                  have hHeld := hHeld'
                  clear hHeld'
                  have HI2 := Lib.hid (HI.out.alloc (.cells #[.int .i64 sa, .int .i64 sc, .bool false] 48))
                  have PC0 := Lib.hid (Pc.new HI.out #[.int .i64 sa, .int .i64 sc, .bool false] 48)
                  have PX1 := Lib.hid (PC1.out.alloc (.cells #[.int .i64 sa, .int .i64 sc, .bool false] 48))
                  clear PC1
                  have PC1 := PX1
                  clear PX1
                  have PX2 := Lib.hid (PC2.out.alloc (.cells #[.int .i64 sa, .int .i64 sc, .bool false] 48))
                  clear PC2
                  have PC2 := PX2
                  clear PX2
                  clear HI
                  have HI := HI2
                  clear HI2
                  generalize World.alloc W63 (.cells #[.int .i64 sa, .int .i64 sc, .bool false] 48) = W64 at *
                  generalize W63.heap.size = x0 at *
                  try simp only [Act.put, List.setIfInBounds_toArray, List.set_cons_zero, List.set_cons_succ]
                  refine AllT.go (rs := [12]) (by kernel_rfl) (by simp) ?_
                  refine AllT.early (o := ⟨_, _, _, _, _, _⟩) rfl (fun K hK => ?_) ?_
                  · refine step_append_lies _ rfl (.tmp 70) (.tmp 75) 34 rfl 0 48 _ (.agg #[.int .i64 0, .int .i64 0, .bool false]) 3 24 Tryz.underlying34 HIM.out.1 HIM.out.2.1 HIM.out.2.2.1 HIM.out.2.2.2 rfl (by decide) (vr 0) L.length (rowW L 4 0) rfl (HI.out.ow 0 (by decide)) ⟨x0, 0, none⟩ 1 1 [.int .i64 sa, .int .i64 sc, .bool false] rfl rfl PC0.out.at_ (by intro u hu; simp at hu; rcases hu with rfl | rfl | rfl <;> rfl) (by decide) HX1.out.1 (HX1.out.2 24 (by decide)) (Nat.zero_le _) W64.heap.size rfl ?_
                    intro g0 k0 W65 hrow hgrow hat hlt
                    have HI2 := Lib.hid (HI.out.app 0 (by decide) hrow hgrow hat rfl)
                    have PX1 := Lib.hid (PC1.out.app (n := L.length + 1) (c := k0) HI.out 0 (by decide) hgrow hat rfl)
                    clear PC1
                    have PC1 := PX1
                    clear PX1
                    have PX2 := Lib.hid (PC2.out.app (n := L.length + 1) (c := k0) HI.out 0 (by decide) hgrow hat rfl)
                    clear PC2
                    have PC2 := PX2
                    clear PX2
                    clear HI PC0 hrow hgrow hat hlt
                    have HI := HI2
                    clear HI2
                    refine hK.out _ _ HI.out.held (fun hHeld' => ?_)
                    clear hK K hHeld
                    have hHeld := hHeld'
                    clear hHeld'
                    try simp only [Act.put, List.setIfInBounds_toArray, List.set_cons_zero, List.set_cons_succ]
                    refine AllT.go (rs := [21]) (by kernel_rfl) (by simp) ?_
                    refine AllT.early (o := ⟨_, _, _, _, _, _⟩) rfl (fun K hK => ?_) ?_
                    · refine step_append_lies _ rfl (.tmp 80) (.tmp 84) 36 rfl 0 46 _ (.agg #[.int .i64 0, .int .i64 0]) 2 16 Tryz.underlying36 HIP.out.1 HIP.out.2.1 HIP.out.2.2.1 HIP.out.2.2.2 rfl (by decide) (vr 2) L.length (rowW L 4 2) rfl (HI.out.ow 2 (by decide)) ⟨x1, 0, none⟩ 1 1 [.int .i64 sa, .int .i64 sc] rfl rfl PC1.out.at_ (by intro u hu; simp at hu; rcases hu with rfl | rfl <;> rfl) (by decide) HX1.out.1 (HX1.out.2 16 (by decide)) (Nat.zero_le _) W65.heap.size rfl ?_
                      intro g1 k1 W66 hrow hgrow hat hlt
                      have HI2 := Lib.hid (HI.out.app 2 (by decide) hrow hgrow hat rfl)
                      have PX2 := Lib.hid (PC2.out.app (n := L.length + 1) (c := k1) HI.out 2 (by decide) hgrow hat rfl)
                      clear PC2
                      have PC2 := PX2
                      clear PX2
                      clear HI PC1 hrow hgrow hat hlt
                      have HI := HI2
                      clear HI2
                      refine hK.out _ _ HI.out.held (fun hHeld' => ?_)
                      clear hK K hHeld
                      have hHeld := hHeld'
                      clear hHeld'
                      try simp only [Act.put, List.setIfInBounds_toArray, List.set_cons_zero, List.set_cons_succ]
                      refine AllT.go (rs := [27]) (by kernel_rfl) (by simp) ?_
                      refine AllT.early (o := ⟨_, _, _, _, _, _⟩) rfl (fun K hK => ?_) ?_
                      · refine step_append_lies _ rfl (.tmp 89) (.tmp 90) 37 rfl 0 4 _ (.bool false) 1 1 Tryz.underlying37 HIB.out.1 HIB.out.2.1 HIB.out.2.2.1 HIB.out.2.2.2 rfl (by decide) (vr 3) L.length (rowW L 4 3) rfl (HI.out.ow 3 (by decide)) ⟨x2, 0, none⟩ 1 1 [.bool false] rfl rfl PC2.out.at_ (by intro u hu; simp at hu; subst hu; rfl) (by decide) HX1.out.1 (HX1.out.2 1 (by decide)) (Nat.zero_le _) W66.heap.size rfl ?_
                        intro g2 k2 W67 hrow hgrow hat hlt
                        have HI2 := Lib.hid (HI.out.app 3 (by decide) hrow hgrow hat rfl)
                        clear HI PC2 hrow hgrow hat hlt
                        have HI := HI2
                        clear HI2
                        refine hK.out _ _ HI.out.held (fun hHeld' => ?_)
                        clear hK K hHeld
                        have hHeld := hHeld'
                        clear hHeld'
                        try simp only [Act.put, List.setIfInBounds_toArray, List.set_cons_zero, List.set_cons_succ]
                        refine AnyT.pick (i := 28) (oi := ⟨_, _, _, _, _, _⟩) (v := ?_) rfl (by kernel_rfl) (by kernel_rfl) (by kernel_rfl) (fun _ _ _ h => h) (Or.inl ⟨by rfl, ?y28_107⟩) ?_
                        case' y28_107 => ((intro w hSw; go_simp) <;> (with_reducible rfl))
                        try simp only [Act.put, List.setIfInBounds_toArray, List.set_cons_zero, List.set_cons_succ]
                        refine AnyT.pick (i := 29) (oi := ⟨_, _, _, _, _, _⟩) (v := ?_) rfl (by kernel_rfl) (by kernel_rfl) (by kernel_rfl) (fun _ _ _ h => h) (Or.inl ⟨by rfl, ?y29_108⟩) ?_
                        case' y29_108 => ((intro w hSw; go_simp) <;> (with_reducible rfl))
                        try simp only [Act.put, List.setIfInBounds_toArray, List.set_cons_zero, List.set_cons_succ]
                        refine AllT.go (rs := [30]) (by kernel_rfl) (by simp) ?_
                        refine AllT.late (o := ⟨_, _, _, _, _, _⟩) rfl (by decide) (fun K hK => ?_) AllT.nil
                        go_simp
                        refine hK.out _ _ trivial (fun _ => ?_)
                        clear hK K
                        try simp only [Act.put, List.setIfInBounds_toArray, List.set_cons_zero, List.set_cons_succ]
                        refine AnyT.pick (i := 31) (oi := ⟨_, _, _, _, _, _⟩) (v := ?_) rfl (by kernel_rfl) (by kernel_rfl) (by kernel_rfl) (fun _ _ _ h => h) (Or.inl ⟨by rfl, ?y31_109⟩) ?_
                        case' y31_109 => ((intro w hSw; go_simp) <;> (with_reducible rfl))
                        try simp only [Act.put, List.setIfInBounds_toArray, List.set_cons_zero, List.set_cons_succ]
                        refine AnyT.pick (i := 32) (oi := ⟨_, _, _, _, _, _⟩) (v := ?_) rfl (by kernel_rfl) (by kernel_rfl) (by kernel_rfl) (fun _ _ _ h => h) (Or.inl ⟨by rfl, ?y32_110⟩) ?_
                        case' y32_110 => ((intro w hSw; go_simp) <;> (with_reducible rfl))
                        try simp only [Act.put, List.setIfInBounds_toArray, List.set_cons_zero, List.set_cons_succ]
                        refine AllT.go (rs := [33]) (by kernel_rfl) (by simp) ?_
                        refine AllT.late (o := ⟨_, _, _, _, _, _⟩) rfl (by decide) (fun K hK => ?_) AllT.nil
                        go_simp
                        refine hK.out _ _ trivial (fun _ => ?_)
                        clear hK K
                        try simp only [Act.put, List.setIfInBounds_toArray, List.set_cons_zero, List.set_cons_succ]
                        refine AnyT.pick (i := 34) (oi := ⟨_, _, _, _, _, _⟩) (v := ?_) rfl (by kernel_rfl) (by kernel_rfl) (by kernel_rfl) (fun _ _ _ h => h) (Or.inl ⟨by rfl, ?y34_111⟩) ?_
                        case' y34_111 => ((intro w hSw; go_simp) <;> (with_reducible rfl))
                        try simp only [Act.put, List.setIfInBounds_toArray, List.set_cons_zero, List.set_cons_succ]
                        refine AnyT.pick (i := 35) (oi := ⟨_, _, _, _, _, _⟩) (v := ?_) rfl (by kernel_rfl) (by kernel_rfl) (by kernel_rfl) (fun _ _ _ h => h) (Or.inl ⟨by rfl, ?y35_112⟩) ?_
                        case' y35_112 => ((intro w hSw; go_simp) <;> (with_reducible rfl))
                        try simp only [Act.put, List.setIfInBounds_toArray, List.set_cons_zero, List.set_cons_succ]
                        refine AllT.go (rs := [36]) (by kernel_rfl) (by simp) ?_
                        refine AllT.late (o := ⟨_, _, _, _, _, _⟩) rfl (by decide) (fun K hK => ?_) AllT.nil
                        go_simp
                        refine hK.out _ _ trivial (fun _ => ?_)
                        clear hK K
                        try simp only [Act.put, List.setIfInBounds_toArray, List.set_cons_zero, List.set_cons_succ]
                        refine AnyT.done (by kernel_rfl) ?_ _
                        go_wp2_with fail
                        refine ⟨?_, ?meas15⟩
                        (repeat apply Exists.intro)
                        refine ⟨?rell15, rfl⟩
                        case rell15 => exact fin2 SC.out HI.out hbs HSD.out HL.out.1 HL.out.2 HSE.out hlt (by go_num)
                        case meas15 => simp [intOf]; omega
                      exact AllT.nil
                    exact AllT.nil
                  exact AllT.nil
                exact AllT.nil
              exact AllT.nil
            exact AllT.nil
        · have hte : t = n := by omega
          subst hte
          go_wp2_with fail
          go_ret
          exact ⟨q, p, cb, vr, v, bs, rfl, hbs, SS.out⟩
end Go.Proofs.YtmmfpkkkpeapeaaGreatDoor.mb

/- Pass, any way, as a function; two worlds that are alike but for where their fields lie. -/
set_option linter.unusedVariables false
namespace Go.Proofs.YtmmfpkkkpeapeaaGreatDoor.mb
open Go.RowKit Go.Maps mem rec ar
set_option maxHeartbeats 400000
section
variable {w w1 : World} {p cb k : Nat} {v : Nat → Value} {A : Ar} {C : Ca} {L : List Mb} {d : Int}
theorem pass_any {lv : Value} {m into : Int} {r : Nat} {o : Ob} (h : Wr w p cb v A C L (k + 1) d) (hl : ListAt w lv L) (hm : (Lit.int .i64 m).wf = true) (hs : ∀ y, otherR L m into = some y → 0 ≤ into ∧ into < 4) (hf : A.find r = some o) :
    Calls Tryz.prog 9 #[lv, .pointer (some ⟨p, 0, none⟩), .map (some cb), .int .i64 m, .int .i64 into, val (5, (r : Int), ⟨#[]⟩)] w fun e w' => ∃ v', e = .returned (.tuple #[val (passR A C L false m into (5, (r : Int), ⟨#[]⟩)).v, .int .i64 (passR A C L false m into (5, (r : Int), ⟨#[]⟩)).e]) ∧
      Wr w' p cb v' (passR A C L false m into (5, (r : Int), ⟨#[]⟩)).A (passR A C L false m into (5, (r : Int), ⟨#[]⟩)).C L k (d + 1) ∧ Chg (cb :: foot p v) w w' ∧ (∀ b ∈ foot p v', b ∈ foot p v ∨ w.heap.size ≤ b) ∧
      ((passR A C L false m into (5, (r : Int), ⟨#[]⟩)).e = 0 → ∃ (r' : Nat) (o' : Ob), (passR A C L false m into (5, (r : Int), ⟨#[]⟩)).v = (5, (r' : Int), ⟨#[]⟩) ∧ (passR A C L false m into (5, (r : Int), ⟨#[]⟩)).A.find r' = some o') ∧
      ((passR A C L false m into (5, (r : Int), ⟨#[]⟩)).e ≠ 0 → (passR A C L false m into (5, (r : Int), ⟨#[]⟩)).v = zero3) := by
  have hp : p < w.heap.size := h.pt.hd.lt
  have hr := find_lt h.rm hf
  have h0 : ∀ b ∈ foot p v, b ∈ foot p v ∨ w.heap.size ≤ b := fun b hb => .inl hb
  have hdp := h.nt.dp r o hf
  obtain ⟨n, D, hn, hown, hC⟩ := h.ow
  obtain ⟨R, hR⟩ : ∃ R, R = passR A C L false m into (5, (r : Int), ⟨#[]⟩) := ⟨_, rfl⟩
  rw [← hR]
  unfold passR at hR
  rw [show (((5, (r : Int), ⟨#[]⟩) : V3).2.1).toNat = r from rfl] at hR
  have same : ∀ {w'}, Up w w' → Wr w' p cb v A C L k (d + 1) := fun hu => (h.up hu).less (by omega) (by omega)
  cases ho : otherR L m into with
  | none =>
    rw [ho] at hR
    subst hR
    refine (pass_no w lv p cb m into L 5 r ⟨#[]⟩ hl hp ho).mono ?_
    rintro e w' ⟨rfl, hu⟩
    exact ⟨v, rfl, same hu, hu.chg.mono (by simp), h0, fun hh => absurd hh (by show ¬ (4 : Int) = 0; decide), fun _ => rfl⟩
  | some from_ =>
    rw [ho] at hR
    simp only at hR
    cases hd : deadR L m with
    | true =>
      rw [if_pos hd] at hR
      subst hR
      refine (pass_dead w lv p cb m into L 5 r from_ ⟨#[]⟩ hl hp ho hd).mono ?_
      rintro e w' ⟨rfl, hu⟩
      exact ⟨v, rfl, same hu, hu.chg.mono (by simp), h0, fun hh => absurd hh (by show ¬ (12 : Int) = 0; decide), fun _ => rfl⟩
    | false =>
      rw [if_neg (by rw [hd]; decide), if_neg (by decide), hf] at hR
      simp only at hR
      by_cases hw : o.owner = from_
      · rw [if_neg (by rw [hw]; simp)] at hR
        by_cases hb6 : o.kind = 6 ∧ o.membrane = m
        · rw [if_pos hb6] at hR
          obtain ⟨t, o', h1, h2, h3, h4, h5⟩ := h.nt.px r o hf hb6.1
          rw [h1] at hR
          subst hR
          refine (pass_back w lv p cb m into L r from_ v A hr h.pt hl hp ho hd o hf t (find_lt h.rm h2) hw hb6.1 hb6.2 h1).mono ?_
          rintro e w' ⟨rfl, hu⟩
          exact ⟨v, rfl, same hu, hu.chg.mono (by simp), h0, fun _ => ⟨t, o', rfl, h2⟩, fun hh => absurd rfl hh⟩
        · rw [if_neg hb6] at hR
          cases hc : C m r with
          | some q =>
            rw [hc] at hR
            subst hR
            obtain ⟨y, y', h1, h2, h3, h4, h5⟩ := h.nt.ca m r q hc
            refine (pass_hit w lv p cb m into L r from_ v A hr h.pt hl hp ho hd o hf n D C hown hC hm hw hb6 q (find_lt h.rm h1) hc trivial).mono ?_
            rintro e w' ⟨rfl, hu⟩
            exact ⟨v, rfl, same hu, hu.chg.mono (by simp), h0, fun _ => ⟨q, y, rfl, h1⟩, fun hh => absurd rfl hh⟩
          | none =>
            rw [hc] at hR
            simp only at hR
            by_cases h6 : 6 ≤ o.deep
            · rw [if_pos h6] at hR
              subst hR
              refine (pass_chain w lv p cb m into L r from_ v A hr h.pt hl hp ho hd o hf n D C hown hC hm hw hb6 hc h6).mono ?_
              rintro e w' ⟨rfl, hu⟩
              exact ⟨v, rfl, same hu, hu.chg.mono (by simp), h0, fun hh => absurd hh (by show ¬ (14 : Int) = 0; decide), fun _ => rfl⟩
            · rw [if_neg h6, if_neg (by decide)] at hR
              subst hR
              obtain ⟨i0, i4⟩ := hs _ ho
              obtain ⟨nn, hnn⟩ : ∃ nn : Nat, into = (nn : Int) := ⟨into.toNat, by omega⟩
              have e : o.owner = from_ := hw
              refine (pass_new w lv p cb m into L r from_ nn k k v A hr h.pt hl hp ho hd o hf n D C hown hC hm hw hb6 hc ⟨hdp.1, by omega⟩ hnn h.rm (h.qu nn (by omega)) (by unfold maxLen; omega) h.cn).mono ?_
              rintro e w' ⟨v', D', rfl, hP, hCg, hF, hO, hCI, hcn⟩
              exact ⟨v', rfl, ⟨hP, h.rm.add _, fun n hn => sb.Quo.less (h.qu n hn) _ nn hnn, ⟨n + 1, D', by omega, hO, hCI⟩, hcn, h.nt.proxy h.rm (by rw [hw]; exact ho) hf hb6 hc⟩, hCg, hF, fun _ => ⟨A.name, _, rfl, find_add_new h.rm _⟩, fun hh => absurd rfl hh⟩
      · rw [if_pos hw] at hR
        subst hR
        refine (pass_else w lv p cb m into L r from_ v A hr h.pt hl hp ho hd o hf hw).mono ?_
        rintro e w' ⟨rfl, hu⟩
        exact ⟨v, rfl, same hu, hu.chg.mono (by simp), h0, fun hh => absurd hh (by show ¬ (17 : Int) = 0; decide), fun _ => rfl⟩
end
/-! ### alike but for the fields -/
def Ob.bare (o : Ob) : Ob := { o with fields := none }
def Sl.bare (s : Sl) : Sl := { s with o := Ob.bare s.o }
def Ar.bare (A : Ar) : Ar := { A with slots := A.slots.map Sl.bare }
theorem bare_find (A : Ar) (r : Nat) : (Ar.bare A).find r = (A.find r).map Ob.bare := by
  unfold Ar.find
  show (match (A.slots.map Sl.bare)[r % 4294967296]? with | some s => if s.used = true ∧ s.uses = r / 4294967296 then some s.o else none | none => none) = _
  rw [List.getElem?_map]
  cases A.slots[r % 4294967296]? with
  | none => rfl
  | some s =>
    show (if s.used = true ∧ s.uses = r / 4294967296 then some (Ob.bare s.o) else none) = Option.map Ob.bare (if s.used = true ∧ s.uses = r / 4294967296 then some s.o else none)
    split <;> rfl
theorem bare_grow (A : Ar) : (Ar.bare A).grow = Ar.bare A.grow := by
  unfold Ar.grow
  by_cases h : A.free = []
  · have h' : (Ar.bare A).free = [] := h
    rw [if_pos h, if_pos h']
    show Ar.mk (A.slots.map Sl.bare ++ [sl0]) [(A.slots.map Sl.bare).length] _ _ = Ar.mk ((A.slots ++ [sl0]).map Sl.bare) _ _ _
    rw [List.length_map, List.map_append]
    rfl
  · have h' : ¬ (Ar.bare A).free = [] := h
    rw [if_neg h, if_neg h']
theorem bare_top (A : Ar) : (Ar.bare A).top = A.top := by unfold Ar.top; rw [bare_grow]; rfl
theorem bare_old (A : Ar) : (Ar.bare A).old = A.old := by
  unfold Ar.old
  rw [bare_grow, bare_top]
  show (List.getD (A.grow.slots.map Sl.bare) A.top sl0).uses = _
  rw [List.getD_eq_getElem?_getD, List.getD_eq_getElem?_getD, List.getElem?_map]
  cases A.grow.slots[A.top]? <;> rfl
theorem bare_name (A : Ar) : (Ar.bare A).name = A.name := by unfold Ar.name; rw [bare_top, bare_old]
theorem bare_add (A : Ar) (o : Ob) : Ar.bare (A.add o) = (Ar.bare A).add (Ob.bare o) := by
  unfold Ar.add
  rw [bare_grow, bare_top, bare_old]
  show Ar.mk ((A.grow.slots.set A.top ⟨A.old + 1, true, o⟩).map Sl.bare) _ _ _ = Ar.mk ((A.grow.slots.map Sl.bare).set A.top _) _ _ _
  rw [List.map_set]
  rfl
/-- What Pass answers doesn't hang on where the fields lie. -/
theorem passR_bare {A B : Ar} (C : Ca) (L : List Mb) (m into : Int) (v : V3) (h : Ar.bare A = Ar.bare B) : (passR A C L false m into v).v = (passR B C L false m into v).v ∧ (passR A C L false m into v).e = (passR B C L false m into v).e ∧ (passR A C L false m into v).C = (passR B C L false m into v).C ∧
    Ar.bare (passR A C L false m into v).A = Ar.bare (passR B C L false m into v).A := by
  have hf : (A.find v.2.1.toNat).map Ob.bare = (B.find v.2.1.toNat).map Ob.bare := by rw [← bare_find, ← bare_find, h]
  have hn : A.name = B.name := by rw [← bare_name A, ← bare_name B, h]
  unfold passR
  cases otherR L m into with
  | none => exact ⟨rfl, rfl, rfl, h⟩
  | some from_ =>
    simp only
    by_cases hd : deadR L m = true
    · rw [if_pos hd, if_pos hd]; exact ⟨rfl, rfl, rfl, h⟩
    rw [if_neg hd, if_neg hd]
    by_cases h5 : v.1 ≠ 5
    · rw [if_pos h5, if_pos h5]; exact ⟨rfl, rfl, rfl, h⟩
    rw [if_neg h5, if_neg h5]
    cases ha : A.find v.2.1.toNat with
    | none =>
      rw [ha] at hf
      cases hb : B.find v.2.1.toNat with
      | none => exact ⟨rfl, rfl, rfl, h⟩
      | some o => rw [hb] at hf; cases hf
    | some o =>
      rw [ha] at hf
      cases hb : B.find v.2.1.toNat with
      | none => rw [hb] at hf; cases hf
      | some y =>
        rw [hb] at hf
        have he : Ob.bare o = Ob.bare y := by simpa using hf
        have e1 : o.owner = y.owner := by have := congrArg Ob.owner he; exact this
        have e2 : o.kind = y.kind := by have := congrArg Ob.kind he; exact this
        have e3 : o.membrane = y.membrane := by have := congrArg Ob.membrane he; exact this
        have e4 : o.target = y.target := by have := congrArg Ob.target he; exact this
        have e5 : o.deep = y.deep := by have := congrArg Ob.deep he; exact this
        simp only
        rw [e1, e2, e3, e4, e5]
        by_cases c1 : y.owner ≠ from_
        · rw [if_pos c1, if_pos c1]; exact ⟨rfl, rfl, rfl, h⟩
        rw [if_neg c1, if_neg c1]
        by_cases c2 : y.kind = 6 ∧ y.membrane = m
        · rw [if_pos c2, if_pos c2]; exact ⟨rfl, rfl, rfl, h⟩
        rw [if_neg c2, if_neg c2]
        cases C m v.2.1.toNat with
        | some q => exact ⟨rfl, rfl, rfl, h⟩
        | none =>
          simp only
          by_cases c3 : 6 ≤ y.deep
          · rw [if_pos c3, if_pos c3]; exact ⟨rfl, rfl, rfl, h⟩
          rw [if_neg c3, if_neg c3, if_neg (by decide), if_neg (by decide)]
          refine ⟨by simp only; rw [hn], rfl, by simp only; rw [hn], ?_⟩
          simp only
          rw [bare_add, bare_add, h]
/-- A value through crossings, one behind the other. -/
def runR (L : List Mb) : List (Int × Int) → Ar → Ca → V3 → Res
  | [], A, C, v => ⟨v, 0, A, C⟩
  | x :: l, A, C, v => if (passR A C L false x.1 x.2 v).e ≠ 0 then passR A C L false x.1 x.2 v else runR L l (passR A C L false x.1 x.2 v).A (passR A C L false x.1 x.2 v).C (passR A C L false x.1 x.2 v).v
theorem runR_bare (L : List Mb) : ∀ (l : List (Int × Int)) (A B : Ar) (C : Ca) (v : V3), Ar.bare A = Ar.bare B → (runR L l A C v).v = (runR L l B C v).v ∧ (runR L l A C v).e = (runR L l B C v).e ∧ Ar.bare (runR L l A C v).A = Ar.bare (runR L l B C v).A
  | [], A, B, C, v, h => ⟨rfl, rfl, h⟩
  | x :: l, A, B, C, v, h => by
    obtain ⟨h1, h2, h3, h4⟩ := passR_bare C L x.1 x.2 v h
    unfold runR
    rw [h2]
    by_cases c : (passR B C L false x.1 x.2 v).e ≠ 0
    · rw [if_pos c, if_pos c]; exact ⟨h1, h2, h4⟩
    · rw [if_neg c, if_neg c, h1, h3]
      exact runR_bare L l _ _ _ _ h4
theorem bare_slots : ∀ (a b : List Nat) (i : Nat), a.length = b.length → (slots4 i a).map Sl.bare = (slots4 i b).map Sl.bare
  | [], [], i, _ => rfl
  | [], _ :: _, i, h => by cases h
  | _ :: _, [], i, h => by cases h
  | x :: l, y :: m, i, h => by
    rw [slots4, slots4, List.map_cons, List.map_cons, bare_slots l m (i + 1) (by simpa using h)]
    rfl
theorem bare4 {a b : List Nat} (h : a.length = b.length) : Ar.bare (mk4 a) = Ar.bare (mk4 b) := by
  have e : ∀ (x : Int) (a b : List Nat), a.length = b.length → a.map (fun _ => x) = b.map (fun _ => x) := fun x a b h => by
    rw [List.map_const', List.map_const', h]
  show Ar.mk ((slots4 0 a).map Sl.bare) [] _ _ = Ar.mk ((slots4 0 b).map Sl.bare) [] _ _
  rw [bare_slots a b 0 h]
  congr 1
  · exact e 60 a b h
  · exact e 1 a b h
end Go.Proofs.YtmmfpkkkpeapeaaGreatDoor.mb

/- WrapFull: what holds before a round: plain laws. -/
set_option linter.unusedVariables false
namespace Go.Proofs.YtmmfpkkkpeapeaaGreatDoor.mb
open Go.RowKit Go.Maps mem rec ar
set_option maxHeartbeats 400000
/-- Room for a objects more, b of owner 0; owner 1 has j of the k that he may have. -/
structure Ful (w0 w : World) (p cb : Nat) (lv : Value) (v : Nat → Value) (A : Ar) (C : Ca) (a b k j n : Nat) : Prop where
  pt : Parts w p v A
  rm : Room A a
  q0 : Quo A 0 b
  q1 : A.quotas[1]? = some (k : Int)
  m1 : A.many[1]? = some (j : Int)
  ow : ∃ D, w.ownsMap Tryz.prog 113 R1 cb n D ∧ CacheIs D C
  cf : ∀ m r q, C m r = some q → ∃ o, A.find r = some o
  ls : ListAt w lv [(0, 1, false)]
  lb : ∀ b, lv.ownBlock = some b → b ∉ foot p v ∧ b ≠ cb ∧ b < w.heap.size
  cn : cb ∉ foot p v
  fo : ∀ b ∈ foot p v, w0.heap.size ≤ b
  cl : w0.heap.size ≤ cb
  bel : Up w0 w
section
variable {w0 w w1 : World} {p cb a b k j n : Nat} {lv : Value} {v v1 : Nat → Value} {A : Ar} {C : Ca}
theorem Ful.up (h : Ful w0 w p cb lv v A C a b k j n) (u : Up w w1) : Ful w0 w1 p cb lv v A C a b k j n :=
  ⟨h.pt.up u, h.rm, h.q0, h.q1, h.m1, by obtain ⟨D, h1, h2⟩ := h.ow; exact ⟨D, owns_up h1 u, h2⟩, h.cf, h.ls.up u, fun b hb => ⟨(h.lb b hb).1, (h.lb b hb).2.1, Nat.lt_of_lt_of_le (h.lb b hb).2.2 u.size⟩, h.cn, h.fo, h.cl, h.bel.trans u⟩
theorem Ful.fresh (h : Ful w0 w p cb lv v A C (a + 1) b k j n) (m : Int) : C m A.name = none := by
  cases hc : C m A.name with
  | none => rfl
  | some q =>
    obtain ⟨o, ho⟩ := h.cf m _ q hc
    exact absurd rfl (name_ne h.rm ho)
theorem Ful.quo (h : Ful w0 w p cb lv v A C a b k (j) n) (hjk : j < k) (hk : k ≤ 20) : Quo A 1 ((k - j - 1) + 1) := ⟨k, j, h.q1, h.m1, by omega, by omega, by omega⟩
/-- A record more, of owner 0. -/
theorem Ful.rec1 (h : Ful w0 w p cb lv v A C (a + 1) (b + 1) k j n) {o : Ob} (ho : o.owner = (0 : Nat)) (pt : Parts w1 p v1 (A.add o)) (cg : Chg (foot p v) w w1) (fb : ∀ b ∈ foot p v1, b ∈ foot p v ∨ w.heap.size ≤ b) : Ful w0 w1 p cb lv v1 (A.add o) C a b k j n := by
  obtain ⟨D, hD, hC⟩ := h.ow
  have hcl := hD.lt
  have z := h.bel.size
  have nf : ∀ b, b < w.heap.size → b ∉ foot p v → b ∉ foot p v1 := fun b hb hn hx => by
    rcases fb b hx with h1 | h1
    · exact hn h1
    · omega
  refine ⟨pt, h.rm.add o, h.q0.add o ho, h.q1, ?_, ⟨D, map_chg hD cg h.cn, hC⟩, fun m r q hc => ?_, h.ls.chg cg (fun b hb => (h.lb b hb).1), fun b hb => ⟨nf b (h.lb b hb).2.2 (h.lb b hb).1, (h.lb b hb).2.1, Nat.lt_of_lt_of_le (h.lb b hb).2.2 cg.size⟩, nf cb hcl h.cn, fun b hb => ?_, h.cl, Below.trans h.bel (cg.below z h.fo)⟩
  · show (A.many.set o.owner.toNat (A.many.getD o.owner.toNat 0 + 1))[1]? = _
    rw [show o.owner.toNat = 0 by rw [ho]; rfl, List.getElem?_set_ne (by decide)]
    exact h.m1
  · obtain ⟨x, hx⟩ := h.cf m r q hc
    exact ⟨x, find_add_old h.rm o hx⟩
  · rcases fb b hb with h1 | h1
    · exact h.fo b h1
    · omega
/-- A proxy more, of owner 1. -/
theorem Ful.prox (h : Ful w0 w p cb lv v A C (a + 1) b k j n) {m : Int} {r : Nat} {o ob : Ob} {D' : DataW Nat} (hr : A.find r = some o) (ho : ob.owner = (1 : Nat)) (pt : Parts w1 p v1 (A.add ob)) (cg : Chg (cb :: foot p v) w w1) (fb : ∀ b ∈ foot p v1, b ∈ foot p v ∨ w.heap.size ≤ b)
    (ow : w1.ownsMap Tryz.prog 113 R1 cb (n + 1) D') (hC : CacheIs D' (C.put m r A.name)) (hcn : cb ∉ foot p v1) : Ful w0 w1 p cb lv v1 (A.add ob) (C.put m r A.name) a b k (j + 1) (n + 1) := by
  have z := h.bel.size
  have nf : ∀ b, b < w.heap.size → b ∉ foot p v → b ∉ foot p v1 := fun b hb hn hx => by
    rcases fb b hx with h1 | h1
    · exact hn h1
    · omega
  refine ⟨pt, h.rm.add ob, h.q0.other ob ho (by decide), h.q1, ?_, ⟨D', ow, hC⟩, fun m' r' q hc => ?_, h.ls.chg cg (fun b hb hx => ?_), fun b hb => ⟨nf b (h.lb b hb).2.2 (h.lb b hb).1, (h.lb b hb).2.1, Nat.lt_of_lt_of_le (h.lb b hb).2.2 cg.size⟩, hcn, fun b hb => ?_, h.cl, Below.trans h.bel (cg.below z (fun b hb => ?_))⟩
  · show (A.many.set ob.owner.toNat (A.many.getD ob.owner.toNat 0 + 1))[1]? = _
    have e : ob.owner.toNat = 1 := by rw [ho]; rfl
    rw [e, List.getElem?_set_self (List.getElem?_eq_some_iff.1 h.m1).1, List.getD_eq_getElem?_getD, h.m1]
    rfl
  · unfold Ca.put at hc
    split at hc
    · rename_i e
      exact ⟨o, by rw [e.2]; exact find_add_old h.rm ob hr⟩
    · obtain ⟨x, hx⟩ := h.cf m' r' q hc
      exact ⟨x, find_add_old h.rm ob hx⟩
  · rcases List.mem_cons.1 hx with h1 | h1
    · exact (h.lb b hb).2.1 h1
    · exact (h.lb b hb).1 h1
  · rcases fb b hb with h1 | h1
    · exact h.fo b h1
    · omega
  · rcases List.mem_cons.1 hb with h1 | h1
    · rw [h1]; exact h.cl
    · exact h.fo b h1
end
end Go.Proofs.YtmmfpkkkpeapeaaGreatDoor.mb

/- WrapFull: what a round's calls give. -/
set_option linter.unusedVariables false
namespace Go.Proofs.YtmmfpkkkpeapeaaGreatDoor.mb
open Go.RowKit Go.Maps mem rec ar
set_option maxHeartbeats 400000
theorem wp_ne {d : Option Nat} {ty : TypeId} {pos : String} {after : Array Edge} {g : Option (Nat × Bool)} {x y : Operand} {a : Act} {w : World} {K : Act → World → Prop} {Q : Exit → Act → World → Prop} {v u : Value} (p q : V3) (hx : a.eval x = v) (hy : a.eval y = u) (hv : v = val p) (hu : u = val q) (b : Bool) (hb : decide (p ≠ q) = b) (h : K (a.put d (.bool b)) w) :
    Oper.wp Tryz.prog ⟨d, .binOp .neq 51 x y 51, ty, pos, after, g⟩ a w K Q := by
  subst hv hu
  have N : (binOp .neq 51 (val p) (val q)).run Tryz.prog w = .ok (.bool b) w := by rw [ne_val, hb]
  unfold Oper.wp
  simp [execOp, hx, hy, N, neguard_val, Result.andThen]
  exact h
theorem wpl_ne {ops : Array Oper} {rest : List Oper} {d : Option Nat} {ty : TypeId} {pos : String} {after : Array Edge} {g : Option (Nat × Bool)} {x y : Operand} {a : Act} {w : World} {Q : Exit → Act → World → Prop} (p q : V3) (hw : Region.wanted ⟨d, .binOp .neq 51 x y 51, ty, pos, after, g⟩ (yielded ops a.tmps) = true) (hx : a.eval x = val p) (hy : a.eval y = val q) (b : Bool) (hb : decide (p ≠ q) = b) (h : wpList Tryz.prog ops Q rest (a.put d (.bool b)) w) :
    wpList Tryz.prog ops Q (⟨d, .binOp .neq 51 x y 51, ty, pos, after, g⟩ :: rest) a w :=
  wpList_step fun K hK => by rw [if_pos hw]; exact wp_ne p q hx hy rfl rfl b hb (hK _ _ h)
def L1 : List Mb := [(0, 1, false)]
theorem l1_other : otherR L1 0 1 = some 0 := rfl
theorem l1_back : otherR L1 0 0 = some 1 := rfl
theorem l1_dead : deadR L1 0 = false := rfl
section
variable {w0 w w1 : World} {p cb a b k j n r bm : Nat} {lv : Value} {v v1 : Nat → Value} {A : Ar} {C : Ca}
theorem Ful.cputs (F : Ful w0 w p cb lv v A C (a + 1) (b + 1) k j n) (wx : World) (bm : Nat) (hx : Up w wx) :
    Calls Tryz.prog 27 #[.pointer (some ⟨p, 0, none⟩), .agg (recOb 0 bm).cells.toArray] wx fun e w' => ∃ v', e = .returned (.tuple #[.int .u64 A.name, .int .i64 0]) ∧ Ful w0 w' p cb lv v' (A.add (recOb 0 bm)) C a b k j n ∧ Chg (cb :: foot p v) w w' ∧ ∀ b ∈ foot p v', b ∈ foot p v ∨ w.heap.size ≤ b := by
  have F1 := F.up hx
  refine (put_k wx p v A (recOb 0 bm) F1.pt 0 b a rfl F1.rm F1.q0).mono ?_
  rintro e w' ⟨v', rfl, h1, h2, h3⟩
  refine ⟨v', rfl, F1.rec1 rfl h1 h2 h3, (hx.chg.mono (by simp)).trans h2 (fun x hx => .inl (List.mem_cons_of_mem _ hx)), fun b hb => ?_⟩
  rcases h3 b hb with h4 | h4
  · exact .inl h4
  · exact .inr (Nat.le_trans hx.size h4)
theorem Ful.cnew (F : Ful w0 w p cb lv v A C (a + 1) b k j n) (hf : A.find r = some (recOb 0 bm)) (hc : C 0 r = none) (hjk : j < k) (hk : k ≤ 20) (hn : n ≤ 60) (wx : World) (hx : Up w wx) :
    Calls Tryz.prog 9 #[lv, .pointer (some ⟨p, 0, none⟩), .map (some cb), .int .i64 0, .int .i64 1, val (5, (r : Int), ⟨#[]⟩)] wx fun e w' => ∃ v', e = .returned (.tuple #[val (5, (A.name : Int), ⟨#[]⟩), .int .i64 0]) ∧ Ful w0 w' p cb lv v' (A.add (proxyOb 1 0 r 1)) (C.put 0 r A.name) a b k (j + 1) (n + 1) ∧ Chg (cb :: foot p v) w w' ∧ ∀ b ∈ foot p v', b ∈ foot p v ∨ w.heap.size ≤ b := by
  have F1 := F.up hx
  obtain ⟨D, hD, hC⟩ := F1.ow
  refine (pass_new wx lv p cb 0 1 L1 r 0 1 (k - j - 1) a v A (find_lt F1.rm hf) F1.pt F1.ls F1.pt.hd.lt l1_other l1_dead (recOb 0 bm) hf n D C hD hC rfl rfl (by rintro ⟨h, -⟩; exact absurd h (by show ¬ (0 : Int) = 6; decide)) hc ⟨Int.le_refl 0, by show (0 : Int) < 6; decide⟩ rfl F1.rm (F1.quo hjk hk) (by unfold maxLen; omega) F1.cn).mono ?_
  rintro e w' ⟨v', D', rfl, h1, h2, h3, h4, h5, h6⟩
  refine ⟨v', rfl, F1.prox hf rfl h1 h2 h3 h4 h5 h6, (hx.chg.mono (by simp)).trans h2 (fun x hx => .inl hx), fun b hb => ?_⟩
  rcases h3 b hb with h4 | h4
  · exact .inl h4
  · exact .inr (Nat.le_trans hx.size h4)
theorem Ful.chit (F : Ful w0 w p cb lv v A C a b k j n) (hf : A.find r = some (recOb 0 bm)) {q : Nat} (hc : C 0 r = some q) (hq : q < 9223372036854775808) (wx : World) (hx : Up w wx) :
    Calls Tryz.prog 9 #[lv, .pointer (some ⟨p, 0, none⟩), .map (some cb), .int .i64 0, .int .i64 1, val (5, (r : Int), ⟨#[]⟩)] wx fun e w' => e = .returned (.tuple #[val (5, (q : Int), ⟨#[]⟩), .int .i64 0]) ∧ Up wx w' := by
  have F1 := F.up hx
  obtain ⟨D, hD, hC⟩ := F1.ow
  exact pass_hit wx lv p cb 0 1 L1 r 0 v A (find_lt F1.rm hf) F1.pt F1.ls F1.pt.hd.lt l1_other l1_dead (recOb 0 bm) hf n D C hD hC rfl rfl (by rintro ⟨h, -⟩; exact absurd h (by show ¬ (0 : Int) = 6; decide)) q hq hc trivial
theorem Ful.cfull (F : Ful w0 w p cb lv v A C a b k j n) (hf : A.find r = some (recOb 0 bm)) (hc : C 0 r = none) (hjk : j = k) (wx : World) (hx : Up w wx) :
    Calls Tryz.prog 9 #[lv, .pointer (some ⟨p, 0, none⟩), .map (some cb), .int .i64 0, .int .i64 1, val (5, (r : Int), ⟨#[]⟩)] wx fun e w' => e = .returned (.tuple #[val zero3, .int .i64 8]) ∧ Up wx w' := by
  have F1 := F.up hx
  obtain ⟨D, hD, hC⟩ := F1.ow
  subst hjk
  exact pass_full wx lv p cb 0 1 L1 r 0 j j 1 v A (find_lt F1.rm hf) F1.pt F1.ls F1.pt.hd.lt l1_other l1_dead (recOb 0 bm) hf n D C hD hC rfl rfl (by rintro ⟨h, -⟩; exact absurd h (by show ¬ (0 : Int) = 6; decide)) hc ⟨Int.le_refl 0, by show (0 : Int) < 6; decide⟩ rfl F1.q1 F1.m1 (Int.le_refl _)
/-- The variable 'first'. -/
def Fst (w : World) (fb cb p : Nat) (v : Nat → Value) (A : Ar) (t k : Nat) : Prop :=
  fb ∉ cb :: foot p v ∧ ∃ x : V3, Has3 w fb (.int .u8 x.1) (.int .i64 x.2.1) (.string x.2.2) ∧ (0 < t → 0 < k → ∃ f r0 : Nat, x = (5, (f : Int), ⟨#[]⟩) ∧ r0 < 9223372036854775808 ∧ A.find f = some (proxyOb 1 0 r0 1))
theorem Fst.chg {fb t : Nat} {A1 : Ar} (h : Fst w fb cb p v A t k) (c : Chg (cb :: foot p v) w w1) (fo : ∀ b ∈ foot p v1, b ∈ foot p v ∨ w.heap.size ≤ b) (ho : Old A A1) : Fst w1 fb cb p v1 A1 t k := by
  obtain ⟨h1, x, h2, h3⟩ := h
  have hlt := h2.1
  refine ⟨fun hx => ?_, x, has3_chg h2 c h1, fun a b => ?_⟩
  · rcases List.mem_cons.1 hx with h4 | h4
    · exact h1 (by rw [h4]; exact List.mem_cons_self ..)
    · rcases fo fb h4 with h5 | h5
      · exact h1 (List.mem_cons_of_mem _ h5)
      · omega
  · obtain ⟨f, r0, e1, e2, e3⟩ := h3 a b
    exact ⟨f, r0, e1, e2, ho _ _ e3⟩
theorem Fst.up {fb t : Nat} (h : Fst w fb cb p v A t k) (u : Up w w1) : Fst w1 fb cb p v A t k := h.chg (u.chg.mono (by simp)) (fun b hb => .inl hb) (Old.refl A)
theorem Ful.fchg {fb : Nat} (h : Ful w0 w p cb lv v A C a b k j n) (c : Chg [fb] w w1) (h1 : fb ∉ cb :: foot p v) (h2 : lv.ownBlock ≠ some fb) (h3 : w0.heap.size ≤ fb) : Ful w0 w1 p cb lv v A C a b k j n := by
  have e : ∀ b ∈ cb :: foot p v, b ∉ [fb] := fun b hb hx => h1 (by rw [← List.mem_singleton.1 hx]; exact hb)
  exact ⟨h.pt.chg c (fun b hb => e b (List.mem_cons_of_mem _ hb)), h.rm, h.q0, h.q1, h.m1, by obtain ⟨D, g1, g2⟩ := h.ow; exact ⟨D, map_chg g1 c (e cb (List.mem_cons_self ..)), g2⟩, h.cf, h.ls.chg c (fun b hb hx => h2 (by rw [hb, List.mem_singleton.1 hx])), fun b hb => ⟨(h.lb b hb).1, (h.lb b hb).2.1, Nat.lt_of_lt_of_le (h.lb b hb).2.2 c.size⟩, h.cn, h.fo, h.cl, Below.trans h.bel (c.below h.bel.size (fun b hb => by rw [List.mem_singleton.1 hb]; exact h3))⟩
theorem Ful.fewer (h : Ful w0 w p cb lv v A C (a + 1) b k j n) : Ful w0 w p cb lv v A C a b k j n :=
  ⟨h.pt, sb.Room.mono h.rm (by omega), h.q0, h.q1, h.m1, h.ow, h.cf, h.ls, h.lb, h.cn, h.fo, h.cl, h.bel⟩
theorem Fst.set {fb t : Nat} (h : Fst w fb cb p v A t k) (x : V3) (hx : 0 < k → ∃ f r0 : Nat, x = (5, (f : Int), ⟨#[]⟩) ∧ r0 < 9223372036854775808 ∧ A.find f = some (proxyOb 1 0 r0 1)) (s : Nat) :
    Fst (((w.setCell ⟨fb, 0, none⟩ (.int .u8 x.1)).setCell ⟨fb, 1, none⟩ (.int .i64 x.2.1)).setCell ⟨fb, 2, none⟩ (.string x.2.2)) fb cb p v A s k := by
  obtain ⟨h1, y, h2, h3⟩ := h
  exact ⟨h1, x, h2.store _ _ _, fun _ hk => hx hk⟩
theorem Fst.more {fb t s : Nat} (h : Fst w fb cb p v A t k) (ht : 0 < t) : Fst w fb cb p v A s k := by
  obtain ⟨h1, y, h2, h3⟩ := h
  exact ⟨h1, y, h2, fun _ hk => h3 ht hk⟩
theorem set3_chg (w : World) (fb : Nat) (a b c : Value) : Chg [fb] w (((w.setCell ⟨fb, 0, none⟩ a).setCell ⟨fb, 1, none⟩ b).setCell ⟨fb, 2, none⟩ c) :=
  (((Chg.refl [fb] w).setCell (p := ⟨fb, 0, none⟩) (.inl (by simp)) _).setCell (p := ⟨fb, 1, none⟩) (.inl (by simp)) _).setCell (p := ⟨fb, 2, none⟩) (.inl (by simp)) _
end
theorem full_start (w w0 w1 w2 : World) (k : Nat) (v1 v2 : Nat → Value) (hb0 : Below w.heap.size w w0) (pt2 : Parts w2 w0.heap.size v2 ⟨[], [], [60, (k : Int)], [0, 0]⟩)
    (hC1 : Chg (foot w0.heap.size (fun _ => Value.slice none 0 0)) ((w0.alloc (.cells #[.slice none 0 0, .slice none 0 0, .slice none 0 0, .slice none 0 0] 120)).alloc (.map #[] 0)) w1)
    (hF1 : ∀ b ∈ foot w0.heap.size v1, b ∈ foot w0.heap.size (fun _ => Value.slice none 0 0) ∨ ((w0.alloc (.cells #[.slice none 0 0, .slice none 0 0, .slice none 0 0, .slice none 0 0] 120)).alloc (.map #[] 0)).heap.size ≤ b)
    (hC2 : Chg (foot w0.heap.size v1) w1 w2) (hF2 : ∀ b ∈ foot w0.heap.size v2, b ∈ foot w0.heap.size v1 ∨ w1.heap.size ≤ b) :
    Ful w ((w2.alloc (.cells #[.int .i64 0, .int .i64 1, .bool false] 48)).alloc (.cells #[.int .u8 0, .int .i64 0, .string ⟨#[]⟩] 51)) w0.heap.size (w0.heap.size + 1) (.slice (some ⟨w2.heap.size, 0, none⟩) 1 1) v2 ⟨[], [], [60, (k : Int)], [0, 0]⟩ (fun _ _ => none) 200 60 k 0 0 ∧
    Fst ((w2.alloc (.cells #[.int .i64 0, .int .i64 1, .bool false] 48)).alloc (.cells #[.int .u8 0, .int .i64 0, .string ⟨#[]⟩] 51)) (w2.heap.size + 1) (w0.heap.size + 1) w0.heap.size v2 ⟨[], [], [60, (k : Int)], [0, 0]⟩ 0 k := by
  have h0 := hb0.size
  have z1 := hC1.size
  have z2 := hC2.size
  have own1 : ((w0.alloc (.cells #[.slice none 0 0, .slice none 0 0, .slice none 0 0, .slice none 0 0] 120)).alloc (.map #[] 0)).ownsMap Tryz.prog 113 R1 (w0.alloc (.cells #[.slice none 0 0, .slice none 0 0, .slice none 0 0, .slice none 0 0] 120)).heap.size 0 (.map []) := World.ownsMap_made (H := Nat) _ Tryz.prog 113 R1
  rw [World.size_alloc] at own1
  have z : ((w0.alloc (.cells #[.slice none 0 0, .slice none 0 0, .slice none 0 0, .slice none 0 0] 120)).alloc (.map #[] 0)).heap.size = w0.heap.size + 1 + 1 := by simp
  rw [z] at z1 hF1
  have nf : ∀ b, b ∈ foot w0.heap.size (fun _ => Value.slice none 0 0) → b = w0.heap.size := fun b hb => by
    rcases mem_foot.1 hb with h | ⟨i, hi, h⟩
    · exact h
    · simp [Value.ownBlock] at h
  have n1 : ∀ b ∈ foot w0.heap.size v1, b = w0.heap.size ∨ w0.heap.size + 1 + 1 ≤ b := fun b hb => (hF1 b hb).imp (nf b) id
  have n2 : ∀ b ∈ foot w0.heap.size v2, b = w0.heap.size ∨ w0.heap.size + 1 + 1 ≤ b := fun b hb => by
    rcases hF2 b hb with h | h
    · exact n1 b h
    · exact .inr (by omega)
  have U : Up w2 ((w2.alloc (.cells #[.int .i64 0, .int .i64 1, .bool false] 48)).alloc (.cells #[.int .u8 0, .int .i64 0, .string ⟨#[]⟩] 51)) := ((Up.refl _).alloc _).alloc _
  have sz : ((w2.alloc (.cells #[.int .i64 0, .int .i64 1, .bool false] 48)).alloc (.cells #[.int .u8 0, .int .i64 0, .string ⟨#[]⟩] 51)).heap.size = w2.heap.size + 1 + 1 := by simp
  have cn : w0.heap.size + 1 ∉ foot w0.heap.size v2 := fun hx => by have := n2 _ hx; omega
  refine ⟨⟨pt2.up U, ⟨by show 0 + 200 < 1000000; decide, fun s hs => (by cases hs), fun n hn => (by cases hn), List.nodup_nil, by show 0 + 200 < 1000000; decide⟩, ⟨60, 0, rfl, rfl, by decide, by decide, by decide⟩, rfl, rfl, ⟨.map [], owns_up (map_chg (map_chg own1 hC1 (fun hx => by have := nf _ hx; omega)) hC2 (fun hx => by have := n1 _ hx; omega)) U, CacheIs.nil⟩, fun m r q h => (by cases h), ⟨w2.heap.size, 1, rfl, by omega, fun i m hi j v hj => ?_⟩, fun b hb => ?_, cn, fun b hb => by have := n2 b hb; omega, by omega, ?_⟩, ⟨fun hx => ?_, zero3, has3_alloc2 w2 _ _ _ _ _, fun h => absurd h (by decide)⟩⟩
  · cases i with
    | succ i => simp at hi
    | zero =>
      simp at hi
      subst hi
      have e := heap_alloc_new w2 (.cells #[.int .i64 0, .int .i64 1, .bool false] 48)
      have e2 := cell_of_row _ w2.heap.size j _ _ _ e
      refine (up_cell ((Up.refl (w2.alloc (.cells #[.int .i64 0, .int .i64 1, .bool false] 48))).alloc _) (show _ = some v from ?_))
      rw [Nat.zero_mul, Nat.zero_add, e2]
      simpa [cellsM] using hj
  · cases hb
    exact ⟨fun hx => by have h1 : w2.heap.size < w2.heap.size := pt2.lt _ hx; omega, by show w2.heap.size ≠ _; omega, by show w2.heap.size < _; omega⟩
  · refine Below.trans (Below.trans (Below.trans hb0 (?_ : Below w.heap.size w0 w1)) (hC2.below (by omega) (fun b hb => by have := n1 b hb; omega))) (Below.mono U (by omega))
    exact Below.trans (Below.mono (((Up.refl w0).alloc _).alloc _) h0) (hC1.below (by rw [z]; omega) (fun b hb => by have := nf b hb; omega))
  · rcases List.mem_cons.1 hx with h | h
    · omega
    · have := pt2.lt _ h; omega
end Go.Proofs.YtmmfpkkkpeapeaaGreatDoor.mb

/- WrapBack: what holds before a round: plain laws of memory. -/
set_option linter.unusedVariables false
namespace Go.Proofs.YtmmfpkkkpeapeaaGreatDoor.mb
open Go.RowKit Go.Maps mem rec ar
set_option maxHeartbeats 400000
def cellsP (x : Int × Int) : List Value := [.int .i64 x.1, .int .i64 x.2]
theorem flat2_get : ∀ (l : List (Int × Int)) (n j : Nat) (s : Int × Int), l[n]? = some s → j < 2 → (l.flatMap cellsP)[n * 2 + j]? = (cellsP s)[j]?
  | [], n, j, s, h, _ => by simp at h
  | a :: l, 0, j, s, h, hj => by
    simp at h; subst h
    rw [List.flatMap_cons, List.getElem?_append_left (by show _ < 2; omega)]; simp
  | a :: l, n + 1, j, s, h, hj => by
    simp at h
    rw [List.flatMap_cons, List.getElem?_append_right (by show 2 ≤ _; omega), show (cellsP a).length = 2 from rfl, show (n + 1) * 2 + j - 2 = n * 2 + j by omega]
    exact flat2_get l n j s h hj
/-- Before a round of the way: where it is (r, of owner a), the way so far; the blocks of the variables start and v. -/
structure Bst (w0 w : World) (q p cb : Nat) (vr v : Nat → Value) (A : Ar) (C : Ca) (L : List Mb) (k : Nat) (d : Int) (vb : Value) (bk : List (Int × Int)) (s9 s10 r0 r : Nat) (a : Int) : Prop where
  st : St w0 w q p cb vr v A C L k d
  row : w.ownsRow 0 46 2 vb bk.length (bk.flatMap cellsP)
  nb : ∀ b, vb.ownBlock = some b → b ∉ foot q vr ∧ b ∉ cb :: foot p v ∧ b ≠ s9 ∧ b ≠ s10 ∧ w0.heap.size ≤ b
  c9 : Has3 w s9 (.int .u8 5) (.int .i64 (r0 : Int)) (.string ⟨#[]⟩)
  c10 : Has3 w s10 (.int .u8 5) (.int .i64 (r : Int)) (.string ⟨#[]⟩)
  n9 : s9 ∉ foot q vr ∧ s9 ∉ cb :: foot p v ∧ w0.heap.size ≤ s9
  n10 : s10 ∉ foot q vr ∧ s10 ∉ cb :: foot p v ∧ w0.heap.size ≤ s10
  n910 : s9 ≠ s10
  pth : Path A L r0 bk r a
  a4 : 0 ≤ a ∧ a < 4
section
variable {w0 w w1 wx W : World} {q p cb k : Nat} {vr v v1 : Nat → Value} {A A1 : Ar} {C C1 : Ca} {L : List Mb} {d : Int} {vb : Value} {bk : List (Int × Int)} {s9 s10 r0 r r' xb : Nat} {a m into : Int}
theorem Bst.up (h : Bst w0 w q p cb vr v A C L k d vb bk s9 s10 r0 r a) (u : Up w w1) : Bst w0 w1 q p cb vr v A C L k d vb bk s9 s10 r0 r a :=
  ⟨h.st.up u, owns_chg h.row u.chg (by simp), h.nb, h.c9.up u, h.c10.up u, h.n9, h.n10, h.n910, h.pth, h.a4⟩
theorem Bst.less {j : Nat} {e : Int} (h : Bst w0 w q p cb vr v A C L k d vb bk s9 s10 r0 r a) (hj : j ≤ k) (he : d ≤ e) : Bst w0 w q p cb vr v A C L j e vb bk s9 s10 r0 r a :=
  ⟨h.st.less hj he, h.row, h.nb, h.c9, h.c10, h.n9, h.n10, h.n910, h.pth, h.a4⟩
/-- Behind Pass, its value laid in block xb. -/
structure Mid16 (w0 w wx : World) (q p cb : Nat) (vr v v' : Nat → Value) (A A' : Ar) (C' : Ca) (L : List Mb) (k : Nat) (d : Int) (r r' xb : Nat) (m into : Int) : Prop where
  st : St w0 wx q p cb vr v' A' C' L k d
  xc : Has3 wx xb (.int .u8 5) (.int .i64 (r' : Int)) (.string ⟨#[]⟩)
  cg : Chg (cb :: foot p v) w wx
  fb : ∀ b ∈ foot p v', b ∈ foot p v ∨ w.heap.size ≤ b
  xn : w.heap.size ≤ xb
  fo : ∃ o', A'.find r' = some o' ∧ o'.owner = into
  lk : Lk A' m r r'
  old : Old A A'
theorem mid_of {lv : Value} {from_ : Int} {o : Ob} (h : St w0 w q p cb vr v A C L (k + 1) d) (hlv : lv = vr 0) (hL : 0 < L.length) (hd6 : d < 6) (hm : (Lit.int .i64 m).wf = true) (ho : otherR L m into = some from_) (hd : deadR L m = false) (hf : A.find r = some o) (hw : o.owner = from_) (wx : World) (u : Up w wx) :
    Calls Tryz.prog 9 #[lv, .pointer (some ⟨p, 0, none⟩), .map (some cb), .int .i64 m, .int .i64 into, val (5, (r : Int), ⟨#[]⟩)] wx fun e w' => ∃ (r' : Nat) (v' : Nat → Value) (A' : Ar) (C' : Ca), e = .returned (.tuple #[val (5, (r' : Int), ⟨#[]⟩), .int .i64 0]) ∧
      (∀ ty, Mid16 w0 w (w'.alloc (.cells #[.int .u8 5, .int .i64 (r' : Int), .string ⟨#[]⟩] ty)) q p cb vr v v' A A' C' L k (d + 1) r r' w'.heap.size m into) ∧
      (∀ (xb : Nat) (c0 c1 c2 : Value), w.heap.size ≤ xb → Has3 wx xb c0 c1 c2 → Has3 w' xb c0 c1 c2 ∧ Mid16 w0 w (((w'.setCell ⟨xb, 0, none⟩ (.int .u8 5)).setCell ⟨xb, 1, none⟩ (.int .i64 (r' : Int))).setCell ⟨xb, 2, none⟩ (.string ⟨#[]⟩)) q p cb vr v v' A A' C' L k (d + 1) r r' xb m into) ∧
      Chg (cb :: foot p v) w w' := by
  obtain ⟨⟨i0, i4⟩, -⟩ := h.side ho
  obtain ⟨nn, hnn⟩ : ∃ nn : Nat, into = (nn : Int) := ⟨into.toNat, by omega⟩
  have H := h.up u
  refine (pass_fwd H.wr hd6 (by rw [hlv]; exact H.list hL) hm ho hd hf hw hnn (by omega)).mono ?_
  rintro e w' ⟨r', o', v', A', C', rfl, h1, h2, h3, h4, h5, h6, h7⟩
  have S1 : St w0 w' q p cb vr v' A' C' L k (d + 1) := h.pass u h1 h2 h3
  have C1 : Chg (cb :: foot p v) w w' := (u.chg.mono (by simp)).trans h2 (fun x hx => .inl hx)
  have F1 : ∀ b ∈ foot p v', b ∈ foot p v ∨ w.heap.size ≤ b := fun b hb => (h3 b hb).imp id (fun e => Nat.le_trans u.size e)
  refine ⟨r', v', A', C', rfl, fun ty => ?_, fun xb c0 c1 c2 hxb hz => ?_, C1⟩
  · exact ⟨S1.up ((Up.refl w').alloc _), has3_alloc w' _ _ _ ty, C1.alloc _, F1, C1.size, ⟨o', h4, h5⟩, h6, h7⟩
  · have hxw := hz.1
    have nx : xb ∉ cb :: foot p v := fun hx => by have := h.wr.lt xb hx; omega
    have hz' := has3_chg hz h2 nx
    have CS := set3_chg w' xb (.int .u8 5) (.int .i64 (r' : Int)) (.string ⟨#[]⟩)
    refine ⟨hz', S1.chg CS (fun b hb => ?_) (fun b hb hx => ?_) (fun b hb hx => ?_), hz'.store _ _ _, C1.trans CS (fun x hx => .inr (by rw [List.mem_singleton.1 hx]; exact hxb)), F1, hxb, ⟨o', h4, h5⟩, h6, h7⟩
    · rw [List.mem_singleton.1 hb]; exact Nat.le_trans h.bel.size hxb
    · have := h.rw_.lt b hb; rw [List.mem_singleton.1 hx] at this; omega
    · rw [List.mem_singleton.1 hx] at hb
      rcases List.mem_cons.1 hb with h8 | h8
      · exact nx (by rw [h8]; exact List.mem_cons_self ..)
      · rcases h3 xb h8 with h9 | h9
        · exact nx (List.mem_cons_of_mem _ h9)
        · omega
/-- What the loads want. -/
def HeldW (q p cb : Nat) (lv : Value) (s : Nat) (r : Int) (w : World) : Prop :=
  w.cell? ⟨q, 2, none⟩ = some lv ∧ w.cell? ⟨q, 0, none⟩ = some (.pointer (some ⟨p, 0, none⟩)) ∧ w.cell? ⟨q, 1, none⟩ = some (.map (some cb)) ∧ w.cell? ⟨s, 0, none⟩ = some (.int .u8 5) ∧ w.cell? ⟨s, 1, none⟩ = some (.int .i64 r) ∧ w.cell? ⟨s, 2, none⟩ = some (.string ⟨#[]⟩)
theorem heldW (h : St w0 w q p cb vr v A C L k d) {s : Nat} (h3 : Has3 w s (.int .u8 5) (.int .i64 (r : Int)) (.string ⟨#[]⟩)) : HeldW q p cb (vr 0) s r w :=
  ⟨h.rw_.hd.cell 2, h.rw_.hd.cell 0, h.rw_.hd.cell 1, h3.2.1.1, h3.2.1.2.1, h3.2.1.2.2⟩
theorem HeldW.up {lv : Value} {s : Nat} {r : Int} (h : HeldW q p cb lv s r w) (u : Up w w1) : HeldW q p cb lv s r w1 :=
  ⟨up_cell u h.1, up_cell u h.2.1, up_cell u h.2.2.1, up_cell u h.2.2.2.1, up_cell u h.2.2.2.2.1, up_cell u h.2.2.2.2.2⟩
theorem HeldW.chg {F : List Nat} {lv : Value} {s : Nat} {r : Int} (h : HeldW q p cb lv s r w) (c : Chg F w w1) (hq : q < w.heap.size) (hs : s < w.heap.size) (nq : q ∉ F) (ns : s ∉ F) : HeldW q p cb lv s r w1 :=
  ⟨(c.cell hq nq).trans h.1, (c.cell hq nq).trans h.2.1, (c.cell hq nq).trans h.2.2.1, (c.cell hs ns).trans h.2.2.2.1, (c.cell hs ns).trans h.2.2.2.2.1, (c.cell hs ns).trans h.2.2.2.2.2⟩
/-- A round more. -/
theorem Bst.next {o1 : Obj} {g c H n1 : Nat} {w5 : World} (h : Bst w0 w q p cb vr v A C L (k + 1) d vb bk s9 s10 r0 r a) (M : Mid16 w0 w wx q p cb vr v v1 A A1 C1 L k (d + 1) r r' xb m into) (u : Up wx W) (ho : otherR L m into = some a) (hd : deadR L m = false) (hm : (Lit.int .i64 m).wf = true)
    (hrow : w5.ownsRow 0 46 2 (.slice (some ⟨g, 0, none⟩) n1 c) n1 (bk.flatMap cellsP ++ [.int .i64 m, .int .i64 a])) (hn1 : n1 = bk.length + 1) (hg : (W.alloc o1).grownBy w5 vb.ownBlock) (at_ : vb.ownBlock = some g ∨ g = H) (hH : (W.alloc o1).heap.size = H) :
    Bst w0 (((w5.setCell ⟨s10, 0, none⟩ (.int .u8 5)).setCell ⟨s10, 1, none⟩ (.int .i64 (r' : Int))).setCell ⟨s10, 2, none⟩ (.string ⟨#[]⟩)) q p cb vr v1 A1 C1 L k (d + 1) (.slice (some ⟨g, 0, none⟩) n1 c) (bk ++ [(m, a)]) s9 s10 r0 r' into := by
  subst hn1 hH
  have z0 := h.st.bel.size
  have z1 := M.cg.size
  have zu := u.size
  have z5 := hg.size
  rw [World.size_alloc] at z5 at_
  have lb : ∀ b, vb.ownBlock = some b → b < w.heap.size := fun b hb => (h.row.lt b hb).2
  have l9 := h.c9.1
  have l10 := h.c10.1
  have nf : ∀ b, b < w.heap.size → b ∉ cb :: foot p v → b ∉ cb :: foot p v1 := fun b hb hn hx => by
    rcases List.mem_cons.1 hx with h1 | h1
    · exact hn (by rw [h1]; exact List.mem_cons_self ..)
    · rcases M.fb b h1 with h2 | h2
      · exact hn (List.mem_cons_of_mem _ h2)
      · omega
  have CS := set3_chg w5 s10 (.int .u8 5) (.int .i64 (r' : Int)) (.string ⟨#[]⟩)
  have C5 : Chg vb.ownBlock.toList wx w5 := ((u.chg.mono (by simp)).alloc o1).grown hg (fun b hb => .inl (by simp [hb]))
  have CA : Chg (vb.ownBlock.toList ++ [s10]) wx (((w5.setCell ⟨s10, 0, none⟩ (.int .u8 5)).setCell ⟨s10, 1, none⟩ (.int .i64 (r' : Int))).setCell ⟨s10, 2, none⟩ (.string ⟨#[]⟩)) := (C5.mono (fun x hx => List.mem_append_left _ hx)).trans CS (fun x hx => .inl (List.mem_append_right _ hx))
  have CW : Chg (vb.ownBlock.toList ++ [s10] ++ (cb :: foot p v)) w (((w5.setCell ⟨s10, 0, none⟩ (.int .u8 5)).setCell ⟨s10, 1, none⟩ (.int .i64 (r' : Int))).setCell ⟨s10, 2, none⟩ (.string ⟨#[]⟩)) := (M.cg.mono (fun x hx => List.mem_append_right _ hx)).trans CA (fun x hx => .inl (List.mem_append_left _ hx))
  have inF : ∀ b ∈ vb.ownBlock.toList ++ [s10], vb.ownBlock = some b ∨ b = s10 := fun b hb => by
    rcases List.mem_append.1 hb with h1 | h1
    · exact .inl (by simpa using h1)
    · exact .inr (List.mem_singleton.1 h1)
  have hgs : g ≠ s10 ∧ g ≠ s9 ∧ g ∉ foot q vr ∧ g ∉ cb :: foot p v1 ∧ w0.heap.size ≤ g := by
    rcases at_ with h1 | h1
    · obtain ⟨e1, e2, e3, e4, e5⟩ := h.nb g h1
      exact ⟨e4, e3, e1, nf g (lb g h1) e2, e5⟩
    · refine ⟨by omega, by omega, fun hx => ?_, fun hx => ?_, by omega⟩
      · have := h.st.rw_.lt g hx; omega
      · have := M.st.wr.lt g hx; omega
  refine ⟨M.st.chg CA (fun b hb => ?_) (fun b hb hx => ?_) (fun b hb hx => ?_), ?_, fun b hb => ?_, ?_, ?_, ⟨h.n9.1, nf s9 l9 h.n9.2.1, h.n9.2.2⟩, ⟨h.n10.1, nf s10 l10 h.n10.2.1, h.n10.2.2⟩, h.n910, ?_, ?_⟩
  · rcases inF b hb with h1 | h1
    · exact (h.nb b h1).2.2.2.2
    · rw [h1]; exact h.n10.2.2
  · rcases inF b hx with h1 | h1
    · exact (h.nb b h1).1 hb
    · rw [h1] at hb; exact h.n10.1 hb
  · rcases inF b hx with h1 | h1
    · exact nf b (lb b h1) (h.nb b h1).2.1 hb
    · rw [h1] at hb; exact nf s10 l10 h.n10.2.1 hb
  · rw [List.length_append, List.flatMap_append]
    exact owns_chg hrow CS (fun b hb hx => by cases hb; exact hgs.1 (List.mem_singleton.1 hx))
  · cases hb
    exact ⟨hgs.2.2.1, hgs.2.2.2.1, hgs.2.1, hgs.1, hgs.2.2.2.2⟩
  · refine has3_chg h.c9 CW (fun hx => ?_)
    rcases List.mem_append.1 hx with h1 | h1
    · rcases inF s9 h1 with h2 | h2
      · exact (h.nb s9 h2).2.2.1 rfl
      · exact h.n910 h2
    · exact h.n9.2.1 h1
  · have e : Has3 w5 s10 (.int .u8 5) (.int .i64 (r : Int)) (.string ⟨#[]⟩) := has3_chg (has3_chg h.c10 M.cg h.n10.2.1) C5 (fun hx => (h.nb s10 (by simpa using hx)).2.2.2.1 rfl)
    exact e.store _ _ _
  · obtain ⟨o', f1, f2⟩ := M.fo
    exact .snoc o' (h.pth.old M.old) ho hd hm f1 f2 M.lk
  · exact (h.st.side ho).1
theorem Bst.start {bs : List Nat} {i b : Nat} (h : St w0 w q p cb vr v (mk4 bs) none2 L k d) (hbs : bs.length = 4) (hi : i < 4) {ty : TypeId} :
    Bst w0 (((w.alloc (.cells #[.int .u8 5, .int .i64 ((4294967296 + i : Nat) : Int), .string ⟨#[]⟩] ty)).alloc (.cells #[.int .u8 5, .int .i64 ((4294967296 + i : Nat) : Int), .string ⟨#[]⟩] ty)).alloc (.cells #[.int .u8 5, .int .i64 ((4294967296 + i : Nat) : Int), .string ⟨#[]⟩] ty)) q p cb vr v (mk4 bs) none2 L k d (.slice none 0 0) [] (w.heap.size + 1) (w.heap.size + 1 + 1) (4294967296 + i) (4294967296 + i) (i : Int) := by
  have z := h.bel.size
  have e2 : ((w.alloc (.cells #[.int .u8 5, .int .i64 ((4294967296 + i : Nat) : Int), .string ⟨#[]⟩] ty)).alloc (.cells #[.int .u8 5, .int .i64 ((4294967296 + i : Nat) : Int), .string ⟨#[]⟩] ty)).heap.size = w.heap.size + 1 + 1 := by simp
  obtain ⟨b, hb⟩ : ∃ b, bs[i]? = some b := ⟨_, List.getElem?_eq_getElem (by omega)⟩
  have n0 : ∀ x, w.heap.size ≤ x → x ∉ foot q vr ∧ x ∉ cb :: foot p v ∧ w0.heap.size ≤ x := fun x hx => ⟨fun hh => by have := h.rw_.lt x hh; omega, fun hh => by have := h.wr.lt x hh; omega, by omega⟩
  refine ⟨h.up ((((Up.refl w).alloc _).alloc _).alloc _), ⟨rfl, .inl ⟨rfl, rfl⟩⟩, by simp [Value.ownBlock], (has3_alloc2 w _ _ _ _ ty).alloc _, ?_, n0 _ (by omega), n0 _ (by omega), by omega, .nil (recOb i b) (find4_at (by omega) hb), by omega⟩
  have := has3_alloc ((w.alloc (.cells #[.int .u8 5, .int .i64 ((4294967296 + i : Nat) : Int), .string ⟨#[]⟩] ty)).alloc (.cells #[.int .u8 5, .int .i64 ((4294967296 + i : Nat) : Int), .string ⟨#[]⟩] ty)) (.int .u8 5) (.int .i64 ((4294967296 + i : Nat) : Int)) (.string ⟨#[]⟩) ty
  rw [e2] at this
  exact this
end
theorem St.objs {w0 w : World} {q p cb k : Nat} {vr v : Nat → Value} {A : Ar} {C : Ca} {L : List Mb} {d : Int} (h : St w0 w q p cb vr v A C L k d) : ∃ g c, vr 1 = .slice (some ⟨g, 0, none⟩) 4 c ∧ g < w.heap.size ∧ ∀ i, i < 4 → w.cell? ⟨g, i, none⟩ = some (.int .u64 ((4294967296 + i : Nat) : Int)) := by
  have h1 : w.ownsRow 0 41 1 (vr 1) 4 (rowW L 4 1) := h.rw_.ow 1 (by omega)
  obtain ⟨g, c, hv, -, hlt⟩ := h1.form (by omega)
  refine ⟨g, c, hv, hlt, fun i hi => ?_⟩
  rw [hv] at h1
  rw [World.ownsRow.cellAt h1 i (by omega)]
  have e : rowW L 4 1 = (List.range 4).map (fun i : Nat => Value.int .u64 (4294967296 + (i : Int))) := rfl
  rw [e, List.getElem?_map, List.getElem?_range hi, Int.natCast_add]
  rfl
theorem dead_side (ps : Nat → Int × Int) (n m : Nat) (h : m < n) : deadR ((List.range n).map fun i => sideOf (ps i)) m = false := by
  unfold deadR mbAt
  rw [if_pos (by omega), Int.toNat_natCast, List.getElem?_map, List.getElem?_range h]
  rfl
theorem wpl_eq {ops : Array Oper} {rest : List Oper} {d : Option Nat} {ty : TypeId} {pos : String} {after : Array Edge} {g : Option (Nat × Bool)} {x y : Operand} {a : Act} {w : World} {Q : Exit → Act → World → Prop} (p q : V3) (hw : Region.wanted ⟨d, .binOp .eql 51 x y 51, ty, pos, after, g⟩ (yielded ops a.tmps) = true) (hx : a.eval x = val p) (hy : a.eval y = val q) (b : Bool) (hb : decide (p = q) = b) (h : wpList Tryz.prog ops Q rest (a.put d (.bool b)) w) :
    wpList Tryz.prog ops Q (⟨d, .binOp .eql 51 x y 51, ty, pos, after, g⟩ :: rest) a w :=
  wpList_step fun K hK => by
    rw [if_pos hw]
    have N : (binOp .eql 51 (val p) (val q)).run Tryz.prog w = .ok (.bool b) w := by rw [eq_val, hb]
    have H := hK _ _ h
    unfold Oper.wp
    simp [execOp, hx, hy, N, guard_val, Result.andThen]
    exact H
/-- What the loads of the way back want. -/
theorem heldR {w : World} {gb gc : Nat} {bk : List (Int × Int)} (h : w.ownsRow 0 46 2 (.slice (some ⟨gb, 0, none⟩) bk.length gc) bk.length (bk.flatMap cellsP)) {j : Nat} {x : Int × Int} (hx : bk[j]? = some x) : w.cell? ⟨gb, j * 2, none⟩ = some (.int .i64 x.1) ∧ w.cell? ⟨gb, j * 2 + 1, none⟩ = some (.int .i64 x.2) := by
  have hj := (List.getElem?_eq_some_iff.1 hx).1
  have e0 := flat2_get bk j 0 x hx (by decide)
  have e1 := flat2_get bk j 1 x hx (by decide)
  refine ⟨?_, ?_⟩
  · rw [World.ownsRow.cellAt h (j * 2) (by omega)]; exact e0
  · rw [World.ownsRow.cellAt h (j * 2 + 1) (by omega)]; exact e1
theorem Bst.back1 {w0 w w1 : World} {q p cb k s9 s10 r0 r : Nat} {vr v : Nat → Value} {A : Ar} {C : Ca} {L : List Mb} {d a : Int} {vb : Value} {bk : List (Int × Int)} (h : Bst w0 w q p cb vr v A C L k d vb bk s9 s10 r0 r a) (c : Chg [s10] w w1) :
    St w0 w1 q p cb vr v A C L k d ∧ w1.ownsRow 0 46 2 vb bk.length (bk.flatMap cellsP) ∧ Has3 w1 s9 (.int .u8 5) (.int .i64 (r0 : Int)) (.string ⟨#[]⟩) :=
  ⟨h.st.chg c (fun b hb => by rw [List.mem_singleton.1 hb]; exact h.n10.2.2) (fun b hb hx => h.n10.1 (by rw [← List.mem_singleton.1 hx]; exact hb)) (fun b hb hx => h.n10.2.1 (by rw [← List.mem_singleton.1 hx]; exact hb)),
    owns_chg h.row c (fun b hb hx => (h.nb b hb).2.2.2.1 (List.mem_singleton.1 hx)), has3_chg h.c9 c (fun hx => h.n910 (List.mem_singleton.1 hx))⟩
end Go.Proofs.YtmmfpkkkpeapeaaGreatDoor.mb
