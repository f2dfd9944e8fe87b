/- SealBrands: what holds before each round: plain laws of memory. -/
import Derived.Test.YtojbphnkabfkpaaGreatDoorSb
import Derived.Test.YtojbphnkabfkpaaGreatDoorPt
set_option linter.unusedVariables false
set_option linter.unusedSimpArgs false
namespace Go.Proofs.YtojbphnkabfkpaaGreatDoor.sb
open Go.RowKit Go.Maps mem rec ar
set_option maxHeartbeats 400000
def selS (l : List (Nat × Nat × Nat)) : List Value := l.map fun x => .int .u64 (x.2.1 : Nat)
def selU (l : List (Nat × Nat × Nat)) : List Value := l.map fun x => .int .u64 (x.2.2 : Nat)
/-- What holds before a round: the arena behind p, brands l, the rows of sealers and unsealers; room for k objects more of each. -/
structure Lp (w0 w : World) (p : Nat) (v : Nat → Value) (A : Ar) (ns : Nat → Nat) (l : List (Nat × Nat × Nat)) (k : Nat) (vs vu : Value) : Prop where
  pt : Parts w p v A
  rm : Room A k
  q0 : Quo A 0 k
  q1 : Quo A 1 k
  br : Brands A ns l
  fo : ∀ b ∈ foot p v, w0.heap.size ≤ b
  rs : w.ownsRow w0.heap.size 28 1 vs l.length (selS l)
  ru : w.ownsRow w0.heap.size 28 1 vu l.length (selU l)
  ns_ : ∀ b, vs.ownBlock = some b → b ∉ foot p v
  nu : ∀ b, vu.ownBlock = some b → b ∉ foot p v
  ap : vs.ownBlock = none ∨ vs.ownBlock ≠ vu.ownBlock
  bel : Up w0 w
theorem Lp.up {w0 w w' : World} {p k : Nat} {v : Nat → Value} {A : Ar} {ns : Nat → Nat} {l : List (Nat × Nat × Nat)} {vs vu : Value} (h : Lp w0 w p v A ns l k vs vu) (u : Up w w') : Lp w0 w' p v A ns l k vs vu :=
  ⟨h.pt.up u, h.rm, h.q0, h.q1, h.br, h.fo, owns_chg h.rs u.chg (by simp), owns_chg h.ru u.chg (by simp), h.ns_, h.nu, h.ap, h.bel.trans u⟩
theorem Lp.start {w0 w : World} {p k : Nat} {v : Nat → Value} {A : Ar} (ns : Nat → Nat) (pt : Parts w p v A) (rm : Room A k) (q0 : Quo A 0 k) (q1 : Quo A 1 k) (fo : ∀ b ∈ foot p v, w0.heap.size ≤ b) (bel : Up w0 w) : Lp w0 w p v A ns [] k (.slice none 0 0) (.slice none 0 0) :=
  ⟨pt, rm, q0, q1, Brands.nil _ _, fo, ⟨rfl, .inl ⟨rfl, rfl⟩⟩, ⟨rfl, .inl ⟨rfl, rfl⟩⟩, by simp [Value.ownBlock], by simp [Value.ownBlock], .inl rfl, bel⟩
/-- One brand more. -/
theorem Lp.next {w0 wr w1 w3 w5 w6 : World} {p k n bm g1 g2 c1 c2 n1 n2 H1 H2 : Nat} {v v' : Nat → Value} {A : Ar} {ns : Nat → Nat} {l : List (Nat × Nat × Nat)} {vs vu : Value} {o1 o2 : Obj} (h : Lp w0 wr p v A ns l (k + 4) vs vu) (hn : ns l.length = n) (hn2 : n < 2)
    (pt : Parts w1 p v' (after A n bm)) (cb : Chg (foot p v) wr w1) (fb : ∀ b ∈ foot p v', b ∈ foot p v ∨ wr.heap.size ≤ b) (u3 : Up w1 w3)
    (o5 : w5.ownsRow w0.heap.size 28 1 (.slice (some ⟨g1, 0, none⟩) n1 c1) n1 (selS l ++ [.int .u64 ((triple A n).2.1 : Nat)])) (n1e : n1 = l.length + 1) (h5 : (w3.alloc o1).grownBy w5 vs.ownBlock) (at5 : vs.ownBlock = some g1 ∨ g1 = H1) (hH1 : (w3.alloc o1).heap.size = H1)
    (o6 : w6.ownsRow w0.heap.size 28 1 (.slice (some ⟨g2, 0, none⟩) n2 c2) n2 (selU l ++ [.int .u64 ((triple A n).2.2 : Nat)])) (n2e : n2 = l.length + 1) (h6 : (w5.alloc o2).grownBy w6 vu.ownBlock) (at6 : vu.ownBlock = some g2 ∨ g2 = H2) (hH2 : (w5.alloc o2).heap.size = H2) :
    Lp w0 w6 p v' (after A n bm) ns (l ++ [triple A n]) k (.slice (some ⟨g1, 0, none⟩) n1 c1) (.slice (some ⟨g2, 0, none⟩) n2 c2) := by
  subst n1e n2e hH1 hH2
  have z0 := h.bel.size
  have z1 := cb.size
  have z3 := u3.size
  have z5 := h5.size
  have z6 := h6.size
  rw [World.size_alloc] at z5 z6
  have lb1 : ∀ b, vs.ownBlock = some b → b < wr.heap.size := fun b hb => (h.rs.lt b hb).2
  have lb2 : ∀ b, vu.ownBlock = some b → b < wr.heap.size := fun b hb => (h.ru.lt b hb).2
  have lg1 : g1 < w5.heap.size := (o5.lt g1 rfl).2
  have lp' := pt.lt
  have C5 : Chg (vs.ownBlock.toList ++ vu.ownBlock.toList) w1 w5 := (((u3.chg.mono (by simp)).alloc o1).grown h5 (fun b hb => .inl (by simp [hb])))
  have C6 : Chg (vs.ownBlock.toList ++ vu.ownBlock.toList) w1 w6 := (C5.alloc o2).grown h6 (fun b hb => .inl (by simp [hb]))
  have nf : ∀ b, b < wr.heap.size → b ∉ foot p v → b ∉ foot p v' := fun b hb hn hx => by
    rcases fb b hx with h1 | h1
    · exact hn h1
    · omega
  have dis : ∀ b ∈ foot p v', b ∉ vs.ownBlock.toList ++ vu.ownBlock.toList := fun b hb hx => by
    rcases List.mem_append.1 hx with h1 | h1
    · have h2 : vs.ownBlock = some b := by simpa using h1
      exact nf b (lb1 b h2) (h.ns_ b h2) hb
    · have h2 : vu.ownBlock = some b := by simpa using h1
      exact nf b (lb2 b h2) (h.nu b h2) hb
  have r5 : vu.ownBlock ≠ some g1 := fun e => by
    rcases at5 with h1 | h1
    · rcases h.ap with h2 | h2
      · rw [h2] at h1; cases h1
      · exact h2 (h1.trans e.symm)
    · have := lb2 g1 e
      rw [World.size_alloc] at h1
      omega
  refine ⟨pt.chg C6 dis, room_after h.rm, quo_after h.q0, quo_after h.q1, h.br.next h.rm hn, fun b hb => ?_, ?_, ?_, fun b hb => ?_, fun b hb => ?_, .inr ?_, ?_⟩
  · rcases fb b hb with h1 | h1
    · exact h.fo b h1
    · omega
  · have e := (o5.alloc o2).kept h6 (.inr (fun e => r5 e.symm))
    rw [show selS (l ++ [triple A n]) = selS l ++ [.int .u64 ((triple A n).2.1 : Nat)] by simp [selS], List.length_append]
    exact e
  · rw [show selU (l ++ [triple A n]) = selU l ++ [.int .u64 ((triple A n).2.2 : Nat)] by simp [selU], List.length_append]
    exact o6
  · cases hb
    rcases at5 with h1 | h1
    · exact nf g1 (lb1 g1 h1) (h.ns_ g1 h1)
    · intro hx
      have := lp' g1 hx
      rw [World.size_alloc] at h1
      omega
  · cases hb
    rcases at6 with h1 | h1
    · exact nf g2 (lb2 g2 h1) (h.nu g2 h1)
    · intro hx
      have := lp' g2 hx
      rw [World.size_alloc] at h1
      omega
  · intro e
    have e' : g1 = g2 := by simpa [Value.ownBlock] using e
    subst e'
    rcases at6 with h1 | h1
    · exact r5 h1
    · rw [World.size_alloc] at h1
      omega
  · have C : Chg (foot p v ++ (vs.ownBlock.toList ++ vu.ownBlock.toList)) wr w6 := (cb.mono (by intro x hx; simp [hx])).trans C6 (fun x hx => .inl (by simp at hx ⊢; exact .inr hx))
    have hB : Below w0.heap.size wr w6 := C.below z0 (fun b hb => by
      rcases List.mem_append.1 hb with h1 | h1
      · exact h.fo b h1
      · rcases List.mem_append.1 h1 with h2 | h2
        · exact (h.rs.lt b (by simpa using h2)).1
        · exact (h.ru.lt b (by simpa using h2)).1)
    exact Below.trans h.bel hB
/-- One box more. -/
theorem Lp.box {w0 wr wx w1 : World} {p k n : Nat} {v v' : Nat → Value} {A : Ar} {ns : Nat → Nat} {l : List (Nat × Nat × Nat)} {vs vu : Value} {o : Ob} (h : Lp w0 wr p v A ns l (k + 1) vs vu) (hn : o.owner = (n : Int)) (hn2 : n < 2)
    (u : Up wr wx) (pt : Parts w1 p v' (A.add o)) (cb : Chg (foot p v) wx w1) (fb : ∀ b ∈ foot p v', b ∈ foot p v ∨ wx.heap.size ≤ b) : Lp w0 w1 p v' (A.add o) ns l k vs vu := by
  have z0 := h.bel.size
  have z1 := cb.size
  have zu := u.size
  have lb1 : ∀ b, vs.ownBlock = some b → b < wr.heap.size := fun b hb => (h.rs.lt b hb).2
  have lb2 : ∀ b, vu.ownBlock = some b → b < wr.heap.size := fun b hb => (h.ru.lt b hb).2
  have C : Chg (foot p v) wr w1 := (u.chg.mono (by simp)).trans cb (fun x hx => .inl hx)
  have nf : ∀ b, b < wr.heap.size → b ∉ foot p v → b ∉ foot p v' := fun b hb hn hx => by
    rcases fb b hx with h1 | h1
    · exact hn h1
    · omega
  refine ⟨pt, h.rm.add o, Quo.less h.q0 o n hn, Quo.less h.q1 o n hn, h.br.add h.rm o, fun b hb => ?_, owns_chg h.rs C (fun b hb => h.ns_ b hb), owns_chg h.ru C (fun b hb => h.nu b hb), fun b hb => nf b (lb1 b hb) (h.ns_ b hb), fun b hb => nf b (lb2 b hb) (h.nu b hb), h.ap, ?_⟩
  · rcases fb b hb with h1 | h1
    · exact h.fo b h1
    · omega
  · exact Below.trans h.bel (C.below z0 h.fo)
/-- The bare arena, as New makes it. -/
theorem start_parts (w : World) : Parts (w.alloc (.cells #[.slice none 0 0, .slice none 0 0, .slice none 0 0, .slice none 0 0] 133)) w.heap.size (fun _ => .slice none 0 0) ⟨[], [], [], []⟩ ∧ ∀ b ∈ foot w.heap.size (fun _ => Value.slice none 0 0), w.heap.size ≤ b := by
  refine ⟨⟨heap_alloc_new w _, fun i hi => ?_, fun i j b hi hj h => by simp [Value.ownBlock] at h, fun i hi => by simp [Value.ownBlock]⟩, fun b hb => ?_⟩
  · have e : (⟨[], [], [], []⟩ : Ar).len i = 0 := by unfold Ar.len; split <;> rfl
    have e2 : (⟨[], [], [], []⟩ : Ar).row i = [] := by unfold Ar.row; split <;> rfl
    rw [e, e2]
    exact ⟨by simp, .inl ⟨rfl, rfl⟩⟩
  · rcases mem_foot.1 hb with h | ⟨i, hi, h⟩
    · omega
    · simp [Value.ownBlock] at h
/-- Brand, and parts behind it. -/
theorem brand_parts (w : World) (p n k : Nat) (v : Nat → Value) (A : Ar) (h : Parts w p v A) (hR : Room A (k + 4)) (hQ : Quo A n (k + 4)) : ∃ R S U : Nat, triple A n = (A.name, S, U) ∧
    Calls Tryz.prog 25 #[.pointer (some ⟨p, 0, none⟩), .int .i64 n] w fun e w1 => ∃ (v' : Nat → Value) (bm g : Nat), e = .returned (.tuple #[.int .u64 R, .int .i64 0]) ∧ (Parts w1 p v' (after A n bm) ∧ Chg (foot p v) w w1 ∧ (∀ b ∈ foot p v', b ∈ foot p v ∨ w.heap.size ≤ b)) ∧
      (∀ wx, Up w1 wx → ∀ y : Nat, (y = R ∨ y = S ∨ y = U) → Calls Tryz.prog 27 #[.pointer (some ⟨p, 0, none⟩), .int .u64 y] wx fun e w' => e = .returned (.pointer (some ⟨g, (y % 4294967296) * 16 + 2, none⟩)) ∧ Up w1 w') ∧
      (∀ wx, Up w1 wx → Calls Tryz.prog 26 #[.pointer (some ⟨p, 0, none⟩), .int .u64 R] wx fun e w' => e = .returned (.tuple #[.int .u64 S, .int .u64 U, .bool true]) ∧ Up w1 w') ∧
      (ObAt w1 g ((R % 4294967296) * 16 + 2) (recOb n bm) ∧ ObAt w1 g ((S % 4294967296) * 16 + 2) (obK 3 n A.name) ∧ ObAt w1 g ((U % 4294967296) * 16 + 2) (obK 4 n A.name)) ∧
      (∀ wx, Up w1 wx → ∀ ty, (Builtin.len_ #[25] ty #[.map (some bm)]).run Tryz.prog wx = .ok (.int .i64 2) wx) := by
  refine ⟨(rnd (A.add (obK 2 n 0)) n A.name 2).name, (triple A n).2.1, (triple A n).2.2, rfl, ?_⟩
  refine (brand_room w p n k k v A h hR hQ).mono ?_
  rintro e w1 ⟨v', bm, m, D, rfl, hP, hC, hF, hown, -, hM, -, -⟩
  have H := has_after (bm := bm) hR (n := n)
  have FR := rec_after (bm := bm) hR (n := n)
  have LR := rec_lt hR (n := n)
  obtain ⟨hsz, hS, hU⟩ := mapB_two hM
  obtain ⟨s, hs, -⟩ := find_slot FR
  obtain ⟨g, cap, -, hog, -⟩ := hP.obAt hs
  refine ⟨v', bm, g, rfl, ⟨hP, hC, hF⟩, fun wx hx y hy => ?_, fun wx hx => ?_, ⟨obAt_find hog hP FR, obAt_find hog hP H.hs, obAt_find hog hP H.hu⟩, fun wx hx ty => ?_⟩
  · rcases hy with rfl | rfl | rfl
    · refine (ar.get_at wx p _ v' _ _ g hog (hP.up hx) (by omega) FR).mono ?_
      rintro e w' ⟨rfl, hU'⟩; exact ⟨rfl, hx.trans hU'⟩
    · refine (ar.get_at wx p _ v' _ _ g hog (hP.up hx) (by have := H.ls; omega) H.hs).mono ?_
      rintro e w' ⟨rfl, hU'⟩; exact ⟨rfl, hx.trans hU'⟩
    · refine (ar.get_at wx p _ v' _ _ g hog (hP.up hx) (by have := H.lu; omega) H.hu).mono ?_
      rintro e w' ⟨rfl, hU'⟩; exact ⟨rfl, hx.trans hU'⟩
  · refine (parts_x wx p _ (triple A n).2.1 (triple A n).2.2 n bm m v' _ D _ _ (hP.up hx) (by omega) FR (owns_up hown hx) hS hU H.ls H.lu H.hs H.hu).mono ?_
    rintro e w' ⟨rfl, hU'⟩; exact ⟨rfl, hx.trans hU'⟩
  · have := (owns_up hown hx).len Tryz.underlying25 ty
    rw [hsz] at this
    exact this
theorem Lp.less {w0 w : World} {p k j : Nat} {v : Nat → Value} {A : Ar} {ns : Nat → Nat} {l : List (Nat × Nat × Nat)} {vs vu : Value} (h : Lp w0 w p v A ns l k vs vu) (hj : j ≤ k) : Lp w0 w p v A ns l j vs vu :=
  ⟨h.pt, Room.mono h.rm hj, Quo.mono h.q0 hj, Quo.mono h.q1 hj, h.br, h.fo, h.rs, h.ru, h.ns_, h.nu, h.ap, h.bel⟩
theorem Lp.selAt {w0 w : World} {p k gs c i : Nat} {v : Nat → Value} {A : Ar} {ns : Nat → Nat} {l : List (Nat × Nat × Nat)} {vu : Value} {x : Nat × Nat × Nat} (h : Lp w0 w p v A ns l k (.slice (some ⟨gs, 0, none⟩) l.length c) vu) (hx : l[i]? = some x) : w.cell? ⟨gs, i, none⟩ = some (.int .u64 (x.2.1 : Nat)) := by
  have hi : i < l.length := (List.getElem?_eq_some_iff.1 hx).1
  rw [World.ownsRow.cellAt h.rs i (by omega)]
  show (l.map _)[i]? = _
  rw [List.getElem?_map, hx]
  rfl
theorem Lp.unAt {w0 w : World} {p k gs c i : Nat} {v : Nat → Value} {A : Ar} {ns : Nat → Nat} {l : List (Nat × Nat × Nat)} {vs : Value} {x : Nat × Nat × Nat} (h : Lp w0 w p v A ns l k vs (.slice (some ⟨gs, 0, none⟩) l.length c)) (hx : l[i]? = some x) : w.cell? ⟨gs, i, none⟩ = some (.int .u64 (x.2.2 : Nat)) := by
  have hi : i < l.length := (List.getElem?_eq_some_iff.1 hx).1
  rw [World.ownsRow.cellAt h.ru i (by omega)]
  show (l.map _)[i]? = _
  rw [List.getElem?_map, hx]
  rfl
theorem tmod_small {a : Int} {n : Nat} (ha : 0 ≤ a) (hn : 0 < n) : ∃ k : Nat, k < n ∧ a.tmod (n : Int) = (k : Int) := by
  refine ⟨a.toNat % n, Nat.mod_lt _ hn, ?_⟩
  obtain ⟨m, rfl⟩ : ∃ m : Nat, a = (m : Int) := ⟨a.toNat, by omega⟩
  rw [Int.tmod_eq_emod_of_nonneg ha, Int.toNat_natCast]
  rfl
theorem step_of {a b : Prop} (h : a) (k : a → b) : b := k h
theorem Lp.chg {F : List Nat} {w0 w w' : World} {p k : Nat} {v : Nat → Value} {A : Ar} {ns : Nat → Nat} {l : List (Nat × Nat × Nat)} {vs vu : Value} (h : Lp w0 w p v A ns l k vs vu) (c : Chg F w w') (h1 : ∀ b ∈ F, w0.heap.size ≤ b) (h2 : ∀ b ∈ foot p v, b ∉ F) (h3 : ∀ b, vs.ownBlock = some b → b ∉ F) (h4 : ∀ b, vu.ownBlock = some b → b ∉ F) : Lp w0 w' p v A ns l k vs vu :=
  ⟨h.pt.chg c h2, h.rm, h.q0, h.q1, h.br, h.fo, owns_chg h.rs c h3, owns_chg h.ru c h4, h.ns_, h.nu, h.ap, Below.trans h.bel (c.below h.bel.size h1)⟩
section
variable {w0 wr wX wx w3 : World} {p k n br : Nat} {v v3 : Nat → Value} {A : Ar} {ns : Nat → Nat} {l : List (Nat × Nat × Nat)} {vs vu a b c : Value} {q : V3}
theorem box_end1 (h : Lp w0 wr p v A ns l (k + 1) vs vu) (hn2 : n < 2) (hx : Has3 wX wr.heap.size a b c) (ux : Up wr wX) (u : Up wX wx) (pt : Parts w3 p v3 (A.add (boxOb n br q))) (cb : Chg (foot p v) wx w3) (fb : ∀ b ∈ foot p v3, b ∈ foot p v ∨ wx.heap.size ≤ b) (NM : Nat) (ty : Nat) :
    wr.heap.size < w3.heap.size ∧ Has3 (w3.alloc (.cells #[.int .u8 5, .int .i64 NM, .string ⟨#[]⟩] ty)) w3.heap.size (.int .u8 5) (.int .i64 NM) (.string ⟨#[]⟩) ∧ Has3 (w3.alloc (.cells #[.int .u8 5, .int .i64 NM, .string ⟨#[]⟩] ty)) wr.heap.size a b c ∧ Lp w0 (w3.alloc (.cells #[.int .u8 5, .int .i64 NM, .string ⟨#[]⟩] ty)) p v3 (A.add (boxOb n br q)) ns l k vs vu := by
  have hn : wr.heap.size ∉ foot p v := fun hh => Nat.lt_irrefl _ (h.pt.lt _ hh)
  have h3 := has3_chg (hx.up u) cb hn
  exact ⟨h3.1, has3_alloc w3 _ _ _ ty, h3.alloc _, (h.box rfl hn2 (ux.trans u) pt cb fb).up ((Up.refl w3).alloc _)⟩
theorem box_end2 (h : Lp w0 wr p v A ns l (k + 1) vs vu) (hn2 : n < 2) (hx : Has3 wX wr.heap.size a b c) (ux : Up wr wX) (u : Up wX wx) (pt : Parts w3 p v3 (A.add (boxOb n br q))) (cb : Chg (foot p v) wx w3) (fb : ∀ b ∈ foot p v3, b ∈ foot p v ∨ wx.heap.size ≤ b) (NM : Nat) {xb : Nat} {c0 c1 c2 : Value} (hxb : wr.heap.size < xb) (hxw : xb < wx.heap.size) (z : Has3 w3 xb c0 c1 c2) :
    wr.heap.size < xb ∧ Has3 (((w3.setCell ⟨xb, 0, none⟩ (.int .u8 5)).setCell ⟨xb, 1, none⟩ (.int .i64 NM)).setCell ⟨xb, 2, none⟩ (.string ⟨#[]⟩)) xb (.int .u8 5) (.int .i64 NM) (.string ⟨#[]⟩) ∧ Has3 (((w3.setCell ⟨xb, 0, none⟩ (.int .u8 5)).setCell ⟨xb, 1, none⟩ (.int .i64 NM)).setCell ⟨xb, 2, none⟩ (.string ⟨#[]⟩)) wr.heap.size a b c ∧ Lp w0 (((w3.setCell ⟨xb, 0, none⟩ (.int .u8 5)).setCell ⟨xb, 1, none⟩ (.int .i64 NM)).setCell ⟨xb, 2, none⟩ (.string ⟨#[]⟩)) p v3 (A.add (boxOb n br q)) ns l k vs vu := by
  have hn : wr.heap.size ∉ foot p v := fun hh => Nat.lt_irrefl _ (h.pt.lt _ hh)
  have h3 := has3_chg (hx.up u) cb hn
  have hne : wr.heap.size ≠ xb := by omega
  have C : Chg [xb] w3 (((w3.setCell ⟨xb, 0, none⟩ (.int .u8 5)).setCell ⟨xb, 1, none⟩ (.int .i64 NM)).setCell ⟨xb, 2, none⟩ (.string ⟨#[]⟩)) := (((Chg.refl [xb] w3).setCell (p := ⟨xb, 0, none⟩) (.inl (by simp)) _).setCell (p := ⟨xb, 1, none⟩) (.inl (by simp)) _).setCell (p := ⟨xb, 2, none⟩) (.inl (by simp)) _
  have hL := h.box (n := n) rfl hn2 (ux.trans u) pt cb fb
  have hz := h.bel.size
  refine ⟨hxb, z.store _ _ _, ((h3.other hne _).other hne _).other hne _, hL.chg C (fun b hb => ?_) (fun b hb hx => ?_) (fun b hb hx => ?_) (fun b hb hx => ?_)⟩
  · rw [List.mem_singleton.1 hb]; omega
  · rw [List.mem_singleton.1 hx] at hb
    rcases fb xb hb with h1 | h1
    · have := h.pt.lt xb h1; omega
    · omega
  · have := (h.rs.lt b hb).2
    rw [List.mem_singleton.1 hx] at this; omega
  · have := (h.ru.lt b hb).2
    rw [List.mem_singleton.1 hx] at this; omega
end
theorem unseal_of {w0 wc wx : World} {p k i j n NM yb yS yU : Nat} {v : Nat → Value} {A : Ar} {ns : Nat → Nat} {l : List (Nat × Nat × Nat)} {vs vu : Value} {q : V3} {y : Nat × Nat × Nat} (h : Lp w0 wc p v A ns l j vs vu) (u : Up wc wx) (hy : l[i]? = some y) (hk : l[k]? = some (yb, yS, yU)) (hn : ns k = n) (hnm : NM < 9223372036854775808) (hf : A.find NM = some (boxOb n yb q)) :
    Calls Tryz.prog 30 #[.pointer (some ⟨p, 0, none⟩), .int .u64 (y.2.2 : Nat), val (5, (NM : Int), ⟨#[]⟩)] wx fun e w' => e = .returned (.tuple #[val (if i = k then q else zero3), .int .i64 (if i = k then 0 else 13)]) ∧ Up wx w' := by
  have H := h.br.hx i y hy
  refine (unseal_box wx p y.2.2 NM v A _ _ (h.pt.up u) (by have := H.lu; omega) hnm H.hu hf rfl rfl).mono ?_
  rintro e w' ⟨rfl, hu⟩
  refine ⟨?_, hu⟩
  by_cases e1 : i = k
  · subst e1
    rw [hk] at hy
    cases hy
    rw [hn]
    rw [if_pos rfl, if_pos rfl, show opened (obK 4 n ((yb, yS, yU) : Nat × Nat × Nat).1) (boxOb n yb q) = (q, 0) from opened_same]
  · rw [if_neg e1, if_neg e1, opened_other]
    intro e2
    exact e1 (h.br.ne i k y _ hy hk (by have : (y.1 : Int) = (yb : Int) := e2.symm; show y.1 = yb; omega))
theorem ne_same (p : V3) (W : World) : (binOp .neq 31 (val p) (val p)).run Tryz.prog W = .ok (.bool false) W := by
  rw [ne_val p p W]
  simp
/-- Behind a box that is sealed: its value is laid somewhere. -/
def BoxEnd (w0 wr W : World) (p : Nat) (v : Nat → Value) (A : Ar) (ns : Nat → Nat) (l : List (Nat × Nat × Nat)) (k : Nat) (vs vu a b c : Value) (xb NM : Nat) : Prop :=
  wr.heap.size < xb ∧ Has3 W xb (.int .u8 5) (.int .i64 NM) (.string ⟨#[]⟩) ∧ Has3 W wr.heap.size a b c ∧ Lp w0 W p v A ns l k vs vu
theorem seal_box {w0 wr wX : World} {p k n br yS : Nat} {v : Nat → Value} {A : Ar} {ns : Nat → Nat} {l : List (Nat × Nat × Nat)} {vs vu a b c : Value} {q : V3} (h : Lp w0 wr p v A ns l (k + 1) vs vu) (hn2 : n < 2) (hQ : Quo A n (k + 1)) (hx : Has3 wX wr.heap.size a b c) (ux : Up wr wX) (hf : A.find yS = some (obK 3 n br)) (hl : yS < 9223372036854775808) (wx : World) (u : Up wX wx) :
    Calls Tryz.prog 28 #[.pointer (some ⟨p, 0, none⟩), .int .u64 yS, val q] wx fun e w3 => ∃ v3, e = .returned (.tuple #[val (5, (A.name : Int), ⟨#[]⟩), .int .i64 0]) ∧
      (∀ (NM ty : Nat), BoxEnd w0 wr (w3.alloc (.cells #[.int .u8 5, .int .i64 NM, .string ⟨#[]⟩] ty)) p v3 (A.add (boxOb n br q)) ns l k vs vu a b c w3.heap.size NM) ∧
      (∀ (xb : Nat) (c0 c1 c2 : Value), wr.heap.size < xb → Has3 wx xb c0 c1 c2 → Has3 w3 xb c0 c1 c2 ∧ ∀ NM : Nat, BoxEnd w0 wr (((w3.setCell ⟨xb, 0, none⟩ (.int .u8 5)).setCell ⟨xb, 1, none⟩ (.int .i64 NM)).setCell ⟨xb, 2, none⟩ (.string ⟨#[]⟩)) p v3 (A.add (boxOb n br q)) ns l k vs vu a b c xb NM) := by
  refine (seal_k wx p yS v A _ q (h.pt.up (ux.trans u)) (by omega) hf rfl n _ _ rfl h.rm hQ).mono ?_
  rintro e w3 ⟨v3, rfl, hP, hC, hF⟩
  refine ⟨v3, rfl, fun NM ty => box_end1 h hn2 hx ux u hP hC hF NM ty, fun xb c0 c1 c2 hxb hz => ?_⟩
  have hz' : Has3 w3 xb c0 c1 c2 := has3_chg hz hC (fun hh => by have := h.pt.lt _ hh; omega)
  exact ⟨hz', fun NM => box_end2 h hn2 hx ux u hP hC hF NM hxb hz.1 hz'⟩
/-- The worlds that have grown out of one. -/
structure Wd (W : World) where
  w : World
  up : Up W w
instance (W : World) : Nonempty (Wd W) := ⟨⟨W, Up.refl W⟩⟩
/-- A region that only reads, its calls making memory: one walk, in whatever world that has grown. -/
theorem wp_region_up {P : Program} {id : Nat} {Q : Exit → Act → World → Prop} {a : Act} {w : World} {l : List Oper} (hm : P.follows .mixedOrders = true) (hB : Region.lexB .any l.toArray = true)
    (h : wpQuiet P l.toArray (fun w' => ∃ x : Wd w, w' = x.w) (fun a' => ∀ w', (∃ x : Wd w, w' = x.w) → Q .normal a' w') l a) : (Code.region id l.toArray true).wp P Q a w :=
  wp_region_quiet (C := fun w' => ∃ x : Wd w, w' = x.w) hm hB ⟨⟨w.drew, (Up.refl w).drew⟩, rfl⟩ (by simpa using h)
end Go.Proofs.YtojbphnkabfkpaaGreatDoor.sb
