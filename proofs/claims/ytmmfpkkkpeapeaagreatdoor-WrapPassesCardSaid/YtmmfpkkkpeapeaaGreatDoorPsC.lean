/- Three rows appended to, one behind the other, ahead of the stores: what holds in the midst: plain. (13 texts in one.) -/
import Derived.Test.YtmmfpkkkpeapeaaGreatDoorPsE
import Derived.OpenShut

/- palinglaw15.W: owners, membranes, as blocks of memory; what is handed in. -/
set_option linter.unusedVariables false
namespace Go.Proofs.YtmmfpkkkpeapeaaGreatDoor.mb
open Go.RowKit Go.Maps mem rec ar
set_option maxRecDepth 100000
set_option maxHeartbeats 400000
/-! ### what is handed in -/
/-- A pair of bytes. -/
def P2At (w : World) (b o : Nat) (x : Int × Int) : Prop := w.cell? ⟨b, o, none⟩ = some (.int .u8 x.1) ∧ w.cell? ⟨b, o + 1, none⟩ = some (.int .u8 x.2) ∧ 0 ≤ x.1 ∧ x.1 ≤ 255 ∧ 0 ≤ x.2 ∧ x.2 ≤ 255
section
variable {H : Type} {enc : TypeId × Value → H} {w : World} {base : Nat} {spare : Nat → Bool} {held : Bool}
theorem open_prs {fuel : Nat} {v : Value} {x : DataW H × List MemPlace} (h : DataW.trod enc Tryz.prog w base spare held fuel 22 [v] = some x) : op.Handed 2 P2At v w := by
  refine op.open_slice ((0 : Int), (0 : Int)) Tryz.underlying22 (by kernel_rfl) (by decide) P2At ?_ h
  intro fuel L x hx
  have c1 : Tryz.prog.cellsOf 5 = 1 := by kernel_rfl
  obtain ⟨ys, m, _, _, _, hyl, hf⟩ := DataW.trod_array Tryz.underlying106 hx
  have f0 := hf 0 (by omega)
  have f1 := hf 1 (by omega)
  rw [c1] at f0 f1
  rw [List.getElem?_eq_getElem (by omega)] at f0 f1
  obtain ⟨k0, e0, _, w0⟩ := DataW.trod_int Tryz.underlying5 f0
  obtain ⟨k1, e1, _, w1⟩ := DataW.trod_int Tryz.underlying5 f1
  have g0 : L[0]? = some (.int .u8 k0) := by have := congrArg (·[0]?) e0; simpa [List.getElem?_take, List.getElem?_drop] using this
  have g1 : L[1]? = some (.int .u8 k1) := by have := congrArg (·[0]?) e1; simpa [List.getElem?_take, List.getElem?_drop] using this
  exact ⟨(k0, k1), fun b o hj => ⟨(hj 0 (by decide)).trans g0, (hj 1 (by decide)).trans g1, (op.u8wf w0).1, (op.u8wf w0).2, (op.u8wf w1).1, (op.u8wf w1).2⟩⟩
end
/-! ### rows behind a struct -/
def rT : Nat → TypeId
  | 0 => 48
  | 1 => 41
  | 2 => 46
  | _ => 4
def rS : Nat → Nat
  | 0 => 3
  | 2 => 2
  | _ => 1
/-- The struct in block q: two cells, four rows. -/
structure Rw (w : World) (q : Nat) (a b : Value) (v : Nat → Value) (N : Nat → Nat) (X : Nat → List Value) : Prop where
  hd : Blk w q #[a, b, v 0, v 1, v 2, v 3] 39
  ow : ∀ i, i < 4 → w.ownsRow 0 (rT i) (rS i) (v i) (N i) (X i)
  ap : ∀ i j b, i < 4 → j < 4 → (v i).ownBlock = some b → (v j).ownBlock = some b → i = j
  pp : ∀ i, i < 4 → (v i).ownBlock ≠ some q
theorem Rw.lt {w : World} {q : Nat} {a b : Value} {v : Nat → Value} {N : Nat → Nat} {X : Nat → List Value} (h : Rw w q a b v N X) : ∀ b ∈ foot q v, b < w.heap.size := by
  intro b hb
  rcases mem_foot.1 hb with rfl | ⟨i, hi, hb⟩
  · exact h.hd.lt
  · exact ((h.ow i hi).lt b hb).2
theorem Rw.chg {G : List Nat} {w w' : World} {q : Nat} {a b : Value} {v : Nat → Value} {N : Nat → Nat} {X : Nat → List Value} (h : Rw w q a b v N X) (c : Chg G w w') (hn : ∀ b ∈ foot q v, b ∉ G) : Rw w' q a b v N X :=
  ⟨h.hd.chg c (hn q foot_p), fun i hi => owns_chg (h.ow i hi) c (fun g hg => hn g (foot_i hi hg)), h.ap, h.pp⟩
theorem Rw.up {w w' : World} {q : Nat} {a b : Value} {v : Nat → Value} {N : Nat → Nat} {X : Nat → List Value} (h : Rw w q a b v N X) (u : Up w w') : Rw w' q a b v N X := h.chg u.chg (by simp)
theorem Rw.cell {w : World} {q : Nat} {a b : Value} {v : Nat → Value} {N : Nat → Nat} {X : Nat → List Value} (h : Rw w q a b v N X) (i : Nat) (hi : i < 4) : w.cell? ⟨q, i + 2, none⟩ = some (v i) ∧ w.frozen? ⟨q, i + 2, none⟩ = false := by
  refine ⟨?_, frozen_of_row w q (i + 2) _ _ h.hd⟩
  rw [h.hd.cell (i + 2)]
  rcases (by omega : i = 0 ∨ i = 1 ∨ i = 2 ∨ i = 3) with rfl | rfl | rfl | rfl <;> rfl
/-- A row is made anew, or appended to, and its value laid in the struct's cell. -/
theorem Rw.put {w w1 : World} {q : Nat} {a b : Value} {v : Nat → Value} {N N' : Nat → Nat} {X X' : Nat → List Value} (h : Rw w q a b v N X) (i : Nat) (hi : i < 4) (hg : w.grownBy w1 (v i).ownBlock) (u : Value) (g : Nat) (hu : u.ownBlock = some g) (hgl : (v i).ownBlock = some g ∨ w.heap.size ≤ g)
    (hrow : w1.ownsRow 0 (rT i) (rS i) u (N' i) (X' i)) (hsame : ∀ j, j < 4 → j ≠ i → N' j = N j ∧ X' j = X j) :
    Rw (w1.setCell ⟨q, i + 2, none⟩ u) q a b (upd v i u) N' X' ∧ Chg (foot q v) w (w1.setCell ⟨q, i + 2, none⟩ u) ∧ ∀ b ∈ foot q (upd v i u), b ∈ foot q v ∨ w.heap.size ≤ b := by
  have hgp : g ≠ q := by
    rcases hgl with h1 | h1
    · intro e; exact h.pp i hi (by rw [h1, e])
    · have := h.hd.lt; omega
  have c1 : Chg (foot q v) w w1 := (Chg.refl _ w).grown hg (fun k hk => .inl (foot_i hi hk))
  have c2 : Chg (foot q v) w (w1.setCell ⟨q, i + 2, none⟩ u) := c1.setCell (p := ⟨q, i + 2, none⟩) (.inl foot_p) u
  have cp : Chg [q] w1 (w1.setCell ⟨q, i + 2, none⟩ u) := (Chg.refl _ w1).setCell (p := ⟨q, i + 2, none⟩) (.inl (by simp)) u
  have hd1 : Blk w1 q #[a, b, v 0, v 1, v 2, v 3] 39 := (hg.block q h.hd.lt (fun e => h.pp i hi e.symm)).trans h.hd
  refine ⟨⟨?_, ?_, ?_, ?_⟩, c2, ?_⟩
  · have := heap_setCell_same w1 q (i + 2) _ _ u hd1
    unfold Blk
    rw [this]
    rcases (by omega : i = 0 ∨ i = 1 ∨ i = 2 ∨ i = 3) with rfl | rfl | rfl | rfl <;> simp [upd]
  · intro j hj
    by_cases e : j = i
    · subst e
      rw [upd_same]
      exact owns_chg hrow cp (fun b hb => by rw [hu] at hb; cases hb; simpa using hgp)
    · rw [upd_other v u e, (hsame j hj e).1, (hsame j hj e).2]
      have o1 : w1.ownsRow 0 (rT j) (rS j) (v j) (N j) (X j) := (h.ow j hj).kept hg (by
        cases hb : (v j).ownBlock with
        | none => exact .inl rfl
        | some b => exact .inr (fun e2 => e (h.ap j i b hj hi hb e2.symm)))
      exact owns_chg o1 cp (fun b hb => by simp; rintro rfl; exact h.pp j hj hb)
  · intro a j b ha hj h1 h2
    by_cases e1 : a = i <;> by_cases e2 : j = i
    · rw [e1, e2]
    · subst e1
      rw [upd_same, hu] at h1
      rw [upd_other v u e2] at h2
      cases h1
      rcases hgl with h3 | h3
      · exact (h.ap j a g hj ha h2 h3).symm
      · have := ((h.ow j hj).lt g h2).2; omega
    · subst e2
      rw [upd_same, hu] at h2
      rw [upd_other v u e1] at h1
      cases h2
      rcases hgl with h3 | h3
      · exact h.ap a j g ha hj h1 h3
      · have := ((h.ow a ha).lt g h1).2; omega
    · rw [upd_other v u e1] at h1
      rw [upd_other v u e2] at h2
      exact h.ap a j b ha hj h1 h2
  · intro j hj
    by_cases e : j = i
    · subst e; rw [upd_same, hu]; simpa using hgp
    · rw [upd_other v u e]; exact h.pp j hj
  · intro b hb
    rcases mem_foot.1 hb with rfl | ⟨j, hj, hb⟩
    · exact .inl foot_p
    · by_cases e : j = i
      · subst e
        rw [upd_same, hu] at hb
        cases hb
        rcases hgl with h3 | h3
        · exact .inl (foot_i hj h3)
        · exact .inr h3
      · rw [upd_other v u e] at hb
        exact .inl (foot_i hj hb)
/-! ### the four owners -/
def slots4 : Nat → List Nat → List Sl
  | _, [] => []
  | i, b :: l => ⟨1, true, recOb i b⟩ :: slots4 (i + 1) l
/-- Owners of 60, of each one record, whose fields lie in these blocks. -/
def mk4 (bs : List Nat) : Ar := ⟨slots4 0 bs, [], bs.map (fun _ => 60), bs.map (fun _ => 1)⟩
def mk4o (bs : List Nat) : Ar := ⟨slots4 0 bs, [], bs.map (fun _ => 60) ++ [60], bs.map (fun _ => 1) ++ [0]⟩
theorem slots4_get : ∀ (bs : List Nat) (i j : Nat) (s : Sl), (slots4 i bs)[j]? = some s → ∃ b, bs[j]? = some b ∧ s = ⟨1, true, recOb (i + j) b⟩
  | [], i, j, s, h => by simp [slots4] at h
  | b :: l, i, 0, s, h => by
    simp [slots4] at h
    exact ⟨b, rfl, h.symm⟩
  | b :: l, i, j + 1, s, h => by
    simp [slots4] at h
    obtain ⟨b', h1, h2⟩ := slots4_get l (i + 1) j s h
    exact ⟨b', by simpa using h1, by rw [h2, show i + 1 + j = i + (j + 1) by omega]⟩
theorem slots4_len : ∀ (bs : List Nat) (i : Nat), (slots4 i bs).length = bs.length
  | [], i => rfl
  | b :: l, i => by rw [slots4, List.length_cons, slots4_len l, List.length_cons]
theorem slots4_app : ∀ (bs : List Nat) (i c : Nat), slots4 i (bs ++ [c]) = slots4 i bs ++ [⟨1, true, recOb (i + bs.length) c⟩]
  | [], i, c => rfl
  | b :: l, i, c => by
    rw [List.cons_append, slots4, slots4_app l (i + 1) c, slots4, List.cons_append, List.length_cons, show i + 1 + l.length = i + (l.length + 1) by omega]
theorem grow4 (bs : List Nat) : (mk4o bs).grow = { mk4o bs with slots := slots4 0 bs ++ [sl0], free := [bs.length] } := by
  have h : (mk4o bs).free = [] := rfl
  unfold Ar.grow
  rw [if_pos h]
  show _ = Ar.mk _ _ _ _
  rw [show (mk4o bs).slots.length = bs.length from slots4_len bs 0]
  rfl
theorem top4 (bs : List Nat) : (mk4o bs).top = bs.length := by unfold Ar.top; rw [grow4]; rfl
theorem old4 (bs : List Nat) : (mk4o bs).old = 0 := by
  unfold Ar.old
  rw [grow4, top4]
  show (List.getD (slots4 0 bs ++ [sl0]) bs.length sl0).uses = 0
  rw [List.getD_eq_getElem?_getD, List.getElem?_append_right (by rw [slots4_len]; omega), slots4_len, Nat.sub_self]
  rfl
theorem name4 (bs : List Nat) : (mk4o bs).name = 4294967296 + bs.length := by unfold Ar.name; rw [old4, top4]
theorem add4 (bs : List Nat) (b : Nat) : (mk4o bs).add (recOb bs.length b) = mk4 (bs ++ [b]) := by
  unfold Ar.add
  rw [grow4, top4, old4]
  show Ar.mk ((slots4 0 bs ++ [sl0]).set bs.length _) ([bs.length].dropLast) _ _ = Ar.mk _ _ _ _
  have e1 : (slots4 0 bs ++ [sl0]).set bs.length ⟨0 + 1, true, recOb bs.length b⟩ = slots4 0 (bs ++ [b]) := by
    rw [slots4_app, List.set_append_right _ _ (by rw [slots4_len]; omega), slots4_len, Nat.sub_self]
    simp
  have e2 : (recOb bs.length b).owner.toNat = bs.length := rfl
  have e3 : (bs.map (fun _ => (1 : Int)) ++ [0]).set bs.length ((bs.map (fun _ => (1 : Int)) ++ [0]).getD bs.length 0 + 1) = (bs ++ [b]).map (fun _ => (1 : Int)) := by
    rw [List.getD_eq_getElem?_getD, List.getElem?_append_right (by simp), List.set_append_right _ _ (by simp)]
    simp
  rw [e1]
  congr 1
  · show (bs.map (fun _ => (60 : Int)) ++ [60]) = _
    simp
theorem room4 (bs : List Nat) (h : bs.length ≤ 4) (k : Nat) (hk : k ≤ 900) : Room (mk4o bs) k ∧ Room (mk4 bs) k := by
  have u : ∀ s ∈ slots4 0 bs, s.uses + k < 1000000 := fun s hs => by
    obtain ⟨j, hj⟩ := List.getElem?_of_mem hs
    obtain ⟨b, -, rfl⟩ := slots4_get bs 0 j s hj
    show 1 + k < _
    omega
  refine ⟨⟨?_, u, fun n hn => (by cases hn), List.nodup_nil, ?_⟩, ⟨?_, u, fun n hn => (by cases hn), List.nodup_nil, ?_⟩⟩
  · show (slots4 0 bs).length + k < _; rw [slots4_len]; omega
  · show 0 + k < _; omega
  · show (slots4 0 bs).length + k < _; rw [slots4_len]; omega
  · show 0 + k < _; omega
theorem quo4o (bs : List Nat) (k : Nat) (hk : k ≤ 60) : Quo (mk4o bs) bs.length k :=
  ⟨60, 0, by show (bs.map (fun _ => (60 : Int)) ++ [60])[bs.length]? = _; rw [List.getElem?_append_right (by simp)]; simp, by show (bs.map (fun _ => (1 : Int)) ++ [0])[bs.length]? = _; rw [List.getElem?_append_right (by simp)]; simp, by omega, by omega, by omega⟩
theorem quo4 (bs : List Nat) (n k : Nat) (hn : n < bs.length) (hk : k ≤ 59) : Quo (mk4 bs) n k :=
  ⟨60, 1, by show (bs.map (fun _ => (60 : Int)))[n]? = _; rw [List.getElem?_map, List.getElem?_eq_getElem hn]; rfl, by show (bs.map (fun _ => (1 : Int)))[n]? = _; rw [List.getElem?_map, List.getElem?_eq_getElem hn]; rfl, by omega, by omega, by omega⟩
theorem find4 {bs : List Nat} (h : bs.length ≤ 4) {r : Nat} {o : Ob} (hf : (mk4 bs).find r = some o) : ∃ i b, bs[i]? = some b ∧ r = 4294967296 + i ∧ o = recOb i b := by
  unfold Ar.find at hf
  split at hf
  · rename_i s hs
    split at hf
    · rename_i hu
      cases hf
      obtain ⟨b, h1, rfl⟩ := slots4_get bs 0 _ s hs
      have hlt := (List.getElem?_eq_some_iff.1 h1).1
      have h2 : 1 = r / 4294967296 := hu.2
      exact ⟨r % 4294967296, b, h1, by omega, by rw [Nat.zero_add]⟩
    · cases hf
  · cases hf
theorem slots4_at : ∀ (bs : List Nat) (i j b : Nat), bs[j]? = some b → (slots4 i bs)[j]? = some ⟨1, true, recOb (i + j) b⟩
  | [], i, j, b, h => by simp at h
  | c :: l, i, 0, b, h => by simp at h; subst h; rfl
  | c :: l, i, j + 1, b, h => by
    have h' : l[j]? = some b := by simpa using h
    show (slots4 (i + 1) l)[j]? = _
    rw [slots4_at l (i + 1) j b h', show i + 1 + j = i + (j + 1) by omega]
theorem find4_at {bs : List Nat} (h : bs.length ≤ 4) {i b : Nat} (hb : bs[i]? = some b) : (mk4 bs).find (4294967296 + i) = some (recOb i b) := by
  have hlt := (List.getElem?_eq_some_iff.1 hb).1
  have e1 : (4294967296 + i) % 4294967296 = i := by omega
  have e2 : (4294967296 + i) / 4294967296 = 1 := by omega
  have h0 : (mk4 bs).slots[i]? = some ⟨1, true, recOb (0 + i) b⟩ := slots4_at bs 0 i b hb
  unfold Ar.find
  rw [e1, e2, h0, Nat.zero_add]
  simp
theorem net4 (bs : List Nat) (h : bs.length ≤ 4) (L : List Mb) : Net (mk4 bs) (fun _ _ => none) L 0 := by
  refine ⟨fun r o hf hk => ?_, fun m t r hc => (by cases hc), fun r o hf => ?_⟩
  · obtain ⟨i, b, -, -, rfl⟩ := find4 h hf
    exact absurd hk (by show ¬ (0 : Int) = 6; decide)
  · obtain ⟨i, b, -, -, rfl⟩ := find4 h hf
    show (0 : Int) ≤ 0 ∧ (0 : Int) ≤ 0
    omega
/-! ### sides -/
/-- The membrane that two bytes make. -/
def sideOf (x : Int × Int) : Mb := (x.1 % 4, if x.1 % 4 = x.2 % 4 then (x.1 % 4 + 1) % 4 else x.2 % 4, false)
theorem sideOf_lt (x : Int × Int) : (0 ≤ (sideOf x).1 ∧ (sideOf x).1 < 4) ∧ (0 ≤ (sideOf x).2.1 ∧ (sideOf x).2.1 < 4) := by
  unfold sideOf
  refine ⟨by simp only; omega, ?_⟩
  simp only
  split <;> omega
def lenW (n o : Nat) : Nat → Nat
  | 1 => o
  | _ => n
def rowW (L : List Mb) (o : Nat) : Nat → List Value
  | 0 => L.flatMap cellsM
  | 1 => (List.range o).map (fun i : Nat => Value.int .u64 (4294967296 + (i : Int)))
  | 2 => L.flatMap (fun m => [.int .i64 m.1, .int .i64 m.2.1])
  | _ => L.map (fun m => .bool m.2.2)
theorem flat3_get : ∀ (l : List Mb) (n j : Nat) (s : Mb), l[n]? = some s → j < 3 → (l.flatMap cellsM)[n * 3 + j]? = (cellsM s)[j]?
  | [], n, j, s, h, _ => by simp at h
  | a :: l, 0, j, s, h, hj => by
    simp at h; subst h
    rw [List.flatMap_cons, List.getElem?_append_left (by show _ < 3; omega)]; simp
  | a :: l, n + 1, j, s, h, hj => by
    simp at h
    rw [List.flatMap_cons, List.getElem?_append_right (by show 3 ≤ _; omega), show (cellsM a).length = 3 from rfl, show (n + 1) * 3 + j - 3 = n * 3 + j by omega]
    exact flat3_get l n j s h hj
theorem flat3_len : ∀ l : List Mb, (l.flatMap cellsM).length = l.length * 3
  | [] => rfl
  | s :: l => by rw [List.flatMap_cons, List.length_append, flat3_len l, show (cellsM s).length = 3 from rfl, List.length_cons]; omega
theorem listAt_of {w : World} {lv : Value} {L : List Mb} (h : w.ownsRow 0 48 3 lv L.length (L.flatMap cellsM)) (hL : 0 < L.length) : ListAt w lv L := by
  obtain ⟨g, cap, rfl, hg, hlt⟩ := h.form hL
  refine ⟨g, cap, rfl, hlt, fun i m hi j v hj => ?_⟩
  have hj3 : j < 3 := by
    have := (List.getElem?_eq_some_iff.1 hj).1
    simpa [cellsM] using this
  have hi' := (List.getElem?_eq_some_iff.1 hi).1
  rw [World.ownsRow.cellAt h (i * 3 + j) (by omega), flat3_get L i j m hi hj3]
  exact hj
end Go.Proofs.YtmmfpkkkpeapeaaGreatDoor.mb

/- A world of membranes as the laws of layer 15 hold it; a way and its way back: plain laws. -/
set_option linter.unusedVariables false
namespace Go.Proofs.YtmmfpkkkpeapeaaGreatDoor.mb
open Go.RowKit Go.Maps mem rec ar
set_option maxHeartbeats 400000
/-- palinglaw15.W in block q: its arena behind p, its cache in cb; room for k more of each owner. -/
structure St (w0 w : World) (q p cb : Nat) (vr v : Nat → Value) (A : Ar) (C : Ca) (L : List Mb) (k : Nat) (d : Int) : Prop where
  rw_ : Rw w q (.pointer (some ⟨p, 0, none⟩)) (.map (some cb)) vr (lenW L.length 4) (rowW L 4)
  wr : Wr w p cb v A C L k d
  dj : ∀ b ∈ foot q vr, b ∉ cb :: foot p v
  f1 : ∀ b ∈ foot q vr, w0.heap.size ≤ b
  f2 : ∀ b ∈ cb :: foot p v, w0.heap.size ≤ b
  sd : ∀ m ∈ L, (0 ≤ m.1 ∧ m.1 < 4) ∧ (0 ≤ m.2.1 ∧ m.2.1 < 4)
  bel : Up w0 w
section
variable {w0 w w1 : World} {q p cb k : Nat} {vr v v1 : Nat → Value} {A A1 : Ar} {C C1 : Ca} {L : List Mb} {d : Int}
theorem St.chg {F : List Nat} (h : St w0 w q p cb vr v A C L k d) (c : Chg F w w1) (h0 : ∀ b ∈ F, w0.heap.size ≤ b) (h1 : ∀ b ∈ foot q vr, b ∉ F) (h2 : ∀ b ∈ cb :: foot p v, b ∉ F) : St w0 w1 q p cb vr v A C L k d :=
  ⟨h.rw_.chg c h1, h.wr.chg c h2, h.dj, h.f1, h.f2, h.sd, Below.trans h.bel (c.below h.bel.size h0)⟩
theorem St.up (h : St w0 w q p cb vr v A C L k d) (u : Up w w1) : St w0 w1 q p cb vr v A C L k d := h.chg u.chg (by simp) (by simp) (by simp)
theorem St.less {j : Nat} {e : Int} (h : St w0 w q p cb vr v A C L k d) (hj : j ≤ k) (he : d ≤ e) : St w0 w q p cb vr v A C L j e := ⟨h.rw_, h.wr.less hj he, h.dj, h.f1, h.f2, h.sd, h.bel⟩
/-- Behind Pass. -/
theorem St.pass {wx : World} {j : Nat} {e : Int} (h : St w0 w q p cb vr v A C L k d) (u : Up w wx) (hw : Wr w1 p cb v1 A1 C1 L j e) (c : Chg (cb :: foot p v) wx w1) (fb : ∀ b ∈ foot p v1, b ∈ foot p v ∨ wx.heap.size ≤ b) : St w0 w1 q p cb vr v1 A1 C1 L j e := by
  have H := h.up u
  refine ⟨H.rw_.chg c H.dj, hw, fun b hb hx => ?_, h.f1, fun b hb => ?_, h.sd, Below.trans H.bel (c.below H.bel.size h.f2)⟩
  · rcases List.mem_cons.1 hx with h1 | h1
    · exact h.dj b hb (by rw [h1]; exact List.mem_cons_self ..)
    · rcases fb b h1 with h2 | h2
      · exact h.dj b hb (List.mem_cons_of_mem _ h2)
      · have := H.rw_.lt b hb; omega
  · rcases List.mem_cons.1 hb with h1 | h1
    · exact h.f2 b (by rw [h1]; exact List.mem_cons_self ..)
    · rcases fb b h1 with h2 | h2
      · exact h.f2 b (List.mem_cons_of_mem _ h2)
      · have := H.bel.size; omega
theorem St.list (h : St w0 w q p cb vr v A C L k d) (hL : 0 < L.length) : ListAt w (vr 0) L := listAt_of (h.rw_.ow 0 (by omega)) hL
theorem St.side (h : St w0 w q p cb vr v A C L k d) {m x y : Int} (ho : otherR L m x = some y) : (0 ≤ x ∧ x < 4) ∧ (0 ≤ y ∧ y < 4) := by
  unfold otherR mbAt at ho
  split at ho
  · rename_i s hs
    split at hs
    · have hm := h.sd s (List.mem_of_getElem? hs)
      by_cases e0 : x = s.1
      · rw [if_pos e0] at ho; cases ho; omega
      · rw [if_neg e0] at ho
        by_cases e1 : x = s.2.1
        · rw [if_pos e1] at ho; cases ho; omega
        · rw [if_neg e1] at ho; cases ho
    · cases hs
  · cases ho
end
/-- A way from an object s: through which membranes, whose it was ahead of each; where it is, whose it is now. -/
inductive Path (A : Ar) (L : List Mb) (s : Nat) : List (Int × Int) → Nat → Int → Prop
  | nil (o : Ob) : A.find s = some o → Path A L s [] s o.owner
  | snoc {bk : List (Int × Int)} {r r' : Nat} {at_ m into : Int} (o' : Ob) : Path A L s bk r at_ → otherR L m into = some at_ → deadR L m = false → (Lit.int .i64 m).wf = true → A.find r' = some o' → o'.owner = into → Lk A m r r' → Path A L s (bk ++ [(m, at_)]) r' into
theorem Path.old {A A' : Ar} {L : List Mb} {s r : Nat} {bk : List (Int × Int)} {at_ : Int} (h : Path A L s bk r at_) (k : Old A A') : Path A' L s bk r at_ := by
  induction h with
  | nil o h1 => exact .nil o (k _ _ h1)
  | snoc o' h1 h2 h3 h4 h5 h6 h7 ih => exact .snoc o' ih h2 h3 h4 (k _ _ h5) h6 (h7.old k)
theorem Path.found {A : Ar} {L : List Mb} {s r : Nat} {bk : List (Int × Int)} {at_ : Int} (h : Path A L s bk r at_) : ∃ o, A.find r = some o ∧ o.owner = at_ := by
  cases h with
  | nil o h1 => exact ⟨o, h1, rfl⟩
  | snoc o' _ _ _ _ h5 h6 _ => exact ⟨o', h5, h6⟩
theorem Path.start {A : Ar} {L : List Mb} {s r : Nat} {at_ : Int} (h : Path A L s [] r at_) : r = s := by
  generalize hb : ([] : List (Int × Int)) = bk at h
  cases h with
  | nil o h1 => rfl
  | snoc o' _ _ _ _ _ _ _ => simp at hb
theorem Path.last {A : Ar} {L : List Mb} {s r : Nat} {bk : List (Int × Int)} {x : Int × Int} {at_ : Int} (h : Path A L s (bk ++ [x]) r at_) : ∃ r0 o', Path A L s bk r0 x.2 ∧ otherR L x.1 at_ = some x.2 ∧ deadR L x.1 = false ∧ (Lit.int .i64 x.1).wf = true ∧ A.find r = some o' ∧ o'.owner = at_ ∧ Lk A x.1 r0 r := by
  generalize hb : bk ++ [x] = b2 at h
  cases h with
  | nil o h1 => simp at hb
  | snoc o' h1 h2 h3 h4 h5 h6 h7 =>
    obtain ⟨e1, e2⟩ := List.append_inj' hb rfl
    cases e1
    cases e2
    exact ⟨_, o', h1, h2, h3, h4, h5, h6, h7⟩
end Go.Proofs.YtmmfpkkkpeapeaaGreatDoor.mb

/- palinglaw14.parts: a brand's sealer, and its unsealer. -/
set_option linter.unusedVariables false
set_option linter.unusedSimpArgs false
namespace Go.Proofs.YtmmfpkkkpeapeaaGreatDoor.ar
open Go.RowKit Go.Maps mem rec
attribute [local go_sem ↓] Go.wp_at_zero Go.wp_at_succ
set_option maxRecDepth 100000
set_option maxHeartbeats 2000000
theorem parts_x (w : World) (p r S U n bm m : Nat) (v : Nat → Value) (A : Ar) (D : DataW V3) (oS oU : Ob) (h : Parts w p v A) (hr : r < 18446744073709551616) (hf : A.find r = some (recOb n bm)) (hown : w.ownsMap Tryz.prog 51 R3 bm m D)
    (hS : ∀ l, keyOf Tryz.prog 51 (val (3, 0, sealB)) = some l → atv D l = (5, (S : Int), ⟨#[]⟩)) (hU : ∀ l, keyOf Tryz.prog 51 (val (3, 0, unsealB)) = some l → atv D l = (5, (U : Int), ⟨#[]⟩))
    (lS : S < 9223372036854775808) (lU : U < 9223372036854775808) (fS : A.find S = some oS) (fU : A.find U = some oU) :
    Calls Tryz.prog 48 #[.pointer (some ⟨p, 0, none⟩), .int .u64 r] w fun e w' => e = .returned (.tuple #[.int .u64 S, .int .u64 U, .bool true]) ∧ Up w w' := by
  obtain ⟨s, hs, -⟩ := find_slot hf
  obtain ⟨g, cap, -, hog, -⟩ := h.obAt hs
  have OB := obAt_find hog h hf
  have c0 := OB 0 _ rfl
  have c3 := OB 3 _ rfl
  have GA : Hid (∀ wx, Up w wx → ∀ x : Nat, (x = r ∨ x = S ∨ x = U) → Calls Tryz.prog 14 #[.pointer (some ⟨p, 0, none⟩), .int .u64 x] wx fun e w' => e = .returned (.pointer (some ⟨g, (x % 4294967296) * 16 + 2, none⟩)) ∧ Up wx w') := by
    intro wx hx x hxx
    rcases hxx with rfl | rfl | rfl
    · refine (get_at wx p _ v A _ g hog (h.up hx) hr hf).mono ?_
      rintro e w' ⟨rfl, hU'⟩; exact ⟨rfl, hU'⟩
    · refine (get_at wx p _ v A _ g hog (h.up hx) (by omega) fS).mono ?_
      rintro e w' ⟨rfl, hU'⟩; exact ⟨rfl, hU'⟩
    · refine (get_at wx p _ v A _ g hog (h.up hx) (by omega) fU).mono ?_
      rintro e w' ⟨rfl, hU'⟩; exact ⟨rfl, hU'⟩
  obtain ⟨l1, hl1⟩ := key_of 3 0 sealB (by decide) (by decide) (by decide)
  obtain ⟨l2, hl2⟩ := key_of 3 0 unsealB (by decide) (by decide) (by decide)
  have G1 : Hid (∀ wx, Up w wx → Calls Tryz.prog 59 #[.pointer (some ⟨g, (r % 4294967296) * 16 + 2, none⟩), val (3, 0, sealB)] wx fun e w' => e = .returned (.tuple #[val (5, (S : Int), ⟨#[]⟩), .int .i64 0]) ∧ Up wx w') := by
    intro wx hx
    refine (get_key g _ bm m D (3, 0, sealB) l1 wx (up_cell hx c0) (up_cell hx c3) (owns_up hown hx) rfl hl1).mono ?_
    rintro e w' ⟨rfl, hU'⟩; exact ⟨by rw [hS l1 hl1], hU'⟩
  have G2 : Hid (∀ wx, Up w wx → Calls Tryz.prog 59 #[.pointer (some ⟨g, (r % 4294967296) * 16 + 2, none⟩), val (3, 0, unsealB)] wx fun e w' => e = .returned (.tuple #[val (5, (U : Int), ⟨#[]⟩), .int .i64 0]) ∧ Up wx w') := by
    intro wx hx
    refine (get_key g _ bm m D (3, 0, unsealB) l2 wx (up_cell hx c0) (up_cell hx c3) (owns_up hown hx) rfl hl2).mono ?_
    rintro e w' ⟨rfl, hU'⟩; exact ⟨by rw [hU l2 hl2], hU'⟩
  have W1 := Lib.hid (words_x sealB)
  have W2 := Lib.hid (words_x unsealB)
  have F1 := Lib.hid (ref_x S lS ⟨#[]⟩)
  have F2 := Lib.hid (ref_x U lU ⟨#[]⟩)
  simp only [val, sealB, unsealB] at G1 G2 W1 W2
  clear OB c0 c3 hog hs hown hS hU hf fS fU hl1 hl2 h
  go_enter Tryz.func48, Tryz.ntmps48
  go_upto_region 3 with (first
    | (go_at_call 14; refine (GA.out _ (Up.refl _) _ (.inl rfl)).mono ?_; rintro e w1 ⟨rfl, hU1⟩)
    | (go_at_call 57; refine (W1.out _).mono ?_; rintro e w2 ⟨rfl, rfl⟩)
    | (go_at_call 59; refine (G1.out _ (hU1.alloc _)).mono ?_; rintro e w3 ⟨rfl, hU3⟩))
  have hU3' : Up w w3 := (hU1.alloc _).trans hU3
  have B3 := Lib.hid (has3_alloc w3 (.int .u8 5) (.int .i64 S) (.string ⟨#[]⟩) 51)
  have hz3 := hU3'.size
  go_upto_region 4 with (first
    | (go_at_call 57; refine (W2.out _).mono ?_; rintro e w2 ⟨rfl, rfl⟩)
    | (go_at_call 59; refine (G2.out _ ((hU3'.alloc _).alloc _)).mono ?_; rintro e w5 ⟨rfl, hU5⟩))
  have U5 : Up (w3.alloc (.cells #[.int .u8 5, .int .i64 S, .string ⟨#[]⟩] 51)) w5 := ((Up.refl _).alloc _).trans hU5
  have B5 := Lib.hid (B3.out.up (U5.alloc (.cells #[.int .u8 5, .int .i64 U, .string ⟨#[]⟩] 51)))
  have C5 := Lib.hid (has3_alloc w5 (.int .u8 5) (.int .i64 U) (.string ⟨#[]⟩) 51)
  have V5 := Lib.hid ((hU3'.alloc _).trans (U5.alloc (.cells #[.int .u8 5, .int .i64 U, .string ⟨#[]⟩] 51)))
  clear G1 G2 W1 W2 hU1 hU3 hU5 U5 hU3'
  have KP : Hid (∀ w', Up (w5.alloc (.cells #[.int .u8 5, .int .i64 U, .string ⟨#[]⟩] 51)) w' → (Up (w5.alloc (.cells #[.int .u8 5, .int .i64 U, .string ⟨#[]⟩] 51)) w' ∧ w'.cell? ⟨w3.heap.size, 0, none⟩ = some (.int .u8 5) ∧ w'.cell? ⟨w3.heap.size, 1, none⟩ = some (.int .i64 S) ∧ w'.cell? ⟨w3.heap.size, 2, none⟩ = some (.string ⟨#[]⟩) ∧ w'.cell? ⟨w5.heap.size, 0, none⟩ = some (.int .u8 5) ∧ w'.cell? ⟨w5.heap.size, 1, none⟩ = some (.int .i64 U) ∧ w'.cell? ⟨w5.heap.size, 2, none⟩ = some (.string ⟨#[]⟩))) := fun w' hu =>
    ⟨hu, up_cell hu B5.out.2.1.1, up_cell hu B5.out.2.1.2.1, up_cell hu B5.out.2.1.2.2, up_cell hu C5.out.2.1.1, up_cell hu C5.out.2.1.2.1, up_cell hu C5.out.2.1.2.2⟩
  go_region_held3 (fun w' => Up (w5.alloc (.cells #[.int .u8 5, .int .i64 U, .string ⟨#[]⟩] 51)) w' ∧ w'.cell? ⟨w3.heap.size, 0, none⟩ = some (.int .u8 5) ∧ w'.cell? ⟨w3.heap.size, 1, none⟩ = some (.int .i64 S) ∧ w'.cell? ⟨w3.heap.size, 2, none⟩ = some (.string ⟨#[]⟩) ∧ w'.cell? ⟨w5.heap.size, 0, none⟩ = some (.int .u8 5) ∧ w'.cell? ⟨w5.heap.size, 1, none⟩ = some (.int .i64 U) ∧ w'.cell? ⟨w5.heap.size, 2, none⟩ = some (.string ⟨#[]⟩))
    ((refine KP.out _ ?_; (repeat (first | assumption | (apply And.left; assumption) | (with_reducible refine Up.trans ?_ hU2) | exact Up.refl _ | (with_reducible refine Up.drew ?_) | (with_reducible refine Up.alloc ?_ _)))))
    (first
      | (go_at_call 15; first | (with_reducible refine (F1.out _).mono ?_; rintro e w2 ⟨rfl, rfl⟩) | (with_reducible refine (F2.out _).mono ?_; rintro e w2 ⟨rfl, rfl⟩))
      | (go_at_call 14; first | (with_reducible refine (GA.out _ ?_ S (.inr (.inl rfl))).mono ?_; (· refine V5.out.trans ?_; (repeat (first | assumption | (apply And.left; assumption) | exact Up.refl _ | (with_reducible refine Up.drew ?_) | (with_reducible refine Up.alloc ?_ _)))); rintro e w2 ⟨rfl, hU2⟩) | (with_reducible refine (GA.out _ ?_ U (.inr (.inr rfl))).mono ?_; (· refine V5.out.trans ?_; (repeat (first | assumption | (apply And.left; assumption) | exact Up.refl _ | (with_reducible refine Up.drew ?_) | (with_reducible refine Up.alloc ?_ _)))); rintro e w2 ⟨rfl, hU2⟩)))
  all_goals
    go_wp2_with fail
    refine bodyPost_ret (v := .tuple #[.int .u64 S, .int .u64 U, .bool true]) (by simp [results, Tryz.results48, go_sem]) rfl ⟨rfl, V5.out.trans ?_⟩
    apply And.left
    assumption
end Go.Proofs.YtmmfpkkkpeapeaaGreatDoor.ar

/- WrapPasses: the list of things; its closures, IndexFunc and ContainsFunc over it: walked. -/
set_option linter.unusedVariables false
set_option linter.unusedSimpArgs false
namespace Go.Proofs.YtmmfpkkkpeapeaaGreatDoor.wy
open Go.RowKit Go.Maps mem rec ar mb
attribute [local go_sem ↓] Go.wp_at_zero Go.wp_at_succ
set_option maxRecDepth 100000
set_option maxHeartbeats 1000000
/-- A thing: its name, whose it is; of a proxy the membrane, what it stands for; how deep. -/
structure Th where
  r : Nat
  owner : Int
  m : Int
  target : Nat
  deep : Int
def cellsT (t : Th) : List Value := [.int .u64 (t.r : Int), .int .i64 t.owner, .int .i64 t.m, .int .u64 (t.target : Int), .int .i64 t.deep]
def ThAt (w : World) (b o : Nat) (t : Th) : Prop := w.cell? ⟨b, o, none⟩ = some (.int .u64 (t.r : Int)) ∧ w.cell? ⟨b, o + 1, none⟩ = some (.int .i64 t.owner) ∧ w.cell? ⟨b, o + 2, none⟩ = some (.int .i64 t.m) ∧ w.cell? ⟨b, o + 3, none⟩ = some (.int .u64 (t.target : Int)) ∧ w.cell? ⟨b, o + 4, none⟩ = some (.int .i64 t.deep)
theorem up_cell {w w' : World} {p : Addr} {v : Value} (u : Up w w') (h : w.cell? p = some v) : w'.cell? p = some v := (u.chg.cell (World.block_lt_of_cell? w _ h) (by simp)).trans h
theorem ThAt.up {w w' : World} {b o : Nat} {t : Th} (h : ThAt w b o t) (u : Up w w') : ThAt w' b o t := ⟨up_cell u h.1, up_cell u h.2.1, up_cell u h.2.2.1, up_cell u h.2.2.2.1, up_cell u h.2.2.2.2⟩
theorem flat5_get : ∀ (l : List Th) (n j : Nat) (s : Th), l[n]? = some s → j < 5 → (l.flatMap cellsT)[n * 5 + j]? = (cellsT s)[j]?
  | [], n, j, s, h, _ => by simp at h
  | a :: l, 0, j, s, h, hj => by
    simp at h; subst h
    rw [List.flatMap_cons, List.getElem?_append_left (by show _ < 5; omega)]; simp
  | a :: l, n + 1, j, s, h, hj => by
    simp at h
    rw [List.flatMap_cons, List.getElem?_append_right (by show 5 ≤ _; omega), show (cellsT a).length = 5 from rfl, show (n + 1) * 5 + j - 5 = n * 5 + j by omega]
    exact flat5_get l n j s h hj
/-- A slice of things. -/
def ThsAt (w : World) (v : Value) (l : List Th) : Prop :=
  ∃ (a : Option Addr) (cap : Nat), v = .slice a l.length cap ∧ (l.length = 0 ∨ ∃ b, a = some ⟨b, 0, none⟩ ∧ b < w.heap.size ∧ ∀ i x, l[i]? = some x → ThAt w b (i * 5) x)
theorem ths_of {w : World} {base : Nat} {v : Value} {l : List Th} (h : w.ownsRow base 43 5 v l.length (l.flatMap cellsT)) : ThsAt w v l := by
  by_cases h0 : l.length = 0
  · rcases h.2 with ⟨e, -⟩ | ⟨g, cap, cur, e, -⟩
    · exact ⟨none, 0, by rw [h0]; exact e, .inl h0⟩
    · exact ⟨some ⟨g, 0, none⟩, cap, e, .inl h0⟩
  obtain ⟨g, c, rfl, -, hlt⟩ := h.form (by omega)
  refine ⟨some ⟨g, 0, none⟩, c, rfl, .inr ⟨g, rfl, hlt, fun i x hx => ?_⟩⟩
  have hi := (List.getElem?_eq_some_iff.1 hx).1
  have cell : ∀ j, j < 5 → w.cell? ⟨g, i * 5 + j, none⟩ = (cellsT x)[j]? := fun j hj => by
    rw [World.ownsRow.cellAt h (i * 5 + j) (by omega)]
    exact flat5_get l i j x hx hj
  exact ⟨cell 0 (by omega), cell 1 (by omega), cell 2 (by omega), cell 3 (by omega), cell 4 (by omega)⟩
theorem ThsAt.up {w w' : World} {v : Value} {l : List Th} (h : ThsAt w v l) (u : Up w w') : ThsAt w' v l := by
  obtain ⟨a, cap, e, h⟩ := h
  refine ⟨a, cap, e, h.imp id ?_⟩
  rintro ⟨b, e1, e2, e3⟩
  exact ⟨b, e1, Nat.lt_of_lt_of_le e2 u.size, fun i x hx => (e3 i x hx).up u⟩
def hitT (m : Int) (r : Nat) (t : Th) : Bool := decide (t.m = m ∧ t.target = r)
theorem same_x (t : Th) (b13 b15 : Nat) (m : Int) (r : Nat) (w : World) (h13 : w.cell? ⟨b13, 0, none⟩ = some (.int .i64 m)) (h15 : w.cell? ⟨b15, 0, none⟩ = some (.int .u64 (r : Int))) :
    Calls Tryz.prog 13 #[.agg #[.int .u64 (t.r : Int), .int .i64 t.owner, .int .i64 t.m, .int .u64 (t.target : Int), .int .i64 t.deep], .pointer (some ⟨b13, 0, none⟩), .pointer (some ⟨b15, 0, none⟩)] w fun e w' => e = .returned (.bool (hitT m r t)) ∧ Up w w' := by
  obtain ⟨tr, towner, tm, ttarget, tdeep⟩ := t
  simp only
  have hp := World.block_lt_of_cell? w _ h13
  have hq := World.block_lt_of_cell? w _ h15
  simp only at hp hq
  have np : b13 ≠ w.heap.size := by omega
  have nq : b15 ≠ w.heap.size := by omega
  by_cases e1 : tm = m
  · subst e1
    by_cases e2 : ttarget = r
    · subst e2
      have hh : hitT tm ttarget ⟨tr, towner, tm, ttarget, tdeep⟩ = true := by simp [hitT]
      rw [hh]
      go_enter Tryz.func13, Tryz.ntmps13
      go_wp2_with fail
      go_ret
      exact ⟨rfl, (Below.refl _ w).alloc (Nat.le_refl _) _⟩
    · have z : ((ttarget : Int) == (r : Int)) = false := beq_eq_false_iff_ne.2 (by omega)
      have z2 : decide ((ttarget : Int) = (r : Int)) = false := decide_eq_false (by omega)
      have hh : hitT tm r ⟨tr, towner, tm, ttarget, tdeep⟩ = false := by simp [hitT, e2]
      rw [hh]
      clear e2
      go_enter Tryz.func13, Tryz.ntmps13
      go_wp2_with fail
      go_ret
      exact ⟨rfl, (Below.refl _ w).alloc (Nat.le_refl _) _⟩
  · have z : (tm == m) = false := beq_eq_false_iff_ne.2 e1
    have z2 : decide (tm = m) = false := decide_eq_false e1
    have hh : hitT m r ⟨tr, towner, tm, ttarget, tdeep⟩ = false := by simp [hitT, e1]
    rw [hh]
    clear e1
    go_enter Tryz.func13, Tryz.ntmps13
    go_wp2_with fail
    go_ret
    exact ⟨rfl, (Below.refl _ w).alloc (Nat.le_refl _) _⟩
end Go.Proofs.YtmmfpkkkpeapeaaGreatDoor.wy

/- wrap.Other, wrap.Dead. -/
set_option linter.unusedVariables false
set_option linter.unusedSimpArgs false
namespace Go.Proofs.YtmmfpkkkpeapeaaGreatDoor.mb
open Go.RowKit Go.Maps mem rec ar
attribute [local go_sem ↓] Go.wp_at_zero Go.wp_at_succ
set_option maxRecDepth 100000
set_option maxHeartbeats 400000
theorem dead_x (w : World) (lv : Value) (L : List Mb) (m : Int) (h : ListAt w lv L) : Calls Tryz.prog 36 #[lv, .int .i64 m] w fun e w' => e = .returned (.bool (deadR L m)) ∧ w' = w := by
  obtain ⟨b, cap, rfl, hb, hc⟩ := h
  by_cases h0 : m < 0
  · have E : Hid (deadR L m = true) := by show deadR L m = true; unfold deadR mbAt; rw [if_neg (by omega)]
    clear hc
    go_enter Tryz.func36, Tryz.ntmps36
    go_wp2
    go_ret
    exact ⟨by rw [E.out]; rfl, rfl⟩
  obtain ⟨i, rfl⟩ : ∃ i : Nat, m = (i : Int) := ⟨m.toNat, by omega⟩
  clear h0
  by_cases h1 : i < L.length
  · obtain ⟨x, hx⟩ : ∃ x, L[i]? = some x := ⟨_, List.getElem?_eq_getElem h1⟩
    have E : Hid (deadR L i = x.2.2) := by show deadR L i = x.2.2; unfold deadR mbAt; rw [if_pos (by omega), Int.toNat_natCast, hx]
    have c2 := hc i x hx 2 _ rfl
    obtain ⟨x0, x1, x2⟩ := x
    simp only at c2 E
    have i0 : (0 : Int) ≤ (i : Int) := by omega
    have i1 : (i : Int) < (L.length : Int) := by omega
    have i2 : ¬ (L.length : Int) ≤ (i : Int) := by omega
    clear hc hx
    generalize L.length = len at *
    go_enter Tryz.func36, Tryz.ntmps36
    go_wp2
    go_ret
    have hd : decide ((i : Int) < 0) = false := by simp
    refine ⟨?_, rfl⟩
    rw [E.out]
    show Ending.returned (.bool (decide ((i : Int) < 0) || x2)) = _
    rw [hd]
    rfl
  · have E : Hid (deadR L i = true) := by show deadR L i = true; unfold deadR mbAt; rw [if_pos (by omega), Int.toNat_natCast, List.getElem?_eq_none (by omega)]
    have i0 : (0 : Int) ≤ (i : Int) := by omega
    have i2 : (L.length : Int) ≤ (i : Int) := by omega
    clear hc
    generalize L.length = len at *
    go_enter Tryz.func36, Tryz.ntmps36
    go_wp2
    go_ret
    exact ⟨by rw [E.out]; rfl, rfl⟩
theorem other_x (w : World) (lv : Value) (L : List Mb) (m owner : Int) (h : ListAt w lv L) : Calls Tryz.prog 35 #[lv, .int .i64 m, .int .i64 owner] w fun e w' => e = .returned (.tuple #[.int .i64 ((otherR L m owner).getD 0), .bool (otherR L m owner).isSome]) ∧ Up w w' := by
  obtain ⟨b, cap, rfl, hb, hc⟩ := h
  by_cases h0 : m < 0
  · have E : Hid (otherR L m owner = none) := by show otherR L m owner = none; unfold otherR mbAt; rw [if_neg (by omega)]
    clear hc
    go_enter Tryz.func35, Tryz.ntmps35
    go_wp2
    go_ret2
    exact ⟨by rw [E.out]; rfl, Up.refl _⟩
  obtain ⟨i, rfl⟩ : ∃ i : Nat, m = (i : Int) := ⟨m.toNat, by omega⟩
  clear h0
  by_cases h1 : i < L.length
  · obtain ⟨x, hx⟩ : ∃ x, L[i]? = some x := ⟨_, List.getElem?_eq_getElem h1⟩
    have c0 := hc i x hx 0 _ rfl
    have c1 := hc i x hx 1 _ rfl
    have E0 : otherR L i owner = if owner = x.1 then some x.2.1 else if owner = x.2.1 then some x.1 else none := by unfold otherR mbAt; rw [if_pos (by omega), Int.toNat_natCast, hx]
    obtain ⟨x0, x1, x2⟩ := x
    simp only [Nat.add_zero] at c0 c1 E0
    have i0 : (0 : Int) ≤ (i : Int) := by omega
    have i1 : (i : Int) < (L.length : Int) := by omega
    have i2 : ¬ (L.length : Int) ≤ (i : Int) := by omega
    clear hc hx
    by_cases h2 : owner = x0
    · have E := Lib.hid (E0.trans (if_pos h2))
      subst h2
      clear E0
      generalize L.length = len at *
      go_enter Tryz.func35, Tryz.ntmps35
      go_wp2
      go_ret2
      exact ⟨by rw [E.out]; rfl, (Up.refl _).alloc _⟩
    · by_cases h3 : owner = x1
      · have E := Lib.hid (E0.trans ((if_neg h2).trans (if_pos h3)))
        have b2 : (owner == x0) = false := by simpa using h2
        subst h3
        clear E0
        generalize L.length = len at *
        go_enter Tryz.func35, Tryz.ntmps35
        go_wp2
        go_ret2
        exact ⟨by rw [E.out]; rfl, (Up.refl _).alloc _⟩
      · have E := Lib.hid (E0.trans ((if_neg h2).trans (if_neg h3)))
        have b2 : (owner == x0) = false := by simpa using h2
        have b3 : (owner == x1) = false := by simpa using h3
        clear E0
        generalize L.length = len at *
        go_enter Tryz.func35, Tryz.ntmps35
        go_wp2
        go_ret2
        exact ⟨by rw [E.out]; rfl, (Up.refl _).alloc _⟩
  · have E : Hid (otherR L i owner = none) := by show otherR L i owner = none; unfold otherR mbAt; rw [if_pos (by omega), Int.toNat_natCast, List.getElem?_eq_none (by omega)]
    have i0 : (0 : Int) ≤ (i : Int) := by omega
    have i2 : (L.length : Int) ≤ (i : Int) := by omega
    clear hc
    generalize L.length = len at *
    go_enter Tryz.func35, Tryz.ntmps35
    go_wp2
    go_ret2
    exact ⟨by rw [E.out]; rfl, Up.refl _⟩
end Go.Proofs.YtmmfpkkkpeapeaaGreatDoor.mb

/- wrap.Pass, way by way (printed by pass_gen.py). -/
set_option linter.unusedVariables false
set_option linter.unusedSimpArgs false
namespace Go.Proofs.YtmmfpkkkpeapeaaGreatDoor.mb
open Go.RowKit Go.Maps mem rec ar
attribute [local go_sem ↓] Go.wp_at_zero Go.wp_at_succ
set_option maxRecDepth 100000
set_option maxHeartbeats 1000000
theorem pass_no (w : World) (lv : Value) (p cb : Nat) (m into : Int) (L : List Mb) (k n : Int) (s : ByteArray) (hl : ListAt w lv L) (hp : p < w.heap.size) (ho : otherR L m into = none) :
    Calls Tryz.prog 9 #[lv, .pointer (some ⟨p, 0, none⟩), .map (some cb), .int .i64 m, .int .i64 into, val (k, n, s)] w fun e w' => e = .returned (.tuple #[val zero3, .int .i64 4]) ∧ Up w w' := by
  have hU : Up w ((w.alloc (.cells #[.int .u8 k, .int .i64 n, .string s] 51)).alloc (.cells #[.int .u8 0, .int .i64 0, .string ⟨#[]⟩] 51)) := ((Up.refl w).alloc _).alloc _
  have B0 := Lib.hid ((has3_alloc w (.int .u8 k) (.int .i64 n) (.string s) 51).up ((Up.refl _).alloc (.cells #[.int .u8 0, .int .i64 0, .string ⟨#[]⟩] 51)))
  have B1 := Lib.hid (has3_alloc2 w (.cells #[.int .u8 k, .int .i64 n, .string s] 51) (.int .u8 0) (.int .i64 0) (.string ⟨#[]⟩) 51)
  have OX : Hid (∀ wx, Up w wx → Calls Tryz.prog 35 #[lv, .int .i64 m, .int .i64 into] wx fun e w' => e = .returned (.tuple #[.int .i64 0, .bool false]) ∧ Up wx w') := by
    intro wx hx
    refine (other_x wx lv L m into (hl.up hx)).mono ?_
    rintro e w' ⟨rfl, hu⟩
    exact ⟨by rw [ho]; rfl, hu⟩
  clear ho hl
  have HU := Lib.hid hU
  clear hU
  show Calls Tryz.prog 9 #[lv, .pointer (some ⟨p, 0, none⟩), .map (some cb), .int .i64 m, .int .i64 into, .agg #[.int .u8 k, .int .i64 n, .string s]] w _
  go_enter Tryz.func9, Tryz.ntmps9
  go_wp2_with (first
    | (go_at_call 35; refine (OX.out _ HU.out).mono ?_; rintro e w1 ⟨rfl, hU1⟩; obtain ⟨z1, ⟨f0, f1, f2⟩, ⟨g0, g1, g2⟩⟩ := B1.out.up hU1; obtain ⟨y1, ⟨e0, e1, e2⟩, -⟩ := B0.out.up hU1)
)
  have B3 := (Has3.store (B1.out.up hU1) (.int .u8 0) (.int .i64 0) (.string ⟨#[]⟩))
  obtain ⟨-, ⟨q1, q2, q3⟩, -⟩ := B3
  refine bodyPost_ret (v := .tuple #[.agg #[.int .u8 0, .int .i64 0, .string ⟨#[]⟩], .int .i64 4]) (by simp [results, Tryz.results9, go_sem, q1, q2, q3]) rfl ⟨rfl, ?_⟩
  exact (((HU.out.trans hU1).setCell (p := ⟨w.heap.size + 1, 0, none⟩) (Nat.le_succ _) _).setCell (p := ⟨w.heap.size + 1, 1, none⟩) (Nat.le_succ _) _).setCell (p := ⟨w.heap.size + 1, 2, none⟩) (Nat.le_succ _) _
theorem pass_dead (w : World) (lv : Value) (p cb : Nat) (m into : Int) (L : List Mb) (k n from_ : Int) (s : ByteArray) (hl : ListAt w lv L) (hp : p < w.heap.size) (ho : otherR L m into = some from_) (hd : deadR L m = true) :
    Calls Tryz.prog 9 #[lv, .pointer (some ⟨p, 0, none⟩), .map (some cb), .int .i64 m, .int .i64 into, val (k, n, s)] w fun e w' => e = .returned (.tuple #[val zero3, .int .i64 12]) ∧ Up w w' := by
  have hU : Up w ((w.alloc (.cells #[.int .u8 k, .int .i64 n, .string s] 51)).alloc (.cells #[.int .u8 0, .int .i64 0, .string ⟨#[]⟩] 51)) := ((Up.refl w).alloc _).alloc _
  have B0 := Lib.hid ((has3_alloc w (.int .u8 k) (.int .i64 n) (.string s) 51).up ((Up.refl _).alloc (.cells #[.int .u8 0, .int .i64 0, .string ⟨#[]⟩] 51)))
  have B1 := Lib.hid (has3_alloc2 w (.cells #[.int .u8 k, .int .i64 n, .string s] 51) (.int .u8 0) (.int .i64 0) (.string ⟨#[]⟩) 51)
  have OX : Hid (∀ wx, Up w wx → Calls Tryz.prog 35 #[lv, .int .i64 m, .int .i64 into] wx fun e w' => e = .returned (.tuple #[.int .i64 from_, .bool true]) ∧ Up wx w') := by
    intro wx hx
    refine (other_x wx lv L m into (hl.up hx)).mono ?_
    rintro e w' ⟨rfl, hu⟩
    exact ⟨by rw [ho]; rfl, hu⟩
  have DX : Hid (∀ wx, Up w wx → Calls Tryz.prog 36 #[lv, .int .i64 m] wx fun e w' => e = .returned (.bool true) ∧ w' = wx) := by
    intro wx hx
    refine (dead_x wx lv L m (hl.up hx)).mono ?_
    rintro e w' ⟨rfl, hu⟩
    exact ⟨by rw [hd], hu⟩
  clear ho hl hd
  have HU := Lib.hid hU
  clear hU
  show Calls Tryz.prog 9 #[lv, .pointer (some ⟨p, 0, none⟩), .map (some cb), .int .i64 m, .int .i64 into, .agg #[.int .u8 k, .int .i64 n, .string s]] w _
  go_enter Tryz.func9, Tryz.ntmps9
  go_wp2_with (first
    | (go_at_call 35; refine (OX.out _ HU.out).mono ?_; rintro e w1 ⟨rfl, hU1⟩; obtain ⟨z1, ⟨f0, f1, f2⟩, ⟨g0, g1, g2⟩⟩ := B1.out.up hU1; obtain ⟨y1, ⟨e0, e1, e2⟩, -⟩ := B0.out.up hU1)
    | (go_at_call 36; refine (DX.out _ (HU.out.trans hU1)).mono ?_; rintro e w2 ⟨rfl, rfl⟩)
)
  have B3 := (Has3.store (B1.out.up hU1) (.int .u8 0) (.int .i64 0) (.string ⟨#[]⟩))
  obtain ⟨-, ⟨q1, q2, q3⟩, -⟩ := B3
  refine bodyPost_ret (v := .tuple #[.agg #[.int .u8 0, .int .i64 0, .string ⟨#[]⟩], .int .i64 12]) (by simp [results, Tryz.results9, go_sem, q1, q2, q3]) rfl ⟨rfl, ?_⟩
  exact (((HU.out.trans hU1).setCell (p := ⟨w.heap.size + 1, 0, none⟩) (Nat.le_succ _) _).setCell (p := ⟨w.heap.size + 1, 1, none⟩) (Nat.le_succ _) _).setCell (p := ⟨w.heap.size + 1, 2, none⟩) (Nat.le_succ _) _
theorem pass_plain (w : World) (lv : Value) (p cb : Nat) (m into : Int) (L : List Mb) (k n from_ : Int) (s : ByteArray) (hl : ListAt w lv L) (hp : p < w.heap.size) (ho : otherR L m into = some from_) (hd : deadR L m = false) (hk : (k == 5) = false) :
    Calls Tryz.prog 9 #[lv, .pointer (some ⟨p, 0, none⟩), .map (some cb), .int .i64 m, .int .i64 into, val (k, n, s)] w fun e w' => e = .returned (.tuple #[val (k, n, s), .int .i64 0]) ∧ Up w w' := by
  have hU : Up w ((w.alloc (.cells #[.int .u8 k, .int .i64 n, .string s] 51)).alloc (.cells #[.int .u8 0, .int .i64 0, .string ⟨#[]⟩] 51)) := ((Up.refl w).alloc _).alloc _
  have B0 := Lib.hid ((has3_alloc w (.int .u8 k) (.int .i64 n) (.string s) 51).up ((Up.refl _).alloc (.cells #[.int .u8 0, .int .i64 0, .string ⟨#[]⟩] 51)))
  have B1 := Lib.hid (has3_alloc2 w (.cells #[.int .u8 k, .int .i64 n, .string s] 51) (.int .u8 0) (.int .i64 0) (.string ⟨#[]⟩) 51)
  have OX : Hid (∀ wx, Up w wx → Calls Tryz.prog 35 #[lv, .int .i64 m, .int .i64 into] wx fun e w' => e = .returned (.tuple #[.int .i64 from_, .bool true]) ∧ Up wx w') := by
    intro wx hx
    refine (other_x wx lv L m into (hl.up hx)).mono ?_
    rintro e w' ⟨rfl, hu⟩
    exact ⟨by rw [ho]; rfl, hu⟩
  have DX : Hid (∀ wx, Up w wx → Calls Tryz.prog 36 #[lv, .int .i64 m] wx fun e w' => e = .returned (.bool false) ∧ w' = wx) := by
    intro wx hx
    refine (dead_x wx lv L m (hl.up hx)).mono ?_
    rintro e w' ⟨rfl, hu⟩
    exact ⟨by rw [hd], hu⟩
  clear ho hl hd
  have HU := Lib.hid hU
  clear hU
  show Calls Tryz.prog 9 #[lv, .pointer (some ⟨p, 0, none⟩), .map (some cb), .int .i64 m, .int .i64 into, .agg #[.int .u8 k, .int .i64 n, .string s]] w _
  go_enter Tryz.func9, Tryz.ntmps9
  go_wp2_with (first
    | (go_at_call 35; refine (OX.out _ HU.out).mono ?_; rintro e w1 ⟨rfl, hU1⟩; obtain ⟨z1, ⟨f0, f1, f2⟩, ⟨g0, g1, g2⟩⟩ := B1.out.up hU1; obtain ⟨y1, ⟨e0, e1, e2⟩, -⟩ := B0.out.up hU1)
    | (go_at_call 36; refine (DX.out _ (HU.out.trans hU1)).mono ?_; rintro e w2 ⟨rfl, rfl⟩)
)
  have B3 := (Has3.store (B1.out.up hU1) (.int .u8 k) (.int .i64 n) (.string s))
  obtain ⟨-, ⟨q1, q2, q3⟩, -⟩ := B3
  refine bodyPost_ret (v := .tuple #[.agg #[.int .u8 k, .int .i64 n, .string s], .int .i64 0]) (by simp [results, Tryz.results9, go_sem, q1, q2, q3]) rfl ⟨rfl, ?_⟩
  exact (((HU.out.trans hU1).setCell (p := ⟨w.heap.size + 1, 0, none⟩) (Nat.le_succ _) _).setCell (p := ⟨w.heap.size + 1, 1, none⟩) (Nat.le_succ _) _).setCell (p := ⟨w.heap.size + 1, 2, none⟩) (Nat.le_succ _) _
theorem pass_gone (w : World) (lv : Value) (p cb : Nat) (m into : Int) (L : List Mb) (r : Nat) (from_ : Int) (v : Nat → Value) (A : Ar) (hr : r < 9223372036854775808) (h : Parts w p v A) (hl : ListAt w lv L) (hp : p < w.heap.size) (ho : otherR L m into = some from_) (hd : deadR L m = false) (hf : A.find r = none) :
    Calls Tryz.prog 9 #[lv, .pointer (some ⟨p, 0, none⟩), .map (some cb), .int .i64 m, .int .i64 into, val (5, (r : Int), ⟨#[]⟩)] w fun e w' => e = .returned (.tuple #[val zero3, .int .i64 17]) ∧ Up w w' := by
  have hU : Up w ((w.alloc (.cells #[.int .u8 5, .int .i64 r, .string ⟨#[]⟩] 51)).alloc (.cells #[.int .u8 0, .int .i64 0, .string ⟨#[]⟩] 51)) := ((Up.refl w).alloc _).alloc _
  have B0 := Lib.hid ((has3_alloc w (.int .u8 5) (.int .i64 r) (.string ⟨#[]⟩) 51).up ((Up.refl _).alloc (.cells #[.int .u8 0, .int .i64 0, .string ⟨#[]⟩] 51)))
  have B1 := Lib.hid (has3_alloc2 w (.cells #[.int .u8 5, .int .i64 r, .string ⟨#[]⟩] 51) (.int .u8 0) (.int .i64 0) (.string ⟨#[]⟩) 51)
  have OX : Hid (∀ wx, Up w wx → Calls Tryz.prog 35 #[lv, .int .i64 m, .int .i64 into] wx fun e w' => e = .returned (.tuple #[.int .i64 from_, .bool true]) ∧ Up wx w') := by
    intro wx hx
    refine (other_x wx lv L m into (hl.up hx)).mono ?_
    rintro e w' ⟨rfl, hu⟩
    exact ⟨by rw [ho]; rfl, hu⟩
  have DX : Hid (∀ wx, Up w wx → Calls Tryz.prog 36 #[lv, .int .i64 m] wx fun e w' => e = .returned (.bool false) ∧ w' = wx) := by
    intro wx hx
    refine (dead_x wx lv L m (hl.up hx)).mono ?_
    rintro e w' ⟨rfl, hu⟩
    exact ⟨by rw [hd], hu⟩
  have RX := Lib.hid (ref_x r hr ⟨#[]⟩)
  have GX : Hid (∀ wx, Up w wx → Calls Tryz.prog 14 #[.pointer (some ⟨p, 0, none⟩), .int .u64 r] wx fun e w' => e = .returned (.pointer none) ∧ Up wx w') := by
    intro wx hx
    exact get_no wx p r v A (h.up hx) (by omega) hf
  clear ho hl hd h hf
  have HU := Lib.hid hU
  clear hU
  show Calls Tryz.prog 9 #[lv, .pointer (some ⟨p, 0, none⟩), .map (some cb), .int .i64 m, .int .i64 into, .agg #[.int .u8 5, .int .i64 r, .string ⟨#[]⟩]] w _
  go_enter Tryz.func9, Tryz.ntmps9
  go_wp2_with (first
    | (go_at_call 35; refine (OX.out _ HU.out).mono ?_; rintro e w1 ⟨rfl, hU1⟩; obtain ⟨z1, ⟨f0, f1, f2⟩, ⟨g0, g1, g2⟩⟩ := B1.out.up hU1; obtain ⟨y1, ⟨e0, e1, e2⟩, -⟩ := B0.out.up hU1)
    | (go_at_call 36; refine (DX.out _ (HU.out.trans hU1)).mono ?_; rintro e w2 ⟨rfl, rfl⟩)
    | (go_at_call 15; refine (RX.out _).mono ?_; rintro e w3 ⟨rfl, rfl⟩)
    | (go_at_call 14; refine (GX.out _ ((HU.out.trans hU1).alloc _)).mono ?_; rintro e w5 ⟨rfl, hU5⟩; have hU9 := (hU1.alloc (.cells #[.int .u8 5, .int .i64 r, .string ⟨#[]⟩] 51)).trans hU5; obtain ⟨z9, ⟨p0, p1, p2⟩, ⟨r0, r1, r2⟩⟩ := B1.out.up hU9)
)
  have B3 := (Has3.store (B1.out.up hU9) (.int .u8 0) (.int .i64 0) (.string ⟨#[]⟩))
  obtain ⟨-, ⟨q1, q2, q3⟩, -⟩ := B3
  refine bodyPost_ret (v := .tuple #[.agg #[.int .u8 0, .int .i64 0, .string ⟨#[]⟩], .int .i64 17]) (by simp [results, Tryz.results9, go_sem, q1, q2, q3]) rfl ⟨rfl, ?_⟩
  exact (((HU.out.trans hU9).setCell (p := ⟨w.heap.size + 1, 0, none⟩) (Nat.le_succ _) _).setCell (p := ⟨w.heap.size + 1, 1, none⟩) (Nat.le_succ _) _).setCell (p := ⟨w.heap.size + 1, 2, none⟩) (Nat.le_succ _) _
theorem pass_else (w : World) (lv : Value) (p cb : Nat) (m into : Int) (L : List Mb) (r : Nat) (from_ : Int) (v : Nat → Value) (A : Ar) (hr : r < 9223372036854775808) (h : Parts w p v A) (hl : ListAt w lv L) (hp : p < w.heap.size) (ho : otherR L m into = some from_) (hd : deadR L m = false) (o : Ob) (hf : A.find r = some o) (hne : ¬ o.owner = from_) :
    Calls Tryz.prog 9 #[lv, .pointer (some ⟨p, 0, none⟩), .map (some cb), .int .i64 m, .int .i64 into, val (5, (r : Int), ⟨#[]⟩)] w fun e w' => e = .returned (.tuple #[val zero3, .int .i64 17]) ∧ Up w w' := by
  have hU : Up w ((w.alloc (.cells #[.int .u8 5, .int .i64 r, .string ⟨#[]⟩] 51)).alloc (.cells #[.int .u8 0, .int .i64 0, .string ⟨#[]⟩] 51)) := ((Up.refl w).alloc _).alloc _
  have B0 := Lib.hid ((has3_alloc w (.int .u8 5) (.int .i64 r) (.string ⟨#[]⟩) 51).up ((Up.refl _).alloc (.cells #[.int .u8 0, .int .i64 0, .string ⟨#[]⟩] 51)))
  have B1 := Lib.hid (has3_alloc2 w (.cells #[.int .u8 5, .int .i64 r, .string ⟨#[]⟩] 51) (.int .u8 0) (.int .i64 0) (.string ⟨#[]⟩) 51)
  have OX : Hid (∀ wx, Up w wx → Calls Tryz.prog 35 #[lv, .int .i64 m, .int .i64 into] wx fun e w' => e = .returned (.tuple #[.int .i64 from_, .bool true]) ∧ Up wx w') := by
    intro wx hx
    refine (other_x wx lv L m into (hl.up hx)).mono ?_
    rintro e w' ⟨rfl, hu⟩
    exact ⟨by rw [ho]; rfl, hu⟩
  have DX : Hid (∀ wx, Up w wx → Calls Tryz.prog 36 #[lv, .int .i64 m] wx fun e w' => e = .returned (.bool false) ∧ w' = wx) := by
    intro wx hx
    refine (dead_x wx lv L m (hl.up hx)).mono ?_
    rintro e w' ⟨rfl, hu⟩
    exact ⟨by rw [hd], hu⟩
  have RX := Lib.hid (ref_x r hr ⟨#[]⟩)
  obtain ⟨sl, hsl, -⟩ := find_slot hf
  obtain ⟨g, cap, -, hog, -⟩ := h.obAt hsl
  have OB := obAt_find hog h hf
  have o1 := OB 1 _ rfl
  have GX : Hid (∀ wx, Up w wx → Calls Tryz.prog 14 #[.pointer (some ⟨p, 0, none⟩), .int .u64 r] wx fun e w' => e = .returned (.pointer (some ⟨g, (r % 4294967296) * 16 + 2, none⟩)) ∧ Up wx w') :=
    fun wx hx => ar.get_at wx p r v A o g hog (h.up hx) (by omega) hf
  generalize (r % 4294967296) * 16 + 2 = off at *
  (try simp only [Nat.add_zero] at o0)
  have hb : (o.owner == from_) = false := by simpa using hne
  have hb2 : (o.owner != from_) = true := by simpa using hne
  have CO := Lib.hid o1
  clear ho hl hd h hf OB o1 hog hsl
  have HU := Lib.hid hU
  clear hU
  show Calls Tryz.prog 9 #[lv, .pointer (some ⟨p, 0, none⟩), .map (some cb), .int .i64 m, .int .i64 into, .agg #[.int .u8 5, .int .i64 r, .string ⟨#[]⟩]] w _
  go_enter Tryz.func9, Tryz.ntmps9
  go_wp2_with (first
    | (go_at_call 35; refine (OX.out _ HU.out).mono ?_; rintro e w1 ⟨rfl, hU1⟩; obtain ⟨z1, ⟨f0, f1, f2⟩, ⟨g0, g1, g2⟩⟩ := B1.out.up hU1; obtain ⟨y1, ⟨e0, e1, e2⟩, -⟩ := B0.out.up hU1)
    | (go_at_call 36; refine (DX.out _ (HU.out.trans hU1)).mono ?_; rintro e w2 ⟨rfl, rfl⟩)
    | (go_at_call 15; refine (RX.out _).mono ?_; rintro e w3 ⟨rfl, rfl⟩)
    | (go_at_call 14; refine (GX.out _ ((HU.out.trans hU1).alloc _)).mono ?_; rintro e w5 ⟨rfl, hU5⟩; have hU9 := (hU1.alloc (.cells #[.int .u8 5, .int .i64 r, .string ⟨#[]⟩] 51)).trans hU5; obtain ⟨z9, ⟨p0, p1, p2⟩, ⟨r0, r1, r2⟩⟩ := B1.out.up hU9; have a1 := up_cell (HU.out.trans hU9) CO.out)
)
  have B3 := (Has3.store (B1.out.up hU9) (.int .u8 0) (.int .i64 0) (.string ⟨#[]⟩))
  obtain ⟨-, ⟨q1, q2, q3⟩, -⟩ := B3
  refine bodyPost_ret (v := .tuple #[.agg #[.int .u8 0, .int .i64 0, .string ⟨#[]⟩], .int .i64 17]) (by simp [results, Tryz.results9, go_sem, q1, q2, q3]) rfl ⟨rfl, ?_⟩
  exact (((HU.out.trans hU9).setCell (p := ⟨w.heap.size + 1, 0, none⟩) (Nat.le_succ _) _).setCell (p := ⟨w.heap.size + 1, 1, none⟩) (Nat.le_succ _) _).setCell (p := ⟨w.heap.size + 1, 2, none⟩) (Nat.le_succ _) _
theorem pass_back (w : World) (lv : Value) (p cb : Nat) (m into : Int) (L : List Mb) (r : Nat) (from_ : Int) (v : Nat → Value) (A : Ar) (hr : r < 9223372036854775808) (h : Parts w p v A) (hl : ListAt w lv L) (hp : p < w.heap.size) (ho : otherR L m into = some from_) (hd : deadR L m = false) (o : Ob) (hf : A.find r = some o) (t : Nat) (ht : t < 9223372036854775808) (h1 : o.owner = from_) (h6 : o.kind = 6) (h9 : o.membrane = m) (h10 : o.target = (t : Int)) :
    Calls Tryz.prog 9 #[lv, .pointer (some ⟨p, 0, none⟩), .map (some cb), .int .i64 m, .int .i64 into, val (5, (r : Int), ⟨#[]⟩)] w fun e w' => e = .returned (.tuple #[val (5, (t : Int), ⟨#[]⟩), .int .i64 0]) ∧ Up w w' := by
  have hU : Up w ((w.alloc (.cells #[.int .u8 5, .int .i64 r, .string ⟨#[]⟩] 51)).alloc (.cells #[.int .u8 0, .int .i64 0, .string ⟨#[]⟩] 51)) := ((Up.refl w).alloc _).alloc _
  have B0 := Lib.hid ((has3_alloc w (.int .u8 5) (.int .i64 r) (.string ⟨#[]⟩) 51).up ((Up.refl _).alloc (.cells #[.int .u8 0, .int .i64 0, .string ⟨#[]⟩] 51)))
  have B1 := Lib.hid (has3_alloc2 w (.cells #[.int .u8 5, .int .i64 r, .string ⟨#[]⟩] 51) (.int .u8 0) (.int .i64 0) (.string ⟨#[]⟩) 51)
  have OX : Hid (∀ wx, Up w wx → Calls Tryz.prog 35 #[lv, .int .i64 m, .int .i64 into] wx fun e w' => e = .returned (.tuple #[.int .i64 from_, .bool true]) ∧ Up wx w') := by
    intro wx hx
    refine (other_x wx lv L m into (hl.up hx)).mono ?_
    rintro e w' ⟨rfl, hu⟩
    exact ⟨by rw [ho]; rfl, hu⟩
  have DX : Hid (∀ wx, Up w wx → Calls Tryz.prog 36 #[lv, .int .i64 m] wx fun e w' => e = .returned (.bool false) ∧ w' = wx) := by
    intro wx hx
    refine (dead_x wx lv L m (hl.up hx)).mono ?_
    rintro e w' ⟨rfl, hu⟩
    exact ⟨by rw [hd], hu⟩
  have RX := Lib.hid (ref_x r hr ⟨#[]⟩)
  have TX := Lib.hid (object_x t ht)
  simp only [val] at TX
  obtain ⟨sl, hsl, -⟩ := find_slot hf
  obtain ⟨g, cap, -, hog, -⟩ := h.obAt hsl
  have OB := obAt_find hog h hf
  have o0 := OB 0 _ rfl
  have o1 := OB 1 _ rfl
  have o11 := OB 11 _ rfl
  have o12 := OB 12 _ rfl
  have GX : Hid (∀ wx, Up w wx → Calls Tryz.prog 14 #[.pointer (some ⟨p, 0, none⟩), .int .u64 r] wx fun e w' => e = .returned (.pointer (some ⟨g, (r % 4294967296) * 16 + 2, none⟩)) ∧ Up wx w') :=
    fun wx hx => ar.get_at wx p r v A o g hog (h.up hx) (by omega) hf
  generalize (r % 4294967296) * 16 + 2 = off at *
  (try simp only [Nat.add_zero] at o0)
  rw [h6] at o0
  rw [h1] at o1
  rw [h9] at o11
  rw [h10] at o12
  have CO := Lib.hid (And.intro o0 (And.intro o1 (And.intro o11 o12)))
  clear ho hl hd h hf OB o0 o1 o11 o12 hog hsl h1 h6 h9 h10
  have HU := Lib.hid hU
  clear hU
  show Calls Tryz.prog 9 #[lv, .pointer (some ⟨p, 0, none⟩), .map (some cb), .int .i64 m, .int .i64 into, .agg #[.int .u8 5, .int .i64 r, .string ⟨#[]⟩]] w _
  go_enter Tryz.func9, Tryz.ntmps9
  go_wp2_with (first
    | (go_at_call 35; refine (OX.out _ HU.out).mono ?_; rintro e w1 ⟨rfl, hU1⟩; obtain ⟨z1, ⟨f0, f1, f2⟩, ⟨g0, g1, g2⟩⟩ := B1.out.up hU1; obtain ⟨y1, ⟨e0, e1, e2⟩, -⟩ := B0.out.up hU1)
    | (go_at_call 36; refine (DX.out _ (HU.out.trans hU1)).mono ?_; rintro e w2 ⟨rfl, rfl⟩)
    | (go_at_call 15; refine (RX.out _).mono ?_; rintro e w3 ⟨rfl, rfl⟩)
    | (go_at_call 14; refine (GX.out _ ((HU.out.trans hU1).alloc _)).mono ?_; rintro e w5 ⟨rfl, hU5⟩; have hU9 := (hU1.alloc (.cells #[.int .u8 5, .int .i64 r, .string ⟨#[]⟩] 51)).trans hU5; obtain ⟨z9, ⟨p0, p1, p2⟩, ⟨r0, r1, r2⟩⟩ := B1.out.up hU9; have a0 := up_cell (HU.out.trans hU9) CO.out.1; have a1 := up_cell (HU.out.trans hU9) CO.out.2.1; have a11 := up_cell (HU.out.trans hU9) CO.out.2.2.1; have a12 := up_cell (HU.out.trans hU9) CO.out.2.2.2)
    | (go_at_call 10; refine (TX.out _).mono ?_; rintro e w7 ⟨rfl, rfl⟩)
)
  have B3 := (Has3.store (B1.out.up hU9) (.int .u8 5) (.int .i64 t) (.string ⟨#[]⟩)).alloc (.cells #[.int .u8 5, .int .i64 t, .string ⟨#[]⟩] 51)
  obtain ⟨-, ⟨q1, q2, q3⟩, -⟩ := B3
  refine bodyPost_ret (v := .tuple #[.agg #[.int .u8 5, .int .i64 t, .string ⟨#[]⟩], .int .i64 0]) (by simp [results, Tryz.results9, go_sem, q1, q2, q3]) rfl ⟨rfl, ?_⟩
  exact ((((HU.out.trans hU9).setCell (p := ⟨w.heap.size + 1, 0, none⟩) (Nat.le_succ _) _).setCell (p := ⟨w.heap.size + 1, 1, none⟩) (Nat.le_succ _) _).setCell (p := ⟨w.heap.size + 1, 2, none⟩) (Nat.le_succ _) _).alloc _
theorem pass_hit (w : World) (lv : Value) (p cb : Nat) (m into : Int) (L : List Mb) (r : Nat) (from_ : Int) (v : Nat → Value) (A : Ar) (hr : r < 9223372036854775808) (h : Parts w p v A) (hl : ListAt w lv L) (hp : p < w.heap.size) (ho : otherR L m into = some from_) (hd : deadR L m = false) (o : Ob) (hf : A.find r = some o) (n : Nat) (D : DataW Nat) (C : Ca) (hown : w.ownsMap Tryz.prog 113 R1 cb n D) (hC : CacheIs D C) (hm : (Lit.int .i64 m).wf = true) (h1 : o.owner = from_) (hb6 : ¬ (o.kind = 6 ∧ o.membrane = m)) (q : Nat) (hq : q < 9223372036854775808) (hc : C m r = some q) (h13 : True) :
    Calls Tryz.prog 9 #[lv, .pointer (some ⟨p, 0, none⟩), .map (some cb), .int .i64 m, .int .i64 into, val (5, (r : Int), ⟨#[]⟩)] w fun e w' => e = .returned (.tuple #[val (5, (q : Int), ⟨#[]⟩), .int .i64 0]) ∧ Up w w' := by
  have hU : Up w ((w.alloc (.cells #[.int .u8 5, .int .i64 r, .string ⟨#[]⟩] 51)).alloc (.cells #[.int .u8 0, .int .i64 0, .string ⟨#[]⟩] 51)) := ((Up.refl w).alloc _).alloc _
  have B0 := Lib.hid ((has3_alloc w (.int .u8 5) (.int .i64 r) (.string ⟨#[]⟩) 51).up ((Up.refl _).alloc (.cells #[.int .u8 0, .int .i64 0, .string ⟨#[]⟩] 51)))
  have B1 := Lib.hid (has3_alloc2 w (.cells #[.int .u8 5, .int .i64 r, .string ⟨#[]⟩] 51) (.int .u8 0) (.int .i64 0) (.string ⟨#[]⟩) 51)
  have OX : Hid (∀ wx, Up w wx → Calls Tryz.prog 35 #[lv, .int .i64 m, .int .i64 into] wx fun e w' => e = .returned (.tuple #[.int .i64 from_, .bool true]) ∧ Up wx w') := by
    intro wx hx
    refine (other_x wx lv L m into (hl.up hx)).mono ?_
    rintro e w' ⟨rfl, hu⟩
    exact ⟨by rw [ho]; rfl, hu⟩
  have DX : Hid (∀ wx, Up w wx → Calls Tryz.prog 36 #[lv, .int .i64 m] wx fun e w' => e = .returned (.bool false) ∧ w' = wx) := by
    intro wx hx
    refine (dead_x wx lv L m (hl.up hx)).mono ?_
    rintro e w' ⟨rfl, hu⟩
    exact ⟨by rw [hd], hu⟩
  have RX := Lib.hid (ref_x r hr ⟨#[]⟩)
  have TX := Lib.hid (object_x q hq)
  simp only [val] at TX
  obtain ⟨sl, hsl, -⟩ := find_slot hf
  obtain ⟨g, cap, -, hog, -⟩ := h.obAt hsl
  have OB := obAt_find hog h hf
  have o0 := OB 0 _ rfl
  have o1 := OB 1 _ rfl
  have o11 := OB 11 _ rfl
  have o13 := OB 13 _ rfl
  have GX : Hid (∀ wx, Up w wx → Calls Tryz.prog 14 #[.pointer (some ⟨p, 0, none⟩), .int .u64 r] wx fun e w' => e = .returned (.pointer (some ⟨g, (r % 4294967296) * 16 + 2, none⟩)) ∧ Up wx w') :=
    fun wx hx => ar.get_at wx p r v A o g hog (h.up hx) (by omega) hf
  generalize (r % 4294967296) * 16 + 2 = off at *
  (try simp only [Nat.add_zero] at o0)
  obtain ⟨lk, hlk⟩ := key_ent m r hm (by omega)
  obtain ⟨hat1, hat2⟩ := hC.at_ m r lk hlk
  have LX : Hid (∀ wx, Up w wx → (Instr.lookup 32 (.map (some cb)) (.agg #[.int .i64 m, .int .u64 r]) true).run Tryz.prog wx = .ok (.tuple #[.int .u64 (q : Nat), .bool true]) wx) := by
    intro wx hx
    have h1 := look_ent wx cb n D (owns_up hown hx) hlk
    rw [hat1, hat2, hc] at h1
    exact h1
  have kk : (o.kind == 6) = false ∨ ((o.kind == 6) = true ∧ (o.membrane == m) = false) := by
    by_cases h6 : o.kind = 6
    · exact .inr ⟨by simpa using h6, by simpa using fun h9 => hb6 ⟨h6, h9⟩⟩
    · exact .inl (by simpa using h6)
  obtain ⟨kind, owner, frozen, fields, module, func, ha, hn', hcc, brand, content, membrane, target, deep⟩ := o
  simp only at o0 o1 o11 o13 h1 kk h13
  subst h1
  have CO := Lib.hid (And.intro o0 (And.intro o1 (And.intro o11 o13)))
  clear ho hl hd h hf OB o0 o1 o11 o13 hog hsl hown hC hlk hat1 hat2 hb6
  rcases kk with k6 | ⟨k6, k9⟩
  all_goals
    have HU := Lib.hid hU
    clear hU
    show Calls Tryz.prog 9 #[lv, .pointer (some ⟨p, 0, none⟩), .map (some cb), .int .i64 m, .int .i64 into, .agg #[.int .u8 5, .int .i64 r, .string ⟨#[]⟩]] w _
    go_enter Tryz.func9, Tryz.ntmps9
    go_wp2_with (first
      | (go_at_call 35; refine (OX.out _ HU.out).mono ?_; rintro e w1 ⟨rfl, hU1⟩; obtain ⟨z1, ⟨f0, f1, f2⟩, ⟨g0, g1, g2⟩⟩ := B1.out.up hU1; obtain ⟨y1, ⟨e0, e1, e2⟩, -⟩ := B0.out.up hU1)
      | (go_at_call 36; refine (DX.out _ (HU.out.trans hU1)).mono ?_; rintro e w2 ⟨rfl, rfl⟩)
      | (go_at_call 15; refine (RX.out _).mono ?_; rintro e w3 ⟨rfl, rfl⟩)
      | (go_at_call 14; refine (GX.out _ ((HU.out.trans hU1).alloc _)).mono ?_; rintro e w5 ⟨rfl, hU5⟩; have hU9 := (hU1.alloc (.cells #[.int .u8 5, .int .i64 r, .string ⟨#[]⟩] 51)).trans hU5; obtain ⟨z9, ⟨p0, p1, p2⟩, ⟨r0, r1, r2⟩⟩ := B1.out.up hU9; have a0 := up_cell (HU.out.trans hU9) CO.out.1; have a1 := up_cell (HU.out.trans hU9) CO.out.2.1; have a11 := up_cell (HU.out.trans hU9) CO.out.2.2.1; have a13 := up_cell (HU.out.trans hU9) CO.out.2.2.2; have lk1 := LX.out _ ((HU.out.trans hU9).alloc (.cells #[.int .i64 m, .int .u64 r] 113)); have z10 : w.heap.size + 1 < w5.heap.size + 1 := Nat.lt_succ_of_lt z9; have z11 : w.heap.size + 1 < w5.heap.size + 1 + 1 := Nat.lt_succ_of_lt z10; have z12 := World.block_lt_of_cell? w5 _ a0; simp only at z12)
      | (go_at_call 10; refine (TX.out _).mono ?_; rintro e w7 ⟨rfl, rfl⟩)
  )
    have B3 := ((Has3.store (B1.out.up hU9) (.int .u8 5) (.int .i64 q) (.string ⟨#[]⟩)).alloc (.cells #[.int .i64 m, .int .u64 r] 113)).alloc (.cells #[.int .u8 5, .int .i64 q, .string ⟨#[]⟩] 51)
    obtain ⟨-, ⟨q1, q2, q3⟩, -⟩ := B3
    refine bodyPost_ret (v := .tuple #[.agg #[.int .u8 5, .int .i64 q, .string ⟨#[]⟩], .int .i64 0]) (by simp [results, Tryz.results9, go_sem, q1, q2, q3]) rfl ⟨rfl, ?_⟩
    exact (((((HU.out.trans hU9).setCell (p := ⟨w.heap.size + 1, 0, none⟩) (Nat.le_succ _) _).setCell (p := ⟨w.heap.size + 1, 1, none⟩) (Nat.le_succ _) _).setCell (p := ⟨w.heap.size + 1, 2, none⟩) (Nat.le_succ _) _).alloc _).alloc _
theorem pass_chain (w : World) (lv : Value) (p cb : Nat) (m into : Int) (L : List Mb) (r : Nat) (from_ : Int) (v : Nat → Value) (A : Ar) (hr : r < 9223372036854775808) (h : Parts w p v A) (hl : ListAt w lv L) (hp : p < w.heap.size) (ho : otherR L m into = some from_) (hd : deadR L m = false) (o : Ob) (hf : A.find r = some o) (n : Nat) (D : DataW Nat) (C : Ca) (hown : w.ownsMap Tryz.prog 113 R1 cb n D) (hC : CacheIs D C) (hm : (Lit.int .i64 m).wf = true) (h1 : o.owner = from_) (hb6 : ¬ (o.kind = 6 ∧ o.membrane = m)) (hc : C m r = none) (h13 : 6 ≤ o.deep) :
    Calls Tryz.prog 9 #[lv, .pointer (some ⟨p, 0, none⟩), .map (some cb), .int .i64 m, .int .i64 into, val (5, (r : Int), ⟨#[]⟩)] w fun e w' => e = .returned (.tuple #[val zero3, .int .i64 14]) ∧ Up w w' := by
  have hU : Up w ((w.alloc (.cells #[.int .u8 5, .int .i64 r, .string ⟨#[]⟩] 51)).alloc (.cells #[.int .u8 0, .int .i64 0, .string ⟨#[]⟩] 51)) := ((Up.refl w).alloc _).alloc _
  have B0 := Lib.hid ((has3_alloc w (.int .u8 5) (.int .i64 r) (.string ⟨#[]⟩) 51).up ((Up.refl _).alloc (.cells #[.int .u8 0, .int .i64 0, .string ⟨#[]⟩] 51)))
  have B1 := Lib.hid (has3_alloc2 w (.cells #[.int .u8 5, .int .i64 r, .string ⟨#[]⟩] 51) (.int .u8 0) (.int .i64 0) (.string ⟨#[]⟩) 51)
  have OX : Hid (∀ wx, Up w wx → Calls Tryz.prog 35 #[lv, .int .i64 m, .int .i64 into] wx fun e w' => e = .returned (.tuple #[.int .i64 from_, .bool true]) ∧ Up wx w') := by
    intro wx hx
    refine (other_x wx lv L m into (hl.up hx)).mono ?_
    rintro e w' ⟨rfl, hu⟩
    exact ⟨by rw [ho]; rfl, hu⟩
  have DX : Hid (∀ wx, Up w wx → Calls Tryz.prog 36 #[lv, .int .i64 m] wx fun e w' => e = .returned (.bool false) ∧ w' = wx) := by
    intro wx hx
    refine (dead_x wx lv L m (hl.up hx)).mono ?_
    rintro e w' ⟨rfl, hu⟩
    exact ⟨by rw [hd], hu⟩
  have RX := Lib.hid (ref_x r hr ⟨#[]⟩)
  obtain ⟨sl, hsl, -⟩ := find_slot hf
  obtain ⟨g, cap, -, hog, -⟩ := h.obAt hsl
  have OB := obAt_find hog h hf
  have o0 := OB 0 _ rfl
  have o1 := OB 1 _ rfl
  have o11 := OB 11 _ rfl
  have o13 := OB 13 _ rfl
  have GX : Hid (∀ wx, Up w wx → Calls Tryz.prog 14 #[.pointer (some ⟨p, 0, none⟩), .int .u64 r] wx fun e w' => e = .returned (.pointer (some ⟨g, (r % 4294967296) * 16 + 2, none⟩)) ∧ Up wx w') :=
    fun wx hx => ar.get_at wx p r v A o g hog (h.up hx) (by omega) hf
  generalize (r % 4294967296) * 16 + 2 = off at *
  (try simp only [Nat.add_zero] at o0)
  obtain ⟨lk, hlk⟩ := key_ent m r hm (by omega)
  obtain ⟨hat1, hat2⟩ := hC.at_ m r lk hlk
  have LX : Hid (∀ wx, Up w wx → (Instr.lookup 32 (.map (some cb)) (.agg #[.int .i64 m, .int .u64 r]) true).run Tryz.prog wx = .ok (.tuple #[.int .u64 0, .bool false]) wx) := by
    intro wx hx
    have h1 := look_ent wx cb n D (owns_up hown hx) hlk
    rw [hat1, hat2, hc] at h1
    exact h1
  have kk : (o.kind == 6) = false ∨ ((o.kind == 6) = true ∧ (o.membrane == m) = false) := by
    by_cases h6 : o.kind = 6
    · exact .inr ⟨by simpa using h6, by simpa using fun h9 => hb6 ⟨h6, h9⟩⟩
    · exact .inl (by simpa using h6)
  obtain ⟨kind, owner, frozen, fields, module, func, ha, hn', hcc, brand, content, membrane, target, deep⟩ := o
  simp only at o0 o1 o11 o13 h1 kk h13
  subst h1
  have CO := Lib.hid (And.intro o0 (And.intro o1 (And.intro o11 o13)))
  clear ho hl hd h hf OB o0 o1 o11 o13 hog hsl hown hC hlk hat1 hat2 hb6
  rcases kk with k6 | ⟨k6, k9⟩
  all_goals
    have HU := Lib.hid hU
    clear hU
    show Calls Tryz.prog 9 #[lv, .pointer (some ⟨p, 0, none⟩), .map (some cb), .int .i64 m, .int .i64 into, .agg #[.int .u8 5, .int .i64 r, .string ⟨#[]⟩]] w _
    go_enter Tryz.func9, Tryz.ntmps9
    go_wp2_with (first
      | (go_at_call 35; refine (OX.out _ HU.out).mono ?_; rintro e w1 ⟨rfl, hU1⟩; obtain ⟨z1, ⟨f0, f1, f2⟩, ⟨g0, g1, g2⟩⟩ := B1.out.up hU1; obtain ⟨y1, ⟨e0, e1, e2⟩, -⟩ := B0.out.up hU1)
      | (go_at_call 36; refine (DX.out _ (HU.out.trans hU1)).mono ?_; rintro e w2 ⟨rfl, rfl⟩)
      | (go_at_call 15; refine (RX.out _).mono ?_; rintro e w3 ⟨rfl, rfl⟩)
      | (go_at_call 14; refine (GX.out _ ((HU.out.trans hU1).alloc _)).mono ?_; rintro e w5 ⟨rfl, hU5⟩; have hU9 := (hU1.alloc (.cells #[.int .u8 5, .int .i64 r, .string ⟨#[]⟩] 51)).trans hU5; obtain ⟨z9, ⟨p0, p1, p2⟩, ⟨r0, r1, r2⟩⟩ := B1.out.up hU9; have a0 := up_cell (HU.out.trans hU9) CO.out.1; have a1 := up_cell (HU.out.trans hU9) CO.out.2.1; have a11 := up_cell (HU.out.trans hU9) CO.out.2.2.1; have a13 := up_cell (HU.out.trans hU9) CO.out.2.2.2; have lk1 := LX.out _ ((HU.out.trans hU9).alloc (.cells #[.int .i64 m, .int .u64 r] 113)); have z10 : w.heap.size + 1 < w5.heap.size + 1 := Nat.lt_succ_of_lt z9; have z11 : w.heap.size + 1 < w5.heap.size + 1 + 1 := Nat.lt_succ_of_lt z10; have z12 := World.block_lt_of_cell? w5 _ a0; simp only at z12)
  )
    have B3 := ((Has3.store (B1.out.up hU9) (.int .u8 0) (.int .i64 0) (.string ⟨#[]⟩)).alloc (.cells #[.int .i64 m, .int .u64 r] 113))
    obtain ⟨-, ⟨q1, q2, q3⟩, -⟩ := B3
    refine bodyPost_ret (v := .tuple #[.agg #[.int .u8 0, .int .i64 0, .string ⟨#[]⟩], .int .i64 14]) (by simp [results, Tryz.results9, go_sem, q1, q2, q3]) rfl ⟨rfl, ?_⟩
    exact ((((HU.out.trans hU9).setCell (p := ⟨w.heap.size + 1, 0, none⟩) (Nat.le_succ _) _).setCell (p := ⟨w.heap.size + 1, 1, none⟩) (Nat.le_succ _) _).setCell (p := ⟨w.heap.size + 1, 2, none⟩) (Nat.le_succ _) _).alloc _
theorem pass_full (w : World) (lv : Value) (p cb : Nat) (m into : Int) (L : List Mb) (r : Nat) (from_ qq mm : Int) (nn : Nat) (v : Nat → Value) (A : Ar) (hr : r < 9223372036854775808) (h : Parts w p v A) (hl : ListAt w lv L) (hp : p < w.heap.size) (ho : otherR L m into = some from_) (hd : deadR L m = false) (o : Ob) (hf : A.find r = some o) (n : Nat) (D : DataW Nat) (C : Ca) (hown : w.ownsMap Tryz.prog 113 R1 cb n D) (hC : CacheIs D C) (hm : (Lit.int .i64 m).wf = true) (h1 : o.owner = from_) (hb6 : ¬ (o.kind = 6 ∧ o.membrane = m)) (hc : C m r = none) (h13 : 0 ≤ o.deep ∧ o.deep < 6) (hin : into = (nn : Int)) (hq : A.quotas[nn]? = some qq) (hm2 : A.many[nn]? = some mm) (hle : qq ≤ mm) :
    Calls Tryz.prog 9 #[lv, .pointer (some ⟨p, 0, none⟩), .map (some cb), .int .i64 m, .int .i64 into, val (5, (r : Int), ⟨#[]⟩)] w fun e w' => e = .returned (.tuple #[val zero3, .int .i64 8]) ∧ Up w w' := by
  have hU : Up w ((w.alloc (.cells #[.int .u8 5, .int .i64 r, .string ⟨#[]⟩] 51)).alloc (.cells #[.int .u8 0, .int .i64 0, .string ⟨#[]⟩] 51)) := ((Up.refl w).alloc _).alloc _
  have B0 := Lib.hid ((has3_alloc w (.int .u8 5) (.int .i64 r) (.string ⟨#[]⟩) 51).up ((Up.refl _).alloc (.cells #[.int .u8 0, .int .i64 0, .string ⟨#[]⟩] 51)))
  have B1 := Lib.hid (has3_alloc2 w (.cells #[.int .u8 5, .int .i64 r, .string ⟨#[]⟩] 51) (.int .u8 0) (.int .i64 0) (.string ⟨#[]⟩) 51)
  have OX : Hid (∀ wx, Up w wx → Calls Tryz.prog 35 #[lv, .int .i64 m, .int .i64 into] wx fun e w' => e = .returned (.tuple #[.int .i64 from_, .bool true]) ∧ Up wx w') := by
    intro wx hx
    refine (other_x wx lv L m into (hl.up hx)).mono ?_
    rintro e w' ⟨rfl, hu⟩
    exact ⟨by rw [ho]; rfl, hu⟩
  have DX : Hid (∀ wx, Up w wx → Calls Tryz.prog 36 #[lv, .int .i64 m] wx fun e w' => e = .returned (.bool false) ∧ w' = wx) := by
    intro wx hx
    refine (dead_x wx lv L m (hl.up hx)).mono ?_
    rintro e w' ⟨rfl, hu⟩
    exact ⟨by rw [hd], hu⟩
  have RX := Lib.hid (ref_x r hr ⟨#[]⟩)
  have PX : Hid (∀ wx, Up w wx → Calls Tryz.prog 27 #[.pointer (some ⟨p, 0, none⟩), .agg (proxyOb into m r (o.deep + 1)).cells.toArray] wx fun e w' => e = .returned (.tuple #[.int .u64 0, .int .i64 8]) ∧ Up wx w') :=
    fun wx hx => ar.put_full wx p v A _ (h.up hx) nn qq mm hin hq hm2 hle
  simp only [proxyOb, Ob.cells, zero3] at PX
  obtain ⟨sl, hsl, -⟩ := find_slot hf
  obtain ⟨g, cap, -, hog, -⟩ := h.obAt hsl
  have OB := obAt_find hog h hf
  have o0 := OB 0 _ rfl
  have o1 := OB 1 _ rfl
  have o11 := OB 11 _ rfl
  have o13 := OB 13 _ rfl
  have GX : Hid (∀ wx, Up w wx → Calls Tryz.prog 14 #[.pointer (some ⟨p, 0, none⟩), .int .u64 r] wx fun e w' => e = .returned (.pointer (some ⟨g, (r % 4294967296) * 16 + 2, none⟩)) ∧ Up wx w') :=
    fun wx hx => ar.get_at wx p r v A o g hog (h.up hx) (by omega) hf
  generalize (r % 4294967296) * 16 + 2 = off at *
  (try simp only [Nat.add_zero] at o0)
  obtain ⟨lk, hlk⟩ := key_ent m r hm (by omega)
  obtain ⟨hat1, hat2⟩ := hC.at_ m r lk hlk
  have LX : Hid (∀ wx, Up w wx → (Instr.lookup 32 (.map (some cb)) (.agg #[.int .i64 m, .int .u64 r]) true).run Tryz.prog wx = .ok (.tuple #[.int .u64 0, .bool false]) wx) := by
    intro wx hx
    have h1 := look_ent wx cb n D (owns_up hown hx) hlk
    rw [hat1, hat2, hc] at h1
    exact h1
  have kk : (o.kind == 6) = false ∨ ((o.kind == 6) = true ∧ (o.membrane == m) = false) := by
    by_cases h6 : o.kind = 6
    · exact .inr ⟨by simpa using h6, by simpa using fun h9 => hb6 ⟨h6, h9⟩⟩
    · exact .inl (by simpa using h6)
  obtain ⟨kind, owner, frozen, fields, module, func, ha, hn', hcc, brand, content, membrane, target, deep⟩ := o
  simp only at o0 o1 o11 o13 h1 kk h13
  subst h1
  have CO := Lib.hid (And.intro o0 (And.intro o1 (And.intro o11 o13)))
  clear ho hl hd h hf OB o0 o1 o11 o13 hog hsl hown hC hlk hat1 hat2 hb6
  obtain ⟨h13, h14⟩ := h13
  have hwr : IntKind.i64.wrap (deep + 1) = deep + 1 := by rw [IntKind.wrap_i64]; omega
  clear hin hq hm2 hle
  rcases kk with k6 | ⟨k6, k9⟩
  all_goals
    have HU := Lib.hid hU
    clear hU
    show Calls Tryz.prog 9 #[lv, .pointer (some ⟨p, 0, none⟩), .map (some cb), .int .i64 m, .int .i64 into, .agg #[.int .u8 5, .int .i64 r, .string ⟨#[]⟩]] w _
    go_enter Tryz.func9, Tryz.ntmps9
    go_wp2_with (first
      | (go_at_call 35; refine (OX.out _ HU.out).mono ?_; rintro e w1 ⟨rfl, hU1⟩; obtain ⟨z1, ⟨f0, f1, f2⟩, ⟨g0, g1, g2⟩⟩ := B1.out.up hU1; obtain ⟨y1, ⟨e0, e1, e2⟩, -⟩ := B0.out.up hU1)
      | (go_at_call 36; refine (DX.out _ (HU.out.trans hU1)).mono ?_; rintro e w2 ⟨rfl, rfl⟩)
      | (go_at_call 15; refine (RX.out _).mono ?_; rintro e w3 ⟨rfl, rfl⟩)
      | (go_at_call 14; refine (GX.out _ ((HU.out.trans hU1).alloc _)).mono ?_; rintro e w5 ⟨rfl, hU5⟩; have hU9 := (hU1.alloc (.cells #[.int .u8 5, .int .i64 r, .string ⟨#[]⟩] 51)).trans hU5; obtain ⟨z9, ⟨p0, p1, p2⟩, ⟨r0, r1, r2⟩⟩ := B1.out.up hU9; have a0 := up_cell (HU.out.trans hU9) CO.out.1; have a1 := up_cell (HU.out.trans hU9) CO.out.2.1; have a11 := up_cell (HU.out.trans hU9) CO.out.2.2.1; have a13 := up_cell (HU.out.trans hU9) CO.out.2.2.2; have lk1 := LX.out _ ((HU.out.trans hU9).alloc (.cells #[.int .i64 m, .int .u64 r] 113)); have z10 : w.heap.size + 1 < w5.heap.size + 1 := Nat.lt_succ_of_lt z9; have z11 : w.heap.size + 1 < w5.heap.size + 1 + 1 := Nat.lt_succ_of_lt z10; have z12 := World.block_lt_of_cell? w5 _ a0; simp only at z12)
      | (go_at_call 27; refine (PX.out _ ((HU.out.trans hU9).alloc (.cells #[.int .i64 m, .int .u64 r] 113))).mono ?_; rintro e w8 ⟨rfl, hU8⟩; obtain ⟨x9, ⟨m0, m1, m2⟩, ⟨n0, n1, n2⟩⟩ := ((B1.out.up hU9).alloc (.cells #[.int .i64 m, .int .u64 r] 113)).up hU8)
  )
    have B3 := (Has3.store (((B1.out.up hU9).alloc (.cells #[.int .i64 m, .int .u64 r] 113)).up hU8) (.int .u8 0) (.int .i64 0) (.string ⟨#[]⟩))
    obtain ⟨-, ⟨q1, q2, q3⟩, -⟩ := B3
    refine bodyPost_ret (v := .tuple #[.agg #[.int .u8 0, .int .i64 0, .string ⟨#[]⟩], .int .i64 8]) (by simp [results, Tryz.results9, go_sem, q1, q2, q3]) rfl ⟨rfl, ?_⟩
    exact (((HU.out.trans ((hU9.alloc (.cells #[.int .i64 m, .int .u64 r] 113)).trans hU8)).setCell (p := ⟨w.heap.size + 1, 0, none⟩) (Nat.le_succ _) _).setCell (p := ⟨w.heap.size + 1, 1, none⟩) (Nat.le_succ _) _).setCell (p := ⟨w.heap.size + 1, 2, none⟩) (Nat.le_succ _) _
end Go.Proofs.YtmmfpkkkpeapeaaGreatDoor.mb

/- wrap.Pass: a new proxy. -/
set_option linter.unusedVariables false
set_option linter.unusedSimpArgs false
namespace Go.Proofs.YtmmfpkkkpeapeaaGreatDoor.mb
open Go.RowKit Go.Maps mem rec ar
attribute [local go_sem ↓] Go.wp_at_zero Go.wp_at_succ
set_option maxRecDepth 100000
set_option maxHeartbeats 1000000
theorem pass_new (w : World) (lv : Value) (p cb : Nat) (m into : Int) (L : List Mb) (r : Nat) (from_ : Int) (nn j k : Nat) (v : Nat → Value) (A : Ar) (hr : r < 9223372036854775808) (h : Parts w p v A) (hl : ListAt w lv L) (hp : p < w.heap.size) (ho : otherR L m into = some from_) (hd : deadR L m = false) (o : Ob) (hf : A.find r = some o) (n : Nat) (D : DataW Nat) (C : Ca) (hown : w.ownsMap Tryz.prog 113 R1 cb n D) (hC : CacheIs D C) (hm : (Lit.int .i64 m).wf = true) (h1 : o.owner = from_) (hb6 : ¬ (o.kind = 6 ∧ o.membrane = m)) (hc : C m r = none) (h13 : 0 ≤ o.deep ∧ o.deep < 6) (hin : into = (nn : Int)) (hR : Room A (k + 1)) (hQ : Quo A nn (j + 1)) (hn1 : n < maxLen) (hcn : cb ∉ foot p v) :
    Calls Tryz.prog 9 #[lv, .pointer (some ⟨p, 0, none⟩), .map (some cb), .int .i64 m, .int .i64 into, val (5, (r : Int), ⟨#[]⟩)] w fun e w' => ∃ (v' : Nat → Value) (D' : DataW Nat), e = .returned (.tuple #[val (5, (A.name : Int), ⟨#[]⟩), .int .i64 0]) ∧ Parts w' p v' (A.add (proxyOb into m r (o.deep + 1))) ∧ Chg (cb :: foot p v) w w' ∧ (∀ b ∈ foot p v', b ∈ foot p v ∨ w.heap.size ≤ b) ∧ w'.ownsMap Tryz.prog 113 R1 cb (n + 1) D' ∧ CacheIs D' (C.put m r A.name) ∧ cb ∉ foot p v' := by
  have hU : Up w ((w.alloc (.cells #[.int .u8 5, .int .i64 r, .string ⟨#[]⟩] 51)).alloc (.cells #[.int .u8 0, .int .i64 0, .string ⟨#[]⟩] 51)) := ((Up.refl w).alloc _).alloc _
  have B0 := Lib.hid ((has3_alloc w (.int .u8 5) (.int .i64 r) (.string ⟨#[]⟩) 51).up ((Up.refl _).alloc (.cells #[.int .u8 0, .int .i64 0, .string ⟨#[]⟩] 51)))
  have B1 := Lib.hid (has3_alloc2 w (.cells #[.int .u8 5, .int .i64 r, .string ⟨#[]⟩] 51) (.int .u8 0) (.int .i64 0) (.string ⟨#[]⟩) 51)
  have OX : Hid (∀ wx, Up w wx → Calls Tryz.prog 35 #[lv, .int .i64 m, .int .i64 into] wx fun e w' => e = .returned (.tuple #[.int .i64 from_, .bool true]) ∧ Up wx w') := by
    intro wx hx
    refine (other_x wx lv L m into (hl.up hx)).mono ?_
    rintro e w' ⟨rfl, hu⟩
    exact ⟨by rw [ho]; rfl, hu⟩
  have DX : Hid (∀ wx, Up w wx → Calls Tryz.prog 36 #[lv, .int .i64 m] wx fun e w' => e = .returned (.bool false) ∧ w' = wx) := by
    intro wx hx
    refine (dead_x wx lv L m (hl.up hx)).mono ?_
    rintro e w' ⟨rfl, hu⟩
    exact ⟨by rw [hd], hu⟩
  have RX := Lib.hid (ref_x r hr ⟨#[]⟩)
  have hnm : A.name < 9223372036854775808 := name_lt hR
  have TX := Lib.hid (object_x A.name hnm)
  simp only [val] at TX
  have HFt := Lib.hid h.lt
  obtain ⟨ob, hob⟩ : ∃ ob, ob = proxyOb into m r (o.deep + 1) := ⟨_, rfl⟩
  have PX : Hid (∀ wx, Up w wx → Calls Tryz.prog 27 #[.pointer (some ⟨p, 0, none⟩), .agg (proxyOb into m r (o.deep + 1)).cells.toArray] wx fun e w' => ∃ v', e = .returned (.tuple #[.int .u64 A.name, .int .i64 0]) ∧ Parts w' p v' (A.add ob) ∧ Chg (foot p v) wx w' ∧ ∀ b ∈ foot p v', b ∈ foot p v ∨ wx.heap.size ≤ b) := by
    rw [hob]
    exact fun wx hx => put_k wx p v A _ (h.up hx) nn j k hin hR hQ
  rw [← hob]
  clear hob
  simp only [proxyOb, Ob.cells, zero3] at PX
  obtain ⟨sl, hsl, -⟩ := find_slot hf
  obtain ⟨g, cap, -, hog, -⟩ := h.obAt hsl
  have OB := obAt_find hog h hf
  have o0 := OB 0 _ rfl
  have o1 := OB 1 _ rfl
  have o11 := OB 11 _ rfl
  have o13 := OB 13 _ rfl
  have GX : Hid (∀ wx, Up w wx → Calls Tryz.prog 14 #[.pointer (some ⟨p, 0, none⟩), .int .u64 r] wx fun e w' => e = .returned (.pointer (some ⟨g, (r % 4294967296) * 16 + 2, none⟩)) ∧ Up wx w') :=
    fun wx hx => ar.get_at wx p r v A o g hog (h.up hx) (by omega) hf
  generalize (r % 4294967296) * 16 + 2 = off at *
  (try simp only [Nat.add_zero] at o0)
  obtain ⟨lk, hlk⟩ := key_ent m r hm (by omega)
  obtain ⟨hat1, hat2⟩ := hC.at_ m r lk hlk
  have LX : Hid (∀ wx, Up w wx → (Instr.lookup 32 (.map (some cb)) (.agg #[.int .i64 m, .int .u64 r]) true).run Tryz.prog wx = .ok (.tuple #[.int .u64 0, .bool false]) wx) := by
    intro wx hx
    have h1 := look_ent wx cb n D (owns_up hown hx) hlk
    rw [hat1, hat2, hc] at h1
    exact h1
  have kk : (o.kind == 6) = false ∨ ((o.kind == 6) = true ∧ (o.membrane == m) = false) := by
    by_cases h6 : o.kind = 6
    · exact .inr ⟨by simpa using h6, by simpa using fun h9 => hb6 ⟨h6, h9⟩⟩
    · exact .inl (by simpa using h6)
  obtain ⟨kind, owner, frozen, fields, module, func, ha, hn', hcc, brand, content, membrane, target, deep⟩ := o
  simp only at o0 o1 o11 o13 h1 kk h13
  subst h1
  have CO := Lib.hid (And.intro o0 (And.intro o1 (And.intro o11 o13)))
  have HM := Lib.hid (And.intro hown (And.intro hC (And.intro hlk hcn)))
  have hcb : cb < w.heap.size := hown.lt
  clear ho hl hd h hf OB o0 o1 o11 o13 hog hsl hown hC hlk hat1 hat2 hb6
  obtain ⟨h13, h14⟩ := h13
  have hwr : IntKind.i64.wrap (deep + 1) = deep + 1 := by rw [IntKind.wrap_i64]; omega
  clear hin hR hQ hcn
  rcases kk with k6 | ⟨k6, k9⟩
  all_goals
    have HU := Lib.hid hU
    clear hU
    show Calls Tryz.prog 9 #[lv, .pointer (some ⟨p, 0, none⟩), .map (some cb), .int .i64 m, .int .i64 into, .agg #[.int .u8 5, .int .i64 r, .string ⟨#[]⟩]] w _
    go_enter Tryz.func9, Tryz.ntmps9
    go_wp2_with (first
      | (go_at_call 35; refine (OX.out _ HU.out).mono ?_; rintro e w1 ⟨rfl, hU1⟩; obtain ⟨z1, ⟨f0, f1, f2⟩, ⟨g0, g1, g2⟩⟩ := B1.out.up hU1; obtain ⟨y1, ⟨e0, e1, e2⟩, -⟩ := B0.out.up hU1)
      | (go_at_call 36; refine (DX.out _ (HU.out.trans hU1)).mono ?_; rintro e w2 ⟨rfl, rfl⟩)
      | (go_at_call 15; refine (RX.out _).mono ?_; rintro e w3 ⟨rfl, rfl⟩)
      | (go_at_call 14; refine (GX.out _ ((HU.out.trans hU1).alloc _)).mono ?_; rintro e w5 ⟨rfl, hU5⟩; have hU9 := (hU1.alloc (.cells #[.int .u8 5, .int .i64 r, .string ⟨#[]⟩] 51)).trans hU5; obtain ⟨z9, ⟨p0, p1, p2⟩, ⟨r0, r1, r2⟩⟩ := B1.out.up hU9; have a0 := up_cell (HU.out.trans hU9) CO.out.1; have a1 := up_cell (HU.out.trans hU9) CO.out.2.1; have a11 := up_cell (HU.out.trans hU9) CO.out.2.2.1; have a13 := up_cell (HU.out.trans hU9) CO.out.2.2.2; have lk1 := LX.out _ ((HU.out.trans hU9).alloc (.cells #[.int .i64 m, .int .u64 r] 113)); have z10 : w.heap.size + 1 < w5.heap.size + 1 := Nat.lt_succ_of_lt z9; have z11 : w.heap.size + 1 < w5.heap.size + 1 + 1 := Nat.lt_succ_of_lt z10; have z12 := World.block_lt_of_cell? w5 _ a0; simp only at z12)
      | (go_at_call 10; refine (TX.out _).mono ?_; rintro e w7 ⟨rfl, rfl⟩)
  )
    refine (PX.out _ ((HU.out.trans hU9).alloc (.cells #[.int .i64 m, .int .u64 r] 113))).mono ?_
    rintro e w8 ⟨v8, rfl, hP8, hC8, hF8⟩
    have hU5w := (HU.out.trans hU9).size
    have E8 := hC8.cell (p := ⟨w5.heap.size, 0, none⟩) (by simp) (fun hx => by have h9 : w5.heap.size < w.heap.size := HFt.out _ hx; omega)
    have E9 := hC8.cell (p := ⟨w5.heap.size, 1, none⟩) (by simp) (fun hx => by have h9 : w5.heap.size < w.heap.size := HFt.out _ hx; omega)
    have E8' := E8.trans (show _ = some (Value.int .i64 m) by go_simp)
    have E9' := E9.trans (show _ = some (Value.int .u64 (r : Int)) by go_simp)
    clear E8 E9
    obtain ⟨w9, hrun, hown9, hturn9⟩ := (map_chg (owns_up HM.out.1 ((HU.out.trans hU9).alloc (.cells #[.int .i64 m, .int .u64 r] 113))) hC8 HM.out.2.2.2).store KE Tryz.underlying32 hn1 HM.out.2.2.1 (R1_val A.name)
    simp only [entV] at hrun
    have C9 : Chg [cb] w8 w9 := (Chg.refl _ w8).turned hturn9 (.inl (by simp))
    have X9 := has3_chg (has3_chg ((B1.out.up hU9).alloc (.cells #[.int .i64 m, .int .u64 r] 113)) hC8 (fun hx => by have := HFt.out _ hx; omega)) C9 (by simp; omega)
    obtain ⟨x9, ⟨m0, m1, m2⟩, ⟨n0, n1, n2⟩⟩ := id X9
    go_wp2_with (go_at_call 10; refine (TX.out _).mono ?_; rintro e w7 ⟨rfl, rfl⟩)
    have B3 := (Has3.store X9 (.int .u8 5) (.int .i64 A.name) (.string ⟨#[]⟩)).alloc (.cells #[.int .u8 5, .int .i64 A.name, .string ⟨#[]⟩] 51)
    obtain ⟨-, ⟨q1, q2, q3⟩, -⟩ := B3
    have CR := ((((Chg.refl [w.heap.size + 1] w9).setCell (p := ⟨w.heap.size + 1, 0, none⟩) (.inl (by simp)) (.int .u8 5)).setCell (p := ⟨w.heap.size + 1, 1, none⟩) (.inl (by simp)) (.int .i64 A.name)).setCell (p := ⟨w.heap.size + 1, 2, none⟩) (.inl (by simp)) (.string ⟨#[]⟩)).alloc (.cells #[.int .u8 5, .int .i64 A.name, .string ⟨#[]⟩] 51)
    have zz : w5.heap.size + 1 = (w5.alloc (.cells #[.int .i64 m, .int .u64 r] 113)).heap.size := by simp
    have f1 : cb ∉ foot p v8 := fun hx => by
      rcases hF8 cb hx with h9 | h9
      · exact HM.out.2.2.2 h9
      · rw [← zz] at h9; omega
    have f2 : w.heap.size + 1 ∉ foot p v8 := fun hx => by
      rcases hF8 _ hx with h9 | h9
      · have := HFt.out _ h9; omega
      · rw [← zz] at h9; omega
    refine bodyPost_ret (v := .tuple #[.agg #[.int .u8 5, .int .i64 A.name, .string ⟨#[]⟩], .int .i64 0]) (by simp [results, Tryz.results9, go_sem, q1, q2, q3]) rfl ⟨v8, _, rfl, (hP8.chg C9 (fun b hb hx => f1 (by rw [← List.mem_singleton.1 hx]; exact hb))).chg CR (fun b hb hx => f2 (by rw [← List.mem_singleton.1 hx]; exact hb)), ?_, fun b hb => ?_, map_chg hown9 CR (fun hx => by have := List.mem_singleton.1 hx; omega), HM.out.2.1.put HM.out.2.2.1 A.name, f1⟩
    · exact ((((((HU.out.trans hU9).alloc (.cells #[.int .i64 m, .int .u64 r] 113)).chg.mono (by simp)).trans hC8 (fun x hx => .inl (List.mem_cons_of_mem _ hx))).trans C9 (fun x hx => .inl (by rw [List.mem_singleton.1 hx]; exact List.mem_cons_self ..))).trans CR (fun x hx => .inr (by rw [List.mem_singleton.1 hx]; omega)))
    · rcases hF8 b hb with h9 | h9
      · exact .inl h9
      · exact .inr (by rw [← zz] at h9; omega)
end Go.Proofs.YtmmfpkkkpeapeaaGreatDoor.mb

/- Pass: a way through a membrane, and back. -/
set_option linter.unusedVariables false
namespace Go.Proofs.YtmmfpkkkpeapeaaGreatDoor.mb
open Go.RowKit Go.Maps mem rec ar
set_option maxHeartbeats 400000
section
variable {w w1 : World} {p cb k : Nat} {v : Nat → Value} {A : Ar} {C : Ca} {L : List Mb} {d : Int}
/-- Through a membrane: something that stands for it, or that it stands for. -/
theorem pass_fwd {lv : Value} {m into from_ : Int} {r nn : Nat} {o : Ob} (h : Wr w p cb v A C L (k + 1) d) (hd6 : d < 6) (hl : ListAt w lv L) (hm : (Lit.int .i64 m).wf = true) (ho : otherR L m into = some from_) (hd : deadR L m = false) (hf : A.find r = some o) (hw : o.owner = from_) (hin : into = (nn : Int)) (hn4 : nn < 4) :
    Calls Tryz.prog 9 #[lv, .pointer (some ⟨p, 0, none⟩), .map (some cb), .int .i64 m, .int .i64 into, val (5, (r : Int), ⟨#[]⟩)] w fun e w' => ∃ (r' : Nat) (o' : Ob) (v' : Nat → Value) (A' : Ar) (C' : Ca), e = .returned (.tuple #[val (5, (r' : Int), ⟨#[]⟩), .int .i64 0]) ∧
      Wr w' p cb v' A' C' L k (d + 1) ∧ Chg (cb :: foot p v) w w' ∧ (∀ b ∈ foot p v', b ∈ foot p v ∨ w.heap.size ≤ b) ∧ A'.find r' = some o' ∧ o'.owner = into ∧ Lk A' m r r' ∧ Old A A' := by
  subst hw
  have hp : p < w.heap.size := h.pt.hd.lt
  have hr := find_lt h.rm hf
  have h0 : ∀ b ∈ foot p v, b ∈ foot p v ∨ w.heap.size ≤ b := fun b hb => .inl hb
  obtain ⟨n, D, hn, hown, hC⟩ := h.ow
  have inj : ∀ x : Int, otherR L m x = some o.owner → x = into := fun x hx => by
    have e1 := other_inv hx
    rw [other_inv ho] at e1
    cases e1
    rfl
  by_cases hb6 : o.kind = 6 ∧ o.membrane = m
  · obtain ⟨t, o', h1, h2, h3, h4, h5⟩ := h.nt.px r o hf hb6.1
    refine (pass_back w lv p cb m into L r o.owner v A hr h.pt hl hp ho hd o hf t (find_lt h.rm h2) rfl hb6.1 hb6.2 h1).mono ?_
    rintro e w' ⟨rfl, hu⟩
    refine ⟨t, o', v, A, C, rfl, (h.up hu).less (by omega) (by omega), hu.chg.mono (by simp), h0, h2, ?_, .inr ⟨o, hf, hb6.1, hb6.2, h1⟩, Old.refl A⟩
    have e1 := other_inv h3
    rw [hb6.2] at e1 h3
    exact inj _ e1
  cases hc : C m r with
  | some q =>
    obtain ⟨y, y', h1, h2, h3, h4, h5⟩ := h.nt.ca m r q hc
    refine (pass_hit w lv p cb m into L r o.owner v A hr h.pt hl hp ho hd o hf n D C hown hC hm rfl hb6 q (find_lt h.rm h1) hc trivial).mono ?_
    rintro e w' ⟨rfl, hu⟩
    refine ⟨q, y, v, A, C, rfl, (h.up hu).less (by omega) (by omega), hu.chg.mono (by simp), h0, h1, ?_, .inl ⟨y, h1, h3, h4, h5⟩, Old.refl A⟩
    obtain ⟨t, o', g1, g2, g3, -⟩ := h.nt.px q y h1 h3
    have et : t = r := by rw [h5] at g1; omega
    rw [et, hf] at g2
    cases g2
    rw [h4] at g3
    exact inj _ g3
  | none =>
    have hdp := h.nt.dp r o hf
    refine (pass_new w lv p cb m into L r o.owner nn k k v A hr h.pt hl hp ho hd o hf n D C hown hC hm rfl hb6 hc ⟨hdp.1, by omega⟩ hin h.rm (h.qu nn hn4) (by unfold maxLen; omega) h.cn).mono ?_
    rintro e w' ⟨v', D', rfl, hP, hCg, hF, hO, hCI, hcn⟩
    refine ⟨A.name, proxyOb into m r (o.deep + 1), v', _, _, rfl, ⟨hP, h.rm.add _, fun n hn => sb.Quo.less (h.qu n hn) _ nn hin, ⟨n + 1, D', by omega, hO, hCI⟩, hcn, h.nt.proxy h.rm ho hf hb6 hc⟩, hCg, hF, find_add_new h.rm _, rfl, .inl ⟨_, find_add_new h.rm _, rfl, rfl, rfl⟩, fun x y hx => find_add_old h.rm _ hx⟩
/-- And back: what it was. -/
theorem pass_undo {lv : Value} {m into from_ : Int} {r r' : Nat} {o' : Ob} (h : Wr w p cb v A C L k d) (hl : ListAt w lv L) (hm : (Lit.int .i64 m).wf = true) (ho : otherR L m into = some from_) (hd : deadR L m = false) (hf : A.find r' = some o') (hw : o'.owner = from_) (hk : Lk A m r r') :
    Calls Tryz.prog 9 #[lv, .pointer (some ⟨p, 0, none⟩), .map (some cb), .int .i64 m, .int .i64 into, val (5, (r' : Int), ⟨#[]⟩)] w fun e w' => e = .returned (.tuple #[val (5, (r : Int), ⟨#[]⟩), .int .i64 0]) ∧ Up w w' := by
  have hp : p < w.heap.size := h.pt.hd.lt
  have hr := find_lt h.rm hf
  obtain ⟨n, D, hn, hown, hC⟩ := h.ow
  rcases hk with ⟨o, h1, h2, h3, h4⟩ | ⟨o, h1, h2, h3, h4⟩
  · rw [hf] at h1
    cases h1
    obtain ⟨t, y, g1, g2, -⟩ := h.nt.px r' o' hf h2
    have et : t = r := by rw [h4] at g1; omega
    rw [et] at g2
    exact pass_back w lv p cb m into L r' from_ v A hr h.pt hl hp ho hd o' hf r (find_lt h.rm g2) hw h2 h3 h4
  · obtain ⟨t, y, g1, g2, g3, g4, g5⟩ := h.nt.px r o h1 h2
    have et : t = r' := by rw [h4] at g1; omega
    rw [et, hf] at g2
    cases g2
    rw [et, h3] at g5
    rw [h3] at g4
    exact pass_hit w lv p cb m into L r' from_ v A hr h.pt hl hp ho hd o' hf n D C hown hC hm hw g4 r (find_lt h.rm h1) g5 trivial
end
end Go.Proofs.YtmmfpkkkpeapeaaGreatDoor.mb

/- Pass, any way, as a function; two worlds that are alike but for where their fields lie. -/
set_option linter.unusedVariables false
namespace Go.Proofs.YtmmfpkkkpeapeaaGreatDoor.mb
open Go.RowKit Go.Maps mem rec ar
set_option maxHeartbeats 400000
section
variable {w w1 : World} {p cb k : Nat} {v : Nat → Value} {A : Ar} {C : Ca} {L : List Mb} {d : Int}
theorem pass_any {lv : Value} {m into : Int} {r : Nat} {o : Ob} (h : Wr w p cb v A C L (k + 1) d) (hl : ListAt w lv L) (hm : (Lit.int .i64 m).wf = true) (hs : ∀ y, otherR L m into = some y → 0 ≤ into ∧ into < 4) (hf : A.find r = some o) :
    Calls Tryz.prog 9 #[lv, .pointer (some ⟨p, 0, none⟩), .map (some cb), .int .i64 m, .int .i64 into, val (5, (r : Int), ⟨#[]⟩)] w fun e w' => ∃ v', e = .returned (.tuple #[val (passR A C L false m into (5, (r : Int), ⟨#[]⟩)).v, .int .i64 (passR A C L false m into (5, (r : Int), ⟨#[]⟩)).e]) ∧
      Wr w' p cb v' (passR A C L false m into (5, (r : Int), ⟨#[]⟩)).A (passR A C L false m into (5, (r : Int), ⟨#[]⟩)).C L k (d + 1) ∧ Chg (cb :: foot p v) w w' ∧ (∀ b ∈ foot p v', b ∈ foot p v ∨ w.heap.size ≤ b) ∧
      ((passR A C L false m into (5, (r : Int), ⟨#[]⟩)).e = 0 → ∃ (r' : Nat) (o' : Ob), (passR A C L false m into (5, (r : Int), ⟨#[]⟩)).v = (5, (r' : Int), ⟨#[]⟩) ∧ (passR A C L false m into (5, (r : Int), ⟨#[]⟩)).A.find r' = some o') ∧
      ((passR A C L false m into (5, (r : Int), ⟨#[]⟩)).e ≠ 0 → (passR A C L false m into (5, (r : Int), ⟨#[]⟩)).v = zero3) := by
  have hp : p < w.heap.size := h.pt.hd.lt
  have hr := find_lt h.rm hf
  have h0 : ∀ b ∈ foot p v, b ∈ foot p v ∨ w.heap.size ≤ b := fun b hb => .inl hb
  have hdp := h.nt.dp r o hf
  obtain ⟨n, D, hn, hown, hC⟩ := h.ow
  obtain ⟨R, hR⟩ : ∃ R, R = passR A C L false m into (5, (r : Int), ⟨#[]⟩) := ⟨_, rfl⟩
  rw [← hR]
  unfold passR at hR
  rw [show (((5, (r : Int), ⟨#[]⟩) : V3).2.1).toNat = r from rfl] at hR
  have same : ∀ {w'}, Up w w' → Wr w' p cb v A C L k (d + 1) := fun hu => (h.up hu).less (by omega) (by omega)
  cases ho : otherR L m into with
  | none =>
    rw [ho] at hR
    subst hR
    refine (pass_no w lv p cb m into L 5 r ⟨#[]⟩ hl hp ho).mono ?_
    rintro e w' ⟨rfl, hu⟩
    exact ⟨v, rfl, same hu, hu.chg.mono (by simp), h0, fun hh => absurd hh (by show ¬ (4 : Int) = 0; decide), fun _ => rfl⟩
  | some from_ =>
    rw [ho] at hR
    simp only at hR
    cases hd : deadR L m with
    | true =>
      rw [if_pos hd] at hR
      subst hR
      refine (pass_dead w lv p cb m into L 5 r from_ ⟨#[]⟩ hl hp ho hd).mono ?_
      rintro e w' ⟨rfl, hu⟩
      exact ⟨v, rfl, same hu, hu.chg.mono (by simp), h0, fun hh => absurd hh (by show ¬ (12 : Int) = 0; decide), fun _ => rfl⟩
    | false =>
      rw [if_neg (by rw [hd]; decide), if_neg (by decide), hf] at hR
      simp only at hR
      by_cases hw : o.owner = from_
      · rw [if_neg (by rw [hw]; simp)] at hR
        by_cases hb6 : o.kind = 6 ∧ o.membrane = m
        · rw [if_pos hb6] at hR
          obtain ⟨t, o', h1, h2, h3, h4, h5⟩ := h.nt.px r o hf hb6.1
          rw [h1] at hR
          subst hR
          refine (pass_back w lv p cb m into L r from_ v A hr h.pt hl hp ho hd o hf t (find_lt h.rm h2) hw hb6.1 hb6.2 h1).mono ?_
          rintro e w' ⟨rfl, hu⟩
          exact ⟨v, rfl, same hu, hu.chg.mono (by simp), h0, fun _ => ⟨t, o', rfl, h2⟩, fun hh => absurd rfl hh⟩
        · rw [if_neg hb6] at hR
          cases hc : C m r with
          | some q =>
            rw [hc] at hR
            subst hR
            obtain ⟨y, y', h1, h2, h3, h4, h5⟩ := h.nt.ca m r q hc
            refine (pass_hit w lv p cb m into L r from_ v A hr h.pt hl hp ho hd o hf n D C hown hC hm hw hb6 q (find_lt h.rm h1) hc trivial).mono ?_
            rintro e w' ⟨rfl, hu⟩
            exact ⟨v, rfl, same hu, hu.chg.mono (by simp), h0, fun _ => ⟨q, y, rfl, h1⟩, fun hh => absurd rfl hh⟩
          | none =>
            rw [hc] at hR
            simp only at hR
            by_cases h6 : 6 ≤ o.deep
            · rw [if_pos h6] at hR
              subst hR
              refine (pass_chain w lv p cb m into L r from_ v A hr h.pt hl hp ho hd o hf n D C hown hC hm hw hb6 hc h6).mono ?_
              rintro e w' ⟨rfl, hu⟩
              exact ⟨v, rfl, same hu, hu.chg.mono (by simp), h0, fun hh => absurd hh (by show ¬ (14 : Int) = 0; decide), fun _ => rfl⟩
            · rw [if_neg h6, if_neg (by decide)] at hR
              subst hR
              obtain ⟨i0, i4⟩ := hs _ ho
              obtain ⟨nn, hnn⟩ : ∃ nn : Nat, into = (nn : Int) := ⟨into.toNat, by omega⟩
              have e : o.owner = from_ := hw
              refine (pass_new w lv p cb m into L r from_ nn k k v A hr h.pt hl hp ho hd o hf n D C hown hC hm hw hb6 hc ⟨hdp.1, by omega⟩ hnn h.rm (h.qu nn (by omega)) (by unfold maxLen; omega) h.cn).mono ?_
              rintro e w' ⟨v', D', rfl, hP, hCg, hF, hO, hCI, hcn⟩
              exact ⟨v', rfl, ⟨hP, h.rm.add _, fun n hn => sb.Quo.less (h.qu n hn) _ nn hnn, ⟨n + 1, D', by omega, hO, hCI⟩, hcn, h.nt.proxy h.rm (by rw [hw]; exact ho) hf hb6 hc⟩, hCg, hF, fun _ => ⟨A.name, _, rfl, find_add_new h.rm _⟩, fun hh => absurd rfl hh⟩
      · rw [if_pos hw] at hR
        subst hR
        refine (pass_else w lv p cb m into L r from_ v A hr h.pt hl hp ho hd o hf hw).mono ?_
        rintro e w' ⟨rfl, hu⟩
        exact ⟨v, rfl, same hu, hu.chg.mono (by simp), h0, fun hh => absurd hh (by show ¬ (17 : Int) = 0; decide), fun _ => rfl⟩
end
/-! ### alike but for the fields -/
def Ob.bare (o : Ob) : Ob := { o with fields := none }
def Sl.bare (s : Sl) : Sl := { s with o := Ob.bare s.o }
def Ar.bare (A : Ar) : Ar := { A with slots := A.slots.map Sl.bare }
theorem bare_find (A : Ar) (r : Nat) : (Ar.bare A).find r = (A.find r).map Ob.bare := by
  unfold Ar.find
  show (match (A.slots.map Sl.bare)[r % 4294967296]? with | some s => if s.used = true ∧ s.uses = r / 4294967296 then some s.o else none | none => none) = _
  rw [List.getElem?_map]
  cases A.slots[r % 4294967296]? with
  | none => rfl
  | some s =>
    show (if s.used = true ∧ s.uses = r / 4294967296 then some (Ob.bare s.o) else none) = Option.map Ob.bare (if s.used = true ∧ s.uses = r / 4294967296 then some s.o else none)
    split <;> rfl
theorem bare_grow (A : Ar) : (Ar.bare A).grow = Ar.bare A.grow := by
  unfold Ar.grow
  by_cases h : A.free = []
  · have h' : (Ar.bare A).free = [] := h
    rw [if_pos h, if_pos h']
    show Ar.mk (A.slots.map Sl.bare ++ [sl0]) [(A.slots.map Sl.bare).length] _ _ = Ar.mk ((A.slots ++ [sl0]).map Sl.bare) _ _ _
    rw [List.length_map, List.map_append]
    rfl
  · have h' : ¬ (Ar.bare A).free = [] := h
    rw [if_neg h, if_neg h']
theorem bare_top (A : Ar) : (Ar.bare A).top = A.top := by unfold Ar.top; rw [bare_grow]; rfl
theorem bare_old (A : Ar) : (Ar.bare A).old = A.old := by
  unfold Ar.old
  rw [bare_grow, bare_top]
  show (List.getD (A.grow.slots.map Sl.bare) A.top sl0).uses = _
  rw [List.getD_eq_getElem?_getD, List.getD_eq_getElem?_getD, List.getElem?_map]
  cases A.grow.slots[A.top]? <;> rfl
theorem bare_name (A : Ar) : (Ar.bare A).name = A.name := by unfold Ar.name; rw [bare_top, bare_old]
theorem bare_add (A : Ar) (o : Ob) : Ar.bare (A.add o) = (Ar.bare A).add (Ob.bare o) := by
  unfold Ar.add
  rw [bare_grow, bare_top, bare_old]
  show Ar.mk ((A.grow.slots.set A.top ⟨A.old + 1, true, o⟩).map Sl.bare) _ _ _ = Ar.mk ((A.grow.slots.map Sl.bare).set A.top _) _ _ _
  rw [List.map_set]
  rfl
/-- What Pass answers doesn't hang on where the fields lie. -/
theorem passR_bare {A B : Ar} (C : Ca) (L : List Mb) (m into : Int) (v : V3) (h : Ar.bare A = Ar.bare B) : (passR A C L false m into v).v = (passR B C L false m into v).v ∧ (passR A C L false m into v).e = (passR B C L false m into v).e ∧ (passR A C L false m into v).C = (passR B C L false m into v).C ∧
    Ar.bare (passR A C L false m into v).A = Ar.bare (passR B C L false m into v).A := by
  have hf : (A.find v.2.1.toNat).map Ob.bare = (B.find v.2.1.toNat).map Ob.bare := by rw [← bare_find, ← bare_find, h]
  have hn : A.name = B.name := by rw [← bare_name A, ← bare_name B, h]
  unfold passR
  cases otherR L m into with
  | none => exact ⟨rfl, rfl, rfl, h⟩
  | some from_ =>
    simp only
    by_cases hd : deadR L m = true
    · rw [if_pos hd, if_pos hd]; exact ⟨rfl, rfl, rfl, h⟩
    rw [if_neg hd, if_neg hd]
    by_cases h5 : v.1 ≠ 5
    · rw [if_pos h5, if_pos h5]; exact ⟨rfl, rfl, rfl, h⟩
    rw [if_neg h5, if_neg h5]
    cases ha : A.find v.2.1.toNat with
    | none =>
      rw [ha] at hf
      cases hb : B.find v.2.1.toNat with
      | none => exact ⟨rfl, rfl, rfl, h⟩
      | some o => rw [hb] at hf; cases hf
    | some o =>
      rw [ha] at hf
      cases hb : B.find v.2.1.toNat with
      | none => rw [hb] at hf; cases hf
      | some y =>
        rw [hb] at hf
        have he : Ob.bare o = Ob.bare y := by simpa using hf
        have e1 : o.owner = y.owner := by have := congrArg Ob.owner he; exact this
        have e2 : o.kind = y.kind := by have := congrArg Ob.kind he; exact this
        have e3 : o.membrane = y.membrane := by have := congrArg Ob.membrane he; exact this
        have e4 : o.target = y.target := by have := congrArg Ob.target he; exact this
        have e5 : o.deep = y.deep := by have := congrArg Ob.deep he; exact this
        simp only
        rw [e1, e2, e3, e4, e5]
        by_cases c1 : y.owner ≠ from_
        · rw [if_pos c1, if_pos c1]; exact ⟨rfl, rfl, rfl, h⟩
        rw [if_neg c1, if_neg c1]
        by_cases c2 : y.kind = 6 ∧ y.membrane = m
        · rw [if_pos c2, if_pos c2]; exact ⟨rfl, rfl, rfl, h⟩
        rw [if_neg c2, if_neg c2]
        cases C m v.2.1.toNat with
        | some q => exact ⟨rfl, rfl, rfl, h⟩
        | none =>
          simp only
          by_cases c3 : 6 ≤ y.deep
          · rw [if_pos c3, if_pos c3]; exact ⟨rfl, rfl, rfl, h⟩
          rw [if_neg c3, if_neg c3, if_neg (by decide), if_neg (by decide)]
          refine ⟨by simp only; rw [hn], rfl, by simp only; rw [hn], ?_⟩
          simp only
          rw [bare_add, bare_add, h]
/-- A value through crossings, one behind the other. -/
def runR (L : List Mb) : List (Int × Int) → Ar → Ca → V3 → Res
  | [], A, C, v => ⟨v, 0, A, C⟩
  | x :: l, A, C, v => if (passR A C L false x.1 x.2 v).e ≠ 0 then passR A C L false x.1 x.2 v else runR L l (passR A C L false x.1 x.2 v).A (passR A C L false x.1 x.2 v).C (passR A C L false x.1 x.2 v).v
theorem runR_bare (L : List Mb) : ∀ (l : List (Int × Int)) (A B : Ar) (C : Ca) (v : V3), Ar.bare A = Ar.bare B → (runR L l A C v).v = (runR L l B C v).v ∧ (runR L l A C v).e = (runR L l B C v).e ∧ Ar.bare (runR L l A C v).A = Ar.bare (runR L l B C v).A
  | [], A, B, C, v, h => ⟨rfl, rfl, h⟩
  | x :: l, A, B, C, v, h => by
    obtain ⟨h1, h2, h3, h4⟩ := passR_bare C L x.1 x.2 v h
    unfold runR
    rw [h2]
    by_cases c : (passR B C L false x.1 x.2 v).e ≠ 0
    · rw [if_pos c, if_pos c]; exact ⟨h1, h2, h4⟩
    · rw [if_neg c, if_neg c, h1, h3]
      exact runR_bare L l _ _ _ _ h4
theorem bare_slots : ∀ (a b : List Nat) (i : Nat), a.length = b.length → (slots4 i a).map Sl.bare = (slots4 i b).map Sl.bare
  | [], [], i, _ => rfl
  | [], _ :: _, i, h => by cases h
  | _ :: _, [], i, h => by cases h
  | x :: l, y :: m, i, h => by
    rw [slots4, slots4, List.map_cons, List.map_cons, bare_slots l m (i + 1) (by simpa using h)]
    rfl
theorem bare4 {a b : List Nat} (h : a.length = b.length) : Ar.bare (mk4 a) = Ar.bare (mk4 b) := by
  have e : ∀ (x : Int) (a b : List Nat), a.length = b.length → a.map (fun _ => x) = b.map (fun _ => x) := fun x a b h => by
    rw [List.map_const', List.map_const', h]
  show Ar.mk ((slots4 0 a).map Sl.bare) [] _ _ = Ar.mk ((slots4 0 b).map Sl.bare) [] _ _
  rw [bare_slots a b 0 h]
  congr 1
  · exact e 60 a b h
  · exact e 1 a b h
end Go.Proofs.YtmmfpkkkpeapeaaGreatDoor.mb

/- SealBrands: what holds before each round: plain laws of memory. -/
set_option linter.unusedVariables false
set_option linter.unusedSimpArgs false
namespace Go.Proofs.YtmmfpkkkpeapeaaGreatDoor.sb
open Go.RowKit Go.Maps mem rec ar
set_option maxHeartbeats 400000
def selS (l : List (Nat × Nat × Nat)) : List Value := l.map fun x => .int .u64 (x.2.1 : Nat)
def selU (l : List (Nat × Nat × Nat)) : List Value := l.map fun x => .int .u64 (x.2.2 : Nat)
/-- What holds before a round: the arena behind p, brands l, the rows of sealers and unsealers; room for k objects more of each. -/
structure Lp (w0 w : World) (p : Nat) (v : Nat → Value) (A : Ar) (ns : Nat → Nat) (l : List (Nat × Nat × Nat)) (k : Nat) (vs vu : Value) : Prop where
  pt : Parts w p v A
  rm : Room A k
  q0 : Quo A 0 k
  q1 : Quo A 1 k
  br : Brands A ns l
  fo : ∀ b ∈ foot p v, w0.heap.size ≤ b
  rs : w.ownsRow w0.heap.size 41 1 vs l.length (selS l)
  ru : w.ownsRow w0.heap.size 41 1 vu l.length (selU l)
  ns_ : ∀ b, vs.ownBlock = some b → b ∉ foot p v
  nu : ∀ b, vu.ownBlock = some b → b ∉ foot p v
  ap : vs.ownBlock = none ∨ vs.ownBlock ≠ vu.ownBlock
  bel : Up w0 w
theorem Lp.up {w0 w w' : World} {p k : Nat} {v : Nat → Value} {A : Ar} {ns : Nat → Nat} {l : List (Nat × Nat × Nat)} {vs vu : Value} (h : Lp w0 w p v A ns l k vs vu) (u : Up w w') : Lp w0 w' p v A ns l k vs vu :=
  ⟨h.pt.up u, h.rm, h.q0, h.q1, h.br, h.fo, owns_chg h.rs u.chg (by simp), owns_chg h.ru u.chg (by simp), h.ns_, h.nu, h.ap, h.bel.trans u⟩
theorem Lp.start {w0 w : World} {p k : Nat} {v : Nat → Value} {A : Ar} (ns : Nat → Nat) (pt : Parts w p v A) (rm : Room A k) (q0 : Quo A 0 k) (q1 : Quo A 1 k) (fo : ∀ b ∈ foot p v, w0.heap.size ≤ b) (bel : Up w0 w) : Lp w0 w p v A ns [] k (.slice none 0 0) (.slice none 0 0) :=
  ⟨pt, rm, q0, q1, Brands.nil _ _, fo, ⟨rfl, .inl ⟨rfl, rfl⟩⟩, ⟨rfl, .inl ⟨rfl, rfl⟩⟩, by simp [Value.ownBlock], by simp [Value.ownBlock], .inl rfl, bel⟩
/-- One brand more. -/
theorem Lp.next {w0 wr w1 w3 w5 w6 : World} {p k n bm g1 g2 c1 c2 n1 n2 H1 H2 : Nat} {v v' : Nat → Value} {A : Ar} {ns : Nat → Nat} {l : List (Nat × Nat × Nat)} {vs vu : Value} {o1 o2 : Obj} (h : Lp w0 wr p v A ns l (k + 4) vs vu) (hn : ns l.length = n) (hn2 : n < 2)
    (pt : Parts w1 p v' (after A n bm)) (cb : Chg (foot p v) wr w1) (fb : ∀ b ∈ foot p v', b ∈ foot p v ∨ wr.heap.size ≤ b) (u3 : Up w1 w3)
    (o5 : w5.ownsRow w0.heap.size 41 1 (.slice (some ⟨g1, 0, none⟩) n1 c1) n1 (selS l ++ [.int .u64 ((triple A n).2.1 : Nat)])) (n1e : n1 = l.length + 1) (h5 : (w3.alloc o1).grownBy w5 vs.ownBlock) (at5 : vs.ownBlock = some g1 ∨ g1 = H1) (hH1 : (w3.alloc o1).heap.size = H1)
    (o6 : w6.ownsRow w0.heap.size 41 1 (.slice (some ⟨g2, 0, none⟩) n2 c2) n2 (selU l ++ [.int .u64 ((triple A n).2.2 : Nat)])) (n2e : n2 = l.length + 1) (h6 : (w5.alloc o2).grownBy w6 vu.ownBlock) (at6 : vu.ownBlock = some g2 ∨ g2 = H2) (hH2 : (w5.alloc o2).heap.size = H2) :
    Lp w0 w6 p v' (after A n bm) ns (l ++ [triple A n]) k (.slice (some ⟨g1, 0, none⟩) n1 c1) (.slice (some ⟨g2, 0, none⟩) n2 c2) := by
  subst n1e n2e hH1 hH2
  have z0 := h.bel.size
  have z1 := cb.size
  have z3 := u3.size
  have z5 := h5.size
  have z6 := h6.size
  rw [World.size_alloc] at z5 z6
  have lb1 : ∀ b, vs.ownBlock = some b → b < wr.heap.size := fun b hb => (h.rs.lt b hb).2
  have lb2 : ∀ b, vu.ownBlock = some b → b < wr.heap.size := fun b hb => (h.ru.lt b hb).2
  have lg1 : g1 < w5.heap.size := (o5.lt g1 rfl).2
  have lp' := pt.lt
  have C5 : Chg (vs.ownBlock.toList ++ vu.ownBlock.toList) w1 w5 := (((u3.chg.mono (by simp)).alloc o1).grown h5 (fun b hb => .inl (by simp [hb])))
  have C6 : Chg (vs.ownBlock.toList ++ vu.ownBlock.toList) w1 w6 := (C5.alloc o2).grown h6 (fun b hb => .inl (by simp [hb]))
  have nf : ∀ b, b < wr.heap.size → b ∉ foot p v → b ∉ foot p v' := fun b hb hn hx => by
    rcases fb b hx with h1 | h1
    · exact hn h1
    · omega
  have dis : ∀ b ∈ foot p v', b ∉ vs.ownBlock.toList ++ vu.ownBlock.toList := fun b hb hx => by
    rcases List.mem_append.1 hx with h1 | h1
    · have h2 : vs.ownBlock = some b := by simpa using h1
      exact nf b (lb1 b h2) (h.ns_ b h2) hb
    · have h2 : vu.ownBlock = some b := by simpa using h1
      exact nf b (lb2 b h2) (h.nu b h2) hb
  have r5 : vu.ownBlock ≠ some g1 := fun e => by
    rcases at5 with h1 | h1
    · rcases h.ap with h2 | h2
      · rw [h2] at h1; cases h1
      · exact h2 (h1.trans e.symm)
    · have := lb2 g1 e
      rw [World.size_alloc] at h1
      omega
  refine ⟨pt.chg C6 dis, room_after h.rm, quo_after h.q0, quo_after h.q1, h.br.next h.rm hn, fun b hb => ?_, ?_, ?_, fun b hb => ?_, fun b hb => ?_, .inr ?_, ?_⟩
  · rcases fb b hb with h1 | h1
    · exact h.fo b h1
    · omega
  · have e := (o5.alloc o2).kept h6 (.inr (fun e => r5 e.symm))
    rw [show selS (l ++ [triple A n]) = selS l ++ [.int .u64 ((triple A n).2.1 : Nat)] by simp [selS], List.length_append]
    exact e
  · rw [show selU (l ++ [triple A n]) = selU l ++ [.int .u64 ((triple A n).2.2 : Nat)] by simp [selU], List.length_append]
    exact o6
  · cases hb
    rcases at5 with h1 | h1
    · exact nf g1 (lb1 g1 h1) (h.ns_ g1 h1)
    · intro hx
      have := lp' g1 hx
      rw [World.size_alloc] at h1
      omega
  · cases hb
    rcases at6 with h1 | h1
    · exact nf g2 (lb2 g2 h1) (h.nu g2 h1)
    · intro hx
      have := lp' g2 hx
      rw [World.size_alloc] at h1
      omega
  · intro e
    have e' : g1 = g2 := by simpa [Value.ownBlock] using e
    subst e'
    rcases at6 with h1 | h1
    · exact r5 h1
    · rw [World.size_alloc] at h1
      omega
  · have C : Chg (foot p v ++ (vs.ownBlock.toList ++ vu.ownBlock.toList)) wr w6 := (cb.mono (by intro x hx; simp [hx])).trans C6 (fun x hx => .inl (by simp at hx ⊢; exact .inr hx))
    have hB : Below w0.heap.size wr w6 := C.below z0 (fun b hb => by
      rcases List.mem_append.1 hb with h1 | h1
      · exact h.fo b h1
      · rcases List.mem_append.1 h1 with h2 | h2
        · exact (h.rs.lt b (by simpa using h2)).1
        · exact (h.ru.lt b (by simpa using h2)).1)
    exact Below.trans h.bel hB
/-- One box more. -/
theorem Lp.box {w0 wr wx w1 : World} {p k n : Nat} {v v' : Nat → Value} {A : Ar} {ns : Nat → Nat} {l : List (Nat × Nat × Nat)} {vs vu : Value} {o : Ob} (h : Lp w0 wr p v A ns l (k + 1) vs vu) (hn : o.owner = (n : Int)) (hn2 : n < 2)
    (u : Up wr wx) (pt : Parts w1 p v' (A.add o)) (cb : Chg (foot p v) wx w1) (fb : ∀ b ∈ foot p v', b ∈ foot p v ∨ wx.heap.size ≤ b) : Lp w0 w1 p v' (A.add o) ns l k vs vu := by
  have z0 := h.bel.size
  have z1 := cb.size
  have zu := u.size
  have lb1 : ∀ b, vs.ownBlock = some b → b < wr.heap.size := fun b hb => (h.rs.lt b hb).2
  have lb2 : ∀ b, vu.ownBlock = some b → b < wr.heap.size := fun b hb => (h.ru.lt b hb).2
  have C : Chg (foot p v) wr w1 := (u.chg.mono (by simp)).trans cb (fun x hx => .inl hx)
  have nf : ∀ b, b < wr.heap.size → b ∉ foot p v → b ∉ foot p v' := fun b hb hn hx => by
    rcases fb b hx with h1 | h1
    · exact hn h1
    · omega
  refine ⟨pt, h.rm.add o, Quo.less h.q0 o n hn, Quo.less h.q1 o n hn, h.br.add h.rm o, fun b hb => ?_, owns_chg h.rs C (fun b hb => h.ns_ b hb), owns_chg h.ru C (fun b hb => h.nu b hb), fun b hb => nf b (lb1 b hb) (h.ns_ b hb), fun b hb => nf b (lb2 b hb) (h.nu b hb), h.ap, ?_⟩
  · rcases fb b hb with h1 | h1
    · exact h.fo b h1
    · omega
  · exact Below.trans h.bel (C.below z0 h.fo)
/-- The bare arena, as New makes it. -/
theorem start_parts (w : World) : Parts (w.alloc (.cells #[.slice none 0 0, .slice none 0 0, .slice none 0 0, .slice none 0 0] 120)) w.heap.size (fun _ => .slice none 0 0) ⟨[], [], [], []⟩ ∧ ∀ b ∈ foot w.heap.size (fun _ => Value.slice none 0 0), w.heap.size ≤ b := by
  refine ⟨⟨heap_alloc_new w _, fun i hi => ?_, fun i j b hi hj h => by simp [Value.ownBlock] at h, fun i hi => by simp [Value.ownBlock]⟩, fun b hb => ?_⟩
  · have e : (⟨[], [], [], []⟩ : Ar).len i = 0 := by unfold Ar.len; split <;> rfl
    have e2 : (⟨[], [], [], []⟩ : Ar).row i = [] := by unfold Ar.row; split <;> rfl
    rw [e, e2]
    exact ⟨by simp, .inl ⟨rfl, rfl⟩⟩
  · rcases mem_foot.1 hb with h | ⟨i, hi, h⟩
    · omega
    · simp [Value.ownBlock] at h
/-- Brand, and parts behind it. -/
theorem brand_parts (w : World) (p n k : Nat) (v : Nat → Value) (A : Ar) (h : Parts w p v A) (hR : Room A (k + 4)) (hQ : Quo A n (k + 4)) : ∃ R S U : Nat, triple A n = (A.name, S, U) ∧
    Calls Tryz.prog 47 #[.pointer (some ⟨p, 0, none⟩), .int .i64 n] w fun e w1 => ∃ (v' : Nat → Value) (bm g : Nat), e = .returned (.tuple #[.int .u64 R, .int .i64 0]) ∧ (Parts w1 p v' (after A n bm) ∧ Chg (foot p v) w w1 ∧ (∀ b ∈ foot p v', b ∈ foot p v ∨ w.heap.size ≤ b)) ∧
      (∀ wx, Up w1 wx → ∀ y : Nat, (y = R ∨ y = S ∨ y = U) → Calls Tryz.prog 14 #[.pointer (some ⟨p, 0, none⟩), .int .u64 y] wx fun e w' => e = .returned (.pointer (some ⟨g, (y % 4294967296) * 16 + 2, none⟩)) ∧ Up w1 w') ∧
      (∀ wx, Up w1 wx → Calls Tryz.prog 48 #[.pointer (some ⟨p, 0, none⟩), .int .u64 R] wx fun e w' => e = .returned (.tuple #[.int .u64 S, .int .u64 U, .bool true]) ∧ Up w1 w') ∧
      (ObAt w1 g ((R % 4294967296) * 16 + 2) (recOb n bm) ∧ ObAt w1 g ((S % 4294967296) * 16 + 2) (obK 3 n A.name) ∧ ObAt w1 g ((U % 4294967296) * 16 + 2) (obK 4 n A.name)) ∧
      (∀ wx, Up w1 wx → ∀ ty, (Builtin.len_ #[63] ty #[.map (some bm)]).run Tryz.prog wx = .ok (.int .i64 2) wx) := by
  refine ⟨(rnd (A.add (obK 2 n 0)) n A.name 2).name, (triple A n).2.1, (triple A n).2.2, rfl, ?_⟩
  refine (brand_room w p n k k v A h hR hQ).mono ?_
  rintro e w1 ⟨v', bm, m, D, rfl, hP, hC, hF, hown, -, hM, -, -⟩
  have H := has_after (bm := bm) hR (n := n)
  have FR := rec_after (bm := bm) hR (n := n)
  have LR := rec_lt hR (n := n)
  obtain ⟨hsz, hS, hU⟩ := mapB_two hM
  obtain ⟨s, hs, -⟩ := find_slot FR
  obtain ⟨g, cap, -, hog, -⟩ := hP.obAt hs
  refine ⟨v', bm, g, rfl, ⟨hP, hC, hF⟩, fun wx hx y hy => ?_, fun wx hx => ?_, ⟨obAt_find hog hP FR, obAt_find hog hP H.hs, obAt_find hog hP H.hu⟩, fun wx hx ty => ?_⟩
  · rcases hy with rfl | rfl | rfl
    · refine (ar.get_at wx p _ v' _ _ g hog (hP.up hx) (by omega) FR).mono ?_
      rintro e w' ⟨rfl, hU'⟩; exact ⟨rfl, hx.trans hU'⟩
    · refine (ar.get_at wx p _ v' _ _ g hog (hP.up hx) (by have := H.ls; omega) H.hs).mono ?_
      rintro e w' ⟨rfl, hU'⟩; exact ⟨rfl, hx.trans hU'⟩
    · refine (ar.get_at wx p _ v' _ _ g hog (hP.up hx) (by have := H.lu; omega) H.hu).mono ?_
      rintro e w' ⟨rfl, hU'⟩; exact ⟨rfl, hx.trans hU'⟩
  · refine (parts_x wx p _ (triple A n).2.1 (triple A n).2.2 n bm m v' _ D _ _ (hP.up hx) (by omega) FR (owns_up hown hx) hS hU H.ls H.lu H.hs H.hu).mono ?_
    rintro e w' ⟨rfl, hU'⟩; exact ⟨rfl, hx.trans hU'⟩
  · have := (owns_up hown hx).len Tryz.underlying63 ty
    rw [hsz] at this
    exact this
theorem Lp.less {w0 w : World} {p k j : Nat} {v : Nat → Value} {A : Ar} {ns : Nat → Nat} {l : List (Nat × Nat × Nat)} {vs vu : Value} (h : Lp w0 w p v A ns l k vs vu) (hj : j ≤ k) : Lp w0 w p v A ns l j vs vu :=
  ⟨h.pt, Room.mono h.rm hj, Quo.mono h.q0 hj, Quo.mono h.q1 hj, h.br, h.fo, h.rs, h.ru, h.ns_, h.nu, h.ap, h.bel⟩
theorem Lp.selAt {w0 w : World} {p k gs c i : Nat} {v : Nat → Value} {A : Ar} {ns : Nat → Nat} {l : List (Nat × Nat × Nat)} {vu : Value} {x : Nat × Nat × Nat} (h : Lp w0 w p v A ns l k (.slice (some ⟨gs, 0, none⟩) l.length c) vu) (hx : l[i]? = some x) : w.cell? ⟨gs, i, none⟩ = some (.int .u64 (x.2.1 : Nat)) := by
  have hi : i < l.length := (List.getElem?_eq_some_iff.1 hx).1
  rw [World.ownsRow.cellAt h.rs i (by omega)]
  show (l.map _)[i]? = _
  rw [List.getElem?_map, hx]
  rfl
theorem Lp.unAt {w0 w : World} {p k gs c i : Nat} {v : Nat → Value} {A : Ar} {ns : Nat → Nat} {l : List (Nat × Nat × Nat)} {vs : Value} {x : Nat × Nat × Nat} (h : Lp w0 w p v A ns l k vs (.slice (some ⟨gs, 0, none⟩) l.length c)) (hx : l[i]? = some x) : w.cell? ⟨gs, i, none⟩ = some (.int .u64 (x.2.2 : Nat)) := by
  have hi : i < l.length := (List.getElem?_eq_some_iff.1 hx).1
  rw [World.ownsRow.cellAt h.ru i (by omega)]
  show (l.map _)[i]? = _
  rw [List.getElem?_map, hx]
  rfl
theorem tmod_small {a : Int} {n : Nat} (ha : 0 ≤ a) (hn : 0 < n) : ∃ k : Nat, k < n ∧ a.tmod (n : Int) = (k : Int) := by
  refine ⟨a.toNat % n, Nat.mod_lt _ hn, ?_⟩
  obtain ⟨m, rfl⟩ : ∃ m : Nat, a = (m : Int) := ⟨a.toNat, by omega⟩
  rw [Int.tmod_eq_emod_of_nonneg ha, Int.toNat_natCast]
  rfl
theorem step_of {a b : Prop} (h : a) (k : a → b) : b := k h
theorem Lp.chg {F : List Nat} {w0 w w' : World} {p k : Nat} {v : Nat → Value} {A : Ar} {ns : Nat → Nat} {l : List (Nat × Nat × Nat)} {vs vu : Value} (h : Lp w0 w p v A ns l k vs vu) (c : Chg F w w') (h1 : ∀ b ∈ F, w0.heap.size ≤ b) (h2 : ∀ b ∈ foot p v, b ∉ F) (h3 : ∀ b, vs.ownBlock = some b → b ∉ F) (h4 : ∀ b, vu.ownBlock = some b → b ∉ F) : Lp w0 w' p v A ns l k vs vu :=
  ⟨h.pt.chg c h2, h.rm, h.q0, h.q1, h.br, h.fo, owns_chg h.rs c h3, owns_chg h.ru c h4, h.ns_, h.nu, h.ap, Below.trans h.bel (c.below h.bel.size h1)⟩
section
variable {w0 wr wX wx w3 : World} {p k n br : Nat} {v v3 : Nat → Value} {A : Ar} {ns : Nat → Nat} {l : List (Nat × Nat × Nat)} {vs vu a b c : Value} {q : V3}
theorem box_end1 (h : Lp w0 wr p v A ns l (k + 1) vs vu) (hn2 : n < 2) (hx : Has3 wX wr.heap.size a b c) (ux : Up wr wX) (u : Up wX wx) (pt : Parts w3 p v3 (A.add (boxOb n br q))) (cb : Chg (foot p v) wx w3) (fb : ∀ b ∈ foot p v3, b ∈ foot p v ∨ wx.heap.size ≤ b) (NM : Nat) (ty : Nat) :
    wr.heap.size < w3.heap.size ∧ Has3 (w3.alloc (.cells #[.int .u8 5, .int .i64 NM, .string ⟨#[]⟩] ty)) w3.heap.size (.int .u8 5) (.int .i64 NM) (.string ⟨#[]⟩) ∧ Has3 (w3.alloc (.cells #[.int .u8 5, .int .i64 NM, .string ⟨#[]⟩] ty)) wr.heap.size a b c ∧ Lp w0 (w3.alloc (.cells #[.int .u8 5, .int .i64 NM, .string ⟨#[]⟩] ty)) p v3 (A.add (boxOb n br q)) ns l k vs vu := by
  have hn : wr.heap.size ∉ foot p v := fun hh => Nat.lt_irrefl _ (h.pt.lt _ hh)
  have h3 := has3_chg (hx.up u) cb hn
  exact ⟨h3.1, has3_alloc w3 _ _ _ ty, h3.alloc _, (h.box rfl hn2 (ux.trans u) pt cb fb).up ((Up.refl w3).alloc _)⟩
theorem box_end2 (h : Lp w0 wr p v A ns l (k + 1) vs vu) (hn2 : n < 2) (hx : Has3 wX wr.heap.size a b c) (ux : Up wr wX) (u : Up wX wx) (pt : Parts w3 p v3 (A.add (boxOb n br q))) (cb : Chg (foot p v) wx w3) (fb : ∀ b ∈ foot p v3, b ∈ foot p v ∨ wx.heap.size ≤ b) (NM : Nat) {xb : Nat} {c0 c1 c2 : Value} (hxb : wr.heap.size < xb) (hxw : xb < wx.heap.size) (z : Has3 w3 xb c0 c1 c2) :
    wr.heap.size < xb ∧ Has3 (((w3.setCell ⟨xb, 0, none⟩ (.int .u8 5)).setCell ⟨xb, 1, none⟩ (.int .i64 NM)).setCell ⟨xb, 2, none⟩ (.string ⟨#[]⟩)) xb (.int .u8 5) (.int .i64 NM) (.string ⟨#[]⟩) ∧ Has3 (((w3.setCell ⟨xb, 0, none⟩ (.int .u8 5)).setCell ⟨xb, 1, none⟩ (.int .i64 NM)).setCell ⟨xb, 2, none⟩ (.string ⟨#[]⟩)) wr.heap.size a b c ∧ Lp w0 (((w3.setCell ⟨xb, 0, none⟩ (.int .u8 5)).setCell ⟨xb, 1, none⟩ (.int .i64 NM)).setCell ⟨xb, 2, none⟩ (.string ⟨#[]⟩)) p v3 (A.add (boxOb n br q)) ns l k vs vu := by
  have hn : wr.heap.size ∉ foot p v := fun hh => Nat.lt_irrefl _ (h.pt.lt _ hh)
  have h3 := has3_chg (hx.up u) cb hn
  have hne : wr.heap.size ≠ xb := by omega
  have C : Chg [xb] w3 (((w3.setCell ⟨xb, 0, none⟩ (.int .u8 5)).setCell ⟨xb, 1, none⟩ (.int .i64 NM)).setCell ⟨xb, 2, none⟩ (.string ⟨#[]⟩)) := (((Chg.refl [xb] w3).setCell (p := ⟨xb, 0, none⟩) (.inl (by simp)) _).setCell (p := ⟨xb, 1, none⟩) (.inl (by simp)) _).setCell (p := ⟨xb, 2, none⟩) (.inl (by simp)) _
  have hL := h.box (n := n) rfl hn2 (ux.trans u) pt cb fb
  have hz := h.bel.size
  refine ⟨hxb, z.store _ _ _, ((h3.other hne _).other hne _).other hne _, hL.chg C (fun b hb => ?_) (fun b hb hx => ?_) (fun b hb hx => ?_) (fun b hb hx => ?_)⟩
  · rw [List.mem_singleton.1 hb]; omega
  · rw [List.mem_singleton.1 hx] at hb
    rcases fb xb hb with h1 | h1
    · have := h.pt.lt xb h1; omega
    · omega
  · have := (h.rs.lt b hb).2
    rw [List.mem_singleton.1 hx] at this; omega
  · have := (h.ru.lt b hb).2
    rw [List.mem_singleton.1 hx] at this; omega
end
theorem unseal_of {w0 wc wx : World} {p k i j n NM yb yS yU : Nat} {v : Nat → Value} {A : Ar} {ns : Nat → Nat} {l : List (Nat × Nat × Nat)} {vs vu : Value} {q : V3} {y : Nat × Nat × Nat} (h : Lp w0 wc p v A ns l j vs vu) (u : Up wc wx) (hy : l[i]? = some y) (hk : l[k]? = some (yb, yS, yU)) (hn : ns k = n) (hnm : NM < 9223372036854775808) (hf : A.find NM = some (boxOb n yb q)) :
    Calls Tryz.prog 50 #[.pointer (some ⟨p, 0, none⟩), .int .u64 (y.2.2 : Nat), val (5, (NM : Int), ⟨#[]⟩)] wx fun e w' => e = .returned (.tuple #[val (if i = k then q else zero3), .int .i64 (if i = k then 0 else 13)]) ∧ Up wx w' := by
  have H := h.br.hx i y hy
  refine (unseal_box wx p y.2.2 NM v A _ _ (h.pt.up u) (by have := H.lu; omega) hnm H.hu hf rfl rfl).mono ?_
  rintro e w' ⟨rfl, hu⟩
  refine ⟨?_, hu⟩
  by_cases e1 : i = k
  · subst e1
    rw [hk] at hy
    cases hy
    rw [hn]
    rw [if_pos rfl, if_pos rfl, show opened (obK 4 n ((yb, yS, yU) : Nat × Nat × Nat).1) (boxOb n yb q) = (q, 0) from opened_same]
  · rw [if_neg e1, if_neg e1, opened_other]
    intro e2
    exact e1 (h.br.ne i k y _ hy hk (by have : (y.1 : Int) = (yb : Int) := e2.symm; show y.1 = yb; omega))
theorem ne_same (p : V3) (W : World) : (binOp .neq 51 (val p) (val p)).run Tryz.prog W = .ok (.bool false) W := by
  rw [ne_val p p W]
  simp
/-- Behind a box that is sealed: its value is laid somewhere. -/
def BoxEnd (w0 wr W : World) (p : Nat) (v : Nat → Value) (A : Ar) (ns : Nat → Nat) (l : List (Nat × Nat × Nat)) (k : Nat) (vs vu a b c : Value) (xb NM : Nat) : Prop :=
  wr.heap.size < xb ∧ Has3 W xb (.int .u8 5) (.int .i64 NM) (.string ⟨#[]⟩) ∧ Has3 W wr.heap.size a b c ∧ Lp w0 W p v A ns l k vs vu
theorem seal_box {w0 wr wX : World} {p k n br yS : Nat} {v : Nat → Value} {A : Ar} {ns : Nat → Nat} {l : List (Nat × Nat × Nat)} {vs vu a b c : Value} {q : V3} (h : Lp w0 wr p v A ns l (k + 1) vs vu) (hn2 : n < 2) (hQ : Quo A n (k + 1)) (hx : Has3 wX wr.heap.size a b c) (ux : Up wr wX) (hf : A.find yS = some (obK 3 n br)) (hl : yS < 9223372036854775808) (wx : World) (u : Up wX wx) :
    Calls Tryz.prog 49 #[.pointer (some ⟨p, 0, none⟩), .int .u64 yS, val q] wx fun e w3 => ∃ v3, e = .returned (.tuple #[val (5, (A.name : Int), ⟨#[]⟩), .int .i64 0]) ∧
      (∀ (NM ty : Nat), BoxEnd w0 wr (w3.alloc (.cells #[.int .u8 5, .int .i64 NM, .string ⟨#[]⟩] ty)) p v3 (A.add (boxOb n br q)) ns l k vs vu a b c w3.heap.size NM) ∧
      (∀ (xb : Nat) (c0 c1 c2 : Value), wr.heap.size < xb → Has3 wx xb c0 c1 c2 → Has3 w3 xb c0 c1 c2 ∧ ∀ NM : Nat, BoxEnd w0 wr (((w3.setCell ⟨xb, 0, none⟩ (.int .u8 5)).setCell ⟨xb, 1, none⟩ (.int .i64 NM)).setCell ⟨xb, 2, none⟩ (.string ⟨#[]⟩)) p v3 (A.add (boxOb n br q)) ns l k vs vu a b c xb NM) := by
  refine (seal_k wx p yS v A _ q (h.pt.up (ux.trans u)) (by omega) hf rfl n _ _ rfl h.rm hQ).mono ?_
  rintro e w3 ⟨v3, rfl, hP, hC, hF⟩
  refine ⟨v3, rfl, fun NM ty => box_end1 h hn2 hx ux u hP hC hF NM ty, fun xb c0 c1 c2 hxb hz => ?_⟩
  have hz' : Has3 w3 xb c0 c1 c2 := has3_chg hz hC (fun hh => by have := h.pt.lt _ hh; omega)
  exact ⟨hz', fun NM => box_end2 h hn2 hx ux u hP hC hF NM hxb hz.1 hz'⟩
/-- The worlds that have grown out of one. -/
structure Wd (W : World) where
  w : World
  up : Up W w
instance (W : World) : Nonempty (Wd W) := ⟨⟨W, Up.refl W⟩⟩
/-- A region that only reads, its calls making memory: one walk, in whatever world that has grown. -/
theorem wp_region_up {P : Program} {id : Nat} {Q : Exit → Act → World → Prop} {a : Act} {w : World} {l : List Oper} (hm : P.follows .mixedOrders = true) (hB : Region.lexB .any l.toArray = true)
    (h : wpQuiet P l.toArray (fun w' => ∃ x : Wd w, w' = x.w) (fun a' => ∀ w', (∃ x : Wd w, w' = x.w) → Q .normal a' w') l a) : (Code.region id l.toArray true).wp P Q a w :=
  wp_region_quiet (C := fun w' => ∃ x : Wd w, w' = x.w) hm hB ⟨⟨w.drew, (Up.refl w).drew⟩, rfl⟩ (by simpa using h)
end Go.Proofs.YtmmfpkkkpeapeaaGreatDoor.sb

/- WrapFull: what holds before a round: plain laws. -/
set_option linter.unusedVariables false
namespace Go.Proofs.YtmmfpkkkpeapeaaGreatDoor.mb
open Go.RowKit Go.Maps mem rec ar
set_option maxHeartbeats 400000
/-- Room for a objects more, b of owner 0; owner 1 has j of the k that he may have. -/
structure Ful (w0 w : World) (p cb : Nat) (lv : Value) (v : Nat → Value) (A : Ar) (C : Ca) (a b k j n : Nat) : Prop where
  pt : Parts w p v A
  rm : Room A a
  q0 : Quo A 0 b
  q1 : A.quotas[1]? = some (k : Int)
  m1 : A.many[1]? = some (j : Int)
  ow : ∃ D, w.ownsMap Tryz.prog 113 R1 cb n D ∧ CacheIs D C
  cf : ∀ m r q, C m r = some q → ∃ o, A.find r = some o
  ls : ListAt w lv [(0, 1, false)]
  lb : ∀ b, lv.ownBlock = some b → b ∉ foot p v ∧ b ≠ cb ∧ b < w.heap.size
  cn : cb ∉ foot p v
  fo : ∀ b ∈ foot p v, w0.heap.size ≤ b
  cl : w0.heap.size ≤ cb
  bel : Up w0 w
section
variable {w0 w w1 : World} {p cb a b k j n : Nat} {lv : Value} {v v1 : Nat → Value} {A : Ar} {C : Ca}
theorem Ful.up (h : Ful w0 w p cb lv v A C a b k j n) (u : Up w w1) : Ful w0 w1 p cb lv v A C a b k j n :=
  ⟨h.pt.up u, h.rm, h.q0, h.q1, h.m1, by obtain ⟨D, h1, h2⟩ := h.ow; exact ⟨D, owns_up h1 u, h2⟩, h.cf, h.ls.up u, fun b hb => ⟨(h.lb b hb).1, (h.lb b hb).2.1, Nat.lt_of_lt_of_le (h.lb b hb).2.2 u.size⟩, h.cn, h.fo, h.cl, h.bel.trans u⟩
theorem Ful.fresh (h : Ful w0 w p cb lv v A C (a + 1) b k j n) (m : Int) : C m A.name = none := by
  cases hc : C m A.name with
  | none => rfl
  | some q =>
    obtain ⟨o, ho⟩ := h.cf m _ q hc
    exact absurd rfl (name_ne h.rm ho)
theorem Ful.quo (h : Ful w0 w p cb lv v A C a b k (j) n) (hjk : j < k) (hk : k ≤ 20) : Quo A 1 ((k - j - 1) + 1) := ⟨k, j, h.q1, h.m1, by omega, by omega, by omega⟩
/-- A record more, of owner 0. -/
theorem Ful.rec1 (h : Ful w0 w p cb lv v A C (a + 1) (b + 1) k j n) {o : Ob} (ho : o.owner = (0 : Nat)) (pt : Parts w1 p v1 (A.add o)) (cg : Chg (foot p v) w w1) (fb : ∀ b ∈ foot p v1, b ∈ foot p v ∨ w.heap.size ≤ b) : Ful w0 w1 p cb lv v1 (A.add o) C a b k j n := by
  obtain ⟨D, hD, hC⟩ := h.ow
  have hcl := hD.lt
  have z := h.bel.size
  have nf : ∀ b, b < w.heap.size → b ∉ foot p v → b ∉ foot p v1 := fun b hb hn hx => by
    rcases fb b hx with h1 | h1
    · exact hn h1
    · omega
  refine ⟨pt, h.rm.add o, h.q0.add o ho, h.q1, ?_, ⟨D, map_chg hD cg h.cn, hC⟩, fun m r q hc => ?_, h.ls.chg cg (fun b hb => (h.lb b hb).1), fun b hb => ⟨nf b (h.lb b hb).2.2 (h.lb b hb).1, (h.lb b hb).2.1, Nat.lt_of_lt_of_le (h.lb b hb).2.2 cg.size⟩, nf cb hcl h.cn, fun b hb => ?_, h.cl, Below.trans h.bel (cg.below z h.fo)⟩
  · show (A.many.set o.owner.toNat (A.many.getD o.owner.toNat 0 + 1))[1]? = _
    rw [show o.owner.toNat = 0 by rw [ho]; rfl, List.getElem?_set_ne (by decide)]
    exact h.m1
  · obtain ⟨x, hx⟩ := h.cf m r q hc
    exact ⟨x, find_add_old h.rm o hx⟩
  · rcases fb b hb with h1 | h1
    · exact h.fo b h1
    · omega
/-- A proxy more, of owner 1. -/
theorem Ful.prox (h : Ful w0 w p cb lv v A C (a + 1) b k j n) {m : Int} {r : Nat} {o ob : Ob} {D' : DataW Nat} (hr : A.find r = some o) (ho : ob.owner = (1 : Nat)) (pt : Parts w1 p v1 (A.add ob)) (cg : Chg (cb :: foot p v) w w1) (fb : ∀ b ∈ foot p v1, b ∈ foot p v ∨ w.heap.size ≤ b)
    (ow : w1.ownsMap Tryz.prog 113 R1 cb (n + 1) D') (hC : CacheIs D' (C.put m r A.name)) (hcn : cb ∉ foot p v1) : Ful w0 w1 p cb lv v1 (A.add ob) (C.put m r A.name) a b k (j + 1) (n + 1) := by
  have z := h.bel.size
  have nf : ∀ b, b < w.heap.size → b ∉ foot p v → b ∉ foot p v1 := fun b hb hn hx => by
    rcases fb b hx with h1 | h1
    · exact hn h1
    · omega
  refine ⟨pt, h.rm.add ob, h.q0.other ob ho (by decide), h.q1, ?_, ⟨D', ow, hC⟩, fun m' r' q hc => ?_, h.ls.chg cg (fun b hb hx => ?_), fun b hb => ⟨nf b (h.lb b hb).2.2 (h.lb b hb).1, (h.lb b hb).2.1, Nat.lt_of_lt_of_le (h.lb b hb).2.2 cg.size⟩, hcn, fun b hb => ?_, h.cl, Below.trans h.bel (cg.below z (fun b hb => ?_))⟩
  · show (A.many.set ob.owner.toNat (A.many.getD ob.owner.toNat 0 + 1))[1]? = _
    have e : ob.owner.toNat = 1 := by rw [ho]; rfl
    rw [e, List.getElem?_set_self (List.getElem?_eq_some_iff.1 h.m1).1, List.getD_eq_getElem?_getD, h.m1]
    rfl
  · unfold Ca.put at hc
    split at hc
    · rename_i e
      exact ⟨o, by rw [e.2]; exact find_add_old h.rm ob hr⟩
    · obtain ⟨x, hx⟩ := h.cf m' r' q hc
      exact ⟨x, find_add_old h.rm ob hx⟩
  · rcases List.mem_cons.1 hx with h1 | h1
    · exact (h.lb b hb).2.1 h1
    · exact (h.lb b hb).1 h1
  · rcases fb b hb with h1 | h1
    · exact h.fo b h1
    · omega
  · rcases List.mem_cons.1 hb with h1 | h1
    · rw [h1]; exact h.cl
    · exact h.fo b h1
end
end Go.Proofs.YtmmfpkkkpeapeaaGreatDoor.mb

/- WrapFull: what a round's calls give. -/
set_option linter.unusedVariables false
namespace Go.Proofs.YtmmfpkkkpeapeaaGreatDoor.mb
open Go.RowKit Go.Maps mem rec ar
set_option maxHeartbeats 400000
theorem wp_ne {d : Option Nat} {ty : TypeId} {pos : String} {after : Array Edge} {g : Option (Nat × Bool)} {x y : Operand} {a : Act} {w : World} {K : Act → World → Prop} {Q : Exit → Act → World → Prop} {v u : Value} (p q : V3) (hx : a.eval x = v) (hy : a.eval y = u) (hv : v = val p) (hu : u = val q) (b : Bool) (hb : decide (p ≠ q) = b) (h : K (a.put d (.bool b)) w) :
    Oper.wp Tryz.prog ⟨d, .binOp .neq 51 x y 51, ty, pos, after, g⟩ a w K Q := by
  subst hv hu
  have N : (binOp .neq 51 (val p) (val q)).run Tryz.prog w = .ok (.bool b) w := by rw [ne_val, hb]
  unfold Oper.wp
  simp [execOp, hx, hy, N, neguard_val, Result.andThen]
  exact h
theorem wpl_ne {ops : Array Oper} {rest : List Oper} {d : Option Nat} {ty : TypeId} {pos : String} {after : Array Edge} {g : Option (Nat × Bool)} {x y : Operand} {a : Act} {w : World} {Q : Exit → Act → World → Prop} (p q : V3) (hw : Region.wanted ⟨d, .binOp .neq 51 x y 51, ty, pos, after, g⟩ (yielded ops a.tmps) = true) (hx : a.eval x = val p) (hy : a.eval y = val q) (b : Bool) (hb : decide (p ≠ q) = b) (h : wpList Tryz.prog ops Q rest (a.put d (.bool b)) w) :
    wpList Tryz.prog ops Q (⟨d, .binOp .neq 51 x y 51, ty, pos, after, g⟩ :: rest) a w :=
  wpList_step fun K hK => by rw [if_pos hw]; exact wp_ne p q hx hy rfl rfl b hb (hK _ _ h)
def L1 : List Mb := [(0, 1, false)]
theorem l1_other : otherR L1 0 1 = some 0 := rfl
theorem l1_back : otherR L1 0 0 = some 1 := rfl
theorem l1_dead : deadR L1 0 = false := rfl
section
variable {w0 w w1 : World} {p cb a b k j n r bm : Nat} {lv : Value} {v v1 : Nat → Value} {A : Ar} {C : Ca}
theorem Ful.cputs (F : Ful w0 w p cb lv v A C (a + 1) (b + 1) k j n) (wx : World) (bm : Nat) (hx : Up w wx) :
    Calls Tryz.prog 27 #[.pointer (some ⟨p, 0, none⟩), .agg (recOb 0 bm).cells.toArray] wx fun e w' => ∃ v', e = .returned (.tuple #[.int .u64 A.name, .int .i64 0]) ∧ Ful w0 w' p cb lv v' (A.add (recOb 0 bm)) C a b k j n ∧ Chg (cb :: foot p v) w w' ∧ ∀ b ∈ foot p v', b ∈ foot p v ∨ w.heap.size ≤ b := by
  have F1 := F.up hx
  refine (put_k wx p v A (recOb 0 bm) F1.pt 0 b a rfl F1.rm F1.q0).mono ?_
  rintro e w' ⟨v', rfl, h1, h2, h3⟩
  refine ⟨v', rfl, F1.rec1 rfl h1 h2 h3, (hx.chg.mono (by simp)).trans h2 (fun x hx => .inl (List.mem_cons_of_mem _ hx)), fun b hb => ?_⟩
  rcases h3 b hb with h4 | h4
  · exact .inl h4
  · exact .inr (Nat.le_trans hx.size h4)
theorem Ful.cnew (F : Ful w0 w p cb lv v A C (a + 1) b k j n) (hf : A.find r = some (recOb 0 bm)) (hc : C 0 r = none) (hjk : j < k) (hk : k ≤ 20) (hn : n ≤ 60) (wx : World) (hx : Up w wx) :
    Calls Tryz.prog 9 #[lv, .pointer (some ⟨p, 0, none⟩), .map (some cb), .int .i64 0, .int .i64 1, val (5, (r : Int), ⟨#[]⟩)] wx fun e w' => ∃ v', e = .returned (.tuple #[val (5, (A.name : Int), ⟨#[]⟩), .int .i64 0]) ∧ Ful w0 w' p cb lv v' (A.add (proxyOb 1 0 r 1)) (C.put 0 r A.name) a b k (j + 1) (n + 1) ∧ Chg (cb :: foot p v) w w' ∧ ∀ b ∈ foot p v', b ∈ foot p v ∨ w.heap.size ≤ b := by
  have F1 := F.up hx
  obtain ⟨D, hD, hC⟩ := F1.ow
  refine (pass_new wx lv p cb 0 1 L1 r 0 1 (k - j - 1) a v A (find_lt F1.rm hf) F1.pt F1.ls F1.pt.hd.lt l1_other l1_dead (recOb 0 bm) hf n D C hD hC rfl rfl (by rintro ⟨h, -⟩; exact absurd h (by show ¬ (0 : Int) = 6; decide)) hc ⟨Int.le_refl 0, by show (0 : Int) < 6; decide⟩ rfl F1.rm (F1.quo hjk hk) (by unfold maxLen; omega) F1.cn).mono ?_
  rintro e w' ⟨v', D', rfl, h1, h2, h3, h4, h5, h6⟩
  refine ⟨v', rfl, F1.prox hf rfl h1 h2 h3 h4 h5 h6, (hx.chg.mono (by simp)).trans h2 (fun x hx => .inl hx), fun b hb => ?_⟩
  rcases h3 b hb with h4 | h4
  · exact .inl h4
  · exact .inr (Nat.le_trans hx.size h4)
theorem Ful.chit (F : Ful w0 w p cb lv v A C a b k j n) (hf : A.find r = some (recOb 0 bm)) {q : Nat} (hc : C 0 r = some q) (hq : q < 9223372036854775808) (wx : World) (hx : Up w wx) :
    Calls Tryz.prog 9 #[lv, .pointer (some ⟨p, 0, none⟩), .map (some cb), .int .i64 0, .int .i64 1, val (5, (r : Int), ⟨#[]⟩)] wx fun e w' => e = .returned (.tuple #[val (5, (q : Int), ⟨#[]⟩), .int .i64 0]) ∧ Up wx w' := by
  have F1 := F.up hx
  obtain ⟨D, hD, hC⟩ := F1.ow
  exact pass_hit wx lv p cb 0 1 L1 r 0 v A (find_lt F1.rm hf) F1.pt F1.ls F1.pt.hd.lt l1_other l1_dead (recOb 0 bm) hf n D C hD hC rfl rfl (by rintro ⟨h, -⟩; exact absurd h (by show ¬ (0 : Int) = 6; decide)) q hq hc trivial
theorem Ful.cfull (F : Ful w0 w p cb lv v A C a b k j n) (hf : A.find r = some (recOb 0 bm)) (hc : C 0 r = none) (hjk : j = k) (wx : World) (hx : Up w wx) :
    Calls Tryz.prog 9 #[lv, .pointer (some ⟨p, 0, none⟩), .map (some cb), .int .i64 0, .int .i64 1, val (5, (r : Int), ⟨#[]⟩)] wx fun e w' => e = .returned (.tuple #[val zero3, .int .i64 8]) ∧ Up wx w' := by
  have F1 := F.up hx
  obtain ⟨D, hD, hC⟩ := F1.ow
  subst hjk
  exact pass_full wx lv p cb 0 1 L1 r 0 j j 1 v A (find_lt F1.rm hf) F1.pt F1.ls F1.pt.hd.lt l1_other l1_dead (recOb 0 bm) hf n D C hD hC rfl rfl (by rintro ⟨h, -⟩; exact absurd h (by show ¬ (0 : Int) = 6; decide)) hc ⟨Int.le_refl 0, by show (0 : Int) < 6; decide⟩ rfl F1.q1 F1.m1 (Int.le_refl _)
/-- The variable 'first'. -/
def Fst (w : World) (fb cb p : Nat) (v : Nat → Value) (A : Ar) (t k : Nat) : Prop :=
  fb ∉ cb :: foot p v ∧ ∃ x : V3, Has3 w fb (.int .u8 x.1) (.int .i64 x.2.1) (.string x.2.2) ∧ (0 < t → 0 < k → ∃ f r0 : Nat, x = (5, (f : Int), ⟨#[]⟩) ∧ r0 < 9223372036854775808 ∧ A.find f = some (proxyOb 1 0 r0 1))
theorem Fst.chg {fb t : Nat} {A1 : Ar} (h : Fst w fb cb p v A t k) (c : Chg (cb :: foot p v) w w1) (fo : ∀ b ∈ foot p v1, b ∈ foot p v ∨ w.heap.size ≤ b) (ho : Old A A1) : Fst w1 fb cb p v1 A1 t k := by
  obtain ⟨h1, x, h2, h3⟩ := h
  have hlt := h2.1
  refine ⟨fun hx => ?_, x, has3_chg h2 c h1, fun a b => ?_⟩
  · rcases List.mem_cons.1 hx with h4 | h4
    · exact h1 (by rw [h4]; exact List.mem_cons_self ..)
    · rcases fo fb h4 with h5 | h5
      · exact h1 (List.mem_cons_of_mem _ h5)
      · omega
  · obtain ⟨f, r0, e1, e2, e3⟩ := h3 a b
    exact ⟨f, r0, e1, e2, ho _ _ e3⟩
theorem Fst.up {fb t : Nat} (h : Fst w fb cb p v A t k) (u : Up w w1) : Fst w1 fb cb p v A t k := h.chg (u.chg.mono (by simp)) (fun b hb => .inl hb) (Old.refl A)
theorem Ful.fchg {fb : Nat} (h : Ful w0 w p cb lv v A C a b k j n) (c : Chg [fb] w w1) (h1 : fb ∉ cb :: foot p v) (h2 : lv.ownBlock ≠ some fb) (h3 : w0.heap.size ≤ fb) : Ful w0 w1 p cb lv v A C a b k j n := by
  have e : ∀ b ∈ cb :: foot p v, b ∉ [fb] := fun b hb hx => h1 (by rw [← List.mem_singleton.1 hx]; exact hb)
  exact ⟨h.pt.chg c (fun b hb => e b (List.mem_cons_of_mem _ hb)), h.rm, h.q0, h.q1, h.m1, by obtain ⟨D, g1, g2⟩ := h.ow; exact ⟨D, map_chg g1 c (e cb (List.mem_cons_self ..)), g2⟩, h.cf, h.ls.chg c (fun b hb hx => h2 (by rw [hb, List.mem_singleton.1 hx])), fun b hb => ⟨(h.lb b hb).1, (h.lb b hb).2.1, Nat.lt_of_lt_of_le (h.lb b hb).2.2 c.size⟩, h.cn, h.fo, h.cl, Below.trans h.bel (c.below h.bel.size (fun b hb => by rw [List.mem_singleton.1 hb]; exact h3))⟩
theorem Ful.fewer (h : Ful w0 w p cb lv v A C (a + 1) b k j n) : Ful w0 w p cb lv v A C a b k j n :=
  ⟨h.pt, sb.Room.mono h.rm (by omega), h.q0, h.q1, h.m1, h.ow, h.cf, h.ls, h.lb, h.cn, h.fo, h.cl, h.bel⟩
theorem Fst.set {fb t : Nat} (h : Fst w fb cb p v A t k) (x : V3) (hx : 0 < k → ∃ f r0 : Nat, x = (5, (f : Int), ⟨#[]⟩) ∧ r0 < 9223372036854775808 ∧ A.find f = some (proxyOb 1 0 r0 1)) (s : Nat) :
    Fst (((w.setCell ⟨fb, 0, none⟩ (.int .u8 x.1)).setCell ⟨fb, 1, none⟩ (.int .i64 x.2.1)).setCell ⟨fb, 2, none⟩ (.string x.2.2)) fb cb p v A s k := by
  obtain ⟨h1, y, h2, h3⟩ := h
  exact ⟨h1, x, h2.store _ _ _, fun _ hk => hx hk⟩
theorem Fst.more {fb t s : Nat} (h : Fst w fb cb p v A t k) (ht : 0 < t) : Fst w fb cb p v A s k := by
  obtain ⟨h1, y, h2, h3⟩ := h
  exact ⟨h1, y, h2, fun _ hk => h3 ht hk⟩
theorem set3_chg (w : World) (fb : Nat) (a b c : Value) : Chg [fb] w (((w.setCell ⟨fb, 0, none⟩ a).setCell ⟨fb, 1, none⟩ b).setCell ⟨fb, 2, none⟩ c) :=
  (((Chg.refl [fb] w).setCell (p := ⟨fb, 0, none⟩) (.inl (by simp)) _).setCell (p := ⟨fb, 1, none⟩) (.inl (by simp)) _).setCell (p := ⟨fb, 2, none⟩) (.inl (by simp)) _
end
theorem full_start (w w0 w1 w2 : World) (k : Nat) (v1 v2 : Nat → Value) (hb0 : Below w.heap.size w w0) (pt2 : Parts w2 w0.heap.size v2 ⟨[], [], [60, (k : Int)], [0, 0]⟩)
    (hC1 : Chg (foot w0.heap.size (fun _ => Value.slice none 0 0)) ((w0.alloc (.cells #[.slice none 0 0, .slice none 0 0, .slice none 0 0, .slice none 0 0] 120)).alloc (.map #[] 0)) w1)
    (hF1 : ∀ b ∈ foot w0.heap.size v1, b ∈ foot w0.heap.size (fun _ => Value.slice none 0 0) ∨ ((w0.alloc (.cells #[.slice none 0 0, .slice none 0 0, .slice none 0 0, .slice none 0 0] 120)).alloc (.map #[] 0)).heap.size ≤ b)
    (hC2 : Chg (foot w0.heap.size v1) w1 w2) (hF2 : ∀ b ∈ foot w0.heap.size v2, b ∈ foot w0.heap.size v1 ∨ w1.heap.size ≤ b) :
    Ful w ((w2.alloc (.cells #[.int .i64 0, .int .i64 1, .bool false] 48)).alloc (.cells #[.int .u8 0, .int .i64 0, .string ⟨#[]⟩] 51)) w0.heap.size (w0.heap.size + 1) (.slice (some ⟨w2.heap.size, 0, none⟩) 1 1) v2 ⟨[], [], [60, (k : Int)], [0, 0]⟩ (fun _ _ => none) 200 60 k 0 0 ∧
    Fst ((w2.alloc (.cells #[.int .i64 0, .int .i64 1, .bool false] 48)).alloc (.cells #[.int .u8 0, .int .i64 0, .string ⟨#[]⟩] 51)) (w2.heap.size + 1) (w0.heap.size + 1) w0.heap.size v2 ⟨[], [], [60, (k : Int)], [0, 0]⟩ 0 k := by
  have h0 := hb0.size
  have z1 := hC1.size
  have z2 := hC2.size
  have own1 : ((w0.alloc (.cells #[.slice none 0 0, .slice none 0 0, .slice none 0 0, .slice none 0 0] 120)).alloc (.map #[] 0)).ownsMap Tryz.prog 113 R1 (w0.alloc (.cells #[.slice none 0 0, .slice none 0 0, .slice none 0 0, .slice none 0 0] 120)).heap.size 0 (.map []) := World.ownsMap_made (H := Nat) _ Tryz.prog 113 R1
  rw [World.size_alloc] at own1
  have z : ((w0.alloc (.cells #[.slice none 0 0, .slice none 0 0, .slice none 0 0, .slice none 0 0] 120)).alloc (.map #[] 0)).heap.size = w0.heap.size + 1 + 1 := by simp
  rw [z] at z1 hF1
  have nf : ∀ b, b ∈ foot w0.heap.size (fun _ => Value.slice none 0 0) → b = w0.heap.size := fun b hb => by
    rcases mem_foot.1 hb with h | ⟨i, hi, h⟩
    · exact h
    · simp [Value.ownBlock] at h
  have n1 : ∀ b ∈ foot w0.heap.size v1, b = w0.heap.size ∨ w0.heap.size + 1 + 1 ≤ b := fun b hb => (hF1 b hb).imp (nf b) id
  have n2 : ∀ b ∈ foot w0.heap.size v2, b = w0.heap.size ∨ w0.heap.size + 1 + 1 ≤ b := fun b hb => by
    rcases hF2 b hb with h | h
    · exact n1 b h
    · exact .inr (by omega)
  have U : Up w2 ((w2.alloc (.cells #[.int .i64 0, .int .i64 1, .bool false] 48)).alloc (.cells #[.int .u8 0, .int .i64 0, .string ⟨#[]⟩] 51)) := ((Up.refl _).alloc _).alloc _
  have sz : ((w2.alloc (.cells #[.int .i64 0, .int .i64 1, .bool false] 48)).alloc (.cells #[.int .u8 0, .int .i64 0, .string ⟨#[]⟩] 51)).heap.size = w2.heap.size + 1 + 1 := by simp
  have cn : w0.heap.size + 1 ∉ foot w0.heap.size v2 := fun hx => by have := n2 _ hx; omega
  refine ⟨⟨pt2.up U, ⟨by show 0 + 200 < 1000000; decide, fun s hs => (by cases hs), fun n hn => (by cases hn), List.nodup_nil, by show 0 + 200 < 1000000; decide⟩, ⟨60, 0, rfl, rfl, by decide, by decide, by decide⟩, rfl, rfl, ⟨.map [], owns_up (map_chg (map_chg own1 hC1 (fun hx => by have := nf _ hx; omega)) hC2 (fun hx => by have := n1 _ hx; omega)) U, CacheIs.nil⟩, fun m r q h => (by cases h), ⟨w2.heap.size, 1, rfl, by omega, fun i m hi j v hj => ?_⟩, fun b hb => ?_, cn, fun b hb => by have := n2 b hb; omega, by omega, ?_⟩, ⟨fun hx => ?_, zero3, has3_alloc2 w2 _ _ _ _ _, fun h => absurd h (by decide)⟩⟩
  · cases i with
    | succ i => simp at hi
    | zero =>
      simp at hi
      subst hi
      have e := heap_alloc_new w2 (.cells #[.int .i64 0, .int .i64 1, .bool false] 48)
      have e2 := cell_of_row _ w2.heap.size j _ _ _ e
      refine (up_cell ((Up.refl (w2.alloc (.cells #[.int .i64 0, .int .i64 1, .bool false] 48))).alloc _) (show _ = some v from ?_))
      rw [Nat.zero_mul, Nat.zero_add, e2]
      simpa [cellsM] using hj
  · cases hb
    exact ⟨fun hx => by have h1 : w2.heap.size < w2.heap.size := pt2.lt _ hx; omega, by show w2.heap.size ≠ _; omega, by show w2.heap.size < _; omega⟩
  · refine Below.trans (Below.trans (Below.trans hb0 (?_ : Below w.heap.size w0 w1)) (hC2.below (by omega) (fun b hb => by have := n1 b hb; omega))) (Below.mono U (by omega))
    exact Below.trans (Below.mono (((Up.refl w0).alloc _).alloc _) h0) (hC1.below (by rw [z]; omega) (fun b hb => by have := nf b hb; omega))
  · rcases List.mem_cons.1 hx with h | h
    · omega
    · have := pt2.lt _ h; omega
end Go.Proofs.YtmmfpkkkpeapeaaGreatDoor.mb

/- Three rows appended to, one behind the other, ahead of the stores: what holds in the midst: plain. -/
set_option linter.unusedVariables false
namespace Go.Proofs.YtmmfpkkkpeapeaaGreatDoor.mb
open Go.RowKit Go.Maps mem rec ar
set_option maxHeartbeats 400000
def updN (N : Nat → Nat) (i n : Nat) : Nat → Nat := fun j => if j = i then n else N j
def updX (X : Nat → List Value) (i : Nat) (xs : List Value) : Nat → List Value := fun j => if j = i then xs else X j
/-- In the midst: the struct's cells are as they were, v; the rows are u. -/
structure I3 (w0 w : World) (q : Nat) (a b : Value) (v u : Nat → Value) (N : Nat → Nat) (X : Nat → List Value) : Prop where
  hd : Blk w q #[a, b, v 0, v 1, v 2, v 3] 39
  ow : ∀ i, i < 4 → w.ownsRow 0 (rT i) (rS i) (u i) (N i) (X i)
  ap : ∀ i j b, i < 4 → j < 4 → (u i).ownBlock = some b → (u j).ownBlock = some b → i = j
  pp : ∀ i, i < 4 → (u i).ownBlock ≠ some q
  gl : ∀ i, i < 4 → ∀ g, (u i).ownBlock = some g → (v i).ownBlock = some g ∨ w0.heap.size ≤ g
  cg : Chg (foot q v) w0 w
/-- A piece that is to be appended. -/
structure Pc (w : World) (u : Nat → Value) (q x : Nat) (cs : List Value) : Prop where
  lt : x < w.heap.size
  ne : ∀ i, i < 4 → (u i).ownBlock ≠ some x
  nq : x ≠ q
  at_ : ∀ j c, cs[j]? = some c → w.cell? ((⟨x, 0, none⟩ : Addr).add j) = some c
section
variable {w0 w w1 : World} {q : Nat} {a b : Value} {v u : Nat → Value} {N : Nat → Nat} {X : Nat → List Value}
theorem I3.start (h : Rw w q a b v N X) : I3 w w q a b v v N X := ⟨h.hd, h.ow, h.ap, h.pp, fun _ _ _ hg => .inl hg, Chg.refl _ _⟩
theorem I3.up (h : I3 w0 w q a b v u N X) (c : Up w w1) : I3 w0 w1 q a b v u N X :=
  ⟨h.hd.chg c.chg (by simp), fun i hi => owns_chg (h.ow i hi) c.chg (by simp), h.ap, h.pp, h.gl, h.cg.trans0 c.chg⟩
theorem I3.alloc (h : I3 w0 w q a b v u N X) (o : Obj) : I3 w0 (w.alloc o) q a b v u N X := h.up ((Up.refl w).alloc o)
theorem I3.drew (h : I3 w0 w q a b v u N X) : I3 w0 w.drew q a b v u N X := h.up (Up.refl w).drew
theorem Pc.up {x : Nat} {cs : List Value} (h : Pc w u q x cs) (c : Up w w1) : Pc w1 u q x cs :=
  ⟨Nat.lt_of_lt_of_le h.lt c.size, h.ne, h.nq, fun j y hj => by
    have e := h.at_ j y hj
    have e2 : ((⟨x, 0, none⟩ : Addr).add j) = ⟨x, 0 + j, none⟩ := Addr.add_mid ..
    rw [e2] at e ⊢
    exact up_cell c e⟩
theorem Pc.alloc {x : Nat} {cs : List Value} (h : Pc w u q x cs) (o : Obj) : Pc (w.alloc o) u q x cs := h.up ((Up.refl w).alloc o)
theorem Pc.new (h : I3 w0 w q a b v u N X) (cs : Array Value) (t : TypeId) : Pc (w.alloc (.cells cs t)) u q w.heap.size cs.toList :=
  ⟨by simp, fun i hi e => by have := ((h.ow i hi).lt _ e).2; omega, fun e => by have := h.hd.lt; omega, World.news_of_block (fr := (0, 0)) (heap_alloc_new w _)⟩
theorem I3.app (h : I3 w0 w q a b v u N X) (i : Nat) (hi : i < 4) {g n c : Nat} {xs : List Value} {H : Nat} (hrow : w1.ownsRow 0 (rT i) (rS i) (.slice (some ⟨g, 0, none⟩) n c) n xs) (hg : w.grownBy w1 (u i).ownBlock) (at_ : (u i).ownBlock = some g ∨ g = H) (hH : w.heap.size = H) :
    I3 w0 w1 q a b v (upd u i (.slice (some ⟨g, 0, none⟩) n c)) (updN N i n) (updX X i xs) := by
  subst hH
  have at' : (u i).ownBlock = some g ∨ w.heap.size ≤ g := at_.imp id (fun e => by omega)
  have hgq : g ≠ q := by
    rcases at' with h1 | h1
    · intro e; exact h.pp i hi (by rw [h1, e])
    · have := h.hd.lt; omega
  have z := h.cg.size
  have other : ∀ j, j < 4 → j ≠ i → (u j).ownBlock ≠ some g := fun j hj e e2 => by
    rcases at' with h1 | h1
    · exact e (h.ap j i g hj hi e2 h1)
    · have := ((h.ow j hj).lt g e2).2; omega
  refine ⟨(hg.block q h.hd.lt (fun e => h.pp i hi e.symm)).trans h.hd, fun j hj => ?_, fun x j y hx hj h1 h2 => ?_, fun j hj => ?_, fun j hj y hy => ?_, h.cg.grown hg (fun k hk => ?_)⟩
  · by_cases e : j = i
    · subst e
      rw [upd_same, show updN N j n j = n by simp [updN], show updX X j xs j = xs by simp [updX]]
      exact hrow
    · rw [upd_other u _ e, show updN N i n j = N j by simp [updN, e], show updX X i xs j = X j by simp [updX, e]]
      exact (h.ow j hj).kept hg (by
        cases hb : (u j).ownBlock with
        | none => exact .inl rfl
        | some b => exact .inr (fun e2 => e (h.ap j i b hj hi hb e2.symm)))
  · by_cases e1 : x = i <;> by_cases e2 : j = i
    · rw [e1, e2]
    · subst e1
      rw [upd_same] at h1
      cases h1
      rw [upd_other u _ e2] at h2
      exact absurd h2 (other j hj e2)
    · subst e2
      rw [upd_same] at h2
      cases h2
      rw [upd_other u _ e1] at h1
      exact absurd h1 (other x hx e1)
    · rw [upd_other u _ e1] at h1
      rw [upd_other u _ e2] at h2
      exact h.ap x j y hx hj h1 h2
  · by_cases e : j = i
    · subst e; rw [upd_same]; show some g ≠ some q; simpa using hgq
    · rw [upd_other u _ e]; exact h.pp j hj
  · by_cases e : j = i
    · subst e
      rw [upd_same] at hy
      cases hy
      rcases at' with h1 | h1
      · exact h.gl j hj g h1
      · exact .inr (by show w0.heap.size ≤ g; omega)
    · rw [upd_other u _ e] at hy
      exact h.gl j hj y hy
  · rcases h.gl i hi k hk with h1 | h1
    · exact .inl (foot_i hi h1)
    · exact .inr h1
theorem Pc.app {x : Nat} {cs : List Value} (hp : Pc w u q x cs) (h : I3 w0 w q a b v u N X) (i : Nat) (hi : i < 4) {g n c H : Nat} (hg : w.grownBy w1 (u i).ownBlock) (at_ : (u i).ownBlock = some g ∨ g = H) (hH : w.heap.size = H) :
    Pc w1 (upd u i (.slice (some ⟨g, 0, none⟩) n c)) q x cs := by
  subst hH
  refine ⟨Nat.lt_of_lt_of_le hp.lt hg.size, fun j hj => ?_, hp.nq, fun j y hj => ?_⟩
  · by_cases e : j = i
    · subst e
      rw [upd_same]
      intro e2
      cases e2
      rcases at_ with h1 | h1
      · exact hp.ne j hj h1
      · have h2 : g < w.heap.size := hp.lt; omega
    · rw [upd_other u _ e]; exact hp.ne j hj
  · have e := hp.at_ j y hj
    have e2 : ((⟨x, 0, none⟩ : Addr).add j) = ⟨x, 0 + j, none⟩ := Addr.add_mid ..
    rw [e2] at e ⊢
    exact (World.cell?_of_block (w := w) (hg.block x hp.lt (fun e => hp.ne i hi e.symm))).trans e
/-- What the loads and the stores want. -/
def Held (v : Nat → Value) (q : Nat) (w : World) : Prop := w.cell? ⟨q, 2, none⟩ = some (v 0) ∧ w.cell? ⟨q, 4, none⟩ = some (v 2) ∧ w.cell? ⟨q, 5, none⟩ = some (v 3) ∧ w.frozen? ⟨q, 2, none⟩ = false ∧ w.frozen? ⟨q, 4, none⟩ = false ∧ w.frozen? ⟨q, 5, none⟩ = false
theorem I3.held (h : I3 w0 w q a b v u N X) : Held v q w :=
  ⟨h.hd.cell 2, h.hd.cell 4, h.hd.cell 5, frozen_of_row w q _ _ _ h.hd, frozen_of_row w q _ _ _ h.hd, frozen_of_row w q _ _ _ h.hd⟩
/-- Behind the stores. -/
theorem I3.done (h : I3 w0 w q a b v u N X) (h1 : u 1 = v 1) :
    Rw (((w.setCell ⟨q, 2, none⟩ (u 0)).setCell ⟨q, 4, none⟩ (u 2)).setCell ⟨q, 5, none⟩ (u 3)) q a b u N X ∧ Chg (foot q v) w0 (((w.setCell ⟨q, 2, none⟩ (u 0)).setCell ⟨q, 4, none⟩ (u 2)).setCell ⟨q, 5, none⟩ (u 3)) ∧ ∀ b ∈ foot q u, b ∈ foot q v ∨ w0.heap.size ≤ b := by
  have cp : Chg [q] w (((w.setCell ⟨q, 2, none⟩ (u 0)).setCell ⟨q, 4, none⟩ (u 2)).setCell ⟨q, 5, none⟩ (u 3)) := (((Chg.refl [q] w).setCell (p := ⟨q, 2, none⟩) (.inl (by simp)) _).setCell (p := ⟨q, 4, none⟩) (.inl (by simp)) _).setCell (p := ⟨q, 5, none⟩) (.inl (by simp)) _
  refine ⟨⟨?_, fun i hi => owns_chg (h.ow i hi) cp (fun b hb hx => h.pp i hi (by rw [hb, List.mem_singleton.1 hx])), h.ap, h.pp⟩, h.cg.trans cp (fun x hx => .inl (by rw [List.mem_singleton.1 hx]; exact foot_p)), fun b hb => ?_⟩
  · have e1 := heap_setCell_same w q 2 _ _ (u 0) h.hd
    have e2 := heap_setCell_same _ q 4 _ _ (u 2) e1
    have e3 := heap_setCell_same _ q 5 _ _ (u 3) e2
    unfold Blk
    rw [e3, h1]
    simp
  · rcases mem_foot.1 hb with rfl | ⟨i, hi, hb⟩
    · exact .inl foot_p
    · rcases h.gl i hi b hb with h2 | h2
      · exact .inl (foot_i hi h2)
      · exact .inr h2
end
end Go.Proofs.YtmmfpkkkpeapeaaGreatDoor.mb
