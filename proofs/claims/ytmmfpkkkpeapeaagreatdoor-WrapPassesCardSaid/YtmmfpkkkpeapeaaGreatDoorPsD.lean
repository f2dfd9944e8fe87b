/- WrapPasses: behind a way: what holds before the next round; the sides' numbers; what Pass answers, way by way: plain. (13 texts in one.) -/
import Derived.Test.YtmmfpkkkpeapeaaGreatDoorPsC
import Derived.Test.YtmmfpkkkpeapeaaGreatDoorPsM
import Derived.Test.YtmmfpkkkpeapeaaGreatDoorPsB

/- WrapBack: what holds before a round: plain laws of memory. -/
set_option linter.unusedVariables false
namespace Go.Proofs.YtmmfpkkkpeapeaaGreatDoor.mb
open Go.RowKit Go.Maps mem rec ar
set_option maxHeartbeats 400000
def cellsP (x : Int × Int) : List Value := [.int .i64 x.1, .int .i64 x.2]
theorem flat2_get : ∀ (l : List (Int × Int)) (n j : Nat) (s : Int × Int), l[n]? = some s → j < 2 → (l.flatMap cellsP)[n * 2 + j]? = (cellsP s)[j]?
  | [], n, j, s, h, _ => by simp at h
  | a :: l, 0, j, s, h, hj => by
    simp at h; subst h
    rw [List.flatMap_cons, List.getElem?_append_left (by show _ < 2; omega)]; simp
  | a :: l, n + 1, j, s, h, hj => by
    simp at h
    rw [List.flatMap_cons, List.getElem?_append_right (by show 2 ≤ _; omega), show (cellsP a).length = 2 from rfl, show (n + 1) * 2 + j - 2 = n * 2 + j by omega]
    exact flat2_get l n j s h hj
/-- Before a round of the way: where it is (r, of owner a), the way so far; the blocks of the variables start and v. -/
structure Bst (w0 w : World) (q p cb : Nat) (vr v : Nat → Value) (A : Ar) (C : Ca) (L : List Mb) (k : Nat) (d : Int) (vb : Value) (bk : List (Int × Int)) (s9 s10 r0 r : Nat) (a : Int) : Prop where
  st : St w0 w q p cb vr v A C L k d
  row : w.ownsRow 0 46 2 vb bk.length (bk.flatMap cellsP)
  nb : ∀ b, vb.ownBlock = some b → b ∉ foot q vr ∧ b ∉ cb :: foot p v ∧ b ≠ s9 ∧ b ≠ s10 ∧ w0.heap.size ≤ b
  c9 : Has3 w s9 (.int .u8 5) (.int .i64 (r0 : Int)) (.string ⟨#[]⟩)
  c10 : Has3 w s10 (.int .u8 5) (.int .i64 (r : Int)) (.string ⟨#[]⟩)
  n9 : s9 ∉ foot q vr ∧ s9 ∉ cb :: foot p v ∧ w0.heap.size ≤ s9
  n10 : s10 ∉ foot q vr ∧ s10 ∉ cb :: foot p v ∧ w0.heap.size ≤ s10
  n910 : s9 ≠ s10
  pth : Path A L r0 bk r a
  a4 : 0 ≤ a ∧ a < 4
section
variable {w0 w w1 wx W : World} {q p cb k : Nat} {vr v v1 : Nat → Value} {A A1 : Ar} {C C1 : Ca} {L : List Mb} {d : Int} {vb : Value} {bk : List (Int × Int)} {s9 s10 r0 r r' xb : Nat} {a m into : Int}
theorem Bst.up (h : Bst w0 w q p cb vr v A C L k d vb bk s9 s10 r0 r a) (u : Up w w1) : Bst w0 w1 q p cb vr v A C L k d vb bk s9 s10 r0 r a :=
  ⟨h.st.up u, owns_chg h.row u.chg (by simp), h.nb, h.c9.up u, h.c10.up u, h.n9, h.n10, h.n910, h.pth, h.a4⟩
theorem Bst.less {j : Nat} {e : Int} (h : Bst w0 w q p cb vr v A C L k d vb bk s9 s10 r0 r a) (hj : j ≤ k) (he : d ≤ e) : Bst w0 w q p cb vr v A C L j e vb bk s9 s10 r0 r a :=
  ⟨h.st.less hj he, h.row, h.nb, h.c9, h.c10, h.n9, h.n10, h.n910, h.pth, h.a4⟩
/-- Behind Pass, its value laid in block xb. -/
structure Mid16 (w0 w wx : World) (q p cb : Nat) (vr v v' : Nat → Value) (A A' : Ar) (C' : Ca) (L : List Mb) (k : Nat) (d : Int) (r r' xb : Nat) (m into : Int) : Prop where
  st : St w0 wx q p cb vr v' A' C' L k d
  xc : Has3 wx xb (.int .u8 5) (.int .i64 (r' : Int)) (.string ⟨#[]⟩)
  cg : Chg (cb :: foot p v) w wx
  fb : ∀ b ∈ foot p v', b ∈ foot p v ∨ w.heap.size ≤ b
  xn : w.heap.size ≤ xb
  fo : ∃ o', A'.find r' = some o' ∧ o'.owner = into
  lk : Lk A' m r r'
  old : Old A A'
theorem mid_of {lv : Value} {from_ : Int} {o : Ob} (h : St w0 w q p cb vr v A C L (k + 1) d) (hlv : lv = vr 0) (hL : 0 < L.length) (hd6 : d < 6) (hm : (Lit.int .i64 m).wf = true) (ho : otherR L m into = some from_) (hd : deadR L m = false) (hf : A.find r = some o) (hw : o.owner = from_) (wx : World) (u : Up w wx) :
    Calls Tryz.prog 9 #[lv, .pointer (some ⟨p, 0, none⟩), .map (some cb), .int .i64 m, .int .i64 into, val (5, (r : Int), ⟨#[]⟩)] wx fun e w' => ∃ (r' : Nat) (v' : Nat → Value) (A' : Ar) (C' : Ca), e = .returned (.tuple #[val (5, (r' : Int), ⟨#[]⟩), .int .i64 0]) ∧
      (∀ ty, Mid16 w0 w (w'.alloc (.cells #[.int .u8 5, .int .i64 (r' : Int), .string ⟨#[]⟩] ty)) q p cb vr v v' A A' C' L k (d + 1) r r' w'.heap.size m into) ∧
      (∀ (xb : Nat) (c0 c1 c2 : Value), w.heap.size ≤ xb → Has3 wx xb c0 c1 c2 → Has3 w' xb c0 c1 c2 ∧ Mid16 w0 w (((w'.setCell ⟨xb, 0, none⟩ (.int .u8 5)).setCell ⟨xb, 1, none⟩ (.int .i64 (r' : Int))).setCell ⟨xb, 2, none⟩ (.string ⟨#[]⟩)) q p cb vr v v' A A' C' L k (d + 1) r r' xb m into) ∧
      Chg (cb :: foot p v) w w' := by
  obtain ⟨⟨i0, i4⟩, -⟩ := h.side ho
  obtain ⟨nn, hnn⟩ : ∃ nn : Nat, into = (nn : Int) := ⟨into.toNat, by omega⟩
  have H := h.up u
  refine (pass_fwd H.wr hd6 (by rw [hlv]; exact H.list hL) hm ho hd hf hw hnn (by omega)).mono ?_
  rintro e w' ⟨r', o', v', A', C', rfl, h1, h2, h3, h4, h5, h6, h7⟩
  have S1 : St w0 w' q p cb vr v' A' C' L k (d + 1) := h.pass u h1 h2 h3
  have C1 : Chg (cb :: foot p v) w w' := (u.chg.mono (by simp)).trans h2 (fun x hx => .inl hx)
  have F1 : ∀ b ∈ foot p v', b ∈ foot p v ∨ w.heap.size ≤ b := fun b hb => (h3 b hb).imp id (fun e => Nat.le_trans u.size e)
  refine ⟨r', v', A', C', rfl, fun ty => ?_, fun xb c0 c1 c2 hxb hz => ?_, C1⟩
  · exact ⟨S1.up ((Up.refl w').alloc _), has3_alloc w' _ _ _ ty, C1.alloc _, F1, C1.size, ⟨o', h4, h5⟩, h6, h7⟩
  · have hxw := hz.1
    have nx : xb ∉ cb :: foot p v := fun hx => by have := h.wr.lt xb hx; omega
    have hz' := has3_chg hz h2 nx
    have CS := set3_chg w' xb (.int .u8 5) (.int .i64 (r' : Int)) (.string ⟨#[]⟩)
    refine ⟨hz', S1.chg CS (fun b hb => ?_) (fun b hb hx => ?_) (fun b hb hx => ?_), hz'.store _ _ _, C1.trans CS (fun x hx => .inr (by rw [List.mem_singleton.1 hx]; exact hxb)), F1, hxb, ⟨o', h4, h5⟩, h6, h7⟩
    · rw [List.mem_singleton.1 hb]; exact Nat.le_trans h.bel.size hxb
    · have := h.rw_.lt b hb; rw [List.mem_singleton.1 hx] at this; omega
    · rw [List.mem_singleton.1 hx] at hb
      rcases List.mem_cons.1 hb with h8 | h8
      · exact nx (by rw [h8]; exact List.mem_cons_self ..)
      · rcases h3 xb h8 with h9 | h9
        · exact nx (List.mem_cons_of_mem _ h9)
        · omega
/-- What the loads want. -/
def HeldW (q p cb : Nat) (lv : Value) (s : Nat) (r : Int) (w : World) : Prop :=
  w.cell? ⟨q, 2, none⟩ = some lv ∧ w.cell? ⟨q, 0, none⟩ = some (.pointer (some ⟨p, 0, none⟩)) ∧ w.cell? ⟨q, 1, none⟩ = some (.map (some cb)) ∧ w.cell? ⟨s, 0, none⟩ = some (.int .u8 5) ∧ w.cell? ⟨s, 1, none⟩ = some (.int .i64 r) ∧ w.cell? ⟨s, 2, none⟩ = some (.string ⟨#[]⟩)
theorem heldW (h : St w0 w q p cb vr v A C L k d) {s : Nat} (h3 : Has3 w s (.int .u8 5) (.int .i64 (r : Int)) (.string ⟨#[]⟩)) : HeldW q p cb (vr 0) s r w :=
  ⟨h.rw_.hd.cell 2, h.rw_.hd.cell 0, h.rw_.hd.cell 1, h3.2.1.1, h3.2.1.2.1, h3.2.1.2.2⟩
theorem HeldW.up {lv : Value} {s : Nat} {r : Int} (h : HeldW q p cb lv s r w) (u : Up w w1) : HeldW q p cb lv s r w1 :=
  ⟨up_cell u h.1, up_cell u h.2.1, up_cell u h.2.2.1, up_cell u h.2.2.2.1, up_cell u h.2.2.2.2.1, up_cell u h.2.2.2.2.2⟩
theorem HeldW.chg {F : List Nat} {lv : Value} {s : Nat} {r : Int} (h : HeldW q p cb lv s r w) (c : Chg F w w1) (hq : q < w.heap.size) (hs : s < w.heap.size) (nq : q ∉ F) (ns : s ∉ F) : HeldW q p cb lv s r w1 :=
  ⟨(c.cell hq nq).trans h.1, (c.cell hq nq).trans h.2.1, (c.cell hq nq).trans h.2.2.1, (c.cell hs ns).trans h.2.2.2.1, (c.cell hs ns).trans h.2.2.2.2.1, (c.cell hs ns).trans h.2.2.2.2.2⟩
/-- A round more. -/
theorem Bst.next {o1 : Obj} {g c H n1 : Nat} {w5 : World} (h : Bst w0 w q p cb vr v A C L (k + 1) d vb bk s9 s10 r0 r a) (M : Mid16 w0 w wx q p cb vr v v1 A A1 C1 L k (d + 1) r r' xb m into) (u : Up wx W) (ho : otherR L m into = some a) (hd : deadR L m = false) (hm : (Lit.int .i64 m).wf = true)
    (hrow : w5.ownsRow 0 46 2 (.slice (some ⟨g, 0, none⟩) n1 c) n1 (bk.flatMap cellsP ++ [.int .i64 m, .int .i64 a])) (hn1 : n1 = bk.length + 1) (hg : (W.alloc o1).grownBy w5 vb.ownBlock) (at_ : vb.ownBlock = some g ∨ g = H) (hH : (W.alloc o1).heap.size = H) :
    Bst w0 (((w5.setCell ⟨s10, 0, none⟩ (.int .u8 5)).setCell ⟨s10, 1, none⟩ (.int .i64 (r' : Int))).setCell ⟨s10, 2, none⟩ (.string ⟨#[]⟩)) q p cb vr v1 A1 C1 L k (d + 1) (.slice (some ⟨g, 0, none⟩) n1 c) (bk ++ [(m, a)]) s9 s10 r0 r' into := by
  subst hn1 hH
  have z0 := h.st.bel.size
  have z1 := M.cg.size
  have zu := u.size
  have z5 := hg.size
  rw [World.size_alloc] at z5 at_
  have lb : ∀ b, vb.ownBlock = some b → b < w.heap.size := fun b hb => (h.row.lt b hb).2
  have l9 := h.c9.1
  have l10 := h.c10.1
  have nf : ∀ b, b < w.heap.size → b ∉ cb :: foot p v → b ∉ cb :: foot p v1 := fun b hb hn hx => by
    rcases List.mem_cons.1 hx with h1 | h1
    · exact hn (by rw [h1]; exact List.mem_cons_self ..)
    · rcases M.fb b h1 with h2 | h2
      · exact hn (List.mem_cons_of_mem _ h2)
      · omega
  have CS := set3_chg w5 s10 (.int .u8 5) (.int .i64 (r' : Int)) (.string ⟨#[]⟩)
  have C5 : Chg vb.ownBlock.toList wx w5 := ((u.chg.mono (by simp)).alloc o1).grown hg (fun b hb => .inl (by simp [hb]))
  have CA : Chg (vb.ownBlock.toList ++ [s10]) wx (((w5.setCell ⟨s10, 0, none⟩ (.int .u8 5)).setCell ⟨s10, 1, none⟩ (.int .i64 (r' : Int))).setCell ⟨s10, 2, none⟩ (.string ⟨#[]⟩)) := (C5.mono (fun x hx => List.mem_append_left _ hx)).trans CS (fun x hx => .inl (List.mem_append_right _ hx))
  have CW : Chg (vb.ownBlock.toList ++ [s10] ++ (cb :: foot p v)) w (((w5.setCell ⟨s10, 0, none⟩ (.int .u8 5)).setCell ⟨s10, 1, none⟩ (.int .i64 (r' : Int))).setCell ⟨s10, 2, none⟩ (.string ⟨#[]⟩)) := (M.cg.mono (fun x hx => List.mem_append_right _ hx)).trans CA (fun x hx => .inl (List.mem_append_left _ hx))
  have inF : ∀ b ∈ vb.ownBlock.toList ++ [s10], vb.ownBlock = some b ∨ b = s10 := fun b hb => by
    rcases List.mem_append.1 hb with h1 | h1
    · exact .inl (by simpa using h1)
    · exact .inr (List.mem_singleton.1 h1)
  have hgs : g ≠ s10 ∧ g ≠ s9 ∧ g ∉ foot q vr ∧ g ∉ cb :: foot p v1 ∧ w0.heap.size ≤ g := by
    rcases at_ with h1 | h1
    · obtain ⟨e1, e2, e3, e4, e5⟩ := h.nb g h1
      exact ⟨e4, e3, e1, nf g (lb g h1) e2, e5⟩
    · refine ⟨by omega, by omega, fun hx => ?_, fun hx => ?_, by omega⟩
      · have := h.st.rw_.lt g hx; omega
      · have := M.st.wr.lt g hx; omega
  refine ⟨M.st.chg CA (fun b hb => ?_) (fun b hb hx => ?_) (fun b hb hx => ?_), ?_, fun b hb => ?_, ?_, ?_, ⟨h.n9.1, nf s9 l9 h.n9.2.1, h.n9.2.2⟩, ⟨h.n10.1, nf s10 l10 h.n10.2.1, h.n10.2.2⟩, h.n910, ?_, ?_⟩
  · rcases inF b hb with h1 | h1
    · exact (h.nb b h1).2.2.2.2
    · rw [h1]; exact h.n10.2.2
  · rcases inF b hx with h1 | h1
    · exact (h.nb b h1).1 hb
    · rw [h1] at hb; exact h.n10.1 hb
  · rcases inF b hx with h1 | h1
    · exact nf b (lb b h1) (h.nb b h1).2.1 hb
    · rw [h1] at hb; exact nf s10 l10 h.n10.2.1 hb
  · rw [List.length_append, List.flatMap_append]
    exact owns_chg hrow CS (fun b hb hx => by cases hb; exact hgs.1 (List.mem_singleton.1 hx))
  · cases hb
    exact ⟨hgs.2.2.1, hgs.2.2.2.1, hgs.2.1, hgs.1, hgs.2.2.2.2⟩
  · refine has3_chg h.c9 CW (fun hx => ?_)
    rcases List.mem_append.1 hx with h1 | h1
    · rcases inF s9 h1 with h2 | h2
      · exact (h.nb s9 h2).2.2.1 rfl
      · exact h.n910 h2
    · exact h.n9.2.1 h1
  · have e : Has3 w5 s10 (.int .u8 5) (.int .i64 (r : Int)) (.string ⟨#[]⟩) := has3_chg (has3_chg h.c10 M.cg h.n10.2.1) C5 (fun hx => (h.nb s10 (by simpa using hx)).2.2.2.1 rfl)
    exact e.store _ _ _
  · obtain ⟨o', f1, f2⟩ := M.fo
    exact .snoc o' (h.pth.old M.old) ho hd hm f1 f2 M.lk
  · exact (h.st.side ho).1
theorem Bst.start {bs : List Nat} {i b : Nat} (h : St w0 w q p cb vr v (mk4 bs) none2 L k d) (hbs : bs.length = 4) (hi : i < 4) {ty : TypeId} :
    Bst w0 (((w.alloc (.cells #[.int .u8 5, .int .i64 ((4294967296 + i : Nat) : Int), .string ⟨#[]⟩] ty)).alloc (.cells #[.int .u8 5, .int .i64 ((4294967296 + i : Nat) : Int), .string ⟨#[]⟩] ty)).alloc (.cells #[.int .u8 5, .int .i64 ((4294967296 + i : Nat) : Int), .string ⟨#[]⟩] ty)) q p cb vr v (mk4 bs) none2 L k d (.slice none 0 0) [] (w.heap.size + 1) (w.heap.size + 1 + 1) (4294967296 + i) (4294967296 + i) (i : Int) := by
  have z := h.bel.size
  have e2 : ((w.alloc (.cells #[.int .u8 5, .int .i64 ((4294967296 + i : Nat) : Int), .string ⟨#[]⟩] ty)).alloc (.cells #[.int .u8 5, .int .i64 ((4294967296 + i : Nat) : Int), .string ⟨#[]⟩] ty)).heap.size = w.heap.size + 1 + 1 := by simp
  obtain ⟨b, hb⟩ : ∃ b, bs[i]? = some b := ⟨_, List.getElem?_eq_getElem (by omega)⟩
  have n0 : ∀ x, w.heap.size ≤ x → x ∉ foot q vr ∧ x ∉ cb :: foot p v ∧ w0.heap.size ≤ x := fun x hx => ⟨fun hh => by have := h.rw_.lt x hh; omega, fun hh => by have := h.wr.lt x hh; omega, by omega⟩
  refine ⟨h.up ((((Up.refl w).alloc _).alloc _).alloc _), ⟨rfl, .inl ⟨rfl, rfl⟩⟩, by simp [Value.ownBlock], (has3_alloc2 w _ _ _ _ ty).alloc _, ?_, n0 _ (by omega), n0 _ (by omega), by omega, .nil (recOb i b) (find4_at (by omega) hb), by omega⟩
  have := has3_alloc ((w.alloc (.cells #[.int .u8 5, .int .i64 ((4294967296 + i : Nat) : Int), .string ⟨#[]⟩] ty)).alloc (.cells #[.int .u8 5, .int .i64 ((4294967296 + i : Nat) : Int), .string ⟨#[]⟩] ty)) (.int .u8 5) (.int .i64 ((4294967296 + i : Nat) : Int)) (.string ⟨#[]⟩) ty
  rw [e2] at this
  exact this
end
theorem St.objs {w0 w : World} {q p cb k : Nat} {vr v : Nat → Value} {A : Ar} {C : Ca} {L : List Mb} {d : Int} (h : St w0 w q p cb vr v A C L k d) : ∃ g c, vr 1 = .slice (some ⟨g, 0, none⟩) 4 c ∧ g < w.heap.size ∧ ∀ i, i < 4 → w.cell? ⟨g, i, none⟩ = some (.int .u64 ((4294967296 + i : Nat) : Int)) := by
  have h1 : w.ownsRow 0 41 1 (vr 1) 4 (rowW L 4 1) := h.rw_.ow 1 (by omega)
  obtain ⟨g, c, hv, -, hlt⟩ := h1.form (by omega)
  refine ⟨g, c, hv, hlt, fun i hi => ?_⟩
  rw [hv] at h1
  rw [World.ownsRow.cellAt h1 i (by omega)]
  have e : rowW L 4 1 = (List.range 4).map (fun i : Nat => Value.int .u64 (4294967296 + (i : Int))) := rfl
  rw [e, List.getElem?_map, List.getElem?_range hi, Int.natCast_add]
  rfl
theorem dead_side (ps : Nat → Int × Int) (n m : Nat) (h : m < n) : deadR ((List.range n).map fun i => sideOf (ps i)) m = false := by
  unfold deadR mbAt
  rw [if_pos (by omega), Int.toNat_natCast, List.getElem?_map, List.getElem?_range h]
  rfl
theorem wpl_eq {ops : Array Oper} {rest : List Oper} {d : Option Nat} {ty : TypeId} {pos : String} {after : Array Edge} {g : Option (Nat × Bool)} {x y : Operand} {a : Act} {w : World} {Q : Exit → Act → World → Prop} (p q : V3) (hw : Region.wanted ⟨d, .binOp .eql 51 x y 51, ty, pos, after, g⟩ (yielded ops a.tmps) = true) (hx : a.eval x = val p) (hy : a.eval y = val q) (b : Bool) (hb : decide (p = q) = b) (h : wpList Tryz.prog ops Q rest (a.put d (.bool b)) w) :
    wpList Tryz.prog ops Q (⟨d, .binOp .eql 51 x y 51, ty, pos, after, g⟩ :: rest) a w :=
  wpList_step fun K hK => by
    rw [if_pos hw]
    have N : (binOp .eql 51 (val p) (val q)).run Tryz.prog w = .ok (.bool b) w := by rw [eq_val, hb]
    have H := hK _ _ h
    unfold Oper.wp
    simp [execOp, hx, hy, N, guard_val, Result.andThen]
    exact H
/-- What the loads of the way back want. -/
theorem heldR {w : World} {gb gc : Nat} {bk : List (Int × Int)} (h : w.ownsRow 0 46 2 (.slice (some ⟨gb, 0, none⟩) bk.length gc) bk.length (bk.flatMap cellsP)) {j : Nat} {x : Int × Int} (hx : bk[j]? = some x) : w.cell? ⟨gb, j * 2, none⟩ = some (.int .i64 x.1) ∧ w.cell? ⟨gb, j * 2 + 1, none⟩ = some (.int .i64 x.2) := by
  have hj := (List.getElem?_eq_some_iff.1 hx).1
  have e0 := flat2_get bk j 0 x hx (by decide)
  have e1 := flat2_get bk j 1 x hx (by decide)
  refine ⟨?_, ?_⟩
  · rw [World.ownsRow.cellAt h (j * 2) (by omega)]; exact e0
  · rw [World.ownsRow.cellAt h (j * 2 + 1) (by omega)]; exact e1
theorem Bst.back1 {w0 w w1 : World} {q p cb k s9 s10 r0 r : Nat} {vr v : Nat → Value} {A : Ar} {C : Ca} {L : List Mb} {d a : Int} {vb : Value} {bk : List (Int × Int)} (h : Bst w0 w q p cb vr v A C L k d vb bk s9 s10 r0 r a) (c : Chg [s10] w w1) :
    St w0 w1 q p cb vr v A C L k d ∧ w1.ownsRow 0 46 2 vb bk.length (bk.flatMap cellsP) ∧ Has3 w1 s9 (.int .u8 5) (.int .i64 (r0 : Int)) (.string ⟨#[]⟩) :=
  ⟨h.st.chg c (fun b hb => by rw [List.mem_singleton.1 hb]; exact h.n10.2.2) (fun b hb hx => h.n10.1 (by rw [← List.mem_singleton.1 hx]; exact hb)) (fun b hb hx => h.n10.2.1 (by rw [← List.mem_singleton.1 hx]; exact hb)),
    owns_chg h.row c (fun b hb hx => (h.nb b hb).2.2.2.1 (List.mem_singleton.1 hx)), has3_chg h.c9 c (fun hx => h.n910 (List.mem_singleton.1 hx))⟩
end Go.Proofs.YtmmfpkkkpeapeaaGreatDoor.mb

/- frame.World as blocks of memory: plain laws. -/
set_option linter.unusedVariables false
namespace Go.Proofs.YtmmfpkkkpeapeaaGreatDoor.mb
open Go.RowKit Go.Maps mem rec ar
set_option maxHeartbeats 400000
/-- The world in block wb: its arena behind p, its cache in cb, its membranes lv. -/
structure Fw (w : World) (wb p cb : Nat) (lv : Value) (v : Nat → Value) (A : Ar) (C : Ca) (L : List Mb) (k : Nat) (d : Int) : Prop where
  hd : Blk w wb #[.pointer (some ⟨p, 0, none⟩), .map (some cb), lv, .slice none 0 0] 73
  wr : Wr w p cb v A C L k d
  row : w.ownsRow 0 48 3 lv L.length (L.flatMap cellsM)
  sd : ∀ m ∈ L, (0 ≤ m.1 ∧ m.1 < 4) ∧ (0 ≤ m.2.1 ∧ m.2.1 < 4)
  lp : 0 < L.length
  nw : wb ∉ cb :: foot p v
  nl : ∀ b, lv.ownBlock = some b → b ∉ cb :: foot p v ∧ b ≠ wb
/-- Its blocks. -/
def ftF (wb p cb : Nat) (lv : Value) (v : Nat → Value) : List Nat := wb :: (lv.ownBlock.toList ++ (cb :: foot p v))
theorem mem_ftF {wb p cb b : Nat} {lv : Value} {v : Nat → Value} : b ∈ ftF wb p cb lv v ↔ b = wb ∨ lv.ownBlock = some b ∨ b ∈ cb :: foot p v := by
  unfold ftF
  rw [List.mem_cons, List.mem_append]
  simp [eq_comm]
section
variable {w w1 wx : World} {wb p cb k : Nat} {lv : Value} {v v1 : Nat → Value} {A A1 : Ar} {C C1 : Ca} {L : List Mb} {d : Int}
theorem Fw.lt (h : Fw w wb p cb lv v A C L k d) : ∀ b ∈ ftF wb p cb lv v, b < w.heap.size := fun b hb => by
  rcases mem_ftF.1 hb with h1 | h1 | h1
  · rw [h1]; exact h.hd.lt
  · exact (h.row.lt b h1).2
  · exact h.wr.lt b h1
theorem Fw.chg {F : List Nat} (h : Fw w wb p cb lv v A C L k d) (c : Chg F w w1) (hF : ∀ b ∈ ftF wb p cb lv v, b ∉ F) : Fw w1 wb p cb lv v A C L k d :=
  ⟨h.hd.chg c (hF wb (mem_ftF.2 (.inl rfl))), h.wr.chg c (fun b hb => hF b (mem_ftF.2 (.inr (.inr hb)))), owns_chg h.row c (fun b hb => hF b (mem_ftF.2 (.inr (.inl hb)))), h.sd, h.lp, h.nw, h.nl⟩
theorem Fw.up (h : Fw w wb p cb lv v A C L k d) (u : Up w w1) : Fw w1 wb p cb lv v A C L k d := h.chg u.chg (by simp)
theorem Fw.less {j : Nat} {e : Int} (h : Fw w wb p cb lv v A C L k d) (hj : j ≤ k) (he : d ≤ e) : Fw w wb p cb lv v A C L j e := ⟨h.hd, h.wr.less hj he, h.row, h.sd, h.lp, h.nw, h.nl⟩
theorem Fw.list (h : Fw w wb p cb lv v A C L k d) : ListAt w lv L := listAt_of h.row h.lp
theorem side_of {L : List Mb} (sd : ∀ m ∈ L, (0 ≤ m.1 ∧ m.1 < 4) ∧ (0 ≤ m.2.1 ∧ m.2.1 < 4)) {m x y : Int} (ho : otherR L m x = some y) : (0 ≤ x ∧ x < 4) ∧ (0 ≤ y ∧ y < 4) := by
  unfold otherR mbAt at ho
  split at ho
  · rename_i s hs
    split at hs
    · have hm := sd s (List.mem_of_getElem? hs)
      by_cases e0 : x = s.1
      · rw [if_pos e0] at ho; cases ho; omega
      · rw [if_neg e0] at ho
        by_cases e1 : x = s.2.1
        · rw [if_pos e1] at ho; cases ho; omega
        · rw [if_neg e1] at ho; cases ho
    · cases hs
  · cases ho
/-- Behind Pass. -/
theorem Fw.pass {j : Nat} {e : Int} (h : Fw w wb p cb lv v A C L k d) (u : Up w wx) (hw : Wr w1 p cb v1 A1 C1 L j e) (c : Chg (cb :: foot p v) wx w1) (fb : ∀ b ∈ foot p v1, b ∈ foot p v ∨ wx.heap.size ≤ b) : Fw w1 wb p cb lv v1 A1 C1 L j e := by
  have H := h.up u
  have nf : ∀ b, b < wx.heap.size → b ∉ cb :: foot p v → b ∉ cb :: foot p v1 := fun b hb hn hx => by
    rcases List.mem_cons.1 hx with h1 | h1
    · exact hn (by rw [h1]; exact List.mem_cons_self ..)
    · rcases fb b h1 with h2 | h2
      · exact hn (List.mem_cons_of_mem _ h2)
      · omega
  exact ⟨H.hd.chg c H.nw, hw, owns_chg H.row c (fun b hb => (H.nl b hb).1), H.sd, H.lp, nf wb H.hd.lt H.nw, fun b hb => ⟨nf b (H.row.lt b hb).2 (H.nl b hb).1, (H.nl b hb).2⟩⟩
theorem Fw.held (h : Fw w wb p cb lv v A C L k d) : w.cell? ⟨wb, 2, none⟩ = some lv ∧ w.cell? ⟨wb, 0, none⟩ = some (.pointer (some ⟨p, 0, none⟩)) ∧ w.cell? ⟨wb, 1, none⟩ = some (.map (some cb)) := ⟨h.hd.cell 2, h.hd.cell 0, h.hd.cell 1⟩
/-- wrap.Pass in a world. -/
theorem fpass {m into : Int} {r : Nat} {o : Ob} (h : Fw w wb p cb lv v A C L (k + 1) d) (hm : (Lit.int .i64 m).wf = true) (hf : A.find r = some o) (x1 x2 re : Int) (x3 : ByteArray) (hx : (passR A C L false m into (5, (r : Int), ⟨#[]⟩)).v = (x1, x2, x3)) (he : (passR A C L false m into (5, (r : Int), ⟨#[]⟩)).e = re) (wx : World) (u : Up w wx) :
    Calls Tryz.prog 9 #[lv, .pointer (some ⟨p, 0, none⟩), .map (some cb), .int .i64 m, .int .i64 into, .agg #[.int .u8 5, .int .i64 (r : Int), .string ⟨#[]⟩]] wx fun e w' => ∃ v', e = .returned (.tuple #[.agg #[.int .u8 x1, .int .i64 x2, .string x3], .int .i64 re]) ∧
      Fw w' wb p cb lv v' (passR A C L false m into (5, (r : Int), ⟨#[]⟩)).A (passR A C L false m into (5, (r : Int), ⟨#[]⟩)).C L k (d + 1) ∧ Chg (cb :: foot p v) wx w' ∧ (∀ b ∈ foot p v', b ∈ foot p v ∨ wx.heap.size ≤ b) ∧
      (re = 0 → ∃ (r' : Nat) (o' : Ob), ((x1, x2, x3) : V3) = (5, (r' : Int), ⟨#[]⟩) ∧ (passR A C L false m into (5, (r : Int), ⟨#[]⟩)).A.find r' = some o') ∧ (re ≠ 0 → ((x1, x2, x3) : V3) = zero3) := by
  have H := h.up u
  refine (pass_any H.wr H.list hm (fun y hy => (side_of H.sd hy).1) hf).mono ?_
  rintro e w' ⟨v', rfl, h1, h2, h3, h4, h5⟩
  rw [hx, he]
  rw [hx, he] at h4 h5
  exact ⟨v', rfl, h.pass u h1 h2 h3, h2, h3, h4, h5⟩
end
end Go.Proofs.YtmmfpkkkpeapeaaGreatDoor.mb

/- frame.World's Pass, walked (printed by fp_gen.py). -/
set_option linter.unusedVariables false
set_option linter.unusedSimpArgs false
namespace Go.Proofs.YtmmfpkkkpeapeaaGreatDoor.mb
open Go.RowKit Go.Maps mem rec ar
attribute [local go_sem ↓] Go.wp_at_zero Go.wp_at_succ
set_option maxRecDepth 100000
set_option maxHeartbeats 4000000
theorem wpass_end {w wd W : World} {wb p cb k : Nat} {lv : Value} {v v1 : Nat → Value} {A A1 : Ar} {C C1 : Ca} {L : List Mb} {d e : Int} {Z N : Prop} (h : Fw w wb p cb lv v A C L (k + 1) d) (hs : w.heap.size + 1 + 1 ≤ wd.heap.size) (hF : Fw W wb p cb lv v1 A1 C1 L k e) (c : Chg (cb :: foot p v) w W) (fb : ∀ b ∈ foot p v1, b ∈ foot p v ∨ wd.heap.size ≤ b) (z : Z) (n : N) (x1 x2 : Int) (x3 : ByteArray) :
    Fw (((W.setCell ⟨w.heap.size + 1, 0, none⟩ (.int .u8 x1)).setCell ⟨w.heap.size + 1, 1, none⟩ (.int .i64 x2)).setCell ⟨w.heap.size + 1, 2, none⟩ (.string x3)) wb p cb lv v1 A1 C1 L k e ∧ Chg (cb :: foot p v) w (((W.setCell ⟨w.heap.size + 1, 0, none⟩ (.int .u8 x1)).setCell ⟨w.heap.size + 1, 1, none⟩ (.int .i64 x2)).setCell ⟨w.heap.size + 1, 2, none⟩ (.string x3)) ∧ (∀ b ∈ foot p v1, b ∈ foot p v ∨ w.heap.size ≤ b) ∧ Z ∧ N := by
  have CS := set3_chg W (w.heap.size + 1) (.int .u8 x1) (.int .i64 x2) (.string x3)
  have nx : w.heap.size + 1 ∉ ftF wb p cb lv v1 := fun hx => by
    rcases mem_ftF.1 hx with h1 | h1 | h1
    · have := h.hd.lt; omega
    · have := (h.row.lt _ h1).2; omega
    · rcases List.mem_cons.1 h1 with h2 | h2
      · have := h.wr.lt cb (List.mem_cons_self ..); omega
      · rcases fb _ h2 with h3 | h3
        · have := h.wr.pt.lt _ h3; omega
        · omega
  exact ⟨hF.chg CS (fun b hb hx => nx (by rw [← List.mem_singleton.1 hx]; exact hb)), c.trans CS (fun x hx => .inr (by rw [List.mem_singleton.1 hx]; omega)), fun b hb => (fb b hb).imp id (fun e => by omega), z, n⟩
theorem wpass {w : World} {wb p cb k : Nat} {lv : Value} {v : Nat → Value} {A : Ar} {C : Ca} {L : List Mb} {d m into : Int} {r : Nat} {o : Ob} (h : Fw w wb p cb lv v A C L (k + 1) d) (hm : (Lit.int .i64 m).wf = true) (hf : A.find r = some o) (x1 x2 re : Int) (x3 : ByteArray) (hx : (passR A C L false m into (5, (r : Int), ⟨#[]⟩)).v = (x1, x2, x3)) (he : (passR A C L false m into (5, (r : Int), ⟨#[]⟩)).e = re) :
    Calls Tryz.prog 20 #[.pointer (some ⟨wb, 0, none⟩), .int .i64 m, .int .i64 into, .agg #[.int .u8 5, .int .i64 (r : Int), .string ⟨#[]⟩]] w fun e w' => ∃ v', e = .returned (.tuple #[.agg #[.int .u8 x1, .int .i64 x2, .string x3], .int .i64 re]) ∧
      Fw w' wb p cb lv v' (passR A C L false m into (5, (r : Int), ⟨#[]⟩)).A (passR A C L false m into (5, (r : Int), ⟨#[]⟩)).C L k (d + 1) ∧ Chg (cb :: foot p v) w w' ∧ (∀ b ∈ foot p v', b ∈ foot p v ∨ w.heap.size ≤ b) ∧
      (re = 0 → ∃ (r' : Nat) (o' : Ob), ((x1, x2, x3) : V3) = (5, (r' : Int), ⟨#[]⟩) ∧ (passR A C L false m into (5, (r : Int), ⟨#[]⟩)).A.find r' = some o') ∧ (re ≠ 0 → ((x1, x2, x3) : V3) = zero3) := by
  have PX := Lib.hid (fpass h hm hf x1 x2 re x3 hx he)
  have HFw := Lib.hid h
  obtain ⟨W2, hW2⟩ : ∃ W2, W2 = (w.alloc (.cells #[.int .u8 5, .int .i64 (r : Int), .string ⟨#[]⟩] 51)).alloc (.cells #[.int .u8 0, .int .i64 0, .string ⟨#[]⟩] 51) := ⟨_, rfl⟩
  have HU : Hid (Up w W2) := by rw [hW2]; exact ((Up.refl w).alloc _).alloc _
  have hsz : w.heap.size + 1 + 1 ≤ W2.heap.size := by rw [hW2]; simp
  have B7 : Has3 W2 w.heap.size (.int .u8 5) (.int .i64 (r : Int)) (.string ⟨#[]⟩) := by rw [hW2]; exact (has3_alloc w _ _ _ _).alloc _
  have B8 : Has3 W2 (w.heap.size + 1) (.int .u8 0) (.int .i64 0) (.string ⟨#[]⟩) := by rw [hW2]; exact has3_alloc2 w _ _ _ _ _
  have HS : Hid (∀ w', Up W2 w' → w'.cell? ⟨wb, 2, none⟩ = some lv ∧ w'.cell? ⟨wb, 0, none⟩ = some (.pointer (some ⟨p, 0, none⟩)) ∧ w'.cell? ⟨wb, 1, none⟩ = some (.map (some cb)) ∧ w'.cell? ⟨w.heap.size, 0, none⟩ = some (.int .u8 5) ∧ w'.cell? ⟨w.heap.size, 1, none⟩ = some (.int .i64 (r : Int)) ∧ w'.cell? ⟨w.heap.size, 2, none⟩ = some (.string ⟨#[]⟩)) := by
    intro w' hu
    obtain ⟨h1, h2, h3⟩ := (h.up (HU.out.trans hu)).held
    obtain ⟨-, ⟨g1, g2, g3⟩, -⟩ := B7.up hu
    exact ⟨h1, h2, h3, g1, g2, g3⟩
  have HS2 : Hid (∀ wd, Up W2 wd → ∀ w', Chg (cb :: foot p v) wd w' → (w'.cell? ⟨wb, 2, none⟩ = some lv ∧ w'.cell? ⟨wb, 0, none⟩ = some (.pointer (some ⟨p, 0, none⟩)) ∧ w'.cell? ⟨wb, 1, none⟩ = some (.map (some cb)) ∧ w'.cell? ⟨w.heap.size, 0, none⟩ = some (.int .u8 5) ∧ w'.cell? ⟨w.heap.size, 1, none⟩ = some (.int .i64 (r : Int)) ∧ w'.cell? ⟨w.heap.size, 2, none⟩ = some (.string ⟨#[]⟩)) ∧ Has3 w' (w.heap.size + 1) (.int .u8 0) (.int .i64 0) (.string ⟨#[]⟩)) := by
    intro wd hu w' c
    obtain ⟨h1, h2, h3⟩ := (h.up (HU.out.trans hu)).held
    have nw : ∀ x, w.heap.size ≤ x → x ∉ cb :: foot p v := fun x hx hh => by have := h.wr.lt x hh; omega
    have e7 := has3_chg (B7.up hu) c (nw _ (Nat.le_refl _))
    have e8 := has3_chg (B8.up hu) c (nw _ (by omega))
    obtain ⟨-, ⟨g1, g2, g3⟩, -⟩ := e7
    have hlt : wb < wd.heap.size := Nat.lt_of_lt_of_le h.hd.lt (HU.out.trans hu).size
    exact ⟨⟨(c.cell hlt h.nw).trans h1, (c.cell hlt h.nw).trans h2, (c.cell hlt h.nw).trans h3, g1, g2, g3⟩, e8⟩
  clear B7 B8 h hf hx he
  go_enter Tryz.func20, Tryz.ntmps20
  go_wp2_with fail
  rw [← hW2]
  clear hW2
  refine AnyT.start (S := fun w' => w'.cell? ⟨wb, 2, none⟩ = some lv ∧ w'.cell? ⟨wb, 0, none⟩ = some (.pointer (some ⟨p, 0, none⟩)) ∧ w'.cell? ⟨wb, 1, none⟩ = some (.map (some cb)) ∧ w'.cell? ⟨w.heap.size, 0, none⟩ = some (.int .u8 5) ∧ w'.cell? ⟨w.heap.size, 1, none⟩ = some (.int .i64 (r : Int)) ∧ w'.cell? ⟨w.heap.size, 2, none⟩ = some (.string ⟨#[]⟩)) 18 (by kernel_rfl) (HS.out _ (Up.refl W2).drew) (fun hHeld => ?_)
  have hUd : Up W2 W2.drew := (Up.refl W2).drew
  generalize World.drew W2 = wd at hUd hHeld ⊢
  refine AnyT.pick (i := 0) (oi := ⟨_, _, _, _, _, _⟩) (v := ?_) rfl (by kernel_rfl) (by kernel_rfl) (by kernel_rfl) (fun _ _ _ h => h) (Or.inl ⟨by rfl, ?y0_1⟩) ?_
  case' y0_1 => ((intro w hSw; go_simp) <;> (with_reducible rfl))
  try simp only [Act.put, List.setIfInBounds_toArray, List.set_cons_zero, List.set_cons_succ]
  refine AnyT.pick (i := 1) (oi := ⟨_, _, _, _, _, _⟩) (v := ?_) rfl (by kernel_rfl) (by kernel_rfl) (by kernel_rfl) (fun _ _ _ h => h) (Or.inl ⟨by rfl, ?y1_2⟩) ?_
  case' y1_2 => ((intro w hSw; go_simp) <;> (with_reducible rfl))
  try simp only [Act.put, List.setIfInBounds_toArray, List.set_cons_zero, List.set_cons_succ]
  refine AnyT.pick (i := 2) (oi := ⟨_, _, _, _, _, _⟩) (v := ?_) rfl (by kernel_rfl) (by kernel_rfl) (by kernel_rfl) (fun _ _ _ h => h) (Or.inl ⟨by rfl, ?y2_3⟩) ?_
  case' y2_3 => ((intro w hSw; go_simp) <;> (with_reducible rfl))
  try simp only [Act.put, List.setIfInBounds_toArray, List.set_cons_zero, List.set_cons_succ]
  refine AnyT.take (i := 3) (oi := ⟨_, _, _, _, _, _⟩) (v := ?_) rfl (by kernel_rfl) (by kernel_rfl) (by kernel_rfl) (by kernel_rfl) (fun _ _ _ h => h) (Or.inl ⟨by rfl, ?y3_4⟩) (by assumption) ?_
  case' y3_4 => ((intro w hSw; (try dsimp only at hSw); go_simp) <;> (with_reducible rfl))
  try simp only [Act.put, List.setIfInBounds_toArray, List.set_cons_zero, List.set_cons_succ]
  refine AnyT.pick (i := 4) (oi := ⟨_, _, _, _, _, _⟩) (v := ?_) rfl (by kernel_rfl) (by kernel_rfl) (by kernel_rfl) (fun _ _ _ h => h) (Or.inl ⟨by rfl, ?y4_5⟩) ?_
  case' y4_5 => ((intro w hSw; go_simp) <;> (with_reducible rfl))
  try simp only [Act.put, List.setIfInBounds_toArray, List.set_cons_zero, List.set_cons_succ]
  refine AnyT.pick (i := 5) (oi := ⟨_, _, _, _, _, _⟩) (v := ?_) rfl (by kernel_rfl) (by kernel_rfl) (by kernel_rfl) (fun _ _ _ h => h) (Or.inl ⟨by rfl, ?y5_6⟩) ?_
  case' y5_6 => ((intro w hSw; go_simp) <;> (with_reducible rfl))
  try simp only [Act.put, List.setIfInBounds_toArray, List.set_cons_zero, List.set_cons_succ]
  refine AnyT.pick (i := 6) (oi := ⟨_, _, _, _, _, _⟩) (v := ?_) rfl (by kernel_rfl) (by kernel_rfl) (by kernel_rfl) (fun _ _ _ h => h) (Or.inl ⟨by rfl, ?y6_7⟩) ?_
  case' y6_7 => ((intro w hSw; go_simp) <;> (with_reducible rfl))
  try simp only [Act.put, List.setIfInBounds_toArray, List.set_cons_zero, List.set_cons_succ]
  refine AnyT.take (i := 7) (oi := ⟨_, _, _, _, _, _⟩) (v := ?_) rfl (by kernel_rfl) (by kernel_rfl) (by kernel_rfl) (by kernel_rfl) (fun _ _ _ h => h) (Or.inl ⟨by rfl, ?y7_8⟩) (by assumption) ?_
  case' y7_8 => ((intro w hSw; (try dsimp only at hSw); go_simp) <;> (with_reducible rfl))
  try simp only [Act.put, List.setIfInBounds_toArray, List.set_cons_zero, List.set_cons_succ]
  refine AnyT.pick (i := 8) (oi := ⟨_, _, _, _, _, _⟩) (v := ?_) rfl (by kernel_rfl) (by kernel_rfl) (by kernel_rfl) (fun _ _ _ h => h) (Or.inl ⟨by rfl, ?y8_9⟩) ?_
  case' y8_9 => ((intro w hSw; go_simp) <;> (with_reducible rfl))
  try simp only [Act.put, List.setIfInBounds_toArray, List.set_cons_zero, List.set_cons_succ]
  refine AnyT.pick (i := 9) (oi := ⟨_, _, _, _, _, _⟩) (v := ?_) rfl (by kernel_rfl) (by kernel_rfl) (by kernel_rfl) (fun _ _ _ h => h) (Or.inl ⟨by rfl, ?y9_10⟩) ?_
  case' y9_10 => ((intro w hSw; go_simp) <;> (with_reducible rfl))
  try simp only [Act.put, List.setIfInBounds_toArray, List.set_cons_zero, List.set_cons_succ]
  refine AnyT.pick (i := 10) (oi := ⟨_, _, _, _, _, _⟩) (v := ?_) rfl (by kernel_rfl) (by kernel_rfl) (by kernel_rfl) (fun _ _ _ h => h) (Or.inl ⟨by rfl, ?y10_11⟩) ?_
  case' y10_11 => ((intro w hSw; go_simp) <;> (with_reducible rfl))
  try simp only [Act.put, List.setIfInBounds_toArray, List.set_cons_zero, List.set_cons_succ]
  refine AnyT.take (i := 11) (oi := ⟨_, _, _, _, _, _⟩) (v := ?_) rfl (by kernel_rfl) (by kernel_rfl) (by kernel_rfl) (by kernel_rfl) (fun _ _ _ h => h) (Or.inl ⟨by rfl, ?y11_12⟩) (by assumption) ?_
  case' y11_12 => ((intro w hSw; (try dsimp only at hSw); go_simp) <;> (with_reducible rfl))
  try simp only [Act.put, List.setIfInBounds_toArray, List.set_cons_zero, List.set_cons_succ]
  refine AnyT.pick (i := 12) (oi := ⟨_, _, _, _, _, _⟩) (v := ?_) rfl (by kernel_rfl) (by kernel_rfl) (by kernel_rfl) (fun _ _ _ h => h) (Or.inl ⟨by rfl, ?y12_13⟩) ?_
  case' y12_13 => ((intro w hSw; go_simp) <;> (with_reducible rfl))
  try simp only [Act.put, List.setIfInBounds_toArray, List.set_cons_zero, List.set_cons_succ]
  refine AnyT.pick (i := 13) (oi := ⟨_, _, _, _, _, _⟩) (v := ?_) rfl (by kernel_rfl) (by kernel_rfl) (by kernel_rfl) (fun _ _ _ h => h) (Or.inl ⟨by rfl, ?y13_14⟩) ?_
  case' y13_14 => ((intro w hSw; go_simp) <;> (with_reducible rfl))
  try simp only [Act.put, List.setIfInBounds_toArray, List.set_cons_zero, List.set_cons_succ]
  refine AnyT.take (i := 14) (oi := ⟨_, _, _, _, _, _⟩) (v := ?_) rfl (by kernel_rfl) (by kernel_rfl) (by kernel_rfl) (by kernel_rfl) (fun _ _ _ h => h) (Or.inl ⟨by rfl, ?y14_15⟩) (by assumption) ?_
  case' y14_15 => ((intro w hSw; (try dsimp only at hSw); go_simp) <;> (with_reducible rfl))
  try simp only [Act.put, List.setIfInBounds_toArray, List.set_cons_zero, List.set_cons_succ]
  refine AllT.go (rs := [15]) (by kernel_rfl) (by simp) ?_
  refine AllT.early (o := ⟨_, _, _, _, _, _⟩) rfl (fun K hK => ?_) ?_
  · go_simp
    go_at_call 9
    refine (PX.out _ (HU.out.trans hUd)).mono ?_
    rintro e wp ⟨v', rfl, hF, hCg, hfb, hr0, hr1⟩
    have hH := HS2.out _ hUd _ hCg
    refine hK.out _ _ hH.1 (fun _ => ?_)
    clear hK K hHeld
    have h8 := hH.2
    have hCw : Chg (cb :: foot p v) w wp := ((HU.out.trans hUd).chg.mono (by simp)).trans hCg (fun x hx => .inl hx)
    have hUd' := Nat.le_trans hsz hUd.size
    obtain ⟨z0, ⟨z1, z2, z3⟩, ⟨z4, z5, z6⟩⟩ := hH.2
    have HF := Lib.hid (And.intro hF (And.intro hCw (And.intro hfb (And.intro hr0 (And.intro hr1 h8)))))
    clear hF hCg hCw hfb hr0 hr1 hH h8
    try simp only [Act.put, List.setIfInBounds_toArray, List.set_cons_zero, List.set_cons_succ]
    refine AnyT.pick (i := 16) (oi := ⟨_, _, _, _, _, _⟩) (v := ?_) rfl (by kernel_rfl) (by kernel_rfl) (by kernel_rfl) (fun _ _ _ h => h) (Or.inl ⟨by rfl, ?y16_16⟩) ?_
    case' y16_16 => ((intro w hSw; go_simp) <;> (with_reducible rfl))
    try simp only [Act.put, List.setIfInBounds_toArray, List.set_cons_zero, List.set_cons_succ]
    refine AnyT.pick (i := 17) (oi := ⟨_, _, _, _, _, _⟩) (v := ?_) rfl (by kernel_rfl) (by kernel_rfl) (by kernel_rfl) (fun _ _ _ h => h) (Or.inl ⟨by rfl, ?y17_17⟩) ?_
    case' y17_17 => ((intro w hSw; go_simp) <;> (with_reducible rfl))
    try simp only [Act.put, List.setIfInBounds_toArray, List.set_cons_zero, List.set_cons_succ]
    refine AllT.go (rs := [18]) (by kernel_rfl) (by simp) ?_
    refine AllT.late (o := ⟨_, _, _, _, _, _⟩) rfl (by decide) (fun K hK => ?_) ?_
    · go_simp
      refine hK.out _ _ trivial (fun _ => ?_)
      clear hK K
      try simp only [Act.put, List.setIfInBounds_toArray, List.set_cons_zero, List.set_cons_succ]
      refine AnyT.pick (i := 19) (oi := ⟨_, _, _, _, _, _⟩) (v := ?_) rfl (by kernel_rfl) (by kernel_rfl) (by kernel_rfl) (fun _ _ _ h => h) (Or.inl ⟨by rfl, ?y19_18⟩) ?_
      case' y19_18 => ((intro w hSw; go_simp) <;> (with_reducible rfl))
      try simp only [Act.put, List.setIfInBounds_toArray, List.set_cons_zero, List.set_cons_succ]
      refine AnyT.done (by kernel_rfl) ?_ _
      go_wp2_with fail
      obtain ⟨-, ⟨q1, q2, q3⟩, -⟩ := Has3.store HF.out.2.2.2.2.2 (.int .u8 x1) (.int .i64 x2) (.string x3)
      refine bodyPost_ret (v := .tuple #[.agg #[.int .u8 x1, .int .i64 x2, .string x3], .int .i64 re]) (by simp [results, Tryz.results20, go_sem, q1, q2, q3]) rfl ⟨v', rfl, ?_⟩
      exact wpass_end HFw.out hUd' HF.out.1 HF.out.2.1 HF.out.2.2.1 HF.out.2.2.2.1 HF.out.2.2.2.2.1 x1 x2 x3
    exact AllT.nil
  exact AllT.nil
end Go.Proofs.YtmmfpkkkpeapeaaGreatDoor.mb

/- frame.World's Back: what holds before a round: plain. -/
set_option linter.unusedVariables false
namespace Go.Proofs.YtmmfpkkkpeapeaaGreatDoor.mb
open Go.RowKit Go.Maps mem rec ar
set_option maxHeartbeats 400000
/-- Behind a world's Pass, its value laid in block xb. -/
structure Mid4 (w wx : World) (wb p cb : Nat) (lv : Value) (v v' : Nat → Value) (A' : Ar) (C' : Ca) (L : List Mb) (k : Nat) (d : Int) (x : V3) (xb : Nat) : Prop where
  fw : Fw wx wb p cb lv v' A' C' L k d
  xc : Has3 wx xb (.int .u8 x.1) (.int .i64 x.2.1) (.string x.2.2)
  cg : Chg (cb :: foot p v) w wx
  fb : ∀ b ∈ foot p v', b ∈ foot p v ∨ w.heap.size ≤ b
  xn : w.heap.size ≤ xb
section
variable {w wr w1 wx : World} {wb p cb k s5 s6 r : Nat} {lv gv : Value} {v0 v v1 : Nat → Value} {A A1 : Ar} {C C1 : Ca} {L : List Mb} {d e : Int} {bk : List (Int × Int)}
theorem nft {b : Nat} (h : Fw w wb p cb lv v A C L k d) (hb : w.heap.size ≤ b) : b ∉ ftF wb p cb lv v := fun hx => by have := h.lt b hx; omega
theorem wmid {m into : Int} {o : Ob} (h : Fw w wb p cb lv v A C L (k + 1) d) (hm : (Lit.int .i64 m).wf = true) (hf : A.find r = some o) (x1 x2 re : Int) (x3 : ByteArray) (hx : (passR A C L false m into (5, (r : Int), ⟨#[]⟩)).v = (x1, x2, x3)) (he : (passR A C L false m into (5, (r : Int), ⟨#[]⟩)).e = re) (wx : World) (u : Up w wx) :
    Calls Tryz.prog 20 #[.pointer (some ⟨wb, 0, none⟩), .int .i64 m, .int .i64 into, .agg #[.int .u8 5, .int .i64 (r : Int), .string ⟨#[]⟩]] wx fun e w' => ∃ v', e = .returned (.tuple #[.agg #[.int .u8 x1, .int .i64 x2, .string x3], .int .i64 re]) ∧
      (∀ ty, Mid4 w (w'.alloc (.cells #[.int .u8 x1, .int .i64 x2, .string x3] ty)) wb p cb lv v v' (passR A C L false m into (5, (r : Int), ⟨#[]⟩)).A (passR A C L false m into (5, (r : Int), ⟨#[]⟩)).C L k (d + 1) (x1, x2, x3) w'.heap.size) ∧
      (∀ (xb : Nat) (c0 c1 c2 : Value), w.heap.size ≤ xb → Has3 wx xb c0 c1 c2 → Has3 w' xb c0 c1 c2 ∧ Mid4 w (((w'.setCell ⟨xb, 0, none⟩ (.int .u8 x1)).setCell ⟨xb, 1, none⟩ (.int .i64 x2)).setCell ⟨xb, 2, none⟩ (.string x3)) wb p cb lv v v' (passR A C L false m into (5, (r : Int), ⟨#[]⟩)).A (passR A C L false m into (5, (r : Int), ⟨#[]⟩)).C L k (d + 1) (x1, x2, x3) xb) ∧
      Chg (cb :: foot p v) w w' ∧ ((re = 0 → ∃ (r' : Nat) (o' : Ob), ((x1, x2, x3) : V3) = (5, (r' : Int), ⟨#[]⟩) ∧ (passR A C L false m into (5, (r : Int), ⟨#[]⟩)).A.find r' = some o') ∧ (re ≠ 0 → ((x1, x2, x3) : V3) = zero3)) := by
  have H := h.up u
  refine (wpass H hm hf x1 x2 re x3 hx he).mono ?_
  rintro e w' ⟨v', rfl, h1, h2, h3, h4, h5⟩
  have C1 : Chg (cb :: foot p v) w w' := (u.chg.mono (by simp)).trans h2 (fun x hx => .inl hx)
  have F1 : ∀ b ∈ foot p v', b ∈ foot p v ∨ w.heap.size ≤ b := fun b hb => (h3 b hb).imp id (fun e => Nat.le_trans u.size e)
  refine ⟨v', rfl, fun ty => ⟨h1.up ((Up.refl w').alloc _), has3_alloc w' _ _ _ ty, C1.alloc _, F1, C1.size⟩, fun xb c0 c1 c2 hxb hz => ?_, C1, h4, h5⟩
  have nx : xb ∉ cb :: foot p v := fun hx => by have := h.wr.lt xb hx; omega
  have hz' := has3_chg hz h2 nx
  have CS := set3_chg w' xb (.int .u8 x1) (.int .i64 x2) (.string x3)
  refine ⟨hz', h1.chg CS (fun b hb hx => ?_), hz'.store _ _ _, C1.trans CS (fun x hx => .inr (by rw [List.mem_singleton.1 hx]; exact hxb)), F1, hxb⟩
  rw [List.mem_singleton.1 hx] at hb
  rcases mem_ftF.1 hb with h6 | h6 | h6
  · have := h.hd.lt; omega
  · have := (h.row.lt _ h6).2; omega
  · rcases List.mem_cons.1 h6 with h7 | h7
    · exact nx (by rw [h7]; exact List.mem_cons_self ..)
    · rcases h3 _ h7 with h8 | h8
      · exact nx (List.mem_cons_of_mem _ h8)
      · have := hz.1; omega
/-- Before a round of Back; w: where Back began. -/
structure Bk (w wr : World) (wb p cb : Nat) (lv : Value) (v0 v : Nat → Value) (A : Ar) (C : Ca) (L : List Mb) (k : Nat) (d : Int) (gv : Value) (bk : List (Int × Int)) (r : Nat) : Prop where
  fw : Fw wr wb p cb lv v A C L k d
  row : wr.ownsRow 0 78 2 gv bk.length (bk.flatMap cellsP)
  nb : ∀ b, gv.ownBlock = some b → b ∉ ftF wb p cb lv v ∧ b < w.heap.size
  c5 : Has3 wr w.heap.size (.int .u8 5) (.int .i64 (r : Int)) (.string ⟨#[]⟩)
  c6 : Has3 wr (w.heap.size + 1) (.int .u8 0) (.int .i64 0) (.string ⟨#[]⟩)
  n5 : w.heap.size ∉ ftF wb p cb lv v
  n6 : w.heap.size + 1 ∉ ftF wb p cb lv v
  cg : Chg (cb :: foot p v0) w wr
  fb : ∀ b ∈ foot p v, b ∈ foot p v0 ∨ w.heap.size ≤ b
theorem Bk.start (h : Fw w wb p cb lv v A C L k d) (row : w.ownsRow 0 78 2 gv bk.length (bk.flatMap cellsP)) (nb : ∀ b, gv.ownBlock = some b → b ∉ ftF wb p cb lv v) {ty : TypeId} :
    Bk w ((w.alloc (.cells #[.int .u8 5, .int .i64 (r : Int), .string ⟨#[]⟩] ty)).alloc (.cells #[.int .u8 0, .int .i64 0, .string ⟨#[]⟩] ty)) wb p cb lv v v A C L k d gv bk r :=
  have u : Up w ((w.alloc (.cells #[.int .u8 5, .int .i64 (r : Int), .string ⟨#[]⟩] ty)).alloc (.cells #[.int .u8 0, .int .i64 0, .string ⟨#[]⟩] ty)) := ((Up.refl w).alloc _).alloc _
  ⟨h.up u, owns_chg row u.chg (by simp), fun b hb => ⟨nb b hb, (row.lt b hb).2⟩, (has3_alloc w _ _ _ ty).alloc _, has3_alloc2 w _ _ _ _ ty, nft h (Nat.le_refl _), nft h (by omega), u.chg.mono (by simp), fun b hb => .inl hb⟩
theorem ft_new {b : Nat} (hfb : ∀ b ∈ foot p v1, b ∈ foot p v ∨ w.heap.size ≤ b) (hlt : b < w.heap.size) (hn : b ∉ ftF wb p cb lv v) : b ∉ ftF wb p cb lv v1 := fun hx => by
  rcases mem_ftF.1 hx with h1 | h1 | h1
  · exact hn (mem_ftF.2 (.inl h1))
  · exact hn (mem_ftF.2 (.inr (.inl h1)))
  · rcases List.mem_cons.1 h1 with h2 | h2
    · exact hn (mem_ftF.2 (.inr (.inr (by rw [h2]; exact List.mem_cons_self ..))))
    · rcases hfb b h2 with h3 | h3
      · exact hn (mem_ftF.2 (.inr (.inr (List.mem_cons_of_mem _ h3))))
      · omega
/-- Behind Pass, before v is laid anew. -/
theorem Bk.mid {x : V3} {xb : Nat} (h : Bk w wr wb p cb lv v0 v A C L (k + 1) d gv bk r) (M : Mid4 wr wx wb p cb lv v v1 A1 C1 L k e x xb) : Bk w wx wb p cb lv v0 v1 A1 C1 L k e gv bk r := by
  have z := h.cg.size
  have nn : ∀ b ∈ cb :: foot p v, b ∈ ftF wb p cb lv v := fun b hb => mem_ftF.2 (.inr (.inr hb))
  refine ⟨M.fw, owns_chg h.row M.cg (fun b hb hx => (h.nb b hb).1 (nn b hx)), fun b hb => ⟨ft_new M.fb (h.row.lt b hb).2 (h.nb b hb).1, (h.nb b hb).2⟩, has3_chg h.c5 M.cg (fun hx => h.n5 (nn _ hx)), has3_chg h.c6 M.cg (fun hx => h.n6 (nn _ hx)), ft_new M.fb h.c5.1 h.n5, ft_new M.fb h.c6.1 h.n6, h.cg.trans M.cg (fun b hb => ?_), fun b hb => ?_⟩
  · rcases List.mem_cons.1 hb with h1 | h1
    · exact .inl (by rw [h1]; exact List.mem_cons_self ..)
    · exact (h.fb b h1).imp (List.mem_cons_of_mem _) id
  · rcases M.fb b hb with h1 | h1
    · exact h.fb b h1
    · exact .inr (by omega)
theorem Bk.set5 {r' : Nat} (h : Bk w wr wb p cb lv v0 v A C L k d gv bk r) : Bk w (((wr.setCell ⟨w.heap.size, 0, none⟩ (.int .u8 5)).setCell ⟨w.heap.size, 1, none⟩ (.int .i64 (r' : Int))).setCell ⟨w.heap.size, 2, none⟩ (.string ⟨#[]⟩)) wb p cb lv v0 v A C L k d gv bk r' := by
  have CS := set3_chg wr w.heap.size (.int .u8 5) (.int .i64 (r' : Int)) (.string ⟨#[]⟩)
  exact ⟨h.fw.chg CS (fun b hb hx => h.n5 (by rw [← List.mem_singleton.1 hx]; exact hb)), owns_chg h.row CS (fun b hb hx => by have h1 := (h.nb b hb).2; rw [List.mem_singleton.1 hx] at h1; omega), h.nb, h.c5.store _ _ _, has3_chg h.c6 CS (fun hx => by have := List.mem_singleton.1 hx; omega), h.n5, h.n6, h.cg.trans CS (fun x hx => .inr (by rw [List.mem_singleton.1 hx]; omega)), h.fb⟩
/-- The end: the answer is laid. -/
theorem Bk.fin (h : Bk w wr wb p cb lv v0 v A C L k d gv bk r) (a b c : Value) : Fw (((wr.setCell ⟨w.heap.size + 1, 0, none⟩ a).setCell ⟨w.heap.size + 1, 1, none⟩ b).setCell ⟨w.heap.size + 1, 2, none⟩ c) wb p cb lv v A C L k d ∧ Chg (cb :: foot p v0) w (((wr.setCell ⟨w.heap.size + 1, 0, none⟩ a).setCell ⟨w.heap.size + 1, 1, none⟩ b).setCell ⟨w.heap.size + 1, 2, none⟩ c) ∧ ∀ b ∈ foot p v, b ∈ foot p v0 ∨ w.heap.size ≤ b := by
  have CS := set3_chg wr (w.heap.size + 1) a b c
  exact ⟨h.fw.chg CS (fun b hb hx => h.n6 (by rw [← List.mem_singleton.1 hx]; exact hb)), h.cg.trans CS (fun x hx => .inr (by rw [List.mem_singleton.1 hx]; omega)), h.fb⟩
end
theorem runR_step {L : List Mb} {bk : List (Int × Int)} {j : Nat} {x : Int × Int} (hx : bk[j]? = some x) (A : Ar) (C : Ca) (v : V3) : runR L (bk.take (j + 1)).reverse A C v = if (passR A C L false x.1 x.2 v).e ≠ 0 then passR A C L false x.1 x.2 v else runR L (bk.take j).reverse (passR A C L false x.1 x.2 v).A (passR A C L false x.1 x.2 v).C (passR A C L false x.1 x.2 v).v := by
  rw [List.take_add_one, hx, List.reverse_append]
  rfl
theorem heldC {w : World} {gb gc : Nat} {bk : List (Int × Int)} (h : w.ownsRow 0 78 2 (.slice (some ⟨gb, 0, none⟩) bk.length gc) bk.length (bk.flatMap cellsP)) {j : Nat} {x : Int × Int} (hx : bk[j]? = some x) : w.cell? ⟨gb, j * 2, none⟩ = some (.int .i64 x.1) ∧ w.cell? ⟨gb, j * 2 + 1, none⟩ = some (.int .i64 x.2) := by
  have hj := (List.getElem?_eq_some_iff.1 hx).1
  have e0 := flat2_get bk j 0 x hx (by decide)
  have e1 := flat2_get bk j 1 x hx (by decide)
  refine ⟨?_, ?_⟩
  · rw [World.ownsRow.cellAt h (j * 2) (by omega)]; exact e0
  · rw [World.ownsRow.cellAt h (j * 2 + 1) (by omega)]; exact e1
end Go.Proofs.YtmmfpkkkpeapeaaGreatDoor.mb

/- frame.World's Back, walked (printed by fr_gen.py). -/
set_option linter.unusedVariables false
set_option linter.unusedSimpArgs false
namespace Go.Proofs.YtmmfpkkkpeapeaaGreatDoor.mb
open Go.RowKit Go.Maps mem rec ar
attribute [local go_sem ↓] Go.wp_at_zero Go.wp_at_succ
set_option maxRecDepth 100000
set_option maxHeartbeats 4000000
theorem wback {w : World} {wb p cb k : Nat} {lv gv : Value} {v0 : Nat → Value} {A0 : Ar} {C0 : Ca} {L : List Mb} {d : Int} {bk : List (Int × Int)} {r : Nat} {o : Ob} (h : Fw w wb p cb lv v0 A0 C0 L (k + bk.length) d) (row : w.ownsRow 0 78 2 gv bk.length (bk.flatMap cellsP)) (nb : ∀ b, gv.ownBlock = some b → b ∉ ftF wb p cb lv v0) (hb8 : bk.length ≤ 8) (hms : ∀ x ∈ bk, (Lit.int .i64 x.1).wf = true) (hf : A0.find r = some o) :
    Calls Tryz.prog 22 #[.pointer (some ⟨wb, 0, none⟩), gv, .agg #[.int .u8 5, .int .i64 (r : Int), .string ⟨#[]⟩]] w fun e w' => ∃ v', e = .returned (.tuple #[val (runR L bk.reverse A0 C0 (5, (r : Int), ⟨#[]⟩)).v, .int .i64 (runR L bk.reverse A0 C0 (5, (r : Int), ⟨#[]⟩)).e]) ∧
      Fw w' wb p cb lv v' (runR L bk.reverse A0 C0 (5, (r : Int), ⟨#[]⟩)).A (runR L bk.reverse A0 C0 (5, (r : Int), ⟨#[]⟩)).C L k (d + bk.length) ∧ Chg (cb :: foot p v0) w w' ∧ (∀ b ∈ foot p v', b ∈ foot p v0 ∨ w.heap.size ≤ b) ∧
      ((runR L bk.reverse A0 C0 (5, (r : Int), ⟨#[]⟩)).e = 0 → ∃ (r' : Nat) (o' : Ob), (runR L bk.reverse A0 C0 (5, (r : Int), ⟨#[]⟩)).v = (5, (r' : Int), ⟨#[]⟩) ∧ (runR L bk.reverse A0 C0 (5, (r : Int), ⟨#[]⟩)).A.find r' = some o') ∧
      ((runR L bk.reverse A0 C0 (5, (r : Int), ⟨#[]⟩)).e ≠ 0 → (runR L bk.reverse A0 C0 (5, (r : Int), ⟨#[]⟩)).v = zero3) := by
  obtain ⟨ga, gc, rfl, -, -, hga⟩ := ar.shape row
  have B0 := Lib.hid (Bk.start (r := r) (ty := 51) h row nb)
  obtain ⟨R, hR⟩ : ∃ R, R = runR L bk.reverse A0 C0 (5, (r : Int), ⟨#[]⟩) := ⟨_, rfl⟩
  rw [← hR]
  have hR0 : R = runR L (bk.take bk.length).reverse A0 C0 (5, (r : Int), ⟨#[]⟩) := by rw [List.take_length]; exact hR
  have HR0 := Lib.hid (And.intro hR0 hf)
  have HMS := Lib.hid hms
  have hw : IntKind.i64.wrap ((bk.length : Int) - 1) = (bk.length : Int) - 1 := by rw [IntKind.wrap_i64] <;> omega
  clear hR hR0 hms h row nb hf
  obtain ⟨W2, hW2⟩ : ∃ W2, W2 = (w.alloc (.cells #[.int .u8 5, .int .i64 (r : Int), .string ⟨#[]⟩] 51)).alloc (.cells #[.int .u8 0, .int .i64 0, .string ⟨#[]⟩] 51) := ⟨_, rfl⟩
  rw [← hW2] at B0
  go_enter Tryz.func22, Tryz.ntmps22
  go_wp2_with fail
  rw [← hW2]
  clear hW2 hw
  go_loopw [8] (fun i wr => ∃ (j rr : Nat) (x : Int) (v : Nat → Value) (A : Ar) (C : Ca) (o : Ob), j ≤ bk.length ∧ i = .int .i64 x ∧ x = (j : Int) - 1 ∧ R = runR L (bk.take j).reverse A C (5, (rr : Int), ⟨#[]⟩) ∧ A.find rr = some o ∧ Bk w wr wb p cb lv v0 v A C L (k + j) (d + (bk.length - j : Nat)) (.slice ga bk.length gc) bk rr) (fun i _ => (intOf i + 1).toNat)
  case atStart => exact ⟨bk.length, r, _, v0, A0, C0, o, by omega, rfl, rfl, HR0.out.1, HR0.out.2, by rw [Nat.sub_self]; simpa using B0.out⟩
  case round =>
    obtain ⟨j, rr, x, v, A, C, oo, hj, rfl, hxj, hrun, hfo, hB⟩ := hrel
    clear B0 HR0
    have BB := Lib.hid hB
    have HRF := Lib.hid (And.intro hrun hfo)
    clear hB hrun hfo
    by_cases hj0 : j = 0
    · subst hj0
      have hx1 : x = -1 := by omega
      clear hxj
      subst hx1
      have hR := HRF.out.1
      rw [List.take_zero] at hR
      have hR2 : R = ⟨(5, (rr : Int), ⟨#[]⟩), 0, A, C⟩ := hR
      have HE := Lib.hid hR2
      clear hR hR2
      obtain ⟨x0, ⟨x1, x2, x3⟩, -⟩ := BB.out.c5
      obtain ⟨z0, ⟨z1, z2, z3⟩, ⟨z4, z5, z6⟩⟩ := BB.out.c6
      go_wp2_with fail
      obtain ⟨f1, f2, f3⟩ := BB.out.fin (.int .u8 5) (.int .i64 (rr : Int)) (.string ⟨#[]⟩)
      obtain ⟨-, ⟨q1, q2, q3⟩, -⟩ := Has3.store BB.out.c6 (.int .u8 5) (.int .i64 (rr : Int)) (.string ⟨#[]⟩)
      refine bodyPost_ret (v := .tuple #[.agg #[.int .u8 5, .int .i64 (rr : Int), .string ⟨#[]⟩], .int .i64 0]) (by simp [results, Tryz.results22, go_sem, q1, q2, q3]) rfl ?_
      rw [HE.out]
      exact ⟨v, rfl, by simpa using f1, f2, f3, fun _ => ⟨rr, oo, rfl, HRF.out.2⟩, fun hh => absurd rfl hh⟩
    · obtain ⟨i, rfl⟩ : ∃ i, j = i + 1 := ⟨j - 1, by omega⟩
      have hxi : x = (i : Int) := by omega
      clear hxj
      subst hxi
      obtain ⟨⟨xm, xt⟩, hy⟩ : ∃ y, bk[i]? = some y := ⟨_, List.getElem?_eq_getElem (by omega)⟩
      have hR := HRF.out.1
      rw [runR_step hy] at hR
      simp only at hR
      obtain ⟨P, hP⟩ : ∃ P, P = passR A C L false xm xt (5, (rr : Int), ⟨#[]⟩) := ⟨_, rfl⟩
      rw [← hP] at hR
      have hga2 : ∃ gb, ga = some ⟨gb, 0, none⟩ := by
        rcases hga with ⟨-, h1, -⟩ | ⟨gb, h1, -⟩
        · omega
        · exact ⟨gb, h1⟩
      obtain ⟨gb, rfl⟩ := hga2
      obtain ⟨⟨y1, y2, y3⟩, hPv⟩ : ∃ y, P.v = y := ⟨_, rfl⟩
      obtain ⟨re, hPe⟩ : ∃ re, P.e = re := ⟨_, rfl⟩
      have PX := Lib.hid (wmid (k := k + i) BB.out.fw (HMS.out _ (List.mem_of_getElem? hy)) HRF.out.2 y1 y2 re y3 (by rw [← hP]; exact hPv) (by rw [← hP]; exact hPe))
      rw [← hP] at PX
      have HS : Hid (∀ w', Chg (cb :: foot p v) wr w' → w'.cell? ⟨gb, i * 2, none⟩ = some (.int .i64 xm) ∧ w'.cell? ⟨gb, i * 2 + 1, none⟩ = some (.int .i64 xt) ∧ w'.cell? ⟨w.heap.size, 0, none⟩ = some (.int .u8 5) ∧ w'.cell? ⟨w.heap.size, 1, none⟩ = some (.int .i64 (rr : Int)) ∧ w'.cell? ⟨w.heap.size, 2, none⟩ = some (.string ⟨#[]⟩)) := by
        intro w' c
        have nn : ∀ b ∈ cb :: foot p v, b ∈ ftF wb p cb lv v := fun b hb => mem_ftF.2 (.inr (.inr hb))
        obtain ⟨e1, e2⟩ := heldC (owns_chg BB.out.row c (fun b hb hx => (BB.out.nb b hb).1 (nn b hx))) hy
        obtain ⟨-, ⟨g1, g2, g3⟩, -⟩ := has3_chg BB.out.c5 c (fun hx => BB.out.n5 (nn _ hx))
        exact ⟨e1, e2, g1, g2, g3⟩
      have HRR := Lib.hid (And.intro hR (And.intro hPv hPe))
      have hil : (i : Int) < (bk.length : Int) := by omega
      have hi0 : (0 : Int) ≤ (i : Int) := by omega
      clear hy hR hP hPv hPe hga
      go_wp2_with fail
      go_cut [9, 10] from 18 to 33 (fun x y wx => ∃ (xb : Nat) (v' : Nat → Value), x = .pointer (some ⟨xb, 0, none⟩) ∧ y = .int .i64 re ∧ Mid4 wr wx wb p cb lv v v' P.A P.C L (k + i) (d + (bk.length - (i + 1) : Nat) + 1) (y1, y2, y3) xb ∧ ((re = 0 → ∃ (r' : Nat) (o' : Ob), ((y1, y2, y3) : V3) = (5, (r' : Int), ⟨#[]⟩) ∧ P.A.find r' = some o') ∧ (re ≠ 0 → ((y1, y2, y3) : V3) = zero3)))
      case first =>
        refine AnyT.start (S := fun w' => w'.cell? ⟨gb, i * 2, none⟩ = some (.int .i64 xm) ∧ w'.cell? ⟨gb, i * 2 + 1, none⟩ = some (.int .i64 xt) ∧ w'.cell? ⟨w.heap.size, 0, none⟩ = some (.int .u8 5) ∧ w'.cell? ⟨w.heap.size, 1, none⟩ = some (.int .i64 (rr : Int)) ∧ w'.cell? ⟨w.heap.size, 2, none⟩ = some (.string ⟨#[]⟩)) 17 (by kernel_rfl) (HS.out _ ((Chg.refl (cb :: foot p v) wr).drew)) (fun hHeld => ?_)
        have hUd : Up wr wr.drew := (Up.refl wr).drew
        generalize World.drew wr = wd at hUd hHeld ⊢
        refine AnyT.pick (i := 0) (oi := ⟨_, _, _, _, _, _⟩) (v := ?_) rfl (by kernel_rfl) (by kernel_rfl) (by kernel_rfl) (fun _ _ _ h => h) (Or.inl ⟨by rfl, ?y0_1⟩) ?_
        case' y0_1 => ((intro w hSw; go_simp) <;> (with_reducible rfl))
        try simp only [Act.put, List.setIfInBounds_toArray, List.set_cons_zero, List.set_cons_succ]
        refine AnyT.pick (i := 1) (oi := ⟨_, _, _, _, _, _⟩) (v := ?_) rfl (by kernel_rfl) (by kernel_rfl) (by kernel_rfl) (fun _ _ _ h => h) (Or.inl ⟨by rfl, ?y1_2⟩) ?_
        case' y1_2 => ((intro w hSw; go_simp) <;> (with_reducible rfl))
        try simp only [Act.put, List.setIfInBounds_toArray, List.set_cons_zero, List.set_cons_succ]
        refine AnyT.pick (i := 2) (oi := ⟨_, _, _, _, _, _⟩) (v := ?_) rfl (by kernel_rfl) (by kernel_rfl) (by kernel_rfl) (fun _ _ _ h => h) (Or.inl ⟨by rfl, ?y2_3⟩) ?_
        case' y2_3 => ((intro w hSw; go_simp) <;> (with_reducible rfl))
        try simp only [Act.put, List.setIfInBounds_toArray, List.set_cons_zero, List.set_cons_succ]
        refine AnyT.pick (i := 3) (oi := ⟨_, _, _, _, _, _⟩) (v := ?_) rfl (by kernel_rfl) (by kernel_rfl) (by kernel_rfl) (fun _ _ _ h => h) (Or.inl ⟨by rfl, ?y3_4⟩) ?_
        case' y3_4 => ((intro w hSw; go_simp) <;> (with_reducible rfl))
        try simp only [Act.put, List.setIfInBounds_toArray, List.set_cons_zero, List.set_cons_succ]
        refine AnyT.pick (i := 4) (oi := ⟨_, _, _, _, _, _⟩) (v := ?_) rfl (by kernel_rfl) (by kernel_rfl) (by kernel_rfl) (fun _ _ _ h => h) (Or.inl ⟨by rfl, ?y4_5⟩) ?_
        case' y4_5 => ((intro w hSw; go_simp) <;> (with_reducible rfl))
        try simp only [Act.put, List.setIfInBounds_toArray, List.set_cons_zero, List.set_cons_succ]
        refine AnyT.take (i := 5) (oi := ⟨_, _, _, _, _, _⟩) (v := ?_) rfl (by kernel_rfl) (by kernel_rfl) (by kernel_rfl) (by kernel_rfl) (fun _ _ _ h => h) (Or.inl ⟨by rfl, ?y5_6⟩) (by assumption) ?_
        case' y5_6 => ((intro w hSw; (try dsimp only at hSw); go_simp) <;> (with_reducible rfl))
        try simp only [Act.put, List.setIfInBounds_toArray, List.set_cons_zero, List.set_cons_succ]
        refine AnyT.pick (i := 6) (oi := ⟨_, _, _, _, _, _⟩) (v := ?_) rfl (by kernel_rfl) (by kernel_rfl) (by kernel_rfl) (fun _ _ _ h => h) (Or.inl ⟨by rfl, ?y6_7⟩) ?_
        case' y6_7 => ((intro w hSw; go_simp) <;> (with_reducible rfl))
        try simp only [Act.put, List.setIfInBounds_toArray, List.set_cons_zero, List.set_cons_succ]
        refine AnyT.pick (i := 7) (oi := ⟨_, _, _, _, _, _⟩) (v := ?_) rfl (by kernel_rfl) (by kernel_rfl) (by kernel_rfl) (fun _ _ _ h => h) (Or.inl ⟨by rfl, ?y7_8⟩) ?_
        case' y7_8 => ((intro w hSw; go_simp) <;> (with_reducible rfl))
        try simp only [Act.put, List.setIfInBounds_toArray, List.set_cons_zero, List.set_cons_succ]
        refine AnyT.pick (i := 8) (oi := ⟨_, _, _, _, _, _⟩) (v := ?_) rfl (by kernel_rfl) (by kernel_rfl) (by kernel_rfl) (fun _ _ _ h => h) (Or.inl ⟨by rfl, ?y8_9⟩) ?_
        case' y8_9 => ((intro w hSw; go_simp) <;> (with_reducible rfl))
        try simp only [Act.put, List.setIfInBounds_toArray, List.set_cons_zero, List.set_cons_succ]
        refine AnyT.pick (i := 9) (oi := ⟨_, _, _, _, _, _⟩) (v := ?_) rfl (by kernel_rfl) (by kernel_rfl) (by kernel_rfl) (fun _ _ _ h => h) (Or.inl ⟨by rfl, ?y9_10⟩) ?_
        case' y9_10 => ((intro w hSw; go_simp) <;> (with_reducible rfl))
        try simp only [Act.put, List.setIfInBounds_toArray, List.set_cons_zero, List.set_cons_succ]
        refine AnyT.take (i := 10) (oi := ⟨_, _, _, _, _, _⟩) (v := ?_) rfl (by kernel_rfl) (by kernel_rfl) (by kernel_rfl) (by kernel_rfl) (fun _ _ _ h => h) (Or.inl ⟨by rfl, ?y10_11⟩) (by assumption) ?_
        case' y10_11 => ((intro w hSw; (try dsimp only at hSw); go_simp) <;> (with_reducible rfl))
        try simp only [Act.put, List.setIfInBounds_toArray, List.set_cons_zero, List.set_cons_succ]
        refine AnyT.take (i := 11) (oi := ⟨_, _, _, _, _, _⟩) (v := ?_) rfl (by kernel_rfl) (by kernel_rfl) (by kernel_rfl) (by kernel_rfl) (fun _ _ _ h => h) (Or.inl ⟨by rfl, ?y11_12⟩) (by assumption) ?_
        case' y11_12 => ((intro w hSw; (try dsimp only at hSw); go_simp) <;> (with_reducible rfl))
        try simp only [Act.put, List.setIfInBounds_toArray, List.set_cons_zero, List.set_cons_succ]
        refine AllT.go (rs := [12, 16]) (by kernel_rfl) (by simp) ?_
        refine AllT.early (o := ⟨_, _, _, _, _, _⟩) rfl (fun K hK => ?_) ?_
        · go_simp
          go_at_call 20
          refine (PX.out _ hUd).mono ?_
          rintro e wp ⟨v', rfl, hAf, hBf, hCg, hr⟩
          refine hK.out _ _ (HS.out _ hCg) (fun _ => ?_)
          clear hK K hHeld
          try simp only [Act.put, List.setIfInBounds_toArray, List.set_cons_zero, List.set_cons_succ]
          refine AnyT.pick (i := 13) (oi := ⟨_, _, _, _, _, _⟩) (v := ?_) rfl (by kernel_rfl) (by kernel_rfl) (by kernel_rfl) (fun _ _ _ h => h) (Or.inl ⟨by rfl, ?y13_13⟩) ?_
          case' y13_13 => ((intro w hSw; go_simp) <;> (with_reducible rfl))
          try simp only [Act.put, List.setIfInBounds_toArray, List.set_cons_zero, List.set_cons_succ]
          refine AnyT.pick (i := 14) (oi := ⟨_, _, _, _, _, _⟩) (v := ?_) rfl (by kernel_rfl) (by kernel_rfl) (by kernel_rfl) (fun _ _ _ h => h) (Or.inl ⟨by rfl, ?y14_14⟩) ?_
          case' y14_14 => ((intro w hSw; go_simp) <;> (with_reducible rfl))
          try simp only [Act.put, List.setIfInBounds_toArray, List.set_cons_zero, List.set_cons_succ]
          refine AnyT.pick (i := 15) (oi := ⟨_, _, _, _, _, _⟩) (v := ?_) rfl (by kernel_rfl) (by kernel_rfl) (by kernel_rfl) (fun _ _ _ h => h) (Or.inl ⟨by rfl, ?y15_15⟩) ?_
          case' y15_15 => ((intro w hSw; go_simp) <;> (with_reducible rfl))
          try simp only [Act.put, List.setIfInBounds_toArray, List.set_cons_zero, List.set_cons_succ]
          refine AllT.go (rs := [16]) (by kernel_rfl) (by simp) ?_
          refine AllT.early (o := ⟨_, _, _, _, _, _⟩) rfl (fun K hK => ?_) ?_
          · go_simp
            refine hK.out _ _ (HS.out _ (hCg.alloc _)) (fun _ => ?_)
            clear hK K
            try simp only [Act.put, List.setIfInBounds_toArray, List.set_cons_zero, List.set_cons_succ]
            refine AllT.go (rs := [17]) (by kernel_rfl) (by simp) ?_
            refine AllT.late (o := ⟨_, _, _, _, _, _⟩) rfl (by decide) (fun K hK => ?_) ?_
            · go_simp
              refine hK.out _ _ trivial (fun _ => ?_)
              clear hK K
              try simp only [Act.put, List.setIfInBounds_toArray, List.set_cons_zero, List.set_cons_succ]
              refine AnyT.pick (i := 18) (oi := ⟨_, _, _, _, _, _⟩) (v := ?_) rfl (by kernel_rfl) (by kernel_rfl) (by kernel_rfl) (fun _ _ _ h => h) (Or.inl ⟨by rfl, ?y18_16⟩) ?_
              case' y18_16 => ((intro w hSw; go_simp) <;> (with_reducible rfl))
              try simp only [Act.put, List.setIfInBounds_toArray, List.set_cons_zero, List.set_cons_succ]
              refine AnyT.done (by kernel_rfl) ?_ _
              go_wp2_with fail
              go_meet
              exact ⟨wp.heap.size, v', rfl, rfl, hAf _, hr⟩
            exact AllT.nil
          exact AllT.nil
        refine AllT.early (o := ⟨_, _, _, _, _, _⟩) rfl (fun K hK => ?_) ?_
        · go_simp
          refine hK.out _ _ (HS.out _ ((hUd.chg.mono (by simp)).alloc _)) (fun _ => ?_)
          clear hK K
          try simp only [Act.put, List.setIfInBounds_toArray, List.set_cons_zero, List.set_cons_succ]
          have X3 := has3_alloc wd (.int .u8 0) (.int .i64 0) (.string ⟨#[]⟩) 51
          refine AllT.go (rs := [12]) (by kernel_rfl) (by simp) ?_
          refine AllT.early (o := ⟨_, _, _, _, _, _⟩) rfl (fun K hK => ?_) ?_
          · go_simp
            go_at_call 20
            refine (PX.out _ (hUd.alloc _)).mono ?_
            rintro e wp ⟨v', rfl, hAf, hBf, hCg, hr⟩
            refine hK.out _ _ (HS.out _ hCg) (fun _ => ?_)
            clear hK K hHeld
            obtain ⟨hz, hMd⟩ := hBf wd.heap.size _ _ _ hUd.size X3
            clear X3 hBf hAf
            obtain ⟨z0, ⟨z1, z2, z3⟩, ⟨z4, z5, z6⟩⟩ := hz
            try simp only [Act.put, List.setIfInBounds_toArray, List.set_cons_zero, List.set_cons_succ]
            refine AnyT.pick (i := 13) (oi := ⟨_, _, _, _, _, _⟩) (v := ?_) rfl (by kernel_rfl) (by kernel_rfl) (by kernel_rfl) (fun _ _ _ h => h) (Or.inl ⟨by rfl, ?y13_17⟩) ?_
            case' y13_17 => ((intro w hSw; go_simp) <;> (with_reducible rfl))
            try simp only [Act.put, List.setIfInBounds_toArray, List.set_cons_zero, List.set_cons_succ]
            refine AnyT.pick (i := 14) (oi := ⟨_, _, _, _, _, _⟩) (v := ?_) rfl (by kernel_rfl) (by kernel_rfl) (by kernel_rfl) (fun _ _ _ h => h) (Or.inl ⟨by rfl, ?y14_18⟩) ?_
            case' y14_18 => ((intro w hSw; go_simp) <;> (with_reducible rfl))
            try simp only [Act.put, List.setIfInBounds_toArray, List.set_cons_zero, List.set_cons_succ]
            refine AnyT.pick (i := 15) (oi := ⟨_, _, _, _, _, _⟩) (v := ?_) rfl (by kernel_rfl) (by kernel_rfl) (by kernel_rfl) (fun _ _ _ h => h) (Or.inl ⟨by rfl, ?y15_19⟩) ?_
            case' y15_19 => ((intro w hSw; go_simp) <;> (with_reducible rfl))
            try simp only [Act.put, List.setIfInBounds_toArray, List.set_cons_zero, List.set_cons_succ]
            refine AllT.go (rs := [17]) (by kernel_rfl) (by simp) ?_
            refine AllT.late (o := ⟨_, _, _, _, _, _⟩) rfl (by decide) (fun K hK => ?_) ?_
            · go_simp
              refine hK.out _ _ trivial (fun _ => ?_)
              clear hK K
              try simp only [Act.put, List.setIfInBounds_toArray, List.set_cons_zero, List.set_cons_succ]
              refine AnyT.pick (i := 18) (oi := ⟨_, _, _, _, _, _⟩) (v := ?_) rfl (by kernel_rfl) (by kernel_rfl) (by kernel_rfl) (fun _ _ _ h => h) (Or.inl ⟨by rfl, ?y18_20⟩) ?_
              case' y18_20 => ((intro w hSw; go_simp) <;> (with_reducible rfl))
              try simp only [Act.put, List.setIfInBounds_toArray, List.set_cons_zero, List.set_cons_succ]
              refine AnyT.done (by kernel_rfl) ?_ _
              go_wp2_with fail
              go_meet
              exact ⟨wd.heap.size, v', rfl, rfl, hMd, hr⟩
            exact AllT.nil
          exact AllT.nil
        exact AllT.nil
      case rest =>
        obtain ⟨xb, v', rfl, rfl, hM, hr0, hr1⟩ := hcut
        have B2 := Lib.hid (Bk.mid (k := k + i) BB.out hM)
        have hX := hM.xc
        clear PX HS hM
        obtain ⟨x0, ⟨x1, x2, x3⟩, -⟩ := hX
        simp only at x1 x2 x3
        by_cases hre : re = 0
        · subst hre
          obtain ⟨r', o', hv3, hfo'⟩ := hr0 rfl
          cases hv3
          have HN : Hid (R = runR L (bk.take i).reverse P.A P.C (5, (r' : Int), ⟨#[]⟩)) := by
            have h1 := HRR.out.1
            rw [HRR.out.2.2, HRR.out.2.1] at h1
            rw [if_neg (by decide)] at h1
            exact h1
          have HFO := Lib.hid hfo'
          have hw2 : IntKind.i64.wrap ((i : Int) - 1) = (i : Int) - 1 := by rw [IntKind.wrap_i64] <;> omega
          obtain ⟨z0, ⟨z1, z2, z3⟩, ⟨z4, z5, z6⟩⟩ := B2.out.c5
          clear hr0 hr1 hfo'
          go_wp2_with fail
          go_roundw
          case rel => exact ⟨i, r', (i : Int) - 1, v', P.A, P.C, o', by omega, rfl, rfl, HN.out, HFO.out, by rw [show ((bk.length - i : Nat) : Int) = (bk.length - (i + 1) : Nat) + 1 by omega, ← Int.add_assoc]; exact B2.out.set5⟩
          case measure => simp [intOf]
        · have hv3 := hr1 hre
          cases hv3
          have hreb : (re == 0) = false := by simpa using hre
          have HN : Hid (R = P ∧ P.v = zero3 ∧ P.e = re) := by
            have h1 := HRR.out.1
            have h2 : ¬ P.e = 0 := by rw [HRR.out.2.2]; exact hre
            rw [if_pos h2] at h1
            exact ⟨h1, HRR.out.2.1, HRR.out.2.2⟩
          obtain ⟨z0, ⟨z1, z2, z3⟩, ⟨z4, z5, z6⟩⟩ := B2.out.c6
          clear hr0 hr1
          go_wp2_with fail
          obtain ⟨f1, f2, f3⟩ := B2.out.fin (.int .u8 0) (.int .i64 0) (.string ⟨#[]⟩)
          obtain ⟨-, ⟨q1, q2, q3⟩, -⟩ := Has3.store B2.out.c6 (.int .u8 0) (.int .i64 0) (.string ⟨#[]⟩)
          refine bodyPost_ret (v := .tuple #[.agg #[.int .u8 0, .int .i64 0, .string ⟨#[]⟩], .int .i64 re]) (by simp [results, Tryz.results22, go_sem, q1, q2, q3]) rfl ?_
          rw [HN.out.1, HN.out.2.1, HN.out.2.2]
          exact ⟨v', rfl, f1.less (by omega) (by omega), f2, f3, fun hh => absurd hh hre, fun _ => rfl⟩
end Go.Proofs.YtmmfpkkkpeapeaaGreatDoor.mb

/- FrameBacks: two worlds that are made alike: plain laws. -/
set_option linter.unusedVariables false
namespace Go.Proofs.YtmmfpkkkpeapeaaGreatDoor.mb
open Go.RowKit Go.Maps mem rec ar
set_option maxHeartbeats 400000
structure FW where
  wb : Nat
  p : Nat
  cb : Nat
  lv : Value
  v : Nat → Value
  A : Ar
  C : Ca
def FW.ok (x : FW) (w : World) (L : List Mb) (k : Nat) (d : Int) : Prop := Fw w x.wb x.p x.cb x.lv x.v x.A x.C L k d
def FW.ft (x : FW) : List Nat := ftF x.wb x.p x.cb x.lv x.v
/-- The two worlds; the blocks of the variables worlds (s7) and start (s8). -/
structure Two (w0 w : World) (s7 s8 r0 : Nat) (x y : FW) (L : List Mb) (k j : Nat) (d e : Int) : Prop where
  fx : x.ok w L k d
  fy : y.ok w L j e
  dj : ∀ b ∈ x.ft, b ∉ y.ft
  c7 : w.cell? ⟨s7, 0, none⟩ = some (.pointer (some ⟨x.wb, 0, none⟩)) ∧ w.cell? ⟨s7, 1, none⟩ = some (.pointer (some ⟨y.wb, 0, none⟩))
  l7 : s7 < w.heap.size ∧ s7 ∉ x.ft ∧ s7 ∉ y.ft ∧ w0.heap.size ≤ s7
  c8 : Has3 w s8 (.int .u8 5) (.int .i64 (r0 : Int)) (.string ⟨#[]⟩)
  l8 : s8 ∉ x.ft ∧ s8 ∉ y.ft ∧ s8 ≠ s7 ∧ w0.heap.size ≤ s8
  frx : ∀ b ∈ x.ft, w0.heap.size ≤ b
  fry : ∀ b ∈ y.ft, w0.heap.size ≤ b
  bel : Up w0 w
section
variable {w0 w w1 wx : World} {s7 s8 r0 k j : Nat} {x y x1 y1 : FW} {L : List Mb} {d e : Int}
theorem Two.chg {F : List Nat} (h : Two w0 w s7 s8 r0 x y L k j d e) (c : Chg F w w1) (hx : ∀ b ∈ x.ft, b ∉ F) (hy : ∀ b ∈ y.ft, b ∉ F) (h7 : s7 ∉ F) (h8 : s8 ∉ F) (h0 : ∀ b ∈ F, w0.heap.size ≤ b) : Two w0 w1 s7 s8 r0 x y L k j d e :=
  ⟨Fw.chg h.fx c hx, Fw.chg h.fy c hy, h.dj, ⟨(c.cell h.l7.1 h7).trans h.c7.1, (c.cell h.l7.1 h7).trans h.c7.2⟩, ⟨Nat.lt_of_lt_of_le h.l7.1 c.size, h.l7.2⟩, has3_chg h.c8 c h8, h.l8, h.frx, h.fry, Below.trans h.bel (c.below h.bel.size h0)⟩
theorem Two.up (h : Two w0 w s7 s8 r0 x y L k j d e) (u : Up w w1) : Two w0 w1 s7 s8 r0 x y L k j d e := h.chg u.chg (by simp) (by simp) (by simp) (by simp) (by simp)
theorem sub_ft {wb p cb : Nat} {lv : Value} {v : Nat → Value} : ∀ b ∈ cb :: foot p v, b ∈ ftF wb p cb lv v := fun b hb => mem_ftF.2 (.inr (.inr hb))
/-- The first world has turned by itself. -/
theorem Two.left {k1 : Nat} {d1 : Int} (h : Two w0 w s7 s8 r0 x y L k j d e) {v1 : Nat → Value} {A1 : Ar} {C1 : Ca} (f : Fw w1 x.wb x.p x.cb x.lv v1 A1 C1 L k1 d1) (c : Chg (x.cb :: foot x.p x.v) w w1) (fb : ∀ b ∈ foot x.p v1, b ∈ foot x.p x.v ∨ w.heap.size ≤ b) : Two w0 w1 s7 s8 r0 { x with v := v1, A := A1, C := C1 } y L k1 j d1 e := by
  have z := h.bel.size
  have nx : ∀ b, b < w.heap.size → b ∉ x.ft → b ∉ ftF x.wb x.p x.cb x.lv v1 := fun b hb hn => ft_new fb hb hn
  have old : ∀ b ∈ ftF x.wb x.p x.cb x.lv v1, b ∈ x.ft ∨ w.heap.size ≤ b := fun b hb => by
    by_cases hl : b < w.heap.size
    · by_cases hn : b ∈ x.ft
      · exact .inl hn
      · exact absurd hb (nx b hl hn)
    · exact .inr (by omega)
  refine ⟨f, Fw.chg h.fy c (fun b hb hx => h.dj b (sub_ft b hx) hb), fun b hb hy => ?_, ⟨(c.cell h.l7.1 (fun hx => h.l7.2.1 (sub_ft _ hx))).trans h.c7.1, (c.cell h.l7.1 (fun hx => h.l7.2.1 (sub_ft _ hx))).trans h.c7.2⟩, ⟨Nat.lt_of_lt_of_le h.l7.1 c.size, nx s7 h.l7.1 h.l7.2.1, h.l7.2.2⟩, has3_chg h.c8 c (fun hx => h.l8.1 (sub_ft _ hx)), ⟨nx s8 h.c8.1 h.l8.1, h.l8.2⟩, fun b hb => ?_, h.fry, Below.trans h.bel (c.below z (fun b hb => h.frx b (sub_ft b hb)))⟩
  · rcases old b hb with h1 | h1
    · exact h.dj b h1 hy
    · have := Fw.lt h.fy b hy; omega
  · rcases old b hb with h1 | h1
    · exact h.frx b h1
    · omega
theorem Two.right {k1 : Nat} {d1 : Int} (h : Two w0 w s7 s8 r0 x y L k j d e) {v1 : Nat → Value} {A1 : Ar} {C1 : Ca} (f : Fw w1 y.wb y.p y.cb y.lv v1 A1 C1 L k1 d1) (c : Chg (y.cb :: foot y.p y.v) w w1) (fb : ∀ b ∈ foot y.p v1, b ∈ foot y.p y.v ∨ w.heap.size ≤ b) : Two w0 w1 s7 s8 r0 x { y with v := v1, A := A1, C := C1 } L k k1 d d1 := by
  have z := h.bel.size
  have nx : ∀ b, b < w.heap.size → b ∉ y.ft → b ∉ ftF y.wb y.p y.cb y.lv v1 := fun b hb hn => ft_new fb hb hn
  have old : ∀ b ∈ ftF y.wb y.p y.cb y.lv v1, b ∈ y.ft ∨ w.heap.size ≤ b := fun b hb => by
    by_cases hl : b < w.heap.size
    · by_cases hn : b ∈ y.ft
      · exact .inl hn
      · exact absurd hb (nx b hl hn)
    · exact .inr (by omega)
  refine ⟨Fw.chg h.fx c (fun b hb hx => h.dj b hb (sub_ft b hx)), f, fun b hb hy => ?_, ⟨(c.cell h.l7.1 (fun hx => h.l7.2.2.1 (sub_ft _ hx))).trans h.c7.1, (c.cell h.l7.1 (fun hx => h.l7.2.2.1 (sub_ft _ hx))).trans h.c7.2⟩, ⟨Nat.lt_of_lt_of_le h.l7.1 c.size, h.l7.2.1, nx s7 h.l7.1 h.l7.2.2.1, h.l7.2.2.2⟩, has3_chg h.c8 c (fun hx => h.l8.2.1 (sub_ft _ hx)), ⟨h.l8.1, nx s8 h.c8.1 h.l8.2.1, h.l8.2.2⟩, h.frx, fun b hb => ?_, Below.trans h.bel (c.below z (fun b hb => h.fry b (sub_ft b hb)))⟩
  · rcases old b hy with h1 | h1
    · exact h.dj b hb h1
    · have := Fw.lt h.fx b hb; omega
  · rcases old b hb with h1 | h1
    · exact h.fry b h1
    · omega
end
/-- A membrane dies. -/
def kill (L : List Mb) (m : Nat) : List Mb := match L[m]? with | some s => L.set m (s.1, s.2.1, true) | none => L
theorem flat3_set : ∀ (l : List Mb) (n : Nat) (s : Mb), l[n]? = some s → (l.flatMap cellsM).set (n * 3 + 2) (.bool true) = (l.set n (s.1, s.2.1, true)).flatMap cellsM
  | [], n, s, h => by simp at h
  | a :: l, 0, s, h => by
    simp at h; subst h
    rfl
  | a :: l, n + 1, s, h => by
    simp at h
    have ih := flat3_set l n s h
    rw [List.set_cons_succ, List.flatMap_cons, List.flatMap_cons, ← ih, List.set_append_right _ _ (by show 3 ≤ _; omega), show (cellsM a).length = 3 from rfl, show (n + 1) * 3 + 2 - 3 = n * 3 + 2 by omega]
theorem kill_len (L : List Mb) (m : Nat) : (kill L m).length = L.length := by
  unfold kill
  split <;> simp
theorem kill_side {L : List Mb} (m : Nat) (sd : ∀ m ∈ L, (0 ≤ m.1 ∧ m.1 < 4) ∧ (0 ≤ m.2.1 ∧ m.2.1 < 4)) : ∀ x ∈ kill L m, (0 ≤ x.1 ∧ x.1 < 4) ∧ (0 ≤ x.2.1 ∧ x.2.1 < 4) := by
  unfold kill
  split
  · rename_i s hs
    intro x hx
    rcases List.mem_or_eq_of_mem_set hx with h1 | h1
    · exact sd x h1
    · rw [h1]; exact sd s (List.mem_of_getElem? hs)
  · exact sd
/-- A world of records alone is a net of whatever membranes. -/
theorem Fw.kill {w : World} {wb p cb k m lb lc : Nat} {v : Nat → Value} {bs : List Nat} {L : List Mb} {d : Int} (h : Fw w wb p cb (.slice (some ⟨lb, 0, none⟩) L.length lc) v (mk4 bs) none2 L k d) (hb : bs.length = 4) (hd : 0 ≤ d) (hm : m < L.length) :
    Fw (w.setCell ⟨lb, m * 3 + 2, none⟩ (.bool true)) wb p cb (.slice (some ⟨lb, 0, none⟩) L.length lc) v (mk4 bs) none2 (mb.kill L m) k d ∧ Chg [lb] w (w.setCell ⟨lb, m * 3 + 2, none⟩ (.bool true)) := by
  obtain ⟨s, hs⟩ : ∃ s, L[m]? = some s := ⟨_, List.getElem?_eq_getElem hm⟩
  have C : Chg [lb] w (w.setCell ⟨lb, m * 3 + 2, none⟩ (.bool true)) := (Chg.refl [lb] w).setCell (p := ⟨lb, m * 3 + 2, none⟩) (.inl (by simp)) _
  obtain ⟨h1, h2⟩ := h.nl lb rfl
  have n1 : ∀ b ∈ cb :: foot p v, b ∉ [lb] := fun b hb hx => h1 (by rw [← List.mem_singleton.1 hx]; exact hb)
  obtain ⟨r1, -⟩ := World.ownsRow.stored h.row (m * 3 + 2) (.bool true)
  have e : mb.kill L m = L.set m (s.1, s.2.1, true) := by unfold mb.kill; rw [hs]
  have W := h.wr.chg C n1
  refine ⟨⟨h.hd.chg C (fun hx => h2 (List.mem_singleton.1 hx).symm), ⟨W.pt, W.rm, W.qu, W.ow, W.cn, (net4 bs (by omega) _).less hd⟩, ?_, kill_side m h.sd, by rw [kill_len]; exact h.lp, h.nw, h.nl⟩, C⟩
  rw [kill_len, e, ← flat3_set L m s hs]
  exact r1
end Go.Proofs.YtmmfpkkkpeapeaaGreatDoor.mb

/- WrapPasses: what the list of things says of the arena; what Pass answers by it: plain. -/
set_option linter.unusedVariables false
namespace Go.Proofs.YtmmfpkkkpeapeaaGreatDoor.wy
open Go.RowKit Go.Maps mem rec ar mb
set_option maxHeartbeats 400000
/-- A thing is what its object is. -/
def IsTh (t : Th) (o : Ob) : Prop := o.owner = t.owner ∧ o.deep = t.deep ∧ ((o.kind ≠ 6 ∧ t.m = -1) ∨ (o.kind = 6 ∧ o.membrane = t.m ∧ 0 ≤ t.m ∧ o.target = (t.target : Int)))
structure Ths (A : Ar) (T : List Th) : Prop where
  ob : ∀ t ∈ T, ∃ o, A.find t.r = some o ∧ IsTh t o
  all_ : ∀ r o, A.find r = some o → ∃ t ∈ T, t.r = r
  dp : ∀ t ∈ T, 0 ≤ t.deep ∧ t.deep ≤ 6
  ow : ∀ t ∈ T, 0 ≤ t.owner ∧ t.owner < 4
section
variable {A : Ar} {C : Ca} {L : List Mb} {T : List Th} {d : Int} {k : Nat}
theorem hit_of (h : Ths A T) (hn : Net A C L d) {m : Int} (hm : 0 ≤ m) {r : Nat} {t : Th} (ht : t ∈ T) (hh : hitT m r t = true) : C m r = some t.r := by
  have e : t.m = m ∧ t.target = r := of_decide_eq_true hh
  obtain ⟨o, ho, h1, h2, h3⟩ := h.ob t ht
  rcases h3 with ⟨-, h4⟩ | ⟨k6, h4, h5, h6⟩
  · omega
  · obtain ⟨u, o', g1, g2, g3, g4, g5⟩ := hn.px t.r o ho k6
    have e2 : u = r := by have := g1.symm.trans h6; omega
    rw [e2, h4, e.1] at g5
    exact g5
theorem nohit_of (h : Ths A T) (hn : Net A C L d) {m : Int} {r : Nat} (hh : ∀ t ∈ T, hitT m r t = false) : C m r = none := by
  cases hc : C m r with
  | none => rfl
  | some p =>
    obtain ⟨o, o', g1, g2, g3, g4, g5⟩ := hn.ca m r p hc
    obtain ⟨t, ht, e⟩ := h.all_ p o g1
    obtain ⟨o2, ho, h1, h2, h3⟩ := h.ob t ht
    rw [e, g1] at ho
    cases ho
    have hf := hh t ht
    rcases h3 with ⟨h4, -⟩ | ⟨-, h4, h5, h6⟩
    · exact absurd g3 h4
    · have : hitT m r t = true := decide_eq_true ⟨by rw [← h4, g4], by have := h6.symm.trans g5; omega⟩
      rw [this] at hf
      cases hf
/-- What Pass answers for a thing. -/
def ansT (L : List Mb) (C : Ca) (A : Ar) (m into : Int) (x : Th) : Res :=
  match otherR L m into with
  | none => ⟨zero3, 4, A, C⟩
  | some from_ =>
    if deadR L m = true then ⟨zero3, 12, A, C⟩ else
    if x.owner ≠ from_ then ⟨zero3, 17, A, C⟩ else
    if x.m = m then ⟨(5, (x.target : Int), ⟨#[]⟩), 0, A, C⟩ else
    match C m x.r with
    | some p => ⟨(5, (p : Int), ⟨#[]⟩), 0, A, C⟩
    | none => if x.deep = 6 then ⟨zero3, 14, A, C⟩ else ⟨(5, (A.name : Int), ⟨#[]⟩), 0, A.add (proxyOb into m x.r (x.deep + 1)), C.put m x.r A.name⟩
theorem pass_ans (h : Ths A T) {m into : Int} (hm : 0 ≤ m) {x : Th} (hx : x ∈ T) : passR A C L false m into (5, (x.r : Int), ⟨#[]⟩) = ansT L C A m into x := by
  obtain ⟨o, ho, h1, h2, h3⟩ := h.ob x hx
  obtain ⟨d0, d6⟩ := h.dp x hx
  unfold passR ansT
  rw [show (((5, (x.r : Int), ⟨#[]⟩) : V3).2.1).toNat = x.r from rfl]
  cases hot : otherR L m into with
  | none => rfl
  | some from_ =>
    simp only
    cases hd : deadR L m
    · rw [if_neg (by decide), if_neg (by decide), if_neg (by decide), ho]
      simp only
      rw [h1, h2]
      by_cases e1 : x.owner = from_
      · have n1 : ¬ (x.owner ≠ from_) := fun h => h e1
        rw [if_neg n1, if_neg n1]
        by_cases e2 : x.m = m
        · rcases h3 with ⟨-, h4⟩ | ⟨k6, h4, h5, h6⟩
          · omega
          · rw [if_pos ⟨k6, h4.trans e2⟩, if_pos e2, h6]
        · have e3 : ¬ (o.kind = 6 ∧ o.membrane = m) := by
            rintro ⟨a, b⟩
            rcases h3 with ⟨h4, -⟩ | ⟨-, h4, -, -⟩
            · exact h4 a
            · exact e2 (h4.symm.trans b)
          rw [if_neg e3, if_neg e2]
          cases hc : C m x.r with
          | some p => rfl
          | none =>
            simp only
            by_cases e4 : x.deep = 6
            · rw [if_pos (show 6 ≤ x.deep by omega), if_pos e4]
            · rw [if_neg (show ¬ 6 ≤ x.deep by omega), if_neg e4, if_neg (show ¬ (false = true) by decide)]
      · have n1 : x.owner ≠ from_ := e1
        rw [if_pos n1, if_pos n1]
    · rw [if_pos rfl, if_pos rfl]
/-- A proxy more is a thing more. -/
theorem Ths.add (h : Ths A T) (hR : Room A (k + 1)) {into m : Int} (hi : 0 ≤ into ∧ into < 4) (hm : 0 ≤ m) {x : Th} (hx : x ∈ T) (h6 : x.deep ≠ 6) : Ths (A.add (proxyOb into m x.r (x.deep + 1))) (T ++ [⟨A.name, into, m, x.r, x.deep + 1⟩]) := by
  obtain ⟨d0, d6⟩ := h.dp x hx
  refine ⟨fun t ht => ?_, fun r o hf => ?_, fun t ht => ?_, fun t ht => ?_⟩
  · rcases List.mem_append.1 ht with ht | ht
    · obtain ⟨o, ho, h1⟩ := h.ob t ht
      exact ⟨o, find_add_old hR _ ho, h1⟩
    · have e := List.mem_singleton.1 ht
      subst e
      exact ⟨_, find_add_new hR _, rfl, rfl, .inr ⟨rfl, rfl, hm, rfl⟩⟩
  · rcases find_add_inv hR _ hf with ⟨rfl, rfl⟩ | h0
    · exact ⟨_, List.mem_append.2 (.inr (List.mem_singleton.2 rfl)), rfl⟩
    · obtain ⟨t, ht, e⟩ := h.all_ r o h0
      exact ⟨t, List.mem_append.2 (.inl ht), e⟩
  · rcases List.mem_append.1 ht with ht | ht
    · exact h.dp t ht
    · have e := List.mem_singleton.1 ht
      subst e
      show 0 ≤ x.deep + 1 ∧ x.deep + 1 ≤ 6
      omega
  · rcases List.mem_append.1 ht with ht | ht
    · exact h.ow t ht
    · have e := List.mem_singleton.1 ht
      subst e
      exact hi
theorem Ths.new (h : Ths A T) (hR : Room A (k + 1)) : ∀ t ∈ T, t.r ≠ A.name := fun t ht => by
  obtain ⟨o, ho, -⟩ := h.ob t ht
  exact name_ne hR ho
/-- The four that there are at first. -/
def four : List Th := (List.range 4).map fun i => ⟨4294967296 + i, (i : Int), -1, 0, 0⟩
theorem Ths.start {bs : List Nat} (hb : bs.length = 4) : Ths (mk4 bs) four := by
  have mem : ∀ t ∈ four, ∃ i, i < 4 ∧ t = ⟨4294967296 + i, (i : Int), -1, 0, 0⟩ := fun t ht => by
    obtain ⟨i, hi, rfl⟩ := List.mem_map.1 ht
    exact ⟨i, List.mem_range.1 hi, rfl⟩
  refine ⟨fun t ht => ?_, fun r o hf => ?_, fun t ht => ?_, fun t ht => ?_⟩
  · obtain ⟨i, hi, rfl⟩ := mem t ht
    exact ⟨_, find4_at (by omega) (List.getElem?_eq_getElem (by omega)), rfl, rfl, .inl ⟨by show (0 : Int) ≠ 6; decide, rfl⟩⟩
  · obtain ⟨i, b, h1, rfl, -⟩ := find4 (by omega) hf
    have := (List.getElem?_eq_some_iff.1 h1).1
    exact ⟨_, List.mem_map.2 ⟨i, List.mem_range.2 (by omega), rfl⟩, rfl⟩
  · obtain ⟨i, hi, rfl⟩ := mem t ht
    show (0 : Int) ≤ 0 ∧ (0 : Int) ≤ 6
    decide
  · obtain ⟨i, hi, rfl⟩ := mem t ht
    show (0 : Int) ≤ (i : Int) ∧ (i : Int) < 4
    omega
/-! ### a membrane dies -/
theorem kill_at (L : List Mb) (m i : Nat) : (mb.kill L m)[i]? = if i = m then L[i]?.map (fun s => (s.1, s.2.1, true)) else L[i]? := by
  unfold mb.kill
  cases hs : L[m]? with
  | none =>
    simp only
    by_cases e : i = m
    · subst e; rw [if_pos rfl, hs]; rfl
    · rw [if_neg e]
  | some s =>
    simp only
    by_cases e : i = m
    · subst e
      rw [if_pos rfl, hs, List.getElem?_set_self (List.getElem?_eq_some_iff.1 hs).1]
      rfl
    · rw [if_neg e, List.getElem?_set_ne (fun h => e h.symm)]
theorem kill_other (L : List Mb) (m : Nat) (x y : Int) : otherR (mb.kill L m) x y = otherR L x y := by
  unfold otherR mbAt
  by_cases h0 : 0 ≤ x
  · rw [if_pos h0, if_pos h0, kill_at]
    by_cases e : x.toNat = m
    · rw [if_pos e]
      cases L[x.toNat]? <;> rfl
    · rw [if_neg e]
  · rw [if_neg h0, if_neg h0]
theorem Net.kill (h : Net A C L d) (m : Nat) : Net A C (mb.kill L m) d :=
  ⟨fun r o hf hk => by
    obtain ⟨t, o', h1, h2, h3, h4, h5⟩ := h.px r o hf hk
    exact ⟨t, o', h1, h2, (kill_other L m _ _).trans h3, h4, h5⟩, h.ca, h.dp⟩
end
end Go.Proofs.YtmmfpkkkpeapeaaGreatDoor.wy

/- A membrane of palinglaw15.W dies: its row and the row of truths; plain. -/
set_option linter.unusedVariables false
namespace Go.Proofs.YtmmfpkkkpeapeaaGreatDoor.wy
open Go.RowKit Go.Maps mem rec ar mb
set_option maxHeartbeats 400000
theorem kill_set {L : List Mb} {m : Nat} {s : Mb} (hs : L[m]? = some s) : mb.kill L m = L.set m (s.1, s.2.1, true) := by unfold mb.kill; rw [hs]
theorem map_kill (L : List Mb) (m : Nat) : (mb.kill L m).map (fun x => Value.bool x.2.2) = (L.map fun x => Value.bool x.2.2).set m (.bool true) := by
  apply List.ext_getElem?
  intro i
  rw [List.getElem?_map, kill_at, List.getElem?_set]
  by_cases e : i = m
  · subst e
    rw [if_pos rfl, if_pos rfl]
    cases h : L[i]? with
    | none =>
      have : ¬ i < (L.map fun x => Value.bool x.2.2).length := by
        have := List.getElem?_eq_none_iff.1 h
        simp; omega
      rw [if_neg this]
      rfl
    | some s =>
      have : i < (L.map fun x => Value.bool x.2.2).length := by
        have := (List.getElem?_eq_some_iff.1 h).1
        simp; omega
      rw [if_pos this]
      rfl
  · rw [if_neg e, if_neg (fun h => e h.symm), List.getElem?_map]
theorem sides_kill : ∀ (L : List Mb) (m : Nat), (mb.kill L m).flatMap (fun x => [Value.int .i64 x.1, Value.int .i64 x.2.1]) = L.flatMap (fun x => [Value.int .i64 x.1, Value.int .i64 x.2.1])
  | [], m => by simp [mb.kill]
  | a :: l, 0 => by simp [mb.kill]
  | a :: l, m + 1 => by
    have ih := sides_kill l m
    have e : mb.kill (a :: l) (m + 1) = a :: mb.kill l m := by
      unfold mb.kill
      rw [List.getElem?_cons_succ]
      cases l[m]? <;> rfl
    rw [e, List.flatMap_cons, List.flatMap_cons, ih]
section
variable {w0 w w1 : World} {q p cb k : Nat} {vr v : Nat → Value} {A : Ar} {C : Ca} {L : List Mb} {d : Int}
theorem St.die (h : St w0 w q p cb vr v A C L k d) {m g0 c0 g3 c3 : Nat} (e0 : vr 0 = .slice (some ⟨g0, 0, none⟩) L.length c0) (e3 : vr 3 = .slice (some ⟨g3, 0, none⟩) L.length c3) (c : Chg [g0, g3] w w1)
    (o0 : w1.ownsRow 0 (rT 0) (rS 0) (vr 0) L.length ((mb.kill L m).flatMap cellsM)) (o3 : w1.ownsRow 0 (rT 3) (rS 3) (vr 3) L.length ((mb.kill L m).map (fun x => Value.bool x.2.2))) : St w0 w1 q p cb vr v A C (mb.kill L m) k d := by
  have b0 : (vr 0).ownBlock = some g0 := by rw [e0]; rfl
  have b3 : (vr 3).ownBlock = some g3 := by rw [e3]; rfl
  have f0 : g0 ∈ foot q vr := foot_i (by omega : 0 < 4) b0
  have f3 : g3 ∈ foot q vr := foot_i (by omega : 3 < 4) b3
  have nq : q ∉ [g0, g3] := by
    intro hx
    rcases List.mem_cons.1 hx with h1 | h1
    · exact h.rw_.pp 0 (by omega) (by rw [b0, h1])
    · exact h.rw_.pp 3 (by omega) (by rw [b3, List.mem_singleton.1 h1])
  have apart : ∀ i, i < 4 → i ≠ 0 → i ≠ 3 → ∀ b, (vr i).ownBlock = some b → b ∉ [g0, g3] := by
    intro i hi n0 n3 b hb hx
    rcases List.mem_cons.1 hx with h1 | h1
    · exact n0 (h.rw_.ap i 0 g0 hi (by omega) (by rw [hb, h1]) b0)
    · exact n3 (h.rw_.ap i 3 g3 hi (by omega) (by rw [hb, List.mem_singleton.1 h1]) b3)
  have n2 : ∀ b ∈ cb :: foot p v, b ∉ [g0, g3] := fun b hb hx => by
    rcases List.mem_cons.1 hx with h1 | h1
    · exact h.dj g0 f0 (by rw [← h1]; exact hb)
    · exact h.dj g3 f3 (by rw [← List.mem_singleton.1 h1]; exact hb)
  have W := h.wr.chg c n2
  refine ⟨⟨h.rw_.hd.chg c nq, fun i hi => ?_, h.rw_.ap, h.rw_.pp⟩, ⟨W.pt, W.rm, W.qu, W.ow, W.cn, Net.kill h.wr.nt m⟩, h.dj, h.f1, h.f2, kill_side m h.sd, Below.trans h.bel (c.below h.bel.size (fun b hb => ?_))⟩
  · rcases (by omega : i = 0 ∨ i = 1 ∨ i = 2 ∨ i = 3) with rfl | rfl | rfl | rfl
    · rw [kill_len]; exact o0
    · rw [kill_len]; exact owns_chg (h.rw_.ow 1 hi) c (apart 1 hi (by decide) (by decide))
    · rw [kill_len]
      have h2 := owns_chg (h.rw_.ow 2 hi) c (apart 2 hi (by decide) (by decide))
      rw [show rowW (mb.kill L m) 4 2 = rowW L 4 2 from sides_kill L m]
      exact h2
    · rw [kill_len]; exact o3
  · rcases List.mem_cons.1 hb with h1 | h1
    · rw [h1]; exact h.f1 g0 f0
    · rw [List.mem_singleton.1 h1]; exact h.f1 g3 f3
theorem St.die_a (h : St w0 w q p cb vr v A C L k d) {m g0 c0 g3 c3 : Nat} (e0 : vr 0 = .slice (some ⟨g0, 0, none⟩) L.length c0) (e3 : vr 3 = .slice (some ⟨g3, 0, none⟩) L.length c3) (hm : m < L.length) :
    St w0 ((w.setCell ⟨g0, m * 3 + 2, none⟩ (.bool true)).setCell ⟨g3, m, none⟩ (.bool true)) q p cb vr v A C (mb.kill L m) k d ∧ St w0 ((w.setCell ⟨g3, m, none⟩ (.bool true)).setCell ⟨g0, m * 3 + 2, none⟩ (.bool true)) q p cb vr v A C (mb.kill L m) k d := by
  obtain ⟨s, hs⟩ : ∃ s, L[m]? = some s := ⟨_, List.getElem?_eq_getElem hm⟩
  have b0 : (vr 0).ownBlock = some g0 := by rw [e0]; rfl
  have b3 : (vr 3).ownBlock = some g3 := by rw [e3]; rfl
  have g03 : g0 ≠ g3 := by
    intro e
    have := h.rw_.ap 0 3 g0 (by omega) (by omega) b0 (by rw [b3, e])
    omega
  have s0 : ∀ wx : World, Chg [g0] wx (wx.setCell ⟨g0, m * 3 + 2, none⟩ (.bool true)) := fun wx => (Chg.refl [g0] wx).setCell (p := ⟨g0, m * 3 + 2, none⟩) (.inl (by simp)) _
  have s3 : ∀ wx : World, Chg [g3] wx (wx.setCell ⟨g3, m, none⟩ (.bool true)) := fun wx => (Chg.refl [g3] wx).setCell (p := ⟨g3, m, none⟩) (.inl (by simp)) _
  have r0 : w.ownsRow 0 (rT 0) (rS 0) (vr 0) L.length (L.flatMap cellsM) := h.rw_.ow 0 (by omega)
  have r3 : w.ownsRow 0 (rT 3) (rS 3) (vr 3) L.length (L.map fun x => Value.bool x.2.2) := h.rw_.ow 3 (by omega)
  have put0 : ∀ wx : World, wx.ownsRow 0 (rT 0) (rS 0) (vr 0) L.length (L.flatMap cellsM) → (wx.setCell ⟨g0, m * 3 + 2, none⟩ (.bool true)).ownsRow 0 (rT 0) (rS 0) (vr 0) L.length ((mb.kill L m).flatMap cellsM) := fun wx hx => by
    rw [e0] at hx ⊢
    obtain ⟨r1, -⟩ := World.ownsRow.stored hx (m * 3 + 2) (.bool true)
    rw [kill_set hs, ← flat3_set L m s hs]
    exact r1
  have put3 : ∀ wx : World, wx.ownsRow 0 (rT 3) (rS 3) (vr 3) L.length (L.map fun x => Value.bool x.2.2) → (wx.setCell ⟨g3, m, none⟩ (.bool true)).ownsRow 0 (rT 3) (rS 3) (vr 3) L.length ((mb.kill L m).map fun x => Value.bool x.2.2) := fun wx hx => by
    rw [e3] at hx ⊢
    obtain ⟨r1, -⟩ := World.ownsRow.stored hx m (.bool true)
    rw [map_kill]
    exact r1
  constructor
  · exact St.die h e0 e3 (((s0 w).mono (by simp)).trans (s3 _) (fun x hx => .inl (by rw [List.mem_singleton.1 hx]; simp)))
      (owns_chg (put0 w r0) (s3 _) (fun b hb => by rw [b0] at hb; cases hb; simpa using g03))
      (put3 _ (owns_chg r3 (s0 w) (fun b hb => by rw [b3] at hb; cases hb; simpa using fun e => g03 e.symm)))
  · exact St.die h e0 e3 (((s3 w).mono (by simp)).trans (s0 _) (fun x hx => .inl (by rw [List.mem_singleton.1 hx]; simp)))
      (put0 _ (owns_chg r0 (s3 w) (fun b hb => by rw [b0] at hb; cases hb; simpa using g03)))
      (owns_chg (put3 w r3) (s0 _) (fun b hb => by rw [b3] at hb; cases hb; simpa using fun e => g03 e.symm))
end
end Go.Proofs.YtmmfpkkkpeapeaaGreatDoor.wy

/- WrapPasses: IndexFunc and ContainsFunc over things: walked. -/
set_option linter.unusedVariables false
set_option linter.unusedSimpArgs false
namespace Go.Proofs.YtmmfpkkkpeapeaaGreatDoor.wy
open Go.RowKit Go.Maps mem rec ar mb
attribute [local go_sem ↓] Go.wp_at_zero Go.wp_at_succ
set_option maxRecDepth 100000
set_option maxHeartbeats 1000000
theorem other_x (t : Th) (b16 : Nat) (r : Nat) (w : World) (h16 : w.cell? ⟨b16, 0, none⟩ = some (.int .u8 5) ∧ w.cell? ⟨b16, 1, none⟩ = some (.int .i64 (r : Int)) ∧ w.cell? ⟨b16, 2, none⟩ = some (.string ⟨#[]⟩)) (hne : t.r ≠ r) (hr : r < 9223372036854775808) :
    Calls Tryz.prog 17 #[.agg #[.int .u64 (t.r : Int), .int .i64 t.owner, .int .i64 t.m, .int .u64 (t.target : Int), .int .i64 t.deep], .pointer (some ⟨b16, 0, none⟩)] w fun e w' => e = .returned (.bool false) ∧ Up w w' := by
  obtain ⟨tr, towner, tm, ttarget, tdeep⟩ := t
  simp only at hne ⊢
  obtain ⟨c0, c1, c2⟩ := h16
  have hp := World.block_lt_of_cell? w _ c0
  simp only at hp
  have np : b16 ≠ w.heap.size := by omega
  have z : ((tr : Int) == (r : Int)) = false := beq_eq_false_iff_ne.2 (by omega)
  have z2 : decide ((tr : Int) = (r : Int)) = false := decide_eq_false (by omega)
  clear hne
  go_enter Tryz.func17, Tryz.ntmps17
  go_upto_region 1 with (fail)
  have hB := Blk.new w #[.int .u64 (tr : Int), .int .i64 towner, .int .i64 tm, .int .u64 (ttarget : Int), .int .i64 tdeep] 43
  have hU : Up w (w.alloc (.cells #[.int .u64 (tr : Int), .int .i64 towner, .int .i64 tm, .int .u64 (ttarget : Int), .int .i64 tdeep] 43)) := (Below.refl _ w).alloc (Nat.le_refl _) _
  generalize World.alloc w _ = wa at hB hU ⊢
  generalize w.heap.size = b2 at hB np ⊢
  have d0 : ∀ x : sb.Wd wa, x.w.cell? ⟨b2, 0, none⟩ = some (.int .u64 (tr : Int)) := fun x => up_cell x.up (hB.cell 0)
  have e0 : ∀ x : sb.Wd wa, x.w.cell? ⟨b16, 0, none⟩ = some (.int .u8 5) := fun x => up_cell x.up (up_cell hU c0)
  have e1 : ∀ x : sb.Wd wa, x.w.cell? ⟨b16, 1, none⟩ = some (.int .i64 (r : Int)) := fun x => up_cell x.up (up_cell hU c1)
  have e2 : ∀ x : sb.Wd wa, x.w.cell? ⟨b16, 2, none⟩ = some (.string ⟨#[]⟩) := fun x => up_cell x.up (up_cell hU c2)
  have HU := Lib.hid hU
  clear c0 c1 c2 hB hU hp np
  refine sb.wp_region_up (by kernel_rfl) (by kernel_rfl) ?_
  repeat (go_big_quiet_step ((go_at_call 15; rename_i xq; refine (ref_x r hr _ _).mono ?_; rintro e w2 ⟨rfl, rfl⟩; exact ⟨rfl, ⟨_, xq.up.alloc _⟩, rfl⟩)))
  refine wpQuiet_nil ?_
  intro _ hw'
  obtain ⟨xq, rfl⟩ := hw'
  go_wp2_with fail
  go_ret
  exact ⟨rfl, Below.trans HU.out (Below.mono xq.up HU.out.size)⟩
theorem index_t (va : Value) (T : List Th) (b13 b15 : Nat) (m : Int) (r : Nat) (w : World) (ha : ThsAt w va T) (h13 : w.cell? ⟨b13, 0, none⟩ = some (.int .i64 m)) (h15 : w.cell? ⟨b15, 0, none⟩ = some (.int .u64 (r : Int))) (hn : T.length ≤ 100) :
    Calls Tryz.prog 12 #[va, .func (.func 13) #[] #[.pointer (some ⟨b13, 0, none⟩), .pointer (some ⟨b15, 0, none⟩)]] w fun e w' =>
      ((e = .returned (.int .i64 (-1)) ∧ ∀ x ∈ T, hitT m r x = false) ∨ ∃ (k : Nat) (x : Th), T[k]? = some x ∧ hitT m r x = true ∧ e = .returned (.int .i64 (k : Int))) ∧ Up w w' := by
  obtain ⟨a, ca, rfl, ha⟩ := ha
  have HA := Lib.hid ha
  have HC : Hid (∀ wx, Up w wx → wx.cell? ⟨b13, 0, none⟩ = some (.int .i64 m) ∧ wx.cell? ⟨b15, 0, none⟩ = some (.int .u64 (r : Int))) := fun wx u => ⟨up_cell u h13, up_cell u h15⟩
  clear ha h13 h15
  go_enter Tryz.func12, Tryz.ntmps12
  go_wp2_with fail
  go_loopw [8] (fun i wr => ∃ t : Nat, t ≤ T.length ∧ i = .int .i64 t ∧ Up w wr ∧ ∀ x ∈ T.take t, hitT m r x = false) (fun i _ => T.length - (intOf i).toNat)
  case atStart => exact ⟨0, by omega, rfl, Below.refl _ _, by simp⟩
  case round =>
    obtain ⟨t, ht, rfl, hU, hA⟩ := hrel
    have HAA := Lib.hid hA
    clear hA
    by_cases hlt : t < T.length
    · obtain ⟨ba, rfl, hba, hx⟩ := HA.out.resolve_left (by omega)
      obtain ⟨x, hm⟩ : ∃ x, T[t]? = some x := ⟨_, List.getElem?_eq_getElem hlt⟩
      obtain ⟨g0, g1, g2, g3, g4⟩ := (hx t x hm).up hU
      have HM := Lib.hid hm
      have it0 : (t : Int) < (T.length : Int) := by omega
      have HU := Lib.hid hU
      have HX : Hid (∀ wx, Up w wx → Calls Tryz.prog 13 #[.agg #[.int .u64 (x.r : Int), .int .i64 x.owner, .int .i64 x.m, .int .u64 (x.target : Int), .int .i64 x.deep], .pointer (some ⟨b13, 0, none⟩), .pointer (some ⟨b15, 0, none⟩)] wx fun e w' => e = .returned (.bool (hitT m r x)) ∧ Up wx w') := fun wx u => same_x x b13 b15 m r wx (HC.out wx u).1 (HC.out wx u).2
      clear hx hm hU
      cases hh : hitT m r x
      · rw [hh] at HX
        go_wp2_with (go_at_call 13; refine (HX.out _ HU.out).mono ?_; rintro e w2 ⟨rfl, hU2⟩)
        go_roundw
        case rel =>
          refine ⟨t + 1, by omega, by go_num, Below.trans HU.out (Below.mono hU2 HU.out.size), fun z hz => ?_⟩
          rw [List.take_add_one, HM.out] at hz
          rcases List.mem_append.1 hz with h8 | h8
          · exact HAA.out z h8
          · have e9 : z = x := by simpa using h8
            rw [e9]
            exact hh
        case measure => simp [intOf]; omega
      · rw [hh] at HX
        go_wp2_with (go_at_call 13; refine (HX.out _ HU.out).mono ?_; rintro e w2 ⟨rfl, hU2⟩)
        go_ret
        exact ⟨.inr ⟨t, x, HM.out, hh, rfl⟩, Below.trans HU.out (Below.mono hU2 HU.out.size)⟩
    · have hte : t = T.length := by omega
      subst hte
      have hall := HAA.out
      rw [List.take_length] at hall
      have HZ := Lib.hid hall
      clear hall
      go_wp2_with fail
      go_ret
      exact ⟨.inl ⟨rfl, HZ.out⟩, hU⟩
/-- None of that name. -/
theorem index_o (va : Value) (T : List Th) (b16 : Nat) (r : Nat) (w : World) (ha : ThsAt w va T) (h16 : w.cell? ⟨b16, 0, none⟩ = some (.int .u8 5) ∧ w.cell? ⟨b16, 1, none⟩ = some (.int .i64 (r : Int)) ∧ w.cell? ⟨b16, 2, none⟩ = some (.string ⟨#[]⟩)) (hne : ∀ x ∈ T, x.r ≠ r) (hr : r < 9223372036854775808) (hn : T.length ≤ 100) :
    Calls Tryz.prog 12 #[va, .func (.func 17) #[] #[.pointer (some ⟨b16, 0, none⟩)]] w fun e w' => e = .returned (.int .i64 (-1)) ∧ Up w w' := by
  obtain ⟨a, ca, rfl, ha⟩ := ha
  have HA := Lib.hid ha
  have HN := Lib.hid hne
  have HC : Hid (∀ wx, Up w wx → wx.cell? ⟨b16, 0, none⟩ = some (.int .u8 5) ∧ wx.cell? ⟨b16, 1, none⟩ = some (.int .i64 (r : Int)) ∧ wx.cell? ⟨b16, 2, none⟩ = some (.string ⟨#[]⟩)) := fun wx u => ⟨up_cell u h16.1, up_cell u h16.2.1, up_cell u h16.2.2⟩
  clear ha h16 hne
  go_enter Tryz.func12, Tryz.ntmps12
  go_wp2_with fail
  go_loopw [8] (fun i wr => ∃ t : Nat, t ≤ T.length ∧ i = .int .i64 t ∧ Up w wr) (fun i _ => T.length - (intOf i).toNat)
  case atStart => exact ⟨0, by omega, rfl, Below.refl _ _⟩
  case round =>
    obtain ⟨t, ht, rfl, hU⟩ := hrel
    by_cases hlt : t < T.length
    · obtain ⟨ba, rfl, hba, hx⟩ := HA.out.resolve_left (by omega)
      obtain ⟨x, hm⟩ : ∃ x, T[t]? = some x := ⟨_, List.getElem?_eq_getElem hlt⟩
      obtain ⟨g0, g1, g2, g3, g4⟩ := (hx t x hm).up hU
      have HM := Lib.hid hm
      have it0 : (t : Int) < (T.length : Int) := by omega
      have HU := Lib.hid hU
      have HX : Hid (∀ wx, Up w wx → Calls Tryz.prog 17 #[.agg #[.int .u64 (x.r : Int), .int .i64 x.owner, .int .i64 x.m, .int .u64 (x.target : Int), .int .i64 x.deep], .pointer (some ⟨b16, 0, none⟩)] wx fun e w' => e = .returned (.bool false) ∧ Up wx w') := fun wx u => other_x x b16 r wx (HC.out wx u) (HN.out x (List.mem_of_getElem? HM.out)) hr
      clear hx hm hU
      go_wp2_with (go_at_call 17; refine (HX.out _ HU.out).mono ?_; rintro e w2 ⟨rfl, hU2⟩)
      go_roundw
      case rel => exact ⟨t + 1, by omega, by go_num, Below.trans HU.out (Below.mono hU2 HU.out.size)⟩
      case measure => simp [intOf]; omega
    · have hte : t = T.length := by omega
      subst hte
      go_wp2_with fail
      go_ret
      exact ⟨rfl, hU⟩
theorem contains_o (va : Value) (T : List Th) (b16 : Nat) (r : Nat) (w : World) (ha : ThsAt w va T) (h16 : w.cell? ⟨b16, 0, none⟩ = some (.int .u8 5) ∧ w.cell? ⟨b16, 1, none⟩ = some (.int .i64 (r : Int)) ∧ w.cell? ⟨b16, 2, none⟩ = some (.string ⟨#[]⟩)) (hne : ∀ x ∈ T, x.r ≠ r) (hr : r < 9223372036854775808) (hn : T.length ≤ 100) :
    Calls Tryz.prog 16 #[va, .func (.func 17) #[] #[.pointer (some ⟨b16, 0, none⟩)]] w fun e w' => e = .returned (.bool false) ∧ Up w w' := by
  have HI := Lib.hid (index_o va T b16 r w ha h16 hne hr hn)
  clear ha h16 hne
  go_enter Tryz.func16, Tryz.ntmps16
  go_wp2_with (go_at_call 12; refine HI.out.mono ?_; rintro e w2 ⟨rfl, hU2⟩)
  go_ret
  exact ⟨rfl, hU2⟩
end Go.Proofs.YtmmfpkkkpeapeaaGreatDoor.wy

/- WrapPasses: Pass of a thing, and of a plain value, in any world that has grown; what holds between the rounds. -/
set_option linter.unusedVariables false
namespace Go.Proofs.YtmmfpkkkpeapeaaGreatDoor.wy
open Go.RowKit Go.Maps mem rec ar mb
set_option maxHeartbeats 400000
theorem vmk_ne5 (k n : Int) (s : ByteArray) : ((vmk k n s).1 == 5) = false := by
  unfold vmk
  repeat' split
  all_goals rfl
/-- What Pass answers for a plain value. -/
def ansP (L : List Mb) (m into : Int) (y : V3) : V3 × Int :=
  match otherR L m into with
  | none => (zero3, 4)
  | some _ => if deadR L m = true then (zero3, 12) else (y, 0)
section
variable {w0 w w1 : World} {q p cb k : Nat} {vr v : Nat → Value} {A : Ar} {C : Ca} {L : List Mb} {T : List Th} {d : Int}
theorem pass_p (h : St w0 w q p cb vr v A C L k d) (hL : 0 < L.length) {m into : Int} {y : V3} (hy : (y.1 == 5) = false) (wx : World) (u : Up w wx) :
    Calls Tryz.prog 9 #[vr 0, .pointer (some ⟨p, 0, none⟩), .map (some cb), .int .i64 m, .int .i64 into, val y] wx fun e w' => e = .returned (.tuple #[val (ansP L m into y).1, .int .i64 (ansP L m into y).2]) ∧ Up wx w' := by
  obtain ⟨a, n, s⟩ := y
  have H := h.up u
  have hl := H.list hL
  have hp : p < wx.heap.size := H.wr.pt.hd.lt
  unfold ansP
  cases ho : otherR L m into with
  | none => exact pass_no wx (vr 0) p cb m into L a n s hl hp ho
  | some from_ =>
    simp only
    cases hd : deadR L m with
    | true => exact pass_dead wx (vr 0) p cb m into L a n from_ s hl hp ho hd
    | false => exact pass_plain wx (vr 0) p cb m into L a n from_ s hl hp ho hd hy
theorem pass_t (h : St w0 w q p cb vr v A C L (k + 1) d) (ht : Ths A T) (hL : 0 < L.length) {m into : Int} (hm0 : 0 ≤ m) (hm : (Lit.int .i64 m).wf = true) {x : Th} (hx : x ∈ T) (wx : World) (u : Up w wx) :
    Calls Tryz.prog 9 #[vr 0, .pointer (some ⟨p, 0, none⟩), .map (some cb), .int .i64 m, .int .i64 into, val (5, (x.r : Int), ⟨#[]⟩)] wx fun e w' => ∃ v', e = .returned (.tuple #[val (ansT L C A m into x).v, .int .i64 (ansT L C A m into x).e]) ∧
      St w0 w' q p cb vr v' (ansT L C A m into x).A (ansT L C A m into x).C L k (d + 1) ∧ Chg (cb :: foot p v) w w' ∧ (∀ b ∈ foot p v', b ∈ foot p v ∨ w.heap.size ≤ b) ∧ Chg (cb :: foot p v) wx w' ∧ (∀ b ∈ foot p v', b ∈ foot p v ∨ wx.heap.size ≤ b) := by
  obtain ⟨o, hf, -⟩ := ht.ob x hx
  have H := h.up u
  refine (pass_any H.wr (H.list hL) hm (fun y ho => (h.side ho).1) hf).mono ?_
  rintro e w' ⟨v', rfl, h1, h2, h3, -, -⟩
  rw [pass_ans ht hm0 hx] at h1 ⊢
  exact ⟨v', rfl, h.pass u h1 h2 h3, (u.chg.mono (by simp)).trans h2 (fun x hx => .inl hx), fun b hb => (h3 b hb).imp id (fun e => Nat.le_trans u.size e), h2, h3⟩
/-- What holds between the rounds. -/
structure Ps (w0 w : World) (q p cb : Nat) (vr v : Nat → Value) (A : Ar) (C : Ca) (L : List Mb) (k : Nat) (d : Int) (av : Value) (T : List Th) : Prop where
  st : St w0 w q p cb vr v A C L k d
  row : w.ownsRow 0 43 5 av T.length (T.flatMap cellsT)
  nb : ∀ b, av.ownBlock = some b → b ∉ cb :: foot p v ∧ b ∉ foot q vr ∧ w0.heap.size ≤ b
  th : Ths A T
  ne : ∀ m ∈ L, m.1 ≠ m.2.1
theorem Ps.up {av : Value} (h : Ps w0 w q p cb vr v A C L k d av T) (u : Up w w1) : Ps w0 w1 q p cb vr v A C L k d av T :=
  ⟨h.st.up u, owns_chg h.row u.chg (by simp), h.nb, h.th, h.ne⟩
theorem Ps.less {av : Value} {j : Nat} {e : Int} (h : Ps w0 w q p cb vr v A C L k d av T) (hj : j ≤ k) (he : d ≤ e) : Ps w0 w q p cb vr v A C L j e av T := ⟨h.st.less hj he, h.row, h.nb, h.th, h.ne⟩
end
theorem side_ne (x : Int × Int) : (sideOf x).1 ≠ (sideOf x).2.1 := by
  unfold sideOf
  simp only
  split <;> omega
theorem kill_ne {L : List Mb} (m : Nat) (h : ∀ x ∈ L, x.1 ≠ x.2.1) : ∀ x ∈ mb.kill L m, x.1 ≠ x.2.1 := by
  intro x hx
  obtain ⟨i, hi⟩ := List.getElem?_of_mem hx
  rw [kill_at] at hi
  split at hi
  · obtain ⟨s, hs, rfl⟩ := Option.map_eq_some_iff.1 hi
    exact h s (List.mem_of_getElem? hs)
  · exact h x (List.mem_of_getElem? hi)
section
variable {w0 w w1 : World} {q p cb k : Nat} {vr v : Nat → Value} {A : Ar} {C : Ca} {L : List Mb} {T : List Th} {d : Int} {av : Value}
theorem Ps.die (h : Ps w0 w q p cb vr v A C L k d av T) {m g0 c0 g3 c3 : Nat} (e0 : vr 0 = .slice (some ⟨g0, 0, none⟩) L.length c0) (e3 : vr 3 = .slice (some ⟨g3, 0, none⟩) L.length c3) (hm : m < L.length) :
    Ps w0 ((w.setCell ⟨g0, m * 3 + 2, none⟩ (.bool true)).setCell ⟨g3, m, none⟩ (.bool true)) q p cb vr v A C (mb.kill L m) k d av T := by
  have f0 : g0 ∈ foot q vr := foot_i (by omega : 0 < 4) (by rw [e0]; rfl)
  have f3 : g3 ∈ foot q vr := foot_i (by omega : 3 < 4) (by rw [e3]; rfl)
  have C1 : Chg [g0, g3] w ((w.setCell ⟨g0, m * 3 + 2, none⟩ (.bool true)).setCell ⟨g3, m, none⟩ (.bool true)) :=
    ((Chg.refl [g0, g3] w).setCell (p := ⟨g0, m * 3 + 2, none⟩) (.inl (by simp)) _).setCell (p := ⟨g3, m, none⟩) (.inl (by simp)) _
  refine ⟨(St.die_a h.st e0 e3 hm).1, owns_chg h.row C1 (fun b hb hx => ?_), h.nb, h.th, kill_ne m h.ne⟩
  rcases List.mem_cons.1 hx with h1 | h1
  · exact (h.nb b hb).2.1 (by rw [h1]; exact f0)
  · exact (h.nb b hb).2.1 (by rw [List.mem_singleton.1 h1]; exact f3)
/-- The rows of the membranes and of the dead. -/
theorem Ps.rows (h : Ps w0 w q p cb vr v A C L k d av T) (hL : 0 < L.length) : ∃ g0 c0 g3 c3, vr 0 = .slice (some ⟨g0, 0, none⟩) L.length c0 ∧ vr 3 = .slice (some ⟨g3, 0, none⟩) L.length c3 ∧ g0 ≠ g3 ∧ g0 ≠ q ∧ g3 ≠ q ∧ g0 < w.heap.size ∧ g3 < w.heap.size ∧
    ∀ i s, L[i]? = some s → w.cell? ⟨g0, i * 3 + 2, none⟩ = some (.bool s.2.2) ∧ w.frozen? ⟨g0, i * 3 + 2, none⟩ = false ∧ w.cell? ⟨g3, i, none⟩ = some (.bool s.2.2) ∧ w.frozen? ⟨g3, i, none⟩ = false := by
  have r0 : w.ownsRow 0 (rT 0) (rS 0) (vr 0) L.length (L.flatMap cellsM) := h.st.rw_.ow 0 (by omega)
  have r3 : w.ownsRow 0 (rT 3) (rS 3) (vr 3) L.length (L.map fun x => Value.bool x.2.2) := h.st.rw_.ow 3 (by omega)
  obtain ⟨g0, c0, e0, -, l0⟩ := r0.form hL
  obtain ⟨g3, c3, e3, -, l3⟩ := r3.form hL
  have b0 : (vr 0).ownBlock = some g0 := by rw [e0]; rfl
  have b3 : (vr 3).ownBlock = some g3 := by rw [e3]; rfl
  refine ⟨g0, c0, g3, c3, e0, e3, fun e => ?_, fun e => ?_, fun e => ?_, l0, l3, fun i s hs => ?_⟩
  · have := h.st.rw_.ap 0 3 g0 (by omega) (by omega) b0 (by rw [b3, e])
    omega
  · exact h.st.rw_.pp 0 (by omega) (by rw [b0, e])
  · exact h.st.rw_.pp 3 (by omega) (by rw [b3, e])
  · rw [e0] at r0
    rw [e3] at r3
    have hi := (List.getElem?_eq_some_iff.1 hs).1
    refine ⟨?_, World.ownsRow.frozenAt r0 _, ?_, World.ownsRow.frozenAt r3 _⟩
    · rw [World.ownsRow.cellAt r0 (i * 3 + 2) (by show _ < L.length * 3; omega), flat3_get L i 2 s hs (by omega)]
      rfl
    · rw [World.ownsRow.cellAt r3 i (by show _ < L.length * 1; omega), List.getElem?_map, hs]
      rfl
end
end Go.Proofs.YtmmfpkkkpeapeaaGreatDoor.wy

/- WrapPasses: behind Pass of a thing, its value laid in a block. -/
set_option linter.unusedVariables false
namespace Go.Proofs.YtmmfpkkkpeapeaaGreatDoor.wy
open Go.RowKit Go.Maps mem rec ar mb
set_option maxHeartbeats 400000
/-- Behind Pass, its value laid in block xb. -/
structure Mt (w0 w wx : World) (q p cb : Nat) (vr v v' : Nat → Value) (R : Res) (L : List Mb) (k : Nat) (d : Int) (xb : Nat) : Prop where
  st : St w0 wx q p cb vr v' R.A R.C L k d
  xc : Has3 wx xb (.int .u8 R.v.1) (.int .i64 R.v.2.1) (.string R.v.2.2)
  cg : Chg (cb :: foot p v) w wx
  fb : ∀ b ∈ foot p v', b ∈ foot p v ∨ w.heap.size ≤ b
  xn : w.heap.size ≤ xb
section
variable {w0 w w1 : World} {q p cb k : Nat} {vr v : Nat → Value} {A : Ar} {C : Ca} {L : List Mb} {T : List Th} {d : Int}
theorem mid_t (h : St w0 w q p cb vr v A C L (k + 1) d) (ht : Ths A T) (hL : 0 < L.length) {m into : Int} (hm0 : 0 ≤ m) (hm : (Lit.int .i64 m).wf = true) {x : Th} (hx : x ∈ T) (wx : World) (u : Up w wx) (R : Res) (hR : R = ansT L C A m into x) :
    Calls Tryz.prog 9 #[vr 0, .pointer (some ⟨p, 0, none⟩), .map (some cb), .int .i64 m, .int .i64 into, val (5, (x.r : Int), ⟨#[]⟩)] wx fun e w' => ∃ (v' : Nat → Value), e = .returned (.tuple #[val R.v, .int .i64 R.e]) ∧
      (∀ ty, Mt w0 w (w'.alloc (.cells #[.int .u8 R.v.1, .int .i64 R.v.2.1, .string R.v.2.2] ty)) q p cb vr v v' R L k (d + 1) w'.heap.size) ∧
      (∀ (xb : Nat) (c0 c1 c2 : Value), w.heap.size ≤ xb → Has3 wx xb c0 c1 c2 → Has3 w' xb c0 c1 c2 ∧ Mt w0 w (((w'.setCell ⟨xb, 0, none⟩ (.int .u8 R.v.1)).setCell ⟨xb, 1, none⟩ (.int .i64 R.v.2.1)).setCell ⟨xb, 2, none⟩ (.string R.v.2.2)) q p cb vr v v' R L k (d + 1) xb) ∧
      Chg (cb :: foot p v) w w' := by
  refine (pass_t h ht hL hm0 hm hx wx u).mono ?_
  rw [← hR]
  rintro e w' ⟨v', rfl, S1, C1, F1, h2, h3⟩
  refine ⟨v', rfl, fun ty => ?_, fun xb c0 c1 c2 hxb hz => ?_, C1⟩
  · exact ⟨S1.up ((Up.refl w').alloc _), has3_alloc w' _ _ _ ty, C1.alloc _, F1, C1.size⟩
  · have hxw := hz.1
    have nx : xb ∉ cb :: foot p v := fun hx => by have := h.wr.lt xb hx; omega
    have hz' := has3_chg hz h2 nx
    have CS := set3_chg w' xb (.int .u8 R.v.1) (.int .i64 R.v.2.1) (.string R.v.2.2)
    refine ⟨hz', S1.chg CS (fun b hb => ?_) (fun b hb hx => ?_) (fun b hb hx => ?_), hz'.store _ _ _, C1.trans CS (fun x hx => .inr (by rw [List.mem_singleton.1 hx]; exact hxb)), F1, hxb⟩
    · rw [List.mem_singleton.1 hb]; exact Nat.le_trans h.bel.size hxb
    · have := h.rw_.lt b hb; rw [List.mem_singleton.1 hx] at this; omega
    · rw [List.mem_singleton.1 hx] at hb
      rcases List.mem_cons.1 hb with h8 | h8
      · exact nx (by rw [h8]; exact List.mem_cons_self ..)
      · rcases h3 xb h8 with h9 | h9
        · exact nx (List.mem_cons_of_mem _ h9)
        · omega
end
end Go.Proofs.YtmmfpkkkpeapeaaGreatDoor.wy

/- FrameBacks: how the two worlds are made: plain laws, frame.New. -/
set_option linter.unusedVariables false
set_option linter.unusedSimpArgs false
namespace Go.Proofs.YtmmfpkkkpeapeaaGreatDoor.mb
open Go.RowKit Go.Maps mem rec ar
attribute [local go_sem ↓] Go.wp_at_zero Go.wp_at_succ
set_option maxRecDepth 100000
set_option maxHeartbeats 400000
theorem new_world (w : World) : Calls Tryz.prog 19 #[] w fun e w' => ∃ (wb : Nat) (c0 c1 c2 : Value), e = .returned (.pointer (some ⟨wb, 0, none⟩)) ∧ Up w w' ∧ w.heap.size ≤ wb ∧ Blk w' wb #[c0, c1, c2, .slice none 0 0] 73 := by
  have hmm := @run_makeMap Tryz.prog
  go_enter Tryz.func19, Tryz.ntmps19
  go_wp2_with (go_at_call 33; refine (new_arena _).mono ?_; rintro e w1 ⟨rfl, rfl⟩)
  go_ret
  have z : ((w.alloc (.cells #[.slice none 0 0, .slice none 0 0, .slice none 0 0, .slice none 0 0] 120)).alloc (.map #[] 0)).heap.size = w.heap.size + 1 + 1 := by simp
  refine ⟨w.heap.size + 1 + 1, .pointer (some ⟨w.heap.size, 0, none⟩), .map (some (w.heap.size + 1)), .slice none 0 0, rfl, (((Up.refl _).alloc _).alloc _).alloc _, by omega, ?_⟩
  have h := heap_alloc_new ((w.alloc (.cells #[.slice none 0 0, .slice none 0 0, .slice none 0 0, .slice none 0 0] 120)).alloc (.map #[] 0)) (.cells #[.pointer (some ⟨w.heap.size, 0, none⟩), .map (some (w.heap.size + 1)), .slice none 0 0, .slice none 0 0] 73)
  rw [z] at h
  exact h
/-- The fields of a world are laid. -/
theorem fw_of {wa wm : World} {q p cb k wb : Nat} {vr v : Nat → Value} {A : Ar} {C : Ca} {L : List Mb} {d : Int} {c0 c1 c2 : Value} (h : St wa wm q p cb vr v A C L k d) (hb : Blk wm wb #[c0, c1, c2, .slice none 0 0] 73) (hw : wb < wa.heap.size) (hL : 0 < L.length) :
    Fw (((wm.setCell ⟨wb, 0, none⟩ (.pointer (some ⟨p, 0, none⟩))).setCell ⟨wb, 1, none⟩ (.map (some cb))).setCell ⟨wb, 2, none⟩ (vr 0)) wb p cb (vr 0) v A C L k d ∧ Chg [wb] wm (((wm.setCell ⟨wb, 0, none⟩ (.pointer (some ⟨p, 0, none⟩))).setCell ⟨wb, 1, none⟩ (.map (some cb))).setCell ⟨wb, 2, none⟩ (vr 0)) := by
  have CS := set3_chg wm wb (.pointer (some ⟨p, 0, none⟩)) (.map (some cb)) (vr 0)
  have e1 := heap_setCell_same wm wb 0 _ _ (.pointer (some ⟨p, 0, none⟩)) hb
  have e2 := heap_setCell_same _ wb 1 _ _ (.map (some cb)) e1
  have e3 := heap_setCell_same _ wb 2 _ _ (vr 0) e2
  have n1 : ∀ b ∈ cb :: foot p v, b ≠ wb := fun b hb => by have := h.f2 b hb; omega
  have n0 : ∀ b, (vr 0).ownBlock = some b → b ≠ wb := fun b hb => by have := h.f1 b (foot_i (by omega) hb); omega
  refine ⟨⟨?_, h.wr.chg CS (fun b hb hx => n1 b hb (List.mem_singleton.1 hx)), owns_chg (h.rw_.ow 0 (by omega)) CS (fun b hb hx => n0 b hb (List.mem_singleton.1 hx)), h.sd, hL, fun hx => n1 wb hx rfl, fun b hb => ⟨h.dj b (foot_i (by omega) hb), n0 b hb⟩⟩, CS⟩
  unfold Blk
  rw [e3]
  simp
theorem ft_ge {wa wm : World} {q p cb k wb : Nat} {vr v : Nat → Value} {A : Ar} {C : Ca} {L : List Mb} {d : Int} (h : St wa wm q p cb vr v A C L k d) : ∀ b ∈ ftF wb p cb (vr 0) v, b = wb ∨ wa.heap.size ≤ b := fun b hb => by
  rcases mem_ftF.1 hb with h1 | h1 | h1
  · exact .inl h1
  · exact .inr (h.f1 b (foot_i (by omega) h1))
  · exact .inr (h.f2 b h1)
structure Base4 (w0 w : World) (s7 s8 wb0 wb1 B : Nat) (c : V3) : Prop where
  c7 : w.cell? ⟨s7, 0, none⟩ = some (.pointer (some ⟨wb0, 0, none⟩)) ∧ w.cell? ⟨s7, 1, none⟩ = some (.pointer (some ⟨wb1, 0, none⟩))
  c8 : Has3 w s8 (.int .u8 c.1) (.int .i64 c.2.1) (.string c.2.2)
  ne : wb0 ≠ wb1 ∧ s7 ≠ wb0 ∧ s7 ≠ wb1 ∧ s8 ≠ s7 ∧ s8 ≠ wb0 ∧ s8 ≠ wb1
  ge : w0.heap.size ≤ wb0 ∧ w0.heap.size ≤ wb1 ∧ w0.heap.size ≤ s7 ∧ w0.heap.size ≤ s8
  lt : wb0 < B ∧ wb1 < B ∧ s7 < B ∧ s8 < B
  hB : B ≤ w.heap.size
  bel : Up w0 w
section
variable {w0 w w1 : World} {s7 s8 wb0 wb1 B : Nat} {c c' : V3}
theorem Base4.chg {F : List Nat} (h : Base4 w0 w s7 s8 wb0 wb1 B c) (C : Chg F w w1) (h7 : s7 ∉ F) (h8 : s8 ∉ F) (h0 : ∀ b ∈ F, w0.heap.size ≤ b) : Base4 w0 w1 s7 s8 wb0 wb1 B c :=
  have l7 : s7 < w.heap.size := Nat.lt_of_lt_of_le h.lt.2.2.1 h.hB
  ⟨⟨(C.cell l7 h7).trans h.c7.1, (C.cell l7 h7).trans h.c7.2⟩, has3_chg h.c8 C h8, h.ne, h.ge, h.lt, Nat.le_trans h.hB C.size, Below.trans h.bel (C.below h.bel.size h0)⟩
theorem Base4.up (h : Base4 w0 w s7 s8 wb0 wb1 B c) (u : Up w w1) : Base4 w0 w1 s7 s8 wb0 wb1 B c := h.chg u.chg (by simp) (by simp) (by simp)
theorem Base4.set8 (h : Base4 w0 w s7 s8 wb0 wb1 B c) : Base4 w0 (((w.setCell ⟨s8, 0, none⟩ (.int .u8 c'.1)).setCell ⟨s8, 1, none⟩ (.int .i64 c'.2.1)).setCell ⟨s8, 2, none⟩ (.string c'.2.2)) s7 s8 wb0 wb1 B c' := by
  have CS := set3_chg w s8 (.int .u8 c'.1) (.int .i64 c'.2.1) (.string c'.2.2)
  have l7 : s7 < w.heap.size := Nat.lt_of_lt_of_le h.lt.2.2.1 h.hB
  have n7 : s7 ∉ [s8] := fun hx => h.ne.2.2.2.1 (List.mem_singleton.1 hx).symm
  exact ⟨⟨(CS.cell l7 n7).trans h.c7.1, (CS.cell l7 n7).trans h.c7.2⟩, h.c8.store _ _ _, h.ne, h.ge, h.lt, Nat.le_trans h.hB CS.size, Below.trans h.bel (CS.below h.bel.size (fun b hb => by rw [List.mem_singleton.1 hb]; exact h.ge.2.2.2))⟩
end
/-- Before the first world is made, and before the second one. -/
def T0 (w0 w : World) (s7 s8 wb0 wb1 B : Nat) : Prop := Base4 w0 w s7 s8 wb0 wb1 B zero3 ∧ (∃ c0 c1 c2, Blk w wb0 #[c0, c1, c2, .slice none 0 0] 73) ∧ (∃ c0 c1 c2, Blk w wb1 #[c0, c1, c2, .slice none 0 0] 73)
structure T1 (w0 w : World) (s7 s8 wb0 wb1 B r0 : Nat) (L : List Mb) (x : FW) (bs : List Nat) : Prop where
  b4 : Base4 w0 w s7 s8 wb0 wb1 B (5, (r0 : Int), ⟨#[]⟩)
  b1 : ∃ c0 c1 c2, Blk w wb1 #[c0, c1, c2, .slice none 0 0] 73
  fx : x.ok w L 59 0
  ft : ∀ b ∈ x.ft, b = wb0 ∨ B ≤ b
  ex : x.wb = wb0 ∧ x.A = mk4 bs ∧ x.C = none2 ∧ bs.length = 4
theorem T0.next {w0 wr wm W : World} {s7 s8 wb0 wb1 B q p cb r0 : Nat} {vr v : Nat → Value} {bs : List Nat} {L : List Mb} (h : T0 w0 wr s7 s8 wb0 wb1 B) (hS : St wr wm q p cb vr v (mk4 bs) none2 L 59 0) (hbs : bs.length = 4) (hF : Fw W wb0 p cb (vr 0) v (mk4 bs) none2 L 59 0) (hC : Chg [wb0] wm W) (wx : World) (u : Up W wx) :
    T1 w0 (((wx.setCell ⟨s8, 0, none⟩ (.int .u8 5)).setCell ⟨s8, 1, none⟩ (.int .i64 (r0 : Int))).setCell ⟨s8, 2, none⟩ (.string ⟨#[]⟩)) s7 s8 wb0 wb1 B r0 L ⟨wb0, p, cb, vr 0, v, mk4 bs, none2⟩ bs := by
  obtain ⟨hb, -, c0, c1, c2, h1⟩ := h
  have hb2 := ((hb.up hS.bel).chg hC (by simpa using hb.ne.2.1) (by simpa using hb.ne.2.2.2.2.1) (fun b hx => by rw [List.mem_singleton.1 hx]; exact hb.ge.1)).up u
  have CS := set3_chg wx s8 (.int .u8 5) (.int .i64 (r0 : Int)) (.string ⟨#[]⟩)
  have fg : ∀ b ∈ ftF wb0 p cb (vr 0) v, b = wb0 ∨ B ≤ b := fun b hx => (ft_ge hS b hx).imp id (fun e => Nat.le_trans hb.hB e)
  refine ⟨hb2.set8 (c' := (5, (r0 : Int), ⟨#[]⟩)), ⟨c0, c1, c2, (((h1.chg hS.bel.chg (by simp)).chg hC (by simpa using hb.ne.1.symm)).chg u.chg (by simp)).chg CS (by simpa using hb.ne.2.2.2.2.2.symm)⟩, (hF.up u).chg CS (fun b hx hy => ?_), fg, rfl, rfl, rfl, hbs⟩
  rw [List.mem_singleton.1 hy] at hx
  rcases fg s8 hx with h2 | h2
  · exact hb.ne.2.2.2.2.1 h2
  · have := hb.lt; omega
theorem T1.next {w0 wr wm W : World} {s7 s8 wb0 wb1 B q p cb r0 : Nat} {vr v : Nat → Value} {bs bs0 : List Nat} {L : List Mb} {x : FW} (h : T1 w0 wr s7 s8 wb0 wb1 B r0 L x bs0) (hS : St wr wm q p cb vr v (mk4 bs) none2 L 59 0) (hF : Fw W wb1 p cb (vr 0) v (mk4 bs) none2 L 59 0) (hC : Chg [wb1] wm W) (wx : World) (u : Up W wx) :
    Two w0 (((wx.setCell ⟨s8, 0, none⟩ (.int .u8 5)).setCell ⟨s8, 1, none⟩ (.int .i64 (r0 : Int))).setCell ⟨s8, 2, none⟩ (.string ⟨#[]⟩)) s7 s8 r0 x ⟨wb1, p, cb, vr 0, v, mk4 bs, none2⟩ L 59 59 0 0 := by
  have hb := h.b4
  have hb2 := ((hb.up hS.bel).chg hC (by simpa using hb.ne.2.2.1) (by simpa using hb.ne.2.2.2.2.2) (fun b hx => by rw [List.mem_singleton.1 hx]; exact hb.ge.2.1)).up u
  have hb3 := hb2.set8 (c' := (5, (r0 : Int), ⟨#[]⟩))
  have CS := set3_chg wx s8 (.int .u8 5) (.int .i64 (r0 : Int)) (.string ⟨#[]⟩)
  have z := hb.hB
  have zz := hb.bel.size
  have fg : ∀ b ∈ ftF wb1 p cb (vr 0) v, b = wb1 ∨ wr.heap.size ≤ b := ft_ge hS
  have n1 : wb1 ∉ x.ft := fun hx => by
    rcases h.ft wb1 hx with h2 | h2
    · exact hb.ne.1 h2.symm
    · have := hb.lt; omega
  have n7 : s7 ∉ x.ft := fun hx => by
    rcases h.ft s7 hx with h2 | h2
    · exact hb.ne.2.1 h2
    · have := hb.lt; omega
  have n8 : s8 ∉ x.ft := fun hx => by
    rcases h.ft s8 hx with h2 | h2
    · exact hb.ne.2.2.2.2.1 h2
    · have := hb.lt; omega
  have m7 : s7 ∉ ftF wb1 p cb (vr 0) v := fun hx => by
    rcases fg s7 hx with h2 | h2
    · exact hb.ne.2.2.1 h2
    · have := hb.lt; omega
  have m8 : s8 ∉ ftF wb1 p cb (vr 0) v := fun hx => by
    rcases fg s8 hx with h2 | h2
    · exact hb.ne.2.2.2.2.2 h2
    · have := hb.lt; omega
  refine ⟨Fw.chg (Fw.up (Fw.chg (Fw.up h.fx hS.bel) hC (fun b hx hy => n1 (by rw [← List.mem_singleton.1 hy]; exact hx))) u) CS (fun b hx hy => n8 (by rw [← List.mem_singleton.1 hy]; exact hx)), (hF.up u).chg CS (fun b hx hy => m8 (by rw [← List.mem_singleton.1 hy]; exact hx)), fun b hx hy => ?_, by rw [h.ex.1]; exact hb3.c7, ⟨Nat.lt_of_lt_of_le hb.lt.2.2.1 hb3.hB, n7, m7, hb.ge.2.2.1⟩, hb3.c8, ⟨n8, m8, hb.ne.2.2.2.1, hb.ge.2.2.2⟩, fun b hx => ?_, fun b hx => ?_, hb3.bel⟩
  · rcases fg b hy with h2 | h2
    · exact n1 (by rw [← h2]; exact hx)
    · have := Fw.lt h.fx b hx; omega
  · rcases h.ft b hx with h2 | h2
    · rw [h2]; exact hb.ge.1
    · have := hb.lt; have := hb.ge; omega
  · rcases fg b hx with h2 | h2
    · rw [h2]; exact hb.ge.2.1
    · omega
/-- A way's step as it is handed in. -/
def GoAt (w : World) (b o : Nat) (x : Int × Int × Int × Bool) : Prop := (w.cell? ⟨b, o, none⟩ = some (.int .u8 x.1) ∧ w.cell? ⟨b, o + 1, none⟩ = some (.int .u8 x.2.1) ∧ w.cell? ⟨b, o + 2, none⟩ = some (.int .u8 x.2.2.1) ∧ w.cell? ⟨b, o + 3, none⟩ = some (.bool x.2.2.2)) ∧ (0 ≤ x.1 ∧ x.1 ≤ 255) ∧ (0 ≤ x.2.1 ∧ x.2.1 ≤ 255) ∧ (0 ≤ x.2.2.1 ∧ x.2.2.1 ≤ 255)
section
variable {H : Type} {enc : TypeId × Value → H} {w : World} {base : Nat} {spare : Nat → Bool} {held : Bool}
theorem open_gos {fuel : Nat} {v : Value} {x : DataW H × List MemPlace} (h : DataW.trod enc Tryz.prog w base spare held fuel 23 [v] = some x) : op.Handed 4 GoAt v w := by
  refine op.open_slice ((0 : Int), (0 : Int), (0 : Int), false) Tryz.underlying23 (by kernel_rfl) (by decide) GoAt ?_ h
  intro fuel L x hx
  have c5 : Tryz.prog.cellsOf 5 = 1 := by kernel_rfl
  have c4 : Tryz.prog.cellsOf 4 = 1 := by kernel_rfl
  obtain ⟨ys, m, _, _, _, hyl, hf⟩ := DataW.trod_struct Tryz.underlying45 hx
  have f0 : DataW.trod enc Tryz.prog w base spare held m 5 ((L.drop 0).take 1) = ys[0]? := by rw [← c5]; exact hf 0 _ rfl
  have f1 : DataW.trod enc Tryz.prog w base spare held m 5 ((L.drop 1).take 1) = ys[1]? := by rw [← c5]; exact hf 1 _ rfl
  have f2 : DataW.trod enc Tryz.prog w base spare held m 5 ((L.drop 2).take 1) = ys[2]? := by rw [← c5]; exact hf 2 _ rfl
  have f3 : DataW.trod enc Tryz.prog w base spare held m 4 ((L.drop 3).take 1) = ys[3]? := by rw [← c4]; exact hf 3 _ rfl
  have hyl' : ys.length = 4 := by simpa using hyl
  rw [List.getElem?_eq_getElem (by omega)] at f0 f1 f2 f3
  obtain ⟨k0, e0, _, w0⟩ := DataW.trod_int Tryz.underlying5 f0
  obtain ⟨k1, e1, _, w1⟩ := DataW.trod_int Tryz.underlying5 f1
  obtain ⟨k2, e2, _, w2⟩ := DataW.trod_int Tryz.underlying5 f2
  obtain ⟨k3, e3, _⟩ := DataW.trod_bool Tryz.underlying4 f3
  have g0 : L[0]? = some (.int .u8 k0) := by have := congrArg (·[0]?) e0; simpa [List.getElem?_take, List.getElem?_drop] using this
  have g1 : L[1]? = some (.int .u8 k1) := by have := congrArg (·[0]?) e1; simpa [List.getElem?_take, List.getElem?_drop] using this
  have g2 : L[2]? = some (.int .u8 k2) := by have := congrArg (·[0]?) e2; simpa [List.getElem?_take, List.getElem?_drop] using this
  have g3 : L[3]? = some (.bool k3) := by have := congrArg (·[0]?) e3; simpa [List.getElem?_take, List.getElem?_drop] using this
  exact ⟨(k0, k1, k2, k3), fun b o hj => ⟨⟨(hj 0 (by decide)).trans g0, (hj 1 (by decide)).trans g1, (hj 2 (by decide)).trans g2, (hj 3 (by decide)).trans g3⟩, op.u8wf w0, op.u8wf w1, op.u8wf w2⟩⟩
end
end Go.Proofs.YtmmfpkkkpeapeaaGreatDoor.mb

/- WrapPasses: behind a way: what holds before the next round; the sides' numbers; what Pass answers, way by way: plain. -/
set_option linter.unusedVariables false
namespace Go.Proofs.YtmmfpkkkpeapeaaGreatDoor.wy
open Go.RowKit Go.Maps mem rec ar mb
set_option maxHeartbeats 400000
/-- What the loads want ahead of Pass. -/
def HeldP (q p cb : Nat) (lv : Value) (b13 b15 : Nat) (m r : Int) (w : World) : Prop :=
  w.cell? ⟨q, 2, none⟩ = some lv ∧ w.cell? ⟨q, 0, none⟩ = some (.pointer (some ⟨p, 0, none⟩)) ∧ w.cell? ⟨q, 1, none⟩ = some (.map (some cb)) ∧ w.cell? ⟨b13, 0, none⟩ = some (.int .i64 m) ∧ w.cell? ⟨b15, 0, none⟩ = some (.int .u64 r)
theorem HeldP.up {w w' : World} {q p cb : Nat} {lv : Value} {b13 b15 : Nat} {m r : Int} (h : HeldP q p cb lv b13 b15 m r w) (u : Up w w') : HeldP q p cb lv b13 b15 m r w' :=
  ⟨up_cell u h.1, up_cell u h.2.1, up_cell u h.2.2.1, up_cell u h.2.2.2.1, up_cell u h.2.2.2.2⟩
theorem HeldP.chg {F : List Nat} {w w' : World} {q p cb : Nat} {lv : Value} {b13 b15 : Nat} {m r : Int} (h : HeldP q p cb lv b13 b15 m r w) (c : Chg F w w') (nq : q ∉ F) (n13 : b13 ∉ F) (n15 : b15 ∉ F) : HeldP q p cb lv b13 b15 m r w' := by
  obtain ⟨h1, h2, h3, h4, h5⟩ := h
  exact ⟨(c.cell (World.block_lt_of_cell? w _ h1) nq).trans h1, (c.cell (World.block_lt_of_cell? w _ h2) nq).trans h2, (c.cell (World.block_lt_of_cell? w _ h3) nq).trans h3, (c.cell (World.block_lt_of_cell? w _ h4) n13).trans h4, (c.cell (World.block_lt_of_cell? w _ h5) n15).trans h5⟩
/-- What the loads want ahead of Pass of the plain value. -/
def HeldY (q p cb : Nat) (lv : Value) (b13 b5 : Nat) (m pk pn : Int) (ps : ByteArray) (w : World) : Prop :=
  w.cell? ⟨q, 2, none⟩ = some lv ∧ w.cell? ⟨q, 0, none⟩ = some (.pointer (some ⟨p, 0, none⟩)) ∧ w.cell? ⟨q, 1, none⟩ = some (.map (some cb)) ∧ w.cell? ⟨b13, 0, none⟩ = some (.int .i64 m) ∧ w.cell? ⟨b5, 0, none⟩ = some (.int .u8 pk) ∧ w.cell? ⟨b5, 1, none⟩ = some (.int .i64 pn) ∧ w.cell? ⟨b5, 2, none⟩ = some (.string ps)
theorem HeldY.up {w w' : World} {q p cb : Nat} {lv : Value} {b13 b5 : Nat} {m pk pn : Int} {ps : ByteArray} (h : HeldY q p cb lv b13 b5 m pk pn ps w) (u : Up w w') : HeldY q p cb lv b13 b5 m pk pn ps w' :=
  ⟨up_cell u h.1, up_cell u h.2.1, up_cell u h.2.2.1, up_cell u h.2.2.2.1, up_cell u h.2.2.2.2.1, up_cell u h.2.2.2.2.2.1, up_cell u h.2.2.2.2.2.2⟩
section
variable {w0 w wx W : World} {q p cb k xb : Nat} {vr v v' : Nat → Value} {A : Ar} {C : Ca} {L : List Mb} {T : List Th} {d : Int} {av : Value} {R : Res}
theorem Mt.nf (h : St w0 w q p cb vr v A C L (k + 1) d) (M : Mt w0 w wx q p cb vr v v' R L k (d + 1) xb) : ∀ b, b < w.heap.size → b ∉ cb :: foot p v → b ∉ cb :: foot p v' := fun b hb hn hx => by
  rcases List.mem_cons.1 hx with h1 | h1
  · exact hn (by rw [h1]; exact List.mem_cons_self ..)
  · rcases M.fb b h1 with h2 | h2
    · exact hn (List.mem_cons_of_mem _ h2)
    · omega
theorem Ps.same (h : Ps w0 w q p cb vr v A C L (k + 1) d av T) (M : Mt w0 w wx q p cb vr v v' R L k (d + 1) xb) (hA : R.A = A) (hC : R.C = C) : Ps w0 wx q p cb vr v' A C L k (d + 1) av T := by
  have S := M.st
  rw [hA, hC] at S
  exact ⟨S, owns_chg h.row M.cg (fun b hb => (h.nb b hb).1), fun b hb => ⟨Mt.nf h.st M b (h.row.lt b hb).2 (h.nb b hb).1, (h.nb b hb).2⟩, h.th, h.ne⟩
/-- A thing more. -/
theorem Ps.more {o1 : Obj} {g c H n1 : Nat} {w5 : World} {t : Th} (h : Ps w0 w q p cb vr v A C L (k + 1) d av T) (M : Mt w0 w wx q p cb vr v v' R L k (d + 1) xb) (u : Up wx W) (ht : Ths R.A (T ++ [t]))
    (hrow : w5.ownsRow 0 43 5 (.slice (some ⟨g, 0, none⟩) n1 c) n1 (T.flatMap cellsT ++ cellsT t)) (hn1 : n1 = T.length + 1) (hg : (W.alloc o1).grownBy w5 av.ownBlock) (at_ : av.ownBlock = some g ∨ g = H) (hH : (W.alloc o1).heap.size = H) :
    Ps w0 w5 q p cb vr v' R.A R.C L k (d + 1) (.slice (some ⟨g, 0, none⟩) n1 c) (T ++ [t]) := by
  subst hn1 hH
  have z0 := h.st.bel.size
  have z1 := M.cg.size
  have zu := u.size
  rw [World.size_alloc] at at_
  have lb : ∀ b, av.ownBlock = some b → b < w.heap.size := fun b hb => (h.row.lt b hb).2
  have nf := Mt.nf h.st M
  have C5 : Chg av.ownBlock.toList wx w5 := ((u.chg.mono (by simp)).alloc o1).grown hg (fun b hb => .inl (by simp [hb]))
  have inF : ∀ b ∈ av.ownBlock.toList, av.ownBlock = some b := fun b hb => by simpa using hb
  refine ⟨M.st.chg C5 (fun b hb => (h.nb b (inF b hb)).2.2) (fun b hb hx => (h.nb b (inF b hx)).2.1 hb) (fun b hb hx => nf b (lb b (inF b hx)) (h.nb b (inF b hx)).1 hb), ?_, fun b hb => ?_, ht, h.ne⟩
  · rw [List.length_append, List.flatMap_append, List.flatMap_singleton]
    exact hrow
  · cases hb
    rcases at_ with h1 | h1
    · obtain ⟨e1, e2, e3⟩ := h.nb g h1
      exact ⟨nf g (lb g h1) e1, e2, e3⟩
    · refine ⟨fun hx => ?_, fun hx => ?_, by show w0.heap.size ≤ g; omega⟩
      · have := M.st.wr.lt g hx; omega
      · have := M.st.rw_.lt g hx; omega
/-- The sides' numbers as they lie. -/
theorem flatS_get : ∀ (l : List Mb) (n j : Nat) (s : Mb), l[n]? = some s → j < 2 → (l.flatMap (fun m => [Value.int .i64 m.1, Value.int .i64 m.2.1]))[n * 2 + j]? = [Value.int .i64 s.1, Value.int .i64 s.2.1][j]?
  | [], n, j, s, h, _ => by simp at h
  | a :: l, 0, j, s, h, hj => by
    simp at h; subst h
    rw [List.flatMap_cons, List.getElem?_append_left (by show _ < 2; omega)]; simp
  | a :: l, n + 1, j, s, h, hj => by
    simp at h
    rw [List.flatMap_cons, List.getElem?_append_right (by show 2 ≤ _; omega), show ([Value.int .i64 a.1, Value.int .i64 a.2.1]).length = 2 from rfl, show (n + 1) * 2 + j - 2 = n * 2 + j by omega]
    exact flatS_get l n j s h hj
theorem St.sides (h : St w0 w q p cb vr v A C L k d) (hL : 0 < L.length) : ∃ g2 c2, vr 2 = .slice (some ⟨g2, 0, none⟩) L.length c2 ∧ ∀ (i : Nat) (s : Mb), L[i]? = some s → w.cell? ⟨g2, i * 2, none⟩ = some (.int .i64 s.1) ∧ w.cell? ⟨g2, i * 2 + 1, none⟩ = some (.int .i64 s.2.1) := by
  have r2 : w.ownsRow 0 (rT 2) (rS 2) (vr 2) L.length (rowW L 4 2) := h.rw_.ow 2 (by omega)
  obtain ⟨g2, c2, e2, -, l2⟩ := r2.form hL
  refine ⟨g2, c2, e2, fun i s hs => ?_⟩
  rw [e2] at r2
  have hi := (List.getElem?_eq_some_iff.1 hs).1
  refine ⟨?_, ?_⟩
  · rw [World.ownsRow.cellAt r2 (i * 2) (by show _ < L.length * 2; omega)]
    exact flatS_get L i 0 s hs (by decide)
  · rw [World.ownsRow.cellAt r2 (i * 2 + 1) (by show _ < L.length * 2; omega)]
    exact flatS_get L i 1 s hs (by decide)
theorem St.deads (h : St w0 w q p cb vr v A C L k d) (hL : 0 < L.length) : ∃ g3 c3, vr 3 = .slice (some ⟨g3, 0, none⟩) L.length c3 ∧ ∀ (i : Nat) (s : Mb), L[i]? = some s → w.cell? ⟨g3, i, none⟩ = some (.bool s.2.2) := by
  have r3 : w.ownsRow 0 (rT 3) (rS 3) (vr 3) L.length (L.map fun x => Value.bool x.2.2) := h.rw_.ow 3 (by omega)
  obtain ⟨g3, c3, e3, -, l3⟩ := r3.form hL
  refine ⟨g3, c3, e3, fun i s hs => ?_⟩
  rw [e3] at r3
  have hi := (List.getElem?_eq_some_iff.1 hs).1
  rw [World.ownsRow.cellAt r3 i (by show _ < L.length * 1; omega), List.getElem?_map, hs]
  rfl
end
/-! ### which side it comes from -/
def frm (s : Mb) (y : Int) : Nat → Int
  | 0 => -1
  | 1 => if y = s.1 then s.2.1 else -1
  | _ => if y = s.1 then s.2.1 else if y = s.2.1 then s.1 else -1
section
variable {L : List Mb} {m : Nat} {s : Mb} {y f : Int}
theorem frm_of (hs : L[m]? = some s) : (otherR L (m : Int) y).getD (-1) = frm s y 2 := by
  unfold otherR mbAt
  rw [if_pos (Int.natCast_nonneg m), Int.toNat_natCast, hs]
  show (if y = s.1 then some s.2.1 else if y = s.2.1 then some s.1 else none).getD (-1) = if y = s.1 then s.2.1 else if y = s.2.1 then s.1 else -1
  split
  · rfl
  · split <;> rfl
theorem frm_none (hm : ¬ m < L.length) : (otherR L (m : Int) y).getD (-1) = -1 := by
  unfold otherR mbAt
  rw [if_pos (Int.natCast_nonneg m), Int.toNat_natCast, List.getElem?_eq_none (by omega)]
  rfl
theorem other_lt (h : otherR L (m : Int) y = some f) : m < L.length := by
  rcases Nat.lt_or_ge m L.length with h1 | h1
  · exact h1
  · unfold otherR mbAt at h
    rw [if_pos (Int.natCast_nonneg m), Int.toNat_natCast, List.getElem?_eq_none h1] at h
    cases h
theorem dead_at (hs : L[m]? = some s) : deadR L (m : Int) = s.2.2 := by
  unfold deadR mbAt
  rw [if_pos (Int.natCast_nonneg m), Int.toNat_natCast, hs]
/-! ### the answers, way by way -/
variable {C : Ca} {A : Ar} {x : Th} {yv : V3} {t : Th} {mm into : Int}
theorem ans_none (h : otherR L mm into = none) : ansT L C A mm into x = ⟨zero3, 4, A, C⟩ ∧ ansP L mm into yv = (zero3, 4) := by unfold ansT ansP; rw [h]; exact ⟨rfl, rfl⟩
theorem ans_dead (h : otherR L mm into = some f) (hd : deadR L mm = true) : ansT L C A mm into x = ⟨zero3, 12, A, C⟩ ∧ ansP L mm into yv = (zero3, 12) := by unfold ansT ansP; rw [h]; simp only; rw [if_pos hd, if_pos hd]; exact ⟨rfl, rfl⟩
theorem ans_plain (h : otherR L mm into = some f) (hd : deadR L mm = false) : ansP L mm into yv = (yv, 0) := by unfold ansP; rw [h]; simp only; rw [if_neg (by rw [hd]; decide)]
theorem ans_owner (h : otherR L mm into = some f) (hd : deadR L mm = false) (ho : x.owner ≠ f) : ansT L C A mm into x = ⟨zero3, 17, A, C⟩ := by unfold ansT; rw [h]; simp only; rw [if_neg (by rw [hd]; decide), if_pos ho]
theorem ans_back (h : otherR L mm into = some f) (hd : deadR L mm = false) (ho : x.owner = f) (hm : x.m = mm) : ansT L C A mm into x = ⟨(5, (x.target : Int), ⟨#[]⟩), 0, A, C⟩ := by
  unfold ansT; rw [h]; simp only; rw [if_neg (by rw [hd]; decide), if_neg (fun h => h ho), if_pos hm]
theorem ans_hit (h : otherR L mm into = some f) (hd : deadR L mm = false) (ho : x.owner = f) (hm : x.m ≠ mm) {r : Nat} (hc : C mm x.r = some r) : ansT L C A mm into x = ⟨(5, (r : Int), ⟨#[]⟩), 0, A, C⟩ := by
  unfold ansT; rw [h]; simp only; rw [if_neg (by rw [hd]; decide), if_neg (fun h => h ho), if_neg hm, hc]
theorem ans_chain (h : otherR L mm into = some f) (hd : deadR L mm = false) (ho : x.owner = f) (hm : x.m ≠ mm) (hc : C mm x.r = none) (h6 : x.deep = 6) : ansT L C A mm into x = ⟨zero3, 14, A, C⟩ := by
  unfold ansT; rw [h]; simp only; rw [if_neg (by rw [hd]; decide), if_neg (fun h => h ho), if_neg hm, hc]; simp only; rw [if_pos h6]
theorem ans_new (h : otherR L mm into = some f) (hd : deadR L mm = false) (ho : x.owner = f) (hm : x.m ≠ mm) (hc : C mm x.r = none) (h6 : x.deep ≠ 6) : ansT L C A mm into x = ⟨(5, (A.name : Int), ⟨#[]⟩), 0, A.add (proxyOb into mm x.r (x.deep + 1)), C.put mm x.r A.name⟩ := by
  unfold ansT; rw [h]; simp only; rw [if_neg (by rw [hd]; decide), if_neg (fun h => h ho), if_neg hm, hc]; simp only; rw [if_neg h6]
/-- What a thing of a membrane stands for is a name. -/
theorem target_lt {k : Nat} {d : Int} {T : List Th} (h : Ths A T) (hn : Net A C L d) (hR : Room A k) (hx : x ∈ T) (hm : 0 ≤ x.m) : x.target < 9223372036854775808 := by
  obtain ⟨o, ho, -, -, h3⟩ := h.ob x hx
  rcases h3 with ⟨-, h4⟩ | ⟨k6, h4, h5, h6⟩
  · omega
  · obtain ⟨u, o', g1, g2, -⟩ := hn.px x.r o ho k6
    have e2 : u = x.target := by have := g1.symm.trans h6; omega
    rw [← e2]
    exact find_lt hR g2
theorem name_of {k : Nat} {T : List Th} (h : Ths A T) (hR : Room A k) (hx : x ∈ T) : x.r < 9223372036854775808 := by
  obtain ⟨o, ho, -⟩ := h.ob x hx
  exact find_lt hR ho
end
/-- A name's object in whatever world that has grown. -/
theorem obj_of {w0 w : World} {q p cb k : Nat} {vr v : Nat → Value} {A : Ar} {C : Ca} {L : List Mb} {d : Int} {r : Nat} {o : Ob} (h : St w0 w q p cb vr v A C L k d) (hf : A.find r = some o) :
    ∃ g off, (∀ wx, Up w wx → Calls Tryz.prog 14 #[.pointer (some ⟨p, 0, none⟩), .int .u64 r] wx fun e w' => e = .returned (.pointer (some ⟨g, off, none⟩)) ∧ Up wx w') ∧ ObAt w g off o := by
  have pt := h.wr.pt
  have hr := find_lt h.wr.rm hf
  obtain ⟨s, hs, -⟩ := find_slot hf
  obtain ⟨g, cap, -, hog, -⟩ := pt.obAt hs
  exact ⟨g, _, fun wx hx => ar.get_at wx p r v A o g hog (pt.up hx) (by omega) hf, obAt_find hog pt hf⟩
theorem index_tz (va : Value) (T : List Th) (b13 b15 : Nat) (m : Int) (r : Nat) (w : World) (ha : ThsAt w va T) (h13 : w.cell? ⟨b13, 0, none⟩ = some (.int .i64 m)) (h15 : w.cell? ⟨b15, 0, none⟩ = some (.int .u64 (r : Int))) (hn : T.length ≤ 100) :
    Calls Tryz.prog 12 #[va, .func (.func 13) #[] #[.pointer (some ⟨b13, 0, none⟩), .pointer (some ⟨b15, 0, none⟩)]] w fun e w' =>
      ∃ z : Int, e = .returned (.int .i64 z) ∧ ((z = -1 ∧ ∀ x ∈ T, hitT m r x = false) ∨ ∃ (k : Nat) (x : Th), T[k]? = some x ∧ hitT m r x = true ∧ z = (k : Int)) ∧ Up w w' := by
  refine (index_t va T b13 b15 m r w ha h13 h15 hn).mono ?_
  rintro e w' ⟨⟨rfl, h1⟩ | ⟨k, x, h1, h2, rfl⟩, hu⟩
  · exact ⟨-1, rfl, .inl ⟨rfl, h1⟩, hu⟩
  · exact ⟨k, rfl, .inr ⟨k, x, h1, h2, rfl⟩, hu⟩
theorem ths_cells {w : World} {base g c : Nat} {l : List Th} (h : w.ownsRow base 43 5 (.slice (some ⟨g, 0, none⟩) l.length c) l.length (l.flatMap cellsT)) : ∀ i x, l[i]? = some x → ThAt w g (i * 5) x := by
  intro i x hx
  have hi := (List.getElem?_eq_some_iff.1 hx).1
  have cell : ∀ j, j < 5 → w.cell? ⟨g, i * 5 + j, none⟩ = (cellsT x)[j]? := fun j hj => by
    rw [World.ownsRow.cellAt h (i * 5 + j) (by omega)]
    exact flat5_get l i j x hx hj
  exact ⟨cell 0 (by omega), cell 1 (by omega), cell 2 (by omega), cell 3 (by omega), cell 4 (by omega)⟩
end Go.Proofs.YtmmfpkkkpeapeaaGreatDoor.wy
