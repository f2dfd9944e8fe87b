/- Laid variables as the evaluator's first state: computed out of the row's data. No condition. -/
import Derived.Test.YtmmfpkkkpeapeaaGreatDoorEvY
set_option linter.unusedSectionVars false
set_option linter.unusedVariables false
set_option linter.unusedSimpArgs false
namespace Go.Proofs.YtmmfpkkkpeapeaaGreatDoor.Ev
open Go Go.RowKit Go.WideShapes
def plainAC : AC → Bool
  | .val v => plainV 6 v
  | .tab l => l.all fun p => plainV 6 p.2
  | .top => true
def numb : List AC → Nat → List Value × List (List (Value × Value))
  | [], _ => ([], [])
  | .val v :: as, k => (v :: (numb as k).1, (numb as k).2)
  | .top :: as, k => (.complex .f64 0 0 :: (numb as k).1, (numb as k).2)
  | .tab l :: as, k => (.map (some k) :: (numb as (k + 1)).1, l :: (numb as (k + 1)).2)
def tabsAt : List (List (Value × Value)) → Nat → List (Nat × AObj)
  | [], _ => []
  | l :: ls, k => (k, .table l) :: tabsAt ls (k + 1)
theorem mem_tabsAt : ∀ (ls : List (List (Value × Value))) (k b : Nat) (o : AObj), (b, o) ∈ tabsAt ls k → ∃ j l, b = k + j ∧ ls[j]? = some l ∧ o = .table l
  | [], k, b, o, h => by cases h
  | l :: ls, k, b, o, h => by
    simp only [tabsAt, List.mem_cons, Prod.mk.injEq] at h
    rcases h with ⟨rfl, rfl⟩ | h
    · exact ⟨0, l, rfl, rfl, rfl⟩
    · obtain ⟨j, l', rfl, e, rfl⟩ := mem_tabsAt ls (k + 1) b o h
      exact ⟨j + 1, l', by omega, by simpa using e, rfl⟩
/-- Which cells one variable of the row has. -/
def cellsOfD (P : Program) (n : String) (d : DataW Unit) : Option (Nat × List AC) :=
  (P.globalNamed n).bind fun g => (((P.globals[g]?).map (·.type)).bind fun t => absD P 20 t d).bind fun acs => if acs.all plainAC then some (g, acs) else none
def genL (P : Program) : List (String × DataW Unit) → Nat → List (Nat × AObj) × Nat
  | [], _ => ([], 0)
  | (n, d) :: r, k =>
    match cellsOfD P n d with
    | none => genL P r k
    | some (g, acs) =>
      let p := numb acs k
      let q := genL P r (k + p.2.length)
      ((g, .cells p.1.toArray 0 true 0) :: (tabsAt p.2 k ++ q.1), p.2.length + q.2)
def setAll (l : List (Nat × AObj)) (t : Tr AObj) : Tr AObj := l.foldl (fun t p => Tr.set deep t p.1 (some p.2)) t
theorem setAll_get : ∀ (l : List (Nat × AObj)) (t : Tr AObj) (b : Nat) (o : AObj), (l.all fun p => decide (p.1 + 1 < 1099511627776)) = true → (setAll l t).get b = some o → (b, o) ∈ l ∨ t.get b = some o
  | [], t, b, o, _, h => .inr h
  | p :: l, t, b, o, hl, h => by
    simp only [List.all_cons, Bool.and_eq_true, decide_eq_true_eq] at hl
    rcases setAll_get l (Tr.set deep t p.1 (some p.2)) b o hl.2 h with h1 | h1
    · exact .inl (List.mem_cons_of_mem _ h1)
    · rw [Tr.get_set deep t p.1 (some p.2) b (lt_deep hl.1)] at h1
      split at h1
      · rename_i e
        have h2 : p = (b, o) := by rw [e]; cases h1; rfl
        exact .inl (by rw [h2]; exact List.mem_cons_self ..)
      · exact .inr h1
variable [Sym]
theorem VL.get {ι : Ren} {l l' : List Value} (h : VL ι l l') : l'.length = l.length ∧ ∀ i, i < l.length → VRel ι (l.getD i undef) (l'.getD i undef) := by
  induction h with
  | nil => exact ⟨rfl, fun i hi => absurd hi (by simp)⟩
  | cons h _ ih =>
    refine ⟨by simp [ih.1], fun i hi => ?_⟩
    cases i with
    | zero => exact h
    | succ i => simpa using ih.2 i (by simpa using hi)
theorem table_of {w : World} {l : List (Value × Value)} {es : Array MapEntry} {k : Nat} (hp : (l.all fun p => plainV 6 p.2) = true) (h1 : ∀ e ∈ es.toList, ∃ p ∈ l, e.key = p.1 ∧ e.val = p.2) (h2 : ∀ p ∈ l, ∃ e ∈ es.toList, e.key = p.1) (ι : Ren) (κ : Nat) :
    ORel ι κ (.table l) (.map es k) := by
  refine .table (fun e he => ?_) h2
  obtain ⟨p, hm, e1, e2⟩ := h1 e he
  refine ⟨p, hm, e1, ?_⟩
  rw [e2]
  exact plainV_rel ι 6 _ (List.all_eq_true.1 hp p hm)
theorem numb_spec {w : World} {ps : List MemPlace} {acs : List AC} {cs : List Value} (h : ACL w ps acs cs) : acs.all plainAC = true → ∀ k, ∃ bs : List Nat, bs.length = (numb acs k).2.length ∧
    (∀ ι : Ren, (∀ j b, bs[j]? = some b → ι.to (k + j) = some b) → VL ι (numb acs k).1 cs) ∧
    (∀ (j b : Nat), bs[j]? = some b → ∃ (es : Array MapEntry) (n : Nat), w.heap[b]? = some (.map es n) ∧ ∀ l, (numb acs k).2[j]? = some l → ∀ ι κ, ORel ι κ (.table l) (.map es n)) := by
  induction h with
  | nil => exact fun _ k => ⟨[], rfl, fun _ _ => .nil, fun j b e => by cases e⟩
  | cons hc _ ih =>
    intro hp k
    simp only [List.all_cons, Bool.and_eq_true] at hp
    cases hc with
    | val =>
      obtain ⟨bs, h1, h2, h3⟩ := ih hp.2 k
      exact ⟨bs, h1, fun ι hι => .cons (plainV_rel ι 6 _ hp.1) (h2 ι hι), h3⟩
    | top =>
      obtain ⟨bs, h1, h2, h3⟩ := ih hp.2 k
      exact ⟨bs, h1, fun ι hι => .cons (.top _) (h2 ι hι), h3⟩
    | tab hh hpm g1 g2 =>
      rename_i l b clock es
      obtain ⟨bs, h1, h2, h3⟩ := ih hp.2 (k + 1)
      refine ⟨b :: bs, by simp [numb, h1], fun ι hι => .cons (.map (hι 0 b rfl)) (h2 ι fun j c e => ?_), fun j c e => ?_⟩
      · have := hι (j + 1) c (by simpa using e)
        rwa [show k + (j + 1) = k + 1 + j by omega] at this
      · cases j with
        | zero =>
          cases e
          refine ⟨es, _, hh, fun l' e' ι κ => ?_⟩
          cases e'
          exact table_of (w := w) hp.1 g1 g2 ι κ
        | succ j =>
          obtain ⟨es', n', a1, a2⟩ := h3 j c (by simpa using e)
          exact ⟨es', n', a1, fun l' e' => a2 l' (by simpa [numb] using e')⟩
theorem numb_len {w : World} {ps : List MemPlace} {acs : List AC} {cs : List Value} (h : ACL w ps acs cs) : ∀ k, cs.length = (numb acs k).1.length := by
  induction h with
  | nil => intro k; rfl
  | cons hc _ ih =>
    intro k
    cases hc <;> (simp only [numb, List.length_cons]; exact congrArg (· + 1) (ih _))
theorem genL_spec {P : Program} {w : World} : ∀ (laid : List (String × DataW Unit)) (ps : List MemPlace), DataW.LaidVars P w laid ps → ∀ k, ∃ bs : List Nat, bs.length = (genL P laid k).2 ∧
    (∀ (j b : Nat), bs[j]? = some b → b < w.heap.size) ∧
    ∀ (b : Nat) (o : AObj), (b, o) ∈ (genL P laid k).1 →
      (b < P.globals.size ∧ ∃ ro, w.heap[b]? = some ro ∧ (∀ ι : Ren, (∀ j r, bs[j]? = some r → ι.to (k + j) = some r) → ORel ι 0 o ro) ∧ ∃ c c' t' fr, o = .cells c 0 true 0 ∧ ro = .cells c' t' fr ∧ c'.size = c.size) ∨
      (∃ j r ro, b = k + j ∧ bs[j]? = some r ∧ w.heap[r]? = some ro ∧ (∀ ι : Ren, ORel ι 0 o ro) ∧ ∃ l, o = .table l)
  | [], ps, _, k => ⟨[], rfl, (fun j b e => by cases e), (fun b o h => by cases h)⟩
  | (n, d) :: r, ps, h, k => by
    obtain ⟨g, t, cs, fuel, p, q, e1, e2, e3, e4, h5, _⟩ := h
    unfold genL
    cases hc : cellsOfD P n d with
    | none => exact genL_spec r q h5 k
    | some x =>
      obtain ⟨g', acs⟩ := x
      dsimp only
      unfold cellsOfD at hc
      rw [e1, Option.bind_some, e2, Option.bind_some] at hc
      obtain ⟨acs', ha, hc⟩ := Option.bind_eq_some_iff.1 hc
      split at hc
      · rename_i hp
        simp only [Option.some.injEq, Prod.mk.injEq] at hc
        obtain ⟨rfl, rfl⟩ := hc
        have hacl := absD_spec fuel t cs.toList d p 20 acs' e4 ha
        obtain ⟨bs1, a1, a2, a3⟩ := numb_spec hacl hp k
        obtain ⟨bs2, b1, b2, b3⟩ := genL_spec r q h5 (k + (numb acs' k).2.length)
        have left : ∀ (j b : Nat), bs1[j]? = some b → (bs1 ++ bs2)[j]? = some b := by
          intro j b e
          rw [List.getElem?_append_left (List.getElem?_eq_some_iff.1 e).1]; exact e
        have right : ∀ (j b : Nat), bs2[j]? = some b → (bs1 ++ bs2)[bs1.length + j]? = some b := by
          intro j b e
          rw [List.getElem?_append_right (by omega)]; simpa using e
        have hblk : ∃ tt fr, w.heap[g]? = some (.cells cs tt fr) := by
          simp only [World.var?, e1, Option.bind_some] at e3
          split at e3
          · rename_i cs' tt fr hh
            cases e3
            exact ⟨_, _, hh⟩
          · cases e3
        obtain ⟨tt, fr, hh⟩ := hblk
        have hgl : g < P.globals.size := by
          rcases Nat.lt_or_ge g P.globals.size with h | h
          · exact h
          · rw [Array.getElem?_eq_none h] at e2; cases e2
        refine ⟨bs1 ++ bs2, by simp [a1, b1], ?_, ?_⟩
        · intro j b e
          rw [List.getElem?_append] at e
          split at e
          · obtain ⟨es, n', hm, _⟩ := a3 j b e
            exact lt_of_heap hm
          · exact b2 _ b e
        · intro b o hm
          simp only [List.mem_cons, List.mem_append, Prod.mk.injEq] at hm
          rcases hm with ⟨rfl, rfl⟩ | hm | hm
          · refine .inl ⟨hgl, _, hh, fun ι hι => ?_, _, _, _, _, rfl, rfl, ?_⟩
            rotate_left
            · have h7 := numb_len hacl k
              rw [Array.length_toList] at h7
              rw [h7, List.size_toArray]
            have hv := (a2 ι fun j c e => hι j c (left j c e)).get
            refine .cells (by simpa using Nat.le_of_eq hv.1.symm) (fun i hi => ?_) (fun h => by cases h) (fun h => absurd rfl h) (fun h => by simp at h)
            have := hv.2 i (by simpa using hi)
            simpa [Array.getD_eq_getD_getElem?, List.getD_eq_getElem?_getD] using this
          · obtain ⟨j, l, rfl, e, rfl⟩ := mem_tabsAt _ _ _ _ hm
            have hj : j < bs1.length := by rw [a1]; exact (List.getElem?_eq_some_iff.1 e).1
            obtain ⟨es, n', hm2, hr⟩ := a3 j bs1[j] (List.getElem?_eq_getElem hj)
            exact .inr ⟨j, bs1[j], _, rfl, left j _ (List.getElem?_eq_getElem hj), hm2, fun ι => hr l e ι 0, _, rfl⟩
          · rcases b3 b o hm with ⟨c1, ro, c2, c3⟩ | ⟨j, r', ro, rfl, c1, c2, c3⟩
            · obtain ⟨c3, c4⟩ := c3
              refine .inl ⟨c1, ro, c2, fun ι hι => c3 ι fun j c e => ?_, c4⟩
              have := hι _ c (right j c e)
              rwa [a1, ← Nat.add_assoc] at this
            · refine .inr ⟨bs1.length + j, r', ro, by rw [a1]; omega, right j _ c1, c2, c3⟩
      · cases hc
/-- The laid variables read as the first state says. -/
theorem laidS_of_met {P : Program} {w : World} {laid : List (String × DataW Unit)} {ng nt : Nat} {heap0 : Tr AObj} (h : laidMet P laid w) (hng : P.globals.size = ng) (hpos : 0 < ng) (hsz : ng ≤ w.heap.size)
    (hgen : setAll (genL P laid ng).1 .nil = heap0) (hcnt : (genL P laid ng).2 = nt) (hsmall : ((genL P laid ng).1.all fun p => decide (p.1 + 1 < 1099511627776)) = true) (next : Nat) : LaidS ng nt ⟨heap0, next⟩ w.heap.size w := by
  obtain ⟨ps, hv, _, _⟩ := h
  obtain ⟨bs, h1, h2, h3⟩ := genL_spec laid ps hv ng
  let m : Nat → Nat := fun b => bs.getD (b - ng) 0
  have hto : ∀ (j r : Nat), bs[j]? = some r → renOf ng nt m (ng + j) = some (r, 0) := by
    intro j r e
    have hj := (List.getElem?_eq_some_iff.1 e).1
    unfold renOf
    rw [if_neg (by omega), if_pos (by omega)]
    simp only [m, show ng + j - ng = j by omega, List.getD_eq_getElem?_getD, e, Option.getD_some]
  refine ⟨Nat.le_refl _, m, fun b r e => ?_, fun b r κ o e1 e2 => ?_, fun b c t f g hbn e2 => ?_⟩
  · unfold Ren.to renOf at e
    split at e
    · simp only [Option.map_some, Option.some.injEq] at e
      omega
    · split at e
      · simp only [Option.map_some, Option.some.injEq, m] at e
        subst e
        rw [List.getD_eq_getElem?_getD]
        cases hb : bs[b - ng]? with
        | none => simp; omega
        | some r => exact h2 _ r hb
      · cases e
  · have e2' : (setAll (genL P laid ng).1 .nil).get b = some o := by rw [hgen]; exact e2
    rcases setAll_get _ _ b o hsmall e2' with hm | hm
    · rcases h3 b o hm with ⟨c1, ro, c2, c3⟩ | ⟨j, r', ro, rfl, c1, c2, c3⟩
      · unfold renOf at e1
        rw [if_pos (by omega)] at e1
        cases e1
        exact ⟨ro, c2, c3.1 _ fun j r e => Ren.to_of (hto j r e)⟩
      · rw [hto j r' c1] at e1
        cases e1
        exact ⟨ro, c2, c3.1 _⟩
    · simp [Tr.get_nil] at hm
  · have e2' : (setAll (genL P laid ng).1 .nil).get b = some (.cells c t f g) := by rw [hgen]; exact e2
    rcases setAll_get _ _ b _ hsmall e2' with hm | hm
    · rcases h3 b _ hm with ⟨c1, ro, c2, _, c4, c', t', fr, e3, rfl, e4⟩ | ⟨j, r', ro, rfl, c1, c2, _, l, e3⟩
      · cases e3
        exact ⟨c', t', fr, c2, e4⟩
      · cases e3
    · simp [Tr.get_nil] at hm
omit [Sym] in
theorem laidN_of_met {P : Program} {w : World} {laid : List (String × DataW Unit)} {ng nt : Nat} {heap0 : Tr AObj} (h : laidMet P laid w) (hng : P.globals.size = ng) (hpos : 0 < ng) (hsz : ng ≤ w.heap.size)
    (hgen : setAll (genL P laid ng).1 .nil = heap0) (hcnt : (genL P laid ng).2 = nt) (hsmall : ((genL P laid ng).1.all fun p => decide (p.1 + 1 < 1099511627776)) = true) (next : Nat) : LaidN ng nt ⟨heap0, next⟩ w.heap.size w :=
  fun S => laidS_of_met h hng hpos hsz hgen hcnt hsmall next
omit [Sym] in
/-- A laid variable's block, whole. -/
theorem laid_cells {P : Program} {ng nt : Nat} {st0 : St} {n : Nat} {w : World} (h : LaidN ng nt st0 n w) {b : Nat} (hb : b < ng) {c : Array Value} {t : TypeId} {f : Bool} {g : Nat} (e : st0.get b = some (.cells c t f g)) (hp : c.all (plainV 6) = true) : ∃ t' fr, w.heap[b]? = some (.cells c t' fr) := by
  letI : Sym := Sym.none
  obtain ⟨_, m, hm⟩ := h Sym.none
  obtain ⟨c', t', fr, h1, h2⟩ := hm.exact b c t f g hb e
  obtain ⟨ro, h3, h4⟩ := hm.obj b b 0 _ (by unfold renOf; rw [if_pos hb]) e
  rw [h1] at h3
  cases h3
  cases h4 with
  | cells hs hv _ _ _ =>
  refine ⟨t', fr, ?_⟩
  rw [h1]
  have : c' = c := by
    rw [Array.all_eq_true] at hp
    apply Array.ext h2
    intro i i1 i2
    have := hv i i2
    rw [Array.getD_eq_getD_getElem?, Array.getD_eq_getD_getElem?, Array.getElem?_eq_getElem i1, Array.getElem?_eq_getElem i2] at this
    exact plainV_eq 6 _ _ (hp i i2) this
  rw [this]
end Go.Proofs.YtmmfpkkkpeapeaaGreatDoor.Ev
