/- A region that draws its order, whole: every order comes to where the text's order comes. No condition. -/
import Derived.Test.YtmmfpkkkpeapeaaGreatDoorEvQ
set_option linter.unusedSectionVars false
set_option linter.unusedVariables false
set_option linter.unusedSimpArgs false
namespace Go.Proofs.YtmmfpkkkpeapeaaGreatDoor.Ev
open Go Go.RowKit
variable [Sym]

inductive ExRel (ι : Ren) : AExit → AExit → Prop
  | normal : ExRel ι .normal .normal
  | exit (id : Nat) : ExRel ι (.exit id) (.exit id)
  | ret : ExRel ι .ret .ret
  | panic {c c' : List PanicEntry} (h : ChainRel ι c c') : ExRel ι (.panic c) (.panic c')
/-- How a frame has come to an exit. -/
def Arr (P : Program) (m : Machine) (b : Frame) (k : List Item) (cs : List Frame) : AExit → Act → World → Prop
  | .normal, a, w => Steps P m (lone (b.atR a k) cs w)
  | .exit id, a, w => ∃ k1, exitTo id k1 = exitTo id k ∧ Steps P m (lone (b.atR a (.code (.exit id) :: k1)) cs w)
  | .ret, a, w => ∃ k1, Steps P m (lone (b.atR a (.code .ret :: k1)) cs w)
  | .panic ch, a, w => ∃ todo, Steps P m (lone { b.atR a todo with mode := .panicking ch } cs w)
theorem Arr.of_steps {P : Program} {m m1 : Machine} {b : Frame} {k : List Item} {cs : List Frame} {ex : AExit} {a : Act} {w : World} (h : Steps P m m1) (h' : Arr P m1 b k cs ex a w) : Arr P m b k cs ex a w := by
  cases ex with
  | normal => exact h.trans h'
  | exit id => obtain ⟨k1, e, hs⟩ := h'; exact ⟨k1, e, h.trans hs⟩
  | ret => obtain ⟨k1, hs⟩ := h'; exact ⟨k1, h.trans hs⟩
  | panic ch => obtain ⟨todo, hs⟩ := h'; exact ⟨todo, h.trans hs⟩
theorem WRel.same {G : Nat} {B : Bd} {ι : Ren} {st st2 : St} {w : World} (h : WRel G B ι st w) (e : ∀ b, st2.get b = st.get b) (hn : G ≤ st2.next) : WRel G B ι st2 w :=
  ⟨fun b r κ o e1 e2 => h.obj b r κ o e1 (by rw [← e]; exact e2), h.lt, fun b b' r g1 g2 e1 e2 s1 s2 => h.inj b b' r g1 g2 e1 e2 (by rw [← e]; exact s1) (by rw [← e]; exact s2), h.under, hn, h.low, h.glob, h.big, h.laid⟩
theorem RegRel.same {ι : Ren} {r r2 : Regs} {a : Act} {u : FrameMode} (h : RegRel ι r a u) (hs : r2.size = r.size) (hd : r2.defers = r.defers) (hm : r2.mode = r.mode) (hg : ∀ t, r2.get t = r.get t) : RegRel ι r2 a u :=
  ⟨h.size.trans hs.symm, by rw [hs]; exact h.lt, fun t => by rw [hg]; exact h.tmp t, by rw [hd]; exact h.defers, by rw [hm]; exact h.mode⟩
theorem Run.told {α : Type} {m : LM α} {st st' : St} {q : α × List Nat × List Nat} (h : Run (LM.told m) st q st') : m.run st = some (q.1, st', q.2.1, q.2.2) := by
  obtain ⟨rd, wr, h⟩ := h
  simp only [LM.told] at h
  split at h
  · cases h
  · rename_i h1
    cases h
    exact h1
theorem put_size (r : Regs) (d : Option Nat) (v : Value) : (r.put d v).size = r.size := by
  cases d with
  | none => rfl
  | some d => simp only [Regs.put]; split <;> rfl
theorem put_defers (r : Regs) (d : Option Nat) (v : Value) : (r.put d v).defers = r.defers := by
  cases d with
  | none => rfl
  | some d => simp only [Regs.put]; split <;> rfl
theorem put_mode (r : Regs) (d : Option Nat) (v : Value) : (r.put d v).mode = r.mode := by
  cases d with
  | none => rfl
  | some d => simp only [Regs.put]; split <;> rfl
theorem put_get (r : Regs) (h : r.size < 1000000) (d : Option Nat) (v : Value) (t : Nat) : (r.put d v).get t = if d = some t ∧ t < r.size then v else r.get t := by
  cases d with
  | none => simp [Regs.put]
  | some d =>
    rw [Regs.get_put h]
    by_cases e : t = d
    · subst e; simp
    · rw [if_neg (by rintro ⟨_, h⟩; exact e h), if_neg (by rintro ⟨h, _⟩; cases h; exact e rfl)]
section
variable (E : Env) (X : Ext) (rec : Req → LM Ans2) (ops : Array Oper)
def TrackAt (opers : List Oper) (S : Nat → St) (R : Nat → Regs) (V : Nat → Value) (I : Nat → Info) (i : Nat) : Prop :=
  ∃ o, opers[i]? = some o ∧ (evOut E X rec ops (R i) o).run (S i) = some (.val (V i), S (i + 1), (I i).rd, (I i).wr) ∧ (I i).lo = (S i).next ∧ (I i).hi = (S (i + 1)).next ∧ R (i + 1) = (R i).put o.dst (V i)
end
section
variable {E : Env} {X : Ext} {rec : Req → LM Ans2} {ops : Array Oper}
theorem draws_track : ∀ (opers : List Oper) (r : Regs) (st : St) (p : Option (List PanicEntry) × Regs × List Info) (st' : St), Run (evDraws E X rec ops opers r) st p st' →
    ∃ q S R V I, S 0 = st ∧ R 0 = r ∧ (∀ i, i < q → TrackAt E X rec ops opers S R V I i) ∧ (∀ i, i < q → p.2.2[i]? = some (I i)) ∧ p.2.1 = R q ∧
      ((p.1 = none ∧ q = opers.length ∧ st' = S q) ∨ (∃ ch o, p.1 = some ch ∧ p.2.2.length = q + 1 ∧ opers[q]? = some o ∧ Run (evOut E X rec ops (R q) o) (S q) (.panic ch) st')) := by
  intro opers
  induction opers with
  | nil =>
    intro r st p st' h
    obtain ⟨rfl, rfl⟩ := Run.pure.1 h
    exact ⟨0, fun _ => st', fun _ => r, fun _ => undef, fun _ => ⟨[], [], 0, 0⟩, rfl, rfl, fun i hi => absurd hi (by omega), fun i hi => absurd hi (by omega), rfl, .inl ⟨rfl, rfl, rfl⟩⟩
  | cons o rest ih =>
    intro r st p st' h
    unfold evDraws at h
    replace h := Run.bind.1 h
    obtain ⟨n0, st1, h1, h⟩ := h
    obtain ⟨rfl, rfl⟩ := Run.mark.1 h1
    replace h := Run.bind.1 h
    obtain ⟨q, st2, h2, h⟩ := h
    replace h2 := Run.told h2
    replace h := Run.bind.1 h
    obtain ⟨n1, st3, h3, h⟩ := h
    obtain ⟨rfl, rfl⟩ := Run.mark.1 h3
    obtain ⟨x, rd, wr⟩ := q
    dsimp only at h h2
    split at h
    · rename_i v
      replace h := Run.bind.1 h
      obtain ⟨p2, st4, h4, h⟩ := h
      obtain ⟨rfl, rfl⟩ := Run.pure.1 h
      obtain ⟨q, S, R, V, I, hS, hR, ht, hI, hr, hend⟩ := ih _ _ _ _ h4
      refine ⟨q + 1, fun n => match n with | 0 => st1 | n + 1 => S n, fun n => match n with | 0 => r | n + 1 => R n, fun n => match n with | 0 => v | n + 1 => V n,
        fun n => match n with | 0 => ⟨rd, wr, st1.next, st3.next⟩ | n + 1 => I n, rfl, rfl, ?_, ?_, hr, ?_⟩
      · intro i hi
        cases i with
        | zero => exact ⟨o, rfl, by dsimp only; rw [hS]; exact h2, rfl, by dsimp only; rw [hS], hR⟩
        | succ i =>
          obtain ⟨o', e1, e2, e3, e4, e5⟩ := ht i (by omega)
          exact ⟨o', by simpa using e1, e2, e3, e4, e5⟩
      · intro i hi
        cases i with
        | zero => rfl
        | succ i => simpa using hI i (by omega)
      · rcases hend with ⟨e1, e2, e3⟩ | ⟨ch, o', e1, e2, e3, e4⟩
        · exact .inl ⟨e1, by simp [e2], e3⟩
        · exact .inr ⟨ch, o', e1, by simp [e2], by simpa using e3, e4⟩
    · rename_i ch
      obtain ⟨rfl, rfl⟩ := Run.pure.1 h
      refine ⟨0, fun _ => st1, fun _ => r, fun _ => undef, fun _ => ⟨[], [], 0, 0⟩, rfl, rfl, fun i hi => absurd hi (by omega), fun i hi => absurd hi (by omega), rfl, .inr ⟨ch, o, rfl, rfl, rfl, ⟨rd, wr, h2⟩⟩⟩
    · exact (Run.fail.1 h).elim
def Touch (I : Nat → Info) (i b : Nat) : Prop := b ∈ (I i).wr ∨ ((I i).lo ≤ b ∧ b < (I i).hi)
theorem meets_iff {a : Info} {l : List Nat} : meets a l = true ↔ ∃ b ∈ l, b ∈ a.wr ∨ (a.lo ≤ b ∧ b < a.hi) := by
  unfold meets
  rw [List.any_eq_true]
  constructor
  · rintro ⟨b, hb, h⟩
    refine ⟨b, hb, ?_⟩
    simpa [List.contains_iff_mem] using h
  · rintro ⟨b, hb, h⟩
    refine ⟨b, hb, ?_⟩
    simpa [List.contains_iff_mem] using h
/-- Two operations that may change places are apart. -/
def Apart (ops : Array Oper) (I : Nat → Info) (i j : Nat) : Prop :=
  (∀ b, Touch I i b → b ∉ (I j).rd) ∧ (∀ b, Touch I i b → b ∉ (I j).wr) ∧ (∀ b, Touch I j b → b ∉ (I i).rd) ∧ (∀ b, Touch I j b → b ∉ (I i).wr) ∧
  ∀ x y, ops[i]? = some x → ops[j]? = some y → (∀ d, x.dst = some d → d ∉ y.looksAt ops) ∧ (∀ d, x.dst = some d → y.dst ≠ some d) ∧ (∀ d, y.dst = some d → d ∉ x.looksAt ops)
theorem quiet_apart {a b : Info} (h : a.quiet = true) : apartI a b = true ∧ apartI b a = true := by
  obtain ⟨rd, wr, lo, hi⟩ := a
  unfold Info.quiet at h
  simp only [Bool.and_eq_true, List.isEmpty_iff, Nat.beq_eq] at h
  obtain ⟨⟨rfl, rfl⟩, rfl⟩ := h
  have m0 : ∀ l, meets ⟨[], [], lo, lo⟩ l = false := by
    intro l
    unfold meets
    rw [List.any_eq_false]
    intro x _
    simp only [List.contains_nil, Bool.false_or, Bool.and_eq_true, decide_eq_true_eq]
    omega
  have m1 : ∀ c : Info, meets c [] = false := fun c => rfl
  constructor <;> simp [apartI, m0, m1]
theorem loud_mem : ∀ (l : List Info) (k i : Nat) (a : Info), l[i]? = some a → a.quiet = false → (k + i, a) ∈ loud l k
  | [], _, _, _, h, _ => by simp at h
  | b :: l, k, 0, a, h, hq => by
    simp only [List.getElem?_cons_zero, Option.some.injEq] at h
    subst h
    unfold loud
    rw [hq]
    exact List.mem_cons_self
  | b :: l, k, i + 1, a, h, hq => by
    have := loud_mem l (k + 1) i a (by simpa using h) hq
    rw [show k + 1 + i = k + (i + 1) by omega] at this
    unfold loud
    cases b.quiet
    · exact List.mem_cons_of_mem _ this
    · exact this
theorem loudOk_spec {bs : Array Nat} : ∀ (l : List Info) (k : Nat), loudOk bs (loud l k) = true → ∀ i j a b, i < j → l[i]? = some a → l[j]? = some b → a.quiet = false → b.quiet = false →
    ((bs.getD (k + j) 0).testBit (k + i) || apartI a b) = true
  | [], _, _, _, _, _, _, _, h, _, _, _ => by simp at h
  | c :: l, k, h, 0, 0, a, b, hij, _, _, _, _ => by omega
  | c :: l, k, h, 0, j + 1, a, b, hij, ha, hb, qa, qb => by
    simp only [List.getElem?_cons_zero, Option.some.injEq] at ha
    subst ha
    unfold loud at h
    rw [qa] at h
    unfold loudOk at h
    rw [Bool.and_eq_true] at h
    have := List.all_eq_true.1 h.1 _ (loud_mem l (k + 1) j b (by simpa using hb) qb)
    dsimp only at this
    rw [show k + 1 + j = k + (j + 1) by omega] at this
    exact this
  | c :: l, k, h, i + 1, 0, a, b, hij, _, _, _, _ => by omega
  | c :: l, k, h, i + 1, j + 1, a, b, hij, ha, hb, qa, qb => by
    have h2 : loudOk bs (loud l (k + 1)) = true := by
      unfold loud at h
      cases e : c.quiet with
      | true => rw [e] at h; exact h
      | false =>
        rw [e] at h
        unfold loudOk at h
        rw [Bool.and_eq_true] at h
        exact h.2
    have := loudOk_spec l (k + 1) h2 i j a b (by omega) (by simpa using ha) (by simpa using hb) qa qb
    rw [show k + 1 + j = k + (j + 1) by omega, show k + 1 + i = k + (i + 1) by omega] at this
    exact this
theorem befS_eq (acc : Array Nat) (t : Tr Nat) (h : ∀ j, (t.get j).getD 0 = acc.getD j 0) : ∀ (l : List Edge) (s : Nat), befS l s t = l.foldl (fun s e => if Region.binds .any e then s ||| 2 ^ e.on ||| acc.getD e.on 0 else s) s
  | [], s => rfl
  | e :: l, s => by
    unfold befS
    rw [List.foldl_cons]
    cases hb : Region.binds .any e with
    | false => simp only [Bool.false_eq_true, if_false]; exact befS_eq acc t h l s
    | true =>
      simp only [if_true]
      rw [h e.on]
      exact befS_eq acc t h l _
theorem befF_eq : ∀ (os : List Oper) (acc : Array Nat) (t : Tr Nat), acc.size + os.length < 1000000 → (∀ j, (t.get j).getD 0 = acc.getD j 0) → acc.toList ++ befF os acc.size t = (os.foldl (fun acc o => acc.push (befStep acc o)) acc).toList
  | [], acc, t, _, _ => by simp [befF]
  | o :: os, acc, t, hn, h => by
    have hs : befS o.after.toList 0 t = befStep acc o := by
      unfold befStep
      rw [befS_eq acc t h, Array.foldl_toList]
    simp only [List.length_cons] at hn
    have h40 : (2 : Nat) ^ 40 = 1099511627776 := by decide
    have h2 : ∀ j, ((Tr.set 40 t acc.size (some (befStep acc o))).get j).getD 0 = (acc.push (befStep acc o)).getD j 0 := by
      intro j
      rw [Tr.get_set 40 t acc.size _ j (by omega)]
      simp only [Array.getD_eq_getD_getElem?, Array.getElem?_push]
      by_cases e : j = acc.size
      · simp [e]
      · have := h j
        simp only [Array.getD_eq_getD_getElem?] at this
        rw [if_neg e, if_neg e]
        exact this
    have := befF_eq os (acc.push (befStep acc o)) (Tr.set 40 t acc.size (some (befStep acc o))) (by simp; omega) h2
    rw [List.foldl_cons, ← this]
    have e1 : befF (o :: os) acc.size t = befStep acc o :: befF os (acc.size + 1) (Tr.set 40 t acc.size (some (befStep acc o))) := by
      show befS o.after.toList 0 t :: befF os (Nat.add acc.size 1) (Tr.set 40 t acc.size (some (befS o.after.toList 0 t))) = _
      rw [hs]
      try rfl
    rw [e1, Array.size_push, Array.toList_push, List.append_assoc]
    rfl
theorem beforeF_eq (ops : Array Oper) : beforeF ops = Region.before ops := by
  unfold beforeF
  split
  · rename_i hd
    have hd := of_decide_eq_true hd
    have hb : Region.before ops = ops.toList.foldl (fun acc o => acc.push (befStep acc o)) #[] := by
      unfold Region.before
      rw [← Array.foldl_toList]
      try rfl
    have := befF_eq ops.toList #[] .nil (by simpa using hd) (fun j => by simp [Tr.get_nil, Array.getD_eq_getD_getElem?])
    rw [hb]
    apply Array.toList_inj.1
    simpa using this
  · rfl
theorem statL_get : ∀ (os : List Oper) (bs : List Nat) (k j : Nat) (o : Oper), os[j]? = some o → (statL os bs k)[j]? = some (k + j, o, bs.getD j 0)
  | [], _, _, j, o, h => by simp at h
  | x :: os, [], k, 0, o, h => by simp at h; subst h; simp [statL]
  | x :: os, b :: bs, k, 0, o, h => by simp at h; subst h; simp [statL]
  | x :: os, [], k, j + 1, o, h => by
    have := statL_get os [] (k + 1) j o (by simpa using h)
    show (statL os [] (k + 1))[j]? = _
    rw [this, show k + 1 + j = k + (j + 1) by omega]; simp
  | x :: os, b :: bs, k, j + 1, o, h => by
    have := statL_get os bs (k + 1) j o (by simpa using h)
    show (statL os bs (k + 1))[j]? = _
    rw [this, show k + 1 + j = k + (j + 1) by omega]; simp
theorem statGo_spec {ops : Array Oper} : ∀ (l : List (Nat × Oper × Nat)), statGo ops l = true → ∀ (i j : Nat) (p q : Nat × Oper × Nat), i < j → l[i]? = some p → l[j]? = some q → (q.2.2.testBit p.1 || apartO ops p.2.1 q.2.1) = true
  | [], _, i, j, p, q, _, h, _ => by simp at h
  | x :: l, h, 0, 0, p, q, hij, _, _ => by omega
  | x :: l, h, 0, j + 1, p, q, hij, hp, hq => by
    unfold statGo at h
    rw [Bool.and_eq_true] at h
    simp at hp
    subst hp
    exact List.all_eq_true.1 h.1 q (List.mem_of_getElem? (by simpa using hq))
  | x :: l, h, i + 1, 0, p, q, hij, _, _ => by omega
  | x :: l, h, i + 1, j + 1, p, q, hij, hp, hq => by
    unfold statGo at h
    rw [Bool.and_eq_true] at h
    exact statGo_spec l h.2 i j p q (by omega) (by simpa using hp) (by simpa using hq)
theorem static_spec {ops : Array Oper} {bs : Array Nat} {q : Nat} (h : staticOk ops bs q = true) (i j : Nat) (x y : Oper) (hij : i < j) (hj : j < q) (ex : ops[i]? = some x) (ey : ops[j]? = some y) : ((bs.getD j 0).testBit i || apartO ops x y) = true := by
  unfold staticOk at h
  have e1 := statL_get ops.toList bs.toList 0 i x (by rw [Array.getElem?_toList]; exact ex)
  have e2 := statL_get ops.toList bs.toList 0 j y (by rw [Array.getElem?_toList]; exact ey)
  have := statGo_spec _ h i j _ _ hij (by rw [List.getElem?_take_of_lt (by omega)]; exact e1) (by rw [List.getElem?_take_of_lt hj]; exact e2)
  simpa [Array.getD_eq_getD_getElem?, List.getD_eq_getElem?_getD] using this
theorem drawFast_ok {bs : Array Nat} {infos : List Info} {q : Nat} {I : Nat → Info} (hI : ∀ i, i < q → infos[i]? = some (I i)) (hqs : q ≤ ops.size) (h : drawFast ops bs infos q = true) : drawOk ops bs infos q = true := by
  unfold drawFast at h
  rw [Bool.and_eq_true] at h
  obtain ⟨hs, hl⟩ := h
  unfold drawOk allPairs
  refine List.all_eq_true.2 fun j hj => List.all_eq_true.2 fun i hi => ?_
  have hjq := List.mem_range.1 hj
  have hij := List.mem_range.1 hi
  have ex : ops[i]? = some ops[i] := Array.getElem?_eq_getElem (by omega)
  have ey : ops[j]? = some ops[j] := Array.getElem?_eq_getElem (by omega)
  have s := static_spec hs i j _ _ hij hjq ex ey
  dsimp only
  rw [hI i (by omega), hI j hjq, ex, ey]
  rw [Bool.or_eq_true] at s ⊢
  rcases s with s | s
  · exact .inl s
  · dsimp only
    cases qi : (I i).quiet with
    | true => right; rw [(quiet_apart qi).1, s]; rfl
    | false =>
    cases qj : (I j).quiet with
    | true => right; rw [(quiet_apart qj).2, s]; rfl
    | false =>
    have := loudOk_spec infos 0 hl i j _ _ hij (hI i (by omega)) (hI j hjq) qi qj
    rw [Nat.zero_add, Nat.zero_add, Bool.or_eq_true] at this
    rcases this with t | t
    · exact .inl t
    · right; rw [t, s]; rfl
theorem drawOk_spec {bs : Array Nat} {infos : List Info} {q : Nat} {I : Nat → Info} (hI : ∀ i, i < q → infos[i]? = some (I i)) (hq : q ≤ ops.size) (h : drawOk ops bs infos q = true) :
    ∀ i j, i < j → j < q → (bs.getD j 0).testBit i = true ∨ Apart ops I i j := by
  intro i j hij hj
  unfold drawOk allPairs at h
  have h1 := List.all_eq_true.1 h j (List.mem_range.2 hj)
  have h2 := List.all_eq_true.1 h1 i (List.mem_range.2 hij)
  rw [Bool.or_eq_true] at h2
  rcases h2 with h2 | h2
  · exact .inl h2
  · right
    have ex : ops[i]? = some ops[i] := Array.getElem?_eq_getElem (by omega)
    have ey : ops[j]? = some ops[j] := Array.getElem?_eq_getElem (by omega)
    rw [hI i (by omega), hI j hj, ex, ey] at h2
    simp only [Bool.and_eq_true] at h2
    obtain ⟨hA, hO⟩ := h2
    unfold apartI at hA
    simp only [Bool.and_eq_true, Bool.not_eq_true'] at hA
    obtain ⟨⟨⟨a1, a2⟩, a3⟩, a4⟩ := hA
    have no : ∀ {a : Info} {l : List Nat}, meets a l = false → ∀ b, (b ∈ a.wr ∨ (a.lo ≤ b ∧ b < a.hi)) → b ∉ l := by
      intro a l hm b hb hl
      have := meets_iff.2 ⟨b, hl, hb⟩
      rw [hm] at this; cases this
    refine ⟨no a1, no a2, no a3, no a4, fun x y hx hy => ?_⟩
    rw [ex] at hx
    rw [ey] at hy
    cases hx
    cases hy
    unfold apartO looks at hO
    rw [Bool.and_eq_true] at hO
    obtain ⟨o1, o2⟩ := hO
    refine ⟨fun d hd => ?_, fun d hd => ?_, fun d hd => ?_⟩
    · rw [hd] at o1; simp at o1; exact o1.1
    · rw [hd] at o1; simp at o1; exact o1.2
    · rw [hd] at o2; simp at o2; exact o2
variable {P : Program} {B : Bd}
set_option maxHeartbeats 1000000 in
theorem perm_run (ok : E.Ok P) (hX : X.Ok E P B) (hrec : CallSound E P B rec) (hp : plainEdges ops = true) {q : Nat} {S : Nat → St} {R : Nat → Regs} {V : Nat → Value} {I : Nat → Info}
    (tr : ∀ i, i < q → TrackAt E X rec ops ops.toList S R V I i) (hq : q ≤ ops.size) (hap : ∀ i j, i < j → j < q → ((Region.before ops).getD j 0).testBit i = true ∨ Apart ops I i j)
    {ex : AExit} {stF : St} (hfin : (q = ops.size ∧ ex = .normal ∧ stF = S q) ∨
      (∃ ch o, ex = .panic ch ∧ ops[q]? = some o ∧ Run (evOut E X rec ops (R q) o) (S q) (.panic ch) stF ∧ ∀ j, j < ops.size → j ≠ q → ((Region.before ops).getD q 0).testBit j = true ∨ ((Region.before ops).getD j 0).testBit q = true))
    (hG0 : E.G ≤ (S 0).next) (b : Frame) (k : List Item) (cs : List Frame) (u : FrameMode) :
    ∀ (dn : Nat → Bool) (l : List Nat), Good ops dn l → ∀ (SD : St) (RD : Regs) (ι : Ren) (w : World) (a : Act),
      (∀ j o, ops[j]? = some o → dn j = true → ∀ e ∈ o.after.toList, Region.binds .any e = true → dn e.on = true) →
      (∀ i, i < ops.size → dn i = true → i < q) →
      (∀ x n, n ≤ q → (∀ i, i < n → Touch I i x → dn i = true) → (∀ i, n ≤ i → i < q → Touch I i x → dn i = false) → SD.get x = (S n).get x) →
      (∀ t n, n ≤ q → (∀ i, i < n → ((ops[i]?).bind (·.dst) = some t ∧ t < RD.size) → dn i = true) → (∀ i, n ≤ i → i < q → ((ops[i]?).bind (·.dst) = some t ∧ t < RD.size) → dn i = false) → RD.get t = (R n).get t) →
      (∀ n, n ≤ q → (R n).size = RD.size ∧ (R n).defers = RD.defers ∧ (R n).mode = RD.mode) →
      WRel E.G B ι SD w → (∀ i, i < q → dn i = false → Free ι (S i).next (S (i + 1)).next) → (q < ops.size → Free ι (S q).next stF.next) → RegRel ι RD a u →
      ∃ ι' w' a' ex', WRel E.G B ι' stF w' ∧ ι.le ι' ∧ (∀ c, (c < (S 0).next ∨ stF.next ≤ c) → ι' c = ι c) ∧ Below B.n w w' ∧ RegRel ι' (R q) a' u ∧ ExRel ι' ex ex' ∧ Arr P (lone (b.atR a (.inRegion ops l :: k)) cs w) b k cs ex' a' w' := by
  have mono1 : ∀ i, i < q → (S i).next ≤ (S (i + 1)).next := by
    intro i hi
    obtain ⟨o, e1, e2, _⟩ := tr i hi
    exact (evOut E X rec ops (R i) o).loc.grow _ _ _ _ _ e2
  have mono : ∀ n m, n ≤ m → m ≤ q → (S n).next ≤ (S m).next := by
    intro n m hnm
    induction m with
    | zero => intro _; have : n = 0 := by omega
              subst this; exact Nat.le_refl _
    | succ m ih =>
      intro hm
      by_cases e : n = m + 1
      · subst e; exact Nat.le_refl _
      · exact Nat.le_trans (ih (by omega) (by omega)) (mono1 m (by omega))
  have hF : (S q).next ≤ stF.next := by
    rcases hfin with ⟨_, _, rfl⟩ | ⟨ch, o, _, _, h, _⟩
    · exact Nat.le_refl _
    · exact Run.grow h
  have lohi : ∀ i, i < q → (I i).lo = (S i).next ∧ (I i).hi = (S (i + 1)).next := by
    intro i hi
    obtain ⟨o, e1, e2, e3, e4, _⟩ := tr i hi
    exact ⟨e3, e4⟩
  have keep1 : ∀ i x, i < q → ¬ Touch I i x → (S (i + 1)).get x = (S i).get x := by
    intro i x hi ht
    obtain ⟨o, e1, e2, e3, e4, _⟩ := tr i hi
    refine (evOut E X rec ops (R i) o).loc.keep _ _ _ _ _ e2 x (fun h => ht (.inl h)) ?_
    have : ¬ ((I i).lo ≤ x ∧ x < (I i).hi) := fun h => ht (.inr h)
    rw [e3, e4] at this
    omega
  have keepN : ∀ x n m, n ≤ m → m ≤ q → (∀ i, n ≤ i → i < m → ¬ Touch I i x) → (S m).get x = (S n).get x := by
    intro x n m hnm
    induction m with
    | zero => intro _ _; have : n = 0 := by omega
              subst this; rfl
    | succ m ih =>
      intro hm hno
      by_cases e : n = m + 1
      · subst e; rfl
      · rw [keep1 m x (by omega) (hno m (by omega) (by omega))]
        exact ih (by omega) (by omega) fun i h1 h2 => hno i h1 (by omega)
  intro dn l hgood
  induction hgood with
  | nil hall =>
    rename_i dn
    intro SD RD ι w a hcl hdq I1 I2 hR hw hfree hfreeq hr
    have hqs : q = ops.size := by
      rcases Nat.lt_or_ge q ops.size with h | h
      · have := hdq q h (hall q h); omega
      · omega
    rcases hfin with ⟨_, rfl, rfl⟩ | ⟨ch, o, _, h, _⟩
    · have hS : ∀ x, (S q).get x = SD.get x := fun x => (I1 x q (Nat.le_refl _) (fun i hi _ => hall i (by omega)) (fun i h1 h2 _ => absurd h1 (by omega))).symm
      have hRg : ∀ t, (R q).get t = RD.get t := fun t => (I2 t q (Nat.le_refl _) (fun i hi _ => hall i (by omega)) (fun i h1 h2 _ => absurd h1 (by omega))).symm
      obtain ⟨r1, r2, r3⟩ := hR q (Nat.le_refl _)
      exact ⟨ι, w, a, .normal, hw.same hS (Nat.le_trans hG0 (mono 0 q (by omega) (Nat.le_refl _))), Ren.le.refl ι, fun _ _ => rfl, Below.refl _ _, hr.same r1 r2 r3 hRg, .normal, .one stepR_region_end⟩
    · rw [Array.getElem?_eq_none (by omega)] at h; cases h
  | cons ho hn he hgood ih =>
    rename_i dn v o l
    intro SD RD ι w a hcl hdq I1 I2 hR hw hfree hfreeq hr
    have hv : v < ops.size := by
      rcases Nat.lt_or_ge v ops.size with h | h
      · exact h
      · rw [Array.getElem?_eq_none h] at ho; cases ho
    have hbits := before_closed hp dn hcl
    -- what lies before v is done
    have hpre : ∀ i, ((Region.before ops).getD v 0).testBit i = true → dn i = true := by
      intro i hi
      obtain ⟨e, hm, hb, hlt, hx⟩ := before_bits hp ho hi
      have hd := he e hm hb
      rcases hx with rfl | hx
      · exact hd
      · exact hbits e.on i (by omega) hd hx
    have hpost : ∀ i, i < ops.size → ((Region.before ops).getD i 0).testBit v = true → dn i = false := by
      intro i hi hb
      cases hd : dn i with
      | false => rfl
      | true => have := hbits i v hi hd hb; rw [hn] at this; cases this
    rcases Nat.lt_trichotomy v q with hvq | hvq | hvq
    · -- one of those that hand back a value
      obtain ⟨o', e1, e2, e3, e4, e5⟩ := tr v hvq
      have : o' = o := by rw [Array.getElem?_toList, ho] at e1; cases e1; rfl
      subst this
      have hread : ∀ x ∈ (I v).rd, SD.get x = (S v).get x := by
        intro x hx
        refine I1 x v (by omega) (fun i hi ht => ?_) (fun i h1 h2 ht => ?_)
        · rcases hap i v hi hvq with h | h
          · exact hpre i h
          · exact absurd hx (h.1 x ht)
        · by_cases e : i = v
          · subst e; exact hn
          · rcases hap v i (by omega) h2 with h | h
            · exact hpost i (by omega) h
            · exact absurd hx (h.2.2.1 x ht)
      obtain ⟨st2, hrun2, hnext2, hsame2⟩ := (evOut E X rec ops (R v) o').loc.same _ _ _ _ _ e2 ⟨SD.heap, (S v).next⟩ rfl hread
      have hkeep2 := (evOut E X rec ops (R v) o').loc.keep _ _ _ _ _ hrun2
      have hcong : evOut E X rec ops (R v) o' = evOut E X rec ops RD o' := by
        refine evOut_congr o' fun t ht => ?_
        refine (I2 t v (by omega) (fun i hi hd => ?_) (fun i h1 h2 hd => ?_)).symm
        · have ex : ops[i]? = some ops[i] := Array.getElem?_eq_getElem (by omega)
          rcases hap i v hi hvq with h | h
          · exact hpre i h
          · have hd1 := hd.1
            rw [ex] at hd1
            exact absurd ht ((h.2.2.2.2 _ _ ex ho).1 t hd1)
        · by_cases e : i = v
          · subst e; exact hn
          · have ex : ops[i]? = some ops[i] := Array.getElem?_eq_getElem (by omega)
            rcases hap v i (by omega) h2 with h | h
            · exact hpost i (by omega) h
            · have hd1 := hd.1
              rw [ex] at hd1
              exact absurd ht ((h.2.2.2.2 _ _ ho ex).2.2 t hd1)
      rw [hcong] at hrun2
      have hw2 : WRel E.G B ι ⟨SD.heap, (S v).next⟩ w := hw.same (fun _ => rfl) (Nat.le_trans hG0 (mono 0 v (by omega) (by omega)))
      have hfree2 : Free ι (⟨SD.heap, (S v).next⟩ : St).next st2.next := by
        rw [hnext2]; exact hfree v hvq hn
      obtain ⟨ι1, w1, x', hpost1, hout, hat⟩ := out_does ok hX hrec hw2 hfree2 ho hr ⟨_, _, hrun2⟩ b l k cs
      cases hout with
      | val hval =>
      rename_i val'
      have hst : Steps P (lone (b.atR a (.inRegion ops (v :: l) :: k)) cs w) (lone (b.atR (a.put o'.dst val') (.inRegion ops l :: k)) cs w1) := hat
      have hdn : ∀ i, (decide (i = v) || dn i) = true → i = v ∨ dn i = true := by
        intro i h; simpa using h
      have hdnF : ∀ i, (decide (i = v) || dn i) = false → i ≠ v ∧ dn i = false := by
        intro i h; simpa using h
      have hsz : (RD.put o'.dst (V v)).size = RD.size := put_size _ _ _
      have IH := ih st2 (RD.put o'.dst (V v)) ι1 w1 (a.put o'.dst val') ?_ ?_ ?_ ?_ ?_ hpost1.rel ?_ ?_ ((hr.mono hpost1.le).put o'.dst hval)
      · obtain ⟨ι2, w2, a2, ex', q1, q2, q3, q4, q5, q6, q7⟩ := IH
        refine ⟨ι2, w2, a2, ex', q1, hpost1.le.trans q2, fun c hc => ?_, hpost1.below.trans q4, q5, q6, Arr.of_steps hst q7⟩
        rw [q3 c hc]
        refine hpost1.ext c ?_
        have h1 := mono 0 v (by omega) (by omega)
        have h2 := mono (v + 1) q (by omega) (Nat.le_refl _)
        show c < (S v).next ∨ st2.next ≤ c
        rw [hnext2]
        omega
      · -- closed
        intro j o2 hj hd e hm hb
        rcases hdn j hd with rfl | hd
        · rw [ho] at hj; cases hj
          simp [he e hm hb]
        · simp [hcl j o2 hj hd e hm hb]
      · intro i hi hd
        rcases hdn i hd with rfl | hd
        · exact hvq
        · exact hdq i hi hd
      · -- the blocks
        intro x n hnq hlt hge
        by_cases ht : Touch I v x
        · have hvn : v < n := by
            rcases Nat.lt_or_ge v n with h | h
            · exact h
            · have := hge v h hvq ht; simp at this
          have h1 : st2.get x = (S (v + 1)).get x := by
            refine hsame2 x ?_
            rcases ht with h | h
            · exact .inl h
            · right; rw [e3, e4] at h; exact h
          rw [h1]
          refine (keepN x (v + 1) n (by omega) hnq fun i i1 i2 hti => ?_).symm
          have hd := hlt i i2 hti
          rcases hdn i hd with h | hd
          · omega
          · rcases hap v i (by omega) (by omega) with h | h
            · have := hpost i (by omega) h; rw [hd] at this; cases this
            · rcases hti with hi | hi
              · exact h.2.1 x ht hi
              · rcases ht with hvw | hvi
                · exact h.2.2.2.1 x (.inr hi) hvw
                · have a1 := lohi i (by omega)
                  have a2 := mono (v + 1) i (by omega) (by omega)
                  rw [e3, e4] at hvi
                  rw [a1.1, a1.2] at hi
                  omega
        · have h1 : st2.get x = SD.get x := by
            refine hkeep2 x (fun h => ht (.inl h)) ?_
            have : ¬ ((I v).lo ≤ x ∧ x < (I v).hi) := fun h => ht (.inr h)
            rw [e3, e4] at this
            show x < (S v).next ∨ st2.next ≤ x
            rw [hnext2]
            omega
          rw [h1]
          refine I1 x n hnq (fun i hi hti => ?_) (fun i i1 i2 hti => (hdnF i (hge i i1 i2 hti)).2)
          rcases hdn i (hlt i hi hti) with rfl | hd
          · exact absurd hti ht
          · exact hd
      · -- the slots
        intro t n hnq hlt hge
        rw [hsz] at hlt hge
        have hRv := hR v (by omega)
        have hlt' := hr.lt
        rw [put_get _ hr.lt]
        by_cases ht : o'.dst = some t ∧ t < RD.size
        · rw [if_pos ht]
          have htv : (ops[v]?).bind (·.dst) = some t ∧ t < RD.size := by rw [ho]; exact ht
          have hvn : v < n := by
            rcases Nat.lt_or_ge v n with h | h
            · exact h
            · have := hge v h hvq htv; simp at this
          have h1 : (R (v + 1)).get t = V v := by
            rw [e5, put_get _ (by rw [hRv.1]; exact hr.lt), if_pos (by rw [hRv.1]; exact ht)]
          rw [← h1]
          have chain : ∀ m, v + 1 ≤ m → m ≤ n → (R m).get t = (R (v + 1)).get t := by
            intro m h1 h2
            induction m with
            | zero => omega
            | succ m ihm =>
              by_cases e : v + 1 = m + 1
              · rw [e]
              · obtain ⟨om, f1, _, _, _, f5⟩ := tr m (by omega)
                have hRm := hR m (by omega)
                rw [f5, put_get _ (by rw [hRm.1]; exact hr.lt), if_neg, ihm (by omega) (by omega)]
                rintro ⟨hdm, htm⟩
                rw [hRm.1] at htm
                rw [Array.getElem?_toList] at f1
                have hd := hlt m (by omega) ⟨by rw [f1]; exact hdm, htm⟩
                rcases hdn m hd with h | hd
                · omega
                · rcases hap v m (by omega) (by omega) with h | h
                  · have := hpost m (by omega) h; rw [hd] at this; cases this
                  · exact (h.2.2.2.2 _ _ ho f1).2.1 t ht.1 hdm
          exact (chain n (by omega) (Nat.le_refl _)).symm
        · rw [if_neg ht]
          refine I2 t n hnq (fun i hi hti => ?_) (fun i i1 i2 hti => (hdnF i (hge i i1 i2 hti)).2)
          rcases hdn i (hlt i hi hti) with rfl | hd
          · rw [ho] at hti; exact absurd hti ht
          · exact hd
      · intro n hnq
        rw [put_size, put_defers, put_mode]
        exact hR n hnq
      · intro i hi hd
        obtain ⟨hne, hd⟩ := hdnF i hd
        intro c h1 h2
        rw [hpost1.ext c ?_]
        · exact hfree i hi hd c h1 h2
        · show c < (S v).next ∨ st2.next ≤ c
          rw [hnext2]
          rcases Nat.lt_or_ge i v with h | h
          · have := mono (i + 1) v (by omega) (by omega); omega
          · have := mono (v + 1) i (by omega) (by omega); omega
      · intro hlt c h1 h2
        rw [hpost1.ext c ?_]
        · exact hfreeq hlt c h1 h2
        · show c < (S v).next ∨ st2.next ≤ c
          rw [hnext2]
          have := mono (v + 1) q (by omega) (Nat.le_refl _); omega
    · -- the one that panics
      subst hvq
      rcases hfin with ⟨h, _⟩ | ⟨ch, o2, rfl, ho2, hrun, htied⟩
      · omega
      · rw [ho] at ho2; cases ho2
        have hall : ∀ i, i < v → dn i = true := by
          intro i hi
          rcases htied i (by omega) (by omega) with h | h
          · exact hpre i h
          · have := before_lt hp i v (by omega) h; omega
        have hS : ∀ x, (S v).get x = SD.get x := fun x => (I1 x v (Nat.le_refl _) (fun i hi _ => hall i hi) (fun i h1 h2 _ => absurd h1 (by omega))).symm
        have hRg : ∀ t, (R v).get t = RD.get t := fun t => (I2 t v (Nat.le_refl _) (fun i hi _ => hall i hi) (fun i h1 h2 _ => absurd h1 (by omega))).symm
        obtain ⟨r1, r2, r3⟩ := hR v (Nat.le_refl _)
        have hr2 := hr.same r1 r2 r3 hRg
        obtain ⟨ι1, w1, x', hpost1, hout, hat⟩ := out_does ok hX hrec (hw.same hS (Nat.le_trans hG0 (mono 0 v (by omega) (Nat.le_refl _)))) (hfreeq hv) ho hr2 hrun b l k cs
        cases hout with
        | panic hc =>
        refine ⟨ι1, w1, a, _, hpost1.rel, hpost1.le, fun c hc => hpost1.ext c ?_, hpost1.below, hr2.mono hpost1.le, .panic hc, ⟨_, hat⟩⟩
        have := mono 0 v (by omega) (Nat.le_refl _)
        omega
    · rcases hfin with ⟨h, _⟩ | ⟨ch, o2, _, ho2, _, htied⟩
      · omega
      · have hqs : q < ops.size := by omega
        rcases htied v hv (by omega) with h | h
        · have := before_lt hp q v hqs h; omega
        · have := hdq q hqs (hpre q h); omega
end
end Go.Proofs.YtmmfpkkkpeapeaaGreatDoor.Ev
