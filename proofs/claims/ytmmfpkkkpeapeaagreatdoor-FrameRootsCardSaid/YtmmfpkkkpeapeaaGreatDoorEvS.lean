/- The evaluator's regions beside the machine's. No condition. -/
import Derived.Test.YtmmfpkkkpeapeaaGreatDoorEvR
set_option linter.unusedSectionVars false
set_option linter.unusedVariables false
set_option linter.unusedSimpArgs false
namespace Go.Proofs.YtmmfpkkkpeapeaaGreatDoor.Ev
open Go Go.RowKit
variable [Sym]

/-- The callers, the first in the mode u. -/
def frs : Bool → List Frame → FrameMode → List Frame
  | true, c :: cs, u => { c with mode := u } :: cs
  | _, cs, _ => cs
def kindOf (d : Bool) : CallKind := if d then .deferred else .normal
structure Fits (ι : Ren) (ctx : Ctx) (b : Frame) (cs0 : List Frame) : Prop where
  fn : b.fn = ctx.fn
  kind : b.kind = kindOf ctx.dfr
  round : (ctx.round = none ∧ b.roundOf = none) ∨ ∃ l l', ctx.round = some l ∧ b.roundOf = some l' ∧ ι.to l = some l'
  cs : ctx.dfr = true → ∃ c cs, cs0 = c :: cs
theorem Fits.mono {ι ι' : Ren} (le : ι.le ι') {ctx : Ctx} {b : Frame} {cs0 : List Frame} (h : Fits ι ctx b cs0) : Fits ι' ctx b cs0 :=
  ⟨h.fn, h.kind, h.round.imp id fun ⟨l, l', a, b, c⟩ => ⟨l, l', a, b, le.to c⟩, h.cs⟩
theorem recA_rel {ι : Ren} {m u : FrameMode} (h : ModeRel ι m u) : VRel ι (recA m).1 (recA u).1 ∧ ModeRel ι (recA m).2 (recA u).2 := by
  cases h with
  | run => exact ⟨.nilIface, .run⟩
  | returning => exact ⟨.nilIface, .returning⟩
  | panicking h =>
    cases h with
    | nil => exact ⟨.nilIface, .panicking .nil⟩
    | cons h h1 h2 t =>
      rename_i e e' l l'
      obtain ⟨v, r, g⟩ := e
      obtain ⟨v', r', g'⟩ := e'
      simp only at h1 h2 h
      subst h1 h2
      cases r' <;> cases g'
      · exact ⟨h, .panicking (.cons h rfl rfl t)⟩
      · exact ⟨.nilIface, .panicking (.cons h rfl rfl t)⟩
      · exact ⟨.nilIface, .panicking (.cons h rfl rfl t)⟩
      · exact ⟨.nilIface, .panicking (.cons h rfl rfl t)⟩
theorem recoverD_recA (c : Frame) (cs : List Frame) (u : FrameMode) : (match recoverD ({ c with mode := u } :: cs) with
    | some (v, cs') => (v, cs')
    | none => (.nilIface, { c with mode := u } :: cs)) = ((recA u).1, { c with mode := (recA u).2 } :: cs) := by
  cases u with
  | run => rfl
  | returning => rfl
  | panicking l =>
    cases l with
    | nil => rfl
    | cons e l =>
      obtain ⟨v, r, g⟩ := e
      cases r <;> cases g <;> rfl
section
variable {E : Env} {P : Program} {B : Bd} {ι : Ren} {st st' : St} {w : World} {X : Ext} {rec : Req → LM Ans2}
theorem op_does (ok : E.Ok P) (hX : X.Ok E P B) (hrec : CallSound E P B rec) (hw : WRel E.G B ι st w) (hfree : Free ι st.next st'.next) {ctx : Ctx} {ops : Array Oper} {i : Nat} {o : Oper} (hi : ops[i]? = some o)
    {r : Regs} {a : Act} {u : FrameMode} (hr : RegRel ι r a u) {p : AExit × Regs} (h : Run (evOp E X rec ctx ops o r) st p st') (b : Frame) (cs0 : List Frame) (hf : Fits ι ctx b cs0) (rest : List Nat) (k : List Item) :
    ∃ ι' w' a' u' ex', Post E.G B ι st w st' ι' w' ∧ RegRel ι' p.2 a' u' ∧ ExRel ι' p.1 ex' ∧ (p.1 = .normal ∨ ∃ ch, p.1 = .panic ch) ∧
      Arr P (lone (b.atR a (.inRegion ops (i :: rest) :: k)) (frs ctx.dfr cs0 u) w) b (.inRegion ops rest :: k) (frs ctx.dfr cs0 u') ex' a' w' := by
  unfold evOp at h
  replace h := Run.bind.1 h
  obtain ⟨x, st1, h1, h⟩ := h
  split at h
  · rename_i v
    obtain ⟨rfl, rfl⟩ := Run.pure.1 h
    obtain ⟨ι1, w1, x', hp, ho, ha⟩ := out_does ok hX hrec hw hfree hi hr h1 b rest k (frs ctx.dfr cs0 u)
    cases ho with
    | val hv => exact ⟨ι1, w1, _, u, .normal, hp, (hr.mono hp.le).put o.dst hv, .normal, .inl rfl, ha⟩
  · rename_i ch
    obtain ⟨rfl, rfl⟩ := Run.pure.1 h
    obtain ⟨ι1, w1, x', hp, ho, ha⟩ := out_does ok hX hrec hw hfree hi hr h1 b rest k (frs ctx.dfr cs0 u)
    cases ho with
    | panic hc => exact ⟨ι1, w1, a, u, _, hp, hr.mono hp.le, .panic hc, .inr ⟨_, rfl⟩, ⟨_, ha⟩⟩
  · rename_i d
    replace h := Run.bindGuard h
    obtain ⟨g, h⟩ := h
    obtain ⟨rfl, rfl⟩ := Run.pure.1 h
    obtain ⟨ι1, w1, x', hp, ho, ha⟩ := out_does ok hX hrec hw hfree hi hr h1 b rest k (frs ctx.dfr cs0 u)
    cases ho with
    | defer hd =>
      rename_i d'
      have hro : b.roundOf = none := by
        rcases hf.round with ⟨_, h⟩ | ⟨l, l', h, _⟩
        · exact h
        · rw [h] at g; cases g
      have hr1 := hr.mono hp.le
      have rel : RegRel ι1 ({ r with defers := d :: r.defers } : Regs) ({ a with defers := d' :: a.defers } : Act) u := ⟨hr1.size, hr1.lt, hr1.tmp, .cons hd hr1.defers, hr1.mode⟩
      exact ⟨ι1, w1, _, u, .normal, hp, rel.put o.dst (VRel.undef ι1), .normal, .inl rfl, ha hro⟩
  · replace h := Run.bindGuard h
    obtain ⟨g, h⟩ := h
    obtain ⟨rfl, rfl⟩ := Run.pure.1 h
    obtain ⟨ι1, w1, x', hp, ho, ha⟩ := out_does ok hX hrec hw hfree hi hr h1 b rest k (frs ctx.dfr cs0 u)
    cases ho with
    | recover =>
      obtain ⟨hwant, hres⟩ := ha
      rw [Bool.and_eq_true] at g
      have hro : b.roundOf = none := by
        rcases hf.round with ⟨_, h⟩ | ⟨l, l', h, _⟩
        · exact h
        · rw [h] at g; cases g.2
      obtain ⟨c, cs, rfl⟩ := hf.cs g.1
      have hk := hf.kind
      rw [g.1] at hk ⊢
      have hk : b.kind = .deferred := hk
      have hr1 := hr.mono hp.le
      obtain ⟨v1, v2⟩ := recA_rel hr1.mode
      have hg := stepGR_op (P := P) (b := b) (a := a) (k := k) (cs := { c with mode := u } :: cs) (w := w) (rest := rest) hi hwant
      rw [hro, Oper.semAt_none] at hg
      have hfin : ∀ v, (b.atR a (.inRegion ops (i :: rest) :: k)).finish v = b.atR (a.put o.dst v) (.inRegion ops rest :: k) := by
        intro v; rw [Frame.finish_atR, hi]; rfl
      have htr := tryRecover_deferred (fr := b.atR a (.inRegion ops (i :: rest) :: k)) hk ({ c with mode := u } :: cs)
      have hrec2 := recoverD_recA c cs u
      have rel : RegRel ι1 ({ r with mode := (recA r.mode).2 } : Regs) a (recA u).2 := ⟨hr1.size, hr1.lt, hr1.tmp, hr1.defers, v2⟩
      refine ⟨ι1, w1, a.put o.dst (recA u).1, (recA u).2, .normal, hp, rel.put o.dst v1, .normal, .inl rfl, ?_⟩
      show Steps P (lone (b.atR a (.inRegion ops (i :: rest) :: k)) ({ c with mode := u } :: cs) w) (lone (b.atR (a.put o.dst (recA u).1) (.inRegion ops rest :: k)) ({ c with mode := (recA u).2 } :: cs) w1)
      refine .one (step_lone_go ?_)
      rw [hg, ← hfin]
      simp only [Frame.atR, hro] at htr ⊢
      cases hq : recoverD ({ c with mode := u } :: cs) with
      | none =>
        rw [hq] at hrec2 htr
        simp only [Prod.mk.injEq] at hrec2
        obtain ⟨e1, e2⟩ := hrec2
        rw [← e1, ← e2]
        simp [stepG.apply, hres, htr, hro]
      | some z =>
        obtain ⟨zv, zc⟩ := z
        rw [hq] at hrec2 htr
        simp only [Prod.mk.injEq] at hrec2
        obtain ⟨e1, e2⟩ := hrec2
        rw [← e1, ← e2]
        simp [stepG.apply, hres, htr, hro]
theorem ops_does (ok : E.Ok P) (hX : X.Ok E P B) (hrec : CallSound E P B rec) {ctx : Ctx} {ops : Array Oper} (b : Frame) (cs0 : List Frame) (k : List Item) : ∀ (opers : List Oper) (i : Nat), (∀ j o, opers[j]? = some o → ops[i + j]? = some o) → ∀ (ι : Ren) (st st' : St) (w : World) (r : Regs) (a : Act) (u : FrameMode) (p : AExit × Regs),
    WRel E.G B ι st w → Free ι st.next st'.next → RegRel ι r a u → Fits ι ctx b cs0 → Run (evOps E X rec ctx ops opers r) st p st' →
    ∃ ι' w' a' u' ex', Post E.G B ι st w st' ι' w' ∧ RegRel ι' p.2 a' u' ∧ ExRel ι' p.1 ex' ∧
      Arr P (lone (b.atR a (.inRegion ops (List.range' i opers.length) :: k)) (frs ctx.dfr cs0 u) w) b k (frs ctx.dfr cs0 u') ex' a' w' := by
  intro opers
  induction opers with
  | nil =>
    intro i _ ι st st' w r a u p hw hfree hr hf h
    obtain ⟨rfl, rfl⟩ := Run.pure.1 h
    exact ⟨ι, w, a, u, .normal, Post.refl hw, hr, .normal, .one stepR_region_end⟩
  | cons o rest ih =>
    intro i hops ι st st' w r a u p hw hfree hr hf h
    unfold evOps at h
    replace h := Run.bind.1 h
    obtain ⟨p1, st1, h1, h⟩ := h
    have hg1 := Run.grow h1
    have hi : ops[i]? = some o := by have := hops 0 o rfl; simpa using this
    have hg2 : st1.next ≤ st'.next := Run.grow h
    obtain ⟨ι1, w1, a1, u1, ex1, hp1, hr1, he1, hcase, ha1⟩ := op_does ok hX hrec hw (fun c h1 h2 => hfree c h1 (by omega)) hi hr h1 b cs0 hf (List.range' (i + 1) rest.length) k
    obtain ⟨e1, r1⟩ := p1
    dsimp only at h he1 hr1 hcase
    rcases hcase with rfl | ⟨ch, rfl⟩
    · dsimp only at h
      cases he1
      obtain ⟨ι2, w2, a2, u2, ex2, hp2, hr2, he2, ha2⟩ := ih (i + 1) (fun j o' e => by have := hops (j + 1) o' (by simpa using e); rw [show i + 1 + j = i + (j + 1) by omega]; exact this) ι1 st1 st' w1 r1 a1 u1 p hp1.rel (Free.mid hp1 hfree hg1) hr1 (hf.mono hp1.le) h
      exact ⟨ι2, w2, a2, u2, ex2, hp1.trans hp2 hg1 hg2, hr2, he2, Arr.of_steps ha1 ha2⟩
    · dsimp only at h
      obtain ⟨rfl, rfl⟩ := Run.pure.1 h
      cases he1 with
      | panic hc => exact ⟨ι1, w1, a1, u1, _, hp1, hr1, .panic hc, ha1⟩
theorem region_does (ok : E.Ok P) (hX : X.Ok E P B) (hrec : CallSound E P B rec) (hm : P.follows .mixedOrders = true) (hw : WRel E.G B ι st w) (hfree : Free ι st.next st'.next) {ctx : Ctx} {id : Nat} {ops : Array Oper} {draw : Bool}
    {r : Regs} {a : Act} {u : FrameMode} (hr : RegRel ι r a u) {p : AExit × Regs} (h : Run (evRegion E X rec ctx ops draw r) st p st') (b : Frame) (cs0 : List Frame) (hf : Fits ι ctx b cs0) (k : List Item) :
    ∃ ι' w' a' u' ex', Post E.G B ι st w st' ι' w' ∧ RegRel ι' p.2 a' u' ∧ ExRel ι' p.1 ex' ∧
      Arr P (lone (b.atR a (.code (.region id ops draw) :: k)) (frs ctx.dfr cs0 u) w) b k (frs ctx.dfr cs0 u') ex' a' w' := by
  unfold evRegion at h
  cases draw with
  | false =>
    dsimp only at h
    obtain ⟨ι1, w1, a1, u1, ex1, hp, hr1, he, ha⟩ := ops_does ok hX hrec b cs0 k ops.toList 0 (fun j o e => by rw [Array.getElem?_toList] at e; simpa using e) ι st st' w r a u p hw hfree hr hf h
    refine ⟨ι1, w1, a1, u1, ex1, hp, hr1, he, Arr.of_steps (.one stepR_region) ?_⟩
    rw [List.range_eq_range']
    simpa using ha
  | true =>
    dsimp only at h
    replace h := Run.bindGuard h
    obtain ⟨gp, h⟩ := h
    simp only [beforeF_eq] at h
    replace h := Run.bind.1 h
    obtain ⟨d, st1, h1, h⟩ := h
    obtain ⟨q, S, R, V, I, hS, hR, ht, hI, hrm, hend⟩ := draws_track _ _ _ _ _ h1
    have tr1 : ∀ i, i < q → (S i).next ≤ (S (i + 1)).next := by
      intro i hi
      obtain ⟨o, e1, e2, _⟩ := ht i hi
      exact (evOut E X rec ops (R i) o).loc.grow _ _ _ _ _ e2
    have mono : ∀ n m, n ≤ m → m ≤ q → (S n).next ≤ (S m).next := by
      intro n m hnm
      induction m with
      | zero => intro _; have : n = 0 := by omega
                subst this; exact Nat.le_refl _
      | succ m ih =>
        intro hm
        by_cases e : n = m + 1
        · subst e; exact Nat.le_refl _
        · exact Nat.le_trans (ih (by omega) (by omega)) (tr1 m (by omega))
    have key : st' = st1 ∧ p.2 = d.2.1 ∧ q ≤ ops.size ∧ (∀ i j, i < j → j < q → ((Region.before ops).getD j 0).testBit i = true ∨ Apart ops I i j) ∧
        ((q = ops.size ∧ p.1 = .normal ∧ st' = S q) ∨
        (∃ ch o, p.1 = .panic ch ∧ ops[q]? = some o ∧ Run (evOut E X rec ops (R q) o) (S q) (.panic ch) st' ∧ ∀ j, j < ops.size → j ≠ q → ((Region.before ops).getD q 0).testBit j = true ∨ ((Region.before ops).getD j 0).testBit q = true)) := by
      rcases hend with ⟨e1, e2, e3⟩ | ⟨ch, o, e1, e2, e3, e4⟩
      · rw [e1] at h
        dsimp only at h
        replace h := Run.bindGuard h
        obtain ⟨g, h⟩ := h
        obtain ⟨rfl, rfl⟩ := Run.pure.1 h
        have hq : q = ops.size := by simpa using e2
        exact ⟨rfl, rfl, by omega, drawOk_spec hI (by omega) (drawFast_ok hI (by omega) (by rw [hq]; exact g)), .inl ⟨hq, rfl, e3⟩⟩
      · rw [e1] at h
        dsimp only at h
        replace h := Run.bindGuard h
        obtain ⟨g, h⟩ := h
        obtain ⟨rfl, rfl⟩ := Run.pure.1 h
        rw [e2, Nat.add_sub_cancel, Bool.and_eq_true] at g
        have hIt : (∀ i, i < q → (d.2.2)[i]? = some (I i)) → ∀ i, i < q → (d.2.2.take q)[i]? = some (I i) := fun h i hi => by rw [List.getElem?_take_of_lt hi]; exact h i hi
        have hoq : ops[q]? = some o := by rw [Array.getElem?_toList] at e3; exact e3
        have hq : q < ops.size := by
          rcases Nat.lt_or_ge q ops.size with h | h
          · exact h
          · rw [Array.getElem?_eq_none h] at hoq; cases hoq
        refine ⟨rfl, rfl, by omega, drawOk_spec (hIt hI) (by omega) (drawFast_ok (hIt hI) (by omega) g.1), .inr ⟨ch, o, rfl, hoq, e4, fun j hj hne => ?_⟩⟩
        have := List.all_eq_true.1 g.2 j (List.mem_range.2 hj)
        simp only [Bool.or_eq_true, decide_eq_true_eq] at this
        rcases this with (h | h) | h
        · exact absurd h hne
        · exact .inl h
        · exact .inr h
    obtain ⟨rfl, hp2, hq, hap, hfin⟩ := key
    subst hS hR
    have hgq : (S q).next ≤ st'.next := by
      rcases hfin with ⟨_, _, rfl⟩ | ⟨ch, o, _, _, h, _⟩
      · exact Nat.le_refl _
      · exact Run.grow h
    have hRall : ∀ n, n ≤ q → (R n).size = (R 0).size ∧ (R n).defers = (R 0).defers ∧ (R n).mode = (R 0).mode := by
      intro n
      induction n with
      | zero => intro _; exact ⟨rfl, rfl, rfl⟩
      | succ n ih =>
        intro hn
        obtain ⟨o, _, _, _, _, e⟩ := ht n (by omega)
        rw [e, put_size, put_defers, put_mode]
        exact ih (by omega)
    have hres := perm_run ok hX hrec gp ht hq hap hfin hw.nxt b k (frs ctx.dfr cs0 u) u (fun _ => false) _ (good_schedule gp (w.tape w.drawn (.order b.fn id))) (S 0) (R 0) ι w.drew a
      (fun _ _ _ h => by cases h) (fun _ _ h => by cases h) ?_ ?_ hRall hw.drew ?_ ?_ hr
    · obtain ⟨ι1, w1, a1, ex1, q1, q2, q3, q4, q5, q6, q7⟩ := hres
      refine ⟨ι1, w1, a1, u, ex1, ⟨q1, q2, q3, ⟨q4.os, q4.tape, q4.output, q4.size, q4.block⟩⟩, by rw [hp2, hrm]; exact q5, q6, Arr.of_steps (.one stepR_region_draw) ?_⟩
      rw [hm]
      exact q7
    · intro x n hn hno _
      have : ∀ m, m ≤ n → (S m).get x = (S 0).get x := by
        intro m
        induction m with
        | zero => intro _; rfl
        | succ m ih =>
          intro hmn
          obtain ⟨o, e1, e2, e3, e4, _⟩ := ht m (by omega)
          rw [(evOut E X rec ops (R m) o).loc.keep _ _ _ _ _ e2 x ?_ ?_]
          · exact ih (by omega)
          · intro h; have := hno m (by omega) (.inl h); cases this
          · have : ¬ ((I m).lo ≤ x ∧ x < (I m).hi) := fun h => by have := hno m (by omega) (.inr h); cases this
            rw [e3, e4] at this
            omega
      exact (this n (Nat.le_refl _)).symm
    · intro t n hn hno _
      have : ∀ m, m ≤ n → (R m).get t = (R 0).get t := by
        intro m
        induction m with
        | zero => intro _; rfl
        | succ m ih =>
          intro hmn
          obtain ⟨o, e1, _, _, _, e5⟩ := ht m (by omega)
          have hRm := hRall m (by omega)
          rw [Array.getElem?_toList] at e1
          rw [e5, put_get _ (by rw [hRm.1]; exact hr.lt), if_neg, ih (by omega)]
          rintro ⟨h1, h2⟩
          rw [hRm.1] at h2
          have := hno m (by omega) ⟨by rw [e1]; exact h1, h2⟩
          cases this
      exact (this n (Nat.le_refl _)).symm
    · intro i hi _ c h1 h2
      have := mono 0 i (by omega) (by omega)
      have := mono (i + 1) q (by omega) (Nat.le_refl _)
      exact hfree c (by omega) (by omega)
    · intro _ c h1 h2
      have := mono 0 q (by omega) (Nat.le_refl _)
      exact hfree c (by omega) h2
end
end Go.Proofs.YtmmfpkkkpeapeaaGreatDoor.Ev
