/- The evaluator's registers beside a frame's, and one operation of a region beside the machine's steps. No condition. -/
import Derived.Test.YtmmfpkkkpeapeaaGreatDoorEvO
set_option linter.unusedSectionVars false
set_option linter.unusedVariables false
set_option linter.unusedSimpArgs false
namespace Go.Proofs.YtmmfpkkkpeapeaaGreatDoor.Ev
open Go Go.RowKit
variable [Sym]

inductive ChainRel (ι : Ren) : List PanicEntry → List PanicEntry → Prop
  | nil : ChainRel ι [] []
  | cons {e e' : PanicEntry} {l l' : List PanicEntry} (h : VRel ι e.v e'.v) (h1 : e'.recovered = e.recovered) (h2 : e'.goexit = e.goexit) (t : ChainRel ι l l') : ChainRel ι (e :: l) (e' :: l')
inductive ModeRel (ι : Ren) : FrameMode → FrameMode → Prop
  | run : ModeRel ι .run .run
  | returning : ModeRel ι .returning .returning
  | panicking {c c' : List PanicEntry} (h : ChainRel ι c c') : ModeRel ι (.panicking c) (.panicking c')
theorem ChainRel.mono {ι ι' : Ren} (le : ι.le ι') {l l' : List PanicEntry} (h : ChainRel ι l l') : ChainRel ι' l l' := by
  induction h with
  | nil => exact .nil
  | cons h h1 h2 _ ih => exact .cons (h.mono le) h1 h2 ih
theorem ChainRel.append {ι : Ren} {l l' m m' : List PanicEntry} (h : ChainRel ι l l') (k : ChainRel ι m m') : ChainRel ι (l ++ m) (l' ++ m') := by
  induction h with
  | nil => exact k
  | cons h h1 h2 _ ih => exact .cons h h1 h2 ih
theorem ModeRel.mono {ι ι' : Ren} (le : ι.le ι') {l l' : FrameMode} (h : ModeRel ι l l') : ModeRel ι' l l' := by
  cases h with
  | run => exact .run
  | returning => exact .returning
  | panicking h => exact .panicking (h.mono le)
structure RegRel (ι : Ren) (r : Regs) (a : Act) (u : FrameMode) : Prop where
  size : a.tmps.size = r.size
  lt : r.size < 1000000
  tmp : ∀ t, VRel ι (r.get t) (a.tmps.getD t undef)
  defers : DefersRel ι r.defers a.defers
  mode : ModeRel ι r.mode u
theorem RegRel.mono {ι ι' : Ren} (le : ι.le ι') {r : Regs} {a : Act} {u : FrameMode} (h : RegRel ι r a u) : RegRel ι' r a u :=
  ⟨h.size, h.lt, fun t => (h.tmp t).mono le, h.defers.mono le, h.mode.mono le⟩
theorem Regs.get_put {r : Regs} (h : r.size < 1000000) (d : Nat) (v : Value) (t : Nat) : (r.put (some d) v).get t = if d < r.size ∧ t = d then v else r.get t := by
  unfold Regs.put
  by_cases hd : d < r.size
  · have hb : Nat.blt d r.size = true := by unfold Nat.blt; exact Nat.ble_eq_true_of_le hd
    simp only [hb, Regs.get]
    rw [Tr.get_set 40 r.tmps d (some v) t (by have : (2 : Nat) ^ 40 = 1099511627776 := by decide
                                              omega)]
    by_cases e : t = d
    · simp [e, hd]
    · simp [e]
  · have hb : Nat.blt d r.size = false := by
      unfold Nat.blt
      cases e : Nat.ble (d + 1) r.size with
      | false => rfl
      | true => exact absurd (Nat.le_of_ble_eq_true e) hd
    simp only [hb]
    rw [if_neg (by omega)]
theorem RegRel.put {ι : Ren} {r : Regs} {a : Act} {u : FrameMode} (h : RegRel ι r a u) (d : Option Nat) {v v' : Value} (hv : VRel ι v v') : RegRel ι (r.put d v) (a.put d v') u := by
  cases d with
  | none => exact h
  | some d =>
    have hs : (r.put (some d) v).size = r.size := by simp only [Regs.put]; split <;> rfl
    have hd : (r.put (some d) v).defers = r.defers := by simp only [Regs.put]; split <;> rfl
    have hm : (r.put (some d) v).mode = r.mode := by simp only [Regs.put]; split <;> rfl
    refine ⟨by rw [hs]; simp [Act.put, h.size], by rw [hs]; exact h.lt, fun t => ?_, by rw [hd]; exact h.defers, by rw [hm]; exact h.mode⟩
    rw [Regs.get_put h.lt]
    simp only [Act.put, Array.getD_eq_getD_getElem?, Array.getElem?_setIfInBounds, h.size]
    have := h.tmp t
    simp only [Array.getD_eq_getD_getElem?] at this
    by_cases e : d = t
    · subst e
      by_cases hd : d < r.size
      · simp [hd]; exact hv
      · simp only [hd, false_and, if_false, if_true]
        rw [Array.getElem?_eq_none (by rw [h.size]; omega)] at this
        exact this
    · rw [if_neg (by omega), if_neg e]
      exact this
section
variable {E : Env} {P : Program} {B : Bd} {ι : Ren} {st st' : St} {w : World} {X : Ext}
theorem opd_rel (hw : WRel E.G B ι st w) {r : Regs} {a : Act} {u : FrameMode} (hr : RegRel ι r a u) (x : Operand) : VRel ι (evOpd E r x) (a.eval x) := by
  cases x with
  | tmp t => exact hr.tmp t
  | const v =>
    show VRel ι (if plainV 6 v then v else .complex .f64 0 0) v
    split
    · rename_i h; exact plainV_rel ι 6 v h
    · exact .top v
  | global g =>
    show VRel ι (if g + 16 < E.G then .pointer (some ⟨g, 0, none⟩) else .complex .f64 0 0) (.pointer (some ⟨g, 0, none⟩))
    split
    · rename_i h; exact .ptr ⟨Ren.to_of (hw.glob g h), rfl, rfl, rfl⟩
    · exact .top _
  | func f => exact .func (.func f) rfl rfl (fun i hi => absurd hi (by simp)) (fun i hi => absurd hi (by simp))
theorem wanted_run {ops : Array Oper} {r : Regs} {a : Act} {u : FrameMode} (hr : RegRel ι r a u) {o : Oper} {b : Bool} (h : evWanted ops r o = some b) : Region.wanted o (yielded ops a.tmps) = b := by
  unfold evWanted at h
  unfold Region.wanted
  split at h
  · rename_i e; rw [e]; cases h; rfl
  · rename_i j want e
    rw [e]
    dsimp only
    unfold yielded
    split at h
    · rename_i e2; cases h
      rw [e2]; rfl
    · rename_i d e2
      rw [e2]
      simp only [Option.bind_some]
      have ht := hr.tmp d
      split at h
      · rename_i x e3
        cases h
        rw [e3] at ht
        have h4 : a.tmps[d]? = some (.bool x) := by
          rcases Nat.lt_or_ge d a.tmps.size with hd | hd
          · rw [get?_of_lt hd]
            cases ht' : a.tmps.getD d undef <;> rw [ht'] at ht <;> cases ht
            rfl
          · have : a.tmps.getD d undef = undef := by simp [Array.getD, Nat.not_lt.2 hd]
            rw [this] at ht; cases ht
        rw [h4]
        cases x <;> cases want <;> rfl
      · cases h
      · rename_i n1 n2
        cases h
        have h5 : ∀ x, a.tmps[d]? ≠ some (.bool x) := by
          intro x e4
          rw [getD_of_get? e4] at ht
          cases hq : r.get d with
          | complex k a b => exact n2 _ _ _ hq
          | bool b => exact n1 _ hq
          | _ => rw [hq] at ht; cases ht
        split
        · rename_i x e4; exact absurd e4 (h5 x)
        · rfl
inductive EndRel (ι : Ren) : AEnd → Ending → Prop
  | returned {v v' : Value} (h : VRel ι v v') : EndRel ι (.returned v) (.returned v')
  | panicked {c c' : List PanicEntry} (h : ChainRel ι c c') : EndRel ι (.panicked c) (.panicked c')
def after (c : Frame) : Ending → Frame
  | .returned v => c.finish v
  | .panicked ch => c.raise ch
  | .outgrown => c
/-- What the calls of functions do, beside the machine's. -/
structure CallSound (E : Env) (P : Program) (B : Bd) (rec : Req → LM Ans2) : Prop where
  call : ∀ f args st a st', Run (rec (.call f args)) st a st' → ∀ ι w args', WRel E.G B ι st w → Free ι st.next st'.next → ARel ι args args' → ∀ cs,
    ∃ ι' w' e' fr, Post E.G B ι st w st' ι' w' ∧ EndRel ι' a.fin e' ∧ Steps P (lone (Frame.enter P f args' .normal) cs w) (lone fr cs w') ∧ fr.fn = f ∧ fr.leaving P w' e'
  dcall : ∀ f args u st a st', Run (rec (.dcall f args u)) st a st' → ∀ ι w args', WRel E.G B ι st w → Free ι st.next st'.next → ARel ι args args' → ∀ (c : Frame) cs, ModeRel ι u c.mode →
    ∃ ι' w' e' u' fr, Post E.G B ι st w st' ι' w' ∧ EndRel ι' a.fin e' ∧ ModeRel ι' a.mode u' ∧ Steps P (lone (Frame.enter P f args' .deferred) (c :: cs) w) (lone fr ({ c with mode := u' } :: cs) w') ∧ fr.kind = .deferred ∧ fr.going P w' e'
  round : ∀ l f tmps assign body st a st', Run (rec (.round l f tmps assign body)) st a st' → ∀ ι w l' tmps', WRel E.G B ι st w → Free ι st.next st'.next → ι.to l = some l' → ARel ι tmps tmps' → ∀ (c : Frame) cs,
    ∃ ι' w' e', Post E.G B ι st w st' ι' w' ∧ EndRel ι' a.fin e' ∧ Steps P (lone (Frame.round l' f tmps' assign body .normal) (c :: cs) w) (lone (after c e') cs w')
inductive OutRel (ι : Ren) : Out → Out → Prop
  | val {v v' : Value} (h : VRel ι v v') : OutRel ι (.val v) (.val v')
  | panic {c c' : List PanicEntry} (h : ChainRel ι c c') : OutRel ι (.panic c) (.panic c')
  | defer {d d' : Deferred} (h : DeferRel ι d d') : OutRel ι (.defer d) (.defer d')
  | recover : OutRel ι .recover .recover
/-- Where an operation of a region has led the machine. -/
def OutAt (P : Program) (b : Frame) (a : Act) (ops : Array Oper) (i : Nat) (rest : List Nat) (k : List Item) (cs : List Frame) (w : World) (o : Oper) (w' : World) : Out → Prop
  | .val v => Steps P (lone (b.atR a (.inRegion ops (i :: rest) :: k)) cs w) (lone (b.atR (a.put o.dst v) (.inRegion ops rest :: k)) cs w')
  | .panic ch => Steps P (lone (b.atR a (.inRegion ops (i :: rest) :: k)) cs w) (lone { b.atR a (.inRegion ops (i :: rest) :: k) with mode := .panicking ch } cs w')
  | .defer d => b.roundOf = none → Steps P (lone (b.atR a (.inRegion ops (i :: rest) :: k)) cs w) (lone (b.atR (({ a with defers := d :: a.defers } : Act).put o.dst undef) (.inRegion ops rest :: k)) cs w')
  | .recover => Region.wanted o (yielded ops a.tmps) = true ∧ (execOp a.eval o).run P w = .ok .recover w'
theorem exec_defer {ρ : Operand → Value} {o : Oper} {n : ANext} (h : Run (aExec E X ρ o) st n st') : (∀ c, o.op ≠ .defer c) ∨ ∃ d, n = .defer d := by
  obtain ⟨dst, op, type, pos, after, guard⟩ := o
  by_cases hc : ∃ c, op = .defer c
  · obtain ⟨c, rfl⟩ := hc
    right
    unfold aExec at h
    dsimp only at h
    replace h := Run.bind.1 h
    obtain ⟨d, st1, h1, h⟩ := h
    obtain ⟨rfl, rfl⟩ := Run.pure.1 h
    exact ⟨d, rfl⟩
  · left
    intro c e
    exact hc ⟨c, e⟩
theorem out_does (ok : E.Ok P) (hX : X.Ok E P B) {rec : Req → LM Ans2} (hrec : CallSound E P B rec) (hw : WRel E.G B ι st w) (hfree : Free ι st.next st'.next) {ops : Array Oper} {i : Nat} {o : Oper} (hi : ops[i]? = some o)
    {r : Regs} {a : Act} {u : FrameMode} (hr : RegRel ι r a u) {x : Out} (h : Run (evOut E X rec ops r o) st x st') (b : Frame) (rest : List Nat) (k : List Item) (cs : List Frame) :
    ∃ ι' w' x', Post E.G B ι st w st' ι' w' ∧ OutRel ι' x x' ∧ OutAt P b a ops i rest k cs w o w' x' := by
  unfold evOut at h
  replace h := Run.bindOpt h
  obtain ⟨wt, ew, h⟩ := h
  have hwant := wanted_run hr ew
  cases wt with
  | false =>
    obtain ⟨rfl, rfl⟩ := Run.pure.1 h
    refine ⟨ι, w, .val undef, Post.refl hw, .val (VRel.undef ι), ?_⟩
    have := stepR_op_skip (P := P) (b := b) (a := a) (k := k) (cs := cs) (w := w) (ops := ops) (i := i) (rest := rest) (by rw [hi]; exact hwant)
    rw [hi] at this
    exact .one this
  | true =>
    replace h := Run.bind.1 h
    obtain ⟨n, st1, h1, h⟩ := h
    rw [aExecF_eq] at h1
    have hg1 := Run.grow h1
    have hg2 : st1.next ≤ st'.next := by
      have := Run.grow h; exact this
    obtain ⟨ι1, w1, hp1, hn⟩ := exec_does ok hX hw (fun c h1 h2 => hfree c h1 (by omega)) (fun y => opd_rel hw hr y) h1
    have hsem : (∃ d, n = .defer d) ∨ o.semAt b.roundOf a.eval = execOp a.eval o := by
      rcases exec_defer h1 with h | h
      · exact .inr (Oper.semAt_eq _ _ _ h)
      · exact .inl h
    have hg := stepGR_op (P := P) (b := b) (a := a) (k := k) (cs := cs) (w := w) (rest := rest) hi hwant
    have hfin : ∀ v, (b.atR a (.inRegion ops (i :: rest) :: k)).finish v = b.atR (a.put o.dst v) (.inRegion ops rest :: k) := by
      intro v; rw [Frame.finish_atR, hi]; rfl
    generalize hres : (execOp a.eval o).run P w = res at hn
    cases hn with
    | value hv =>
      obtain ⟨rfl, rfl⟩ := Run.pure.1 h
      rw [hsem.resolve_left (by rintro ⟨d, hd⟩; cases hd)] at hg
      refine ⟨ι1, w1, _, hp1, .val hv, .one (step_lone_go ?_)⟩
      rw [hg, ← hfin]; simp [stepG.apply, hres]
    | skip =>
      obtain ⟨rfl, rfl⟩ := Run.pure.1 h
      rw [hsem.resolve_left (by rintro ⟨d, hd⟩; cases hd)] at hg
      refine ⟨ι1, w1, _, hp1, .val (VRel.undef ι1), .one (step_lone_go ?_)⟩
      rw [hg, ← hfin]; simp [stepG.apply, hres]
    | defer hd =>
      rename_i d d'
      obtain ⟨rfl, rfl⟩ := Run.pure.1 h
      refine ⟨ι1, w1, .defer d', hp1, .defer hd, fun hro => .one (step_lone_go ?_)⟩
      rw [hro, Oper.semAt_none] at hg
      have : ({ b.atR a (.inRegion ops (i :: rest) :: k) with defers := d' :: a.defers } : Frame).finish undef =
          b.atR ({ a with defers := d' :: a.defers }.put o.dst undef) (.inRegion ops rest :: k) := by
        have := Frame.finish_atR b { a with defers := d' :: a.defers } ops i rest k undef
        rw [hi] at this; exact this
      rw [hg]; simp only [stepG.apply, Sem.runT_eq, hres, GStep.bare_after]
      exact congrArg (fun fr => GStep.go { frame := fr, callers := cs, status := .running, dying := none } w1) this
    | recover =>
      obtain ⟨rfl, rfl⟩ := Run.pure.1 h
      exact ⟨ι1, w1, .recover, hp1, .recover, hwant, hres⟩
    | panic hv =>
      rename_i v v'
      obtain ⟨rfl, rfl⟩ := Run.pure.1 h
      rw [hsem.resolve_left (by rintro ⟨d, hd⟩; cases hd)] at hg
      refine ⟨ι1, w1, .panic [{ v := v', recovered := false }], hp1, .panic (.cons hv rfl rfl .nil), .one (step_lone_go ?_)⟩
      rw [hg, ← Frame.raise_atR]; simp [stepG.apply, hres]
    | enter hf ha =>
      rename_i f fn args args'
      rw [hsem.resolve_left (by rintro ⟨d, hd⟩; cases hd)] at hg
      replace h := Run.bind.1 h
      obtain ⟨ans, st2, h2, h⟩ := h
      obtain ⟨rfl, rfl⟩ := Run.pure.1 h
      have hg3 := Run.grow h2
      obtain ⟨ι2, w2, e', fr, hp2, he, hs, hfn, hl⟩ := hrec.call _ _ _ _ _ h2 ι1 w1 args' hp1.rel (Free.mid hp1 hfree hg1) ha (b.atR a (.inRegion ops (i :: rest) :: k) :: cs)
      have henter : step P (lone (b.atR a (.inRegion ops (i :: rest) :: k)) cs w) = .next (lone (Frame.enter P f args' .normal) (b.atR a (.inRegion ops (i :: rest) :: k) :: cs) w1) :=
        step_lone_go (by rw [hg]; simp [stepG.apply, hres, Frame.atR])
      have hp := hp1.trans hp2 hg1 hg3
      generalize ans.fin = fin at he
      cases he with
      | returned hv =>
        refine ⟨ι2, w2, _, hp, .val hv, .head henter (hs.trans (.one ?_))⟩
        rw [← hfin]; exact step_leave_returned hl
      | panicked hc =>
        refine ⟨ι2, w2, _, hp, .panic hc, .head henter (hs.trans (.one ?_))⟩
        rw [← Frame.raise_atR]; exact step_leave_panicked hl
    | round hl ha =>
      rename_i l l' f args args' assign body
      rw [hsem.resolve_left (by rintro ⟨d, hd⟩; cases hd)] at hg
      replace h := Run.bind.1 h
      obtain ⟨ans, st2, h2, h⟩ := h
      obtain ⟨rfl, rfl⟩ := Run.pure.1 h
      have hg3 := Run.grow h2
      obtain ⟨ι2, w2, e', hp2, he, hs⟩ := hrec.round _ _ _ _ _ _ _ _ h2 ι1 w1 l' args' hp1.rel (Free.mid hp1 hfree hg1) hl ha (b.atR a (.inRegion ops (i :: rest) :: k)) cs
      have henter : step P (lone (b.atR a (.inRegion ops (i :: rest) :: k)) cs w) = .next (lone (Frame.round l' f args' assign body .normal) (b.atR a (.inRegion ops (i :: rest) :: k) :: cs) w1) :=
        step_lone_go (by rw [hg]; simp [stepG.apply, hres, Frame.atR])
      have hp := hp1.trans hp2 hg1 hg3
      generalize ans.fin = fin at he
      cases he with
      | returned hv =>
        refine ⟨ι2, w2, _, hp, .val hv, .head henter ?_⟩
        rw [← hfin]; exact hs
      | panicked hc =>
        refine ⟨ι2, w2, _, hp, .panic hc, .head henter ?_⟩
        rw [← Frame.raise_atR]; exact hs
end
end Go.Proofs.YtmmfpkkkpeapeaaGreatDoor.Ev
