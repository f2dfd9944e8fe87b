/- The evaluator whole beside the machine: results, deferred calls, calls, rounds. No condition. -/
import Derived.Test.YtmmfpkkkpeapeaaGreatDoorEvT
set_option linter.unusedSectionVars false
set_option linter.unusedVariables false
set_option linter.unusedSimpArgs false
namespace Go.Proofs.YtmmfpkkkpeapeaaGreatDoor.Ev
open Go Go.RowKit
variable [Sym]

section
variable {E : Env} {P : Program} {B : Bd} {X : Ext} {rec : Req → LM Ans2} {ι : Ren} {st st' : St} {w : World}
def resOne (tmps : Array Value) : ResultVar → Sem Value
  | .tmp t => pure (tmps.getD t undef)
  | .cell a t => do loadVar t (← asAddr (tmps.getD a undef))
theorem results_list (ok : E.Ok P) (hw : WRel E.G B ι st w) {r : Regs} {a : Act} {u : FrameMode} (hr : RegRel ι r a u) : ∀ (l : List ResultVar) (vs : List Value) (st1 : St), Run (evResults E r l) st vs st1 →
    st1 = st ∧ ∃ vs', (l.mapM (resOne a.tmps)).run P w = .ok vs' w ∧ VL ι vs vs' := by
  intro l
  induction l with
  | nil =>
    intro vs st1 h
    obtain ⟨rfl, rfl⟩ := Run.pure.1 h
    exact ⟨rfl, [], rfl, .nil⟩
  | cons x l ih =>
    intro vs st1 h
    cases x with
    | tmp t =>
      unfold evResults at h
      replace h := Run.bind.1 h
      obtain ⟨vs1, st2, h1, h⟩ := h
      obtain ⟨rfl, rfl⟩ := Run.pure.1 h
      obtain ⟨rfl, vs', hrun, hv⟩ := ih _ _ h1
      refine ⟨rfl, a.tmps.getD t undef :: vs', ?_, .cons (hr.tmp t) hv⟩
      rw [List.mapM_cons]
      simp only [resOne, Sem.run_bind, Sem.run_pure, Result.andThen_ok, hrun]
    | cell c t =>
      unfold evResults at h
      replace h := Run.bind.1 h
      obtain ⟨v, st2, h0, h⟩ := h
      replace h := Run.bind.1 h
      obtain ⟨vs1, st3, h1, h⟩ := h
      obtain ⟨rfl, rfl⟩ := Run.pure.1 h
      have hst2 := (load_does ok hw (hr.tmp c) h0)
      obtain ⟨rfl, x', hx1, hx2⟩ := hst2
      obtain ⟨rfl, vs', hrun, hv⟩ := ih _ _ h1
      have hp : ∃ a0, r.get c = .pointer (some a0) := by
        unfold aLoad at h0
        replace h0 := Run.bind.1 h0
        obtain ⟨a0, st4, h2, _⟩ := h0
        exact ⟨a0, (Run.addrOf h2).1⟩
      obtain ⟨a0, ha0⟩ := hp
      have hv0 := hr.tmp c
      rw [ha0] at hv0
      obtain ⟨q, hq, _⟩ := ptr_inv hv0
      refine ⟨rfl, x' :: vs', ?_, .cons hx2 hv⟩
      rw [List.mapM_cons]
      rw [hq] at hx1
      have hx3 : (loadVar t ⟨q, a0.off, none⟩).run P w = .ok x' w := by
        have : (Instr.loadAt t (.pointer (some ⟨q, a0.off, none⟩))).run P w = (loadVar t ⟨q, a0.off, none⟩).run P w := by
          simp [Instr.loadAt, Instr.sureAddr]
        rw [← this]; exact hx1
      simp only [resOne, hq, asAddr, Sem.run_bind, Sem.run_pure, Result.andThen_ok, hx3, hrun]
theorem VL.toArray {vs vs' : List Value} (h : VL ι vs vs') : ARel ι vs.toArray vs'.toArray := by
  induction h with
  | nil => exact ARel.nil ι
  | cons h _ ih =>
    have := (ARel.one h).append ih
    simpa using this
theorem oneOf_rel {vs vs' : List Value} (h : VL ι vs vs') : VRel ι (oneOf vs) (oneOf vs') := by
  cases h with
  | nil => exact .tuple rfl fun i hi => absurd hi (by simp)
  | cons h t =>
    cases t with
    | nil => exact h
    | cons h2 t =>
      have := (VL.cons h (VL.cons h2 t)).toArray
      exact .tuple this.1 this.2
theorem results_eq (fn : Func) (tmps : Array Value) {vs : List Value} (h : (fn.results.toList.mapM (resOne tmps)).run P w = .ok vs w) : (results fn tmps).run P w = .ok (oneOf vs) w := by
  have hf : results fn tmps = (do
      let vs ← fn.results.mapM (resOne tmps)
      pure (if h : vs.size = 1 then vs[0] else .tuple vs)) := by
    unfold results
    congr 1
  rw [hf, Array.mapM_eq_mapM_toList]
  simp only [Sem.run_bind, Sem.run_map, h, Result.andThen_ok, Sem.run_pure]
  congr 1
  match vs with
  | [] => rfl
  | [v] => rfl
  | v :: v2 :: l => simp [oneOf]
theorem chain_drop {c c' : List PanicEntry} (h : ChainRel ι c c') : ChainRel ι (c.dropWhile (!·.goexit)) (c'.dropWhile (!·.goexit)) := by
  induction h with
  | nil => exact .nil
  | cons h h1 h2 t ih =>
    rename_i e e' l l'
    simp only [List.dropWhile_cons, h2]
    split
    · exact ih
    · exact .cons h h1 h2 t
theorem settle_rel {m u : FrameMode} (h : ModeRel ι m u) : ModeRel ι (settleA m) (settle u) := by
  cases h with
  | run => exact .run
  | returning => exact .returning
  | panicking h =>
    cases h with
    | nil => exact .panicking .nil
    | cons h h1 h2 t =>
      rename_i e e' l l'
      obtain ⟨v, r, g⟩ := e
      obtain ⟨v', r', g'⟩ := e'
      simp only at h1 h2 h
      subst h1 h2
      cases r' with
      | false => exact .panicking (.cons h rfl rfl t)
      | true =>
        have hd := chain_drop t
        simp only [settleA, settle]
        generalize l.dropWhile (!·.goexit) = x at hd ⊢
        generalize l'.dropWhile (!·.goexit) = y at hd ⊢
        cases hd with
        | nil => exact .returning
        | cons a b c d => exact .panicking (.cons a b c d)
theorem raised_rel {m u : FrameMode} {c c' : List PanicEntry} (h : ModeRel ι m u) (hc : ChainRel ι c c') : ModeRel ι (raisedA m c) (raised u c') := by
  cases h with
  | run => exact .panicking hc
  | returning => exact .panicking hc
  | panicking h => exact .panicking (hc.append h)
theorem settle_run {u : FrameMode} (h : u ≠ .run) : settle u ≠ .run := by
  unfold settle
  split
  · split <;> simp
  · exact h
theorem raised_run (u : FrameMode) (c : List PanicEntry) : raised u c ≠ .run := by
  unfold raised
  split <;> simp
theorem ModeRel.run_iff {m u : FrameMode} (h : ModeRel ι m u) (hu : u ≠ .run) : m ≠ .run := by
  cases h with
  | run => exact absurd rfl hu
  | returning => simp
  | panicking h => simp
theorem step_defer2 {fr : Frame} {cs : List Frame} {w w1 : World} {d : Deferred} {ds : List Deferred} {fv : Fn} {cap : Array Value} {f : FuncId}
    {args : Array Value} (hm : fr.mode ≠ .run) (hd : fr.defers = d :: ds) (ht : d.target = .fn fv cap)
    (hi : (invoke d.target d.args).run P w = .ok (.enter f args) w1) :
    step P (lone fr cs w) = .next (lone (Frame.enter P f args .deferred) ({ fr with defers := ds } :: cs) w1) := by
  obtain ⟨t, a⟩ := d
  simp only at ht hi
  subst ht
  refine step_lone_go ?_
  cases hmode : fr.mode with
  | run => exact absurd hmode hm
  | returning => simp [stepG, unwind, callDeferred, hmode, hd, hi]
  | panicking chain => simp [stepG, unwind, callDeferred, hmode, hd, hi]
theorem DefersRel.append {l l' m m' : List Deferred} (h : DefersRel ι l l') (k : DefersRel ι m m') : DefersRel ι (l ++ m) (l' ++ m') := by
  induction h with
  | nil => exact k
  | cons h _ ih => exact .cons h ih
theorem leaves_does (ok : E.Ok P) (hX : X.Ok E P B) (hrec : CallSound E P B rec) : ∀ (n : Nat) (ds : List Deferred) (u : FrameMode) (u2 : FrameMode) (ι : Ren) (st st' : St) (w : World) (ds' : List Deferred) (um : FrameMode),
    Run (evLeaves E X rec n ds u) st u2 st' → WRel E.G B ι st w → Free ι st.next st'.next → DefersRel ι ds ds' → ModeRel ι u um → um ≠ .run → ∀ (fr : Frame) (cs : List Frame), fr.mode = um → fr.defers = ds' →
    ∃ ι' w' um', Post E.G B ι st w st' ι' w' ∧ ModeRel ι' u2 um' ∧ um' ≠ .run ∧ Steps P (lone fr cs w) (lone { fr with mode := um', defers := [] } cs w') := by
  intro n
  induction n with
  | zero => intro ds u u2 ι st st' w ds' um h; exact (Run.fail.1 h).elim
  | succ n ih =>
    intro ds u u2 ι st st' w ds' um h hw hfree hds hmode hrun fr cs hfm hfd
    cases hds with
    | nil =>
      obtain ⟨rfl, rfl⟩ := Run.pure.1 h
      refine ⟨ι, w, um, Post.refl hw, hmode, hrun, ?_⟩
      have : ({ fr with mode := um, defers := [] } : Frame) = fr := by cases fr; simp only at hfm hfd; subst hfm hfd; rfl
      rw [this]
      exact Steps.refl _ _
    | cons hd ht =>
      rename_i d d' ds ds'
      obtain ⟨tgt, dargs⟩ := d
      obtain ⟨tgt', dargs'⟩ := d'
      obtain ⟨htg, hda⟩ := hd
      simp only at htg hda
      unfold evLeaves at h
      cases htg with
      | collected hb =>
        rename_i r r'
        dsimp only at h
        replace h := Run.bindLook h
        obtain ⟨o, eo, h⟩ := h
        split at h
        · rename_i calls
          replace h := Run.bindGuard h
          obtain ⟨g, h⟩ := h
          replace h := Run.bind.1 h
          obtain ⟨uu, st1, h1, h⟩ := h
          obtain ⟨hnx, hget⟩ := Run.put h1
          have hg2 := Run.grow h
          obtain ⟨κ, hκ⟩ := Ren.to_some hb
          obtain ⟨ro, hh, hro⟩ := hw.obj _ r' κ _ hκ eo
          cases hro with
          | deferred hcalls =>
          rename_i calls'
          have hk := run_takeDeferred (P := P) hh
          have hp1 : Post E.G B ι st w st1 ι (w.putObj r' (.deferred none)) := Post.turn hw hκ (of_decide_eq_true g) eo hget hnx .deferred0
          have hs := step_collected (P := P) (cs := cs) (by rw [hfm]; exact hrun) hfd rfl hk
          obtain ⟨ι2, w2, um2, hp2, hm2, hr2, hs2⟩ := ih _ _ _ ι st1 st' _ (calls' ++ ds') um h hp1.rel (by rw [hnx]; exact hfree) (hcalls.append ht) hmode hrun { fr with defers := calls' ++ ds' } cs hfm rfl
          exact ⟨ι2, w2, um2, hp1.trans hp2 (by omega) hg2, hm2, hr2, .head hs hs2⟩
        · exact (Run.fail.1 h).elim
      | fn hfn hcap =>
        rename_i f f' cap cap'
        dsimp only at h
        replace h := Run.bind.1 h
        obtain ⟨nx, st1, h1, h⟩ := h
        have hg1 := Run.grow h1
        have hg2 := Run.grow h
        obtain ⟨ι1, w1, hp1, hn1⟩ := invoke_does (P := P) ok hX hw (fun c h1 h2 => hfree c h1 (by omega)) hfn hcap hda h1
        split at h
        · rename_i g args
          replace h := Run.bind.1 h
          obtain ⟨ans, st2, h2, h⟩ := h
          replace h := Run.bindGuard h
          obtain ⟨gm, h⟩ := h
          have hg3 := Run.grow h2
          have hg4 := Run.grow h
          generalize hinv : (invoke (.fn f' cap') dargs').run P w = res at hn1
          cases hn1 with
          | enter hfe hargs =>
          rename_i gfn args'
          have hs1 := step_defer2 (P := P) (fr := fr) (cs := cs) (w := w) (d := { target := .fn f' cap', args := dargs' }) (ds := ds') (by rw [hfm]; exact hrun) hfd rfl hinv
          obtain ⟨ι2, w2, e', u', fr2, hp2, he2, hm2, hs2, hk2, hg2'⟩ := hrec.dcall _ _ _ _ _ _ h2 ι1 w1 args' hp1.rel (Free.mid hp1 (fun c h1 h2 => hfree c h1 (by omega)) hg1) hargs { fr with defers := ds' } cs (by rw [hfm]; exact hmode.mono hp1.le)
          have hp12 := hp1.trans hp2 hg1 hg3
          have hurun : u' ≠ .run := by
            intro e; subst e
            generalize ans.mode = m at hm2 gm
            cases hm2
            cases gm
          generalize ans.fin = fin at he2 h
          cases he2 with
          | returned hv =>
            rename_i v v'
            dsimp only at h
            have hs3 := step_going_returned (c := { { fr with defers := ds' } with mode := u' }) (cs := cs) hk2 hg2'
            obtain ⟨ι3, w3, um3, hp3, hm3, hr3, hs4⟩ := ih _ _ _ ι2 st2 st' w2 ds' (settle u') h hp12.rel (Free.mid hp12 hfree (by omega)) (ht.mono hp12.le) (settle_rel hm2) (settle_run hurun) { { { fr with defers := ds' } with mode := u' } with mode := settle u' } cs rfl rfl
            exact ⟨ι3, w3, um3, hp12.trans hp3 (by omega) hg4, hm3, hr3, .head hs1 (hs2.trans (.head hs3 hs4))⟩
          | panicked hc =>
            rename_i c c'
            dsimp only at h
            have hs3 := step_going_panicked (c := { { fr with defers := ds' } with mode := u' }) (cs := cs) hg2'
            obtain ⟨ι3, w3, um3, hp3, hm3, hr3, hs4⟩ := ih _ _ _ ι2 st2 st' w2 ds' (raised u' c') h hp12.rel (Free.mid hp12 hfree (by omega)) (ht.mono hp12.le) (raised_rel hm2 hc) (raised_run _ _) { { { fr with defers := ds' } with mode := u' } with mode := raised u' c' } cs rfl rfl
            exact ⟨ι3, w3, um3, hp12.trans hp3 (by omega) hg4, hm3, hr3, .head hs1 (hs2.trans (.head hs3 hs4))⟩
        · exact (Run.fail.1 h).elim
/-! ### a call, whole -/
theorem fill_get : ∀ (vs : List Value) (i : Nat) (t : Tr Value) (m : Nat), i + vs.length < 1000000 → (Regs.fill vs i t).get m = if i ≤ m ∧ m < i + vs.length then vs[m - i]? else t.get m
  | [], i, t, m, h => by rw [if_neg (by simp)]; rfl
  | v :: vs, i, t, m, h => by
    simp only [List.length_cons] at h
    unfold Regs.fill
    rw [fill_get vs (i + 1) _ m (by omega)]
    have h40 : (2 : Nat) ^ 40 = 1099511627776 := by decide
    by_cases h1 : m = i
    · subst h1
      rw [if_neg (by omega), if_pos (by simp), Tr.get_set 40 t m (some v) m (by omega), if_pos rfl]
      simp
    · by_cases h2 : i + 1 ≤ m ∧ m < i + 1 + vs.length
      · rw [if_pos h2, if_pos (by simp; omega)]
        obtain ⟨d, hd⟩ : ∃ d, m - i = d + 1 := ⟨m - i - 1, by omega⟩
        rw [hd, show m - (i + 1) = d by omega]; rfl
      · rw [if_neg h2, if_neg (by simp; omega), Tr.get_set 40 t i (some v) m (by omega), if_neg h1]
theorem enter_rel {args args' : Array Value} (ha : ARel ι args args') {n : Nat} (h1 : args.size ≤ n) (h2 : n < 1000000) {m u : FrameMode} (hm : ModeRel ι m u) :
    RegRel ι (enterRegs args n m) { tmps := args' ++ Array.replicate (n - args'.size) undef, defers := [] } u := by
  refine ⟨by simp [enterRegs, ha.1]; omega, h2, fun t => ?_, .nil, hm⟩
  show VRel ι (((Regs.fill args.toList 0 .nil).get t).getD undef) _
  rw [fill_get _ _ _ _ (by simp; omega)]
  simp only [Nat.zero_le, true_and, Nat.zero_add, Nat.sub_zero, Array.length_toList]
  simp only [Array.getD_eq_getD_getElem?, Array.getElem?_append, ha.1]
  by_cases ht : t < args.size
  · rw [if_pos ht, if_pos ht]
    have := ha.2 t ht
    simp only [Array.getD_eq_getD_getElem?] at this
    rw [Array.getElem?_toList]
    exact this
  · rw [if_neg ht, if_neg ht]
    simp only [Tr.get_nil, Option.getD_none, Array.getElem?_replicate]
    split <;> exact VRel.undef ι
/-- From an exit of a frame's code on to its end. -/
theorem end_does (ok : E.Ok P) (hX : X.Ok E P B) (hrec : CallSound E P B rec) {N : Nat} {fn : Func} {p : AExit × Regs} {ans : Ans2} (hw : WRel E.G B ι st w) (hfree : Free ι st.next st'.next) (h : Run (evEnd E X rec N fn p) st ans st') {b : Frame} (hro : b.roundOf = none) (hfn : P.funcs[b.fn]? = some fn)
    {m : Machine} {cs : List Frame} {a : Act} {u : FrameMode} {ex' : AExit} (hr : RegRel ι p.2 a u) (hex : ExRel ι p.1 ex') (harr : Arr P m b [] cs ex' a w) :
    ∃ ι' w' e' fr, Post E.G B ι st w st' ι' w' ∧ EndRel ι' ans.fin e' ∧ ans.mode = p.2.mode ∧ Steps P m (lone fr cs w') ∧ fr.fn = b.fn ∧ fr.kind = b.kind ∧
      (match e' with
        | .returned v => fr.mode = .returning ∧ fr.defers = [] ∧ (results fn fr.tmps).run P w' = .ok v w'
        | .panicked ch => fr.mode = .panicking ch ∧ fr.defers = []
        | .outgrown => False) := by
  unfold evEnd at h
  replace h := Run.bindOpt h
  obtain ⟨um, eu, h⟩ := h
  replace h := Run.bind.1 h
  obtain ⟨u2, st1, h1, h⟩ := h
  have hg1 := Run.grow h1
  have hg2 := Run.grow h
  have hstart : ∃ (um' : FrameMode) (todo : List Item), ModeRel ι um um' ∧ um' ≠ .run ∧ Steps P m (lone { b.atR a todo with mode := um' } cs w) := by
    obtain ⟨e1, r1⟩ := p
    dsimp only at eu hex
    cases hex with
    | normal => cases eu; exact ⟨.returning, [], .returning, nofun, Steps.trans harr (.one (stepR_end hro))⟩
    | ret => cases eu; obtain ⟨k1, hs⟩ := harr; exact ⟨.returning, _, .returning, nofun, hs.trans (.one (stepR_ret hro))⟩
    | exit id => cases eu
    | panic hc => cases eu; obtain ⟨todo, hs⟩ := harr; exact ⟨_, todo, .panicking hc, nofun, hs⟩
  obtain ⟨um', todo, hmr, hnr, hs⟩ := hstart
  obtain ⟨ι1, w1, um2, hp1, hm1, hr1, hs1⟩ := leaves_does ok hX hrec N _ _ _ ι st st1 w a.defers um' h1 hw (fun c h1 h2 => hfree c h1 (by omega)) hr.defers hmr hnr { b.atR a todo with mode := um' } cs rfl rfl
  cases hm1 with
  | run => exact absurd rfl hr1
  | returning =>
    dsimp only at h
    replace h := Run.bind.1 h
    obtain ⟨vs, st2, h2, h⟩ := h
    obtain ⟨rfl, rfl⟩ := Run.pure.1 h
    obtain ⟨rfl, vs', hrun, hv⟩ := results_list ok hp1.rel (hr.mono hp1.le) _ _ _ h2
    exact ⟨ι1, w1, .returned (oneOf vs'), _, hp1, .returned (oneOf_rel hv), rfl, hs.trans hs1, rfl, rfl, rfl, rfl, results_eq fn _ hrun⟩
  | panicking hc =>
    obtain ⟨rfl, rfl⟩ := Run.pure.1 h
    exact ⟨ι1, w1, .panicked _, _, hp1, .panicked hc, rfl, hs.trans hs1, rfl, rfl, rfl, rfl⟩
theorem fn_does (ok : E.Ok P) (hX : X.Ok E P B) (hrec : CallSound E P B rec) (hm : P.follows .mixedOrders = true) {N : Nat} {dfr : Bool} {f : Nat} {args args' : Array Value} {m u : FrameMode} {ans : Ans2} (h : Run (evFn E X rec N dfr f args m) st ans st')
    (hw : WRel E.G B ι st w) (hfree : Free ι st.next st'.next) (ha : ARel ι args args') (hmode : ModeRel ι m u) (cs0 : List Frame) (hcs : dfr = true → ∃ c cs, cs0 = c :: cs) :
    ∃ ι' w' e' u' fr fn, P.funcs[f]? = some fn ∧ Post E.G B ι st w st' ι' w' ∧ EndRel ι' ans.fin e' ∧ ModeRel ι' ans.mode u' ∧ Steps P (lone (Frame.enter P f args' (kindOf dfr)) (frs dfr cs0 u) w) (lone fr (frs dfr cs0 u') w') ∧ fr.fn = f ∧ fr.kind = kindOf dfr ∧
      (match e' with
        | .returned v => fr.mode = .returning ∧ fr.defers = [] ∧ (results fn fr.tmps).run P w' = .ok v w'
        | .panicked ch => fr.mode = .panicking ch ∧ fr.defers = []
        | .outgrown => False) := by
  unfold evFn at h
  replace h := Run.bindOpt h
  obtain ⟨fn, ef, h⟩ := h
  obtain ⟨hfn, _, _⟩ := ok.fn f fn ef
  split at h
  · exact (Run.fail.1 h).elim
  · rename_i c hb
    replace h := Run.bindGuard h
    obtain ⟨g, h⟩ := h
    obtain ⟨g1, g2⟩ := of_decide_eq_true g
    replace h := Run.bind.1 h
    obtain ⟨p, st1, h1, h⟩ := h
    have hg1 := Run.grow h1
    have hg2 := Run.grow h
    let b : Frame := { (default : Frame) with fn := f, kind := kindOf dfr }
    have henter : Frame.enter P f args' (kindOf dfr) = b.atR { tmps := args' ++ Array.replicate (fn.ntmps - args'.size) undef, defers := [] } [.code c] := by
      simp [Frame.enter, Frame.atR, hfn, hb, b]
      rfl
    have hfits : Fits ι ⟨f, dfr, none⟩ b cs0 := ⟨rfl, rfl, .inl ⟨rfl, rfl⟩, hcs⟩
    obtain ⟨ι1, w1, a1, u1, ex1, hp1, hr1, he1, ha1⟩ := code_does ok hX hrec hm c [] ι st st1 w _ _ u p hw (fun c h1 h2 => hfree c h1 (by omega)) (enter_rel ha g1 g2 hmode) hfits h1
    rw [← henter] at ha1
    obtain ⟨ι2, w2, e', fr, hp2, he2, hme, hs2, hf2, hk2, hfin⟩ := end_does (b := b) ok hX hrec hp1.rel (Free.mid hp1 hfree hg1) h rfl hfn hr1 he1 ha1
    exact ⟨ι2, w2, e', u1, fr, fn, hfn, hp1.trans hp2 hg1 hg2, he2, by rw [hme]; exact hr1.mode.mono hp2.le, hs2, hf2, hk2, hfin⟩
theorem round_does (ok : E.Ok P) (hX : X.Ok E P B) (hrec : CallSound E P B rec) (hm : P.follows .mixedOrders = true) {N : Nat} {l l' f : Nat} {tmps tmps' : Array Value} {assign body : Code} {ans : Ans2} (h : Run (evRound E X rec N l f tmps assign body) st ans st')
    (hw : WRel E.G B ι st w) (hfree : Free ι st.next st'.next) (hl : ι.to l = some l') (ha : ARel ι tmps tmps') (c : Frame) (cs : List Frame) :
    ∃ ι' w' e', Post E.G B ι st w st' ι' w' ∧ EndRel ι' ans.fin e' ∧ Steps P (lone (Frame.round l' f tmps' assign body .normal) (c :: cs) w) (lone (after c e') cs w') := by
  unfold evRound at h
  replace h := Run.bindGuard h
  obtain ⟨g, h⟩ := h
  have g := of_decide_eq_true g
  replace h := Run.bindOpt h
  obtain ⟨fn, ef, h⟩ := h
  obtain ⟨hfn, _, _⟩ := ok.fn f fn ef
  replace h := Run.bind.1 h
  obtain ⟨p, st1, h1, h⟩ := h
  have hg1 := Run.grow h1
  have hg2 := Run.grow h
  let b : Frame := { (default : Frame) with fn := f, kind := .normal, roundOf := some l' }
  have hb0 : Frame.round l' f tmps' assign body .normal = b.atR { tmps := tmps', defers := [] } [.code assign, .beginRound, .code body] := by
    simp [Frame.round, Frame.atR, b]
  have hfits : Fits ι ⟨f, false, some l⟩ b (c :: cs) := ⟨rfl, rfl, .inr ⟨l, l', rfl, rfl, hl⟩, nofun⟩
  have hreg : RegRel ι (enterRegs tmps tmps.size .run) { tmps := tmps', defers := [] } .run := by
    have := enter_rel ha (Nat.le_refl _) g (m := .run) (u := .run) .run
    rw [ha.1, Nat.sub_self] at this
    simpa using this
  obtain ⟨ι1, w1, a1, u1, ex1, hp1, hr1, he1, ha1⟩ := code_does ok hX hrec hm assign [.beginRound, .code body] ι st st1 w _ _ .run p hw (fun c h1 h2 => hfree c h1 (by omega)) hreg hfits h1
  rw [← hb0] at ha1
  obtain ⟨e1, r1⟩ := p
  dsimp only at h he1 hr1
  split at h
  · cases he1
    have ha1 : Steps P (lone (Frame.round l' f tmps' assign body .normal) (c :: cs) w) (lone (b.atR a1 [.beginRound, .code body]) (c :: cs) w1) := ha1
    replace h := Run.bindLook h
    obtain ⟨o, eo, h⟩ := h
    split at h
    · rename_i rc
      replace h := Run.bindGuard h
      obtain ⟨g3, h⟩ := h
      rw [Bool.and_eq_true] at g3
      replace h := Run.bind.1 h
      obtain ⟨uu, st2, h2, h⟩ := h
      obtain ⟨hnx, hget⟩ := Run.put h2
      have hl1 := hp1.le.to hl
      obtain ⟨κ, rc', hκ, hh, hor⟩ := hp1.rel.loop hl1 eo
      cases hor with
      | loop a1' a2' a3' a4' a5' a6' a7' a8' =>
      have hbegin := run_beginRound (P := P) hh (by rw [a1']; simpa using g3.1)
      have hp2 : Post E.G B ι1 st1 w1 st2 ι1 (w1.putObj l' (.loop { rc' with state := .busy })) :=
        Post.turn hp1.rel hκ (of_decide_eq_true g3.2) eo hget hnx (.loop rfl a2' a3' a4' a5' a6' a7' a8')
      have hs2 := ha1.trans (.one (stepR_beginRound (b := b) (a := a1) (k := [.code body]) (cs := c :: cs) rfl hbegin))
      replace h := Run.bind.1 h
      obtain ⟨q, st3, h3, h⟩ := h
      have hg3 := Run.grow h3
      have hg4 := Run.grow h
      have hp12 := hp1.trans hp2 hg1 (by omega)
      obtain ⟨ι3, w3, a3, u3, ex3, hp3, hr3, he3, ha3⟩ := code_does ok hX hrec hm body [] ι1 st2 st3 _ _ _ _ q hp2.rel (Free.mid hp12 (fun c h1 h2 => hfree c h1 (by omega)) (by omega)) hr1 (hfits.mono hp1.le) h3
      have hp123 := hp12.trans hp3 (by omega) hg3
      obtain ⟨e3, r3⟩ := q
      dsimp only at h he3 hr3
      have fin : ∀ (jump : Option Code) (hj : ∀ (v : Value) (w4 : World), (Instr.endRound l' jump).run P w3 = .ok v w4 → Steps P (lone (b.atR a1 [.code body]) (c :: cs) (w1.putObj l' (.loop { rc' with state := .busy }))) (lone (c.finish v) cs w4)),
          Run (do
            match ← LM.look l with
            | .other (.loop rc) => do
              LM.put l (some (.other (.loop { rc with state := if jump.isNone then .ready else .done, pending := jump })))
              pure ⟨.returned (.bool jump.isNone), .run⟩
            | _ => LM.fail : LM Ans2) st3 ans st' → ∃ ι' w' e', Post E.G B ι st w st' ι' w' ∧ EndRel ι' ans.fin e' ∧ Steps P (lone (Frame.round l' f tmps' assign body .normal) (c :: cs) w) (lone (after c e') cs w') := by
        intro jump hj hh2
        replace hh2 := Run.bindLook hh2
        obtain ⟨o2, eo2, hh2⟩ := hh2
        split at hh2
        · rename_i rc2
          replace hh2 := Run.bind.1 hh2
          obtain ⟨uu2, st4, h5, hh2⟩ := hh2
          obtain ⟨rfl, rfl⟩ := Run.pure.1 hh2
          obtain ⟨hnx2, hget2⟩ := Run.put h5
          have hl3 := hp3.le.to hl1
          obtain ⟨κ2, rc2', hκ2, hh3, hor2⟩ := hp3.rel.loop hl3 eo2
          cases hor2 with
          | loop b1 b2 b3 b4 b5 b6 b7 b8 =>
          have hend := run_endRound (P := P) jump hh3
          have hp4 : Post E.G B ι3 st3 w3 st' ι3 (w3.putObj l' (.loop { rc2' with state := if jump.isNone then .ready else .done, pending := jump })) :=
            Post.turn hp3.rel hκ2 (of_decide_eq_true g3.2) eo2 hget2 hnx2 (.loop rfl rfl b3 b4 b5 b6 b7 b8)
          exact ⟨ι3, _, .returned (.bool jump.isNone), hp123.trans hp4 (by omega) (by omega), .returned (.bool _), hs2.trans (hj _ _ hend)⟩
        · exact (Run.fail.1 hh2).elim
      cases he3 with
      | panic hc =>
        dsimp only at h
        replace h := Run.bindGuard h
        obtain ⟨g4, h⟩ := h
        obtain ⟨rfl, rfl⟩ := Run.pure.1 h
        obtain ⟨todo, hs3⟩ := ha3
        rename_i chn chn'
        have hd : a3.defers = [] := by
          have := hr3.defers
          generalize r3.defers = rd at g4 this
          generalize a3.defers = ad at this ⊢
          cases this with
          | nil => rfl
          | cons _ _ => simp at g4
        refine ⟨ι3, w3, .panicked _, hp123, .panicked hc, hs2.trans (hs3.trans (.one ?_))⟩
        exact step_leave_panicked (fr := { b.atR a3 todo with mode := .panicking chn' }) ⟨rfl, hd, fn, hfn⟩
      | normal =>
        refine fin none (fun v w4 hv => ?_) h
        exact Steps.trans ha3 (.one (stepR_round_end (b := b) rfl rfl hv))
      | ret =>
        refine fin (some .ret) (fun v w4 hv => ?_) h
        obtain ⟨k1, hs3⟩ := ha3
        exact hs3.trans (.one (stepR_round_ret (b := b) rfl rfl hv))
      | exit id =>
        refine fin (some (.exit id)) (fun v w4 hv => ?_) h
        obtain ⟨k1, hk1, hs3⟩ := ha3
        exact hs3.trans (.one (stepR_round_exit (b := b) rfl rfl hk1 hv))
    · exact (Run.fail.1 h).elim
  · exact (Run.fail.1 h).elim
theorem req_sound (ok : E.Ok P) (hX : X.Ok E P B) (hm : P.follows .mixedOrders = true) {N : Nat} (hrec : CallSound E P B rec) : CallSound E P B (evReq E X N rec) where
  call := by
    intro f args st a st' h ι w args' hw hfree ha cs
    obtain ⟨ι', w', e', u', fr, fn, hfn, hp, he, _, hs, hf, hk, hfin⟩ := fn_does (u := .run) ok hX hrec hm h hw hfree ha .run cs nofun
    refine ⟨ι', w', e', fr, hp, he, hs, hf, ?_⟩
    cases e' with
    | returned v => exact ⟨hfin.1, hfin.2.1, hk, fn, hf ▸ hfn, hfin.2.2⟩
    | panicked ch => exact ⟨hfin.1, hfin.2, fn, hf ▸ hfn⟩
    | outgrown => exact hfin.elim
  dcall := by
    intro f args u st a st' h ι w args' hw hfree ha c cs hmode
    obtain ⟨ι', w', e', u', fr, fn, hfn, hp, he, hmu, hs, hf, hk, hfin⟩ := fn_does ok hX hrec hm h hw hfree ha hmode (c :: cs) fun _ => ⟨c, cs, rfl⟩
    have hc : frs true (c :: cs) c.mode = c :: cs := rfl
    rw [hc] at hs
    refine ⟨ι', w', e', u', fr, hp, he, hmu, hs, hk, ?_⟩
    cases e' with
    | returned v => exact ⟨hfin.1, hfin.2.1, fn, hf ▸ hfn, hfin.2.2⟩
    | panicked ch => exact ⟨hfin.1, hfin.2, fn, hf ▸ hfn⟩
    | outgrown => exact hfin.elim
  round := by
    intro l f tmps assign body st a st' h ι w l' tmps' hw hfree hl ha c cs
    exact round_does ok hX hrec hm h hw hfree hl ha c cs
theorem ev_sound (ok : E.Ok P) (hX : X.Ok E P B) (hm : P.follows .mixedOrders = true) (N : Nat) : ∀ n, CallSound E P B (ev E X N n)
  | 0 => ⟨fun _ _ _ _ _ h => (Run.fail.1 h).elim, fun _ _ _ _ _ _ h => (Run.fail.1 h).elim, fun _ _ _ _ _ _ _ _ h => (Run.fail.1 h).elim⟩
  | n + 1 => req_sound ok hX hm (ev_sound ok hX hm N n)
end
end Go.Proofs.YtmmfpkkkpeapeaaGreatDoor.Ev
