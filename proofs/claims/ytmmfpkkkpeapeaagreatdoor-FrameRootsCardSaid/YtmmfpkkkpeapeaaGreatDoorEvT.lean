/- The evaluator's code, results and deferred calls beside the machine's. No condition. -/
import Derived.Test.YtmmfpkkkpeapeaaGreatDoorEvS
import Derived.RangeFuncIn
import Derived.RangeFuncRecord
set_option linter.unusedSectionVars false
set_option linter.unusedVariables false
set_option linter.unusedSimpArgs false
namespace Go.Proofs.YtmmfpkkkpeapeaaGreatDoor.Ev
open Go Go.RowKit
variable [Sym]

section
variable {P : Program} {b : Frame} {a : Act} {k : List Item} {cs : List Frame} {w : World}
theorem stepR_scope {c : Code} : step P (lone (b.atR a (.code (.scope c) :: k)) cs w) = .next (lone (b.atR a (.code c :: .inScope c :: k)) cs w) :=
  step_lone_go (by simp [stepG, stepG.exec, Frame.atR])
theorem stepR_inScope {c : Code} : step P (lone (b.atR a (.inScope c :: k)) cs w) = .next (lone (b.atR a k) cs w) :=
  step_lone_go (by simp [stepG, stepG.exec, Frame.atR])
/-- An item that no exit stops at. -/
theorem Arr.pass {m : Machine} {x : Item} {ex : AExit} (hx : ∀ id, exitTo id (x :: k) = exitTo id k) (hn : ex ≠ .normal) (h : Arr P m b (x :: k) cs ex a w) : Arr P m b k cs ex a w := by
  cases ex with
  | normal => exact absurd rfl hn
  | exit id => obtain ⟨k1, e, hs⟩ := h; exact ⟨k1, e.trans (hx id), hs⟩
  | ret => exact h
  | panic ch => exact h
end
section
variable {E : Env} {P : Program} {B : Bd} {X : Ext} {rec : Req → LM Ans2}
/-- What a piece of code does. -/
def CodeAt (P : Program) (E : Env) (B : Bd) (ctx : Ctx) (b : Frame) (cs0 : List Frame) (f : Regs → LM (AExit × Regs)) (c : Code) : Prop :=
  ∀ (k : List Item) (ι : Ren) (st st' : St) (w : World) (r : Regs) (a : Act) (u : FrameMode) (p : AExit × Regs),
    WRel E.G B ι st w → Free ι st.next st'.next → RegRel ι r a u → Fits ι ctx b cs0 → Run (f r) st p st' →
    ∃ ι' w' a' u' ex', Post E.G B ι st w st' ι' w' ∧ RegRel ι' p.2 a' u' ∧ ExRel ι' p.1 ex' ∧ Arr P (lone (b.atR a (.code c :: k)) (frs ctx.dfr cs0 u) w) b k (frs ctx.dfr cs0 u') ex' a' w'
theorem iter_does {ctx : Ctx} {b : Frame} {cs0 : List Frame} {f : Regs → LM (AExit × Regs)} {c : Code} (hc : CodeAt P E B ctx b cs0 f c) : ∀ (n : Nat) (k : List Item) (ι : Ren) (st st' : St) (w : World) (r : Regs) (a : Act) (u : FrameMode) (p : AExit × Regs),
    WRel E.G B ι st w → Free ι st.next st'.next → RegRel ι r a u → Fits ι ctx b cs0 → Run (iter f n r) st p st' →
    ∃ ι' w' a' u' ex', Post E.G B ι st w st' ι' w' ∧ RegRel ι' p.2 a' u' ∧ ExRel ι' p.1 ex' ∧ Arr P (lone (b.atR a (.code c :: .inLoop c :: k)) (frs ctx.dfr cs0 u) w) b k (frs ctx.dfr cs0 u') ex' a' w' := by
  intro n
  induction n with
  | zero => intro k ι st st' w r a u p _ _ _ _ h; exact (Run.fail.1 h).elim
  | succ n ih =>
    intro k ι st st' w r a u p hw hfree hr hf h
    unfold iter at h
    replace h := Run.bind.1 h
    obtain ⟨p1, st1, h1, h⟩ := h
    have hg1 := Run.grow h1
    have hg2 := Run.grow h
    obtain ⟨ι1, w1, a1, u1, ex1, hp1, hr1, he1, ha1⟩ := hc (.inLoop c :: k) ι st st1 w r a u p1 hw (fun c h1 h2 => hfree c h1 (by omega)) hr hf h1
    obtain ⟨e1, r1⟩ := p1
    dsimp only at h hr1 he1
    have other : e1 ≠ .normal → Run (pure (e1, r1) : LM (AExit × Regs)) st1 p st' → ∃ ι' w' a' u' ex', Post E.G B ι st w st' ι' w' ∧ RegRel ι' p.2 a' u' ∧ ExRel ι' p.1 ex' ∧ Arr P (lone (b.atR a (.code c :: .inLoop c :: k)) (frs ctx.dfr cs0 u) w) b k (frs ctx.dfr cs0 u') ex' a' w' := by
      intro hne hh
      obtain ⟨rfl, rfl⟩ := Run.pure.1 hh
      exact ⟨ι1, w1, a1, u1, ex1, hp1, hr1, he1, Arr.pass (fun _ => rfl) (by intro e; subst e; cases he1; exact hne rfl) ha1⟩
    cases e1 with
    | normal =>
      cases he1
      obtain ⟨ι2, w2, a2, u2, ex2, hp2, hr2, he2, ha2⟩ := ih k ι1 st1 st' w1 r1 a1 u1 p hp1.rel (Free.mid hp1 hfree hg1) hr1 (hf.mono hp1.le) h
      exact ⟨ι2, w2, a2, u2, ex2, hp1.trans hp2 hg1 hg2, hr2, he2, Arr.of_steps (Steps.trans ha1 (.one stepR_inLoop)) ha2⟩
    | exit id => exact other nofun h
    | ret => exact other nofun h
    | panic ch => exact other nofun h
theorem snap_rel {ι : Ren} {r : Regs} {a : Act} {u : FrameMode} (h : RegRel ι r a u) : ARel ι r.snap a.tmps := by
  refine ⟨by simp [Regs.snap, h.size], fun i hi => ?_⟩
  have hi' : i < r.size := by simpa [Regs.snap] using hi
  have : r.snap.getD i undef = r.get i := by simp [Regs.snap, Array.getD_eq_getD_getElem?, hi']
  rw [this]
  exact h.tmp i
theorem code_does (ok : E.Ok P) (hX : X.Ok E P B) (hrec : CallSound E P B rec) (hm : P.follows .mixedOrders = true) {N : Nat} {ctx : Ctx} {b : Frame} {cs0 : List Frame} : ∀ c : Code, CodeAt P E B ctx b cs0 (evCode E X rec N ctx c) c := by
  intro c
  induction c with
  | skip =>
    intro k ι st st' w r a u p hw hfree hr hf h
    obtain ⟨rfl, rfl⟩ := Run.pure.1 h
    exact ⟨ι, w, a, u, .normal, Post.refl hw, hr, .normal, .one stepR_skip⟩
  | label l =>
    intro k ι st st' w r a u p hw hfree hr hf h
    obtain ⟨rfl, rfl⟩ := Run.pure.1 h
    exact ⟨ι, w, a, u, .normal, Post.refl hw, hr, .normal, .one stepR_label⟩
  | ret =>
    intro k ι st st' w r a u p hw hfree hr hf h
    obtain ⟨rfl, rfl⟩ := Run.pure.1 h
    exact ⟨ι, w, a, u, .ret, Post.refl hw, hr, .ret, ⟨k, Steps.refl _ _⟩⟩
  | exit id =>
    intro k ι st st' w r a u p hw hfree hr hf h
    obtain ⟨rfl, rfl⟩ := Run.pure.1 h
    exact ⟨ι, w, a, u, .exit id, Post.refl hw, hr, .exit id, ⟨k, rfl, Steps.refl _ _⟩⟩
  | region id ops draw =>
    intro k ι st st' w r a u p hw hfree hr hf h
    exact region_does ok hX hrec hm hw hfree hr h b cs0 hf k
  | seq x y ihx ihy =>
    intro k ι st st' w r a u p hw hfree hr hf h
    unfold evCode at h
    replace h := Run.bind.1 h
    obtain ⟨p1, st1, h1, h⟩ := h
    have hg1 := Run.grow h1
    have hg2 := Run.grow h
    obtain ⟨ι1, w1, a1, u1, ex1, hp1, hr1, he1, ha1⟩ := ihx (.code y :: k) ι st st1 w r a u p1 hw (fun c h1 h2 => hfree c h1 (by omega)) hr hf h1
    obtain ⟨e1, r1⟩ := p1
    dsimp only at h hr1 he1
    have other : e1 ≠ .normal → Run (pure (e1, r1) : LM (AExit × Regs)) st1 p st' → ∃ ι' w' a' u' ex', Post E.G B ι st w st' ι' w' ∧ RegRel ι' p.2 a' u' ∧ ExRel ι' p.1 ex' ∧ Arr P (lone (b.atR a (.code (.seq x y) :: k)) (frs ctx.dfr cs0 u) w) b k (frs ctx.dfr cs0 u') ex' a' w' := by
      intro hne hh
      obtain ⟨rfl, rfl⟩ := Run.pure.1 hh
      exact ⟨ι1, w1, a1, u1, ex1, hp1, hr1, he1, Arr.of_steps (.one stepR_seq) (Arr.pass (fun _ => rfl) (by intro e; subst e; cases he1; exact hne rfl) ha1)⟩
    cases e1 with
    | normal =>
      cases he1
      obtain ⟨ι2, w2, a2, u2, ex2, hp2, hr2, he2, ha2⟩ := ihy k ι1 st1 st' w1 r1 a1 u1 p hp1.rel (Free.mid hp1 hfree hg1) hr1 (hf.mono hp1.le) h
      exact ⟨ι2, w2, a2, u2, ex2, hp1.trans hp2 hg1 hg2, hr2, he2, Arr.of_steps (.head stepR_seq ha1) ha2⟩
    | exit id => exact other nofun h
    | ret => exact other nofun h
    | panic ch => exact other nofun h
  | cond c x y ihx ihy =>
    intro k ι st st' w r a u p hw hfree hr hf h
    unfold evCode at h
    have hc := opd_rel hw hr c
    split at h
    · rename_i e
      rw [e] at hc
      have hb : a.eval c = .bool true := by cases hq : a.eval c <;> rw [hq] at hc <;> cases hc; rfl
      obtain ⟨ι2, w2, a2, u2, ex2, hp2, hr2, he2, ha2⟩ := ihx k ι st st' w r a u p hw hfree hr hf h
      exact ⟨ι2, w2, a2, u2, ex2, hp2, hr2, he2, Arr.of_steps (.one (stepR_cond hb)) ha2⟩
    · rename_i e
      rw [e] at hc
      have hb : a.eval c = .bool false := by cases hq : a.eval c <;> rw [hq] at hc <;> cases hc; rfl
      obtain ⟨ι2, w2, a2, u2, ex2, hp2, hr2, he2, ha2⟩ := ihy k ι st st' w r a u p hw hfree hr hf h
      exact ⟨ι2, w2, a2, u2, ex2, hp2, hr2, he2, Arr.of_steps (.one (stepR_cond hb)) ha2⟩
    · exact (Run.fail.1 h).elim
  | block id c ih =>
    intro k ι st st' w r a u p hw hfree hr hf h
    unfold evCode at h
    replace h := Run.bind.1 h
    obtain ⟨p1, st1, h1, h⟩ := h
    have hg1 := Run.grow h1
    have hg2 := Run.grow h
    obtain ⟨ι1, w1, a1, u1, ex1, hp1, hr1, he1, ha1⟩ := ih (.inBlock id :: k) ι st st1 w r a u p1 hw (fun c h1 h2 => hfree c h1 (by omega)) hr hf h1
    obtain ⟨e1, r1⟩ := p1
    dsimp only at h hr1 he1
    cases e1 with
    | normal =>
      cases he1
      obtain ⟨rfl, rfl⟩ := Run.pure.1 h
      exact ⟨ι1, w1, a1, u1, .normal, hp1, hr1, .normal, .head stepR_block (Steps.trans ha1 (.one stepR_inBlock))⟩
    | exit id' =>
      cases he1
      obtain ⟨k1, hk, hs⟩ := ha1
      dsimp only at h
      split at h
      · rename_i hid
        obtain ⟨rfl, rfl⟩ := Run.pure.1 h
        subst hid
        have : exitTo id' k1 = some k := by rw [hk]; simp [exitTo]
        exact ⟨ι1, w1, a1, u1, .normal, hp1, hr1, .normal, .head stepR_block (Steps.trans hs (.one (stepR_exit this)))⟩
      · rename_i hid
        obtain ⟨rfl, rfl⟩ := Run.pure.1 h
        refine ⟨ι1, w1, a1, u1, .exit id', hp1, hr1, .exit id', ⟨k1, ?_, .head stepR_block hs⟩⟩
        rw [hk]
        have : (id == id') = false := by simp; exact fun h => hid h.symm
        simp [exitTo, this]
    | ret =>
      cases he1
      obtain ⟨rfl, rfl⟩ := Run.pure.1 h
      exact ⟨ι1, w1, a1, u1, .ret, hp1, hr1, .ret, Arr.of_steps (.one stepR_block) ha1⟩
    | panic ch =>
      cases he1 with
      | panic hc =>
      obtain ⟨rfl, rfl⟩ := Run.pure.1 h
      exact ⟨ι1, w1, a1, u1, _, hp1, hr1, .panic hc, Arr.of_steps (.one stepR_block) ha1⟩
  | loop c ih =>
    intro k ι st st' w r a u p hw hfree hr hf h
    obtain ⟨ι2, w2, a2, u2, ex2, hp2, hr2, he2, ha2⟩ := iter_does ih N k ι st st' w r a u p hw hfree hr hf h
    exact ⟨ι2, w2, a2, u2, ex2, hp2, hr2, he2, Arr.of_steps (.one stepR_loop) ha2⟩
  | scope c ih =>
    intro k ι st st' w r a u p hw hfree hr hf h
    obtain ⟨ι1, w1, a1, u1, ex1, hp1, hr1, he1, ha1⟩ := ih (.inScope c :: k) ι st st' w r a u p hw hfree hr hf h
    refine ⟨ι1, w1, a1, u1, ex1, hp1, hr1, he1, Arr.of_steps (.one stepR_scope) ?_⟩
    by_cases hn : ex1 = .normal
    · subst hn; exact Steps.trans ha1 (.one stepR_inScope)
    · exact Arr.pass (fun _ => rfl) hn ha1
  | goto l => intro k ι st st' w r a u p hw hfree hr hf h; exact (Run.fail.1 h).elim
  | refuse s => intro k ι st st' w r a u p hw hfree hr hf h; exact (Run.fail.1 h).elim
  | rangeFunc f ps assign body _ _ =>
    intro k ι st st' w r a u p hw hfree hr hf h
    unfold evCode at h
    unfold evRange at h
    replace h := Run.bindGuard h
    obtain ⟨g0, h⟩ := h
    have hro : b.roundOf = none := by
      rcases hf.round with ⟨_, h⟩ | ⟨l, l', h, _⟩
      · exact h
      · rw [h] at g0; cases g0
    replace h := Run.bind.1 h
    obtain ⟨d, st1, h1, h⟩ := h
    replace h := Run.bind.1 h
    obtain ⟨l, st2, h2, h⟩ := h
    have hg1 := Run.grow h1
    have hg2 := Run.grow h2
    have hg3 := Run.grow h
    obtain ⟨rfl, hp1⟩ := newObj_post (B := B) (w := w) (ro := .deferred (some [])) hw (fun c h1 h2 => hfree c h1 (by omega)) h1 (.deferred .nil)
    have hd1 := upd_to_same ι st.next w.heap.size 0
    have hr1 := hr.mono hp1.le
    have hfree1 := Free.mid hp1 hfree hg1
    obtain ⟨rfl, hp2⟩ := newObj_post (B := B) (w := w.alloc (.deferred (some []))) (ro := .loop { state := .ready, pending := none, fn := b.fn, tmps := a.tmps, params := ps, assign := assign, body := body, defers := w.heap.size }) hp1.rel (fun c h1 h2 => hfree1 c h1 (by omega)) h2
      (.loop rfl rfl hf.fn rfl rfl rfl hd1 (snap_rel hr1))
    have hl2 := upd_to_same (upd ι st.next w.heap.size 0) st1.next (w.alloc (.deferred (some []))).heap.size 0
    have hp12 := hp1.trans hp2 hg1 hg2
    have hr2 := hr.mono hp12.le
    have hfree2 := Free.mid hp12 hfree (by omega)
    have henter := run_enterLoop_outer (P := P) (w := w) b.fn a.tmps ps assign body
    rw [← hro] at henter
    have hfv := opd_rel hw hr f
    generalize evOpd E r f = fv at h hfv
    split at h
    · rename_i fn first cap
      obtain ⟨z, hz⟩ : ∃ z, a.eval f = z := ⟨_, rfl⟩
      rw [hz] at hfv
      cases hfv with
      | func hfn hx hcs h3 h4 =>
      rename_i fn' first' cap'
      replace h := Run.bind.1 h
      obtain ⟨n, st3, h5, h⟩ := h
      have hg4 := Run.grow h5
      have hg5 := Run.grow h
      have hyield : VRel (upd (upd ι st.next w.heap.size 0) st1.next (w.alloc (.deferred (some []))).heap.size 0) (.func (.yield st1.next) #[] #[]) (.func (.yield (w.alloc (.deferred (some []))).heap.size) #[] #[]) :=
        .func (.yield hl2) rfl rfl (fun i hi => absurd hi (by simp)) (fun i hi => absurd hi (by simp))
      have hfn2 : FnRel (upd (upd ι st.next w.heap.size 0) st1.next (w.alloc (.deferred (some []))).heap.size 0) fn fn' := hfn.mono hp12.le
      have hfirst : ARel (upd (upd ι st.next w.heap.size 0) st1.next (w.alloc (.deferred (some []))).heap.size 0) first first' := ARel.mono hp12.le ⟨hx, h3⟩
      have hcap : ARel (upd (upd ι st.next w.heap.size 0) st1.next (w.alloc (.deferred (some []))).heap.size 0) cap cap' := ARel.mono hp12.le ⟨hcs, h4⟩
      obtain ⟨ι3, w3, hp3, hn3⟩ := invoke_does (P := P) ok hX hp12.rel (fun c h1 h2 => hfree2 c h1 (by omega)) hfn2 hcap (hfirst.append (ARel.one hyield)) h5
      split at h
      · rename_i g args
        replace h := Run.bind.1 h
        obtain ⟨ans, st4, h6, h⟩ := h
        have hg6 := Run.grow h6
        have hg7 := Run.grow h
        generalize hinv : (invoke (.fn fn' cap') (first' ++ #[.func (.yield (w.alloc (.deferred (some []))).heap.size) #[] #[]])).run P ((w.alloc (.deferred (some []))).alloc (.loop { state := .ready, pending := none, fn := b.fn, tmps := a.tmps, params := ps, assign := assign, body := body, defers := w.heap.size })) = res at hn3
        cases hn3 with
        | enter hfe hargs =>
        rename_i gfn args'
        have hp123 := hp12.trans hp3 (by omega) hg4
        have hres : (resolve a.eval (rangeCall f (w.heap.size + 1)) 0).run P ((w.alloc (.deferred (some []))).alloc (.loop { state := .ready, pending := none, fn := b.fn, tmps := a.tmps, params := ps, assign := assign, body := body, defers := w.heap.size })) =
            .ok { target := .fn fn' cap', args := first' ++ #[.func (.yield (w.heap.size + 1)) #[] #[]] } ((w.alloc (.deferred (some []))).alloc (.loop { state := .ready, pending := none, fn := b.fn, tmps := a.tmps, params := ps, assign := assign, body := body, defers := w.heap.size })) := by
          have hmap : (#[.const (.func (.yield (w.heap.size + 1)) #[] #[])] : Array Operand).map a.eval = #[.func (.yield (w.heap.size + 1)) #[] #[]] := by simp [Act.eval]
          simp only [resolve, rangeCall, hz, Deferred.ofValue, Sem.run_pure, hmap]
        have hsz : (w.alloc (.deferred (some []))).heap.size = w.heap.size + 1 := by simp
        rw [hsz] at hinv
        have hstep := stepR_rangeFunc (P := P) (b := b) (a := a) (k := k) (cs := frs ctx.dfr cs0 u) (w := w) (ps := ps) (assign := assign) (body := body) henter hres hinv
        obtain ⟨ι4, w4, e', fr, hp4, he4, hs4, hfn4, hlv4⟩ := hrec.call _ _ _ _ _ h6 ι3 w3 args' hp3.rel (Free.mid hp123 (fun c h1 h2 => hfree c h1 (by omega)) (by omega)) hargs
          (b.atR { a with defers := { target := .collected w.heap.size, args := #[] } :: a.defers } (.inRangeFunc (w.heap.size + 1) :: k) :: frs ctx.dfr cs0 u)
        have hp1234 := hp123.trans hp4 (by omega) hg6
        have hr4 : RegRel ι4 ({ r with defers := { target := .collected st.next, args := #[] } :: r.defers } : Regs) ({ a with defers := { target := .collected w.heap.size, args := #[] } :: a.defers } : Act) u := by
          have := hr.mono hp1234.le
          have hd4 : ι4.to st.next = some w.heap.size := (hp3.le.trans hp4.le).to (hp2.le.to hd1)
          exact ⟨this.size, this.lt, this.tmp, .cons ⟨.collected hd4, ARel.nil _⟩ this.defers, this.mode⟩
        have hl4 : ι4.to st1.next = some (w.heap.size + 1) := by
          have := (hp3.le.trans hp4.le).to hl2
          rwa [hsz] at this
        generalize ans.fin = fin at he4 h
        cases he4 with
        | panicked hc =>
          obtain ⟨rfl, rfl⟩ := Run.pure.1 h
          refine ⟨ι4, w4, _, u, _, hp1234, hr4, .panic hc, ⟨.inRangeFunc (w.heap.size + 1) :: k, .head hstep (hs4.trans (.one ?_))⟩⟩
          rw [← Frame.raise_atR]; exact step_leave_panicked hlv4
        | returned hv =>
          rename_i v v'
          dsimp only at h
          replace h := Run.bindLook h
          obtain ⟨o, eo, h⟩ := h
          have hback : Steps P (lone (b.atR a (.code (.rangeFunc f ps assign body) :: k)) (frs ctx.dfr cs0 u) w)
              (lone (b.atR { a with defers := { target := .collected w.heap.size, args := #[] } :: a.defers } (.endRangeFunc (w.heap.size + 1) :: k)) (frs ctx.dfr cs0 u) w4) := by
            refine .head hstep (hs4.trans (.one ?_))
            rw [← finish_atR_inRangeFunc (w.heap.size + 1) v']; exact step_leave_returned hlv4
          split at h
          · rename_i rc
            replace h := Run.bindGuard h
            obtain ⟨g5, h⟩ := h
            rw [Bool.and_eq_true] at g5
            replace h := Run.bind.1 h
            obtain ⟨uu, st5, h7, h⟩ := h
            obtain ⟨hnx, hget⟩ := Run.put h7
            obtain ⟨κ, rc', hκ, hh, hor⟩ := hp4.rel.loop hl4 eo
            cases hor with
            | loop a1 a2 a3 a4 a5 a6 a7 a8 =>
            have hend0 := run_endLoop (P := P) hh (by rw [a1]; simpa using g5.2)
            have hp5 : Post E.G B ι4 st4 w4 st5 ι4 (w4.putObj (w.heap.size + 1) (.loop { rc' with state := .exhausted })) :=
              Post.turn hp4.rel hκ (of_decide_eq_true g5.1) eo hget hnx (.loop rfl (by simpa using a2) a3 a4 a5 a6 a7 a8)
            generalize w4.putObj (w.heap.size + 1) (.loop { rc' with state := .exhausted }) = w5 at hend0 hp5
            have hend : (Instr.endLoop (w.heap.size + 1)).run P w4 = .ok rc.pending w5 := by rw [← a2]; exact hend0
            have hall := hp1234.trans hp5 (by omega) (by omega)
            have hstep2 := hback.trans (.one (stepR_endRangeFunc hend))
            split at h
            · rename_i hj
              rw [hj] at hstep2
              obtain ⟨rfl, rfl⟩ := Run.pure.1 h
              exact ⟨ι4, _, _, u, .normal, hall, hr4, .normal, hstep2⟩
            · rename_i hj
              rw [hj] at hstep2
              obtain ⟨rfl, rfl⟩ := Run.pure.1 h
              exact ⟨ι4, _, _, u, .ret, hall, hr4, .ret, ⟨k, hstep2⟩⟩
            · rename_i id hj
              rw [hj] at hstep2
              obtain ⟨rfl, rfl⟩ := Run.pure.1 h
              exact ⟨ι4, _, _, u, .exit id, hall, hr4, .exit id, ⟨k, rfl, hstep2⟩⟩
            · exact (Run.fail.1 h).elim
          · exact (Run.fail.1 h).elim
      · exact (Run.fail.1 h).elim
    · exact (Run.fail.1 h).elim
end
end Go.Proofs.YtmmfpkkkpeapeaaGreatDoor.Ev
