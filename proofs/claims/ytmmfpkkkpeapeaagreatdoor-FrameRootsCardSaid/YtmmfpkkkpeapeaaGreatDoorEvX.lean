/- The evaluator over functions that have their contracts already; a closed call by one run. No condition. -/
import Derived.Test.YtmmfpkkkpeapeaaGreatDoorEvV
set_option linter.unusedSectionVars false
set_option linter.unusedVariables false
set_option linter.unusedSimpArgs false
namespace Go.Proofs.YtmmfpkkkpeapeaaGreatDoor.Ev
open Go Go.RowKit
noncomputable section
variable [Sym]

/-- Some calls' answers that are known already: they turn nothing that there was. -/
def giv (cf : Nat → Array Value → Option Value) (r : Req → LM Ans2) : Req → LM Ans2
  | .call f args => match cf f args with
    | some v => pure ⟨.returned v, .run⟩
    | none => r (.call f args)
  | .dcall f args u => r (.dcall f args u)
  | .round l f tmps assign body => r (.round l f tmps assign body)
def evG (E : Env) (X : Ext) (cf : Nat → Array Value → Option Value) (N : Nat) (n : Nat) : Req → LM Ans2 :=
  Nat.rec (fun _ => LM.fail) (fun _ rec => giv cf (evReq E X N rec)) n
/-- It hands back true and turns nothing that there was. -/
def Trues (P : Program) (f : Nat) (w : World) : Prop := Calls P f #[] w fun e w' => e = .returned (.bool true) ∧ Below w.heap.size w w'
/-- The known calls are so. -/
def CfOk (P : Program) (J : World → Prop) (cf : Nat → Array Value → Option Value) : Prop :=
  ∀ f args v, cf f args = some v → ∀ ι args', ARel ι args args' → ∀ w, J w → ∃ v', (∀ ι, VRel ι v v') ∧ Calls P f args' w fun e w' => e = .returned v' ∧ Below w.heap.size w w'
section
variable {E : Env} {P : Program} {B : Bd} {X : Ext} {r : Req → LM Ans2} {cf : Nat → Array Value → Option Value}
theorem giv_sound (h : CallSound E P B r) (hg : CfOk P B.J cf) : CallSound E P B (giv cf r) where
  call := by
    intro f args st a st' hr ι w args' hw hfree ha cs
    replace hr : Run (match cf f args with
      | some v => (pure ⟨.returned v, .run⟩ : LM Ans2)
      | none => r (.call f args)) st a st' := hr
    split at hr
    · rename_i v g
      obtain ⟨rfl, rfl⟩ := Run.pure.1 hr
      obtain ⟨v', hv, hc⟩ := hg f args v g ι args' ha w hw.laid
      obtain ⟨e, w', fr, ⟨rfl, hb⟩, hs, hfn, hl⟩ := hc cs
      have hbB : Below B.n w w' := ⟨hb.os, hb.tape, hb.output, hb.size, fun k hk => hb.block k (by have := hw.big; omega)⟩
      have hrel : WRel E.G B ι st' w' :=
        ⟨fun b q κ o e1 e2 => by
          obtain ⟨ro, h1, h2⟩ := hw.obj b q κ o e1 e2
          exact ⟨ro, by rw [hb.block q (lt_of_heap h1)]; exact h1, h2⟩,
         fun b q e1 => Nat.lt_of_lt_of_le (hw.lt b q e1) hb.size, hw.inj, hw.under, hw.nxt, hw.low, hw.glob, Nat.le_trans hw.big hb.size, B.keep w w' hbB hw.laid⟩
      exact ⟨ι, w', .returned v', fr, ⟨hrel, Ren.le.refl ι, fun _ _ => rfl, hbB⟩, .returned (hv ι), hs, hfn, hl⟩
    · exact h.call _ _ _ _ _ hr ι w args' hw hfree ha cs
  dcall := by
    intro f args u st a st' hr ι w args' hw hfree ha c cs hm
    exact h.dcall _ _ _ _ _ _ hr ι w args' hw hfree ha c cs hm
  round := by
    intro l f tmps assign body st a st' hr ι w l' tmps' hw hfree hl ha c cs
    exact h.round _ _ _ _ _ _ _ _ hr ι w l' tmps' hw hfree hl ha c cs
theorem evG_sound (ok : E.Ok P) (hX : X.Ok E P B) (hm : P.follows .mixedOrders = true) (hg : CfOk P B.J cf) (N : Nat) : ∀ n, CallSound E P B (evG E X cf N n)
  | 0 => ⟨fun _ _ _ _ _ h => (Run.fail.1 h).elim, fun _ _ _ _ _ _ h => (Run.fail.1 h).elim, fun _ _ _ _ _ _ _ _ h => (Run.fail.1 h).elim⟩
  | n + 1 => giv_sound (req_sound ok hX hm (evG_sound ok hX hm hg N n)) hg
end
def isTrue : AEnd → Bool
  | .returned (.bool b) => b
  | _ => false
/-- The call, run: what it hands back, where that is no address. -/
def runs (E : Env) (X : Ext) (cf : Nat → Array Value → Option Value) (N n : Nat) (st0 : St) (f : Nat) (args : Array Value) : Option Value :=
  (evG E X cf N n (.call f args)).fast (fun a _ _ _ => match a.fin with
    | .returned v => some v
    | _ => none) none st0 [] []
theorem calls_of_run {E : Env} {P : Program} {X : Ext} {B : Bd} {cf : Nat → Array Value → Option Value} (ok : E.Ok P) (hX : X.Ok E P B) (hm : P.follows .mixedOrders = true) (hg : CfOk P B.J cf) {st0 : St} {N n f : Nat} {args args' : Array Value} {ι : Ren} {w : World} {v v' : Value}
    (hrun : runs E X cf N n st0 f args = some v) (hv : ∀ ι x, VRel ι v x → x = v') (hw : WRel E.G B ι st0 w) (hfree : ∀ c, st0.next ≤ c → ι c = none) (ha : ARel ι args args') (hB : B.n = w.heap.size) : Calls P f args' w fun e w' => e = .returned v' ∧ Below w.heap.size w w' := by
  unfold runs at hrun
  rw [LM.fast_eq] at hrun
  split at hrun
  case h_1 => cases hrun
  case h_2 a st' rd wr h =>
    have hs := evG_sound (B := B) ok hX hm hg N n
    intro cs
    obtain ⟨ι', w', e', fr, hp, he, hst, hfn, hl⟩ := hs.call f args st0 a st' ⟨_, _, h⟩ ι w args' hw (fun c h1 _ => hfree c h1) ha cs
    split at hrun
    · rename_i v0 hfin
      cases hrun
      rw [hfin] at he
      cases he with
      | returned hvv =>
        rename_i x
        cases hv ι' x hvv
        exact ⟨.returned _, w', fr, ⟨rfl, hB ▸ hp.below⟩, hst, hfn, hl⟩
    · cases hrun
/-! ### the world when the call begins: the laid variables read as the first state says -/
def renOf (ng nt : Nat) (m : Nat → Nat) : Ren := fun b => if b < ng then some (b, 0) else if b < ng + nt then some (m b, 0) else none
structure LaidBy (ng nt : Nat) (st0 : St) (m : Nat → Nat) (n : Nat) (w : World) : Prop where
  lt : ∀ b r, (renOf ng nt m).to b = some r → r < n
  obj : ∀ b r κ o, renOf ng nt m b = some (r, κ) → st0.get b = some o → ∃ ro, w.heap[r]? = some ro ∧ ORel (renOf ng nt m) κ o ro
  exact : ∀ b c t f g, b < ng → st0.get b = some (.cells c t f g) → ∃ c' t' fr, w.heap[b]? = some (.cells c' t' fr) ∧ c'.size = c.size
def LaidS (ng nt : Nat) (st0 : St) (n : Nat) (w : World) : Prop := n ≤ w.heap.size ∧ ∃ m, LaidBy ng nt st0 m n w
theorem laidS_keep (ng nt : Nat) (st0 : St) : ∀ n w w', Below n w w' → LaidS ng nt st0 n w → LaidS ng nt st0 n w' := by
  rintro n w w' hb ⟨hn, m, h⟩
  refine ⟨Nat.le_trans hn hb.size, m, h.lt, fun b r κ o e1 e2 => ?_, fun b c t f g hbn e => ?_⟩
  rotate_left
  · obtain ⟨c', t', fr, h1, h2⟩ := h.exact b c t f g hbn e
    exact ⟨c', t', fr, by rw [hb.block b (h.lt b b (by unfold Ren.to renOf; rw [if_pos hbn]; rfl))]; exact h1, h2⟩
  obtain ⟨ro, h1, h2⟩ := h.obj b r κ o e1 e2
  exact ⟨ro, by rw [hb.block r (h.lt b r (Ren.to_of e1))]; exact h1, h2⟩
theorem laidS_up (ng nt : Nat) (st0 : St) : ∀ n w, LaidS ng nt st0 n w → LaidS ng nt st0 w.heap.size w := by
  rintro n w ⟨hn, m, h⟩
  exact ⟨Nat.le_refl _, m, fun b r e => Nat.lt_of_lt_of_le (h.lt b r e) hn, h.obj, h.exact⟩
theorem laidS_rel {ng nt : Nat} {st0 : St} (hnt : nt ≤ 16) (hnx : ng + 16 ≤ st0.next) {G : Nat} (hG : G = ng + 16) (B : Bd) (w : World) (hB : B.n = w.heap.size) (hJ : B.J w) (h : LaidS ng nt st0 w.heap.size w) : ∃ ι, WRel G B ι st0 w ∧ ∀ c, st0.next ≤ c → ι c = none := by
  obtain ⟨_, m, h⟩ := h
  have none_of : ∀ c, ng + nt ≤ c → renOf ng nt m c = none := by
    intro c hc
    unfold renOf
    rw [if_neg (by omega), if_neg (by omega)]
  refine ⟨renOf ng nt m, ⟨h.obj, h.lt, fun b b' r g1 g2 e _ _ _ => ?_, fun b r _ e => by rw [hB]; exact h.lt b r e, by omega, fun b r hb e => ?_, fun g hg => ?_, by omega, hJ⟩, fun c hc => none_of c (by omega)⟩
  · unfold Ren.to at e
    rw [none_of b (by omega)] at e; cases e
  · unfold Ren.to at e
    rw [none_of b (by omega)] at e; cases e
  · unfold renOf
    rw [if_pos (by omega)]
/-- The laid variables read so, whatever the tokens. -/
def LaidN (ng nt : Nat) (st0 : St) (n : Nat) (w : World) : Prop := ∀ S : Sym, @LaidS S ng nt st0 n w
omit [Sym] in
theorem laidN_keep (ng nt : Nat) (st0 : St) : ∀ n w w', Below n w w' → LaidN ng nt st0 n w → LaidN ng nt st0 n w' := fun n w w' h k S => laidS_keep ng nt st0 n w w' h (k S)
omit [Sym] in
theorem laidN_up (ng nt : Nat) (st0 : St) : ∀ n w, LaidN ng nt st0 n w → LaidN ng nt st0 w.heap.size w := fun n w k S => laidS_up ng nt st0 n w (k S)
/-- Where the laid variables read so (and M holds), a call does as its run. -/
theorem calls_of_runN {P : Program} {ng nt f1 f2 : Nat} {cf : Nat → Array Value → Option Value} {st0 : St} {eqT : Nat → Value → Value → Option Bool} {fact : FK → List Value → Option Value} (hnt : nt ≤ 16) (hnx : ng + 16 ≤ st0.next) (hm : P.follows .mixedOrders = true)
    (h1 : EscRun P f1) (h2 : IdxRun P f2)
    (hq : ∀ κ x y b, eqT κ x y = some b → ∀ ι x' y', VRel ι x x' → VRel ι y y' → eqScal κ x' y' = some b) (M : World → Prop) (hf : ∀ k vs v, fact k vs = some v → ∀ ι vs', VL ι vs vs' → ∀ w, M w → ∃ v', FK.Runs P w v' k vs' ∧ VRel ι v v')
    (hg : CfOk P (fun w => LaidN ng nt st0 w.heap.size w ∧ M w) cf) {N n f : Nat} {args args' : Array Value} {v v' : Value} (hrun : runs (envOf P (ng + 16) eqT) (extOf f1 f2 fact) cf N n st0 f args = some v) (hv : ∀ ι x, VRel ι v x → x = v') (ha : ∀ ι, ARel ι args args') (w : World) (hL : LaidN ng nt st0 w.heap.size w)
    (hM : M w) (keepM : ∀ w1 w2, Below w.heap.size w1 w2 → M w1 → M w2) : Calls P f args' w fun e w' => e = .returned v' ∧ Below w.heap.size w w' := by
  let B : Bd := ⟨w.heap.size, fun w1 => LaidN ng nt st0 w.heap.size w1 ∧ M w1, fun w1 w2 hb h => ⟨laidN_keep ng nt st0 w.heap.size w1 w2 hb h.1, keepM w1 w2 hb h.2⟩⟩
  obtain ⟨ι, hw, hfree⟩ := laidS_rel (G := (envOf P (ng + 16) eqT).G) hnt hnx rfl B w rfl ⟨hL, hM⟩ (hL inferInstance)
  refine calls_of_run (B := B) (envOf_ok P (ng + 16) hq) (extOf_ok (fun k vs v e ι vs' hv w hJ => hf k vs v e ι vs' hv w hJ.2) h1 h2) hm ?_ hrun hv hw hfree (ha ι) rfl
  intro f args v e ι args' ha w1 h1
  exact hg f args v e ι args' ha w1 ⟨laidN_up _ _ _ _ w1 h1.1, h1.2⟩
end
end Go.Proofs.YtmmfpkkkpeapeaaGreatDoor.Ev
