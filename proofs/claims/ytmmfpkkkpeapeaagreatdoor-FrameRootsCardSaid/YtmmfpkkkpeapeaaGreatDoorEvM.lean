/- The evaluator's one operation, whole, beside the model's. No condition. -/
import Derived.Test.YtmmfpkkkpeapeaaGreatDoorEvL
set_option linter.unusedSectionVars false
set_option linter.unusedVariables false
set_option linter.unusedSimpArgs false
namespace Go.Proofs.YtmmfpkkkpeapeaaGreatDoor.Ev
open Go Go.RowKit
variable [Sym]

inductive ANext where
  | value (v : Value)
  | skip
  | enter (f : FuncId) (args : Array Value)
  | defer (d : Deferred)
  | recover
  | panic (v : Value)
  | round (l : Nat) (f : FuncId) (tmps : Array Value) (assign body : Code)
inductive NextIs (E : Env) (ι : Ren) (w : World) : ANext → Result Next → Prop
  | value {v v' : Value} (h : VRel ι v v') : NextIs E ι w (.value v) (.ok (.value v') w)
  | skip : NextIs E ι w .skip (.ok .skip w)
  | enter {f : FuncId} {fn : Func} {a a' : Array Value} (hf : E.fn f = some fn) (h : ARel ι a a') : NextIs E ι w (.enter f a) (.ok (.enter f a') w)
  | defer {d d' : Deferred} (h : DeferRel ι d d') : NextIs E ι w (.defer d) (.ok (.defer d') w)
  | recover : NextIs E ι w .recover (.ok .recover w)
  | panic {v v' : Value} (h : VRel ι v v') : NextIs E ι w (.panic v) (.halt (.panic v') w)
  | round {l l' : Nat} {f : FuncId} {a a' : Array Value} {x y : Code} (hl : ι.to l = some l') (h : ARel ι a a') : NextIs E ι w (.round l f a x y) (.ok (.round l' f a' x y) w)
/-- An operation that is known at some tokens. -/
inductive FK where
  | bin (op : BinOp) (t : TypeId)
  | un (op : UnOp)
  | conv (s d : TypeId)
  | slice (t : TypeId) (lo hi : Bool)
  | index (t : TypeId)
  | len (t : TypeId)
  | load (t : TypeId)
  | fieldAddr (s : TypeId) (f : Nat)
  | indexAddr (t : TypeId)
  | mm (mx : Bool)
/-- What it answers, in a world. -/
def FK.Runs (P : Program) (w : World) (v : Value) : FK → List Value → Prop
  | .bin op t, [x, y] => ∀ xo yo, (do eqGuard op t xo yo x y; binOp op t x y : Sem Value).run P w = .ok v w
  | .un op, [x] => (Op.unary op x).run P w = .ok v w
  | .conv s d, [x] => (convert s d x).run P w = .ok v w
  | .slice t false false, [x] => (Instr.sliceAt t x none none none).run P w = .ok v w
  | .slice t true false, [x, y] => (Instr.sliceAt t x (some y) none none).run P w = .ok v w
  | .slice t false true, [x, y] => (Instr.sliceAt t x none (some y) none).run P w = .ok v w
  | .slice t true true, [x, y, z] => (Instr.sliceAt t x (some y) (some z) none).run P w = .ok v w
  | .index t, [x, y] => (Instr.index t x y).run P w = .ok v w
  | .len t, [x] => ∀ ty, (Builtin.len_ #[t] ty #[x]).run P w = .ok v w
  | .load t, [x] => (Instr.loadAt t x).run P w = .ok v w
  | .fieldAddr s f, [x] => (Instr.fieldAt s x f).run P w = .ok v w
  | .indexAddr t, [x, y] => (Instr.indexAt t x y).run P w = .ok v w
  | .mm mx, [x, y] => ∀ tys ty, (if mx then Builtin.max_ tys ty #[x, y] else Builtin.min_ tys ty #[x, y]).run P w = .ok v w
  | _, _ => False
inductive VL (ι : Ren) : List Value → List Value → Prop
  | nil : VL ι [] []
  | cons {v v' : Value} {l l' : List Value} (h : VRel ι v v') (t : VL ι l l') : VL ι (v :: l) (v' :: l')
structure Ext where
  fn : FuncId → Option (Array Value → LM Value)
  fact : FK → List Value → Option Value
/-- What the functions without a Go body hand back. -/
structure Ext.Ok (X : Ext) (E : Env) (P : Program) (B : Bd) : Prop where
  fn : ∀ f g, X.fn f = some g → ∀ ι st w args args' v st', WRel E.G B ι st w → Free ι st.next st'.next → ARel ι args args' → Run (g args) st v st' →
    Does P E.G B ι st w st' (callFunc f args') fun ι' y => ∃ v', y = .value v' ∧ VRel ι' v v'
  fact : ∀ k vs v, X.fact k vs = some v → ∀ ι vs', VL ι vs vs' → ∀ w, B.J w → ∃ v', FK.Runs P w v' k vs' ∧ VRel ι v v'
/-- An operation at tokens by what is known of it; else as it is. -/
def aTok (X : Ext) (k : FK) (vs : List Value) (m : LM Value) : LM Value := match vs.any isTok with
  | true => LM.ofOption (X.fact k vs)
  | false => m
/-- An operation's answer and the model's. -/
def NDoes (P : Program) (E : Env) (B : Bd) (ι : Ren) (st : St) (w : World) (st' : St) (s : Sem Next) (n : ANext) : Prop :=
  ∃ ι' w', Post E.G B ι st w st' ι' w' ∧ NextIs E ι' w' n (s.run P w)
section
variable {E : Env} {P : Program} {B : Bd} {ι : Ren} {st st' : St} {w : World}
theorem Does.next {s : Sem Value} {v : Value} (h : Does P E.G B ι st w st' s fun ι' y => VRel ι' v y) : NDoes P E B ι st w st' (do pure (.value (← s))) (.value v) := by
  obtain ⟨ι', w', y, hr, hp, hv⟩ := h
  refine ⟨ι', w', hp, ?_⟩
  simp only [Sem.run_bind, hr, Result.andThen_ok, Sem.run_pure]
  exact .value hv
theorem Ans.next (hw : WRel E.G B ι st w) {s : Sem Value} {v : Value} (h : st' = st ∧ Ans P ι w s v) : NDoes P E B ι st w st' (do pure (.value (← s))) (.value v) := by
  obtain ⟨rfl, y, hr, hv⟩ := h
  exact Does.next (Does.same hw hr hv)
theorem Post.next {s : Sem Unit} (h : ∃ w', s.run P w = .ok () w' ∧ Post E.G B ι st w st' ι w') : NDoes P E B ι st w st' (do s; pure .skip) .skip := by
  obtain ⟨w', hr, hp⟩ := h
  refine ⟨ι, w', hp, ?_⟩
  simp only [Sem.run_bind, hr, Result.andThen_ok, Sem.run_pure]
  exact .skip
theorem tok_run {X : Ext} (hX : X.Ok E P B) (hw : WRel E.G B ι st w) {k : FK} {vs vs' : List Value} {m : LM Value} {v : Value} (hv : VL ι vs vs') (h : Run (aTok X k vs m) st v st') :
    (st' = st ∧ ∃ v', FK.Runs P w v' k vs' ∧ VRel ι v v') ∨ Run m st v st' := by
  unfold aTok at h
  split at h
  · obtain ⟨e, rfl⟩ := Run.ofOption.1 h
    exact .inl ⟨rfl, hX.fact _ _ _ e ι vs' hv w hw.laid⟩
  · exact .inr h
theorem NDoes.now (hw : WRel E.G B ι st w) {s : Sem Next} {n : ANext} (h : NextIs E ι w n (s.run P w)) : NDoes P E B ι st w st s n := ⟨ι, w, Post.refl hw, h⟩
end
/-! ### comparisons and arithmetic -/
def isK : Operand → Bool
  | .const _ => true
  | _ => false
def isEq : BinOp → Bool
  | .eql => true
  | .neq => true
  | _ => false
def eqG (E : Env) (t : TypeId) (xo yo : Operand) : Value → Value → Bool
  | .nilIface, .nilIface => isK xo || isK yo
  | .agg _, .agg _ => match E.tab t with
    | some ti => ti.eqOk
    | none => false
  | .complex _ _ _, _ => false
  | _, .complex _ _ _ => false
  | _, _ => true
def guardOk (E : Env) (op : BinOp) (t : TypeId) (xo yo : Operand) (x y : Value) : Bool := if isEq op then eqG E t xo yo x y else true
def aBin (E : Env) (op : BinOp) (t : TypeId) (xo yo : Operand) (x y : Value) : LM Value := do
  LM.guard (guardOk E op t xo yo x y)
  match x, y with
  | .int k a, .int k' b => match op with
    | .shl | .shr => LM.ofOption (shiftOp op k a b)
    | _ => do
      LM.guard (decide (k = k'))
      LM.ofOption (intOp op k a b)
  | .string a, .string b => LM.ofOption (strOp op a b)
  | .int _ _, _ | .string _, _ | .complex _ _ _, _ | .float _ _, _ => LM.fail
  | x, y => match op with
    | .eql => do
      let b ← aEq E 8 t x y
      pure (.bool b)
    | .neq => do
      let b ← aEq E 8 t x y
      pure (.bool (!b))
    | _ => LM.fail
section
variable {E : Env} {P : Program} {B : Bd} {ι : Ren} {st st' : St} {w : World}
theorem guard_run (ok : E.Ok P) {op : BinOp} {t : TypeId} {xo yo : Operand} {x y x' y' : Value} (hx : VRel ι x x') (hy : VRel ι y y') (h : guardOk E op t xo yo x y = true) : (eqGuard op t xo yo x' y').run P w = .ok () w := by
  unfold guardOk at h
  by_cases hop : isEq op = true
  · rw [if_pos hop] at h
    have hop : op = .eql ∨ op = .neq := by cases op <;> simp [isEq] at hop <;> simp
    cases hx with
    | top => cases y <;> simp [eqG] at h
    | tok i => cases y <;> simp [eqG] at h
    | nilIface =>
      cases hy with
      | top => simp [eqG] at h
      | tok i => simp [eqG] at h
      | nilIface =>
        simp only [eqG] at h
        rcases hop with rfl | rfl <;> cases xo <;> cases yo <;> simp [isK] at h <;> simp [eqGuard]
      | _ => rcases hop with rfl | rfl <;> rfl
    | agg hc hr =>
      cases hy with
      | top => simp [eqG] at h
      | tok i => simp [eqG] at h
      | agg hc2 hr2 =>
        simp only [eqG] at h
        split at h
        · rename_i ti et
          have := (ok.eqOk t ti et h).2
          rcases hop with rfl | rfl <;> simp [eqGuard, this]
        · cases h
      | _ => rcases hop with rfl | rfl <;> rfl
    | _ =>
      first
        | (rcases hop with rfl | rfl <;> rfl)
        | (cases y' <;> rcases hop with rfl | rfl <;> rfl)
  · cases op <;> first | (simp [isEq] at hop; done) | rfl
theorem bin_does (ok : E.Ok P) (hw : WRel E.G B ι st w) {op : BinOp} {t yt : TypeId} {xo yo : Operand} {x y x' y' v : Value} (hx : VRel ι x x') (hy : VRel ι y y') (h : Run (aBin E op t xo yo x y) st v st') :
    st' = st ∧ Ans P ι w (do eqGuard op t xo yo x' y'; binOp op t x' y') v := by
  unfold aBin at h
  replace h := Run.bindGuard h
  obtain ⟨g, h⟩ := h
  have hg := guard_run (P := P) (w := w) ok hx hy g
  unfold Ans
  simp only [Sem.run_bind, hg, Result.andThen_ok]
  split at h
  · rename_i k a k' b
    cases hx; cases hy
    have hrest : ∀ op, (match op with | BinOp.shl | .shr => false | _ => true) = true → Run (do LM.guard (decide (k = k')); LM.ofOption (intOp op k a b)) st v st' → st' = st ∧ ∃ v', (binOp op t (.int k a) (.int k' b)).run P w = .ok v' w ∧ VRel ι v v' := by
      intro op _ hh
      replace hh := Run.bindGuard hh
      obtain ⟨g, hh⟩ := hh
      have g := of_decide_eq_true g
      subst g
      obtain ⟨e, rfl⟩ := Run.ofOption.1 hh
      obtain ⟨r1, r2⟩ := intOp_run P w op k a b t v e
      exact ⟨rfl, v, r1, r2 ι⟩
    cases op <;> simp only at h
    case shl =>
      obtain ⟨e, rfl⟩ := Run.ofOption.1 h
      obtain ⟨r1, r2⟩ := shiftOp_run P w .shl k k' a b t v e
      exact ⟨rfl, v, r1, r2 ι⟩
    case shr =>
      obtain ⟨e, rfl⟩ := Run.ofOption.1 h
      obtain ⟨r1, r2⟩ := shiftOp_run P w .shr k k' a b t v e
      exact ⟨rfl, v, r1, r2 ι⟩
    all_goals exact hrest _ rfl h
  · rename_i a b
    cases hx; cases hy
    obtain ⟨e, rfl⟩ := Run.ofOption.1 h
    obtain ⟨r1, r2⟩ := strOp_run P w op a b t v e
    exact ⟨rfl, v, r1, r2 ι⟩
  · exact (Run.fail.1 h).elim
  · exact (Run.fail.1 h).elim
  · exact (Run.fail.1 h).elim
  · exact (Run.fail.1 h).elim
  · rename_i n1 n2 n3 n4 n5 n6
    have e1 : (binOp .eql t x' y').run P w = (do pure (.bool (← Op.equal t x' y')) : Sem Value).run P w := by
      cases hx <;> first
        | (cases y' <;> rfl)
        | (exfalso; simp_all; done)
    have e2 : (binOp .neq t x' y').run P w = (do pure (.bool (!(← Op.equal t x' y'))) : Sem Value).run P w := by
      cases hx <;> first
        | (cases y' <;> rfl)
        | (exfalso; simp_all; done)
    cases op <;> simp only at h
    case eql =>
      replace h := Run.bind.1 h
      obtain ⟨b, st1, h1, h⟩ := h
      obtain ⟨rfl, rfl⟩ := Run.pure.1 h
      obtain ⟨rfl, hb⟩ := eq_run (P := P) ok hw 8 10000 t _ _ _ _ b _ (by omega) hx hy h1
      have hb' : (Op.equal t x' y').run P w = .ok b w := hb
      refine ⟨rfl, .bool b, ?_, .bool _⟩
      rw [e1]
      simp only [Sem.run_bind, hb', Result.andThen_ok, Sem.run_pure]
    case neq =>
      replace h := Run.bind.1 h
      obtain ⟨b, st1, h1, h⟩ := h
      obtain ⟨rfl, rfl⟩ := Run.pure.1 h
      obtain ⟨rfl, hb⟩ := eq_run (P := P) ok hw 8 10000 t _ _ _ _ b _ (by omega) hx hy h1
      have hb' : (Op.equal t x' y').run P w = .ok b w := hb
      refine ⟨rfl, .bool (!b), ?_, .bool _⟩
      rw [e2]
      simp only [Sem.run_bind, hb', Result.andThen_ok, Sem.run_pure]
    all_goals exact (Run.fail.1 h).elim
end
end Go.Proofs.YtmmfpkkkpeapeaaGreatDoor.Ev
