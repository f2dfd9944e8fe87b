/- The evaluator's one operation, whole, beside the model's 'execOp'. No condition. -/
import Derived.Test.YtmmfpkkkpeapeaaGreatDoorEvLa
set_option linter.unusedSectionVars false
set_option linter.unusedVariables false
set_option linter.unusedSimpArgs false
namespace Go.Proofs.YtmmfpkkkpeapeaaGreatDoor.Ev
open Go Go.RowKit
variable [Sym]

theorem VL.of_get {ι : Ren} : ∀ (l l' : List Value), l'.length = l.length → (∀ i, i < l.length → VRel ι (l.getD i undef) (l'.getD i undef)) → VL ι l l'
  | [], [], _, _ => .nil
  | [], _ :: _, h, _ => by simp at h
  | _ :: _, [], h, _ => by simp at h
  | e :: l, e' :: l', h, k => .cons (k 0 (by simp)) (VL.of_get l l' (by simpa using h) fun i hi => by have := k (i + 1) (by simp; omega); simpa using this)
theorem ARel.list {ι : Ren} {c c' : Array Value} (h : ARel ι c c') : VL ι c.toList c'.toList := by
  refine VL.of_get _ _ (by simpa using h.1) fun i hi => ?_
  have := h.2 i (by simpa using hi)
  simpa only [Array.getD_eq_getD_getElem?, List.getD_eq_getElem?_getD, Array.getElem?_toList] using this
theorem fold_params {ι : Ren} {l l' : List Value} (h : VL ι l l') : ∀ (ps : List Nat) (c c' : Array Value), ARel ι c c' →
    ARel ι ((ps.zip l).foldl (fun tmps p => tmps.setIfInBounds p.1 p.2) c) ((ps.zip l').foldl (fun tmps p => tmps.setIfInBounds p.1 p.2) c') := by
  induction h with
  | nil => intro ps c c' hc; simpa using hc
  | cons h _ ih =>
    intro ps c c' hc
    cases ps with
    | nil => exact hc
    | cons p ps =>
      simp only [List.zip_cons_cons, List.foldl_cons]
      exact ih ps _ _ (hc.set p h)
theorem parts_rel {ι : Ren} {ρ ρ' : Operand → Value} (hρ : ∀ x, VRel ι (ρ x) (ρ' x)) (ps : Array (Nat × Operand)) : PartsRel ι (ps.map fun p => (p.1, ρ p.2)).toList (ps.map fun p => (p.1, ρ' p.2)).toList := by
  rw [Array.toList_map, Array.toList_map]
  generalize ps.toList = l
  induction l with
  | nil => exact .nil
  | cons p l ih => exact .cons (hρ _) ih
theorem opt_rel {ι : Ren} {ρ ρ' : Operand → Value} (hρ : ∀ x, VRel ι (ρ x) (ρ' x)) (o : Option Operand) : OptV ι (o.map ρ) (o.map ρ') := by
  cases o with
  | none => exact .inl ⟨rfl, rfl⟩
  | some x => exact .inr ⟨_, _, rfl, rfl, hρ x⟩

def appF (a b : Array Value) : Array Value := (a.toList ++ b.toList).toArray
omit [Sym] in
theorem appF_eq (a b : Array Value) : appF a b = a ++ b := by
  unfold appF
  rw [← Array.toList_append, Array.toArray_toList]
def mapF0 (ρ : Operand → Value) (a : Array Operand) : Array Value := (a.toList.map ρ).toArray
omit [Sym] in
theorem mapF0_eq (ρ : Operand → Value) (a : Array Operand) : mapF0 ρ a = a.map ρ := by
  unfold mapF0
  rw [← Array.toList_map, Array.toArray_toList]
def aResolve (ρ : Operand → Value) (c : Call) : LM Deferred :=
  match c.callee with
  | .value f => match ρ f with
    | .func fn first cap => pure { target := .fn fn cap, args := appF first (mapF0 ρ c.args) }
    | _ => LM.fail
  | _ => LM.fail
def aCallFn (E : Env) (X : Ext) (f : FuncId) (args : Array Value) : LM ANext :=
  match X.fn f with
  | some g => do
    let v ← g args
    pure (.value v)
  | none => do
    let _ ← LM.ofOption (E.fn f)
    pure (.enter f args)
def aYield (l : Nat) (args : Array Value) : LM ANext := do
  match ← LM.look l with
  | .other (.loop r) => do
    LM.guard (decide (args.size = r.params.size))
    pure (.round l r.fn ((r.params.toList.zip args.toList).foldl (fun tmps p => tmps.setIfInBounds p.1 p.2) r.tmps) r.assign r.body)
  | _ => LM.fail
def aInvoke (E : Env) (X : Ext) (d : Deferred) : LM ANext :=
  match d.target with
  | .fn (.func f) cap => aCallFn E X f (appF d.args cap)
  | .fn (.yield l) _ => aYield l d.args
  | _ => LM.fail
def aVal (m : LM Value) : LM ANext := do
  let v ← m
  pure (.value v)
def aUnit (m : LM Unit) : LM ANext := do
  m
  pure .skip
def aBuiltin (E : Env) (X : Ext) (b : Builtin) (tys : Array TypeId) (args : Array Value) : LM ANext :=
  match b with
  | .append => do
    LM.guard (decide (tys.size = 2 ∧ args.size = 2))
    aVal (aAppend E tys args)
  | .cap => aVal (aCap E tys args)
  | .len => match tys.toList, args.toList with
    | [t], [x] => aVal (aTok X (.len t) [x] (aLen E tys args))
    | _, _ => aVal (aLen E tys args)
  | .copy => aVal (aCopy E tys args)
  | .max => match args.toList with
    | [x, y] => aVal (aTok X (.mm true) [x, y] (aMaxMin true args))
    | _ => LM.fail
  | .min => match args.toList with
    | [x, y] => aVal (aTok X (.mm false) [x, y] (aMaxMin false args))
    | _ => LM.fail
  | .delete => do
    let t ← LM.ofOption tys[0]?
    let m ← LM.ofOption args[0]?
    let k ← LM.ofOption args[1]?
    aVal (aDelete E t m k)
  | .recover => pure .recover
  | .unsafeSliceData => do
    LM.guard (decide (args.size = 1))
    aVal (aSliceData args)
  | .unsafeString => do
    LM.guard (decide (args.size = 2 ∧ tys.size = 2))
    aVal (aUnsafeString E tys args)
  | _ => LM.fail
def aExec (E : Env) (X : Ext) (ρ : Operand → Value) (o : Oper) : LM ANext :=
  match o.op with
  | .move x => pure (.value (ρ x))
  | .assign x => pure (.value (ρ x))
  | .pick c a b => match ρ c with
    | .bool true => pure (.value (ρ a))
    | .bool false => pure (.value (ρ b))
    | _ => LM.fail
  | .alloc t => aVal (aAlloc E t)
  | .box t x => aVal (aBox t (ρ x))
  | .build t parts => aVal (LM.ofOption (aBuild E t (parts.map fun p => (p.1, ρ p.2))))
  | .buildSlice t n parts => aVal (aBuildSlice E t n (parts.map fun p => (p.1, ρ p.2)))
  | .load t a => aVal (aTok X (.load t) [ρ a] (aLoad E t (ρ a)))
  | .store t a x => aUnit (aStore E t (ρ a) (ρ x))
  | .nilCheck x => match ρ x with
    | .pointer (some a) => pure (.value (.pointer (some a)))
    | .iface t v => pure (.value (.iface t v))
    | .func (.func f) a b => pure (.value (.func (.func f) a b))
    | _ => LM.fail
  | .binOp op t x y _ => aVal (aTok X (.bin op t) [ρ x, ρ y] (aBin E op t x y (ρ x) (ρ y)))
  | .unOp op _ x => aVal (aTok X (.un op) [ρ x] (LM.ofOption (aUn op (ρ x))))
  | .convert s d x => aVal (aTok X (.conv s d) [ρ x] (aConvert2 E s d (ρ x)))
  | .makeInterface t x => aVal (aMakeIface E t (ρ x))
  | .makeFunc fn first cap => match fn with
    | .func f => pure (.value (.func (.func f) (first.map ρ) (cap.map ρ)))
    | _ => LM.fail
  | .makeMap t r => aVal (aMakeMap E t (r.map ρ))
  | .makeSlice t l c => aVal (aMakeSlice E t (ρ l) (ρ c))
  | .slice t x lo hi mx => match lo, hi, mx with
    | none, none, none => aVal (aTok X (.slice t false false) [ρ x] (LM.ofOption (aSlice E t (ρ x) none none none)))
    | some y, none, none => aVal (aTok X (.slice t true false) [ρ x, ρ y] (LM.ofOption (aSlice E t (ρ x) (some (ρ y)) none none)))
    | none, some y, none => aVal (aTok X (.slice t false true) [ρ x, ρ y] (LM.ofOption (aSlice E t (ρ x) none (some (ρ y)) none)))
    | some y, some z, none => aVal (aTok X (.slice t true true) [ρ x, ρ y, ρ z] (LM.ofOption (aSlice E t (ρ x) (some (ρ y)) (some (ρ z)) none)))
    | _, _, _ => aVal (LM.ofOption (aSlice E t (ρ x) (lo.map ρ) (hi.map ρ) (mx.map ρ)))
  | .fieldAddr s x f => aVal (aTok X (.fieldAddr s f) [ρ x] (LM.ofOption (aFieldAddr E s (ρ x) f)))
  | .field s x f => aVal (LM.ofOption (aField E s (ρ x) f))
  | .indexAddr t x i => aVal (aTok X (.indexAddr t) [ρ x, ρ i] (LM.ofOption (aIndexAddr E t (ρ x) (ρ i))))
  | .index t x i => aVal (aTok X (.index t) [ρ x, ρ i] (LM.ofOption (aIndex E t (ρ x) (ρ i))))
  | .lookup t x i ok => aVal (aLookup2 E t (ρ x) (ρ i) ok)
  | .mapUpdate t m k x => aUnit (aMapUpdate E t (ρ m) (ρ k) (ρ x))
  | .insert t m k x => aUnit (aMapUpdate E t (ρ m) (ρ k) (ρ x))
  | .range t x => aVal (aRange E t (ρ x))
  | .next it s => aVal (aNext E (ρ it) s)
  | .entry it => aVal (aEntry (ρ it))
  | .typeAssert x xt t ok => aVal (aAssert E (ρ x) t ok)
  | .extract t i => match ρ t with
    | .tuple vs => aVal (LM.ofOption vs[i]?)
    | _ => LM.fail
  | .call c => match c.callee with
    | .builtin b => aBuiltin E X b c.argTypes (c.args.map ρ)
    | _ => do
      let d ← aResolve ρ c
      aInvoke E X d
  | .defer c => do
    let d ← aResolve ρ c
    pure (.defer d)
  | .panic x => match ρ x with
    | .iface t v => pure (.panic (.iface t v))
    | _ => LM.fail
  | _ => LM.fail
def mapF {α β : Type} (f : α → β) (a : Array α) : Array β := (a.toList.map f).toArray
theorem mapF_eq {α β : Type} (f : α → β) (a : Array α) : mapF f a = a.map f := by
  unfold mapF
  rw [← Array.toList_map, Array.toArray_toList]
/-- The same, its arms closed, so that the kernel copies but one. -/
noncomputable def aSel (op : Op) : Env → Ext → (Operand → Value) → LM ANext :=
  Op.rec (motive := fun _ => Env → Ext → (Operand → Value) → LM ANext)
    (fun x => fun E X ρ => pure (.value (ρ x)))
    (fun x => fun E X ρ => pure (.value (ρ x)))
    (fun c a b => fun E X ρ => match ρ c with
    | .bool true => pure (.value (ρ a))
    | .bool false => pure (.value (ρ b))
    | _ => LM.fail)
    (fun t => fun E X ρ => aVal (aAlloc E t))
    (fun t x => fun E X ρ => aVal (aBox t (ρ x)))
    (fun t parts => fun E X ρ => aVal (LM.ofOption (aBuild E t (mapF (fun p => (p.1, ρ p.2)) parts))))
    (fun t n parts => fun E X ρ => aVal (aBuildSlice E t n (mapF (fun p => (p.1, ρ p.2)) parts)))
    (fun t m k x => fun E X ρ => aUnit (aMapUpdate E t (ρ m) (ρ k) (ρ x)))
    (fun t a => fun E X ρ => aVal (aTok X (.load t) [ρ a] (aLoad E t (ρ a))))
    (fun t a x => fun E X ρ => aUnit (aStore E t (ρ a) (ρ x)))
    (fun _ => fun _ _ _ => LM.fail)
    (fun _ => fun _ _ _ => LM.fail)
    (fun x => fun E X ρ => match ρ x with
    | .pointer (some a) => pure (.value (.pointer (some a)))
    | .iface t v => pure (.value (.iface t v))
    | .func (.func f) a b => pure (.value (.func (.func f) a b))
    | _ => LM.fail)
    (fun op t x y _ => fun E X ρ => aVal (aTok X (.bin op t) [ρ x, ρ y] (aBin E op t x y (ρ x) (ρ y))))
    (fun op _ x => fun E X ρ => aVal (aTok X (.un op) [ρ x] (LM.ofOption (aUn op (ρ x)))))
    (fun s d x => fun E X ρ => aVal (aTok X (.conv s d) [ρ x] (aConvert2 E s d (ρ x))))
    (fun _ _ => fun _ _ _ => LM.fail)
    (fun t x => fun E X ρ => aVal (aMakeIface E t (ρ x)))
    (fun fn first cap => fun E X ρ => match fn with
    | .func f => pure (.value (.func (.func f) (mapF ρ first) (mapF ρ cap)))
    | _ => LM.fail)
    (fun t r => fun E X ρ => aVal (aMakeMap E t (r.map ρ)))
    (fun _ _ => fun _ _ _ => LM.fail)
    (fun t l c => fun E X ρ => aVal (aMakeSlice E t (ρ l) (ρ c)))
    (fun t x lo hi mx => fun E X ρ => match lo, hi, mx with
    | none, none, none => aVal (aTok X (.slice t false false) [ρ x] (LM.ofOption (aSlice E t (ρ x) none none none)))
    | some y, none, none => aVal (aTok X (.slice t true false) [ρ x, ρ y] (LM.ofOption (aSlice E t (ρ x) (some (ρ y)) none none)))
    | none, some y, none => aVal (aTok X (.slice t false true) [ρ x, ρ y] (LM.ofOption (aSlice E t (ρ x) none (some (ρ y)) none)))
    | some y, some z, none => aVal (aTok X (.slice t true true) [ρ x, ρ y, ρ z] (LM.ofOption (aSlice E t (ρ x) (some (ρ y)) (some (ρ z)) none)))
    | _, _, _ => aVal (LM.ofOption (aSlice E t (ρ x) (lo.map ρ) (hi.map ρ) (mx.map ρ))))
    (fun s x f => fun E X ρ => aVal (aTok X (.fieldAddr s f) [ρ x] (LM.ofOption (aFieldAddr E s (ρ x) f))))
    (fun s x f => fun E X ρ => aVal (LM.ofOption (aField E s (ρ x) f)))
    (fun t x i => fun E X ρ => aVal (aTok X (.indexAddr t) [ρ x, ρ i] (LM.ofOption (aIndexAddr E t (ρ x) (ρ i)))))
    (fun t x i => fun E X ρ => aVal (aTok X (.index t) [ρ x, ρ i] (LM.ofOption (aIndex E t (ρ x) (ρ i)))))
    (fun t x i ok => fun E X ρ => aVal (aLookup2 E t (ρ x) (ρ i) ok))
    (fun t m k x => fun E X ρ => aUnit (aMapUpdate E t (ρ m) (ρ k) (ρ x)))
    (fun _ _ _ => fun _ _ _ => LM.fail)
    (fun _ _ _ _ => fun _ _ _ => LM.fail)
    (fun t x => fun E X ρ => aVal (aRange E t (ρ x)))
    (fun it s => fun E X ρ => aVal (aNext E (ρ it) s))
    (fun it => fun E X ρ => aVal (aEntry (ρ it)))
    (fun x xt t ok => fun E X ρ => aVal (aAssert E (ρ x) t ok))
    (fun t i => fun E X ρ => match ρ t with
    | .tuple vs => aVal (LM.ofOption vs[i]?)
    | _ => LM.fail)
    (fun c => fun E X ρ => match c.callee with
    | .builtin b => aBuiltin E X b c.argTypes (mapF ρ c.args)
    | _ => do
      let d ← aResolve ρ c
      aInvoke E X d)
    (fun _ => fun _ _ _ => LM.fail)
    (fun c => fun E X ρ => do
    let d ← aResolve ρ c
    pure (.defer d))
    (fun x => fun E X ρ => match ρ x with
    | .iface t v => pure (.panic (.iface t v))
    | _ => LM.fail)
    (fun _ _ => fun _ _ _ => LM.fail)
    (fun _ _ _ => fun _ _ _ => LM.fail)
    (fun _ _ => fun _ _ _ => LM.fail)
    op
noncomputable def aExecF (E : Env) (X : Ext) (ρ : Operand → Value) (o : Oper) : LM ANext := aSel o.op E X ρ
theorem aExecF_eq (E : Env) (X : Ext) (ρ : Operand → Value) (o : Oper) : aExecF E X ρ o = aExec E X ρ o := by
  obtain ⟨dst, op, type, pos, after, guard⟩ := o
  cases op <;> first
    | rfl
    | (simp only [aExecF, aSel, aExec, mapF_eq]; done)
    | (simp only [aExecF, aSel, aExec, mapF_eq]; rfl)
section
variable {E : Env} {P : Program} {B : Bd} {ι : Ren} {st st' : St} {w : World} {X : Ext}
theorem Run.aVal {m : LM Value} {n : ANext} (h : Run (Ev.aVal m) st n st') : ∃ v, n = .value v ∧ Run m st v st' := by
  unfold Ev.aVal at h
  replace h := Run.bind.1 h
  obtain ⟨v, st1, h1, h⟩ := h
  obtain ⟨rfl, rfl⟩ := Run.pure.1 h
  exact ⟨v, rfl, h1⟩
theorem Run.aUnit {m : LM Unit} {n : ANext} (h : Run (Ev.aUnit m) st n st') : n = .skip ∧ Run m st () st' := by
  unfold Ev.aUnit at h
  replace h := Run.bind.1 h
  obtain ⟨v, st1, h1, h⟩ := h
  obtain ⟨rfl, rfl⟩ := Run.pure.1 h
  exact ⟨rfl, h1⟩
theorem Run.aValOpt {m : Option Value} {n : ANext} (h : Run (Ev.aVal (LM.ofOption m)) st n st') : ∃ v, n = .value v ∧ m = some v ∧ st' = st := by
  replace h := Run.aVal h
  obtain ⟨v, rfl, h⟩ := h
  obtain ⟨e, rfl⟩ := Run.ofOption.1 h
  exact ⟨v, rfl, e, rfl⟩
theorem resolve_run {ρ ρ' : Operand → Value} (hρ : ∀ x, VRel ι (ρ x) (ρ' x)) {c : Call} {ty : TypeId} {d : Deferred} {st1 : St} (h : Run (aResolve ρ c) st d st1) :
    st1 = st ∧ ∃ fn fn' cap cap' args args', d = { target := .fn fn cap, args := args } ∧ (resolve ρ' c ty).run P w = .ok { target := .fn fn' cap', args := args' } w ∧ FnRel ι fn fn' ∧ ARel ι cap cap' ∧ ARel ι args args' := by
  unfold aResolve at h
  simp only [appF_eq, mapF0_eq] at h
  split at h
  · rename_i f hc
    split at h
    · rename_i fn first cap hf
      obtain ⟨rfl, rfl⟩ := Run.pure.1 h
      have hv := hρ f
      rw [hf] at hv
      obtain ⟨g', hg⟩ : ∃ g', ρ' f = g' := ⟨_, rfl⟩
      rw [hg] at hv
      cases hv with
      | func hfn hx hcs h1 h2 =>
      rename_i fn' first' cap'
      have hargs := ARel.map (ι := ι) c.args ρ ρ' hρ
      refine ⟨rfl, fn, fn', cap, cap', _, first' ++ c.args.map ρ', rfl, ?_, hfn, ⟨hcs, h2⟩, ARel.append ⟨hx, h1⟩ hargs⟩
      simp only [resolve, hc, hg, Deferred.ofValue, Sem.run_pure]
    · exact (Run.fail.1 h).elim
  · exact (Run.fail.1 h).elim
theorem callFn_does (ok : E.Ok P) (hX : X.Ok E P B) (hw : WRel E.G B ι st w) (hfree : Free ι st.next st'.next) {f : FuncId} {args args' : Array Value} {n : ANext} (ha : ARel ι args args') (h : Run (aCallFn E X f args) st n st') :
    NDoes P E B ι st w st' (callFunc f args') n := by
  unfold aCallFn at h
  split at h
  · rename_i g hg
    replace h := Run.bind.1 h
    obtain ⟨v, st1, h1, h⟩ := h
    obtain ⟨rfl, rfl⟩ := Run.pure.1 h
    obtain ⟨ι', w', y, hr, hp, v', rfl, hv⟩ := hX.fn f g hg ι st w args args' v _ hw hfree ha h1
    exact ⟨ι', w', hp, by rw [hr]; exact .value hv⟩
  · replace h := Run.bindOpt h
    obtain ⟨fn, ef, h⟩ := h
    obtain ⟨rfl, rfl⟩ := Run.pure.1 h
    refine NDoes.now hw ?_
    rw [(ok.fn f fn ef).2.2]
    exact .enter ef ha
theorem WRel.loop {G : Nat} (h : WRel G B ι st w) {b r : Nat} {l : Loop} (hb : ι.to b = some r) (e : st.get b = some (.other (.loop l))) :
    ∃ κ l', ι b = some (r, κ) ∧ w.heap[r]? = some (.loop l') ∧ ORel ι κ (.other (.loop l)) (.loop l') := by
  obtain ⟨κ, hk⟩ := Ren.to_some hb
  obtain ⟨ro, h1, h2⟩ := h.obj b r κ _ hk e
  cases h2 with
  | loop a1 a2 a3 a4 a5 a6 a7 a8 => exact ⟨κ, _, hk, h1, .loop a1 a2 a3 a4 a5 a6 a7 a8⟩
theorem invoke_does (ok : E.Ok P) (hX : X.Ok E P B) (hw : WRel E.G B ι st w) (hfree : Free ι st.next st'.next) {fn fn' : Fn} {cap cap' args args' : Array Value} {n : ANext} (hfn : FnRel ι fn fn') (hc : ARel ι cap cap') (ha : ARel ι args args')
    (h : Run (aInvoke E X { target := .fn fn cap, args := args }) st n st') : NDoes P E B ι st w st' (invoke (.fn fn' cap') args') n := by
  cases hfn with
  | func f =>
    replace h : Run (aCallFn E X f (appF args cap)) st n st' := h
    rw [appF_eq] at h
    exact callFn_does ok hX hw hfree (ha.append hc) h
  | yield hl =>
    rename_i l l'
    replace h : Run (aYield l args) st n st' := h
    unfold aYield at h
    replace h := Run.bindLook h
    obtain ⟨o, eo, h⟩ := h
    split at h
    · rename_i r
      replace h := Run.bindGuard h
      obtain ⟨g, h⟩ := h
      obtain ⟨rfl, rfl⟩ := Run.pure.1 h
      obtain ⟨κ, r', hk, hh, ho⟩ := hw.loop hl eo
      cases ho with
      | loop a1 a2 a3 a4 a5 a6 a7 a8 =>
      have g := of_decide_eq_true g
      refine NDoes.now hw ?_
      have : (invoke (.fn (.yield l') cap') args').run P w = .ok (.round l' r'.fn ((r'.params.zip args').foldl (fun tmps (t, a) => tmps.setIfInBounds t a) r'.tmps) r'.assign r'.body) w := by
        have hs : ¬ (args'.size ≠ r'.params.size) := by rw [a4, ha.1, g]; simp
        show (Instr.yield l' args').run P w = _
        simp only [Instr.yield, Instr.getLoop, Sem.run_bind, getObj_of hh nofun, Result.andThen_ok, Sem.run_pure, if_neg hs]
      rw [this, a3, a5, a6, a4]
      refine .round hl ?_
      have := fold_params ha.list r.params.toList _ _ a8
      rw [← Array.foldl_toList]
      have e1 : (r.params.zip args').toList = r.params.toList.zip args'.toList := by simp
      rw [e1]
      exact this
    · exact (Run.fail.1 h).elim
theorem builtin_does (ok : E.Ok P) (hX : X.Ok E P B) (hw : WRel E.G B ι st w) (hfree : Free ι st.next st'.next) {b : Builtin} {tys : Array TypeId} {ty : TypeId} {cs : Array Bool} {args args' : Array Value} {n : ANext} (ha : ARel ι args args') (h : Run (aBuiltin E X b tys args) st n st') :
    NDoes P E B ι st w st' (builtin b tys ty cs args') n := by
  unfold aBuiltin at h
  split at h
  · replace h := Run.bindGuard h
    obtain ⟨g, h⟩ := h
    obtain ⟨g1, g2⟩ := of_decide_eq_true g
    replace h := Run.aVal h
    obtain ⟨v, rfl, h⟩ := h
    exact (append_does ok hw ha g1 g2 hfree h).next
  · replace h := Run.aVal h
    obtain ⟨v, rfl, h⟩ := h
    exact Ans.next hw (cap_does ok ha h)
  · split at h
    · rename_i t x et ex
      replace h := Run.aVal h
      obtain ⟨v, rfl, h⟩ := h
      obtain rfl : tys = #[t] := by cases tys; simp_all
      obtain rfl : args = #[x] := by cases args; simp_all
      obtain ⟨x', rfl, hx⟩ := ARel.inv1 ha
      rcases tok_run hX hw (VL.cons hx .nil) h with ⟨rfl, v', hr, hv⟩ | h
      · exact Ans.next hw ⟨rfl, v', hr _, hv⟩
      · exact Ans.next hw (len_does ok hw ha h)
    · replace h := Run.aVal h
      obtain ⟨v, rfl, h⟩ := h
      exact Ans.next hw (len_does ok hw ha h)
  · replace h := Run.aVal h
    obtain ⟨v, rfl, h⟩ := h
    exact (copy_does ok hw ha h).next
  · split at h
    · rename_i x y ex
      replace h := Run.aVal h
      obtain ⟨v, rfl, h⟩ := h
      obtain rfl : args = #[x, y] := by cases args; simp_all
      obtain ⟨x', y', rfl, hx, hy⟩ := ARel.inv2 ha
      rcases tok_run hX hw (VL.cons hx (VL.cons hy .nil)) h with ⟨rfl, v', hr, hv⟩ | h
      · exact Ans.next hw ⟨rfl, v', hr tys ty, hv⟩
      · exact Ans.next hw (maxmin_does (tys := tys) (ty := ty) (mx := true) ha rfl h)
    · exact (Run.fail.1 h).elim
  · split at h
    · rename_i x y ex
      replace h := Run.aVal h
      obtain ⟨v, rfl, h⟩ := h
      obtain rfl : args = #[x, y] := by cases args; simp_all
      obtain ⟨x', y', rfl, hx, hy⟩ := ARel.inv2 ha
      rcases tok_run hX hw (VL.cons hx (VL.cons hy .nil)) h with ⟨rfl, v', hr, hv⟩ | h
      · exact Ans.next hw ⟨rfl, v', hr tys ty, hv⟩
      · exact Ans.next hw (maxmin_does (tys := tys) (ty := ty) (mx := false) ha rfl h)
    · exact (Run.fail.1 h).elim
  · replace h := Run.bindOpt h
    obtain ⟨t, e1, h⟩ := h
    replace h := Run.bindOpt h
    obtain ⟨m, e2, h⟩ := h
    replace h := Run.bindOpt h
    obtain ⟨k, e3, h⟩ := h
    replace h := Run.aVal h
    obtain ⟨v, rfl, h⟩ := h
    obtain ⟨m', e2', hm⟩ := ha.get? e2
    obtain ⟨k', e3', hk⟩ := ha.get? e3
    obtain ⟨rfl, w', hr, hp⟩ := delete_does (P := P) (ty := ty) ok hw e1 e2' e3' hm hk h
    have hv : VRel ι (.tuple #[]) (.tuple #[]) := .tuple rfl fun i hi => absurd hi (by simp)
    exact Does.next ⟨ι, w', _, hr, hp, hv⟩
  · obtain ⟨rfl, rfl⟩ := Run.pure.1 h
    exact NDoes.now hw .recover
  · replace h := Run.bindGuard h
    obtain ⟨g, h⟩ := h
    replace h := Run.aVal h
    obtain ⟨v, rfl, h⟩ := h
    exact Ans.next hw (sliceData_does hw ha (of_decide_eq_true g) h)
  · replace h := Run.bindGuard h
    obtain ⟨g, h⟩ := h
    replace h := Run.aVal h
    obtain ⟨v, rfl, h⟩ := h
    obtain ⟨g1, g2⟩ := of_decide_eq_true g
    exact (unsafeString_does ok hw ha g1 g2 h).next
  · exact (Run.fail.1 h).elim
set_option maxHeartbeats 1000000 in
theorem exec_does (ok : E.Ok P) (hX : X.Ok E P B) (hw : WRel E.G B ι st w) (hfree : Free ι st.next st'.next) {ρ ρ' : Operand → Value} (hρ : ∀ x, VRel ι (ρ x) (ρ' x)) {o : Oper} {n : ANext} (h : Run (aExec E X ρ o) st n st') :
    NDoes P E B ι st w st' (execOp ρ' o) n := by
  obtain ⟨dst, op, type, pos, after, guard⟩ := o
  unfold aExec at h
  dsimp only at h
  split at h
  · obtain ⟨rfl, rfl⟩ := Run.pure.1 h
    exact NDoes.now hw (.value (hρ _))
  · obtain ⟨rfl, rfl⟩ := Run.pure.1 h
    exact NDoes.now hw (.value (hρ _))
  · rename_i c a b
    have hc := hρ c
    split at h
    · rename_i e
      obtain ⟨rfl, rfl⟩ := Run.pure.1 h
      rw [e] at hc
      obtain ⟨z, hz⟩ : ∃ z, ρ' c = z := ⟨_, rfl⟩
      rw [hz] at hc
      cases hc
      refine NDoes.now hw ?_
      have : (execOp ρ' ⟨dst, .pick c a b, type, pos, after, guard⟩).run P w = .ok (.value (ρ' a)) w := by
        simp only [execOp, hz, asBool, Sem.run_bind, Sem.run_pure, Result.andThen_ok, if_true]
      rw [this]
      exact .value (hρ _)
    · rename_i e
      obtain ⟨rfl, rfl⟩ := Run.pure.1 h
      rw [e] at hc
      obtain ⟨z, hz⟩ : ∃ z, ρ' c = z := ⟨_, rfl⟩
      rw [hz] at hc
      cases hc
      refine NDoes.now hw ?_
      have : (execOp ρ' ⟨dst, .pick c a b, type, pos, after, guard⟩).run P w = .ok (.value (ρ' b)) w := by
        simp only [execOp, hz, asBool, Sem.run_bind, Sem.run_pure, Result.andThen_ok, Bool.false_eq_true, if_false]
      rw [this]
      exact .value (hρ _)
    · exact (Run.fail.1 h).elim
  · replace h := Run.aVal h
    obtain ⟨v, rfl, h⟩ := h
    exact (alloc_does ok hw hfree h).next
  · replace h := Run.aVal h
    obtain ⟨v, rfl, h⟩ := h
    exact (box_does (E := E) hw (hρ _) hfree h).next
  · replace h := Run.aValOpt h
    obtain ⟨v, rfl, h, rfl⟩ := h
    exact Ans.next hw ⟨rfl, build_run ok (parts_rel hρ _) h⟩
  · replace h := Run.aVal h
    obtain ⟨v, rfl, h⟩ := h
    exact (buildSlice_does ok hw (parts_rel hρ _) hfree h).next
  · replace h := Run.aVal h
    obtain ⟨v, rfl, h⟩ := h
    rcases tok_run hX hw (VL.cons (hρ _) .nil) h with ⟨rfl, v', hr, hv⟩ | h
    · exact Ans.next hw ⟨rfl, v', hr, hv⟩
    · exact Ans.next hw (load_does ok hw (hρ _) h)
  · replace h := Run.aUnit h
    obtain ⟨rfl, h⟩ := h
    exact Post.next (store_does ok hw (hρ _) (hρ _) h)
  · rename_i x
    have hx := hρ x
    obtain ⟨z, hz⟩ : ∃ z, ρ' x = z := ⟨_, rfl⟩
    have he : execOp ρ' ⟨dst, .nilCheck x, type, pos, after, guard⟩ = execOp (fun _ => z) ⟨dst, .nilCheck x, type, pos, after, guard⟩ := by simp only [execOp, hz]
    rw [hz] at hx
    rw [he]
    split at h
    · rename_i a e
      obtain ⟨rfl, rfl⟩ := Run.pure.1 h
      rw [e] at hx
      obtain ⟨r, rfl, hr⟩ := ptr_inv hx
      exact NDoes.now hw (.value hx)
    · rename_i t v e
      obtain ⟨rfl, rfl⟩ := Run.pure.1 h
      rw [e] at hx
      cases hx with
      | iface t hv => exact NDoes.now hw (.value (.iface t hv))
    · rename_i f a b e
      obtain ⟨rfl, rfl⟩ := Run.pure.1 h
      rw [e] at hx
      cases hx with
      | func hf hx hc h1 h2 =>
      cases hf
      exact NDoes.now hw (.value (.func (.func _) hx hc h1 h2))
    · exact (Run.fail.1 h).elim
  · replace h := Run.aVal h
    obtain ⟨v, rfl, h⟩ := h
    rcases tok_run hX hw (VL.cons (hρ _) (.cons (hρ _) .nil)) h with ⟨rfl, v', hr, hv⟩ | h
    · exact Ans.next hw ⟨rfl, v', hr _ _, hv⟩
    · exact Ans.next hw (bin_does (yt := 0) ok hw (hρ _) (hρ _) h)
  · replace h := Run.aVal h
    obtain ⟨v, rfl, h⟩ := h
    rcases tok_run hX hw (VL.cons (hρ _) .nil) h with ⟨rfl, v', hr, hv⟩ | h
    · exact Ans.next hw ⟨rfl, v', hr, hv⟩
    · obtain ⟨h2, rfl⟩ := Run.ofOption.1 h
      exact Ans.next hw ⟨rfl, un_run (hρ _) h2⟩
  · replace h := Run.aVal h
    obtain ⟨v, rfl, h⟩ := h
    rcases tok_run hX hw (VL.cons (hρ _) .nil) h with ⟨rfl, v', hr, hv⟩ | h
    · exact Ans.next hw ⟨rfl, v', hr, hv⟩
    · exact (convert2_does ok hw (hρ _) hfree h).next
  · replace h := Run.aVal h
    obtain ⟨v, rfl, h⟩ := h
    exact Ans.next hw (makeIface_does ok (hρ _) h)
  · split at h
    · obtain ⟨rfl, rfl⟩ := Run.pure.1 h
      rename_i first cap fn0 f
      have h1 := ARel.map (ι := ι) first ρ ρ' hρ
      have h2 := ARel.map (ι := ι) cap ρ ρ' hρ
      exact NDoes.now hw (.value (.func (.func _) h1.1 h2.1 h1.2 h2.2))
    · exact (Run.fail.1 h).elim
  · replace h := Run.aVal h
    obtain ⟨v, rfl, h⟩ := h
    exact (makeMap_does ok hw (opt_rel hρ _) hfree h).next
  · replace h := Run.aVal h
    obtain ⟨v, rfl, h⟩ := h
    exact (makeSlice_does ok hw (hρ _) (hρ _) hfree h).next
  · rename_i x lo hi mx
    split at h
    · replace h := Run.aVal h
      obtain ⟨v, rfl, h⟩ := h
      rcases tok_run hX hw (VL.cons (hρ _) .nil) h with ⟨rfl, v', hr, hv⟩ | h
      · exact Ans.next hw ⟨rfl, v', hr, hv⟩
      · obtain ⟨h2, rfl⟩ := Run.ofOption.1 h
        exact Ans.next hw ⟨rfl, slice_run ok (hρ x) (opt_rel hρ none) (opt_rel hρ none) (opt_rel hρ none) h2⟩
    · rename_i y
      replace h := Run.aVal h
      obtain ⟨v, rfl, h⟩ := h
      rcases tok_run hX hw (VL.cons (hρ _) (.cons (hρ _) .nil)) h with ⟨rfl, v', hr, hv⟩ | h
      · exact Ans.next hw ⟨rfl, v', hr, hv⟩
      · obtain ⟨h2, rfl⟩ := Run.ofOption.1 h
        exact Ans.next hw ⟨rfl, slice_run ok (hρ x) (opt_rel hρ (some y)) (opt_rel hρ none) (opt_rel hρ none) h2⟩
    · rename_i y
      replace h := Run.aVal h
      obtain ⟨v, rfl, h⟩ := h
      rcases tok_run hX hw (VL.cons (hρ _) (.cons (hρ _) .nil)) h with ⟨rfl, v', hr, hv⟩ | h
      · exact Ans.next hw ⟨rfl, v', hr, hv⟩
      · obtain ⟨h2, rfl⟩ := Run.ofOption.1 h
        exact Ans.next hw ⟨rfl, slice_run ok (hρ x) (opt_rel hρ none) (opt_rel hρ (some y)) (opt_rel hρ none) h2⟩
    · rename_i y z
      replace h := Run.aVal h
      obtain ⟨v, rfl, h⟩ := h
      rcases tok_run hX hw (VL.cons (hρ _) (.cons (hρ _) (.cons (hρ _) .nil))) h with ⟨rfl, v', hr, hv⟩ | h
      · exact Ans.next hw ⟨rfl, v', hr, hv⟩
      · obtain ⟨h2, rfl⟩ := Run.ofOption.1 h
        exact Ans.next hw ⟨rfl, slice_run ok (hρ x) (opt_rel hρ (some y)) (opt_rel hρ (some z)) (opt_rel hρ none) h2⟩
    · replace h := Run.aValOpt h
      obtain ⟨v, rfl, h, rfl⟩ := h
      exact Ans.next hw ⟨rfl, slice_run ok (hρ _) (opt_rel hρ _) (opt_rel hρ _) (opt_rel hρ _) h⟩
  · replace h := Run.aVal h
    obtain ⟨v, rfl, h⟩ := h
    rcases tok_run hX hw (VL.cons (hρ _) .nil) h with ⟨rfl, v', hr, hv⟩ | h
    · exact Ans.next hw ⟨rfl, v', hr, hv⟩
    · obtain ⟨h2, rfl⟩ := Run.ofOption.1 h
      exact Ans.next hw ⟨rfl, fieldAddr_run ok (hρ _) h2⟩
  · replace h := Run.aValOpt h
    obtain ⟨v, rfl, h, rfl⟩ := h
    exact Ans.next hw ⟨rfl, field_run ok (hρ _) h⟩
  · replace h := Run.aVal h
    obtain ⟨v, rfl, h⟩ := h
    rcases tok_run hX hw (VL.cons (hρ _) (.cons (hρ _) .nil)) h with ⟨rfl, v', hr, hv⟩ | h
    · exact Ans.next hw ⟨rfl, v', hr, hv⟩
    · obtain ⟨h2, rfl⟩ := Run.ofOption.1 h
      exact Ans.next hw ⟨rfl, indexAddr_run ok (hρ _) (hρ _) h2⟩
  · replace h := Run.aVal h
    obtain ⟨v, rfl, h⟩ := h
    rcases tok_run hX hw (VL.cons (hρ _) (.cons (hρ _) .nil)) h with ⟨rfl, v', hr, hv⟩ | h
    · exact Ans.next hw ⟨rfl, v', hr, hv⟩
    · obtain ⟨h2, rfl⟩ := Run.ofOption.1 h
      exact Ans.next hw ⟨rfl, index_run ok (hρ _) (hρ _) h2⟩
  · replace h := Run.aVal h
    obtain ⟨v, rfl, h⟩ := h
    exact Ans.next hw (lookup2_does ok hw (hρ _) (hρ _) h)
  · replace h := Run.aUnit h
    obtain ⟨rfl, h⟩ := h
    exact Post.next (mapUpdate_does ok hw (hρ _) (hρ _) (hρ _) h)
  · replace h := Run.aUnit h
    obtain ⟨rfl, h⟩ := h
    exact Post.next (mapUpdate_does ok hw (hρ _) (hρ _) (hρ _) h)
  · replace h := Run.aVal h
    obtain ⟨v, rfl, h⟩ := h
    exact (range_does ok hw (hρ _) hfree h).next
  · replace h := Run.aVal h
    obtain ⟨v, rfl, h⟩ := h
    exact (next_does ok hw (hρ _) h).next
  · replace h := Run.aVal h
    obtain ⟨v, rfl, h⟩ := h
    exact Ans.next hw (entry_does hw (hρ _) h)
  · replace h := Run.aVal h
    obtain ⟨v, rfl, h⟩ := h
    exact Ans.next hw (assert_does ok (hρ _) h)
  · rename_i x i
    have hx := hρ x
    split at h
    · rename_i vs e
      replace h := Run.aValOpt h
      obtain ⟨v, rfl, h, rfl⟩ := h
      rw [e] at hx
      obtain ⟨z, hz⟩ : ∃ z, ρ' x = z := ⟨_, rfl⟩
      rw [hz] at hx
      cases hx with
      | tuple hc hr =>
      rename_i c'
      obtain ⟨v', e', hv⟩ := ARel.get? (c' := c') ⟨hc, hr⟩ h
      refine Ans.next hw ⟨rfl, v', ?_, hv⟩
      simp only [hz, Instr.extract, e', Sem.run_pure]
    · exact (Run.fail.1 h).elim
  · rename_i c
    split at h
    · rename_i b hb
      have hargs := ARel.map (ι := ι) c.args ρ ρ' hρ
      have := builtin_does (X := X) (ty := type) (cs := c.args.map fun | .const _ => true | _ => false) ok hX hw hfree hargs h
      obtain ⟨ι', w', hp, hn⟩ := this
      refine ⟨ι', w', hp, ?_⟩
      have e : (execOp ρ' ⟨dst, .call c, type, pos, after, guard⟩).run P w = (builtin b c.argTypes type (c.args.map fun | .const _ => true | _ => false) (c.args.map ρ')).run P w := by
        simp only [execOp, resolve, hb, Sem.run_bind, Sem.run_pure, Result.andThen_ok, invoke]
        rfl
      rw [e]
      exact hn
    · replace h := Run.bind.1 h
      obtain ⟨d, st1, h1, h⟩ := h
      obtain ⟨rfl, fn, fn', cap, cap', args, args', rfl, hr, hfn, hc, ha⟩ := resolve_run (P := P) (w := w) (ty := type) hρ h1
      obtain ⟨ι', w', hp, hn⟩ := invoke_does (P := P) ok hX hw hfree hfn hc ha h
      refine ⟨ι', w', hp, ?_⟩
      have e : (execOp ρ' ⟨dst, .call c, type, pos, after, guard⟩).run P w = (invoke (.fn fn' cap') args').run P w := by
        simp only [execOp, Sem.run_bind, hr, Result.andThen_ok]
      rw [e]
      exact hn
  · rename_i c
    replace h := Run.bind.1 h
    obtain ⟨d, st1, h1, h⟩ := h
    obtain ⟨rfl, fn, fn', cap, cap', args, args', rfl, hr, hfn, hc, ha⟩ := resolve_run (P := P) (w := w) (ty := type) hρ h1
    obtain ⟨rfl, rfl⟩ := Run.pure.1 h
    refine NDoes.now hw ?_
    have e : (execOp ρ' ⟨dst, .defer c, type, pos, after, guard⟩).run P w = .ok (.defer { target := .fn fn' cap', args := args' }) w := by
      simp only [execOp, Sem.run_bind, hr, Result.andThen_ok, Sem.run_pure]
    rw [e]
    exact .defer ⟨.fn hfn hc, ha⟩
  · rename_i x
    have hx := hρ x
    split at h
    · rename_i t v e
      obtain ⟨rfl, rfl⟩ := Run.pure.1 h
      rw [e] at hx
      obtain ⟨z, hz⟩ : ∃ z, ρ' x = z := ⟨_, rfl⟩
      rw [hz] at hx
      cases hx with
      | iface t hv =>
      rename_i v'
      refine NDoes.now hw ?_
      have e : (execOp ρ' ⟨dst, .panic x, type, pos, after, guard⟩).run P w = .halt (.panic (.iface t v')) w := by
        simp only [execOp, hz, Instr.panic, goPanic]
        rfl
      rw [e]
      exact .panic (.iface t hv)
    · exact (Run.fail.1 h).elim
  · exact (Run.fail.1 h).elim
end
end Go.Proofs.YtmmfpkkkpeapeaaGreatDoor.Ev
