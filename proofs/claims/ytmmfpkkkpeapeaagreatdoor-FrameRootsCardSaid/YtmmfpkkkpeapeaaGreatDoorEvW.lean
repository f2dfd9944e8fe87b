/- Tables of what is known at tokens: facts on operations, on equality, on calls; each held against what the tokens stand for. No condition. -/
import Derived.Test.YtmmfpkkkpeapeaaGreatDoorEvZ
set_option linter.unusedSectionVars false
set_option linter.unusedVariables false
set_option linter.unusedSimpArgs false
namespace Go.Proofs.YtmmfpkkkpeapeaaGreatDoor.Ev
open Go Go.RowKit

/-- The tokens stand for these. -/
@[reducible] def symOf (l : List Value) (h : (l.all fun v => v.oneCell') = true) : Sym where
  val i := l.getD i (.bool false)
  one i := by
    rw [List.getD_eq_getElem?_getD]
    cases e : l[i]? with
    | none => rfl
    | some v => exact List.all_eq_true.1 h v (List.mem_of_getElem? e)
  obj _ _ := False
/-- What a value stands for. -/
def den1 (l : List Value) : Value → Value
  | .complex .f64 (i + 1) 0 => l.getD i (.bool false)
  | v => v
def den2 (l : List Value) : Value → Value
  | .agg c => .agg (c.toList.map (den1 l)).toArray
  | v => den1 l v
def den (l : List Value) : Value → Value
  | .tuple c => .tuple (c.toList.map (den2 l)).toArray
  | v => den2 l v
/-- A scalar or a token. -/
def simV : Value → Bool
  | .bool _ => true
  | .int _ _ => true
  | .string _ => true
  | .complex .f64 (_ + 1) 0 => true
  | _ => false
def sim2 : Value → Bool
  | .agg c => c.toList.all simV
  | v => simV v
def sim3 : Value → Bool
  | .tuple c => c.toList.all sim2
  | v => sim2 v
def sameV : Value → Value → Bool
  | .bool a, .bool b => a == b
  | .int k a, .int k' b => decide (k = k') && decide (a = b)
  | .string a, .string b => decide (a.data.toList = b.data.toList)
  | .complex .f64 (i + 1) 0, .complex .f64 (j + 1) 0 => decide (i = j)
  | _, _ => false
theorem sameV_eq {a b : Value} (h : sameV a b = true) : a = b := by
  unfold sameV at h
  split at h
  · rw [beq_iff_eq] at h; rw [h]
  · simp only [Bool.and_eq_true, decide_eq_true_eq] at h; rw [h.1, h.2]
  · rename_i x y
    have := of_decide_eq_true h
    have h2 : x = y := by
      cases x; cases y
      simp only [Array.toList_inj] at this
      rw [this]
    rw [h2]
  · rw [of_decide_eq_true h]
  · cases h
theorem sameV_sim {a b : Value} (h : sameV a b = true) : simV a = true := by
  unfold sameV at h
  split at h <;> first | rfl | cases h
def sameL : List Value → List Value → Bool
  | [], [] => true
  | a :: l, b :: m => sameV a b && sameL l m
  | _, _ => false
theorem sameL_eq : ∀ {l m : List Value}, sameL l m = true → l = m ∧ l.all simV = true
  | [], [], _ => ⟨rfl, rfl⟩
  | a :: l, b :: m, h => by
    simp only [sameL, Bool.and_eq_true] at h
    obtain ⟨e, f⟩ := sameL_eq h.2
    exact ⟨by rw [sameV_eq h.1, e], by simp [f, sameV_sim h.1]⟩
  | [], _ :: _, h => by cases h
  | _ :: _, [], h => by cases h
/-- Arguments: scalars, tokens, structs of such. -/
def same2 : Value → Value → Bool
  | .agg a, .agg b => sameL a.toList b.toList
  | a, b => sameV a b
theorem same2_eq {a b : Value} (h : same2 a b = true) : a = b ∧ sim2 a = true := by
  unfold same2 at h
  split at h
  · rename_i x y
    obtain ⟨e, f⟩ := sameL_eq h
    have : x = y := Array.toList_inj.1 e
    refine ⟨by rw [this], ?_⟩
    exact f
  · have := sameV_sim h
    refine ⟨sameV_eq h, ?_⟩
    unfold simV at this
    split at this <;> first | rfl | cases this
def same2L : List Value → List Value → Bool
  | [], [] => true
  | a :: l, b :: m => same2 a b && same2L l m
  | _, _ => false
theorem same2L_eq : ∀ {l m : List Value}, same2L l m = true → l = m ∧ l.all sim2 = true
  | [], [], _ => ⟨rfl, rfl⟩
  | a :: l, b :: m, h => by
    simp only [same2L, Bool.and_eq_true] at h
    obtain ⟨e, f⟩ := same2L_eq h.2
    obtain ⟨e1, f1⟩ := same2_eq h.1
    exact ⟨by rw [e1, e], by simp [f, f1]⟩
  | [], _ :: _, h => by cases h
  | _ :: _, [], h => by cases h
def FK.beq : FK → FK → Bool
  | .bin a t, .bin b u => decide (a = b) && decide (t = u)
  | .un a, .un b => decide (a = b)
  | .conv s d, .conv s' d' => decide (s = s') && decide (d = d')
  | .slice t a b, .slice t' a' b' => decide (t = t') && a == a' && b == b'
  | .index t, .index u => decide (t = u)
  | .len t, .len u => decide (t = u)
  | .load t, .load u => decide (t = u)
  | .fieldAddr s f, .fieldAddr s' f' => decide (s = s') && decide (f = f')
  | .indexAddr t, .indexAddr u => decide (t = u)
  | .mm a, .mm b => a == b
  | _, _ => false
theorem FK.beq_eq {a b : FK} (h : FK.beq a b = true) : a = b := by
  unfold FK.beq at h
  split at h <;> first | (simp only [Bool.and_eq_true, decide_eq_true_eq, beq_iff_eq] at h; simp_all; done) | cases h
abbrev Fact := FK × List Value × Value
abbrev EqF := Nat × Value × Value × Bool
abbrev CallF := Nat × List Value × Value
def factT (l : List Fact) (k : FK) (vs : List Value) : Option Value := (l.find? fun r => FK.beq r.1 k && sameL r.2.1 vs).map (·.2.2)
/-- ks: which kind (1 a truth, 2 a number, 3 a text, 0 another) each token has. -/
def eqTT (ks : List Nat) (l : List EqF) (κ : Nat) (x y : Value) : Option Bool :=
  match x, y with
  | .complex .f64 (i + 1) 0, .complex .f64 (j + 1) 0 => if decide (i = j) && (decide (ks.getD i 0 = κ) && decide (κ ≠ 0)) then some true else (l.find? fun r => decide (r.1 = κ) && (sameV r.2.1 x && sameV r.2.2.1 y)).map (·.2.2.2)
  | _, _ => (l.find? fun r => decide (r.1 = κ) && (sameV r.2.1 x && sameV r.2.2.1 y)).map (·.2.2.2)
def callT (l : List CallF) (f : Nat) (args : Array Value) : Option Value := (l.find? fun r => decide (r.1 = f) && same2L r.2.1 args.toList).map (·.2.2)

/-! ### pure operations at what the tokens stand for -/
def pureF (P : Program) : FK → List Value → Option Value
  | .bin op _, [.int k a, .int k' b] => match op with
    | .shl => shiftOp .shl k a b
    | .shr => shiftOp .shr k a b
    | op => if k = k' then intOp op k a b else none
  | .bin op _, [.string a, .string b] => strOp op a b
  | .bin .eql t, [.bool a, .bool b] => match P.underlying t with
    | some .bool => some (.bool (a == b))
    | _ => none
  | .bin .neq t, [.bool a, .bool b] => match P.underlying t with
    | some .bool => some (.bool (!(a == b)))
    | _ => none
  | .un op, [x] => aUn op x
  | .conv s d, [.int _ n] => match P.underlying s, P.underlying d with
    | some _, some (.int k) => some (.int k (wrapF k n))
    | _, _ => none
  | .len t, [.string s] => match P.underlying t with
    | some .string => some (.int .i64 s.data.size)
    | _ => none
  | .mm mx, [.int k a, .int k' b] => match decide (k = k') with
    | true => some (.int k (match mx with
      | true => (if b > a then b else a)
      | false => (if b < a then b else a)))
    | false => none
  | _, _ => none
section
variable [Sym]
theorem guard_pure {P : Program} {w : World} {op : BinOp} {t : TypeId} {xo yo : Operand} {x y : Value} (h : simV x = true) (hx : ∀ k a b, x ≠ .complex k a b) : (eqGuard op t xo yo x y).run P w = .ok () w := by
  cases x <;> first
    | (simp [simV] at h; done)
    | (exact absurd rfl (hx _ _ _))
    | (cases op <;> cases y <;> rfl)
theorem pureF_runs {P : Program} {k : FK} {vs : List Value} {v : Value} (h : pureF P k vs = some v) (w : World) : FK.Runs P w v k vs := by
  unfold pureF at h
  split at h
  · rename_i op t k a k' b
    intro xo yo
    have hg := guard_pure (P := P) (w := w) (op := op) (t := t) (xo := xo) (yo := yo) (x := .int k a) (y := .int k' b) rfl (fun _ _ _ e => by cases e)
    simp only [Sem.run_bind, hg, Result.andThen_ok]
    split at h
    · exact (shiftOp_run P w .shl k k' a b t v h).1
    · exact (shiftOp_run P w .shr k k' a b t v h).1
    · split at h
      · rename_i e
        subst e
        exact (intOp_run P w op k a b t v h).1
      · cases h
  · rename_i op t a b
    intro xo yo
    have hg := guard_pure (P := P) (w := w) (op := op) (t := t) (xo := xo) (yo := yo) (x := .string a) (y := .string b) rfl (fun _ _ _ e => by cases e)
    simp only [Sem.run_bind, hg, Result.andThen_ok]
    exact (strOp_run P w op a b t v h).1
  · rename_i t a b
    split at h
    · rename_i hu
      cases h
      intro xo yo
      have h1 : ∀ n, (Op.equalIn (n + 1) t (.bool a) (.bool b)).run P w = .ok (a == b) w := fun n => by simp [Op.equalIn, run_underlying hu]
      have h2 : (Op.equal t (.bool a) (.bool b)).run P w = .ok (a == b) w := h1 9999
      have e1 : (binOp .eql t (.bool a) (.bool b)).run P w = (do pure (.bool (← Op.equal t (.bool a) (.bool b))) : Sem Value).run P w := rfl
      have hg := guard_pure (P := P) (w := w) (op := .eql) (t := t) (xo := xo) (yo := yo) (x := .bool a) (y := .bool b) rfl (fun _ _ _ e => by cases e)
      simp only [Sem.run_bind, hg, Result.andThen_ok, e1, h2, Sem.run_pure]
    · cases h
  · rename_i t a b
    split at h
    · rename_i hu
      cases h
      intro xo yo
      have h1 : ∀ n, (Op.equalIn (n + 1) t (.bool a) (.bool b)).run P w = .ok (a == b) w := fun n => by simp [Op.equalIn, run_underlying hu]
      have h2 : (Op.equal t (.bool a) (.bool b)).run P w = .ok (a == b) w := h1 9999
      have e1 : (binOp .neq t (.bool a) (.bool b)).run P w = (do pure (.bool (!(← Op.equal t (.bool a) (.bool b)))) : Sem Value).run P w := rfl
      have hg := guard_pure (P := P) (w := w) (op := .neq) (t := t) (xo := xo) (yo := yo) (x := .bool a) (y := .bool b) rfl (fun _ _ _ e => by cases e)
      simp only [Sem.run_bind, hg, Result.andThen_ok, e1, h2, Sem.run_pure]
    · cases h
  · rename_i op x
    show (Op.unary op x).run P w = .ok v w
    unfold aUn at h
    split at h
    · rename_i k n
      have e : Op.unary .neg (.int k n) = binOp .sub 0 (.int k 0) (.int k n) := by simp [Op.unary, binOp]
      rw [e]
      exact (intOp_run P w .sub k 0 n 0 v h).1
    · rename_i k n
      have e : Op.unary .xor (.int k n) = binOp .xor 0 (.int k (if k.signed then -1 else k.max)) (.int k n) := by simp [Op.unary, binOp]
      rw [e]
      exact (intOp_run P w .xor k _ n 0 v h).1
    · cases h
      rfl
    · cases h
  · rename_i s d k n
    split at h
    · rename_i ts k2 e1 e2
      cases h
      show (convert s d (.int k n)).run P w = _
      have hk : P.intKind d = k2 := by simp [Program.intKind, e2]
      have := run_convert_int (P := P) w s d k n (by rw [e1]; rfl) (by rw [e2, hk])
      rw [hk] at this
      rw [this, wrapF_eq]
    · cases h
  · rename_i t s
    split at h
    · rename_i hu
      cases h
      intro ty
      simp [Builtin.len_, underlying, hu]
      rfl
    · cases h
  · rename_i mx k a k' b
    split at h
    · rename_i hk
      have hk := of_decide_eq_true hk
      subst hk
      cases h
      intro tys ty
      cases mx
      · simp only [Bool.false_eq_true, if_false, Builtin.min_]; rfl
      · simp only [if_true, Builtin.max_]; rfl
    · cases h
  · cases h
end
theorem den2_den1 {l : List Value} {v : Value} (h : simV v = true) : den2 l v = den1 l v := by
  unfold simV at h
  split at h <;> first | rfl | cases h
theorem den_den2 {l : List Value} {v : Value} (h : sim2 v = true) : den l v = den2 l v := by
  unfold sim2 at h
  split at h
  · rfl
  · unfold simV at h
    split at h <;> first | rfl | cases h
section
variable {l : List Value} {hl : (l.all fun v => v.oneCell') = true} {ι : Ren}
theorem den1_eq {v x : Value} (h : simV v = true) (k : @VRel (symOf l hl) ι v x) : x = den1 l v := by
  unfold simV at h
  split at h
  · cases k; rfl
  · cases k; rfl
  · cases k; rfl
  · cases k; rfl
  · cases h
theorem den1_rel {v : Value} (h : simV v = true) : @VRel (symOf l hl) ι v (den1 l v) := by
  unfold simV at h
  split at h
  · exact @VRel.bool (symOf l hl) ι _
  · exact @VRel.int (symOf l hl) ι _ _
  · exact @VRel.str (symOf l hl) ι _
  · exact @VRel.tok (symOf l hl) ι _
  · cases h
theorem den_arr {c : Array Value} {p : Value → Bool} {g : Value → Value} (hg : ∀ v, p v = true → @VRel (symOf l hl) ι v (g v)) (h : c.all p = true) : @ARel (symOf l hl) ι c (c.toList.map g).toArray := by
  refine ⟨by simp, fun i hi => ?_⟩
  rw [Array.all_eq_true] at h
  have h1 := hg _ (h i hi)
  rw [Array.getD_eq_getD_getElem?, Array.getD_eq_getD_getElem?, Array.getElem?_eq_getElem hi]
  simpa [hi] using h1
theorem arr_den {c c' : Array Value} {p : Value → Bool} {g : Value → Value} (hg : ∀ v x, p v = true → @VRel (symOf l hl) ι v x → x = g v) (h : c.all p = true) (k : @ARel (symOf l hl) ι c c') : c' = (c.toList.map g).toArray := by
  rw [Array.all_eq_true] at h
  apply Array.ext (by simpa using k.1)
  intro i h1 h2
  have hi : i < c.size := by simpa using h2
  have := k.2 i hi
  rw [Array.getD_eq_getD_getElem?, Array.getD_eq_getD_getElem?, Array.getElem?_eq_getElem hi, Array.getElem?_eq_getElem h1] at this
  simpa using hg _ _ (h i hi) this
theorem den2_rel {v : Value} (h : sim2 v = true) : @VRel (symOf l hl) ι v (den2 l v) := by
  unfold sim2 at h
  split at h
  · have := den_arr (ι := ι) (hl := hl) (fun v hv => den1_rel hv) (by rw [← Array.all_toList]; exact h)
    exact @VRel.agg (symOf l hl) ι _ _ this.1 this.2
  · rw [den2_den1 h]; exact den1_rel h
theorem den2_eq {v x : Value} (h : sim2 v = true) (k : @VRel (symOf l hl) ι v x) : x = den2 l v := by
  unfold sim2 at h
  split at h
  · cases k with
    | agg hc hr => rw [arr_den (p := simV) (g := den1 l) (fun v x hv k => den1_eq hv k) (by rw [← Array.all_toList]; exact h) ⟨hc, hr⟩]; rfl
  · rw [den2_den1 h]; exact den1_eq h k
theorem den_rel {v : Value} (h : sim3 v = true) : @VRel (symOf l hl) ι v (den l v) := by
  unfold sim3 at h
  split at h
  · have := den_arr (ι := ι) (hl := hl) (p := sim2) (g := den2 l) (fun v hv => den2_rel hv) (by rw [← Array.all_toList]; exact h)
    exact @VRel.tuple (symOf l hl) ι _ _ this.1 this.2
  · rw [den_den2 h]; exact den2_rel h
theorem den_eq {v x : Value} (h : sim3 v = true) (k : @VRel (symOf l hl) ι v x) : x = den l v := by
  unfold sim3 at h
  split at h
  · cases k with
    | tuple hc hr => rw [arr_den (p := sim2) (g := den2 l) (fun v x hv k => den2_eq hv k) (by rw [← Array.all_toList]; exact h) ⟨hc, hr⟩]; rfl
  · rw [den_den2 h]; exact den2_eq h k
end
/-! ### the tables are so -/
def FactsOk (P : Program) (l : List Value) : List Fact → Prop
  | [] => True
  | r :: rs => (simV r.2.2 = true ∧ pureF P r.1 (r.2.1.map (den1 l)) = some (den1 l r.2.2)) ∧ FactsOk P l rs
def EqsOk (l : List Value) : List EqF → Prop
  | [] => True
  | r :: rs => eqScal r.1 (den1 l r.2.1) (den1 l r.2.2.1) = some r.2.2.2 ∧ EqsOk l rs
def CallsOk (P : Program) (J : World → Prop) (l : List Value) : List CallF → Prop
  | [] => True
  | r :: rs => (sim3 r.2.2 = true ∧ ∀ w, J w → Calls P r.1 (r.2.1.map (den2 l)).toArray w fun e w' => e = .returned (den l r.2.2) ∧ Below w.heap.size w w') ∧ CallsOk P J l rs
/-- What is known of memory that nothing turns. -/
def MemsOk (P : Program) (M : World → Prop) (l : List Value) : List Fact → Prop
  | [] => True
  | r :: rs => (sim2 r.2.2 = true ∧ ∀ w, M w → FK.Runs P w (den2 l r.2.2) r.1 (r.2.1.map (den1 l))) ∧ MemsOk P M l rs
theorem MemsOk.mem {P : Program} {M : World → Prop} {l : List Value} : ∀ {rs : List Fact}, MemsOk P M l rs → ∀ r ∈ rs, sim2 r.2.2 = true ∧ ∀ w, M w → FK.Runs P w (den2 l r.2.2) r.1 (r.2.1.map (den1 l))
  | [], _, r, h => by cases h
  | x :: rs, hx, r, h => by
    rcases List.mem_cons.1 h with rfl | h
    · exact hx.1
    · exact MemsOk.mem hx.2 r h
def kindB : Nat → Value → Bool
  | 1, .bool _ => true
  | 2, .int _ _ => true
  | 3, .string _ => true
  | _, _ => false
def KindsB : List Value → List Nat → Bool
  | _, [] => true
  | v :: vs, k :: ks => (k == 0 || kindB k v) && KindsB vs ks
  | [], k :: ks => k == 0 && KindsB [] ks
theorem kindB_eq {κ : Nat} {v : Value} (h : kindB κ v = true) : eqScal κ v v = some true := by
  unfold kindB at h
  split at h <;> first | (cases h; done) | simp [eqScal]
theorem kindsB_get : ∀ (l : List Value) (ks : List Nat), KindsB l ks = true → ∀ i, ks.getD i 0 ≠ 0 → kindB (ks.getD i 0) (l.getD i (.bool false)) = true
  | _, [], _, i, h => by simp at h
  | v :: vs, k :: ks, h, i, hi => by
    simp only [KindsB, Bool.and_eq_true, Bool.or_eq_true, beq_iff_eq] at h
    cases i with
    | zero =>
      rcases h.1 with e | e
      · exact absurd e hi
      · exact e
    | succ i => exact kindsB_get vs ks h.2 i (by simpa using hi)
  | [], k :: ks, h, i, hi => by
    simp only [KindsB, Bool.and_eq_true, beq_iff_eq] at h
    cases i with
    | zero => exact absurd h.1 hi
    | succ i =>
      have := kindsB_get [] ks h.2 i (by simpa using hi)
      simpa using this
theorem FactsOk.mem {P : Program} {l : List Value} : ∀ {rs : List Fact}, FactsOk P l rs → ∀ r ∈ rs, simV r.2.2 = true ∧ pureF P r.1 (r.2.1.map (den1 l)) = some (den1 l r.2.2)
  | [], _, r, h => by cases h
  | x :: rs, hx, r, h => by
    rcases List.mem_cons.1 h with rfl | h
    · exact hx.1
    · exact FactsOk.mem hx.2 r h
theorem EqsOk.mem {l : List Value} : ∀ {rs : List EqF}, EqsOk l rs → ∀ r ∈ rs, eqScal r.1 (den1 l r.2.1) (den1 l r.2.2.1) = some r.2.2.2
  | [], _, r, h => by cases h
  | x :: rs, hx, r, h => by
    rcases List.mem_cons.1 h with rfl | h
    · exact hx.1
    · exact EqsOk.mem hx.2 r h
theorem CallsOk.mem {P : Program} {J : World → Prop} {l : List Value} : ∀ {rs : List CallF}, CallsOk P J l rs → ∀ r ∈ rs, sim3 r.2.2 = true ∧ ∀ w, J w → Calls P r.1 (r.2.1.map (den2 l)).toArray w fun e w' => e = .returned (den l r.2.2) ∧ Below w.heap.size w w'
  | [], _, r, h => by cases h
  | x :: rs, hx, r, h => by
    rcases List.mem_cons.1 h with rfl | h
    · exact hx.1
    · exact CallsOk.mem hx.2 r h
section
variable {l : List Value} {hl : (l.all fun v => v.oneCell') = true}
theorem vl_den {ι : Ren} : ∀ {vs vs' : List Value}, vs.all simV = true → @VL (symOf l hl) ι vs vs' → vs' = vs.map (den1 l)
  | [], vs', _, k => by cases k; rfl
  | v :: vs, vs', h, k => by
    simp only [List.all_cons, Bool.and_eq_true] at h
    cases k with
    | cons k t => rw [List.map_cons, den1_eq h.1 k, vl_den h.2 t]
theorem factT_ok {P : Program} {M : World → Prop} {rs ms : List Fact} (h : FactsOk P l rs) (h2 : MemsOk P M l ms) : ∀ k vs v, factT (rs ++ ms) k vs = some v → ∀ ι vs', @VL (symOf l hl) ι vs vs' → ∀ w, M w → ∃ v', FK.Runs P w v' k vs' ∧ @VRel (symOf l hl) ι v v' := by
  intro k vs v e ι vs' hv w hM
  unfold factT at e
  obtain ⟨r, er, rfl⟩ := Option.map_eq_some_iff.1 e
  have hp := List.find?_some er
  rw [Bool.and_eq_true] at hp
  obtain ⟨e1, e2⟩ := sameL_eq hp.2
  have ek := FK.beq_eq hp.1
  rcases List.mem_append.1 (List.mem_of_find?_eq_some er) with hmem | hmem
  · obtain ⟨g1, g2⟩ := h.mem r hmem
    rw [e1] at e2 g2
    rw [vl_den e2 hv, ← ek]
    exact ⟨_, @pureF_runs (symOf l hl) P r.1 _ _ g2 w, den1_rel g1⟩
  · obtain ⟨g1, g2⟩ := h2.mem r hmem
    have g2 := g2 w hM
    rw [e1] at e2 g2
    rw [vl_den e2 hv, ← ek]
    exact ⟨_, g2, den2_rel g1⟩
theorem eqTT_ok {ks : List Nat} {rs : List EqF} (hk : KindsB l ks = true) (h : EqsOk l rs) : ∀ κ x y b, eqTT ks rs κ x y = some b → ∀ ι x' y', @VRel (symOf l hl) ι x x' → @VRel (symOf l hl) ι y y' → eqScal κ x' y' = some b := by
  have tab : ∀ κ x y b, (rs.find? fun r => decide (r.1 = κ) && (sameV r.2.1 x && sameV r.2.2.1 y)).map (·.2.2.2) = some b → ∀ ι x' y', @VRel (symOf l hl) ι x x' → @VRel (symOf l hl) ι y y' → eqScal κ x' y' = some b := by
    intro κ x y b e ι x' y' hx hy
    obtain ⟨r, er, rfl⟩ := Option.map_eq_some_iff.1 e
    have hp := List.find?_some er
    simp only [Bool.and_eq_true, decide_eq_true_eq] at hp
    obtain ⟨p1, p2, p3⟩ := hp
    have s1 := sameV_sim p2
    have s2 := sameV_sim p3
    have h1 := h.mem r (List.mem_of_find?_eq_some er)
    rw [sameV_eq p2] at s1 h1
    rw [sameV_eq p3] at s2 h1
    rw [den1_eq s1 hx, den1_eq s2 hy, ← p1]
    exact h1
  intro κ x y b e ι x' y' hx hy
  unfold eqTT at e
  split at e
  · rename_i i j
    split at e
    · rename_i g
      simp only [Bool.and_eq_true, decide_eq_true_eq] at g
      obtain ⟨rfl, g1, g2⟩ := g
      cases e
      rw [den1_eq (v := .complex .f64 (i + 1) 0) rfl hx, den1_eq (v := .complex .f64 (i + 1) 0) rfl hy]
      have := kindB_eq (kindsB_get l ks hk i (by rw [g1]; exact g2))
      rw [g1] at this
      exact this
    · exact tab _ _ _ _ e ι x' y' hx hy
  · exact tab _ _ _ _ e ι x' y' hx hy
theorem callT_ok {P : Program} {J : World → Prop} {rs : List CallF} (h : CallsOk P J l rs) : @CfOk (symOf l hl) P J (callT rs) := by
  intro f args v e ι args' ha w hJ
  unfold callT at e
  obtain ⟨r, er, rfl⟩ := Option.map_eq_some_iff.1 e
  have hp := List.find?_some er
  simp only [Bool.and_eq_true, decide_eq_true_eq] at hp
  obtain ⟨p1, p2⟩ := hp
  obtain ⟨e1, e2⟩ := same2L_eq p2
  obtain ⟨h1, h2⟩ := h.mem r (List.mem_of_find?_eq_some er)
  refine ⟨den l r.2.2, fun ι => den_rel h1, ?_⟩
  rw [e1] at e2
  have e3 : args.all sim2 = true := by rw [← Array.all_toList]; exact e2
  have e4 := arr_den (p := sim2) (g := den2 l) (fun v x hv k => den2_eq hv k) e3 ha
  have h3 := h2 w hJ
  rw [p1, e1] at h3
  rw [e4]
  exact h3
end
/-- A call by its run, over the tables. -/
theorem calls_of_tab {P : Program} {ng nt f1 f2 : Nat} {st0 : St} (hnt : nt ≤ 16) (hnx : ng + 16 ≤ st0.next) (hm : P.follows .mixedOrders = true)
    (h1 : EscRun P f1) (h2 : IdxRun P f2)
    (M : World → Prop) (l : List Value) (ks : List Nat) (facts mems : List Fact) (eqs : List EqF) (calls : List CallF) (f : Nat) (args : List Value) (v : Value) (hl : (l.all fun v => v.oneCell') = true) (hk : KindsB l ks = true) (hfacts : FactsOk P l facts) (hmems : MemsOk P M l mems) (heqs : EqsOk l eqs) (hcalls : CallsOk P (fun w => LaidN ng nt st0 w.heap.size w ∧ M w) l calls)
    {N n : Nat} (hrun : runs (envOf P (ng + 16) (eqTT ks eqs)) (extOf f1 f2 (factT (facts ++ mems))) (callT calls) N n st0 f args.toArray = some v) (hs : sim3 v = true) (ha : args.all sim2 = true) (w : World) (hL : LaidN ng nt st0 w.heap.size w)
    (hM : M w) (keepM : ∀ w1 w2, Below w.heap.size w1 w2 → M w1 → M w2) : Calls P f (args.map (den2 l)).toArray w fun e w' => e = .returned (den l v) ∧ Below w.heap.size w w' :=
  @calls_of_runN (symOf l hl) P ng nt f1 f2 (callT calls) st0 (eqTT ks eqs) (factT (facts ++ mems)) hnt hnx hm h1 h2 (eqTT_ok hk heqs) M (factT_ok hfacts hmems) (callT_ok hcalls) N n f args.toArray (args.map (den2 l)).toArray v (den l v) hrun (fun ι x k => den_eq hs k)
    (fun ι => den_arr (p := sim2) (g := den2 l) (fun v hv => den2_rel hv) (by rw [← Array.all_toList]; exact ha)) w hL hM keepM
/-! ### rows of the tables -/
theorem pureF_conv {P : Program} {s d : TypeId} {ts : TypeDesc} {k q : IntKind} {n : Int} (hs : P.underlying s = some ts) (hd : P.underlying d = some (.int k)) : pureF P (.conv s d) [.int q n] = some (.int k (wrapF k n)) := by
  simp only [pureF, hs, hd]
theorem pureF_len {P : Program} {t : TypeId} {s : ByteArray} (h : P.underlying t = some .string) : pureF P (.len t) [.string s] = some (.int .i64 s.data.size) := by
  simp only [pureF, h]
theorem pureF_eqb {P : Program} {t : TypeId} {a b r : Bool} (h : P.underlying t = some .bool) (e : (a == b) = r) : pureF P (.bin .eql t) [.bool a, .bool b] = some (.bool r) := by
  simp only [pureF, h, e]
theorem strAdd {x y : ByteArray} (h : x.data.size + y.data.size < 9223372036854775808) : strOp .add x y = some (.string (x ++ y)) := if_pos h
theorem strAddTo {x y z : ByteArray} (h : x.data.size + y.data.size < 9223372036854775808) (e : x ++ y = z) : strOp .add x y = some (.string z) := by rw [strAdd h, e]
theorem eqScal_int {k : IntKind} {a b : Int} {r : Bool} (h : (a == b) = r) : eqScal 2 (.int k a) (.int k b) = some r := by
  simp only [eqScal, if_true, h]
theorem eqScal_str {a b : ByteArray} {r : Bool} (h : (a.data.toList == b.data.toList) = r) : eqScal 3 (.string a) (.string b) = some r := by
  simp only [eqScal, h]
theorem eqScal_bool {a b r : Bool} (h : (a == b) = r) : eqScal 1 (.bool a) (.bool b) = some r := by
  simp only [eqScal, h]
theorem bs_size (x y : ByteArray) : (x ++ y).data.size = x.data.size + y.data.size := by
  rw [ByteArray.data_append, Array.size_append]
theorem bs_assoc (x y z : ByteArray) : (x ++ y) ++ z = x ++ (y ++ z) := by
  apply ByteArray.ext
  simp [ByteArray.data_append]
theorem bs_empty (x : ByteArray) : x ++ (⟨#[]⟩ : ByteArray) = x := by
  apply ByteArray.ext
  simp [ByteArray.data_append]
theorem wrap64_ex (n : Int) : ∃ q : Int, wrapF .i64 n = n + q * 18446744073709551616 := by
  simp only [wrapF]
  split
  · exact ⟨-(n / 18446744073709551616) - 1, by omega⟩
  · exact ⟨-(n / 18446744073709551616), by omega⟩
theorem wrapu64_ex (n : Int) : ∃ q : Int, wrapF .u64 n = n + q * 18446744073709551616 := by
  simp only [wrapF]
  exact ⟨-(n / 18446744073709551616), by omega⟩
theorem wrap64_cong {x y : Int} (q : Int) (h : x = y + q * 18446744073709551616) : wrapF .i64 x = wrapF .i64 y := by
  simp only [wrapF]; subst h; rw [Int.add_mul_emod_self_right]
theorem mul_u64 (a b : Int) : wrapF .i64 (wrapF .u64 (wrapF .u64 a * wrapF .u64 b)) = wrapF .i64 (a * b) := by
  obtain ⟨q1, h1⟩ := wrapu64_ex a
  obtain ⟨q2, h2⟩ := wrapu64_ex b
  obtain ⟨q3, h3⟩ := wrapu64_ex (wrapF .u64 a * wrapF .u64 b)
  rw [h3, h1, h2]
  refine wrap64_cong (a * q2 + q1 * b + q1 * q2 * 18446744073709551616 + q3) ?_
  have e1 : (a + q1 * 18446744073709551616) * (b + q2 * 18446744073709551616) = a * b + a * q2 * 18446744073709551616 + (q1 * b * 18446744073709551616 + q1 * q2 * 18446744073709551616 * 18446744073709551616) := by
    rw [Int.add_mul, Int.mul_add, Int.mul_add]
    have f1 : a * (q2 * 18446744073709551616) = a * q2 * 18446744073709551616 := (Int.mul_assoc _ _ _).symm
    have f2 : q1 * 18446744073709551616 * b = q1 * b * 18446744073709551616 := Int.mul_right_comm _ _ _
    have f3 : q1 * 18446744073709551616 * (q2 * 18446744073709551616) = q1 * q2 * 18446744073709551616 * 18446744073709551616 := by
      rw [← Int.mul_assoc, Int.mul_right_comm q1 18446744073709551616 q2]
    rw [f1, f2, f3]
  rw [e1]
  omega
end Go.Proofs.YtmmfpkkkpeapeaaGreatDoor.Ev
