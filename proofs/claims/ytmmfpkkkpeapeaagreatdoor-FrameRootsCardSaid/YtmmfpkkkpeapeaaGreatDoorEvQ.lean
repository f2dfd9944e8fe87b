/- A region that draws its order: what its operations do in text order, they do in every order, where no two that may change places touch the same block or slot. No condition. -/
import Derived.Test.YtmmfpkkkpeapeaaGreatDoorEvP
import Derived.Orders
set_option linter.unusedSectionVars false
set_option linter.unusedVariables false
set_option linter.unusedSimpArgs false
namespace Go.Proofs.YtmmfpkkkpeapeaaGreatDoor.Ev
open Go Go.RowKit
variable [Sym]

/-! ### an operation looks at its operands alone -/
theorem aResolve_congr {ρ ρ' : Operand → Value} (c : Call) (h : ∀ x ∈ c.operands, ρ x = ρ' x) : aResolve ρ c = aResolve ρ' c := by
  have hargs : c.args.map ρ = c.args.map ρ' := Array.map_congr_left fun x hx => h x (by simp [Call.operands, hx])
  unfold aResolve
  simp only [appF_eq, mapF0_eq]
  cases hc : c.callee with
  | value f =>
    have hf : ρ f = ρ' f := h f (by simp [Call.operands, hc])
    simp only [hf, hargs]
  | invoke r m => rfl
  | builtin b => rfl
theorem aExec_congr {E : Env} {X : Ext} {ρ ρ' : Operand → Value} (o : Oper) (h : ∀ x ∈ o.op.operands, ρ x = ρ' x) : aExec E X ρ o = aExec E X ρ' o := by
  obtain ⟨dst, op, type, pos, after, guard⟩ := o
  have pairs : ∀ ps : Array (Nat × Operand), (∀ x ∈ ps.map (·.2), ρ x = ρ' x) →
      (ps.map fun p => (p.1, ρ p.2)) = (ps.map fun p => (p.1, ρ' p.2)) := fun ps hp =>
    Array.map_congr_left fun p hm => by
      obtain ⟨i, x⟩ := p
      simp only [hp x (Array.mem_map.2 ⟨(i, x), hm, rfl⟩)]
  cases op <;> simp only [Op.operands] at h <;> simp only [aExec]
  case build t ps => rw [pairs ps fun x hx => h x (by simpa using hx)]
  case buildSlice t n ps => rw [pairs ps fun x hx => h x (by simpa using hx)]
  case makeFunc fn first captured =>
    rw [Array.map_congr_left (xs := first) fun x hx => h x (by simp [hx]), Array.map_congr_left (xs := captured) fun x hx => h x (by simp [hx])]
  case call c =>
    have hargs : c.args.map ρ = c.args.map ρ' := Array.map_congr_left fun x hx => h x (by simp [Call.operands, hx])
    rw [aResolve_congr c h, hargs]
  case defer c => rw [aResolve_congr c h]
  case makeMap t r => cases r <;> simp_all
  case slice t x lo hi mx => cases lo <;> cases hi <;> cases mx <;> simp_all
  all_goals (first | rfl | (simp_all; done))
theorem evOut_congr {E : Env} {X : Ext} {rec : Req → LM Ans2} {ops : Array Oper} {r r' : Regs} (o : Oper) (h : ∀ t ∈ o.looksAt ops, r.get t = r'.get t) : evOut E X rec ops r o = evOut E X rec ops r' o := by
  have h1 : evWanted ops r o = evWanted ops r' o := by
    unfold evWanted
    cases hg : o.guard with
    | none => rfl
    | some gw =>
      obtain ⟨j, want⟩ := gw
      dsimp only
      cases hd : (ops[j]?).bind (·.dst) with
      | none => rfl
      | some d =>
        dsimp only
        rw [h d (by simp [Oper.looksAt, hg, hd])]
  have h2 : aExecF E X (evOpd E r) o = aExecF E X (evOpd E r') o := by
    rw [aExecF_eq, aExecF_eq]
    refine aExec_congr o fun x hx => ?_
    cases x with
    | tmp t => exact h t (List.mem_append_left _ (List.mem_filterMap.2 ⟨.tmp t, by simpa using hx, rfl⟩))
    | _ => rfl
  unfold evOut
  rw [h1, h2]

/-! ### what lies before what -/
section
theorem testBit_lor2 (a b c i : Nat) : ((a ||| 2 ^ b) ||| c).testBit i = (a.testBit i || decide (b = i) || c.testBit i) := by
  rw [Nat.testBit_or, Nat.testBit_or, Nat.testBit_two_pow]
def befStep (acc : Array Nat) (o : Oper) : Nat := o.after.foldl (fun s e => if Region.binds .any e then s ||| 2 ^ e.on ||| acc.getD e.on 0 else s) 0
theorem bef_bits (acc : Array Nat) (i : Nat) : ∀ (l : List Edge) (s : Nat), (l.foldl (fun s e => if Region.binds .any e then s ||| 2 ^ e.on ||| acc.getD e.on 0 else s) s).testBit i = true →
    s.testBit i = true ∨ ∃ e ∈ l, Region.binds .any e = true ∧ (e.on = i ∨ (acc.getD e.on 0).testBit i = true)
  | [], s, h => .inl h
  | e :: l, s, h => by
    simp only [List.foldl_cons] at h
    rcases bef_bits acc i l _ h with h | ⟨e', hm, hb, hx⟩
    · split at h
      · rename_i hb
        rw [testBit_lor2] at h
        simp only [Bool.or_eq_true, decide_eq_true_eq] at h
        rcases h with (h | h) | h
        · exact .inl h
        · exact .inr ⟨e, by simp, hb, .inl h⟩
        · exact .inr ⟨e, by simp, hb, .inr h⟩
      · exact .inl h
    · exact .inr ⟨e', by simp [hm], hb, hx⟩
theorem bef_fold : ∀ (l : List Oper) (acc : Array Nat), (l.foldl (fun acc o => acc.push (befStep acc o)) acc).size = acc.size + l.length ∧
    (∀ j, j < acc.size → (l.foldl (fun acc o => acc.push (befStep acc o)) acc).getD j 0 = acc.getD j 0)
  | [], acc => ⟨rfl, fun _ _ => rfl⟩
  | o :: l, acc => by
    obtain ⟨h1, h2⟩ := bef_fold l (acc.push (befStep acc o))
    simp only [List.foldl_cons]
    refine ⟨by rw [h1]; simp; omega, fun j hj => ?_⟩
    rw [h2 j (by simp; omega)]
    simp only [Array.getD_eq_getD_getElem?, Array.getElem?_push]
    rw [if_neg (by omega)]
theorem bef_at : ∀ (l : List Oper) (acc : Array Nat) (j : Nat) (o : Oper), l[j]? = some o → ∃ pre : Array Nat, pre.size = acc.size + j ∧
    (l.foldl (fun acc o => acc.push (befStep acc o)) acc).getD (acc.size + j) 0 = befStep pre o ∧
    ∀ e, e < acc.size + j → pre.getD e 0 = (l.foldl (fun acc o => acc.push (befStep acc o)) acc).getD e 0
  | [], acc, j, o, h => by simp at h
  | x :: l, acc, 0, o, h => by
    simp only [List.getElem?_cons_zero, Option.some.injEq] at h
    subst h
    obtain ⟨h1, h2⟩ := bef_fold l (acc.push (befStep acc x))
    refine ⟨acc, rfl, ?_, fun e he => ?_⟩
    · simp only [List.foldl_cons, Nat.add_zero]
      rw [h2 acc.size (by simp)]
      simp [Array.getD_eq_getD_getElem?]
    · simp only [List.foldl_cons]
      rw [h2 e (by simp; omega)]
      simp only [Array.getD_eq_getD_getElem?, Array.getElem?_push]
      rw [if_neg (by omega)]
  | x :: l, acc, j + 1, o, h => by
    simp only [List.getElem?_cons_succ] at h
    obtain ⟨pre, h1, h2, h3⟩ := bef_at l (acc.push (befStep acc x)) j o h
    simp only [Array.size_push] at h1 h2 h3
    refine ⟨pre, by omega, ?_, fun e he => ?_⟩
    · simp only [List.foldl_cons]
      rw [show acc.size + (j + 1) = acc.size + 1 + j by omega]
      exact h2
    · simp only [List.foldl_cons]
      exact h3 e (by omega)
theorem before_bits {ops : Array Oper} (hp : plainEdges ops = true) {j i : Nat} {o : Oper} (ho : ops[j]? = some o) (h : ((Region.before ops).getD j 0).testBit i = true) :
    ∃ e ∈ o.after.toList, Region.binds .any e = true ∧ e.on < j ∧ (e.on = i ∨ ((Region.before ops).getD e.on 0).testBit i = true) := by
  have hb : Region.before ops = ops.toList.foldl (fun acc o => acc.push (befStep acc o)) #[] := by
    unfold Region.before
    rw [← Array.foldl_toList]
    rfl
  have hj : j < ops.size := by
    rcases Nat.lt_or_ge j ops.size with h | h
    · exact h
    · rw [Array.getElem?_eq_none h] at ho; cases ho
  obtain ⟨pre, h1, h2, h3⟩ := bef_at ops.toList #[] j o (by rw [Array.getElem?_toList]; exact ho)
  simp only [Array.size_empty, Nat.zero_add] at h1 h2 h3
  rw [hb] at h ⊢
  rw [h2] at h
  unfold befStep at h
  rw [← Array.foldl_toList] at h
  rcases bef_bits pre i _ _ h with h | ⟨e, hm, hbi, hx⟩
  · simp at h
  · have hon : e.on < j := by
      unfold plainEdges at hp
      have := List.all_eq_true.1 hp j (List.mem_range.2 hj)
      rw [ho] at this
      have := List.all_eq_true.1 this e hm
      rw [hbi] at this
      simpa using this
    refine ⟨e, hm, hbi, hon, ?_⟩
    rw [h3 e.on hon] at hx
    exact hx
/-- A set of operations that holds what each of its members waits for holds all that lies before them. -/
theorem before_closed {ops : Array Oper} (hp : plainEdges ops = true) (dn : Nat → Bool) (hcl : ∀ j o, ops[j]? = some o → dn j = true → ∀ e ∈ o.after.toList, Region.binds .any e = true → dn e.on = true) :
    ∀ (j i : Nat), j < ops.size → dn j = true → ((Region.before ops).getD j 0).testBit i = true → dn i = true := by
  intro j
  induction j using Nat.strongRecOn with
  | _ j ih =>
    intro i hj hd h
    have ho : ops[j]? = some ops[j] := Array.getElem?_eq_getElem hj
    obtain ⟨e, hm, hb, hlt, hx⟩ := before_bits hp ho h
    have he := hcl j _ ho hd e hm hb
    rcases hx with rfl | hx
    · exact he
    · exact ih e.on hlt i (by omega) he hx
theorem before_lt {ops : Array Oper} (hp : plainEdges ops = true) : ∀ (j i : Nat), j < ops.size → ((Region.before ops).getD j 0).testBit i = true → i < j := by
  intro j
  induction j using Nat.strongRecOn with
  | _ j ih =>
    intro i hj h
    have ho : ops[j]? = some ops[j] := Array.getElem?_eq_getElem hj
    obtain ⟨e, hm, hb, hlt, hx⟩ := before_bits hp ho h
    rcases hx with rfl | hx
    · exact hlt
    · have := ih e.on hlt i (by omega) hx; omega
end
/-! ### the orders that the machine may take -/
inductive Good (ops : Array Oper) : (Nat → Bool) → List Nat → Prop
  | nil {dn : Nat → Bool} (h : ∀ i, i < ops.size → dn i = true) : Good ops dn []
  | cons {dn : Nat → Bool} {u : Nat} {o : Oper} {l : List Nat} (ho : ops[u]? = some o) (hn : dn u = false) (he : ∀ e ∈ o.after.toList, Region.binds .any e = true → dn e.on = true)
      (t : Good ops (fun i => decide (i = u) || dn i) l) : Good ops dn (u :: l)
theorem Good.congr {ops : Array Oper} {dn dn' : Nat → Bool} {l : List Nat} (h : Good ops dn l) (e : ∀ i, i < ops.size → dn' i = dn i) (hp : plainEdges ops = true) : Good ops dn' l := by
  induction h generalizing dn' with
  | nil h => exact .nil fun i hi => (e i hi).trans (h i hi)
  | cons ho hn he _ ih =>
    rename_i dn u o l _
    have hu : u < ops.size := by
      rcases Nat.lt_or_ge u ops.size with h | h
      · exact h
      · rw [Array.getElem?_eq_none h] at ho; cases ho
    refine .cons ho ((e u hu).trans hn) (fun x hx hb => ?_) (ih fun i hi => by rw [e i hi])
    have hon : x.on < ops.size := by
      unfold plainEdges at hp
      have := List.all_eq_true.1 hp u (List.mem_range.2 hu)
      rw [ho] at this
      have := List.all_eq_true.1 this x hx
      rw [hb] at this
      have : x.on < u := by simpa using this
      omega
    rw [e x.on hon]
    exact he x hx hb
def unl (listed : Array Bool) : Nat := (listed.toList.filter (!·)).length
theorem unl_set : ∀ (l : List Bool) (u : Nat), l[u]? = some false → ((l.set u true).filter (!·)).length + 1 = (l.filter (!·)).length
  | [], u, h => by simp at h
  | b :: l, 0, h => by simp only [List.getElem?_cons_zero, Option.some.injEq] at h; subst h; simp
  | b :: l, u + 1, h => by
    simp only [List.getElem?_cons_succ] at h
    have := unl_set l u h
    cases b <;> simp_all
theorem good_go {ops : Array Oper} (hp : plainEdges ops = true) : ∀ (fuel t : Nat) (listed : Array Bool), listed.size = ops.size → unl listed ≤ fuel →
    Good ops (fun i => listed.getD i false) (Region.linearise.go .any ops fuel t listed []) := by
  intro fuel
  induction fuel with
  | zero =>
    intro t listed hs hu
    refine .nil fun i hi => ?_
    have h0 : listed.toList.filter (!·) = [] := List.length_eq_zero_iff.1 (by unfold unl at hu; omega)
    have : listed[i]'(by omega) = true := by
      have hm : listed[i]'(by omega) ∈ listed.toList := by simp
      have := List.filter_eq_nil_iff.1 h0 _ hm
      simpa using this
    simp [Array.getD, show i < listed.size by omega, this]
  | succ fuel ih =>
    intro t listed hs hu
    simp only [Region.linearise.go]
    change Good ops _ (match (Region.ready .any ops listed)[t % (Region.ready .any ops listed).length]? with
      | some i => Region.linearise.go .any ops fuel (t / (Region.ready .any ops listed).length) (listed.setIfInBounds i true) [i]
      | none => [].reverse)
    cases hi : (Region.ready .any ops listed)[t % (Region.ready .any ops listed).length]? with
    | none =>
      have hnil : Region.ready .any ops listed = [] := by
        cases hr : Region.ready .any ops listed with
        | nil => rfl
        | cons x xs =>
          rw [hr] at hi
          have hlt : t % (x :: xs).length < (x :: xs).length := Nat.mod_lt _ (by simp)
          simp at hi
          simp at hlt
          omega
      refine .nil ?_
      intro i
      induction i using Nat.strongRecOn with
      | _ i ihi =>
        intro hlt
        rcases hb : listed.getD i false with _ | _
        · exfalso
          have hmem : i ∈ Region.ready .any ops listed := by
            unfold Region.ready
            refine List.mem_filter.2 ⟨List.mem_range.2 hlt, ?_⟩
            have ho : ops[i]? = some ops[i] := Array.getElem?_eq_getElem hlt
            have h1 : listed.getD i true = false := by
              simp only [Array.getD, show i < listed.size by omega, dite_true] at hb ⊢
              exact hb
            rw [h1, ho]
            simp only [Bool.not_false, Bool.true_and, Option.map_some, Option.getD_some]
            rw [Array.all_eq_true_iff_forall_mem]
            intro e he
            unfold plainEdges at hp
            have := List.all_eq_true.1 hp i (List.mem_range.2 hlt)
            rw [ho] at this
            have := List.all_eq_true.1 this e (Array.mem_toList_iff.2 he)
            cases hbi : Region.binds .any e with
            | false => rfl
            | true =>
              rw [hbi] at this
              have hon : e.on < i := by simpa using this
              have := ihi e.on hon (by omega)
              simpa using this
          rw [hnil] at hmem
          cases hmem
        · rfl
    | some i =>
      dsimp only
      rw [linearise_go_acc, List.reverse_singleton, List.singleton_append]
      have hmem := List.mem_of_getElem? hi
      unfold Region.ready at hmem
      obtain ⟨hr, hc⟩ := List.mem_filter.1 hmem
      have hlt := List.mem_range.1 hr
      have ho : ops[i]? = some ops[i] := Array.getElem?_eq_getElem hlt
      rw [ho] at hc
      simp only [Bool.and_eq_true, Bool.not_eq_true', Option.map_some, Option.getD_some] at hc
      obtain ⟨hc1, hc2⟩ := hc
      have hb : listed[i]'(by omega) = false := by
        simpa [Array.getD, show i < listed.size by omega] using hc1
      have hset : unl (listed.setIfInBounds i true) ≤ fuel := by
        have := unl_set listed.toList i (by rw [Array.getElem?_toList, Array.getElem?_eq_getElem (by omega), hb])
        unfold unl at hu ⊢
        rw [Array.toList_setIfInBounds]
        omega
      refine .cons ho (by simp [Array.getD, show i < listed.size by omega, hb]) (fun e he hbi => ?_) ?_
      · rw [Array.all_eq_true_iff_forall_mem] at hc2
        have := hc2 e (Array.mem_toList_iff.1 he)
        rw [hbi] at this
        simpa using this
      · refine (ih _ (listed.setIfInBounds i true) (by simp [hs]) hset).congr (fun j hj => ?_) hp
        simp only [Array.getD_eq_getD_getElem?, Array.getElem?_setIfInBounds]
        by_cases e : i = j
        · subst e; simp [show i < listed.size by omega]
        · rw [if_neg e]; simp [show ¬ j = i from fun x => e x.symm]
theorem good_schedule {ops : Array Oper} (hp : plainEdges ops = true) (t : Nat) : Good ops (fun _ => false) (Region.schedule true ops t) := by
  have h : Region.schedule true ops t = Region.linearise .any ops t := by simp [Region.schedule]
  rw [h]
  unfold Region.linearise
  refine (good_go hp ops.size t (Array.replicate ops.size false) (by simp) ?_).congr (fun i hi => ?_) hp
  · unfold unl
    exact Nat.le_trans (List.length_filter_le _ _) (by simp)
  · simp [Array.getD_eq_getD_getElem?, Array.getElem?_replicate, hi]
end Go.Proofs.YtmmfpkkkpeapeaaGreatDoor.Ev
