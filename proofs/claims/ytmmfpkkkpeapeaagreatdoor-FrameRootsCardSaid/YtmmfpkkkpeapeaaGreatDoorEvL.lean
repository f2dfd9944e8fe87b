/- The evaluator's built-in calls (len, cap, max, min, copy, delete), make, type assertions, comparisons. No condition. -/
import Derived.Test.YtmmfpkkkpeapeaaGreatDoorEvK
set_option linter.unusedSectionVars false
set_option linter.unusedVariables false
set_option linter.unusedSimpArgs false
namespace Go.Proofs.YtmmfpkkkpeapeaaGreatDoor.Ev
open Go Go.RowKit
variable [Sym]

def aLen (E : Env) (tys : Array TypeId) (args : Array Value) : LM Value := do
  let t ← LM.ofOption tys[0]?
  let x ← LM.ofOption args[0]?
  let ti ← LM.ofOption (E.tab t)
  match ti.desc, x with
  | .string, .string s => pure (.int .i64 s.data.size)
  | .slice _, .slice _ n _ => pure (.int .i64 n)
  | .map _ _, .map none => pure (.int .i64 0)
  | .map _ _, .map (some r) => do
    let p ← mapAt r
    pure (.int .i64 p.1.size)
  | _, _ => LM.fail
def aCap (E : Env) (tys : Array TypeId) (args : Array Value) : LM Value := do
  let t ← LM.ofOption tys[0]?
  let x ← LM.ofOption args[0]?
  let ti ← LM.ofOption (E.tab t)
  match ti.desc, x with
  | .slice _, .slice (some _) _ c => pure (if c < 4611686018427387904 then .int .i64 c else .complex .f64 0 0)
  | .slice _, .slice none _ c => pure (.int .i64 c)
  | _, _ => LM.fail
def aMaxMin (mx : Bool) (args : Array Value) : LM Value := do
  let x ← LM.ofOption args[0]?
  let y ← LM.ofOption args[1]?
  match x, y with
  | .int k x, .int _ y => pure (.int k (if mx then (if y > x then y else x) else (if y < x then y else x)))
  | _, _ => LM.fail
def aCopy (E : Env) (tys : Array TypeId) (args : Array Value) : LM Value := do
  let t ← LM.ofOption tys[0]?
  let dst ← LM.ofOption args[0]?
  let src ← LM.ofOption args[1]?
  let ti ← LM.ofOption (E.tab t)
  match ti.desc, dst with
  | .slice e, .slice base dLen _ => do
    let te ← LM.ofOption (E.tab e)
    let m ← LM.ofOption (lenOfV src)
    let cells ← aFirst te.size (Nat.min m dLen) src
    match base with
    | none => pure (.int .i64 (Nat.min m dLen))
    | some a => do
      let p ← cellsAt a.block
      LM.guard (!p.2.2.1 && decide (E.G ≤ a.block ∧ a.off + cells.size ≤ p.1.size) && cells.toList.all cellOk)
      LM.put a.block (some (.cells (writeC p.1 a.off cells.toList) p.2.1 p.2.2.1 p.2.2.2))
      pure (.int .i64 (Nat.min m dLen))
  | _, _ => LM.fail
def aMakeSlice (E : Env) (t : TypeId) (len cap : Value) : LM Value := do
  let ti ← LM.ofOption (E.tab t)
  match ti.desc, len, cap with
  | .slice e, .int _ l, .int _ c => do
    let te ← LM.ofOption (E.tab e)
    LM.guard (decide (0 ≤ l ∧ l ≤ c ∧ c < 4611686018427387904 ∧ (te.bytes : Int) * c ≤ 281474976710656))
    let b ← LM.new (.cells (zerosOf te (c.toNat * te.size)) e false 0)
    pure (.slice (some ⟨b, 0, none⟩) l.toNat c.toNat)
  | _, _, _ => LM.fail
def aMakeMap (E : Env) (t : TypeId) (r : Option Value) : LM Value := do
  match r with
  | none => do
    let b ← LM.new (.other (.map #[] 0))
    pure (.map (some b))
  | some (.int _ _) => do
    let ti ← LM.ofOption (E.tab t)
    match ti.desc with
    | .map _ _ => do
      let b ← LM.new (.other (.map #[] 0))
      pure (.map (some b))
    | _ => LM.fail
  | some _ => LM.fail
def isIface : TypeDesc → Bool
  | .interface _ => true
  | _ => false
def aAssert (E : Env) (x : Value) (asserted : TypeId) (ok : Bool) : LM Value := do
  let ti ← LM.ofOption (E.tab asserted)
  LM.guard (!isIface ti.desc)
  match x with
  | .nilIface => do
    LM.guard ok
    pure (.tuple #[ti.zero, .bool false])
  | .iface t v =>
    if t = asserted then pure (if ok then .tuple #[v, .bool true] else v) else do
      LM.guard ok
      pure (.tuple #[ti.zero, .bool false])
  | _ => LM.fail
def aMakeIface (E : Env) (t : TypeId) (x : Value) : LM Value := do
  let ti ← LM.ofOption (E.tab t)
  LM.guard (!isIface ti.desc)
  pure (.iface t x)
section
variable {E : Env} {P : Program} {B : Bd} {ι : Ren} {st st' : St} {w : World}
theorem len_does (ok : E.Ok P) (hw : WRel E.G B ι st w) {tys : Array TypeId} {ty : TypeId} {args args' : Array Value} {v : Value} (ha : ARel ι args args') (h : Run (aLen E tys args) st v st') :
    st' = st ∧ Ans P ι w (Builtin.len_ tys ty args') v := by
  unfold aLen at h
  replace h := Run.bindOpt h
  obtain ⟨t, e1, h⟩ := h
  replace h := Run.bindOpt h
  obtain ⟨x, e2, h⟩ := h
  replace h := Run.bindOpt h
  obtain ⟨ti, et, h⟩ := h
  obtain ⟨x', e2', hx⟩ := ha.get? e2
  have hu := run_underlying_tab ok et w
  unfold Ans
  split at h
  · rename_i s hd
    obtain ⟨rfl, rfl⟩ := Run.pure.1 h
    cases hx
    refine ⟨rfl, .int .i64 s.data.size, ?_, .int _ _⟩
    simp only [Builtin.len_, e1, e2', Sem.run_bind, hu, Result.andThen_ok, hd]
    rfl
  · rename_i e a n c hd
    obtain ⟨rfl, rfl⟩ := Run.pure.1 h
    refine ⟨rfl, .int .i64 n, ?_, .int _ _⟩
    cases hx <;> (simp only [Builtin.len_, e1, e2', Sem.run_bind, hu, Result.andThen_ok, hd]; rfl)
  · rename_i kt vt hd
    obtain ⟨rfl, rfl⟩ := Run.pure.1 h
    cases hx
    refine ⟨rfl, .int .i64 0, ?_, .int _ _⟩
    simp only [Builtin.len_, e1, e2', Sem.run_bind, hu, Result.andThen_ok, hd]
    rfl
  · rename_i kt vt r hd
    replace h := Run.bindMap h
    obtain ⟨p, ep, h⟩ := h
    obtain ⟨rfl, rfl⟩ := Run.pure.1 h
    obtain ⟨r', rfl, hr⟩ := map_inv hx
    obtain ⟨κ, es', hκ, hh, hl⟩ := hw.map hr ep
    have : es'.size = p.1.size := by simpa using hl.get.1
    refine ⟨rfl, .int .i64 p.1.size, ?_, .int _ _⟩
    simp only [Builtin.len_, e1, e2', Sem.run_bind, hu, Result.andThen_ok, hd, MapKept.run_getObj_map hh, this]
    rfl
  · exact (Run.fail.1 h).elim
theorem cap_does (ok : E.Ok P) {tys : Array TypeId} {ty : TypeId} {args args' : Array Value} {v : Value} (ha : ARel ι args args') (h : Run (aCap E tys args) st v st') :
    st' = st ∧ Ans P ι w (Builtin.cap_ tys ty args') v := by
  unfold aCap at h
  replace h := Run.bindOpt h
  obtain ⟨t, e1, h⟩ := h
  replace h := Run.bindOpt h
  obtain ⟨x, e2, h⟩ := h
  replace h := Run.bindOpt h
  obtain ⟨ti, et, h⟩ := h
  obtain ⟨x', e2', hx⟩ := ha.get? e2
  have hu := run_underlying_tab ok et w
  unfold Ans
  split at h
  · rename_i e a n c hd
    obtain ⟨rfl, rfl⟩ := Run.pure.1 h
    obtain ⟨r, c', rfl, hr, hlb, hex, hgr⟩ := sl_inv hx
    refine ⟨rfl, .int .i64 c', ?_, ?_⟩
    · simp only [Builtin.cap_, e1, e2', Sem.run_bind, hu, Result.andThen_ok, hd]
      rfl
    · split
      · rename_i hc; rw [hex hc]; exact .int _ _
      · exact .top _
  · rename_i e n c hd
    obtain ⟨rfl, rfl⟩ := Run.pure.1 h
    cases hx
    refine ⟨rfl, .int .i64 c, ?_, .int _ _⟩
    simp only [Builtin.cap_, e1, e2', Sem.run_bind, hu, Result.andThen_ok, hd]
    rfl
  · exact (Run.fail.1 h).elim
theorem maxmin_does {tys : Array TypeId} {ty : TypeId} {mx : Bool} {args args' : Array Value} {v : Value} (ha : ARel ι args args') (hs : args.size = 2) (h : Run (aMaxMin mx args) st v st') :
    st' = st ∧ Ans P ι w (if mx then Builtin.max_ tys ty args' else Builtin.min_ tys ty args') v := by
  unfold aMaxMin at h
  replace h := Run.bindOpt h
  obtain ⟨x, e1, h⟩ := h
  replace h := Run.bindOpt h
  obtain ⟨y, e2, h⟩ := h
  obtain ⟨x', e1', hx⟩ := ha.get? e1
  obtain ⟨y', e2', hy⟩ := ha.get? e2
  have haa := arr2 (ha.1.trans hs) e1' e2'
  subst haa
  unfold Ans
  split at h
  · obtain ⟨rfl, rfl⟩ := Run.pure.1 h
    cases hx; cases hy
    refine ⟨rfl, _, ?_, .int _ _⟩
    cases mx
    · simp only [Bool.false_eq_true, if_false, Builtin.min_]; rfl
    · simp only [if_true, Builtin.max_]; rfl
  · exact (Run.fail.1 h).elim
theorem copy_does (ok : E.Ok P) (hw : WRel E.G B ι st w) {tys : Array TypeId} {ty : TypeId} {args args' : Array Value} {v : Value} (ha : ARel ι args args') (h : Run (aCopy E tys args) st v st') :
    Does P E.G B ι st w st' (Builtin.copy_ tys ty args') fun ι' y => VRel ι' v y := by
  unfold aCopy at h
  replace h := Run.bindOpt h
  obtain ⟨t, e1, h⟩ := h
  replace h := Run.bindOpt h
  obtain ⟨x, e2, h⟩ := h
  replace h := Run.bindOpt h
  obtain ⟨y, e3, h⟩ := h
  replace h := Run.bindOpt h
  obtain ⟨ti, et, h⟩ := h
  obtain ⟨x', e2', hx⟩ := ha.get? e2
  obtain ⟨y', e3', hy⟩ := ha.get? e3
  have hu := run_underlying_tab ok et w
  split at h
  · rename_i e base dLen c hd
    replace h := Run.bindOpt h
    obtain ⟨te, ee, h⟩ := h
    replace h := Run.bindOpt h
    obtain ⟨m, em, h⟩ := h
    replace h := Run.bind.1 h
    obtain ⟨cells, st1, h1, h⟩ := h
    obtain ⟨rfl, cells', hc1, hc2⟩ := first_run (P := P) hw hy h1
    have hlen := lenOf_run (P := P) (w := w) hy em
    split at h
    · obtain ⟨rfl, rfl⟩ := Run.pure.1 h
      cases hx
      refine Does.same hw (y := .int .i64 (Nat.min m dLen)) ?_ (.int _ _)
      simp only [Builtin.copy_, e1, e2', e3', Sem.run_bind, hu, Result.andThen_ok, hd, hlen, run_sizeOf_tab ok ee, hc1, Sem.run_pure]
      rfl
    · rename_i a
      replace h := Run.bindCells h
      obtain ⟨p, ep, h⟩ := h
      replace h := Run.bindGuard h
      obtain ⟨g, h⟩ := h
      replace h := Run.bind.1 h
      obtain ⟨u, st2, h2, h⟩ := h
      obtain ⟨rfl, rfl⟩ := Run.pure.1 h
      obtain ⟨hn, hget⟩ := Run.put h2
      obtain ⟨c0, t0, f0, g0⟩ := p
      simp only [Bool.and_eq_true, Bool.not_eq_true', decide_eq_true_eq] at g ep hget
      obtain ⟨⟨rfl, k1, k2⟩, k3⟩ := g
      obtain ⟨r, c', rfl, hr, _⟩ := sl_inv hx
      obtain ⟨κ, c1, fr, hk, hh, hs1, hcc, hf1, hg1⟩ := hw.cellsT hr ep
      have hvs : ∀ (j : Nat) (v : Value), cells.toList[j]? = some v → ∃ v', cells'.toList[j]? = some v' ∧ VRel ι v v' := by
        intro j v e
        rw [Array.getElem?_toList] at e ⊢
        exact hc2.get? e
      have hl : cells'.toList.length = cells.toList.length := by simp [hc2.1]
      have hone := all_one hl hvs k3
      refine ⟨ι, setBlk w r (.cells (writeC c1 a.off cells'.toList) t0 fr), .int .i64 (Nat.min m dLen), ?_, write_post hw hk k1 ep hh hs1 hcc (hf1 rfl) hg1 hl hvs hget hn, .int _ _⟩
      have hst := run_storeCells_of P (r := r) (t := t0) (fr := fr) a.off (hf1 rfl) cells'.toList 0 w c1 hh hone (by simp [hc2.1]; omega)
      simp only [Builtin.copy_, e1, e2', e3', Sem.run_bind, hu, Result.andThen_ok, hd, hlen, run_sizeOf_tab ok ee, hc1, Sem.run_pure, hst]
      rfl
  · exact (Run.fail.1 h).elim
theorem makeSlice_does (ok : E.Ok P) (hw : WRel E.G B ι st w) {t : TypeId} {l l' c c' v : Value} (hl : VRel ι l l') (hc : VRel ι c c') (hfree : Free ι st.next st'.next) (h : Run (aMakeSlice E t l c) st v st') :
    Does P E.G B ι st w st' (Instr.makeSlice t l' c') fun ι' y => VRel ι' v y := by
  unfold aMakeSlice at h
  replace h := Run.bindOpt h
  obtain ⟨ti, et, h⟩ := h
  have hu := run_underlying_tab ok et w
  split at h
  · rename_i e k n k2 m hd
    replace h := Run.bindOpt h
    obtain ⟨te, ee, h⟩ := h
    replace h := Run.bindGuard h
    obtain ⟨g, h⟩ := h
    replace h := Run.bind.1 h
    obtain ⟨b, st1, h1, h⟩ := h
    obtain ⟨rfl, rfl⟩ := Run.pure.1 h
    cases hl; cases hc
    obtain ⟨g1, g2, g3, g4⟩ := of_decide_eq_true g
    have hz := zerosOf_rel (ι := ι) ok ee (m.toNat * te.size)
    obtain ⟨rfl, hpost⟩ := newCells_post (B := B) (w := w) (c' := zerosOf te (m.toNat * te.size)) (fr := (0, 0)) hw 0 0 hfree h1 (Nat.le_refl _) hz.2 (fun _ => rfl) (fun h => absurd rfl h)
    refine ⟨_, _, .slice (some ⟨w.heap.size, 0, none⟩) n.toNat m.toNat, ?_, hpost, .sl _ ⟨upd_to_same _ _ _ _, rfl, rfl, rfl⟩ (by omega)⟩
    obtain ⟨info, hi1, hi2, hi3, hi4⟩ := run_typeInfo_tab ok ee w
    have w1 : IntKind.i64.wrap n = n := by rw [← wrapF_eq]; simp only [wrapF]; split <;> omega
    have w2 : IntKind.i64.wrap m = m := by rw [← wrapF_eq]; simp only [wrapF]; split <;> omega
    simp only [Instr.makeSlice, Sem.run_bind, hu, Result.andThen_ok, hd, asInt, asIntOf, Sem.run_pure, hi1, w1, w2, run_askRoom, run_sizeOf_tab ok ee]
    by_cases h0 : m.toNat * te.size = 0
    · simp [newRow, hi3]
      rw [if_neg (by omega)]
      simp [run_sizeOf_tab ok ee, h0, zerosOf]
      have hz0 : ∀ f : Nat → Value, Array.map f (Array.range 0) = #[] := fun f => by apply Array.eq_empty_of_size_eq_zero; simp
      rw [hz0]
    · simp [newRow, hi3]
      rw [if_neg (by omega)]
      simp [run_sizeOf_tab ok ee, h0, zerosOf, run_zero_tab ok ee]
  · exact (Run.fail.1 h).elim
theorem makeMap_does (ok : E.Ok P) (hw : WRel E.G B ι st w) {t : TypeId} {r r' : Option Value} {v : Value} (hr : OptV ι r r') (hfree : Free ι st.next st'.next) (h : Run (aMakeMap E t r) st v st') :
    Does P E.G B ι st w st' (Instr.makeMap t r') fun ι' y => VRel ι' v y := by
  unfold aMakeMap at h
  split at h
  · replace h := Run.bind.1 h
    obtain ⟨b, st1, h1, h⟩ := h
    obtain ⟨rfl, rfl⟩ := Run.pure.1 h
    obtain ⟨rfl, hp⟩ := newObj_post (B := B) (w := w) (ro := .map #[] 0) hw hfree h1 (.map (EL.entries .nil))
    rcases hr with ⟨_, rfl⟩ | ⟨_, _, h, _⟩
    · refine ⟨_, _, .map (some w.heap.size), ?_, hp, .map (upd_to_same _ _ _ _)⟩
      simp only [Instr.makeMap]
      rfl
    · cases h
  · rename_i k n
    replace h := Run.bindOpt h
    obtain ⟨ti, et, h⟩ := h
    have hu := run_underlying_tab ok et w
    split at h
    · rename_i kt vt hd
      replace h := Run.bind.1 h
      obtain ⟨b, st1, h1, h⟩ := h
      obtain ⟨rfl, rfl⟩ := Run.pure.1 h
      obtain ⟨rfl, hp⟩ := newObj_post (B := B) (w := w) (ro := .map #[] 0) hw hfree h1 (.map (EL.entries .nil))
      rcases hr with ⟨h, _⟩ | ⟨a, b, h, rfl, hab⟩
      · cases h
      · cases h
        cases hab
        refine ⟨_, _, .map (some w.heap.size), ?_, hp, .map (upd_to_same _ _ _ _)⟩
        simp only [Instr.makeMap, Sem.run_bind, hu, Result.andThen_ok, hd, asInt, asIntOf, Sem.run_pure]
        rfl
    · exact (Run.fail.1 h).elim
  · exact (Run.fail.1 h).elim
theorem assert_does (ok : E.Ok P) {x x' v : Value} {xt t : TypeId} {cok : Bool} (hx : VRel ι x x') (h : Run (aAssert E x t cok) st v st') :
    st' = st ∧ Ans P ι w (Instr.typeAssert x' xt t cok) v := by
  unfold aAssert at h
  replace h := Run.bindOpt h
  obtain ⟨ti, et, h⟩ := h
  replace h := Run.bindGuard h
  obtain ⟨g, h⟩ := h
  have hu := run_underlying_tab ok et w
  have hz := run_zero_tab ok et w
  have hzr := zero_rel ok et ι
  have hni : ∀ ms, ti.desc ≠ .interface ms := by intro ms e; rw [e] at g; simp [isIface] at g
  unfold Ans
  split at h
  · replace h := Run.bindGuard h
    obtain ⟨rfl, h⟩ := h
    obtain ⟨rfl, rfl⟩ := Run.pure.1 h
    cases hx
    refine ⟨rfl, .tuple #[ti.zero, .bool false], ?_, ?_⟩
    · obtain ⟨d, hd⟩ : ∃ d, ti.desc = d := ⟨_, rfl⟩
      rw [hd] at hu
      cases d <;> first
        | exact absurd hd (hni _)
        | simp only [Instr.typeAssert, Sem.run_bind, hu, Result.andThen_ok, hz, Sem.run_pure, if_true]
    · have := ARel.two hzr (.bool false)
      exact .tuple this.1 this.2
  · rename_i t' v'
    cases hx with
    | iface _ hv =>
    rename_i y'
    split at h
    · rename_i heq
      obtain ⟨rfl, rfl⟩ := Run.pure.1 h
      refine ⟨rfl, if cok then .tuple #[y', .bool true] else y', ?_, ?_⟩
      · obtain ⟨d, hd⟩ : ∃ d, ti.desc = d := ⟨_, rfl⟩
        rw [hd] at hu
        cases d <;> first
          | exact absurd hd (hni _)
          | simp only [Instr.typeAssert, Sem.run_bind, hu, Result.andThen_ok, if_pos heq, Sem.run_pure]
      · cases cok
        · exact hv
        · have := ARel.two hv (.bool true)
          exact .tuple this.1 this.2
    · rename_i heq
      replace h := Run.bindGuard h
      obtain ⟨rfl, h⟩ := h
      obtain ⟨rfl, rfl⟩ := Run.pure.1 h
      refine ⟨rfl, .tuple #[ti.zero, .bool false], ?_, ?_⟩
      · obtain ⟨d, hd⟩ : ∃ d, ti.desc = d := ⟨_, rfl⟩
        rw [hd] at hu
        cases d <;> first
          | exact absurd hd (hni _)
          | simp only [Instr.typeAssert, Sem.run_bind, hu, Result.andThen_ok, if_neg heq, hz, Sem.run_pure, if_true]
      · have := ARel.two hzr (.bool false)
        exact .tuple this.1 this.2
  · exact (Run.fail.1 h).elim
theorem makeIface_does (ok : E.Ok P) {x x' v : Value} {t : TypeId} (hx : VRel ι x x') (h : Run (aMakeIface E t x) st v st') :
    st' = st ∧ Ans P ι w (Instr.makeInterface t x') v := by
  unfold aMakeIface at h
  replace h := Run.bindOpt h
  obtain ⟨ti, et, h⟩ := h
  replace h := Run.bindGuard h
  obtain ⟨g, h⟩ := h
  obtain ⟨rfl, rfl⟩ := Run.pure.1 h
  have hu := run_underlying_tab ok et w
  have hni : ∀ ms, ti.desc ≠ .interface ms := by intro ms e; rw [e] at g; simp [isIface] at g
  refine ⟨rfl, .iface t x', ?_, .iface _ hx⟩
  obtain ⟨d, hd⟩ : ∃ d, ti.desc = d := ⟨_, rfl⟩
  rw [hd] at hu
  cases d <;> first
    | exact absurd hd (hni _)
    | simp only [Instr.makeInterface, Sem.run_bind, hu, Result.andThen_ok, Sem.run_pure]
end
end Go.Proofs.YtmmfpkkkpeapeaaGreatDoor.Ev
