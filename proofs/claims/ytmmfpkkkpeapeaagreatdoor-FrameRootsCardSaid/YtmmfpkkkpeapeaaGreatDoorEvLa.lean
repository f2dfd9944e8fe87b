/- The evaluator's strings.Builder: an address as unsafe.Pointer and back, unsafe.SliceData, unsafe.String. No condition. -/
import Derived.Test.YtmmfpkkkpeapeaaGreatDoorEvM
import Derived.Lib.UnsafeStr
import Derived.Laws.LoneSync
set_option linter.unusedSectionVars false
set_option linter.unusedVariables false
set_option linter.unusedSimpArgs false
namespace Go.Proofs.YtmmfpkkkpeapeaaGreatDoor.Ev
open Go Go.RowKit
variable [Sym]

def aConvert2 (E : Env) (src dst : TypeId) (x : Value) : LM Value := do
  let ts ← LM.ofOption (E.tab src)
  let td ← LM.ofOption (E.tab dst)
  match ts.desc, td.desc, x with
  | .pointer t, .unsafePointer, .pointer (some a) => do
    let tt ← LM.ofOption (E.tab t)
    let p ← cellsAt a.block
    LM.guard (decide (tt.size ≠ 0 ∧ a.off < p.1.size))
    pure (.pointer (some a))
  | .unsafePointer, .pointer u, .pointer (some a) => do
    let tu ← LM.ofOption (E.tab u)
    let p ← cellsAt a.block
    LM.guard (decide (tu.size ≠ 0 ∧ a.off = 0 ∧ p.2.1 = u ∧ tu.size ≤ p.1.size ∧ p.2.2.1 = false))
    pure (.pointer (some a))
  | _, _, _ => aConvert E src dst x
/-- A look-up in a map that is only read. -/
def aTable (E : Env) (kt et : TypeId) (l : List (Value × Value)) (ix : Value) (ok : Bool) : LM Value := do
  let tk ← LM.ofOption (E.tab kt)
  LM.guard (plainV 6 ix && aKeyOk E 8 kt ix && l.all (fun p => (Instr.sameNow tk.desc ix p.1).isSome))
  match l.filter fun p => (Instr.sameNow tk.desc ix p.1).getD false with
  | [] => do
    let te ← LM.ofOption (E.tab et)
    pure (if ok then .tuple #[te.zero, .bool false] else te.zero)
  | [p] => pure (if ok then .tuple #[p.2, .bool true] else p.2)
  | _ => LM.fail
def aLookup2 (E : Env) (t : TypeId) (x ix : Value) (ok : Bool) : LM Value :=
  match x with
  | .map (some r) => do
    match ← LM.look r with
    | .table l => do
      let ti ← LM.ofOption (E.tab t)
      match ti.desc with
      | .map kt et => aTable E kt et l ix ok
      | _ => LM.fail
    | _ => aLookup E t x ix ok
  | _ => aLookup E t x ix ok
def aSliceData (args : Array Value) : LM Value := do
  let x ← LM.ofOption args[0]?
  match x with
  | .slice none _ _ => pure (.pointer none)
  | .slice (some a) _ c => do
    LM.guard (decide (capLb c ≠ 0))
    pure (.pointer (some a))
  | _ => LM.fail
def aUnsafeString (E : Env) (tys : Array TypeId) (args : Array Value) : LM Value := do
  let x ← LM.ofOption args[0]?
  let y ← LM.ofOption args[1]?
  match x, y with
  | .pointer p, .int .i64 n =>
    if n = 0 then pure (.string .empty) else
    match p with
    | none => LM.fail
    | some a => do
      let pt ← LM.ofOption tys[0]?
      let tp ← LM.ofOption (E.tab pt)
      match tp.desc with
      | .pointer e => do
        let te ← LM.ofOption (E.tab e)
        let q ← cellsAt a.block
        LM.guard (decide (te.size = 1 ∧ a.off = 0 ∧ q.2.1 = e ∧ 0 ≤ n ∧ n.toNat ≤ q.1.size ∧ n < 4611686018427387904 ∧ E.G ≤ a.block ∧ (q.2.2.1 = false ∨ q.2.2.2 ≠ 0)))
        let ns ← LM.ofOption ((q.1.extract 0 n.toNat).toList.mapM asU8)
        LM.guard (ns.all fun m => decide (0 ≤ m ∧ m < 256))
        LM.put a.block (some (.cells q.1 q.2.1 true q.2.2.2))
        pure (.string ⟨(ns.map fun n => UInt8.ofNat n.toNat).toArray⟩)
      | _ => LM.fail
  | _, _ => LM.fail
section
variable {E : Env} {P : Program} {B : Bd} {ι : Ren} {st st' : St} {w : World}
theorem cellsOf_tab (ok : E.Ok P) {t : TypeId} {ti : TI} (e : E.tab t = some ti) : P.cellsOf t = ti.size := by
  obtain ⟨info, h1, h2, _⟩ := (ok.tab t ti e).2
  unfold Program.cellsOf
  rw [h1]; exact h2
theorem liesAt_head {e : TypeId} (hc : P.cellsOf e ≠ 0) (count n : Nat) (hn : n ≤ count) : liesAt P P.depth e count 0 e n = true := by
  have hd : P.depth = (2 * (P.types.size + Made.depth) + 1) + 1 := rfl
  rw [hd]
  simp only [liesAt, Bool.or_eq_true]
  left
  rw [hd]
  simp [rowAt, hc, hn, sameLayout]
theorem convert2_does (ok : E.Ok P) (hw : WRel E.G B ι st w) {src dst : TypeId} {x x' v : Value} (hx : VRel ι x x') (hfree : Free ι st.next st'.next) (h : Run (aConvert2 E src dst x) st v st') :
    Does P E.G B ι st w st' (convert src dst x') fun ι' y => VRel ι' v y := by
  unfold aConvert2 at h
  replace h := Run.bindOpt h
  obtain ⟨ts, es, h⟩ := h
  replace h := Run.bindOpt h
  obtain ⟨td, ed, h⟩ := h
  have hus := (ok.tab src ts es).1
  have hud := (ok.tab dst td ed).1
  split at h
  · rename_i t a hd1 hd2
    replace h := Run.bindOpt h
    obtain ⟨tt, ett, h⟩ := h
    replace h := Run.bindCells h
    obtain ⟨p, ep, h⟩ := h
    replace h := Run.bindGuard h
    obtain ⟨g, h⟩ := h
    obtain ⟨rfl, rfl⟩ := Run.pure.1 h
    obtain ⟨g1, g2⟩ := of_decide_eq_true g
    obtain ⟨r, rfl, hr⟩ := ptr_inv hx
    obtain ⟨κ, c', t', fr, hk, hh, hs1, hc1, hf1, hg1, _⟩ := hw.cells hr ep
    have hcell : w.cell? ⟨r, a.off, none⟩ = some (c'[a.off]'(by omega)) := by rw [cell_of hh]; exact Array.getElem?_eq_getElem (by omega)
    obtain ⟨info, hi1, hi2, _⟩ := (ok.tab t tt ett).2
    have hsz : (P.info? t).map (fun i => decide (i.size = 0)) = some false := by rw [hi1]; simp [hi2, g1]
    exact Does.same hw (run_convert_to_unsafe (by rw [hus, hd1]) (by rw [hud, hd2]) hsz hcell) hx
  · rename_i u a hd1 hd2
    replace h := Run.bindOpt h
    obtain ⟨tu, etu, h⟩ := h
    replace h := Run.bindCells h
    obtain ⟨p, ep, h⟩ := h
    replace h := Run.bindGuard h
    obtain ⟨g, h⟩ := h
    obtain ⟨rfl, rfl⟩ := Run.pure.1 h
    obtain ⟨g1, g2, g3, g4, g5⟩ := of_decide_eq_true g
    obtain ⟨r, rfl, hr⟩ := ptr_inv hx
    obtain ⟨κ, c', t', fr, hk, hh, hs1, hc1, hf1, hg1, ht1⟩ := hw.cells hr ep
    rw [ht1 (.inl g5), g3] at hh
    have hsh := shape_of hh
    have hco := cellsOf_tab ok etu
    have hlies : liesAt P P.depth u (c'.size / P.cellsOf u) 0 u 1 = true := by
      refine liesAt_head (by rw [hco]; exact g1) _ 1 ?_
      rw [hco]
      exact (Nat.one_le_div_iff (by omega)).2 (by omega)
    refine Does.same hw (y := .pointer (some ⟨r, a.off, none⟩)) ?_ hx
    rw [g2]
    have h1 := run_underlying_tab ok es w
    have h2 := run_underlying_tab ok ed w
    rw [hd1] at h1
    rw [hd2] at h2
    have hz : tu.size ≠ 0 := g1
    simp [convert, Conv.unsafePointer, Conv.seenAt, viewAt, variablesAt, h1, h2, hsh, hlies, run_sizeOf_tab ok etu, hz, Result.andThen]
  · exact convert_does ok hw hx hfree (by
      unfold aConvert
      refine Run.bind.2 ⟨ts, st, Run.ofOption.2 ⟨es, rfl⟩, ?_⟩
      unfold aConvert at h
      replace h := Run.bindOpt h
      obtain ⟨ts2, es2, h⟩ := h
      rw [es] at es2
      cases es2
      exact h)
theorem findNow_some {kd : TypeDesc} {k : Value} : ∀ (l : List MapEntry) (i : Nat), (∀ e ∈ l, (Instr.sameNow kd k e.key).isSome = true) →
    ∃ r, Instr.findNow kd k l i = some r ∧ (match r with
      | some (_, v) => ∃ e ∈ l, Instr.sameNow kd k e.key = some true ∧ v = e.val
      | none => ∀ e ∈ l, Instr.sameNow kd k e.key = some false)
  | [], i, _ => ⟨none, rfl, fun e he => by cases he⟩
  | e :: l, i, h => by
    have h0 := h e (by simp)
    unfold Instr.findNow
    cases hs : Instr.sameNow kd k e.key with
    | none => rw [hs] at h0; cases h0
    | some b =>
      cases b with
      | true => exact ⟨some (i, e.val), rfl, e, by simp, hs, rfl⟩
      | false =>
        obtain ⟨r, h1, h2⟩ := findNow_some l (i + 1) fun e he => h e (by simp [he])
        refine ⟨r, h1, ?_⟩
        cases r with
        | none =>
          intro e' he'
          rcases List.mem_cons.1 he' with rfl | he'
          · exact hs
          · exact h2 e' he'
        | some q =>
          obtain ⟨e', he', a, b⟩ := h2
          exact ⟨e', by simp [he'], a, b⟩
theorem table_does (ok : E.Ok P) {t kt et : TypeId} {ti : TI} (ett : E.tab t = some ti) (hd : ti.desc = .map kt et) {l : List (Value × Value)} {r : Nat} {es' : Array MapEntry} {k : Nat} (hh : w.heap[r]? = some (.map es' k))
    (h1 : ∀ e ∈ es'.toList, ∃ p ∈ l, e.key = p.1 ∧ VRel ι p.2 e.val) (h2 : ∀ p ∈ l, ∃ e ∈ es'.toList, e.key = p.1) {ix ix' v : Value} {cok : Bool} (hi : VRel ι ix ix') (h : Run (aTable E kt et l ix cok) st v st') :
    st' = st ∧ Ans P ι w (Instr.lookup t (.map (some r)) ix' cok) v := by
  unfold aTable at h
  replace h := Run.bindOpt h
  obtain ⟨tk, ek, h⟩ := h
  replace h := Run.bindGuard h
  obtain ⟨g, h⟩ := h
  simp only [Bool.and_eq_true] at g
  obtain ⟨⟨g1, g2⟩, g3⟩ := g
  obtain rfl := plainV_eq 6 _ _ g1 hi
  have hu := run_underlying_tab ok ett w
  rw [hd] at hu
  have huk := run_underlying_tab ok ek w
  have hc := keyOk_run (P := P) (w := w) (ι := ι) ok es'.isEmpty 8 10000 kt ix' ix' (by omega) hi g2
  obtain ⟨q, hq, hqs⟩ := findNow_some (kd := tk.desc) (k := ix') es'.toList 0 fun e he => by
    obtain ⟨p, hp, a, _⟩ := h1 e he
    rw [a]
    exact List.all_eq_true.1 g3 p hp
  have hf : (Instr.findKey kt ix' es'.toList).run P w = .ok q w := by
    simp only [Instr.findKey, Sem.run_bind, huk, Result.andThen_ok, hq, Sem.run_pure]
  have inF : ∀ e ∈ es'.toList, Instr.sameNow tk.desc ix' e.key = some true → ∃ p ∈ l.filter (fun p => (Instr.sameNow tk.desc ix' p.1).getD false), VRel ι p.2 e.val := by
    intro e he hs
    obtain ⟨p, hp, a, b⟩ := h1 e he
    exact ⟨p, List.mem_filter.2 ⟨hp, by rw [← a, hs]; rfl⟩, b⟩
  unfold Ans
  split at h
  · rename_i hfil
    replace h := Run.bindOpt h
    obtain ⟨te, ee, h⟩ := h
    obtain ⟨rfl, rfl⟩ := Run.pure.1 h
    have hz := run_zero_tab ok ee w
    cases q with
    | some q =>
      obtain ⟨j, v0⟩ := q
      obtain ⟨e, he, hs, _⟩ := hqs
      obtain ⟨p, hp, _⟩ := inF e he hs
      rw [hfil] at hp; cases hp
    | none =>
      refine ⟨rfl, _, lookup_real hu (.inr ⟨r, k, rfl, hh⟩) hc hf (fun _ => hz), ?_⟩
      have hzr := zero_rel ok ee ι
      cases cok with
      | true =>
        have := ARel.two hzr (.bool false)
        exact .tuple this.1 this.2
      | false => exact hzr
  · rename_i p hfil
    obtain ⟨rfl, rfl⟩ := Run.pure.1 h
    cases q with
    | none =>
      have hp : p ∈ l.filter (fun p => (Instr.sameNow tk.desc ix' p.1).getD false) := by rw [hfil]; simp
      obtain ⟨hp1, hp2⟩ := List.mem_filter.1 hp
      obtain ⟨e, he, hk⟩ := h2 p hp1
      have := hqs e he
      rw [hk] at this
      rw [this] at hp2; cases hp2
    | some q =>
      obtain ⟨j, v0⟩ := q
      obtain ⟨e, he, hs, rfl⟩ := hqs
      obtain ⟨p2, hp2, hv⟩ := inF e he hs
      rw [hfil] at hp2
      obtain rfl := List.mem_singleton.1 hp2
      refine ⟨rfl, _, lookup_real (z := undef) hu (.inr ⟨r, k, rfl, hh⟩) hc hf (fun h => by cases h), ?_⟩
      cases cok with
      | true =>
        have := ARel.two hv (.bool true)
        exact .tuple this.1 this.2
      | false => exact hv
  · exact (Run.fail.1 h).elim
theorem lookup2_does (ok : E.Ok P) (hw : WRel E.G B ι st w) {t : TypeId} {x x' ix ix' v : Value} {cok : Bool} (hx : VRel ι x x') (hi : VRel ι ix ix') (h : Run (aLookup2 E t x ix cok) st v st') :
    st' = st ∧ Ans P ι w (Instr.lookup t x' ix' cok) v := by
  unfold aLookup2 at h
  split at h
  · rename_i r
    replace h := Run.bindLook h
    obtain ⟨o, eo, h⟩ := h
    split at h
    · rename_i l
      replace h := Run.bindOpt h
      obtain ⟨ti, et, h⟩ := h
      obtain ⟨r', rfl, hr⟩ := map_inv hx
      obtain ⟨κ, hκ⟩ := Ren.to_some hr
      obtain ⟨ro, hh, hro⟩ := hw.obj _ r' κ _ hκ eo
      cases hro with
      | table h1 h2 =>
      split at h
      · rename_i hd
        exact table_does ok et hd hh h1 h2 hi h
      · exact (Run.fail.1 h).elim
    · exact lookup_does ok hw hx hi h
  · exact lookup_does ok hw hx hi h
theorem sliceData_does (hw : WRel E.G B ι st w) {tys : Array TypeId} {ty : TypeId} {args args' : Array Value} {v : Value} (ha : ARel ι args args') (hs : args.size = 1) (h : Run (aSliceData args) st v st') :
    st' = st ∧ Ans P ι w (Builtin.unsafeSliceData_ tys ty args') v := by
  unfold aSliceData at h
  replace h := Run.bindOpt h
  obtain ⟨x, e1, h⟩ := h
  obtain ⟨x', e1', hx⟩ := ha.get? e1
  have haa := arr1 (ha.1.trans hs) e1'
  subst haa
  unfold Ans
  split at h
  · obtain ⟨rfl, rfl⟩ := Run.pure.1 h
    cases hx
    exact ⟨rfl, _, Lib.run_unsafeSliceData_nil w _ _ _ _, .ptr0⟩
  · rename_i a n c
    replace h := Run.bindGuard h
    obtain ⟨g, h⟩ := h
    obtain ⟨rfl, rfl⟩ := Run.pure.1 h
    obtain ⟨r, c', rfl, hr, hlb, hex, hgr⟩ := sl_inv hx
    have g := of_decide_eq_true g
    cases hx with
    | sl n h hc => exact ⟨rfl, _, Lib.run_unsafeSliceData_row w _ _ _ _ _ (by omega), .ptr h⟩
    | slg n h h0 hk g1 g2 hc => exact ⟨rfl, _, Lib.run_unsafeSliceData_row w _ _ _ _ _ (by omega), .ptr h⟩
    | slv n h g1 hc => exact ⟨rfl, _, Lib.run_unsafeSliceData_row w _ _ _ _ _ (by omega), .ptr h⟩
  · exact (Run.fail.1 h).elim
theorem unsafeString_does (ok : E.Ok P) (hw : WRel E.G B ι st w) {tys : Array TypeId} {ty : TypeId} {args args' : Array Value} {v : Value} (ha : ARel ι args args') (hs : args.size = 2) (hts : tys.size = 2) (h : Run (aUnsafeString E tys args) st v st') :
    Does P E.G B ι st w st' (Builtin.unsafeString_ tys ty args') fun ι' y => VRel ι' v y := by
  unfold aUnsafeString at h
  replace h := Run.bindOpt h
  obtain ⟨x, e1, h⟩ := h
  replace h := Run.bindOpt h
  obtain ⟨y, e2, h⟩ := h
  obtain ⟨x', e1', hx⟩ := ha.get? e1
  obtain ⟨y', e2', hy⟩ := ha.get? e2
  have haa := arr2 (ha.1.trans hs) e1' e2'
  subst haa
  have htt : ∃ a b, tys = #[a, b] := by
    refine ⟨tys[0], tys[1], arr2 hts ?_ ?_⟩ <;> exact Array.getElem?_eq_getElem _
  obtain ⟨pt, it, rfl⟩ := htt
  split at h
  · rename_i p n
    cases hy
    split at h
    · rename_i h0
      subst h0
      obtain ⟨rfl, rfl⟩ := Run.pure.1 h
      cases hx with
      | ptr0 => exact Does.same hw (Lib.run_unsafeString_none w _ _ _ _) (.str _)
      | ptr hh => exact Does.same hw (Lib.run_unsafeString_none w _ _ _ _) (.str _)
    · rename_i h0
      split at h
      · exact (Run.fail.1 h).elim
      · rename_i a
        replace h := Run.bindOpt h
        obtain ⟨pt2, e3, h⟩ := h
        cases e3
        replace h := Run.bindOpt h
        obtain ⟨tp, ep, h⟩ := h
        split at h
        · rename_i e hd
          replace h := Run.bindOpt h
          obtain ⟨te, ee, h⟩ := h
          replace h := Run.bindCells h
          obtain ⟨q, eq, h⟩ := h
          replace h := Run.bindGuard h
          obtain ⟨g, h⟩ := h
          replace h := Run.bindOpt h
          obtain ⟨ns, ens, h⟩ := h
          replace h := Run.bindGuard h
          obtain ⟨g8, h⟩ := h
          replace h := Run.bind.1 h
          obtain ⟨u, st1, h1, h⟩ := h
          obtain ⟨rfl, rfl⟩ := Run.pure.1 h
          obtain ⟨hn, hget⟩ := Run.put h1
          obtain ⟨g1, g2, g3, g4, g5, g6, g7, g9⟩ := of_decide_eq_true g
          obtain ⟨c0, t0, f0, g0⟩ := q
          simp only at eq hget ens g3 g5 g9
          subst g3
          obtain ⟨r, rfl, hr⟩ := ptr_inv hx
          obtain ⟨κ, c', t', fr, hk, hh, hs1, hc1, hf1, hg1, ht1⟩ := hw.cells hr eq
          rw [ht1 g9] at hh
          have hsh := shape_of hh
          have hext := ints_eq (rel_extract hs1 hc1 0 n.toNat (by simpa using g5)) (mapM_u8 _ _ ens)
          have hlen : ns.length = n.toNat := by
            have := congrArg Array.size hext
            simp only [Array.size_extract, List.size_toArray, List.length_map] at this
            omega
          have hl : (ns.map fun n => UInt8.ofNat n.toNat).length = n.toNat := by simp [hlen]
          have hnn : ((ns.map fun n => UInt8.ofNat n.toNat).length : Int) = n := by rw [hl]; omega
          have hrun := Lib.run_unsafeString_row (P := P) w pt it ty t0 (by rw [(ok.tab pt tp ep).1, hd]) (by rw [cellsOf_tab ok ee, g1]) r c'.size hsh (ns.map fun n => UInt8.ofNat n.toNat) (by intro e; rw [e] at hl; simp at hl; omega) (by rw [hl]; omega) (by rw [hl]; omega) ?_
          · rw [hnn] at hrun
            have hfz : ∃ fr', w.freeze ⟨r, 0, none⟩ (ns.map fun n => UInt8.ofNat n.toNat).length = setBlk w r (.cells c' t0 fr') := by
              refine ⟨if fr.1 == fr.2 then (0, 0 + (ns.map fun n => UInt8.ofNat n.toNat).length) else (min fr.1 0, max fr.2 (0 + (ns.map fun n => UInt8.ofNat n.toNat).length)), ?_⟩
              have hlt := lt_of_heap hh
              have hne : ¬ (ns.map fun n => UInt8.ofNat n.toNat).length = 0 := by rw [hl]; omega
              have hheap : (w.freeze ⟨r, 0, none⟩ (ns.map fun n => UInt8.ofNat n.toNat).length).heap = (setBlk w r (.cells c' t0 (if fr.1 == fr.2 then (0, 0 + (ns.map fun n => UInt8.ofNat n.toNat).length) else (min fr.1 0, max fr.2 (0 + (ns.map fun n => UInt8.ofNat n.toNat).length))))).heap := by
                apply Array.ext_getElem?
                intro k
                rw [setBlk_get w r _ hlt]
                unfold World.freeze
                rw [if_neg hne]
                simp only [Array.getElem?_modify]
                by_cases e : k = r
                · subst e; simp [hh]
                · rw [if_neg e, if_neg (fun x => e x.symm)]
              unfold World.freeze at hheap ⊢
              rw [if_neg hne] at hheap ⊢
              simp only [setBlk, World.mk.injEq, and_true, true_and] at hheap ⊢
              exact hheap
            obtain ⟨fr', hfz⟩ := hfz
            rw [hfz] at hrun
            rw [g2]
            exact ⟨ι, _, _, hrun, Post.turn hw hk g7 eq hget hn (.cells hs1 hc1 (fun h => by cases h) hg1), .str _⟩
          · intro j x hx
            rw [add_off, Nat.zero_add, cell_of hh]
            have hj : j < n.toNat := by
              have := (List.getElem?_eq_some_iff.1 hx).1
              omega
            have h2 := congrArg (fun a : Array Value => a[j]?) hext
            simp only [Array.getElem?_extract, List.getElem?_toArray, List.getElem?_map] at h2
            rw [if_pos (by omega), Nat.zero_add] at h2
            rw [h2]
            rw [List.getElem?_map] at hx
            cases hns : ns[j]? with
            | none => rw [hns] at hx; cases hx
            | some m =>
              rw [hns] at hx
              simp only [Option.map_some, Option.some.injEq] at hx
              have hm : 0 ≤ m ∧ m < 256 := by
                have := List.all_eq_true.1 g8 m (List.mem_of_getElem? hns)
                exact of_decide_eq_true this
              subst hx
              simp only [Option.map_some, Option.some.injEq, Value.int.injEq, true_and]
              rw [UInt8.toNat_ofNat']
              omega
        · exact (Run.fail.1 h).elim
  · exact (Run.fail.1 h).elim
end
end Go.Proofs.YtmmfpkkkpeapeaaGreatDoor.Ev
