/- The evaluator's append, copy, make, len, cap, min and max; each against the model's own: an append to a slice whose room isn't known has one abstract outcome for both ways. No condition. -/
import Derived.Test.YtmmfpkkkpeapeaaGreatDoorEvG
import Derived.WalkKit
set_option linter.unusedSectionVars false
set_option linter.unusedVariables false
set_option linter.unusedSimpArgs false
namespace Go.Proofs.YtmmfpkkkpeapeaaGreatDoor.Ev
open Go Go.RowKit
variable [Sym]

/-- What append grows into: the old elements, the new ones. -/
def aAppendS (E : Env) (argTypes : Array TypeId) (args : Array Value) : LM Value := do
  let st ← LM.ofOption argTypes[0]?
  let xt ← LM.ofOption argTypes[1]?
  let s ← LM.ofOption args[0]?
  let x ← LM.ofOption args[1]?
  let ti ← LM.ofOption (E.tab st)
  let xi ← LM.ofOption (E.tab xt)
  LM.guard (match xi.desc with | .int _ => false | _ => true)
  match ti.desc, s with
  | .slice e, .slice base len c => do
    let te ← LM.ofOption (E.tab e)
    let n ← LM.ofOption (lenOfV x)
    let new ← aFirst te.size n x
    LM.guard (decide (len + n < 1099511627776 ∧ 2 * (len + n) * te.bytes ≤ 281474976710656) && (match x with | .string _ => decide (te.size = 1) | .slice none m _ => decide (m = 0) | _ => true) && (match base with | none => decide (len = 0 ∧ c < 4611686018427387904) | _ => true))
    if len + n ≤ capLb c then do
      if new.size = 0 then pure (.slice base (len + n) c)
      else match base with
        | some a => do
          let p ← cellsAt a.block
          LM.guard (!p.2.2.1 && decide (E.G ≤ a.block ∧ a.off + len * te.size + new.size ≤ p.1.size) && new.toList.all cellOk)
          LM.put a.block (some (.cells (writeC p.1 (a.off + len * te.size) new.toList) p.2.1 p.2.2.1 p.2.2.2))
          pure (.slice (some a) (len + n) c)
        | none => LM.fail
    else if c < 4611686018427387904 then do
      let old ← aFirst te.size len s
      let b ← LM.new (.cells (old ++ new) e false te.size)
      pure (.slice (some ⟨b, 0, none⟩) (len + n) (4611686018427387904 + (len + n)))
    else match base with
      | some a => do
        let p ← cellsAt a.block
        LM.guard (!p.2.2.1 && decide (c < 9223372036854775808 ∧ E.G ≤ a.block ∧ len * te.size ≤ p.1.size ∧ p.2.1 = e ∧ p.2.2.2 = te.size ∧ te.size ≠ 0) && new.toList.all cellOk)
        LM.put a.block none
        let b ← LM.new (.cells (p.1.extract 0 (len * te.size) ++ new) e false te.size)
        pure (.slice (some ⟨b, 0, none⟩) (len + n) (4611686018427387904 + (len + n)))
      | none => LM.fail
  | _, _ => LM.fail
/-- What append grows into: the old elements, the new ones. -/
def aAppend (E : Env) (argTypes : Array TypeId) (args : Array Value) : LM Value := do
  let st ← LM.ofOption argTypes[0]?
  let xt ← LM.ofOption argTypes[1]?
  let s ← LM.ofOption args[0]?
  let x ← LM.ofOption args[1]?
  let ti ← LM.ofOption (E.tab st)
  let xi ← LM.ofOption (E.tab xt)
  LM.guard (match xi.desc with | .int _ => false | _ => true)
  match ti.desc, s with
  | .slice e, .slice base len c => do
    let te ← LM.ofOption (E.tab e)
    let n ← LM.ofOption (lenOfV x)
    let new ← aFirst te.size n x
    LM.guard (decide (len + n < 1099511627776 ∧ 2 * (len + n) * te.bytes ≤ 281474976710656) && (match x with | .string _ => decide (te.size = 1) | .slice none m _ => decide (m = 0) | _ => true) && (match base with | none => decide (len = 0 ∧ c < 4611686018427387904) | _ => true))
    if len + n ≤ capLb c then do
      if new.size = 0 then pure (.slice base (len + n) c)
      else match base with
        | some a => do
          let p ← cellsAt a.block
          LM.guard (!p.2.2.1 && decide (E.G ≤ a.block ∧ a.off + len * te.size + new.size ≤ p.1.size) && new.toList.all cellOk)
          LM.put a.block (some (.cells (writeF p.1 (a.off + len * te.size) new.toList) p.2.1 p.2.2.1 p.2.2.2))
          pure (.slice (some a) (len + n) c)
        | none => LM.fail
    else if c < 4611686018427387904 then do
      let old ← aFirst te.size len s
      let b ← LM.new (.cells (cat old new) e false te.size)
      pure (.slice (some ⟨b, 0, none⟩) (len + n) (4611686018427387904 + (len + n)))
    else match base with
      | some a => do
        let p ← cellsAt a.block
        LM.guard (!p.2.2.1 && decide (c < 9223372036854775808 ∧ E.G ≤ a.block ∧ len * te.size ≤ p.1.size ∧ p.2.1 = e ∧ p.2.2.2 = te.size ∧ te.size ≠ 0) && new.toList.all cellOk)
        LM.put a.block none
        let b ← LM.new (.cells (cat (cut p.1 0 (len * te.size)) new) e false te.size)
        pure (.slice (some ⟨b, 0, none⟩) (len + n) (4611686018427387904 + (len + n)))
      | none => LM.fail
  | _, _ => LM.fail
theorem aAppend_eq : aAppend = aAppendS := by
  funext E args tys
  unfold aAppend aAppendS
  simp only [cut_eq0, cat_eq, writeF_eq]
section
variable {E : Env} {P : Program} {G : Nat} {B : Bd} {ι : Ren} {st st' : St} {w : World}
theorem append_rel {c c' d d' : Array Value} (h : ARel ι c c') (k : ARel ι d d') : ARel ι (c ++ d) (c' ++ d') := h.append k
theorem first_size (hw : WRel G B ι st w) {size n : Nat} {x x' : Value} {c : Array Value} (hx : VRel ι x x') (hn : lenOfV x = some n) (h : Run (aFirst size n x) st c st') (hs : (∃ s, x = .string s) → size = 1) (hnil : ∀ m k, x = .slice none m k → m = 0) : c.size = n * size := by
  rw [aFirst_eq] at h
  unfold aFirstS at h
  split at h
  · rename_i a m k
    replace h := Run.bind.1 h
    obtain ⟨p, st1, h1, h⟩ := h
    replace h1 := Run.cellsAt h1
    obtain ⟨ec, rfl⟩ := h1
    replace h := Run.bind.1 h
    obtain ⟨u, st1, h1, h⟩ := h
    replace h1 := Run.guard.1 h1
    obtain ⟨g1, rfl⟩ := h1
    obtain ⟨rfl, rfl⟩ := Run.pure.1 h
    have g1 := of_decide_eq_true g1
    simp only [Array.size_extract]
    omega
  · rename_i m k
    obtain ⟨rfl, rfl⟩ := Run.pure.1 h
    cases hn
    rw [hnil _ _ rfl]; simp
  · rename_i s
    obtain ⟨rfl, rfl⟩ := Run.pure.1 h
    cases hn
    rw [hs ⟨_, rfl⟩]
    have h3 : (s.extract 0 s.data.size).size = s.data.size := by
      rw [ByteArray.size_extract]
      show min s.data.size s.data.size - 0 = s.data.size
      omega
    have h4 : (s.extract 0 s.data.size).data.size = s.data.size := h3
    rw [Array.size_map, h4]; omega
  · exact (Run.fail.1 h).elim
/-- The model's append, where there is room. -/
theorem real_fits (ok : E.Ok P) {stt xt ty e : TypeId} {ti xi te : TI} (et : E.tab stt = some ti) (ex : E.tab xt = some xi) (hd : ti.desc = .slice e) (hx : (match xi.desc with | .int _ => false | _ => true) = true) (ee : E.tab e = some te)
    {base : Option Addr} {len cap n : Nat} {x' : Value} (hn : (Builtin.lenOf x').run P w = .ok n w) {new' : Array Value} (hf : (Builtin.firstCells te.size n x').run P w = .ok new' w) (hfit : len + n ≤ cap) (w' : World)
    (hst : match base with | none => w' = w | some a => (storeCells (a.add (len * te.size)) new'.toList).run P w = .ok () w') :
    (Builtin.append_ #[stt, xt] ty #[.slice base len cap, x']).run P w = .ok (.slice base (len + n) cap) w' := by
  have hu := run_underlying_tab ok et w
  have hux := run_underlying_tab ok ex w
  obtain ⟨dd, hdd⟩ : ∃ dd, xi.desc = dd := ⟨_, rfl⟩
  rw [hdd] at hx hux
  cases dd <;> first
    | (simp at hx; done)
    | (simp only [Builtin.append_, List.getElem?_toArray, List.getElem?_cons_zero, List.getElem?_cons_succ, Sem.run_bind, hu, Result.andThen_ok, hd, run_sizeOf_tab ok ee, hux, Sem.run_pure, Bool.false_eq_true, if_false, hn, Bool.not_false, if_true, hf, if_pos hfit]
       cases base with
       | none => simp only at hst; subst hst; rfl
       | some a => simp only at hst; simp [hst])
/-- The model's append, where there is none: one draw, a new row. -/
theorem real_grows (ok : E.Ok P) {stt xt ty e : TypeId} {ti xi te : TI} (et : E.tab stt = some ti) (ex : E.tab xt = some xi) (hd : ti.desc = .slice e) (hx : (match xi.desc with | .int _ => false | _ => true) = true) (ee : E.tab e = some te)
    {base : Option Addr} {len cap n : Nat} {x' : Value} (hn : (Builtin.lenOf x').run P w = .ok n w) {new' old' : Array Value} (hf : (Builtin.firstCells te.size n x').run P w.drew = .ok new' w.drew) (ho : (Builtin.firstCells te.size len (.slice base len cap)).run P w.drew = .ok old' w.drew)
    (hfit : ¬ len + n ≤ cap) (hb1 : len + n < 1099511627776) (hb2 : 2 * (len + n) * te.bytes ≤ 281474976710656) (ho1 : old'.size = len * te.size) (hn1 : new'.size = n * te.size) :
    ∃ c' rest, len + n ≤ c' ∧ (old' ++ new' ++ rest).size = c' * te.size ∧ (Builtin.append_ #[stt, xt] ty #[.slice base len cap, x']).run P w = .ok (.slice (some ⟨w.heap.size, 0, none⟩) (len + n) c') (w.drew.alloc (.cells (old' ++ new' ++ rest) e)) := by
  have hu := run_underlying_tab ok et w
  have hux := run_underlying_tab ok ex w
  have hz := (ok.zero e te ee).2
  obtain ⟨info, hi1, hi2, hi3, hi4⟩ := run_typeInfo_tab ok ee w
  refine ⟨grownCap w (len + n) cap e, Builtin.zeroCells te.zero.cells (grownCap w (len + n) cap e - (len + n)), ?_, ?_, ?_⟩
  · unfold grownCap Question.cut; simp only; omega
  · have hge : len + n ≤ grownCap w (len + n) cap e := by unfold grownCap Question.cut; simp only; omega
    have hzs : (Builtin.zeroCells te.zero.cells (grownCap w (len + n) cap e - (len + n))).size = (grownCap w (len + n) cap e - (len + n)) * te.size := by simp [Builtin.zeroCells, hz]
    rw [Array.size_append, Array.size_append, ho1, hn1, hzs]
    obtain ⟨d, hd'⟩ : ∃ d, grownCap w (len + n) cap e = len + n + d := ⟨_, (Nat.add_sub_cancel' hge).symm⟩
    rw [hd']
    simp only [Nat.add_sub_cancel_left, Nat.add_mul]
  · have hcap : ¬ Builtin.nextslicecap (len + n) cap * te.bytes > 2 ^ 48 := by
      have h1 := nextslicecap_le (need := len + n) (old := cap) (by omega)
      have h2 : Builtin.nextslicecap (len + n) cap * te.bytes ≤ 2 * (len + n) * te.bytes := Nat.mul_le_mul_right _ h1
      have h3 : (2 : Nat) ^ 48 = 281474976710656 := by decide
      omega
    have hforced : (Question.appendCap (len + n) cap e).forced = false := rfl
    have i2 : (typeInfo e).run P w.drew = .ok info w.drew := by
      obtain ⟨info2, hj1, hj2⟩ := run_typeInfo_tab ok ee w.drew
      have : info2 = info := by
        obtain ⟨inf, k1, _⟩ := (ok.tab e te ee).2
        simp [typeInfo, k1] at hj1 hi1
        rw [← hj1, ← hi1]
      rw [hj1, this]
    have z2 := run_zero_tab ok ee w.drew
    have hlt : ¬ (9223372036854775807 < (len : Int) + (n : Int)) := by omega
    obtain ⟨dd, hdd⟩ : ∃ dd, xi.desc = dd := ⟨_, rfl⟩
    rw [hdd] at hx hux
    cases dd <;> first
      | (simp at hx; done)
      | (simp only [Builtin.append_, List.getElem?_toArray, List.getElem?_cons_zero, List.getElem?_cons_succ, Sem.run_bind, hu, Result.andThen_ok, hd, run_sizeOf_tab ok ee, hux, Sem.run_pure, Bool.false_eq_true, if_false, hn, Bool.not_false, if_true, if_neg hfit]
         simp [hi1, hi3, hcap, IntKind.max_i64, hlt, hforced, i2, ho, hf, z2, newRow, grownCap, Question.cut])
theorem writeC_get : ∀ (vs : List Value) (c : Array Value) (o i : Nat), o + vs.length ≤ c.size → (writeC c o vs).getD i undef = if o ≤ i ∧ i < o + vs.length then vs.getD (i - o) undef else c.getD i undef
  | [], c, o, i, h => by rw [if_neg (by simp)]; rfl
  | v :: vs, c, o, i, h => by
    simp only [List.length_cons] at h
    unfold writeC
    rw [writeC_get vs _ (o + 1) i (by simp; omega)]
    by_cases h1 : i = o
    · subst h1
      rw [if_neg (by omega), if_pos (by simp)]
      simp [Array.getD_eq_getD_getElem?, show i < c.size by omega]
    · by_cases h2 : o + 1 ≤ i ∧ i < o + 1 + vs.length
      · rw [if_pos h2, if_pos (by simp; omega)]
        obtain ⟨d, hd⟩ : ∃ d, i - o = d + 1 := ⟨i - o - 1, by omega⟩
        rw [hd, show i - (o + 1) = d by omega]; rfl
      · rw [if_neg h2, if_neg (by simp; omega)]
        simp only [Array.getD_eq_getD_getElem?, Array.getElem?_setIfInBounds]
        rw [if_neg (by omega)]
theorem new_row_rel {c c' : Array Value} (h : ARel ι c c') (rest : Array Value) : c.size ≤ (c' ++ rest).size ∧ ∀ i, i < c.size → VRel ι (c.getD i undef) ((c' ++ rest).getD i undef) := by
  refine ⟨by simp [h.1], fun i hi => ?_⟩
  have := h.2 i hi
  simp only [Array.getD_eq_getD_getElem?] at this ⊢
  rw [Array.getElem?_append_left (by rw [h.1]; exact hi)]
  exact this
theorem append_does (ok : E.Ok P) (hw : WRel E.G B ι st w) {tys : Array TypeId} {ty : TypeId} {args args' : Array Value} {v : Value} (ha : ARel ι args args') (htys : tys.size = 2) (hargs : args.size = 2) (hfree : Free ι st.next st'.next) (h : Run (aAppend E tys args) st v st') :
    Does P E.G B ι st w st' (Builtin.append_ tys ty args') fun ι' y => VRel ι' v y := by
  rw [aAppend_eq] at h
  unfold aAppendS at h
  replace h := Run.bind.1 h
  obtain ⟨stt, st1, h1, h⟩ := h
  replace h1 := Run.ofOption.1 h1
  obtain ⟨e1, rfl⟩ := h1
  replace h := Run.bind.1 h
  obtain ⟨xt, st1, h1, h⟩ := h
  replace h1 := Run.ofOption.1 h1
  obtain ⟨e2, rfl⟩ := h1
  replace h := Run.bind.1 h
  obtain ⟨s, st1, h1, h⟩ := h
  replace h1 := Run.ofOption.1 h1
  obtain ⟨e3, rfl⟩ := h1
  replace h := Run.bind.1 h
  obtain ⟨x, st1, h1, h⟩ := h
  replace h1 := Run.ofOption.1 h1
  obtain ⟨e4, rfl⟩ := h1
  replace h := Run.bind.1 h
  obtain ⟨ti, st1, h1, h⟩ := h
  replace h1 := Run.ofOption.1 h1
  obtain ⟨et, rfl⟩ := h1
  replace h := Run.bind.1 h
  obtain ⟨xi, st1, h1, h⟩ := h
  replace h1 := Run.ofOption.1 h1
  obtain ⟨ex, rfl⟩ := h1
  replace h := Run.bind.1 h
  obtain ⟨u, st1, h1, h⟩ := h
  replace h1 := Run.guard.1 h1
  obtain ⟨hx, rfl⟩ := h1
  obtain ⟨s', e3', hs⟩ := ha.get? e3
  obtain ⟨x', e4', hxx⟩ := ha.get? e4
  have htt : tys = #[stt, xt] := by
    apply Array.ext_getElem?
    intro i
    match i with
    | 0 => rw [e1]; rfl
    | 1 => rw [e2]; rfl
    | k + 2 => rw [Array.getElem?_eq_none (by omega)]; rfl
  have haa : args' = #[s', x'] := by
    apply Array.ext_getElem?
    intro i
    match i with
    | 0 => rw [e3']; rfl
    | 1 => rw [e4']; rfl
    | k + 2 => rw [Array.getElem?_eq_none (by rw [ha.1]; omega)]; rfl
  subst htt haa
  clear e1 e2 e3 e4 e3' e4' htys hargs ha
  split at h
  · rename_i e base len c hd
    replace h := Run.bind.1 h
    obtain ⟨te, st1, h1, h⟩ := h
    replace h1 := Run.ofOption.1 h1
    obtain ⟨ee, rfl⟩ := h1
    replace h := Run.bind.1 h
    obtain ⟨n, st1, h1, h⟩ := h
    replace h1 := Run.ofOption.1 h1
    obtain ⟨en, rfl⟩ := h1
    replace h := Run.bind.1 h
    obtain ⟨new, st1, hnew, h⟩ := h
    obtain ⟨rfl, new', hnew1, hnew2⟩ := first_run (P := P) hw hxx hnew
    replace h := Run.bind.1 h
    obtain ⟨u, st2, h1, h⟩ := h
    replace h1 := Run.guard.1 h1
    obtain ⟨g1, rfl⟩ := h1
    simp only [Bool.and_eq_true, decide_eq_true_eq] at g1
    obtain ⟨⟨⟨g1, g2⟩, g3⟩, g4⟩ := g1
    have hn := lenOf_run (P := P) (w := w) hxx en
    have hsz : new.size = n * te.size := by
      refine first_size hw hxx en hnew ?_ ?_
      · rintro ⟨s, rfl⟩; simpa using g3
      · rintro m k rfl; simpa using g3
    split at h
    · rename_i hfit
      split at h
      · -- nothing is added
        rename_i h0
        obtain ⟨rfl, rfl⟩ := Run.pure.1 h
        have h0' : new'.toList = [] := by
          have : new'.size = 0 := by rw [hnew2.1, h0]
          simpa using this
        cases base with
        | none =>
          cases hs
          refine Does.same hw (y := .slice none (len + n) c) (real_fits ok et ex hd hx ee hn hnew1 ?_ w rfl) (.sl0 _ _)
          have : c < 4611686018427387904 := by simp at g4; exact g4.2
          unfold capLb at hfit; rw [if_pos this] at hfit; exact hfit
        | some a =>
          obtain ⟨r, c', rfl, hr, hlb, hex, hgr⟩ := sl_inv hs
          refine Does.same hw (y := .slice (some ⟨r, a.off, none⟩) (len + n) c') (real_fits ok et ex hd hx ee hn hnew1 (by omega) w (by rw [h0']; rfl)) ?_
          cases hs with
          | sl n h hc => exact .sl _ h hc
          | slg n h h0 hk g1 g2 hc => exact .slg _ h h0 hk g1 g2 hc
          | slv n h g1 hc => exact .slv _ h g1 hc
      · split at h
        · -- in its place
          rename_i a
          replace h := Run.bind.1 h
          obtain ⟨p, st2, h1, h⟩ := h
          replace h1 := Run.cellsAt h1
          obtain ⟨ec, rfl⟩ := h1
          replace h := Run.bind.1 h
          obtain ⟨u, st2, h1, h⟩ := h
          replace h1 := Run.guard.1 h1
          obtain ⟨k1, rfl⟩ := h1
          replace h := Run.bind.1 h
          obtain ⟨u2, st2, h1, h⟩ := h
          obtain ⟨rfl, rfl⟩ := Run.pure.1 h
          obtain ⟨hnx, hget⟩ := Run.put h1
          obtain ⟨c0, t0, f0, gr⟩ := p
          simp only [Bool.and_eq_true, decide_eq_true_eq, Bool.not_eq_true'] at k1 ec hget
          obtain ⟨⟨rfl, k2, k3⟩, k4⟩ := k1
          obtain ⟨r, c', rfl, hr, hlb, hex, hgr⟩ := sl_inv hs
          obtain ⟨κ, c1, fr, hk, hh, hs1, hc1, hf1, hg1⟩ := hw.cellsT hr ec
          have hvs : ∀ (j : Nat) (v : Value), new.toList[j]? = some v → ∃ v', new'.toList[j]? = some v' ∧ VRel ι v v' := by
            intro j v e
            rw [Array.getElem?_toList] at e ⊢
            exact hnew2.get? e
          have hl : new'.toList.length = new.toList.length := by simp [hnew2.1]
          have hone := all_one hl hvs k4
          refine ⟨ι, setBlk w r (.cells (writeC c1 (a.off + len * te.size) new'.toList) t0 fr), .slice (some ⟨r, a.off, none⟩) (len + n) c', real_fits ok et ex hd hx ee hn hnew1 (by omega) _ ?_, write_post hw hk k2 ec hh hs1 hc1 (hf1 rfl) hg1 hl hvs hget hnx, ?_⟩
          · simp only [add_off]
            have := run_storeCells_of P (r := r) (t := t0) (fr := fr) (a.off + len * te.size) (hf1 rfl) new'.toList 0 w c1 hh hone (by simp [hnew2.1]; omega)
            exact this
          · cases hs with
            | sl n h hc => exact .sl _ h hc
            | slg n h h0 hk g1 g2 hc => exact .slg _ h h0 hk g1 g2 hc
            | slv n h g1 hc => exact .slv _ h g1 hc
        · exact (Run.fail.1 h).elim
    · rename_i hfit
      have hwd := hw.drew
      split at h
      · -- a new row, for certain
        rename_i hc
        replace h := Run.bind.1 h
        obtain ⟨old, st2, hold, h⟩ := h
        obtain ⟨rfl, old', hold1, hold2⟩ := first_run (P := P) (w := w.drew) hwd hs hold
        replace h := Run.bind.1 h
        obtain ⟨b, st2, h1, h⟩ := h
        obtain ⟨rfl, rfl⟩ := Run.pure.1 h
        obtain ⟨_, new'', hnewd, hnew2d⟩ := first_run (P := P) (w := w.drew) hwd hxx hnew
        have hosz : old.size = len * te.size := by
          refine first_size hwd hs (n := len) rfl hold ?_ ?_
          · rintro ⟨s, h⟩; cases h
          · rintro m k h; cases h; simp at g4; exact g4.1
        have hs' : ∃ base' , s' = .slice base' len c := by
          cases hs with
          | sl0 => exact ⟨_, rfl⟩
          | sl n h hc => exact ⟨_, rfl⟩
          | slg n h h0 hk g1 g2 hc => omega
          | slv n h g1 hc => omega
        obtain ⟨base', rfl⟩ := hs'
        unfold capLb at hfit; rw [if_pos hc] at hfit
        obtain ⟨cc, rest, r1, r2, r3⟩ := real_grows (ty := ty) (w := w) ok et ex hd hx ee hn hnewd hold1 hfit g1 g2 (by rw [hold2.1, hosz]) (by rw [hnew2d.1, hsz])
        obtain ⟨n1, n2⟩ := new_row_rel (hold2.append hnew2d) rest
        obtain ⟨rfl, hp⟩ := newCells_post (B := B) (w := w.drew) (c' := old' ++ new'' ++ rest) (fr := (0, 0)) hwd cc te.size hfree h1 n1 n2 (fun _ => rfl) (fun _ => r2)
        refine ⟨_, _, _, r3, ⟨hp.rel, hp.le, hp.ext, ?_⟩, .slg _ ⟨upd_to_same _ _ _ _, rfl, rfl, rfl⟩ rfl (upd_same _ _ _ _) (by omega) (by omega) (by omega)⟩
        exact ⟨hp.below.os, hp.below.tape, hp.below.output, hp.below.size, hp.below.block⟩
      · rename_i hc
        split at h
        · -- perhaps
          rename_i a
          replace h := Run.bind.1 h
          obtain ⟨p, st2, h1, h⟩ := h
          replace h1 := Run.cellsAt h1
          obtain ⟨ec, rfl⟩ := h1
          replace h := Run.bind.1 h
          obtain ⟨u, st2, h1, h⟩ := h
          replace h1 := Run.guard.1 h1
          obtain ⟨k1, rfl⟩ := h1
          replace h := Run.bind.1 h
          obtain ⟨u2, st3, h1, h⟩ := h
          replace h := Run.bind.1 h
          obtain ⟨b, st4, h2, h⟩ := h
          obtain ⟨rfl, rfl⟩ := Run.pure.1 h
          obtain ⟨hnx, hget⟩ := Run.put h1
          obtain ⟨rfl, hnx2, hget2⟩ := Run.new h2
          obtain ⟨c0, t0, f0, gr⟩ := p
          simp only [Bool.and_eq_true, decide_eq_true_eq, Bool.not_eq_true'] at k1 ec hget hget2
          obtain ⟨⟨rfl, k2, k3, k5, rfl, rfl, k6⟩, k4⟩ := k1
          obtain ⟨r, c', rfl, hr, hlb, hex, hgr⟩ := sl_inv hs
          obtain ⟨ha0, hk0⟩ := hgr (by omega) k2
          obtain ⟨κ, c1, fr, hk, hh, hs1, hc1, hf1, hg1⟩ := hw.cellsT hr ec
          have hκ : κ = c' := by rw [hk0] at hk; cases hk; rfl
          subst hκ
          have hsize : c1.size = κ * te.size := hg1 k6
          have hfr : ι st2.next = none := hfree _ (Nat.le_refl _) (by rw [hnx2, hnx]; omega)
          rw [hnx] at hget2 hnx2
          by_cases hroom : len + n ≤ κ
          · -- in its place
            have hvs : ∀ (j : Nat) (v : Value), new.toList[j]? = some v → ∃ v', new'.toList[j]? = some v' ∧ VRel ι v v' := by
              intro j v e
              rw [Array.getElem?_toList] at e ⊢
              exact hnew2.get? e
            have hl : new'.toList.length = new.toList.length := by simp [hnew2.1]
            have hone := all_one hl hvs k4
            have hbound : len * te.size + n * te.size ≤ κ * te.size := by
              rw [← Nat.add_mul]; exact Nat.mul_le_mul_right _ hroom
            have hpost := Post.renew (st' := st') (G := E.G) (B := B) (o := .cells (c0.extract 0 (len * te.size) ++ new) t0 false te.size) (ro := .cells (writeC c1 (len * te.size) new'.toList) t0 fr) hw hk k3 ec hfr (fun x => by rw [hget2, hget]) hnx2 ?_
            · refine ⟨_, _, .slice (some ⟨r, a.off, none⟩) (len + n) κ, real_fits ok et ex hd hx ee hn hnew1 hroom _ ?_, hpost, ?_⟩
              · simp only [ha0, add_off, Nat.zero_add]
                exact run_storeCells_of P (r := r) (t := t0) (fr := fr) (len * te.size) (hf1 rfl) new'.toList 0 w c1 hh hone (by simp [hnew2.1]; omega)
              · rw [ha0]
                rw [hnx]
                exact .slg _ ⟨upd_to_same _ _ _ _, rfl, rfl, rfl⟩ rfl (upd_same _ _ _ _) (by omega) (by omega) (by omega)
            · refine .cells ?_ (fun i hi => ?_) (fun _ => hf1 rfl) (fun _ => by rw [writeC_size]; exact hsize)
              · rw [writeC_size]; simp only [Array.size_append, Array.size_extract]; omega
              · simp only [Array.size_append, Array.size_extract] at hi
                refine (VRel.mono (upd_le hfr)) ?_
                rw [writeC_get]
                · by_cases hi1 : i < len * te.size
                  · rw [if_neg (by omega)]
                    have := hc1 i (by omega)
                    simp only [Array.getD_eq_getD_getElem?] at this ⊢
                    rw [Array.getElem?_append_left (by simp; omega), Array.getElem?_extract, if_pos (by omega), Nat.zero_add]
                    exact this
                  · rw [if_pos (by simp [hnew2.1]; omega)]
                    have := hnew2.2 (i - len * te.size) (by omega)
                    simp only [Array.getD_eq_getD_getElem?] at this ⊢
                    rw [Array.getElem?_append_right (by simp; omega)]
                    have e1 : i - (c0.extract 0 (len * te.size)).size = i - len * te.size := by simp; omega
                    rw [e1]
                    rw [List.getD_eq_getElem?_getD, Array.getElem?_toList]
                    exact this
                · simp [hnew2.1]; omega
          · -- a new row
            have hold : (Builtin.firstCells te.size len (.slice (some ⟨r, a.off, none⟩) len κ)).run P w.drew = .ok (c1.extract 0 (len * te.size)) w.drew := by
              simp only [Builtin.firstCells, ha0]
              have := run_loadCells_of P (w := w.drew) hh 0 (len * te.size) (by omega)
              simpa using this
            obtain ⟨_, new'', hnewd, hnew2d⟩ := first_run (P := P) (w := w.drew) hwd hxx hnew
            obtain ⟨cc, rest, r1, r2, r3⟩ := real_grows (ty := ty) (w := w) ok et ex hd hx ee hn hnewd hold hroom g1 g2 (by simp; omega) (by rw [hnew2d.1, hsz])
            have hrel := (rel_extract hs1 hc1 0 (len * te.size) k5).append hnew2d
            obtain ⟨n1, n2⟩ := new_row_rel hrel rest
            have hkill := Post.kill (st' := st3) hwd hget (by omega)
            have hfr3 : ι st3.next = none := by rw [hnx]; exact hfr
            have hnew3 := Post.alloc (st' := st') (o := .cells (c0.extract 0 (len * te.size) ++ new) t0 false te.size) (ro := .cells (c1.extract 0 (len * te.size) ++ new'' ++ rest) t0 (0, 0)) cc hkill.rel hfr3 (fun x => by rw [hget2, hnx]) (by rw [hnx2, hnx]) (.cells n1 (fun i hi => (n2 i hi).mono (upd_le hfr3)) (fun _ => rfl) (fun _ => r2))
            have hp := hkill.trans hnew3 (by omega) (by omega)
            refine ⟨_, _, _, r3, ⟨hp.rel, hp.le, hp.ext, ⟨hp.below.os, hp.below.tape, hp.below.output, hp.below.size, hp.below.block⟩⟩, .slg _ ⟨upd_to_same _ _ _ _, rfl, rfl, rfl⟩ rfl (upd_same _ _ _ _) (by omega) (by omega) (by omega)⟩
        · exact (Run.fail.1 h).elim
  · exact (Run.fail.1 h).elim
end
end Go.Proofs.YtmmfpkkkpeapeaaGreatDoor.Ev
