/- The evaluator's iterators and its remaining built-in calls: len, cap, max, min, copy, make. No condition. -/
import Derived.Test.YtmmfpkkkpeapeaaGreatDoorEvJ
set_option linter.unusedSectionVars false
set_option linter.unusedVariables false
set_option linter.unusedSimpArgs false
namespace Go.Proofs.YtmmfpkkkpeapeaaGreatDoor.Ev
open Go Go.RowKit
variable [Sym]

def aRange (E : Env) (t : TypeId) (x : Value) : LM Value := do
  let ti ← LM.ofOption (E.tab t)
  match ti.desc, x with
  | .string, .string s => do
    let b ← LM.new (.other (.stringIter s 0))
    pure (.pointer (some ⟨b, 0, none⟩))
  | .map _ _, .map none => do
    let b ← LM.new (.other (.mapIter none 0 #[] 0))
    pure (.pointer (some ⟨b, 0, none⟩))
  | .map _ _, .map (some m) => do
    let p ← mapAt m
    let b ← LM.new (.other (.mapIter (some m) p.2 #[] p.2))
    pure (.pointer (some ⟨b, 0, none⟩))
  | _, _ => LM.fail
def iterAt (v : Value) : LM (Nat × AObj) := do
  let a ← addrOf v
  LM.guard (decide (a.off = 0))
  let o ← LM.look a.block
  pure (a.block, o)
def aNext (E : Env) (it : Value) (isString : Bool) : LM Value := do
  let q ← iterAt it
  match q.2, isString with
  | .other (.stringIter s pos), true =>
    if pos < s.size then do
      LM.guard (decide (E.G ≤ q.1))
      LM.put q.1 (some (.other (.stringIter s (pos + (Utf8.decode s pos).2))))
      pure (.tuple #[.bool true, goInt pos, .int .i32 (Utf8.decode s pos).1])
    else pure (.tuple #[.bool false])
  | .other (.mapIter none _ _ _), false => pure (.tuple #[.bool false])
  | .other (.mapIter (some m) since seen last), false => do
    let p ← mapAt m
    LM.guard (!(!seen.isEmpty && !p.1.isEmpty && p.1.toList.all (fun e => decide (e.born ≥ last))))
    let left := p.1.toList.filter fun e => !seen.contains e.born
    let old := left.filter fun e => decide (e.born < since)
    let new := left.filter fun e => decide (e.born ≥ since)
    match old, new with
    | [], [] => pure (.tuple #[.bool false])
    | [e], [] => do
      LM.guard (decide (E.G ≤ q.1))
      LM.put q.1 (some (.other (.mapIter (some m) since (seen.push e.born) p.2)))
      pure (.tuple #[.bool true, e.key, e.val])
    | _, _ => LM.fail
  | _, _ => LM.fail
def aEntry (it : Value) : LM Value := do
  let q ← iterAt it
  match q.2 with
  | .other (.mapIter (some m) _ seen stepped) => do
    let stamp ← LM.ofOption seen.back?
    let p ← mapAt m
    LM.guard (decide (p.2 = stepped))
    let e ← LM.ofOption (p.1.toList.find? fun e => e.born == stamp)
    pure (.tuple #[e.key, e.val])
  | _ => LM.fail
section
variable {E : Env} {P : Program} {B : Bd} {ι : Ren} {st st' : St} {w : World}
theorem newObj_post {G : Nat} (hw : WRel G B ι st w) {b : Nat} {o : AObj} {ro : Obj} (hfree : Free ι st.next st'.next) (hr : Run (LM.new o) st b st') (ho : ORel ι 0 o ro) : b = st.next ∧ Post G B ι st w st' (upd ι st.next w.heap.size 0) (w.alloc ro) := by
  obtain ⟨rfl, hn, hget⟩ := Run.new hr
  have hfr : ι st.next = none := hfree _ (Nat.le_refl _) (by omega)
  exact ⟨rfl, Post.alloc 0 hw hfr hget hn (ho.mono (upd_le hfr))⟩
theorem range_does (ok : E.Ok P) (hw : WRel E.G B ι st w) {t : TypeId} {x x' v : Value} (hx : VRel ι x x') (hfree : Free ι st.next st'.next) (h : Run (aRange E t x) st v st') :
    Does P E.G B ι st w st' (Instr.range t x') fun ι' y => VRel ι' v y := by
  unfold aRange at h
  replace h := Run.bindOpt h
  obtain ⟨ti, et, h⟩ := h
  have hu := run_underlying_tab ok et w
  split at h
  · rename_i s hd
    replace h := Run.bind.1 h
    obtain ⟨b, st1, h1, h⟩ := h
    obtain ⟨rfl, rfl⟩ := Run.pure.1 h
    cases hx
    obtain ⟨rfl, hp⟩ := newObj_post (B := B) (w := w) (ro := .stringIter s 0) hw hfree h1 (.siter _ _)
    refine ⟨_, _, .pointer (some ⟨w.heap.size, 0, none⟩), ?_, hp, .ptr ⟨upd_to_same _ _ _ _, rfl, rfl, rfl⟩⟩
    simp only [Instr.range, Sem.run_bind, hu, Result.andThen_ok, hd, Sem.run_pure]
    rfl
  · rename_i kt vt hd
    replace h := Run.bind.1 h
    obtain ⟨b, st1, h1, h⟩ := h
    obtain ⟨rfl, rfl⟩ := Run.pure.1 h
    cases hx
    obtain ⟨rfl, hp⟩ := newObj_post (B := B) (w := w) (ro := .mapIter none 0 #[] 0) hw hfree h1 (.miter _ _ _ .none)
    refine ⟨_, _, .pointer (some ⟨w.heap.size, 0, none⟩), ?_, hp, .ptr ⟨upd_to_same _ _ _ _, rfl, rfl, rfl⟩⟩
    simp only [Instr.range, Sem.run_bind, hu, Result.andThen_ok, hd, Sem.run_pure]
    rfl
  · rename_i kt vt m hd
    replace h := Run.bindMap h
    obtain ⟨p, ep, h⟩ := h
    replace h := Run.bind.1 h
    obtain ⟨b, st1, h1, h⟩ := h
    obtain ⟨rfl, rfl⟩ := Run.pure.1 h
    obtain ⟨r, rfl, hr⟩ := map_inv hx
    obtain ⟨κ, es', hκ, hh, hl⟩ := hw.map hr ep
    obtain ⟨rfl, hp⟩ := newObj_post (B := B) (w := w) (ro := .mapIter (some r) p.2 #[] p.2) hw hfree h1 (.miter _ _ _ (.some hr))
    refine ⟨_, _, .pointer (some ⟨w.heap.size, 0, none⟩), ?_, hp, .ptr ⟨upd_to_same _ _ _ _, rfl, rfl, rfl⟩⟩
    simp only [Instr.range, Sem.run_bind, hu, Result.andThen_ok, hd, MapKept.run_getObj_map hh, Sem.run_pure]
    rfl
  · exact (Run.fail.1 h).elim
theorem iterAt_run {it : Value} {q : Nat × AObj} {st1 : St} (h : Run (iterAt it) st q st1) : st1 = st ∧ ∃ a : Addr, it = .pointer (some a) ∧ a.off = 0 ∧ q.1 = a.block ∧ st.get a.block = some q.2 := by
  unfold iterAt at h
  replace h := Run.bind.1 h
  obtain ⟨a, st2, h1, h⟩ := h
  obtain ⟨rfl, rfl⟩ := Run.addrOf h1
  replace h := Run.bindGuard h
  obtain ⟨g, h⟩ := h
  replace h := Run.bindLook h
  obtain ⟨o, eo, h⟩ := h
  obtain ⟨rfl, rfl⟩ := Run.pure.1 h
  exact ⟨rfl, a, rfl, of_decide_eq_true g, rfl, eo⟩
theorem getObj_of {r : Nat} {o : Obj} (h : w.heap[r]? = some o) (hn : ∀ c t f, o ≠ .cells c t f) : (getObj r).run P w = .ok o w := by
  cases o <;> first | exact absurd rfl (hn _ _ _) | simp [getObj, Sem.run, h]
theorem setObj_of {r : Nat} {o : Obj} (o2 : Obj) (h : w.heap[r]? = some o) (hn : ∀ c t f, o ≠ .cells c t f) : (setObj r o2).run P w = .ok () (setBlk w r o2) := by
  cases o <;> first | exact absurd rfl (hn _ _ _) | simp [setObj, Sem.run, h, setBlk]
theorem EL.nil_inv {l' : List MapEntry} (h : EL ι [] l') : l' = [] := by cases h; rfl
theorem EL.one_inv {e : MapEntry} {l' : List MapEntry} (h : EL ι [e] l') : ∃ e', l' = [e'] ∧ EntryRel ι e e' := by
  cases h with
  | cons h t => cases t; exact ⟨_, rfl, h⟩
theorem run_choose_one (n : Nat) (h : n ≤ 1) : (choose (.mapNext n)).run P w = .ok 0 w := by
  simp [choose, Sem.run, Question.forced, h]
theorem next_does (ok : E.Ok P) (hw : WRel E.G B ι st w) {ty : TypeId} {x x' v : Value} {s : Bool} (hx : VRel ι x x') (h : Run (aNext E x s) st v st') :
    Does P E.G B ι st w st' (Instr.next x' s ty) fun ι' y => VRel ι' v y := by
  unfold aNext at h
  replace h := Run.bind.1 h
  obtain ⟨q, st1, h1, h⟩ := h
  obtain ⟨rfl, a, rfl, ha, hq, eo⟩ := iterAt_run h1
  obtain ⟨b, o⟩ := q
  simp only at hq h eo
  subst hq
  obtain ⟨r, rfl, hr⟩ := ptr_inv hx
  rw [ha]
  obtain ⟨κ, hκ⟩ := Ren.to_some hr
  obtain ⟨ro, hh, hro⟩ := hw.obj _ r κ _ hκ eo
  split at h
  · rename_i s0 pos
    cases hro
    split at h
    · rename_i hlt
      replace h := Run.bindGuard h
      obtain ⟨g, h⟩ := h
      replace h := Run.bind.1 h
      obtain ⟨u, st2, h2, h⟩ := h
      obtain ⟨rfl, rfl⟩ := Run.pure.1 h
      obtain ⟨hn, hget⟩ := Run.put h2
      refine ⟨ι, setBlk w r (.stringIter s0 (pos + (Utf8.decode s0 pos).2)), .tuple #[.bool true, goInt pos, .int .i32 (Utf8.decode s0 pos).1], ?_, Post.turn hw hκ (of_decide_eq_true g) eo hget hn (.siter _ _), ?_⟩
      · simp only [Instr.next, Sem.run_bind, getObj_of hh nofun, Result.andThen_ok, if_pos hlt, setObj_of _ hh nofun, Sem.run_pure]
      · have := ((ARel.two (ι := ι) (.bool true) (.int .i64 (pos : Int))).push (.int .i32 (Utf8.decode s0 pos).1))
        exact .tuple this.1 this.2
    · rename_i hlt
      obtain ⟨rfl, rfl⟩ := Run.pure.1 h
      refine Does.same hw (y := .tuple #[.bool false]) ?_ ?_
      · simp only [Instr.next, Sem.run_bind, getObj_of hh nofun, Result.andThen_ok, if_neg hlt, Sem.run_pure]
      · have := ARel.one (ι := ι) (.bool false)
        exact .tuple this.1 this.2
  · rename_i i1 i2 i3
    cases hro with
    | miter _ _ _ hm =>
    cases hm
    obtain ⟨rfl, rfl⟩ := Run.pure.1 h
    refine Does.same hw (y := .tuple #[.bool false]) ?_ ?_
    · simp only [Instr.next, Sem.run_bind, getObj_of hh nofun, Result.andThen_ok, Sem.run_pure]
    · have := ARel.one (ι := ι) (.bool false)
      exact .tuple this.1 this.2
  · rename_i m since seen last
    cases hro with
    | miter _ _ _ hm =>
    cases hm with
    | some hm =>
    rename_i m'
    replace h := Run.bindMap h
    obtain ⟨p, ep, h⟩ := h
    replace h := Run.bindGuard h
    obtain ⟨g, h⟩ := h
    obtain ⟨κm, es', hκm, hhm, hl⟩ := hw.map hm ep
    have hsz := hl.get.1
    have hg : (!seen.isEmpty && !es'.isEmpty && es'.all (fun e => decide (e.born ≥ last))) = false := by
      have e1 := hl.all (fun b => decide (b ≥ last))
      have e2 : es'.isEmpty = p.1.isEmpty := by
        have : es'.size = p.1.size := by simpa using hsz
        simp only [Array.isEmpty, this]
      rw [e2, ← Array.all_toList, e1]
      rw [Bool.not_eq_true'] at g
      exact g
    have hleft := hl.filter (fun b => !seen.contains b)
    have hold := hleft.filter (fun b => decide (b < since))
    have hnew := hleft.filter (fun b => decide (b ≥ since))
    have lo : ((es'.filter fun e => !seen.contains e.born).filter fun e => decide (e.born < since)).toList = (es'.toList.filter fun e => !seen.contains e.born).filter fun e => decide (e.born < since) := by simp
    have ln : ((es'.filter fun e => !seen.contains e.born).filter fun e => decide (e.born ≥ since)).toList = (es'.toList.filter fun e => !seen.contains e.born).filter fun e => decide (e.born ≥ since) := by simp
    rw [← lo] at hold
    rw [← ln] at hnew
    have base : (Instr.next (.pointer (some ⟨r, 0, none⟩)) false ty).run P w = (do
        let left := es'.filter fun e => !seen.contains e.born
        let old := left.filter (·.born < since)
        let new := left.filter (·.born ≥ since)
        let candidates := (if old.isEmpty then #[none] else #[]) ++ (old ++ new).map some
        match candidates[← choose (.mapNext candidates.size)]? with
        | some (some e) =>
          setObj r (.mapIter (some m') since (seen.push e.born) p.2)
          pure (.tuple #[.bool true, e.key, e.val])
        | some none => pure (.tuple #[.bool false])
        | none => stuck "Next: no such candidate" : Sem Value).run P w := by
      simp only [Instr.next, Sem.run_bind, getObj_of hh nofun, getObj_of hhm nofun, Result.andThen_ok, hg, Bool.false_eq_true, if_false, Sem.run_pure]
      rfl
    split at h
    · rename_i ho hn
      rw [ho] at hold
      rw [hn] at hnew
      have e1 := Array.toList_inj.1 ((hold.nil_inv).trans (Array.toList_empty).symm)
      have e2 := Array.toList_inj.1 ((hnew.nil_inv).trans (Array.toList_empty).symm)
      obtain ⟨rfl, rfl⟩ := Run.pure.1 h
      refine Does.same hw (y := .tuple #[.bool false]) ?_ ?_
      · rw [base]
        dsimp only
        rw [e1, e2]
        have hc := run_choose_one (P := P) (w := w) 1 (Nat.le_refl _)
        simp [hc, Question.forced]
      · have := ARel.one (ι := ι) (.bool false)
        exact .tuple this.1 this.2
    · rename_i e ho hn
      rw [ho] at hold
      rw [hn] at hnew
      obtain ⟨e', e1, he⟩ := hold.one_inv
      have e1 : _ = #[e'] := Array.toList_inj.1 e1
      have e2 := Array.toList_inj.1 ((hnew.nil_inv).trans (Array.toList_empty).symm)
      replace h := Run.bindGuard h
      obtain ⟨g2, h⟩ := h
      replace h := Run.bind.1 h
      obtain ⟨u, st2, h2, h⟩ := h
      obtain ⟨rfl, rfl⟩ := Run.pure.1 h
      obtain ⟨hnx, hget⟩ := Run.put h2
      refine ⟨ι, setBlk w r (.mapIter (some m') since (seen.push e'.born) p.2), .tuple #[.bool true, e'.key, e'.val], ?_, Post.turn hw hκ (of_decide_eq_true g2) eo hget hnx ?_, ?_⟩
      · rw [base]
        dsimp only
        rw [e1, e2]
        have hc := run_choose_one (P := P) (w := w) 1 (Nat.le_refl _)
        simp [hc, setObj_of _ hh nofun, Question.forced]
      · rw [he.born]; exact .miter _ _ _ (.some hm)
      · have := ((ARel.two (ι := ι) (.bool true) he.key).push he.val)
        exact .tuple this.1 this.2
    · exact (Run.fail.1 h).elim
  · exact (Run.fail.1 h).elim
theorem entry_does (hw : WRel E.G B ι st w) {x x' v : Value} (hx : VRel ι x x') (h : Run (aEntry x) st v st') :
    st' = st ∧ Ans P ι w (Instr.entry x') v := by
  unfold aEntry at h
  replace h := Run.bind.1 h
  obtain ⟨q, st1, h1, h⟩ := h
  obtain ⟨rfl, a, rfl, ha, hq, eo⟩ := iterAt_run h1
  obtain ⟨b, o⟩ := q
  simp only at hq h eo
  subst hq
  obtain ⟨r, rfl, hr⟩ := ptr_inv hx
  rw [ha]
  obtain ⟨κ, hκ⟩ := Ren.to_some hr
  obtain ⟨ro, hh, hro⟩ := hw.obj _ r κ _ hκ eo
  split at h
  · rename_i m since seen stepped
    cases hro with
    | miter _ _ _ hm =>
    cases hm with
    | some hm =>
    replace h := Run.bindOpt h
    obtain ⟨stamp, es, h⟩ := h
    replace h := Run.bindMap h
    obtain ⟨p, ep, h⟩ := h
    replace h := Run.bindGuard h
    obtain ⟨g, h⟩ := h
    replace h := Run.bindOpt h
    obtain ⟨e, ee, h⟩ := h
    obtain ⟨rfl, rfl⟩ := Run.pure.1 h
    obtain ⟨κm, es', hκm, hhm, hl⟩ := hw.map hm ep
    obtain ⟨e', ef, he⟩ := hl.find (fun b => b == stamp) ee
    have ef' : es'.find? (fun e => e.born == stamp) = some e' := by rw [← Array.find?_toList]; exact ef
    have g := of_decide_eq_true g
    refine ⟨rfl, .tuple #[e'.key, e'.val], ?_, ?_⟩
    · simp only [Instr.entry, Sem.run_bind, getObj_of hh nofun, Result.andThen_ok, es, getObj_of hhm nofun, g, bne_self_eq_false, Bool.false_eq_true, if_false, ef', Sem.run_pure]
    · have := ARel.two he.key he.val
      exact .tuple this.1 this.2
  · exact (Run.fail.1 h).elim
end
end Go.Proofs.YtmmfpkkkpeapeaaGreatDoor.Ev
