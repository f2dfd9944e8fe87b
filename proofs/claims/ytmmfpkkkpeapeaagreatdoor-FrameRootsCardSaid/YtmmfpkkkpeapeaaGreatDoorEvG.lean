/- The evaluator's conversions, make, append, copy, len, cap, min and max; each against the model's own: an append to a slice whose room isn't known has one abstract outcome for both ways. No condition. -/
import Derived.Test.YtmmfpkkkpeapeaaGreatDoorEvF
set_option linter.unusedSectionVars false
set_option linter.unusedVariables false
set_option linter.unusedSimpArgs false
namespace Go.Proofs.YtmmfpkkkpeapeaaGreatDoor.Ev
open Go Go.RowKit
variable [Sym]

def asU8 : Value → Option Int
  | .int .u8 n => some n
  | _ => none
def lenOfV : Value → Option Nat
  | .slice _ n _ => some n
  | .string s => some s.data.size
  | _ => none
/-- The first cells of what is appended, or copied. -/
def aFirstS (size n : Nat) (x : Value) : LM (Array Value) :=
  match x with
  | .slice (some a) _ _ => do
    let p ← cellsAt a.block
    LM.guard (decide (a.off + n * size ≤ p.1.size))
    pure (p.1.extract a.off (a.off + n * size))
  | .slice none _ _ => pure #[]
  | .string s => pure ((s.extract 0 n).data.map fun b => .int .u8 b.toNat)
  | _ => LM.fail
/-- The first cells of what is appended, or copied. -/
def aFirst (size n : Nat) (x : Value) : LM (Array Value) :=
  match x with
  | .slice (some a) _ _ => do
    let p ← cellsAt a.block
    LM.guard (decide (a.off + n * size ≤ p.1.size))
    pure (cut p.1 a.off (n * size))
  | .slice none _ _ => pure #[]
  | .string s => pure ((s.extract 0 n).data.map fun b => .int .u8 b.toNat)
  | _ => LM.fail
theorem aFirst_eq : aFirst = aFirstS := by
  funext size n x
  unfold aFirst aFirstS
  simp only [cut_eq]
section
variable {E : Env} {P : Program} {G : Nat} {B : Bd} {ι : Ren} {st st' : St} {w : World}
theorem first_run (hw : WRel G B ι st w) {size n : Nat} {x x' : Value} {c : Array Value} (hx : VRel ι x x') (h : Run (aFirst size n x) st c st') : st' = st ∧ ∃ c', (Builtin.firstCells size n x').run P w = .ok c' w ∧ ARel ι c c' := by
  rw [aFirst_eq] at h
  unfold aFirstS at h
  split at h
  · rename_i a m k
    replace h := Run.bind.1 h
    obtain ⟨p, st1, h1, h⟩ := h
    replace h1 := Run.cellsAt h1
    obtain ⟨ec, rfl⟩ := h1
    replace h := Run.bind.1 h
    obtain ⟨u, st1, h1, h⟩ := h
    replace h1 := Run.guard.1 h1
    obtain ⟨g1, rfl⟩ := h1
    obtain ⟨rfl, rfl⟩ := Run.pure.1 h
    have g1 := of_decide_eq_true g1
    obtain ⟨r, c', rfl, hr, _⟩ := sl_inv hx
    obtain ⟨κ, c'', t'', fr, hk, hh, hs, hc, hf, hg, _⟩ := hw.cells hr ec
    refine ⟨rfl, c''.extract a.off (a.off + n * size), ?_, rel_extract hs hc _ _ g1⟩
    simp only [Builtin.firstCells]
    exact run_loadCells_of P hh _ _ (by omega)
  · obtain ⟨rfl, rfl⟩ := Run.pure.1 h
    cases hx
    exact ⟨rfl, #[], rfl, ARel.nil ι⟩
  · obtain ⟨rfl, rfl⟩ := Run.pure.1 h
    cases hx
    exact ⟨rfl, _, rfl, ARel.map _ _ _ fun b => .int _ _⟩
  · exact (Run.fail.1 h).elim
theorem lenOf_run {x x' : Value} {n : Nat} (hx : VRel ι x x') (h : lenOfV x = some n) : (Builtin.lenOf x').run P w = .ok n w := by
  unfold lenOfV at h
  split at h
  · cases h
    cases hx <;> rfl
  · cases h
    cases hx
    rfl
  · cases h
theorem int_inv {k : IntKind} {n : Int} {v : Value} (h : VRel ι (.int k n) v) : v = .int k n := by cases h; rfl
theorem WRel.congr {w2 : World} (h : WRel G B ι st w) (hh : ∀ k : Nat, w2.heap[k]? = w.heap[k]?) (hs : w2.heap.size = w.heap.size) (hl : B.J w2) : WRel G B ι st w2 :=
  ⟨fun b r κ o e1 e2 => by rw [hh]; exact h.obj b r κ o e1 e2, fun b r e1 => by rw [hs]; exact h.lt b r e1, h.inj, h.under, h.nxt, h.low, h.glob, by rw [hs]; exact h.big, hl⟩
theorem Post.congr {ι' : Ren} {w' w2 : World} (h : Post G B ι st w st' ι' w') (hh : ∀ k : Nat, w2.heap[k]? = w'.heap[k]?) (hs : w2.heap.size = w'.heap.size) (ho : w2.os = w'.os) (ht : w2.tape = w'.tape) (hp : w2.output = w'.output) : Post G B ι st w st' ι' w2 :=
  ⟨h.rel.congr hh hs (B.keep w' w2 ⟨ho, ht, hp, by rw [hs]; exact Nat.le_refl _, fun k _ => hh k⟩ h.rel.laid), h.le, h.ext, ⟨ho.trans h.below.os, ht.trans h.below.tape, hp.trans h.below.output, by rw [hs]; exact h.below.size, fun k hk => by rw [hh]; exact h.below.block k hk⟩⟩
/-! ### conversions -/
def aConvert (E : Env) (src dst : TypeId) (x : Value) : LM Value := do
  let ts ← LM.ofOption (E.tab src)
  let td ← LM.ofOption (E.tab dst)
  match td.desc, x with
  | .int k, .int _ n => pure (.int k (wrapF k n))
  | .string, .string s => pure (.string s)
  | .slice e, .string s => do
    let te ← LM.ofOption (E.tab e)
    match te.desc with
    | .int .u8 => do
      let b ← LM.new (.cells (s.data.map fun b => .int .u8 b.toNat) e true 0)
      pure (.slice (some ⟨b, 0, none⟩) s.data.size (9223372036854775808 + s.data.size))
    | _ => LM.fail
  | .string, .slice (some a) n _ =>
    match ts.desc with
    | .slice e => do
      let te ← LM.ofOption (E.tab e)
      match te.desc with
      | .int .u8 => do
        let p ← cellsAt a.block
        LM.guard (decide (a.off + n ≤ p.1.size))
        let ns ← LM.ofOption ((p.1.extract a.off (a.off + n)).toList.mapM asU8)
        pure (.string ⟨(ns.map fun n => UInt8.ofNat n.toNat).toArray⟩)
      | _ => LM.fail
    | _ => LM.fail
  | .string, .slice none _ _ =>
    match ts.desc with
    | .slice e => do
      let te ← LM.ofOption (E.tab e)
      match te.desc with
      | .int .u8 => pure (.string ⟨#[]⟩)
      | _ => LM.fail
    | _ => LM.fail
  | _, _ => LM.fail
theorem mapM_u8 : ∀ (l : List Value) (ns : List Int), l.mapM asU8 = some ns → l = ns.map (Value.int .u8)
  | [], ns, h => by simp at h; subst h; rfl
  | v :: l, ns, h => by
    rw [List.mapM_cons] at h
    cases hv : asU8 v with
    | none => rw [hv] at h; simp at h
    | some n =>
      cases hl : l.mapM asU8 with
      | none => rw [hv, hl] at h; simp at h
      | some ms =>
        rw [hv, hl] at h
        simp at h
        subst h
        unfold asU8 at hv
        split at hv
        · cases hv; rw [mapM_u8 l ms hl]; rfl
        · cases hv
theorem ints_eq {c' : Array Value} {c : Array Value} {ns : List Int} (h : ARel ι c c') (e : c.toList = ns.map (Value.int .u8)) : c' = (ns.map (Value.int .u8)).toArray := by
  apply Array.ext_getElem?
  intro i
  by_cases hi : i < c.size
  · have h1 := h.2 i hi
    have e1 : c = (ns.map (Value.int .u8)).toArray := by rw [← e]
    subst e1
    simp only [Array.getD_eq_getD_getElem?] at h1
    have hl : i < ns.length := by simpa using hi
    rw [get?_of_lt (h.1 ▸ hi)]
    simp only [Array.getD_eq_getD_getElem?]
    simp only [List.getElem?_toArray, List.getElem?_map, List.getElem?_eq_getElem hl, Option.map_some, Option.getD_some] at h1 ⊢
    rw [int_inv h1]
  · have e1 : c = (ns.map (Value.int .u8)).toArray := by rw [← e]
    rw [Array.getElem?_eq_none (by rw [h.1]; omega), Array.getElem?_eq_none (by rw [← e1]; omega)]
theorem convert_does (ok : E.Ok P) (hw : WRel E.G B ι st w) {src dst : TypeId} {x x' v : Value} (hx : VRel ι x x') (hfree : Free ι st.next st'.next) (h : Run (aConvert E src dst x) st v st') :
    Does P E.G B ι st w st' (convert src dst x') fun ι' y => VRel ι' v y := by
  unfold aConvert at h
  replace h := Run.bind.1 h
  obtain ⟨ts, st1, h1, h⟩ := h
  replace h1 := Run.ofOption.1 h1
  obtain ⟨es, rfl⟩ := h1
  replace h := Run.bind.1 h
  obtain ⟨td, st1, h1, h⟩ := h
  replace h1 := Run.ofOption.1 h1
  obtain ⟨ed, rfl⟩ := h1
  have hus := run_underlying_tab ok es w
  have hud := run_underlying_tab ok ed w
  have eus := (ok.tab src ts es).1
  have eud := (ok.tab dst td ed).1
  split at h
  · rename_i k j n hd
    obtain ⟨rfl, rfl⟩ := Run.pure.1 h
    cases hx
    refine Does.same hw (y := .int k (wrapF k n)) ?_ (.int _ _)
    simp only [convert, Sem.run_bind, hus, hud, Result.andThen_ok, hd]
    simp [Conv.intToInt, wrapF_eq]
  · rename_i s hd
    obtain ⟨rfl, rfl⟩ := Run.pure.1 h
    cases hx
    refine Does.same hw (y := .string s) ?_ (.str _)
    simp only [convert, Sem.run_bind, hus, hud, Result.andThen_ok, hd]
    rfl
  · rename_i e s hd
    replace h := Run.bind.1 h
    obtain ⟨te, st2, h1, h⟩ := h
    replace h1 := Run.ofOption.1 h1
    obtain ⟨ee, rfl⟩ := h1
    split at h
    · rename_i hde
      replace h := Run.bind.1 h
      obtain ⟨b, st2, h1, h⟩ := h
      obtain ⟨rfl, rfl⟩ := Run.pure.1 h
      cases hx
      have hrun := Lib.run_convert_string_bytes (P := P) w src dst e s eus (by rw [eud, hd]) (by rw [(ok.tab e te ee).1, hde])
      obtain ⟨rfl, hn, hget⟩ := Run.new h1
      have hfr : ι st2.next = none := hfree _ (Nat.le_refl _) (by omega)
      have hcap : s.size ≤ grownCap w s.size 0 e := by
        unfold grownCap Question.cut
        simp only
        omega
      have hpost := Post.alloc (G := E.G) (B := B) (w := w) (o := .cells (s.data.map fun b => .int .u8 b.toNat) e true 0) (ro := .cells (Lib.bytesCells w e s) e ((Lib.bytesCells w e s).size, (Lib.bytesCells w e s).size + 1)) 0 hw hfr hget hn ?_
      · refine ⟨upd ι st2.next w.heap.size 0, Lib.bytesWorld w e s, _, hrun, ?_, ?_⟩
        · refine hpost.congr (fun k => ?_) (by rw [Lib.bytesWorld_size]; simp) rfl rfl rfl
          by_cases h1 : k < w.heap.size
          · rw [Lib.bytesWorld_at_old w e s k h1, Below.heap_alloc _ _ _ h1]
          · by_cases h2 : k = w.heap.size
            · subst h2
              rw [Lib.bytesWorld_at_new]
              show _ = (w.heap.push _)[w.heap.size]?
              simp
            · rw [Array.getElem?_eq_none (by rw [Lib.bytesWorld_size]; omega), Array.getElem?_eq_none (by simp; omega)]
        · exact .slv _ ⟨upd_to_same _ _ _ _, rfl, rfl, rfl⟩ (by omega) (by simpa using hcap)
      · refine .cells ?_ (fun i hi => ?_) (fun h => by cases h) (fun h => absurd rfl h)
        · simp [Lib.bytesCells]
        · have hi' : i < s.data.size := by simpa using hi
          simp only [Array.getD_eq_getD_getElem?, Lib.bytesCells]
          rw [Array.getElem?_append_left (by simpa using hi')]
          rw [Array.getElem?_map, Array.getElem?_eq_getElem hi']
          exact .int _ _
    · exact (Run.fail.1 h).elim
  · rename_i a n c hd
    split at h
    · rename_i e hds
      replace h := Run.bind.1 h
      obtain ⟨te, st2, h1, h⟩ := h
      replace h1 := Run.ofOption.1 h1
      obtain ⟨ee, rfl⟩ := h1
      split at h
      · rename_i hde
        replace h := Run.bind.1 h
        obtain ⟨p, st2, h1, h⟩ := h
        replace h1 := Run.cellsAt h1
        obtain ⟨ec, rfl⟩ := h1
        replace h := Run.bind.1 h
        obtain ⟨u, st2, h1, h⟩ := h
        replace h1 := Run.guard.1 h1
        obtain ⟨g1, rfl⟩ := h1
        replace h := Run.bind.1 h
        obtain ⟨ns, st2, h1, h⟩ := h
        replace h1 := Run.ofOption.1 h1
        obtain ⟨hns, rfl⟩ := h1
        obtain ⟨rfl, rfl⟩ := Run.pure.1 h
        have g1 := of_decide_eq_true g1
        obtain ⟨r, c', rfl, hr, _⟩ := sl_inv hx
        obtain ⟨κ, c'', t'', fr, hk, hh, hs, hc, hf, hg, _⟩ := hw.cells hr ec
        have hl := run_loadCells_of P hh a.off n (by omega)
        rw [ints_eq (rel_extract hs hc a.off (a.off + n) g1) (mapM_u8 _ _ hns)] at hl
        refine Does.same hw (y := .string ⟨(ns.map fun n => UInt8.ofNat n.toNat).toArray⟩) ?_ (.str _)
        rw [run_convert_bytes_string w src dst e _ n c' (by rw [eus, hds]) (by rw [(ok.tab e te ee).1, hde]) (by rw [eud, hd]), run_bytesToString w _ n c' ns hl, foldl_push_bytes]
        simp [ByteArray.empty, ByteArray.emptyWithCapacity]
        rfl
      · exact (Run.fail.1 h).elim
    · exact (Run.fail.1 h).elim
  · rename_i n c hd
    split at h
    · rename_i e hds
      replace h := Run.bind.1 h
      obtain ⟨te, st2, h1, h⟩ := h
      replace h1 := Run.ofOption.1 h1
      obtain ⟨ee, rfl⟩ := h1
      split at h
      · rename_i hde
        obtain ⟨rfl, rfl⟩ := Run.pure.1 h
        cases hx
        exact Does.same hw (y := .string ByteArray.empty) (run_convert_bytes_nil w src e (by rw [eus, hds]) (by rw [(ok.tab e te ee).1, hde]) n c dst (by rw [eud, hd])) (.str _)
      · exact (Run.fail.1 h).elim
    · exact (Run.fail.1 h).elim
  · exact (Run.fail.1 h).elim
end
end Go.Proofs.YtmmfpkkkpeapeaaGreatDoor.Ev
