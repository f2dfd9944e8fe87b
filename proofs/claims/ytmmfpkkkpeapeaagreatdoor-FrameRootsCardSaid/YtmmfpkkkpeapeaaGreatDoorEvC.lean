/- The evaluator's memory: runs turned inside out, cells read and written, new blocks; each against the model's own operation. No condition. -/
import Derived.Test.YtmmfpkkkpeapeaaGreatDoorEvB
set_option linter.unusedSectionVars false
set_option linter.unusedVariables false
set_option linter.unusedSimpArgs false
namespace Go.Proofs.YtmmfpkkkpeapeaaGreatDoor.Ev
open Go Go.RowKit
variable [Sym]

/-- A run that ends. -/
def Run {α : Type} (m : LM α) (st : St) (x : α) (st' : St) : Prop := ∃ rd wr, m.run st = some (x, st', rd, wr)
section
variable {α β : Type} {st st' : St}
theorem Run.bind {m : LM α} {f : α → LM β} {y : β} : Run (m >>= f) st y st' ↔ ∃ x st1, Run m st x st1 ∧ Run (f x) st1 y st' := by
  constructor
  · rintro ⟨rd, wr, h⟩
    obtain ⟨x, st1, rd1, wr1, rd2, wr2, h1, h2, _, _⟩ := LM.bindF_some (f := m.run) (g := fun x => (f x).run) h
    exact ⟨x, st1, ⟨rd1, wr1, h1⟩, ⟨rd2, wr2, h2⟩⟩
  · rintro ⟨x, st1, ⟨rd1, wr1, h1⟩, ⟨rd2, wr2, h2⟩⟩
    exact ⟨_, _, LM.bindF_mk (f := m.run) (g := fun x => (f x).run) h1 h2⟩
theorem Run.pure {x y : α} : Run (pure x : LM α) st y st' ↔ y = x ∧ st' = st := by
  constructor
  · rintro ⟨rd, wr, h⟩; cases h; exact ⟨rfl, rfl⟩
  · rintro ⟨rfl, rfl⟩; exact ⟨_, _, rfl⟩
theorem Run.fail {x : α} : Run (LM.fail : LM α) st x st' ↔ False := ⟨fun ⟨_, _, h⟩ => (by cases h), fun h => h.elim⟩
theorem Run.look {b : Nat} {o : AObj} : Run (LM.look b) st o st' ↔ st' = st ∧ st.get b = some o := by
  constructor
  · rintro ⟨rd, wr, h⟩
    simp only [LM.look] at h
    split at h
    · cases h
    · rename_i o' ho
      cases h; exact ⟨rfl, ho⟩
  · rintro ⟨rfl, h⟩
    exact ⟨[b], [], by simp only [LM.look, h]⟩
theorem Run.put {b : Nat} {o : Option AObj} {u : Unit} (h : Run (LM.put b o) st u st') : st'.next = st.next ∧ ∀ c, st'.get c = if c = b then o else st.get c := by
  obtain ⟨rd, wr, h⟩ := h
  simp only [LM.put] at h
  split at h
  · rename_i hlt
    cases h
    exact ⟨rfl, fun c => LM.setF_get (lt_deep hlt) c⟩
  · cases h
theorem Run.new {b : Nat} {o : AObj} (h : Run (LM.new o) st b st') : b = st.next ∧ st'.next = st.next + 1 ∧ ∀ c, st'.get c = if c = st.next then some o else st.get c := by
  obtain ⟨rd, wr, h⟩ := h
  simp only [LM.new] at h
  split at h
  · rename_i hlt
    cases h
    exact ⟨rfl, rfl, fun c => LM.setF_get (st := st) (lt_deep hlt) c⟩
  · cases h
theorem Run.ofOption {o : Option α} {x : α} : Run (LM.ofOption o) st x st' ↔ o = some x ∧ st' = st := by
  cases o with
  | none => simp only [LM.ofOption]; rw [Run.fail]; simp
  | some y =>
    simp only [LM.ofOption]
    exact (Run.pure (x := y)).trans ⟨fun ⟨a, b⟩ => ⟨by rw [a], b⟩, fun ⟨a, b⟩ => ⟨by cases a; rfl, b⟩⟩
theorem Run.guard {c : Bool} {u : Unit} : Run (LM.guard c) st u st' ↔ c = true ∧ st' = st := by
  cases c with
  | false => exact ⟨fun h => (Run.fail.1 h).elim, fun h => by cases h.1⟩
  | true => exact ⟨fun h => ⟨rfl, (Run.pure (x := ()).1 h).2⟩, fun h => Run.pure (x := ()).2 ⟨rfl, h.2⟩⟩
theorem Run.mark {n : Nat} : Run LM.mark st n st' ↔ n = st.next ∧ st' = st := by
  constructor
  · rintro ⟨rd, wr, h⟩; cases h; exact ⟨rfl, rfl⟩
  · rintro ⟨rfl, rfl⟩; exact ⟨_, _, rfl⟩
theorem Run.grow {m : LM α} {x : α} (h : Run m st x st') : st.next ≤ st'.next := by
  obtain ⟨rd, wr, h⟩ := h
  exact m.loc.grow _ _ _ _ _ h
end

/-- What the model's own run does beside an abstract one. -/
def Does {β : Type} (P : Program) (G : Nat) (B : Bd) (ι : Ren) (st : St) (w : World) (st' : St) (s : Sem β) (R : Ren → β → Prop) : Prop :=
  ∃ ι' w' y, s.run P w = .ok y w' ∧ Post G B ι st w st' ι' w' ∧ R ι' y
theorem Does.same {β : Type} {P : Program} {G : Nat} {B : Bd} {ι : Ren} {st : St} {w : World} {s : Sem β} {R : Ren → β → Prop} (h : WRel G B ι st w) {y : β} (e : s.run P w = .ok y w) (r : R ι y) : Does P G B ι st w st s R :=
  ⟨ι, w, y, e, Post.refl h, r⟩

structure TI where
  desc : TypeDesc
  size : Nat
  bytes : Nat
  zero : Value
  eqOk : Bool
def aggB : TypeDesc → Bool
  | .struct _ => true
  | .array _ _ => true
  | _ => false
/-- Closed values. -/
def plainV : Nat → Value → Bool
  | 0, _ => false
  | _ + 1, .bool _ => true
  | _ + 1, .int _ _ => true
  | _ + 1, .string _ => true
  | _ + 1, .pointer none => true
  | _ + 1, .slice none _ _ => true
  | _ + 1, .map none => true
  | _ + 1, .nilFunc => true
  | _ + 1, .nilIface => true
  | d + 1, .iface _ v => plainV d v
  | _ + 1, .func (.func _) x c => x.isEmpty && c.isEmpty
  | d + 1, .agg c => c.all (plainV d)
  | d + 1, .tuple c => c.all (plainV d)
  | _ + 1, _ => false
theorem plainV_rel (ι : Ren) : ∀ (d : Nat) (v : Value), plainV d v = true → VRel ι v v := by
  intro d
  induction d with
  | zero => intro v h; simp [plainV] at h
  | succ d ih =>
    have all : ∀ c : Array Value, c.all (plainV d) = true → ∀ i, i < c.size → VRel ι (c.getD i undef) (c.getD i undef) := by
      intro c h i hi
      rw [Array.all_eq_true] at h
      have := h i hi
      simp only [Array.getD, hi, dite_true]
      exact ih _ this
    intro v h
    cases v with
    | bool b => exact .bool _
    | int k n => exact .int _ _
    | float k b => simp [plainV] at h
    | complex k a b => simp [plainV] at h
    | string s => exact .str _
    | pointer a => cases a with
      | none => exact .ptr0
      | some a => simp [plainV] at h
    | slice a n c => cases a with
      | none => exact .sl0 _ _
      | some a => simp [plainV] at h
    | map r => cases r with
      | none => exact .map0
      | some a => simp [plainV] at h
    | chan r => simp [plainV] at h
    | func f x c => cases f with
      | func f =>
        simp only [plainV, Bool.and_eq_true, Array.isEmpty_iff] at h
        obtain ⟨rfl, rfl⟩ := h
        exact .func (.func _) rfl rfl (fun i hi => absurd hi (by simp)) (fun i hi => absurd hi (by simp))
      | method n => simp [plainV] at h
      | methodOf t n => simp [plainV] at h
      | via t p f q => simp [plainV] at h
      | yield l => simp [plainV] at h
    | nilFunc => exact .nilFunc
    | iface t v => exact .iface _ (ih _ h)
    | nilIface => exact .nilIface
    | agg c => exact .agg rfl (all _ h)
    | tuple c => exact .tuple rfl (all _ h)
/-- Is it a token? -/
def isTok : Value → Bool
  | .complex _ i _ => i != 0
  | _ => false
/-- Are two scalars of a kind (1 a truth, 2 a number, 3 a text) the same? -/
def eqScal : Nat → Value → Value → Option Bool
  | 1, .bool a, .bool b => some (a == b)
  | 2, .int k a, .int k' b => if k = k' then some (a == b) else none
  | 3, .string a, .string b => some (a.data.toList == b.data.toList)
  | _, _, _ => none
def descK : TypeDesc → Nat
  | .bool => 1
  | .int _ => 2
  | .string => 3
  | _ => 0
/-- eqT: which tokens are known to be the same, or not (by kind). -/
structure Env where
  tab : Nat → Option TI
  fn : Nat → Option Func
  G : Nat
  eqT : Nat → Value → Value → Option Bool
/-- The tables tell what the program says. -/
structure Env.Ok (E : Env) (P : Program) : Prop where
  tab : ∀ t i, E.tab t = some i → P.underlying t = some i.desc ∧ ∃ info, P.info? t = some info ∧ info.size = i.size ∧ info.bytes = i.bytes ∧ info.zero = some i.zero
  zero : ∀ t i, E.tab t = some i → plainV 6 i.zero = true ∧ i.zero.cells.size = i.size
  eqOk : ∀ t i, E.tab t = some i → i.eqOk = true → P.stoodInHeld t = false ∧ P.eqGuardType P.depth t = false
  fn : ∀ f fn, E.fn f = some fn → P.funcs[f]? = some fn ∧ fn.body.isSome = true ∧ ∀ args w, (callFunc f args).run P w = .ok (.enter f args) w
  eqT : ∀ κ x y b, E.eqT κ x y = some b → ∀ ι x' y', VRel ι x x' → VRel ι y y' → eqScal κ x' y' = some b
section
variable {E : Env} {P : Program} (ok : E.Ok P)
include ok
theorem run_underlying_tab {t : TypeId} {i : TI} (h : E.tab t = some i) (w : World) : (underlying t).run P w = .ok i.desc w := by
  simp [underlying, (ok.tab t i h).1]
theorem run_typeInfo_tab {t : TypeId} {i : TI} (h : E.tab t = some i) (w : World) : ∃ info, (typeInfo t).run P w = .ok info w ∧ info.size = i.size ∧ info.bytes = i.bytes ∧ info.zero = some i.zero := by
  obtain ⟨info, h1, h2, h3, h4⟩ := (ok.tab t i h).2
  exact ⟨info, by simp [typeInfo, h1], h2, h3, h4⟩
theorem run_sizeOf_tab {t : TypeId} {i : TI} (h : E.tab t = some i) (w : World) : (sizeOf t).run P w = .ok i.size w := by
  obtain ⟨info, h1, h2, _⟩ := run_typeInfo_tab ok h w
  simp [sizeOf, h1, h2]
theorem run_zero_tab {t : TypeId} {i : TI} (h : E.tab t = some i) (w : World) : (zeroValue t).run P w = .ok i.zero w := by
  obtain ⟨info, h1, h2, h3, h4⟩ := run_typeInfo_tab ok h w
  simp [zeroValue, h1, h4]
theorem run_isAgg_tab {t : TypeId} {i : TI} (h : E.tab t = some i) (w : World) : (isAgg t).run P w = .ok (aggB i.desc) w := by
  simp only [isAgg, Sem.run_bind, run_underlying_tab ok h, Result.andThen_ok]
  cases i.desc <;> rfl
theorem zero_rel {t : TypeId} {i : TI} (h : E.tab t = some i) (ι : Ren) : VRel ι i.zero i.zero := plainV_rel ι 6 _ (ok.zero t i h).1
theorem zero_cells {t : TypeId} {i : TI} (h : E.tab t = some i) (ι : Ren) : ARel ι i.zero.cells i.zero.cells :=
  (zero_rel ok h ι).cells (fun e => by have := (ok.zero t i h).1; rw [e] at this; simp [plainV] at this)
end

/-! ### real cells -/
theorem cell_of {w : World} {r : Nat} {c : Array Value} {t : TypeId} {fr : Nat × Nat} (h : w.heap[r]? = some (.cells c t fr)) (i : Nat) : w.cell? ⟨r, i, none⟩ = c[i]? := by
  simp [World.cell?, h]
theorem frozen_of {w : World} {r : Nat} {c : Array Value} {t : TypeId} {fr : Nat × Nat} (h : w.heap[r]? = some (.cells c t fr)) (i : Nat) : w.frozen? ⟨r, i, none⟩ = (decide (fr.1 ≤ i) && decide (i < fr.2)) := by
  obtain ⟨lo, hi⟩ := fr
  simp [World.frozen?, h]
theorem add_off (r o i : Nat) : Addr.add ⟨r, o, none⟩ i = ⟨r, o + i, none⟩ := by
  unfold Addr.add
  split
  · rename_i h; subst h; rfl
  · rfl
theorem run_loadCells_from (P : Program) {w : World} {r : Nat} {c : Array Value} {t : TypeId} {fr : Nat × Nat} (h : w.heap[r]? = some (.cells c t fr)) (o : Nat) : ∀ (n i : Nat) (acc : Array Value), o + i + n ≤ c.size →
    (loadCellsFrom ⟨r, o, none⟩ i n acc).run P w = .ok (acc ++ c.extract (o + i) (o + i + n)) w
  | 0, i, acc, _ => by simp [loadCellsFrom]; omega
  | n + 1, i, acc, hn => by
    have hc : w.cell? ⟨r, o + i, none⟩ = some (c[o + i]'(by omega)) := by rw [cell_of h]; exact Array.getElem?_eq_getElem (by omega)
    simp only [loadCellsFrom, Sem.run_bind, add_off, run_load, hc, Result.andThen_ok]
    rw [run_loadCells_from P h o n (i + 1) _ (by omega)]
    congr 1
    apply Array.ext_getElem?
    intro j
    simp only [Array.getElem?_append, Array.size_push, Array.getElem?_push, Array.getElem?_extract]
    by_cases h1 : j < acc.size
    · have : j < acc.size + 1 := by omega
      have h2 : ¬ j = acc.size := by omega
      simp [h1, this, h2]
    · by_cases h2 : j = acc.size
      · subst h2
        simp only [Nat.lt_succ_self, if_true, Nat.lt_irrefl, if_false, Nat.sub_self]
        rw [if_pos (by omega)]
        simp only [Nat.add_zero]
        rw [Array.getElem?_eq_getElem (by omega)]
      · have h3 : ¬ j < acc.size + 1 := by omega
        simp only [h1, h3, if_false]
        by_cases h4 : j - (acc.size + 1) < min (o + (i + 1) + n) c.size - (o + (i + 1))
        · rw [if_pos h4, if_pos (by omega)]
          congr 1; omega
        · rw [if_neg h4, if_neg (by omega)]
theorem run_loadCells_of (P : Program) {w : World} {r : Nat} {c : Array Value} {t : TypeId} {fr : Nat × Nat} (h : w.heap[r]? = some (.cells c t fr)) (o n : Nat) (hn : o + n ≤ c.size) :
    (loadCells ⟨r, o, none⟩ n).run P w = .ok (c.extract o (o + n)) w := by
  have := run_loadCells_from P h o n 0 #[] (by omega)
  simpa [loadCells] using this
def writeC : Array Value → Nat → List Value → Array Value
  | c, _, [] => c
  | c, i, v :: vs => writeC (c.setIfInBounds i v) (i + 1) vs
/-- 'writeC', by the list. -/
def over : List Value → List Value → List Value
  | [], l => l
  | _ :: _, [] => []
  | v :: vs, _ :: l => v :: over vs l
def spl : List Value → Nat → List Value → List Value
  | l, 0, vs => over vs l
  | [], _ + 1, _ => []
  | a :: l, i + 1, vs => a :: spl l i vs
def writeF (c : Array Value) (i : Nat) (vs : List Value) : Array Value := ⟨spl c.toList i vs⟩
theorem over_nil (vs : List Value) : over vs [] = [] := by cases vs <;> rfl
theorem spl_nil : ∀ (i : Nat) (vs : List Value), spl [] i vs = []
  | 0, vs => over_nil vs
  | _ + 1, _ => rfl
theorem spl_none : ∀ (l : List Value) (i : Nat), spl l i [] = l
  | l, 0 => by cases l <;> rfl
  | [], _ + 1 => rfl
  | a :: l, i + 1 => congrArg (a :: ·) (spl_none l i)
theorem spl_cons : ∀ (l : List Value) (i : Nat) (v : Value) (vs : List Value), spl (l.set i v) (i + 1) vs = spl l i (v :: vs)
  | [], i, v, vs => by rw [spl_nil]; exact spl_nil _ _
  | a :: l, 0, v, vs => by cases l <;> rfl
  | a :: l, i + 1, v, vs => congrArg (a :: ·) (spl_cons l i v vs)
theorem writeC_list : ∀ (vs : List Value) (c : Array Value) (i : Nat), (writeC c i vs).toList = spl c.toList i vs
  | [], c, i => (spl_none _ _).symm
  | v :: vs, c, i => by
    rw [writeC, writeC_list vs, Array.toList_setIfInBounds, spl_cons]
theorem writeF_eq (c : Array Value) (i : Nat) (vs : List Value) : writeF c i vs = writeC c i vs := by
  apply Array.toList_inj.1
  rw [writeC_list]; rfl
/-- 'extract', by the list. -/
def cut (c : Array Value) (o n : Nat) : Array Value := ⟨(c.toList.drop o).take n⟩
theorem cut_eq (c : Array Value) (o n : Nat) : cut c o n = c.extract o (o + n) := by
  apply Array.toList_inj.1
  rw [Array.toList_extract, List.extract_eq_take_drop, Nat.add_sub_cancel_left]; rfl
/-- '++', by the list. -/
def cat (c d : Array Value) : Array Value := ⟨c.toList ++ d.toList⟩
theorem cat_eq (c d : Array Value) : cat c d = c ++ d := by
  apply Array.toList_inj.1
  rw [Array.toList_append]; rfl
theorem cut_eq0 (c : Array Value) (n : Nat) : cut c 0 n = c.extract 0 n := by rw [cut_eq, Nat.zero_add]
theorem writeC_size : ∀ (vs : List Value) (c : Array Value) (i : Nat), (writeC c i vs).size = c.size
  | [], _, _ => rfl
  | v :: vs, c, i => by simp [writeC, writeC_size vs]
theorem writeC_rel {ι : Ren} : ∀ (vs vs' : List Value) (c c' : Array Value) (i : Nat), vs'.length = vs.length → (∀ (j : Nat) (v : Value), vs[j]? = some v → ∃ v', vs'[j]? = some v' ∧ VRel ι v v') → c.size ≤ c'.size → (∀ j, j < c.size → VRel ι (c.getD j undef) (c'.getD j undef)) →
    ∀ j, j < c.size → VRel ι ((writeC c i vs).getD j undef) ((writeC c' i vs').getD j undef)
  | [], vs', c, c', i, hl, hv, hs, h, j, hj => by
    cases vs' with
    | nil => exact h j hj
    | cons v' vs' => simp at hl
  | v :: vs, vs', c, c', i, hl, hv, hs, h, j, hj => by
    cases vs' with
    | nil => simp at hl
    | cons v' vs' =>
      obtain ⟨v'', e, hr⟩ := hv 0 v rfl
      cases e
      refine writeC_rel vs vs' _ _ (i + 1) (by simpa using hl) (fun j v e => hv (j + 1) v e) (by simpa using hs) ?_ j (by simpa using hj)
      intro k hk
      have hk' : k < c.size := by simpa using hk
      simp only [Array.getD_eq_getD_getElem?, Array.getElem?_setIfInBounds]
      by_cases e : i = k
      · subst e; simp [hk', show i < c'.size by omega]; exact hr
      · simp only [e, if_false]
        have := h k hk'
        simpa only [Array.getD_eq_getD_getElem?] using this
def cellOk : Value → Bool
  | .agg _ => false
  | .tuple _ => false
  | .complex _ i _ => i != 0
  | _ => true
theorem oneCell_of {ι : Ren} {v v' : Value} (h : VRel ι v v') (hc : cellOk v = true) : v'.oneCell' = true := by
  cases h <;> first | rfl | exact Sym.one _ | (simp [cellOk] at hc; done)
theorem setCell_of {w : World} {r i : Nat} {c : Array Value} {t : TypeId} {fr : Nat × Nat} (h : w.heap[r]? = some (.cells c t fr)) (v : Value) : w.setCell ⟨r, i, none⟩ v = setBlk w r (.cells (c.setIfInBounds i v) t fr) := by
  have hlt : r < w.heap.size := by
    rcases Nat.lt_or_ge r w.heap.size with h' | h'
    · exact h'
    · rw [Array.getElem?_eq_none h'] at h; cases h
  have : (w.setCell ⟨r, i, none⟩ v).heap = (setBlk w r (.cells (c.setIfInBounds i v) t fr)).heap := by
    apply Array.ext_getElem?
    intro k
    rw [setBlk_get w r _ hlt]
    simp only [World.setCell, Array.getElem?_modify]
    by_cases e : k = r
    · subst e; simp [h]
    · rw [if_neg e, if_neg (fun x => e x.symm)]
  cases w
  simp only [setBlk, World.setCell, World.mk.injEq, and_true, true_and] at *
  exact this
theorem setBlk_setBlk (w : World) (r : Nat) (a b : Obj) : setBlk (setBlk w r a) r b = setBlk w r b := by
  simp [setBlk]
theorem run_storeCells_of (P : Program) {r : Nat} {t : TypeId} {fr : Nat × Nat} (o : Nat) (hfr : fr = (0, 0)) : ∀ (vs : List Value) (i : Nat) (w : World) (c : Array Value), w.heap[r]? = some (.cells c t fr) → (∀ v ∈ vs, v.oneCell' = true) → o + i + vs.length ≤ c.size →
    (storeCells ⟨r, o, none⟩ vs i).run P w = .ok () (setBlk w r (.cells (writeC c (o + i) vs) t fr))
  | [], i, w, c, h, _, _ => by
    simp only [storeCells, writeC, Sem.run_pure]
    rw [setBlk_self w r _ h]
  | v :: vs, i, w, c, h, hv, hn => by
    have hlt : r < w.heap.size := by
      rcases Nat.lt_or_ge r w.heap.size with h' | h'
      · exact h'
      · rw [Array.getElem?_eq_none h'] at h; cases h
    simp only [List.length_cons] at hn
    have hc : w.cell? ⟨r, o + i, none⟩ = some (c[o + i]'(by omega)) := by rw [cell_of h]; exact Array.getElem?_eq_getElem (by omega)
    have hf : w.frozen? ⟨r, o + i, none⟩ = false := by rw [frozen_of h, hfr]; simp
    simp only [storeCells, Sem.run_bind, add_off]
    rw [run_store P w _ v .plain (hv v (by simp)), hc]
    simp only [hf, Bool.false_eq_true, if_false, Result.andThen_ok]
    rw [setCell_of h]
    have h2 : (setBlk w r (.cells (c.setIfInBounds (o + i) v) t fr)).heap[r]? = some (.cells (c.setIfInBounds (o + i) v) t fr) := by rw [setBlk_get w r _ hlt, if_pos rfl]
    rw [run_storeCells_of P o hfr vs (i + 1) _ _ h2 (fun x hx => hv x (by simp [hx])) (by simp; omega), setBlk_setBlk]
    rfl
theorem lt_of_heap {w : World} {r : Nat} {o : Obj} (h : w.heap[r]? = some o) : r < w.heap.size := by
  rcases Nat.lt_or_ge r w.heap.size with h' | h'
  · exact h'
  · rw [Array.getElem?_eq_none h'] at h; cases h
/-- A known block of cells, in the world. -/
theorem WRel.cells {G : Nat} {B : Bd} {ι : Ren} {st : St} {w : World} (h : WRel G B ι st w) {b r : Nat} {c : Array Value} {t : TypeId} {fro : Bool} {g : Nat} (hb : ι.to b = some r) (e : st.get b = some (.cells c t fro g)) :
    ∃ κ c' t' fr, ι b = some (r, κ) ∧ w.heap[r]? = some (.cells c' t' fr) ∧ c.size ≤ c'.size ∧ (∀ i, i < c.size → VRel ι (c.getD i undef) (c'.getD i undef)) ∧ (fro = false → fr = (0, 0)) ∧ (g ≠ 0 → c'.size = κ * g) ∧ ((fro = false ∨ g ≠ 0) → t' = t) := by
  obtain ⟨κ, hk⟩ := Ren.to_some hb
  obtain ⟨ro, h1, h2⟩ := h.obj b r κ _ hk e
  cases h2 with
  | cells hs hv hf hg ht => exact ⟨κ, _, _, _, hk, h1, hs, hv, hf, hg, ht⟩
theorem WRel.cellsT {G : Nat} {B : Bd} {ι : Ren} {st : St} {w : World} (h : WRel G B ι st w) {b r : Nat} {c : Array Value} {t : TypeId} {g : Nat} (hb : ι.to b = some r) (e : st.get b = some (.cells c t false g)) :
    ∃ κ c' fr, ι b = some (r, κ) ∧ w.heap[r]? = some (.cells c' t fr) ∧ c.size ≤ c'.size ∧ (∀ i, i < c.size → VRel ι (c.getD i undef) (c'.getD i undef)) ∧ (false = false → fr = (0, 0)) ∧ (g ≠ 0 → c'.size = κ * g) := by
  obtain ⟨κ, c', t', fr, h1, h2, h3, h4, h5, h6, h7⟩ := h.cells hb e
  cases h7 (.inl rfl)
  exact ⟨κ, c', fr, h1, h2, h3, h4, h5, h6⟩
theorem rel_extract {ι : Ren} {c c' : Array Value} (hs : c.size ≤ c'.size) (h : ∀ i, i < c.size → VRel ι (c.getD i undef) (c'.getD i undef)) (a b : Nat) (hb : b ≤ c.size) : ARel ι (c.extract a b) (c'.extract a b) := by
  refine ⟨by simp only [Array.size_extract]; omega, fun i hi => ?_⟩
  simp only [Array.size_extract] at hi
  simp only [Array.getD_eq_getD_getElem?, Array.getElem?_extract]
  rw [if_pos (by omega), if_pos (by omega)]
  have := h (a + i) (by omega)
  simpa only [Array.getD_eq_getD_getElem?] using this
theorem rel_get {ι : Ren} {c c' : Array Value} (hs : c.size ≤ c'.size) (h : ∀ i, i < c.size → VRel ι (c.getD i undef) (c'.getD i undef)) {i : Nat} {v : Value} (e : c[i]? = some v) : ∃ v', c'[i]? = some v' ∧ VRel ι v v' := by
  have hi : i < c.size := by
    rcases Nat.lt_or_ge i c.size with h | h
    · exact h
    · rw [Array.getElem?_eq_none h] at e; cases e
  have := h i hi
  rw [getD_of_get? e] at this
  exact ⟨_, get?_of_lt (by omega), this⟩

/-! ### the operations on memory -/
def addrOf : Value → LM Addr
  | .pointer (some a) => pure a
  | _ => LM.fail
def cellsAt (b : Nat) : LM (Array Value × TypeId × Bool × Nat) := do
  match ← LM.look b with
  | .cells c t f g => pure (c, t, f, g)
  | _ => LM.fail
def aLoad (E : Env) (t : TypeId) (v : Value) : LM Value := do
  let a ← addrOf v
  let ti ← LM.ofOption (E.tab t)
  let p ← cellsAt a.block
  if aggB ti.desc then do
    LM.guard (decide (a.off + ti.size ≤ p.1.size))
    pure (.agg (cut p.1 a.off ti.size))
  else LM.ofOption p.1[a.off]?
theorem Run.addrOf {st st' : St} {v : Value} {a : Addr} (h : Run (addrOf v) st a st') : v = .pointer (some a) ∧ st' = st := by
  unfold Ev.addrOf at h
  split at h
  · obtain ⟨rfl, rfl⟩ := Run.pure.1 h; exact ⟨rfl, rfl⟩
  · exact (Run.fail.1 h).elim
theorem Run.cellsAt {st st' : St} {b : Nat} {p : Array Value × TypeId × Bool × Nat} (h : Run (cellsAt b) st p st') : st.get b = some (.cells p.1 p.2.1 p.2.2.1 p.2.2.2) ∧ st' = st := by
  unfold Ev.cellsAt at h
  replace h := Run.bind.1 h; obtain ⟨o, st1, h1, h2⟩ := h
  replace h1 := Run.look.1 h1; obtain ⟨rfl, e⟩ := h1
  split at h2
  · obtain ⟨rfl, rfl⟩ := Run.pure.1 h2; exact ⟨e, rfl⟩
  · exact (Run.fail.1 h2).elim
section
variable {E : Env} {P : Program} {B : Bd} {ι : Ren} {st st' : St} {w : World}
theorem ptr_inv {ι : Ren} {a : Addr} {v' : Value} (h : VRel ι (.pointer (some a)) v') : ∃ r, v' = .pointer (some ⟨r, a.off, none⟩) ∧ ι.to a.block = some r := by
  cases h with
  | ptr h =>
    rename_i a'
    obtain ⟨h1, h2, h3, h4⟩ := h
    obtain ⟨r, o, s⟩ := a'
    simp only at h1 h2 h4
    subst h2 h4
    exact ⟨r, rfl, h1⟩
theorem load_does (ok : E.Ok P) (hw : WRel E.G B ι st w) {t : TypeId} {v v' x : Value} (hv : VRel ι v v') (h : Run (aLoad E t v) st x st') :
    st' = st ∧ ∃ x', (Instr.loadAt t v').run P w = .ok x' w ∧ VRel ι x x' := by
  unfold aLoad at h
  replace h := Run.bind.1 h; obtain ⟨a, st1, h1, h⟩ := h
  replace h1 := Run.addrOf h1; obtain ⟨rfl, rfl⟩ := h1
  replace h := Run.bind.1 h; obtain ⟨ti, st1, h1, h⟩ := h
  replace h1 := Run.ofOption.1 h1; obtain ⟨et, rfl⟩ := h1
  replace h := Run.bind.1 h; obtain ⟨p, st1, h1, h⟩ := h
  replace h1 := Run.cellsAt h1; obtain ⟨ec, rfl⟩ := h1
  obtain ⟨r, rfl, hr⟩ := ptr_inv hv
  obtain ⟨κ, c', t', fr, hk, hh, hs, hc, hf, hg, _⟩ := hw.cells hr ec
  have base : (Instr.loadAt t (.pointer (some ⟨r, a.off, none⟩))).run P w = (loadVar t ⟨r, a.off, none⟩).run P w := by
    simp [Instr.loadAt, Instr.sureAddr]
  rw [base]
  simp only [loadVar, Sem.run_bind, run_isAgg_tab ok et, Result.andThen_ok]
  by_cases hagg : aggB ti.desc = true
  · rw [if_pos hagg] at h ⊢
    replace h := Run.bind.1 h; obtain ⟨u, st1, h1, h⟩ := h
    replace h1 := Run.guard.1 h1; obtain ⟨e1, rfl⟩ := h1
    replace h := Run.pure.1 h; obtain ⟨rfl, rfl⟩ := h
    have e1 := of_decide_eq_true e1
    rw [cut_eq]
    refine ⟨rfl, .agg (c'.extract a.off (a.off + ti.size)), ?_, ?_⟩
    · simp only [Sem.run_bind, run_sizeOf_tab ok et, Result.andThen_ok]
      rw [run_loadCells_of P hh _ _ (by omega)]
      rfl
    · have := rel_extract hs hc a.off (a.off + ti.size) e1
      exact .agg this.1 this.2
  · rw [if_neg hagg] at h ⊢
    replace h := Run.ofOption.1 h; obtain ⟨e1, rfl⟩ := h
    obtain ⟨x', e2, hx⟩ := rel_get hs hc e1
    refine ⟨rfl, x', ?_, hx⟩
    rw [run_load, cell_of hh, e2]
def aStore (E : Env) (t : TypeId) (v x : Value) : LM Unit := do
  let a ← addrOf v
  let ti ← LM.ofOption (E.tab t)
  LM.guard (x.cells.toList.all cellOk && decide (x.cells.size = ti.size) && decide (E.G ≤ a.block))
  let p ← cellsAt a.block
  LM.guard (!p.2.2.1 && decide (a.off + x.cells.size ≤ p.1.size))
  LM.put a.block (some (.cells (writeF p.1 a.off x.cells.toList) p.2.1 p.2.2.1 p.2.2.2))
theorem not_top {x : Value} (h : x.cells.toList.all cellOk = true) : x ≠ .complex .f64 0 0 := by
  intro e; subst e; simp [Value.cells, cellOk] at h
/-- Cells written in place. -/
theorem write_post {G : Nat} (hw : WRel G B ι st w) {b r κ o : Nat} {c c' : Array Value} {t : TypeId} {fr : Nat × Nat} {g : Nat} {vs vs' : List Value} (hk : ι b = some (r, κ)) (hG : G ≤ b) (e : st.get b = some (.cells c t false g)) (hh : w.heap[r]? = some (.cells c' t fr))
    (hs : c.size ≤ c'.size) (hc : ∀ i, i < c.size → VRel ι (c.getD i undef) (c'.getD i undef)) (hf : fr = (0, 0)) (hg : g ≠ 0 → c'.size = κ * g) (hl : vs'.length = vs.length) (hvs : ∀ (j : Nat) (v : Value), vs[j]? = some v → ∃ v', vs'[j]? = some v' ∧ VRel ι v v')
    (hget : ∀ x, st'.get x = if x = b then some (.cells (writeC c o vs) t false g) else st.get x) (hn : st'.next = st.next) : Post G B ι st w st' ι (setBlk w r (.cells (writeC c' o vs') t fr)) := by
  refine Post.turn hw hk hG e hget hn ?_
  refine .cells (by rw [writeC_size, writeC_size]; exact hs) (fun i hi => ?_) (fun _ => hf) (fun h => by rw [writeC_size]; exact hg h)
  rw [writeC_size] at hi
  exact writeC_rel vs vs' c c' o hl hvs hs hc i hi
theorem cells_get {ι : Ren} {x x' : Value} (h : ARel ι x.cells x'.cells) : ∀ (j : Nat) (v : Value), x.cells.toList[j]? = some v → ∃ v', x'.cells.toList[j]? = some v' ∧ VRel ι v v' := by
  intro j v e
  rw [Array.getElem?_toList] at e ⊢
  exact h.get? e
theorem all_one {ι : Ren} {vs vs' : List Value} (hl : vs'.length = vs.length) (h : ∀ (j : Nat) (v : Value), vs[j]? = some v → ∃ v', vs'[j]? = some v' ∧ VRel ι v v') (hc : vs.all cellOk = true) : ∀ v ∈ vs', v.oneCell' = true := by
  intro v' hv'
  obtain ⟨j, hj, rfl⟩ := List.getElem_of_mem hv'
  obtain ⟨v'', e, hr⟩ := h j (vs[j]'(by omega)) (List.getElem?_eq_getElem (by omega))
  rw [List.getElem?_eq_getElem hj] at e
  cases e
  exact oneCell_of hr (List.all_eq_true.1 hc _ (List.getElem_mem _))
theorem store_does (ok : E.Ok P) (hw : WRel E.G B ι st w) {t : TypeId} {v v' x x' : Value} {u : Unit} (hv : VRel ι v v') (hx : VRel ι x x') (h : Run (aStore E t v x) st u st') :
    ∃ w', (Instr.storeAt t v' x').run P w = .ok () w' ∧ Post E.G B ι st w st' ι w' := by
  unfold aStore at h
  replace h := Run.bind.1 h; obtain ⟨a, st1, h1, h⟩ := h
  replace h1 := Run.addrOf h1; obtain ⟨rfl, rfl⟩ := h1
  replace h := Run.bind.1 h; obtain ⟨ti, st1, h1, h⟩ := h
  replace h1 := Run.ofOption.1 h1; obtain ⟨et, rfl⟩ := h1
  replace h := Run.bind.1 h; obtain ⟨u1, st1, h1, h⟩ := h
  replace h1 := Run.guard.1 h1; obtain ⟨e1, rfl⟩ := h1
  replace h := Run.bind.1 h; obtain ⟨p, st1, h1, h⟩ := h
  replace h1 := Run.cellsAt h1; obtain ⟨ec, rfl⟩ := h1
  replace h := Run.bind.1 h; obtain ⟨u2, st1, h1, h⟩ := h
  replace h1 := Run.guard.1 h1; obtain ⟨e2, rfl⟩ := h1
  replace h := Run.put h; obtain ⟨hn, hget⟩ := h
  simp only [Bool.and_eq_true, decide_eq_true_eq, Bool.not_eq_true'] at e1 e2
  obtain ⟨⟨e1a, e1b⟩, e1c⟩ := e1
  obtain ⟨e2a, e2b⟩ := e2
  obtain ⟨r, rfl, hr⟩ := ptr_inv hv
  obtain ⟨c, tt, fro, g⟩ := p
  simp only at e2a e2b ec hget
  simp only [writeF_eq] at hget
  subst e2a
  obtain ⟨κ, c', fr, hk, hh, hs, hc, hf, hg⟩ := hw.cellsT hr ec
  have hcx := hx.cells (not_top e1a)
  have hvs := cells_get hcx
  have hl : x'.cells.toList.length = x.cells.toList.length := by simp [hcx.1]
  have h1 := all_one hl hvs e1a
  refine ⟨setBlk w r (.cells (writeC c' a.off x'.cells.toList) tt fr), ?_, ?_⟩
  · simp only [Instr.storeAt, Instr.sureAddr, Sem.run_bind, Sem.run_pure, Result.andThen_ok, storeVar, run_sizeOf_tab ok et, hcx.1, e1b]
    simp only [ne_eq, not_true_eq_false, if_false, Sem.run_pure, Result.andThen_ok]
    have := run_storeCells_of P (r := r) (t := tt) (fr := fr) a.off (hf rfl) x'.cells.toList 0 w c' hh h1 (by simp [hcx.1]; omega)
    exact this
  · exact write_post hw hk e1c ec hh hs hc (hf rfl) hg hl hvs hget hn
/-- A new block of cells. -/
theorem newCells_post {G : Nat} (hw : WRel G B ι st w) {b : Nat} {c c' : Array Value} {t : TypeId} {fro : Bool} {fr : Nat × Nat} (κ g : Nat) (hfree : Free ι st.next st'.next) (hr : Run (LM.new (.cells c t fro g)) st b st') (hs : c.size ≤ c'.size) (hc : ∀ i, i < c.size → VRel ι (c.getD i undef) (c'.getD i undef))
    (hf : fro = false → fr = (0, 0)) (hg : g ≠ 0 → c'.size = κ * g) : b = st.next ∧ Post G B ι st w st' (upd ι st.next w.heap.size κ) (w.alloc (.cells c' t fr)) := by
  obtain ⟨rfl, hn, hget⟩ := Run.new hr
  have hfr : ι st.next = none := hfree _ (Nat.le_refl _) (by omega)
  refine ⟨rfl, Post.alloc κ hw hfr hget hn ?_⟩
  exact .cells hs (fun i hi => (hc i hi).mono (upd_le hfr)) hf hg
def aBox (t : TypeId) (x : Value) : LM Value := do
  LM.guard (x.cells.toList.all cellOk)
  let b ← LM.new (.cells x.cells t false 0)
  pure (.pointer (some ⟨b, 0, none⟩))
theorem box_does (hw : WRel E.G B ι st w) {t : TypeId} {x x' v : Value} (hx : VRel ι x x') (hfree : Free ι st.next st'.next) (h : Run (aBox t x) st v st') :
    Does P E.G B ι st w st' (Instr.box t x') fun ι' y => VRel ι' v y := by
  unfold aBox at h
  replace h := Run.bind.1 h; obtain ⟨u1, st1, h1, h⟩ := h
  replace h1 := Run.guard.1 h1; obtain ⟨e1, rfl⟩ := h1
  replace h := Run.bind.1 h; obtain ⟨b, st1, h1, h⟩ := h
  replace h := Run.pure.1 h; obtain ⟨rfl, rfl⟩ := h
  have hcx := hx.cells (not_top e1)
  obtain ⟨rfl, hp⟩ := newCells_post (B := B) (w := w) (c' := x'.cells) (fr := (0, 0)) hw 0 0 hfree h1 (by rw [hcx.1]; exact Nat.le_refl _) hcx.2 (fun _ => rfl) (fun h => absurd rfl h)
  exact ⟨_, _, .pointer (some ⟨w.heap.size, 0, none⟩), rfl, hp, .ptr ⟨upd_to_same _ _ _ _, rfl, rfl, rfl⟩⟩
def aAlloc (E : Env) (t : TypeId) : LM Value := do
  let ti ← LM.ofOption (E.tab t)
  let b ← LM.new (.cells ti.zero.cells t false 0)
  pure (.pointer (some ⟨b, 0, none⟩))
theorem alloc_does (ok : E.Ok P) (hw : WRel E.G B ι st w) {t : TypeId} {v : Value} (hfree : Free ι st.next st'.next) (h : Run (aAlloc E t) st v st') :
    Does P E.G B ι st w st' (Instr.alloc t true (.tuple #[])) fun ι' y => VRel ι' v y := by
  unfold aAlloc at h
  replace h := Run.bind.1 h; obtain ⟨ti, st1, h1, h⟩ := h
  replace h1 := Run.ofOption.1 h1; obtain ⟨et, rfl⟩ := h1
  replace h := Run.bind.1 h; obtain ⟨b, st1, h1, h⟩ := h
  replace h := Run.pure.1 h; obtain ⟨rfl, rfl⟩ := h
  have hz := zero_cells ok et ι
  obtain ⟨rfl, hp⟩ := newCells_post (B := B) (w := w) (c' := ti.zero.cells) (fr := (0, 0)) hw 0 0 hfree h1 (Nat.le_refl _) hz.2 (fun _ => rfl) (fun h => absurd rfl h)
  refine ⟨_, _, .pointer (some ⟨w.heap.size, 0, none⟩), ?_, hp, .ptr ⟨upd_to_same _ _ _ _, rfl, rfl, rfl⟩⟩
  simp only [Instr.alloc, Sem.run_bind, run_zero_tab ok et, Result.andThen_ok]
  rfl
end
end Go.Proofs.YtmmfpkkkpeapeaaGreatDoor.Ev
