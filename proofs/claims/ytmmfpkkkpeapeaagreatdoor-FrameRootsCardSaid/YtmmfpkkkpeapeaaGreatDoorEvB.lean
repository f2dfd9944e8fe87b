/- The evaluator's relations: an abstract value, block, state, and a real one, by a renaming of blocks; what a run may do to both. No condition. -/
import Derived.Test.YtmmfpkkkpeapeaaGreatDoorEvA
import Derived.Below
import Derived.Laws.Sem
set_option linter.unusedSectionVars false
set_option linter.unusedVariables false
set_option linter.unusedSimpArgs false
namespace Go.Proofs.YtmmfpkkkpeapeaaGreatDoor.Ev
open Go Go.RowKit

/-- To which block of the world an abstract one goes; and, where it has grown, how many elements that has in all. -/
abbrev Ren := Nat → Option (Nat × Nat)
def Ren.to (ι : Ren) (b : Nat) : Option Nat := (ι b).map (·.1)
/-- Below this a capacity is as it is; from it on it is not known, but that it is so much beyond this number at least, and that the slice begins its block and goes to its end; from twice it on it is not known, but that it is so much beyond that at least. -/
def K62 : Nat := 4611686018427387904
def addrRel (ι : Ren) (a a' : Addr) : Prop := ι.to a.block = some a'.block ∧ a'.off = a.off ∧ a.spot = none ∧ a'.spot = none
/-- What the tokens stand for: token i ('.complex .f64 (i + 1) 0') for one value of one cell; block j ('.sym j') for one of some kind. -/
class Sym where
  val : Nat → Value
  one : ∀ i, (val i).oneCell' = true
  obj : Nat → Obj → Prop
/-- No tokens. -/
@[reducible] def Sym.none : Sym := ⟨fun _ => .bool false, fun _ => rfl, fun _ _ => False⟩
theorem cells_one {v : Value} (h : v.oneCell' = true) : v.cells = #[v] := by
  cases v <;> first | rfl | (simp [Value.oneCell'] at h; done)
variable [Sym]
inductive FnRel (ι : Ren) : Fn → Fn → Prop
  | func (f : FuncId) : FnRel ι (.func f) (.func f)
  | yield {l l' : Nat} (h : ι.to l = some l') : FnRel ι (.yield l) (.yield l')
/-- An abstract value stands for a real one; '.complex .f64 0 0' stands for any. -/
inductive VRel (ι : Ren) : Value → Value → Prop
  | top (v : Value) : VRel ι (.complex .f64 0 0) v
  | tok (i : Nat) : VRel ι (.complex .f64 (i + 1) 0) (Sym.val i)
  | bool (b : Bool) : VRel ι (.bool b) (.bool b)
  | int (k : IntKind) (n : Int) : VRel ι (.int k n) (.int k n)
  | str (s : ByteArray) : VRel ι (.string s) (.string s)
  | ptr0 : VRel ι (.pointer none) (.pointer none)
  | ptr {a a' : Addr} (h : addrRel ι a a') : VRel ι (.pointer (some a)) (.pointer (some a'))
  | sl0 (n c : Nat) : VRel ι (.slice none n c) (.slice none n c)
  | sl {a a' : Addr} (n : Nat) {c : Nat} (h : addrRel ι a a') (hc : c < 4611686018427387904) : VRel ι (.slice (some a) n c) (.slice (some a') n c)
  | slg {a a' : Addr} (n : Nat) {c c' : Nat} (h : addrRel ι a a') (h0 : a.off = 0) (hk : ι a.block = some (a'.block, c')) (h1 : 4611686018427387904 ≤ c) (h2 : c < 9223372036854775808) (hc : c - 4611686018427387904 ≤ c') : VRel ι (.slice (some a) n c) (.slice (some a') n c')
  | slv {a a' : Addr} (n : Nat) {c c' : Nat} (h : addrRel ι a a') (h1 : 9223372036854775808 ≤ c) (hc : c - 9223372036854775808 ≤ c') : VRel ι (.slice (some a) n c) (.slice (some a') n c')
  | map0 : VRel ι (.map none) (.map none)
  | map {b b' : Nat} (h : ι.to b = some b') : VRel ι (.map (some b)) (.map (some b'))
  | nilFunc : VRel ι .nilFunc .nilFunc
  | func {f f' : Fn} {x x' c c' : Array Value} (hf : FnRel ι f f') (hx : x'.size = x.size) (hc : c'.size = c.size)
      (h1 : ∀ i, i < x.size → VRel ι (x.getD i undef) (x'.getD i undef)) (h2 : ∀ i, i < c.size → VRel ι (c.getD i undef) (c'.getD i undef)) : VRel ι (.func f x c) (.func f' x' c')
  | nilIface : VRel ι .nilIface .nilIface
  | iface (t : TypeId) {v v' : Value} (h : VRel ι v v') : VRel ι (.iface t v) (.iface t v')
  | agg {c c' : Array Value} (hc : c'.size = c.size) (h : ∀ i, i < c.size → VRel ι (c.getD i undef) (c'.getD i undef)) : VRel ι (.agg c) (.agg c')
  | tuple {c c' : Array Value} (hc : c'.size = c.size) (h : ∀ i, i < c.size → VRel ι (c.getD i undef) (c'.getD i undef)) : VRel ι (.tuple c) (.tuple c')

def ARel (ι : Ren) (c c' : Array Value) : Prop := c'.size = c.size ∧ ∀ i, i < c.size → VRel ι (c.getD i undef) (c'.getD i undef)
def Ren.le (ι ι' : Ren) : Prop := ∀ b r, ι b = some r → ι' b = some r
theorem Ren.le.to {ι ι' : Ren} (l : ι.le ι') {b r : Nat} (h : ι.to b = some r) : ι'.to b = some r := by
  unfold Ren.to at *
  cases e : ι b with
  | none => rw [e] at h; cases h
  | some p => rw [e] at h; rw [l b p e]; exact h
theorem Ren.to_of {ι : Ren} {b r κ : Nat} (h : ι b = some (r, κ)) : ι.to b = some r := by unfold Ren.to; rw [h]; rfl
theorem Ren.to_some {ι : Ren} {b r : Nat} (h : ι.to b = some r) : ∃ κ, ι b = some (r, κ) := by
  unfold Ren.to at h
  cases e : ι b with
  | none => rw [e] at h; cases h
  | some p => rw [e] at h; obtain ⟨q, κ⟩ := p; cases h; exact ⟨κ, rfl⟩
theorem Ren.le.refl (ι : Ren) : ι.le ι := fun _ _ h => h
theorem Ren.le.trans {a b c : Ren} (h : a.le b) (k : b.le c) : a.le c := fun x r e => k x r (h x r e)
theorem addrRel.mono {ι ι' : Ren} (l : ι.le ι') {a a' : Addr} (h : addrRel ι a a') : addrRel ι' a a' := ⟨l.to h.1, h.2⟩
theorem VRel.mono {ι ι' : Ren} (l : ι.le ι') {v v' : Value} (h : VRel ι v v') : VRel ι' v v' := by
  induction h with
  | top v => exact .top v
  | tok i => exact .tok i
  | bool b => exact .bool b
  | int k n => exact .int k n
  | str s => exact .str s
  | ptr0 => exact .ptr0
  | ptr h => exact .ptr (h.mono l)
  | sl0 n c => exact .sl0 n c
  | sl n h hc => exact .sl n (h.mono l) hc
  | slg n h h0 hk h1 h2 hc => exact .slg n (h.mono l) h0 (l _ _ hk) h1 h2 hc
  | slv n h h1 hc => exact .slv n (h.mono l) h1 hc
  | map0 => exact .map0
  | map h => exact .map (l.to h)
  | nilFunc => exact .nilFunc
  | func hf hx hc h1 h2 i1 i2 =>
    refine .func ?_ hx hc i1 i2
    cases hf with
    | func f => exact .func f
    | yield h => exact .yield (l.to h)
  | nilIface => exact .nilIface
  | iface t h ih => exact .iface t ih
  | agg hc h ih => exact .agg hc ih
  | tuple hc h ih => exact .tuple hc ih
theorem ARel.mono {ι ι' : Ren} (l : ι.le ι') {c c' : Array Value} (h : ARel ι c c') : ARel ι' c c' := ⟨h.1, fun i hi => (h.2 i hi).mono l⟩
theorem VRel.undef (ι : Ren) : VRel ι Go.undef Go.undef := .tuple rfl fun i hi => absurd hi (by simp)
theorem ARel.nil (ι : Ren) : ARel ι #[] #[] := ⟨rfl, fun i hi => absurd hi (by simp)⟩
/-- A slot, there or not. -/
theorem ARel.getD {ι : Ren} {c c' : Array Value} (h : ARel ι c c') (i : Nat) : VRel ι (c.getD i Go.undef) (c'.getD i Go.undef) := by
  by_cases hi : i < c.size
  · exact h.2 i hi
  · have : ¬ i < c'.size := by rw [h.1]; exact hi
    simp only [Array.getD, hi, this, dite_false]
    exact VRel.undef ι
theorem getD_of_get? {c : Array Value} {i : Nat} {v : Value} (h : c[i]? = some v) : c.getD i Go.undef = v := by
  simp [Array.getD_eq_getD_getElem?, h]
theorem get?_of_lt {c : Array Value} {i : Nat} (h : i < c.size) : c[i]? = some (c.getD i Go.undef) := by
  simp [Array.getD, h]
theorem ARel.get? {ι : Ren} {c c' : Array Value} (h : ARel ι c c') {i : Nat} {v : Value} (e : c[i]? = some v) : ∃ v', c'[i]? = some v' ∧ VRel ι v v' := by
  have hi : i < c.size := by
    rcases Nat.lt_or_ge i c.size with h | h
    · exact h
    · rw [Array.getElem?_eq_none h] at e; cases e
  have e1 := h.2 i hi
  rw [getD_of_get? e] at e1
  exact ⟨_, get?_of_lt (h.1 ▸ hi), e1⟩
theorem ARel.set {ι : Ren} {c c' : Array Value} (h : ARel ι c c') (d : Nat) {v v' : Value} (hv : VRel ι v v') : ARel ι (c.setIfInBounds d v) (c'.setIfInBounds d v') := by
  refine ⟨by simp [h.1], fun i hi => ?_⟩
  have hi' : i < c.size := by simpa using hi
  simp only [Array.getD_eq_getD_getElem?, Array.getElem?_setIfInBounds, h.1]
  by_cases e : d = i
  · subst e; simp [hi']; exact hv
  · simp only [e, if_false]
    have := h.2 i hi'
    simpa only [Array.getD_eq_getD_getElem?] using this
theorem ARel.push {ι : Ren} {c c' : Array Value} (h : ARel ι c c') {v v' : Value} (hv : VRel ι v v') : ARel ι (c.push v) (c'.push v') := by
  refine ⟨by simp [h.1], fun i hi => ?_⟩
  simp only [Array.getD_eq_getD_getElem?, Array.getElem?_push, h.1]
  by_cases e : i = c.size
  · simp [e]; exact hv
  · simp only [e, if_false]
    have := h.2 i (by simp at hi; omega)
    simpa only [Array.getD_eq_getD_getElem?] using this
theorem ARel.append {ι : Ren} {c c' d d' : Array Value} (h : ARel ι c c') (k : ARel ι d d') : ARel ι (c ++ d) (c' ++ d') := by
  refine ⟨by simp [h.1, k.1], fun i hi => ?_⟩
  simp only [Array.getD_eq_getD_getElem?, Array.getElem?_append, h.1]
  by_cases e : i < c.size
  · simp only [e, if_true]
    have := h.2 i e
    simpa only [Array.getD_eq_getD_getElem?] using this
  · simp only [e, if_false]
    have := k.2 (i - c.size) (by simp at hi; omega)
    simpa only [Array.getD_eq_getD_getElem?] using this
theorem ARel.extract {ι : Ren} {c c' : Array Value} (h : ARel ι c c') (a b : Nat) : ARel ι (c.extract a b) (c'.extract a b) := by
  refine ⟨by simp [h.1], fun i hi => ?_⟩
  simp only [Array.size_extract] at hi
  simp only [Array.getD_eq_getD_getElem?, Array.getElem?_extract, h.1]
  have hi2 : i < min b c.size - a := hi
  simp only [hi2, if_true]
  have := h.2 (a + i) (by omega)
  simpa only [Array.getD_eq_getD_getElem?] using this
theorem ARel.map {ι : Ren} {α : Type} (l : Array α) (f g : α → Value) (h : ∀ x, VRel ι (f x) (g x)) : ARel ι (l.map f) (l.map g) := by
  refine ⟨by simp, fun i hi => ?_⟩
  have hi' : i < l.size := by simpa using hi
  simp only [Array.getD_eq_getD_getElem?, Array.getElem?_map]
  rw [Array.getElem?_eq_getElem hi']
  exact h _
theorem ARel.replicate {ι : Ren} (n : Nat) {v v' : Value} (hv : VRel ι v v') : ARel ι (Array.replicate n v) (Array.replicate n v') := by
  refine ⟨by simp, fun i hi => ?_⟩
  have hi' : i < n := by simpa using hi
  simp [Array.getD_eq_getD_getElem?, Array.getElem?_replicate, hi']; exact hv
theorem ARel.one {ι : Ren} {v v' : Value} (hv : VRel ι v v') : ARel ι #[v] #[v'] := (ARel.nil ι).push hv
theorem ARel.two {ι : Ren} {v v' u u' : Value} (hv : VRel ι v v') (hu : VRel ι u u') : ARel ι #[v, u] #[v', u'] := ((ARel.nil ι).push hv).push hu
/-- A value's cells: known only where it isn't the unknown one. -/
theorem VRel.cells {ι : Ren} {v v' : Value} (h : VRel ι v v') (ht : v ≠ .complex .f64 0 0) : ARel ι v.cells v'.cells := by
  cases h with
  | top => exact absurd rfl ht
  | tok i => rw [cells_one (Sym.one i)]; exact ARel.one (.tok i)
  | agg hc h => exact ⟨hc, h⟩
  | bool b => exact ARel.one (.bool b)
  | int k n => exact ARel.one (.int k n)
  | str s => exact ARel.one (.str s)
  | ptr0 => exact ARel.one .ptr0
  | ptr h => exact ARel.one (.ptr h)
  | sl0 n c => exact ARel.one (.sl0 n c)
  | sl n h hc => exact ARel.one (.sl n h hc)
  | slg n h h0 hk h1 h2 hc => exact ARel.one (.slg n h h0 hk h1 h2 hc)
  | slv n h h1 hc => exact ARel.one (.slv n h h1 hc)
  | map0 => exact ARel.one .map0
  | map h => exact ARel.one (.map h)
  | nilFunc => exact ARel.one .nilFunc
  | func hf hx hc h1 h2 => exact ARel.one (.func hf hx hc h1 h2)
  | nilIface => exact ARel.one .nilIface
  | iface t h => exact ARel.one (.iface t h)
  | tuple hc h => exact ARel.one (.tuple hc h)

structure EntryRel (ι : Ren) (e e' : MapEntry) : Prop where
  key : VRel ι e.key e'.key
  val : VRel ι e.val e'.val
  born : e'.born = e.born
def EntriesRel (ι : Ren) (es es' : Array MapEntry) : Prop := es'.size = es.size ∧ ∀ i, i < es.size → EntryRel ι (es.getD i default) (es'.getD i default)
inductive TargetRel (ι : Ren) : Target → Target → Prop
  | fn {f f' : Fn} {c c' : Array Value} (hf : FnRel ι f f') (hc : ARel ι c c') : TargetRel ι (.fn f c) (.fn f' c')
  | collected {r r' : Nat} (h : ι.to r = some r') : TargetRel ι (.collected r) (.collected r')
structure DeferRel (ι : Ren) (d d' : Deferred) : Prop where
  target : TargetRel ι d.target d'.target
  args : ARel ι d.args d'.args
inductive DefersRel (ι : Ren) : List Deferred → List Deferred → Prop
  | nil : DefersRel ι [] []
  | cons {d d' : Deferred} {l l' : List Deferred} (h : DeferRel ι d d') (t : DefersRel ι l l') : DefersRel ι (d :: l) (d' :: l')
inductive OptRel (ι : Ren) : Option Nat → Option Nat → Prop
  | none : OptRel ι .none .none
  | some {b b' : Nat} (h : ι.to b = .some b') : OptRel ι (.some b) (.some b')
/-- A block, as far as it is known; κ: how many elements one that has grown has in all. -/
inductive ORel (ι : Ren) (κ : Nat) : AObj → Obj → Prop
  | cells {c c' : Array Value} {t t' : TypeId} {fro : Bool} {g : Nat} {fr : Nat × Nat} (hs : c.size ≤ c'.size) (h : ∀ i, i < c.size → VRel ι (c.getD i undef) (c'.getD i undef))
      (hf : fro = false → fr = (0, 0)) (hg : g ≠ 0 → c'.size = κ * g) (ht : (fro = false ∨ g ≠ 0) → t' = t := by exact fun _ => rfl) : ORel ι κ (.cells c t fro g) (.cells c' t' fr)
  | map {es es' : Array MapEntry} {k : Nat} (h : EntriesRel ι es es') : ORel ι κ (.other (.map es k)) (.map es' k)
  | siter (s : ByteArray) (p : Nat) : ORel ι κ (.other (.stringIter s p)) (.stringIter s p)
  | miter {m m' : Option Nat} (since : Nat) (seen : Array Nat) (stepped : Nat) (h : OptRel ι m m') : ORel ι κ (.other (.mapIter m since seen stepped)) (.mapIter m' since seen stepped)
  | loop {l l' : Loop} (h1 : l'.state = l.state) (h2 : l'.pending = l.pending) (h3 : l'.fn = l.fn) (h4 : l'.params = l.params) (h5 : l'.assign = l.assign) (h6 : l'.body = l.body) (h7 : ι.to l.defers = some l'.defers) (h8 : ARel ι l.tmps l'.tmps) :
      ORel ι κ (.other (.loop l)) (.loop l')
  | deferred0 : ORel ι κ (.other (.deferred none)) (.deferred none)
  | deferred {l l' : List Deferred} (h : DefersRel ι l l') : ORel ι κ (.other (.deferred (some l))) (.deferred (some l'))
  | table {l : List (Value × Value)} {es' : Array MapEntry} {k : Nat} (h1 : ∀ e ∈ es'.toList, ∃ p ∈ l, e.key = p.1 ∧ VRel ι p.2 e.val) (h2 : ∀ p ∈ l, ∃ e ∈ es'.toList, e.key = p.1) : ORel ι κ (.table l) (.map es' k)
  | sym {j : Nat} {ro : Obj} (h : Sym.obj j ro) : ORel ι κ (.sym j) ro
theorem FnRel.mono {ι ι' : Ren} (l : ι.le ι') {f f' : Fn} (h : FnRel ι f f') : FnRel ι' f f' := by
  cases h with
  | func f => exact .func f
  | yield h => exact .yield (l.to h)
theorem DeferRel.mono {ι ι' : Ren} (l : ι.le ι') {d d' : Deferred} (h : DeferRel ι d d') : DeferRel ι' d d' := by
  obtain ⟨ht, ha⟩ := h
  refine ⟨?_, ha.mono l⟩
  generalize d.target = t at *
  generalize d'.target = t' at *
  cases ht with
  | fn hf hc => exact .fn (hf.mono l) (hc.mono l)
  | collected h => exact .collected (l.to h)
theorem DefersRel.mono {ι ι' : Ren} (l : ι.le ι') {d d' : List Deferred} (h : DefersRel ι d d') : DefersRel ι' d d' := by
  induction h with
  | nil => exact .nil
  | cons h _ ih => exact .cons (h.mono l) ih
theorem ORel.mono {ι ι' : Ren} (l : ι.le ι') {κ : Nat} {o : AObj} {r : Obj} (h : ORel ι κ o r) : ORel ι' κ o r := by
  cases h with
  | cells hs h hf hg ht => exact .cells hs (fun i hi => (h i hi).mono l) hf hg ht
  | map h => exact .map ⟨h.1, fun i hi => ⟨(h.2 i hi).key.mono l, (h.2 i hi).val.mono l, (h.2 i hi).born⟩⟩
  | siter s p => exact .siter s p
  | miter a b c h =>
    refine .miter a b c ?_
    cases h with
    | none => exact .none
    | some h => exact .some (l.to h)
  | loop h1 h2 h3 h4 h5 h6 h7 h8 => exact .loop h1 h2 h3 h4 h5 h6 (l.to h7) (h8.mono l)
  | deferred0 => exact .deferred0
  | deferred h => exact .deferred (h.mono l)
  | table h1 h2 => exact .table (fun e he => let ⟨p, hp, a, b⟩ := h1 e he; ⟨p, hp, a, b.mono l⟩) h2
  | sym h => exact .sym h

/-- Below which block nothing may be turned, and what is known of the world because of that. -/
structure Bd where
  n : Nat
  J : World → Prop
  keep : ∀ w w', Below n w w' → J w → J w'
/-- The abstract state stands for the real world. G: below it nothing may be turned, of the evaluator's numbers; the program's own variables are those that lie 16 below it; B: below it nothing may be turned. -/
structure WRel (G : Nat) (B : Bd) (ι : Ren) (st : St) (w : World) : Prop where
  obj : ∀ b r κ o, ι b = some (r, κ) → st.get b = some o → ∃ ro, w.heap[r]? = some ro ∧ ORel ι κ o ro
  lt : ∀ b r, ι.to b = some r → r < w.heap.size
  inj : ∀ b b' r, G ≤ b → G ≤ b' → ι.to b = some r → ι.to b' = some r → (st.get b).isSome = true → (st.get b').isSome = true → b = b'
  under : ∀ b r, b < G → ι.to b = some r → r < B.n
  nxt : G ≤ st.next
  low : ∀ b r, G ≤ b → ι.to b = some r → B.n ≤ r
  glob : ∀ g, g + 16 < G → ι g = some (g, 0)
  big : B.n ≤ w.heap.size
  laid : B.J w
structure Post (G : Nat) (B : Bd) (ι : Ren) (st : St) (w : World) (st' : St) (ι' : Ren) (w' : World) : Prop where
  rel : WRel G B ι' st' w'
  le : ι.le ι'
  ext : ∀ b, (b < st.next ∨ st'.next ≤ b) → ι' b = ι b
  below : Below B.n w w'
def Free (ι : Ren) (a b : Nat) : Prop := ∀ c, a ≤ c → c < b → ι c = none
theorem Post.refl {G : Nat} {B : Bd} {ι : Ren} {st : St} {w : World} (h : WRel G B ι st w) : Post G B ι st w st ι w := ⟨h, Ren.le.refl ι, fun _ _ => rfl, Below.refl _ _⟩
theorem Post.trans {G : Nat} {B : Bd} {ι ι1 ι2 : Ren} {st st1 st2 : St} {w w1 w2 : World} (h : Post G B ι st w st1 ι1 w1) (k : Post G B ι1 st1 w1 st2 ι2 w2) (g1 : st.next ≤ st1.next) (g2 : st1.next ≤ st2.next) : Post G B ι st w st2 ι2 w2 :=
  ⟨k.rel, h.le.trans k.le, fun b hb => (k.ext b (by omega)).trans (h.ext b (by omega)), h.below.trans k.below⟩
theorem Free.mid {G : Nat} {B : Bd} {ι ι1 : Ren} {st st1 st2 : St} {w w1 : World} (h : Post G B ι st w st1 ι1 w1) (f : Free ι st.next st2.next) (g1 : st.next ≤ st1.next) : Free ι1 st1.next st2.next :=
  fun c h1 h2 => (h.ext c (by omega)).trans (f c (by omega) h2)
/-- Draws turn nothing. -/
theorem WRel.drew {G : Nat} {B : Bd} {ι : Ren} {st : St} {w : World} (h : WRel G B ι st w) : WRel G B ι st w.drew := ⟨h.obj, h.lt, h.inj, h.under, h.nxt, h.low, h.glob, h.big, B.keep w w.drew ⟨rfl, rfl, rfl, Nat.le_refl _, fun _ _ => rfl⟩ h.laid⟩

def upd (ι : Ren) (b r κ : Nat) : Ren := fun c => if c = b then some (r, κ) else ι c
theorem upd_same (ι : Ren) (b r κ : Nat) : upd ι b r κ b = some (r, κ) := if_pos rfl
theorem upd_to_same (ι : Ren) (b r κ : Nat) : (upd ι b r κ).to b = some r := Ren.to_of (upd_same ι b r κ)
theorem upd_to_other (ι : Ren) (b r κ c : Nat) (h : c ≠ b) : (upd ι b r κ).to c = ι.to c := by unfold Ren.to upd; rw [if_neg h]
theorem upd_other (ι : Ren) (b r κ c : Nat) (h : c ≠ b) : upd ι b r κ c = ι c := if_neg h
theorem upd_le {ι : Ren} {b r κ : Nat} (h : ι b = none) : ι.le (upd ι b r κ) := by
  intro c q e
  by_cases hc : c = b
  · subst hc; rw [h] at e; cases e
  · rw [upd_other _ _ _ _ _ hc]; exact e
/-- A new block. -/
theorem Post.alloc {G : Nat} {B : Bd} {ι : Ren} {st st' : St} {w : World} {o : AObj} {ro : Obj} (κ : Nat) (h : WRel G B ι st w) (hfree : ι st.next = none) (hget : ∀ c, st'.get c = if c = st.next then some o else st.get c) (hnext : st'.next = st.next + 1)
    (ho : ORel (upd ι st.next w.heap.size κ) κ o ro) : Post G B ι st w st' (upd ι st.next w.heap.size κ) (w.alloc ro) := by
  have hle : ι.le (upd ι st.next w.heap.size κ) := upd_le hfree
  have hsz : (w.alloc ro).heap.size = w.heap.size + 1 := by simp
  refine ⟨⟨?_, ?_, ?_, ?_, by have := h.nxt; omega, ?_, ?_, ?_, B.keep _ _ ((Below.refl B.n w).alloc h.big _) h.laid⟩, hle, ?_, (Below.refl B.n w).alloc h.big _⟩
  · intro b r k o' e1 e2
    rw [hget] at e2
    by_cases hb : b = st.next
    · rw [if_pos hb] at e2; cases e2
      subst hb
      rw [upd_same] at e1; cases e1
      exact ⟨ro, by show (w.heap.push ro)[w.heap.size]? = some ro; simp, ho⟩
    · rw [if_neg hb] at e2
      rw [upd_other _ _ _ _ _ hb] at e1
      obtain ⟨ro', hr, h2⟩ := h.obj b r k o' e1 e2
      have := h.lt b r (Ren.to_of e1)
      exact ⟨ro', by rw [Below.heap_alloc w ro r this]; exact hr, h2.mono hle⟩
  · intro b r e1
    by_cases hb : b = st.next
    · subst hb; rw [upd_to_same] at e1; cases e1; omega
    · rw [upd_to_other _ _ _ _ _ hb] at e1; have := h.lt b r e1; omega
  · intro b b' r g1 g2 e1 e2 s1 s2
    rw [hget] at s1 s2
    by_cases hb : b = st.next
    · by_cases hb' : b' = st.next
      · rw [hb, hb']
      · subst hb; rw [upd_to_same] at e1; cases e1
        rw [upd_to_other _ _ _ _ _ hb'] at e2
        have := h.lt b' _ e2; omega
    · rw [upd_to_other _ _ _ _ _ hb] at e1; rw [if_neg hb] at s1
      by_cases hb' : b' = st.next
      · subst hb'; rw [upd_to_same] at e2; cases e2
        have := h.lt b _ e1; omega
      · rw [upd_to_other _ _ _ _ _ hb'] at e2; rw [if_neg hb'] at s2
        exact h.inj b b' r g1 g2 e1 e2 s1 s2
  · intro b r hlt e1
    have := h.nxt
    rw [upd_to_other _ _ _ _ _ (by omega)] at e1
    exact h.under b r hlt e1
  · intro b r hg e1
    by_cases hb : b = st.next
    · subst hb; rw [upd_to_same] at e1; cases e1; exact h.big
    · rw [upd_to_other _ _ _ _ _ hb] at e1; exact h.low b r hg e1
  · intro g hg
    exact hle g _ (h.glob g hg)
  · have := h.big; omega
  · intro b hb
    rw [upd_other _ _ _ _ _ (by omega)]
/-- A block of the world, set anew. -/
def setBlk (w : World) (r : Nat) (o : Obj) : World := { w with heap := w.heap.setIfInBounds r o }
theorem setBlk_get (w : World) (r : Nat) (o : Obj) (h : r < w.heap.size) (k : Nat) : (setBlk w r o).heap[k]? = if k = r then some o else w.heap[k]? := by
  simp only [setBlk, Array.getElem?_setIfInBounds]
  by_cases e : r = k
  · subst e; simp [h]
  · rw [if_neg e, if_neg (fun x => e x.symm)]
theorem below_setBlk {B : Nat} (w : World) (r : Nat) (o : Obj) (h : r < w.heap.size) (hB : B ≤ r) : Below B w (setBlk w r o) :=
  ⟨rfl, rfl, rfl, by simp [setBlk], fun k hk => by rw [setBlk_get w r o h, if_neg (by omega)]⟩
theorem setBlk_self (w : World) (r : Nat) (o : Obj) (h : w.heap[r]? = some o) : setBlk w r o = w := by
  have hlt : r < w.heap.size := by
    rcases Nat.lt_or_ge r w.heap.size with h' | h'
    · exact h'
    · rw [Array.getElem?_eq_none h'] at h; cases h
  have : w.heap.setIfInBounds r o = w.heap := by
    apply Array.ext_getElem?
    intro i
    rw [Array.getElem?_setIfInBounds]
    by_cases e : r = i
    · subst e; simp [hlt]; simpa [Array.getElem?_eq_getElem hlt] using h.symm
    · rw [if_neg e]
  cases w
  simp only [setBlk] at *
  rw [this]
/-- A block is turned. -/
theorem Post.turn {G : Nat} {B : Bd} {ι : Ren} {st st' : St} {w : World} {b r κ : Nat} {o o0 : AObj} {ro : Obj} (h : WRel G B ι st w) (hb : ι b = some (r, κ)) (hG : G ≤ b) (hlive : st.get b = some o0) (hget : ∀ c, st'.get c = if c = b then some o else st.get c) (hnext : st'.next = st.next)
    (ho : ORel ι κ o ro) : Post G B ι st w st' ι (setBlk w r ro) := by
  have hbt := Ren.to_of hb
  have hr := h.lt b r hbt
  refine ⟨⟨?_, ?_, ?_, h.under, by have := h.nxt; omega, h.low, h.glob, by simpa [setBlk] using h.big, B.keep _ _ (below_setBlk w r ro hr (h.low b r hG hbt)) h.laid⟩, Ren.le.refl ι, fun _ _ => rfl, below_setBlk w r ro hr (h.low b r hG hbt)⟩
  · intro c q k o' e1 e2
    rw [hget] at e2
    by_cases hc : c = b
    · subst hc
      rw [if_pos rfl] at e2; cases e2
      rw [hb] at e1; cases e1
      exact ⟨ro, by rw [setBlk_get w r ro hr, if_pos rfl], ho⟩
    · rw [if_neg hc] at e2
      obtain ⟨ro', hr', h2⟩ := h.obj c q k o' e1 e2
      have hne : q ≠ r := by
        intro e; subst e
        rcases Nat.lt_or_ge c G with hcG | hcG
        · have := h.under c q hcG (Ren.to_of e1)
          have := h.low b q hG hbt
          omega
        · exact hc (h.inj c b q hcG hG (Ren.to_of e1) hbt (by rw [e2]; rfl) (by rw [hlive]; rfl))
      exact ⟨ro', by rw [setBlk_get w r ro hr, if_neg hne]; exact hr', h2⟩
  · intro c q e1
    simpa [setBlk] using h.lt c q e1
  · intro c c' q g1 g2 e1 e2 s1 s2
    have live : ∀ x, (st'.get x).isSome = true → (st.get x).isSome = true := by
      intro x hx
      rw [hget] at hx
      by_cases e : x = b
      · subst e; rw [hlive]; rfl
      · rwa [if_neg e] at hx
    exact h.inj c c' q g1 g2 e1 e2 (live _ s1) (live _ s2)
/-- A block counts as gone. -/
theorem Post.kill {G : Nat} {B : Bd} {ι : Ren} {st st' : St} {w : World} {b : Nat} (h : WRel G B ι st w) (hget : ∀ c, st'.get c = if c = b then none else st.get c) (hnext : st.next ≤ st'.next) : Post G B ι st w st' ι w := by
  have live : ∀ x o, st'.get x = some o → st.get x = some o := by
    intro x o hx
    rw [hget] at hx
    by_cases e : x = b
    · rw [if_pos e] at hx; cases hx
    · rwa [if_neg e] at hx
  refine ⟨⟨fun c q k o e1 e2 => h.obj c q k o e1 (live _ _ e2), h.lt, fun c c' q g1 g2 e1 e2 s1 s2 => ?_, h.under, Nat.le_trans h.nxt hnext, h.low, h.glob, h.big, h.laid⟩, Ren.le.refl ι, fun _ _ => rfl, Below.refl _ _⟩
  obtain ⟨o1, h1⟩ := Option.isSome_iff_exists.1 s1
  obtain ⟨o2, h2⟩ := Option.isSome_iff_exists.1 s2
  exact h.inj c c' q g1 g2 e1 e2 (by rw [live _ _ h1]; rfl) (by rw [live _ _ h2]; rfl)
/-- A new number for a block (a slice that has grown in its place): the old number counts as gone. -/
theorem Post.renew {G : Nat} {B : Bd} {ι : Ren} {st st' : St} {w : World} {b r κ : Nat} {o o0 : AObj} {ro : Obj} (h : WRel G B ι st w) (hb : ι b = some (r, κ)) (hG : G ≤ b) (hlive : st.get b = some o0) (hfree : ι st.next = none)
    (hget : ∀ c, st'.get c = if c = st.next then some o else if c = b then none else st.get c) (hnext : st'.next = st.next + 1) (ho : ORel (upd ι st.next r κ) κ o ro) : Post G B ι st w st' (upd ι st.next r κ) (setBlk w r ro) := by
  have hbt := Ren.to_of hb
  have hr := h.lt b r hbt
  have hle : ι.le (upd ι st.next r κ) := upd_le hfree
  have hother : ∀ c, c ≠ b → ι.to c = some r → st.get c = none := by
    intro c hc e
    cases hg : st.get c with
    | none => rfl
    | some x =>
      rcases Nat.lt_or_ge c G with hcG | hcG
      · have := h.under c r hcG e
        have := h.low b r hG hbt
        omega
      · exact absurd (h.inj c b r hcG hG e hbt (by rw [hg]; rfl) (by rw [hlive]; rfl)) hc
  refine ⟨⟨?_, ?_, ?_, ?_, by have := h.nxt; omega, ?_, fun g hg => hle g _ (h.glob g hg), by simpa [setBlk] using h.big, B.keep _ _ (below_setBlk w r ro hr (h.low b r hG hbt)) h.laid⟩, hle, ?_, below_setBlk w r ro hr (h.low b r hG hbt)⟩
  · intro c q k o' e1 e2
    rw [hget] at e2
    by_cases hc : c = st.next
    · rw [if_pos hc] at e2; cases e2
      subst hc
      rw [upd_same] at e1; cases e1
      exact ⟨ro, by rw [setBlk_get w r ro hr, if_pos rfl], ho⟩
    · rw [if_neg hc] at e2
      rw [upd_other _ _ _ _ _ hc] at e1
      by_cases hcb : c = b
      · rw [if_pos hcb] at e2; cases e2
      · rw [if_neg hcb] at e2
        obtain ⟨ro', hr', h2⟩ := h.obj c q k o' e1 e2
        have hne : q ≠ r := by
          intro e; subst e
          rw [hother c hcb (Ren.to_of e1)] at e2; cases e2
        exact ⟨ro', by rw [setBlk_get w r ro hr, if_neg hne]; exact hr', h2.mono hle⟩
  · intro c q e1
    by_cases hc : c = st.next
    · subst hc; rw [upd_to_same] at e1; cases e1; simpa [setBlk] using hr
    · rw [upd_to_other _ _ _ _ _ hc] at e1; simpa [setBlk] using h.lt c q e1
  · intro c c' q g1 g2 e1 e2 s1 s2
    rw [hget] at s1 s2
    by_cases hc : c = st.next
    · by_cases hc' : c' = st.next
      · rw [hc, hc']
      · subst hc; rw [upd_to_same] at e1; cases e1
        rw [upd_to_other _ _ _ _ _ hc'] at e2; rw [if_neg hc'] at s2
        by_cases hcb : c' = b
        · rw [if_pos hcb] at s2; cases s2
        · rw [if_neg hcb, hother c' hcb e2] at s2; cases s2
    · rw [upd_to_other _ _ _ _ _ hc] at e1; rw [if_neg hc] at s1
      by_cases hcb : c = b
      · rw [if_pos hcb] at s1; cases s1
      rw [if_neg hcb] at s1
      by_cases hc' : c' = st.next
      · subst hc'; rw [upd_to_same] at e2; cases e2
        rw [hother c hcb e1] at s1; cases s1
      · rw [upd_to_other _ _ _ _ _ hc'] at e2; rw [if_neg hc'] at s2
        by_cases hcb' : c' = b
        · rw [if_pos hcb'] at s2; cases s2
        rw [if_neg hcb'] at s2
        exact h.inj c c' q g1 g2 e1 e2 s1 s2
  · intro c q hlt e1
    have := h.nxt
    rw [upd_to_other _ _ _ _ _ (by omega)] at e1
    exact h.under c q hlt e1
  · intro c q hg e1
    by_cases hc : c = st.next
    · subst hc; rw [upd_to_same] at e1; cases e1; exact h.low b r hG hbt
    · rw [upd_to_other _ _ _ _ _ hc] at e1; exact h.low c q hg e1
  · intro c hc
    rw [upd_other _ _ _ _ _ (by omega)]
end Go.Proofs.YtmmfpkkkpeapeaaGreatDoor.Ev
