/- The evaluator's ground: a trie of blocks, the abstract state, and a monad of runs that are local: a run's outcome depends only on the blocks that it reads, and turns only those that it tells. No condition. -/
import Derived.Calls
namespace Go.Proofs.YtmmfpkkkpeapeaaGreatDoor.Ev
open Go

inductive Tr (α : Type) where
  | nil
  | node (l : Tr α) (v : Option α) (r : Tr α)
namespace Tr
variable {α : Type}
def left : Tr α → Tr α
  | .nil => .nil
  | .node l _ _ => l
def right : Tr α → Tr α
  | .nil => .nil
  | .node _ _ r => r
def val : Tr α → Option α
  | .nil => none
  | .node _ v _ => v
def getD (d : Nat) : Tr α → Nat → Option α :=
  Nat.rec (motive := fun _ => Tr α → Nat → Option α) (fun _ _ => none) (fun _ ih t n => Tr.casesOn (motive := fun _ => Option α) t none fun l v r =>
    Nat.casesOn (motive := fun _ => Option α) n v fun m => Nat.casesOn (motive := fun _ => Option α) (Nat.mod m 2) (ih l (Nat.div m 2)) fun _ => ih r (Nat.div m 2)) d
def get (t : Tr α) (n : Nat) : Option α := getD 40 t n
def step (f : Tr α → Nat → Option α → Tr α) (l : Tr α) (v : Option α) (r : Tr α) (n : Nat) (x : Option α) : Tr α :=
  Nat.casesOn (motive := fun _ => Tr α) n (.node l x r) fun m => Nat.casesOn (motive := fun _ => Tr α) (Nat.mod m 2)
    (Tr.casesOn (motive := fun _ => Tr α) (f l (Nat.div m 2) x) (.node .nil v r) fun a b c => .node (.node a b c) v r)
    fun _ => Tr.casesOn (motive := fun _ => Tr α) (f r (Nat.div m 2) x) (.node l v .nil) fun a b c => .node l v (.node a b c)
def set (d : Nat) : Tr α → Nat → Option α → Tr α :=
  Nat.rec (motive := fun _ => Tr α → Nat → Option α → Tr α) (fun t _ _ => t) (fun _ ih t n x => Tr.casesOn (motive := fun _ => Tr α) t (step ih .nil none .nil n x) fun l v r => step ih l v r n x) d
theorem get_nil (n : Nat) : (Tr.nil : Tr α).get n = none := rfl
theorem step_eq (f : Tr α → Nat → Option α → Tr α) (l : Tr α) (v : Option α) (r : Tr α) (n : Nat) (x : Option α) : step f l v r n x = if n = 0 then .node l x r
    else if n % 2 = 1 then .node (f l (n / 2) x) v r
    else .node l v (f r (n / 2 - 1) x) := by
  cases n with
  | zero => rfl
  | succ m =>
    rw [if_neg (by omega)]
    unfold step
    dsimp only
    have em : Nat.mod m 2 = m % 2 := rfl
    have ed : Nat.div m 2 = m / 2 := rfl
    rw [em, ed]
    rcases (show m % 2 = 0 ∨ m % 2 = 1 by omega) with h | h
    · rw [h, if_pos (by omega), show (m + 1) / 2 = m / 2 by omega]
      cases f l (m / 2) x <;> rfl
    · rw [h, if_neg (by omega), show (m + 1) / 2 - 1 = m / 2 by omega]
      cases f r (m / 2) x <;> rfl
theorem set_succ (d : Nat) (t : Tr α) (n : Nat) (x : Option α) : set (d + 1) t n x = if n = 0 then .node t.left x t.right
    else if n % 2 = 1 then .node (set d t.left (n / 2) x) t.val t.right
    else .node t.left t.val (set d t.right (n / 2 - 1) x) := by
  cases t with
  | nil => exact step_eq _ _ _ _ _ _
  | node l v r => exact step_eq _ _ _ _ _ _
theorem getD_eq (d : Nat) (t : Tr α) (n : Nat) : getD (d + 1) t n = if n = 0 then t.val else if n % 2 = 1 then getD d t.left (n / 2) else getD d t.right (n / 2 - 1) := by
  have knil : ∀ (d n : Nat), getD d (Tr.nil : Tr α) n = none := by
    intro d n
    cases d <;> rfl
  cases t with
  | nil =>
    rw [knil]
    simp only [left, right, val, knil, ite_self]
  | node l v r =>
    cases n with
    | zero => rfl
    | succ m =>
      rw [if_neg (by omega)]
      show Nat.casesOn (motive := fun _ => Option α) (Nat.mod m 2) (getD d l (Nat.div m 2)) (fun _ => getD d r (Nat.div m 2)) = _
      have em : Nat.mod m 2 = m % 2 := rfl
      have ed : Nat.div m 2 = m / 2 := rfl
      rw [em, ed]
      rcases (show m % 2 = 0 ∨ m % 2 = 1 by omega) with h | h
      · rw [h, if_pos (by omega), show (m + 1) / 2 = m / 2 by omega]; rfl
      · rw [h, if_neg (by omega), show (m + 1) / 2 - 1 = m / 2 by omega]; rfl
theorem getD_set : ∀ (d : Nat) (t : Tr α) (n : Nat) (x : Option α) (m : Nat), n + 1 < 2 ^ d → getD d (set d t n x) m = if m = n then x else getD d t m
  | 0, t, n, x, m, h => by simp at h
  | d + 1, t, n, x, m, h => by
    rw [Nat.pow_succ] at h
    rw [set_succ]
    by_cases h0 : n = 0
    · subst h0
      rw [if_pos rfl, getD_eq d t m, getD_eq]
      by_cases hm : m = 0 <;> simp [hm, left, right, val]
    · rw [if_neg h0]
      by_cases h1 : n % 2 = 1
      · rw [if_pos h1, getD_eq d t m, getD_eq]
        by_cases hm : m = 0
        · simp [hm, val]; intro e; omega
        · rw [if_neg hm, if_neg hm]
          by_cases hm1 : m % 2 = 1
          · rw [if_pos hm1, if_pos hm1]
            show getD d (set d t.left (n / 2) x) (m / 2) = _
            rw [getD_set d t.left (n / 2) x (m / 2) (by omega)]
            have e : (m / 2 = n / 2) = (m = n) := by apply propext; omega
            simp only [e]
          · rw [if_neg hm1, if_neg hm1, if_neg (by omega)]
            rfl
      · rw [if_neg h1, getD_eq d t m, getD_eq]
        by_cases hm : m = 0
        · simp [hm, val]; intro e; omega
        · rw [if_neg hm, if_neg hm]
          by_cases hm1 : m % 2 = 1
          · rw [if_pos hm1, if_pos hm1, if_neg (by omega)]
            rfl
          · rw [if_neg hm1, if_neg hm1]
            show getD d (set d t.right (n / 2 - 1) x) (m / 2 - 1) = _
            rw [getD_set d t.right (n / 2 - 1) x (m / 2 - 1) (by omega)]
            have e : (m / 2 - 1 = n / 2 - 1) = (m = n) := by apply propext; omega
            simp only [e]
theorem get_set (d : Nat) (t : Tr α) (n : Nat) (x : Option α) (m : Nat) (h : n + 1 < 2 ^ d) (hd : d = 40 := by rfl) : (set d t n x).get m = if m = n then x else t.get m := by
  subst hd
  exact getD_set 40 t n x m h
attribute [irreducible] set
end Tr

/-- A block, as far as it is known: its first cells (whether some may be shared with a string; how many cells an element has, if it has grown), another object, a map that is only read, its entries in whatever order, or one that is told by a number. -/
inductive AObj where
  | cells (c : Array Value) (elem : TypeId) (fro : Bool) (grown : Nat)
  | other (o : Obj)
  | table (l : List (Value × Value))
  | sym (j : Nat)

structure St where
  heap : Tr AObj
  next : Nat

def St.get (st : St) (b : Nat) : Option AObj := st.heap.get b
def deep : Nat := 40
theorem deep_pow : 2 ^ deep = 1099511627776 := by decide
theorem lt_deep {n : Nat} (h : n < 1099511627776) : n < 2 ^ deep := Nat.lt_of_lt_of_eq h deep_pow.symm

/-- What a run gives: a value, the state, which blocks it read, which it turned. -/
abbrev F (β : Type) := St → Option (β × St × List Nat × List Nat)

structure Loc {β : Type} (f : F β) : Prop where
  grow : ∀ st x st' rd wr, f st = some (x, st', rd, wr) → st.next ≤ st'.next
  keep : ∀ st x st' rd wr, f st = some (x, st', rd, wr) → ∀ b, b ∉ wr → (b < st.next ∨ st'.next ≤ b) → st'.get b = st.get b
  same : ∀ st x st' rd wr, f st = some (x, st', rd, wr) → ∀ st2 : St, st2.next = st.next → (∀ b ∈ rd, st2.get b = st.get b) →
    ∃ st2', f st2 = some (x, st2', rd, wr) ∧ st2'.next = st'.next ∧ ∀ b, (b ∈ wr ∨ (st.next ≤ b ∧ b < st'.next)) → st2'.get b = st'.get b

/-- The same run, handed what comes behind it (k), what there is where it fails (e), two lists in front of which it tells what it reads and turns. -/
def lift {β γ : Type} (f : F β) (k : β → St → List Nat → List Nat → γ) (e : γ) (st : St) (r w : List Nat) : γ := match f st with
  | none => e
  | some (x, st', rd, wr) => k x st' (rd.reverse ++ r) (wr.reverse ++ w)
structure LM (β : Type) where
  run : F β
  loc : Loc run
  fast : {γ : Type} → (β → St → List Nat → List Nat → γ) → γ → St → List Nat → List Nat → γ
  eq : ∀ {γ : Type} (k : β → St → List Nat → List Nat → γ) (e : γ) st r w, fast k e st r w = lift run k e st r w

namespace LM
variable {α β : Type}
def ret (x : α) : LM α := ⟨fun st => some (x, st, [], []),
  ⟨fun st x' st' rd wr h => by cases h; exact Nat.le_refl _,
   fun st x' st' rd wr h b _ _ => by cases h; rfl,
   fun st x' st' rd wr h st2 e _ => by
    cases h
    exact ⟨st2, rfl, e, fun b hb => by rcases hb with h | ⟨h, h'⟩; · cases h
                                       · omega⟩⟩, fun k _ st r w => k x st r w, fun k e st r w => rfl⟩
def fail : LM α := ⟨fun _ => none, ⟨fun _ _ _ _ _ h => (by cases h), fun _ _ _ _ _ h => (by cases h), fun _ _ _ _ _ h => (by cases h)⟩, fun _ e _ _ _ => e, fun _ _ _ _ _ => rfl⟩
def bindF (f : F α) (g : α → F β) : F β := fun st =>
  match f st with
  | none => none
  | some (x, st1, rd, wr) =>
    match g x st1 with
    | none => none
    | some (y, st2, rd', wr') => some (y, st2, rd ++ rd', wr ++ wr')
theorem bindF_some {f : F α} {g : α → F β} {st : St} {y : β} {st' : St} {rd wr : List Nat} (h : bindF f g st = some (y, st', rd, wr)) :
    ∃ x st1 rd1 wr1 rd2 wr2, f st = some (x, st1, rd1, wr1) ∧ g x st1 = some (y, st', rd2, wr2) ∧ rd = rd1 ++ rd2 ∧ wr = wr1 ++ wr2 := by
  unfold bindF at h
  cases hf : f st with
  | none => rw [hf] at h; cases h
  | some p =>
    obtain ⟨x, st1, rd1, wr1⟩ := p
    rw [hf] at h
    dsimp only at h
    cases hg : g x st1 with
    | none => rw [hg] at h; cases h
    | some q =>
      obtain ⟨y', st2, rd2, wr2⟩ := q
      rw [hg] at h
      cases h
      exact ⟨x, st1, rd1, wr1, rd2, wr2, rfl, hg, rfl, rfl⟩
theorem bindF_mk {f : F α} {g : α → F β} {st st1 st' : St} {x : α} {y : β} {rd1 wr1 rd2 wr2 : List Nat} (h : f st = some (x, st1, rd1, wr1)) (h' : g x st1 = some (y, st', rd2, wr2)) :
    bindF f g st = some (y, st', rd1 ++ rd2, wr1 ++ wr2) := by
  unfold bindF; rw [h]; dsimp only; rw [h']
theorem loc_bind {f : F α} {g : α → F β} (hf : Loc f) (hg : ∀ x, Loc (g x)) : Loc (bindF f g) where
  grow := by
    intro st y st' rd wr h
    obtain ⟨x, st1, rd1, wr1, rd2, wr2, h1, h2, rfl, rfl⟩ := bindF_some h
    exact Nat.le_trans (hf.grow _ _ _ _ _ h1) ((hg x).grow _ _ _ _ _ h2)
  keep := by
    intro st y st' rd wr h b hb hr
    obtain ⟨x, st1, rd1, wr1, rd2, wr2, h1, h2, rfl, rfl⟩ := bindF_some h
    have g1 := hf.grow _ _ _ _ _ h1
    have g2 := (hg x).grow _ _ _ _ _ h2
    simp only [List.mem_append, not_or] at hb
    rw [(hg x).keep _ _ _ _ _ h2 b hb.2 (by omega), hf.keep _ _ _ _ _ h1 b hb.1 (by omega)]
  same := by
    intro st y st' rd wr h st2 hn hrd
    obtain ⟨x, st1, rd1, wr1, rd2, wr2, h1, h2, rfl, rfl⟩ := bindF_some h
    have g1 := hf.grow _ _ _ _ _ h1
    have g2 := (hg x).grow _ _ _ _ _ h2
    obtain ⟨st2a, e1, n1, s1⟩ := hf.same _ _ _ _ _ h1 st2 hn (fun b hb => hrd b (List.mem_append_left _ hb))
    have k1 := hf.keep _ _ _ _ _ h1
    have k1' := hf.keep _ _ _ _ _ e1
    have mid : ∀ b ∈ rd2, st2a.get b = st1.get b := by
      intro b hb
      by_cases hw : b ∈ wr1 ∨ (st.next ≤ b ∧ b < st1.next)
      · exact s1 b hw
      · have hw1 : b ∉ wr1 := fun h => hw (.inl h)
        have hw2 : b < st.next ∨ st1.next ≤ b := by omega
        rw [k1 b hw1 hw2, k1' b hw1 (by omega)]
        exact hrd b (List.mem_append_right _ hb)
    obtain ⟨st2b, e2, n2, s2⟩ := (hg x).same _ _ _ _ _ h2 st2a n1 mid
    refine ⟨st2b, bindF_mk e1 e2, n2, fun b hb => ?_⟩
    by_cases hw : b ∈ wr2 ∨ (st1.next ≤ b ∧ b < st'.next)
    · exact s2 b hw
    · have hw1 : b ∉ wr2 := fun h => hw (.inl h)
      rw [(hg x).keep _ _ _ _ _ h2 b hw1 (by omega), (hg x).keep _ _ _ _ _ e2 b hw1 (by omega)]
      apply s1
      rcases hb with h | h
      · rcases List.mem_append.1 h with h | h
        · exact .inl h
        · exact absurd h hw1
      · right
        have : ¬ (st1.next ≤ b ∧ b < st'.next) := fun h => hw (.inr h)
        omega
def bind (m : LM α) (f : α → LM β) : LM β := ⟨bindF m.run fun x => (f x).run, loc_bind m.loc fun x => (f x).loc,
  fun k e st r w => m.fast (fun x st1 r1 w1 => (f x).fast k e st1 r1 w1) e st r w,
  fun k e st r w => by
    rw [m.eq]
    unfold lift bindF
    cases m.run st with
    | none => rfl
    | some p =>
      obtain ⟨x, st1, rd1, wr1⟩ := p
      dsimp only
      rw [(f x).eq]
      unfold lift
      cases (f x).run st1 with
      | none => rfl
      | some q =>
        obtain ⟨y, st2, rd2, wr2⟩ := q
        simp⟩
instance : Monad LM where
  pure := ret
  bind := bind
instance : Pure LM := ⟨ret⟩
instance : Bind LM := ⟨bind⟩

/-- A block that is there. -/
def look (b : Nat) : LM AObj := ⟨fun st => match st.get b with
    | none => none
    | some o => some (o, st, [b], []),
  ⟨fun st x st' rd wr h => by split at h <;> cases h; exact Nat.le_refl _,
   fun st x st' rd wr h b _ _ => by split at h <;> cases h; rfl,
   fun st x st' rd wr h st2 e hr => by
    split at h
    · cases h
    · rename_i o ho
      cases h
      refine ⟨st2, ?_, e, fun b hb => by rcases hb with h | ⟨h, h'⟩; · cases h
                                         · omega⟩
      have := hr b (by simp)
      rw [this, ho]⟩,
  fun k e st r w => match st.get b with
    | none => e
    | some o => k o st (b :: r) w,
  fun k e st r w => by simp only [lift]; cases st.get b <;> rfl⟩
theorem setF_get {st : St} {b : Nat} {x : Option AObj} (h : b + 1 < 2 ^ deep) (c : Nat) : (⟨Tr.set deep st.heap b x, st.next⟩ : St).get c = if c = b then x else st.get c :=
  Tr.get_set deep st.heap b x c h
/-- A block is turned (none: it counts as gone). -/
def put (b : Nat) (x : Option AObj) : LM Unit := ⟨fun st => if b + 1 < 1099511627776 then some ((), ⟨Tr.set deep st.heap b x, st.next⟩, [], [b]) else none,
  ⟨fun st x st' rd wr h => by split at h <;> cases h; exact Nat.le_refl _,
   fun st x st' rd wr h c hc hr => by
    split at h <;> cases h
    rename_i hlt
    rw [setF_get (lt_deep hlt), if_neg (by simpa using hc)],
   fun st x' st' rd wr h st2 e hr => by
    split at h <;> cases h
    rename_i hlt
    have hl : b + 1 < 2 ^ deep := lt_deep hlt
    refine ⟨⟨Tr.set deep st2.heap b x, st2.next⟩, by rw [if_pos hlt], e, fun c hc => ?_⟩
    rw [setF_get hl, setF_get hl]
    rcases hc with hc | ⟨h1, h2⟩
    · rw [if_pos (by simpa using hc), if_pos (by simpa using hc)]
    · dsimp only at h2; omega⟩,
  fun k e st r w => match Nat.ble (Nat.add b 2) 1099511627776 with
    | true => (match Tr.set deep st.heap b x with
      | .nil => k () ⟨.nil, st.next⟩ r (b :: w)
      | .node t1 t2 t3 => k () ⟨.node t1 t2 t3, st.next⟩ r (b :: w))
    | false => e,
  fun k e st r w => by
    simp only [lift]
    by_cases h : b + 1 < 1099511627776
    · have : Nat.ble (Nat.add b 2) 1099511627776 = true := Nat.ble_eq_true_of_le (by show b + 2 ≤ _; omega)
      rw [this, if_pos h]
      cases Tr.set deep st.heap b x <;> rfl
    · have : Nat.ble (Nat.add b 2) 1099511627776 = false := by
        cases e : Nat.ble (Nat.add b 2) 1099511627776 with
        | false => rfl
        | true => have := Nat.le_of_ble_eq_true e; have : b + 2 ≤ 1099511627776 := this; omega
      rw [this, if_neg h]⟩
/-- A new block. -/
def new (o : AObj) : LM Nat := ⟨fun st => if st.next + 1 < 1099511627776 then some (st.next, ⟨Tr.set deep st.heap st.next (some o), st.next + 1⟩, [], []) else none,
  ⟨fun st x st' rd wr h => by split at h <;> cases h; exact Nat.le_succ _,
   fun st x st' rd wr h c hc hr => by
    split at h <;> cases h
    rename_i hlt
    have := setF_get (st := st) (x := some o) (lt_deep hlt) c
    rw [if_neg (by dsimp only at hr; omega)] at this
    exact this,
   fun st x' st' rd wr h st2 e hr => by
    split at h <;> cases h
    rename_i hlt
    have hl : st.next + 1 < 2 ^ deep := lt_deep hlt
    refine ⟨⟨Tr.set deep st2.heap st.next (some o), st.next + 1⟩, by rw [e, if_pos hlt], rfl, fun c hc => ?_⟩
    have a := setF_get (st := st) (x := some o) hl c
    have a2 := setF_get (st := st2) (x := some o) hl c
    rcases hc with hc | ⟨h1, h2⟩
    · cases hc
    · have : c = st.next := by dsimp only at h2; omega
      rw [if_pos this] at a a2
      exact a2.trans a.symm⟩,
  fun k e st r w => match Nat.ble (Nat.add st.next 2) 1099511627776 with
    | true => (match Tr.set deep st.heap st.next (some o) with
      | .nil => k st.next ⟨.nil, Nat.add st.next 1⟩ r w
      | .node t1 t2 t3 => k st.next ⟨.node t1 t2 t3, Nat.add st.next 1⟩ r w)
    | false => e,
  fun k e st r w => by
    simp only [lift]
    by_cases h : st.next + 1 < 1099511627776
    · have : Nat.ble (Nat.add st.next 2) 1099511627776 = true := Nat.ble_eq_true_of_le (by show st.next + 2 ≤ _; omega)
      rw [this, if_pos h]
      cases Tr.set deep st.heap st.next (some o) <;> rfl
    · have : Nat.ble (Nat.add st.next 2) 1099511627776 = false := by
        cases e : Nat.ble (Nat.add st.next 2) 1099511627776 with
        | false => rfl
        | true => have := Nat.le_of_ble_eq_true e; have : st.next + 2 ≤ 1099511627776 := this; omega
      rw [this, if_neg h]⟩
def ofOption : Option α → LM α
  | some x => ret x
  | none => fail
def guard (c : Bool) : LM Unit := match c with
  | true => ret ()
  | false => fail
/-- What a run reads and turns, told. -/
def told (m : LM α) : LM (α × List Nat × List Nat) := ⟨fun st => match m.run st with
    | none => none
    | some (x, st', rd, wr) => some ((x, rd, wr), st', rd, wr),
  ⟨fun st x st' rd wr h => by
    split at h <;> cases h
    rename_i h1
    exact m.loc.grow _ _ _ _ _ h1,
   fun st x st' rd wr h => by
    split at h <;> cases h
    rename_i h1
    exact m.loc.keep _ _ _ _ _ h1,
   fun st x st' rd wr h st2 e hr => by
    split at h <;> cases h
    rename_i h1
    obtain ⟨s, h2, n, g⟩ := m.loc.same _ _ _ _ _ h1 st2 e hr
    exact ⟨s, by rw [h2], n, g⟩⟩,
  fun k e st r w => m.fast (fun x st' r1 w1 => k (x, r1.reverse, w1.reverse) st' (r1 ++ r) (w1 ++ w)) e st [] [],
  fun k e st r w => by
    rw [m.eq]
    simp only [lift]
    cases m.run st with
    | none => rfl
    | some p =>
      obtain ⟨x, st1, rd1, wr1⟩ := p
      simp⟩
/-- How many blocks have been numbered. -/
def mark : LM Nat := ⟨fun st => some (st.next, st, [], []),
  ⟨fun st x' st' rd wr h => by cases h; exact Nat.le_refl _,
   fun st x' st' rd wr h b _ _ => by cases h; rfl,
   fun st x' st' rd wr h st2 e _ => by
    cases h
    exact ⟨st2, by rw [e], e, fun b hb => by
      rcases hb with h | ⟨h, h'⟩
      · cases h
      · omega⟩⟩, fun k _ st r w => k st.next st r w, fun _ _ _ _ _ => rfl⟩
theorem fast_eq {γ : Type} (m : LM α) (k : α → St → List Nat → List Nat → γ) (e : γ) (st : St) : m.fast k e st [] [] = match m.run st with
    | none => e
    | some (x, st', rd, wr) => k x st' rd.reverse wr.reverse := by
  rw [m.eq]
  unfold lift
  cases m.run st with
  | none => rfl
  | some p => obtain ⟨x, st1, rd1, wr1⟩ := p; simp
theorem run_bind (m : LM α) (f : α → LM β) : (m >>= f).run = bindF m.run fun x => (f x).run := rfl
theorem run_pure (x : α) : (pure x : LM α).run = fun st => some (x, st, [], []) := rfl
end LM
end Go.Proofs.YtmmfpkkkpeapeaaGreatDoor.Ev
