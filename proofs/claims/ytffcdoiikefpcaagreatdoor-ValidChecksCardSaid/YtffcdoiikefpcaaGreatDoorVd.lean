/- Modules of instructions: which may be, as a function; how they lie in memory. Plain. -/
import Derived.Test.YtffcdoiikefpcaaGreatDoorMem
set_option linter.unusedVariables false
namespace Go.Proofs.YtffcdoiikefpcaaGreatDoor.vl
open Go.RowKit Go.Maps mem
set_option maxHeartbeats 400000
def Up (w w' : World) : Prop := Below w.heap.size w w'
theorem Up.refl (w : World) : Up w w := Below.refl _ _
theorem Up.trans {a b c : World} (h : Up a b) (k : Up b c) : Up a c := Below.trans h (Below.mono k (Below.size h))
theorem Up.alloc {a b : World} (h : Up a b) (o : Obj) : Up a (b.alloc o) := Below.alloc h (Below.size h) o
theorem Up.drew {a b : World} (h : Up a b) : Up a b.drew := Below.drew h
theorem Up.chg {a b : World} (h : Up a b) : Chg [] a b := Chg.of_up h
theorem up_cell {w w' : World} {p : Addr} {v : Value} (u : Up w w') (h : w.cell? p = some v) : w'.cell? p = some v := (u.chg.cell (World.block_lt_of_cell? w _ h) (by simp)).trans h
/-- An instruction. -/
structure Ins where
  op : Int
  a : Int
  b : Int
  c : Int
/-- A function. -/
structure Fn where
  params : Int
  held : List Int
  regs : Int
  consts : Nat
  code : List Ins
def rOk (R r : Int) : Bool := decide (0 ≤ r) && decide (r < R)
def allR (R : Int) (l : List Int) : Bool := l.all (rOk R)
def toOk (n : Nat) (k : Int) : Bool := decide (0 ≤ k) && decide (k < (n : Int))
def ends (o : Int) : Bool := decide (o = 15) || decide (o = 16) || decide (o = 18) || decide (o = 19)
def heldOf (Fs : List Fn) (k : Nat) : List Int := match Fs[k]? with | some f => f.held | none => []
/-- May an instruction be? -/
def insOk (Fs : List Fn) (f : Fn) (x : Ins) : Bool :=
  if x.op = 0 then rOk f.regs x.a && decide (0 ≤ x.b) && decide (x.b < (f.consts : Int))
  else if x.op = 2 ∨ x.op = 18 ∨ x.op = 19 then rOk f.regs x.a
  else if x.op = 1 ∨ x.op = 7 ∨ x.op = 8 then rOk f.regs x.a && rOk f.regs x.b
  else if x.op = 5 then rOk f.regs x.a && decide (0 < x.b) && decide (x.b < (Fs.length : Int)) && allR f.regs (heldOf Fs x.b.toNat)
  else if x.op = 6 then rOk f.regs x.a && rOk f.regs x.b && decide (0 ≤ x.c) && decide (x.c < f.regs - x.b)
  else if x.op = 15 ∨ x.op = 16 then toOk f.code.length x.a
  else if x.op = 17 ∨ x.op = 20 then rOk f.regs x.a && toOk f.code.length x.b
  else if x.op = 21 then true
  else decide (x.op < 22) && rOk f.regs x.a && rOk f.regs x.b && rOk f.regs x.c
abbrev Out := Int × Int × Int
/-- The code from its instruction i on. -/
def chkI (Fs : List Fn) (f : Fn) (n : Nat) : Nat → List Ins → Option Out
  | i, [] => none
  | i, x :: l => if (!insOk Fs f x || (l.isEmpty && !ends x.op)) then some ((n : Int), (i : Int), 16) else chkI Fs f n (i + 1) l
/-- A function. -/
def chkF (Fs : List Fn) (n : Nat) (f : Fn) : Option Out :=
  if f.params < 0 ∨ f.regs < 0 ∨ 100 < f.regs ∨ f.regs < f.params + f.held.length ∨ f.code.length = 0 ∨ 2000 < f.code.length then some ((n : Int), 0, 2)
  else if n = 0 ∧ 0 < f.params + f.held.length then some (0, 0, 16)
  else chkI Fs f n 0 f.code
/-- The functions from n on. -/
def chkL (Fs : List Fn) : Nat → List Fn → Out
  | n, [] => (0, 0, 0)
  | n, f :: l => match chkF Fs n f with | some r => r | none => chkL Fs (n + 1) l
def chk (Fs : List Fn) : Out := if Fs.length = 0 ∨ 100 < Fs.length then (0, 0, 2) else chkL Fs 0 Fs
theorem chkI_end (Fs : List Fn) (f : Fn) (n i : Nat) (h : f.code.length ≤ i) : chkI Fs f n i (f.code.drop i) = none := by
  rw [List.drop_of_length_le h]; rfl
theorem chkI_step {Fs : List Fn} {f : Fn} {n i : Nat} {x : Ins} (h : f.code[i]? = some x) :
    chkI Fs f n i (f.code.drop i) = if (!insOk Fs f x || (decide (i + 1 = f.code.length) && !ends x.op)) then some ((n : Int), (i : Int), 16) else chkI Fs f n (i + 1) (f.code.drop (i + 1)) := by
  obtain ⟨hl, hx⟩ := List.getElem?_eq_some_iff.1 h
  have e : f.code.drop i = x :: f.code.drop (i + 1) := by rw [List.drop_eq_getElem_cons hl, hx]
  have e2 : (f.code.drop (i + 1)).isEmpty = decide (i + 1 = f.code.length) := by
    rw [Bool.eq_iff_iff]
    simp only [List.isEmpty_iff, List.drop_eq_nil_iff, decide_eq_true_eq]
    omega
  rw [e]
  show (if (!insOk Fs f x || ((f.code.drop (i + 1)).isEmpty && !ends x.op)) then _ else _) = _
  rw [e2]
theorem chkL_end (Fs : List Fn) (n : Nat) (h : Fs.length ≤ n) : chkL Fs n (Fs.drop n) = (0, 0, 0) := by
  rw [List.drop_of_length_le h]; rfl
theorem chkL_step {Fs : List Fn} {f : Fn} {n : Nat} (h : Fs[n]? = some f) :
    chkL Fs n (Fs.drop n) = match chkF Fs n f with | some r => r | none => chkL Fs (n + 1) (Fs.drop (n + 1)) := by
  obtain ⟨hl, hx⟩ := List.getElem?_eq_some_iff.1 h
  have e : Fs.drop n = f :: Fs.drop (n + 1) := by rw [List.drop_eq_getElem_cons hl, hx]
  rw [e]
  rfl
/-! ### in memory -/
/-- A slice of whole numbers. -/
def IntsAt (w : World) (v : Value) (l : List Int) : Prop :=
  ∃ (a : Option Addr) (cap : Nat), v = .slice a l.length cap ∧ (l.length = 0 ∨ ∃ b off, a = some ⟨b, off, none⟩ ∧ b < w.heap.size ∧ ∀ i x, l[i]? = some x → w.cell? ⟨b, off + i, none⟩ = some (.int .i64 x))
def insCells (x : Ins) : List Value := [.int .u8 x.op, .int .i64 x.a, .int .i64 x.b, .int .i64 x.c]
def InsAt (w : World) (b o : Nat) (x : Ins) : Prop :=
  w.cell? ⟨b, o, none⟩ = some (.int .u8 x.op) ∧ w.cell? ⟨b, o + 1, none⟩ = some (.int .i64 x.a) ∧ w.cell? ⟨b, o + 2, none⟩ = some (.int .i64 x.b) ∧ w.cell? ⟨b, o + 3, none⟩ = some (.int .i64 x.c)
/-- A slice of instructions. -/
def CodeAt (w : World) (v : Value) (l : List Ins) : Prop :=
  ∃ (a : Option Addr) (cap : Nat), v = .slice a l.length cap ∧ (l.length = 0 ∨ ∃ b off, a = some ⟨b, off, none⟩ ∧ b < w.heap.size ∧ ∀ i x, l[i]? = some x → InsAt w b (off + i * 4) x)
/-- A function's fields. -/
def FnIs (w : World) (f : Fn) (hv cv dv : Value) : Prop := IntsAt w hv f.held ∧ (∃ a cap, cv = .slice a f.consts cap) ∧ CodeAt w dv f.code
def FnAt (w : World) (b o : Nat) (f : Fn) : Prop :=
  ∃ hv cv dv, FnIs w f hv cv dv ∧ w.cell? ⟨b, o, none⟩ = some (.int .i64 f.params) ∧ w.cell? ⟨b, o + 1, none⟩ = some hv ∧ w.cell? ⟨b, o + 2, none⟩ = some (.int .i64 f.regs) ∧ w.cell? ⟨b, o + 3, none⟩ = some cv ∧ w.cell? ⟨b, o + 4, none⟩ = some dv
/-- A slice of functions. -/
def FnsAt (w : World) (v : Value) (l : List Fn) : Prop :=
  ∃ (a : Option Addr) (cap : Nat), v = .slice a l.length cap ∧ (l.length = 0 ∨ ∃ b off, a = some ⟨b, off, none⟩ ∧ b < w.heap.size ∧ ∀ i x, l[i]? = some x → FnAt w b (off + i * 5) x)
section
variable {w w' : World}
theorem IntsAt.up {v : Value} {l : List Int} (h : IntsAt w v l) (u : Up w w') : IntsAt w' v l := by
  obtain ⟨a, cap, e, h⟩ := h
  refine ⟨a, cap, e, h.imp id ?_⟩
  rintro ⟨b, off, e1, e2, e3⟩
  exact ⟨b, off, e1, Nat.lt_of_lt_of_le e2 u.size, fun i x hx => up_cell u (e3 i x hx)⟩
theorem InsAt.up {b o : Nat} {x : Ins} (h : InsAt w b o x) (u : Up w w') : InsAt w' b o x := ⟨up_cell u h.1, up_cell u h.2.1, up_cell u h.2.2.1, up_cell u h.2.2.2⟩
theorem CodeAt.up {v : Value} {l : List Ins} (h : CodeAt w v l) (u : Up w w') : CodeAt w' v l := by
  obtain ⟨a, cap, e, h⟩ := h
  refine ⟨a, cap, e, h.imp id ?_⟩
  rintro ⟨b, off, e1, e2, e3⟩
  exact ⟨b, off, e1, Nat.lt_of_lt_of_le e2 u.size, fun i x hx => (e3 i x hx).up u⟩
theorem FnIs.up {f : Fn} {hv cv dv : Value} (h : FnIs w f hv cv dv) (u : Up w w') : FnIs w' f hv cv dv := ⟨h.1.up u, h.2.1, h.2.2.up u⟩
theorem FnAt.up {b o : Nat} {f : Fn} (h : FnAt w b o f) (u : Up w w') : FnAt w' b o f := by
  obtain ⟨hv, cv, dv, h1, h2, h3, h4, h5, h6⟩ := h
  exact ⟨hv, cv, dv, h1.up u, up_cell u h2, up_cell u h3, up_cell u h4, up_cell u h5, up_cell u h6⟩
theorem FnsAt.up {v : Value} {l : List Fn} (h : FnsAt w v l) (u : Up w w') : FnsAt w' v l := by
  obtain ⟨a, cap, e, h⟩ := h
  refine ⟨a, cap, e, h.imp id ?_⟩
  rintro ⟨b, off, e1, e2, e3⟩
  exact ⟨b, off, e1, Nat.lt_of_lt_of_le e2 u.size, fun i x hx => (e3 i x hx).up u⟩
end
end Go.Proofs.YtffcdoiikefpcaaGreatDoor.vl
