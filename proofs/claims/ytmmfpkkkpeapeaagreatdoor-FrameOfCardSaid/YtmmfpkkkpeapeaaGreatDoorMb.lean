/- Membranes, the cache of proxies: plain; what Pass does, as a function. -/
import Derived.Test.YtmmfpkkkpeapeaaGreatDoorAb
set_option linter.unusedVariables false
namespace Go.Proofs.YtmmfpkkkpeapeaaGreatDoor.mb
open Go.RowKit Go.Maps mem rec ar
set_option maxRecDepth 100000
set_option maxHeartbeats 400000
/-- A membrane: its two sides, whether it is dead. -/
abbrev Mb := Int × Int × Bool
def cellsM (m : Mb) : List Value := [.int .i64 m.1, .int .i64 m.2.1, .bool m.2.2]
/-- A list of membranes, that is looked at. -/
def ListAt (w : World) (lv : Value) (L : List Mb) : Prop := ∃ b cap, lv = .slice (some ⟨b, 0, none⟩) L.length cap ∧ b < w.heap.size ∧ ∀ i m, L[i]? = some m → w.rangeAt b (i * 3) (cellsM m)
theorem ListAt.chg {F : List Nat} {w w' : World} {lv : Value} {L : List Mb} (h : ListAt w lv L) (c : Chg F w w') (hn : ∀ b, lv.ownBlock = some b → b ∉ F) : ListAt w' lv L := by
  obtain ⟨b, cap, rfl, hb, h1⟩ := h
  refine ⟨b, cap, rfl, Nat.lt_of_lt_of_le hb c.size, fun i m hi j v hj => ?_⟩
  have h2 := h1 i m hi j v hj
  exact (c.cell (p := ⟨b, i * 3 + j, none⟩) hb (hn b rfl)).trans h2
theorem ListAt.up {w w' : World} {lv : Value} {L : List Mb} (h : ListAt w lv L) (u : Up w w') : ListAt w' lv L := h.chg u.chg (by simp)
/-- The membrane of a number. -/
def mbAt (L : List Mb) (m : Int) : Option Mb := if 0 ≤ m then L[m.toNat]? else none
/-- The other side's owner. -/
def otherR (L : List Mb) (m owner : Int) : Option Int :=
  match mbAt L m with
  | some x => if owner = x.1 then some x.2.1 else if owner = x.2.1 then some x.1 else none
  | none => none
def deadR (L : List Mb) (m : Int) : Bool :=
  match mbAt L m with
  | some x => x.2.2
  | none => true
/-! ### the cache -/
/-- A key: a membrane, what it stands for. -/
def entV (m : Int) (r : Nat) : Value := .agg #[.int .i64 m, .int .u64 r]
def R1 (v : Value) : Option (DataW Nat × List MemPlace) :=
  match v with
  | .int .u64 (.ofNat x) => some (.held x, [])
  | _ => none
theorem R1_val (p : Nat) : R1 (.int .u64 (p : Int)) = some (.held p, []) := rfl
theorem R1_inv {v : Value} {z : DataW Nat × List MemPlace} (h : R1 v = some z) : ∃ p : Nat, v = .int .u64 (p : Int) ∧ z = (.held p, []) := by
  unfold R1 at h
  split at h
  · rename_i p
    cases h
    exact ⟨p, rfl, rfl⟩
  · cases h
theorem rowE : (113 : TypeId) < Tryz.prog.types.size := of_decide_eq_true (by kernel_rfl)
theorem deepE : Tryz.prog.keyTypeAt (Tryz.prog.types.size + 1) 113 = true := by kernel_rfl
theorem deepE2 : Tryz.prog.keyTypeAt 2 113 = true := by kernel_rfl
theorem KE : Maps.Keyed Tryz.prog 113 := Maps.Keyed.of_law (deep_law_laid laidOutP (m := 2) (by omega) rowE deepE2 (by rw [Tryz.underlying113]))
theorem cellsE : Tryz.prog.cellsOf 113 = 2 := by kernel_rfl
theorem wf_i64 {a : Int} (h : -9223372036854775808 ≤ a ∧ a ≤ 9223372036854775807) : (Lit.int .i64 a).wf = true := by
  show (decide (IntKind.i64.min ≤ a) && decide (a ≤ IntKind.i64.max)) = true
  simpa [IntKind.min, IntKind.max, IntKind.signed, IntKind.bits] using h
theorem wf_u64 {a : Int} (h : 0 ≤ a ∧ a ≤ 18446744073709551615) : (Lit.int .u64 a).wf = true := by
  show (decide (IntKind.u64.min ≤ a) && decide (a ≤ IntKind.u64.max)) = true
  simpa [IntKind.min, IntKind.max, IntKind.signed, IntKind.bits] using h
theorem key_ent (m : Int) (r : Nat) (hm : (Lit.int .i64 m).wf = true) (hr : r < 18446744073709551616) : ∃ l, keyOf Tryz.prog 113 (entV m r) = some l := by
  have hr' : (Lit.int .u64 (r : Int)).wf = true := wf_u64 (by omega)
  have hf : (entV m r).formed Tryz.prog 113 = true := by simp [entV, Value.formed, Tryz.underlying113, cellsE]
  have c2 : Tryz.prog.cellsOf 3 = 1 := by kernel_rfl
  have c9 : Tryz.prog.cellsOf 41 = 1 := by kernel_rfl
  have hl : Tryz.prog.keyLits (Tryz.prog.types.size + 1) 113 [.int .i64 m, .int .u64 r] = some [.int .i64 m, .int .u64 r] := by
    obtain ⟨d, hd⟩ : ∃ d, Tryz.prog.types.size + 1 = d + 1 + 1 := ⟨_, sizeP⟩
    rw [hd]
    simp [Program.keyLits, Tryz.underlying113, Tryz.underlying3, Tryz.underlying41, cellsE, c2, c9, hm, hr']
  refine ⟨.string (keyBytes [.int .i64 m, .int .u64 r]), ?_⟩
  unfold keyOf
  rw [Tryz.underlying113]
  simp only [Program.keyType, deepE, hf, Bool.and_self, if_true]
  rw [show (entV m r).cells.toList = [.int .i64 m, .int .u64 r] from rfl, hl]
  rfl
theorem ent_inj {m m' : Int} {r r' : Nat} {l : Lit} (h : keyOf Tryz.prog 113 (entV m r) = some l) (h' : keyOf Tryz.prog 113 (entV m' r') = some l) : m = m' ∧ r = r' := by
  have := KE.inj h h'
  simp [entV] at this
  omega
/-- What the cache holds at a key. -/
def atn (D : DataW Nat) (l : Lit) : Nat := match D.atKey l (.held 0) with | .held p => p | _ => 0
/-- The cache of proxies as a function. -/
abbrev Ca := Int → Nat → Option Nat
structure CacheIs (D : DataW Nat) (C : Ca) : Prop where
  td : Tidy D
  at_ : ∀ m r l, keyOf Tryz.prog 113 (entV m r) = some l → Maps.has D l = (C m r).isSome ∧ atn D l = (C m r).getD 0
def Ca.put (C : Ca) (m : Int) (r p : Nat) : Ca := fun m' r' => if m' = m ∧ r' = r then some p else C m' r'
theorem CacheIs.nil : CacheIs (.map []) (fun _ _ => none) := ⟨⟨[], rfl, List.Pairwise.nil⟩, fun m r l h => ⟨rfl, rfl⟩⟩
theorem CacheIs.put {D : DataW Nat} {C : Ca} (h : CacheIs D C) {m : Int} {r : Nat} {l : Lit} (hl : keyOf Tryz.prog 113 (entV m r) = some l) (p : Nat) : CacheIs (D.put l (.held p)) (C.put m r p) := by
  have hm : IsMap D := by obtain ⟨es, he, -⟩ := h.td; exact ⟨es, he⟩
  refine ⟨Tidy.put h.td (KE.key hl) _, fun m' r' l' hl' => ?_⟩
  by_cases e : m' = m ∧ r' = r
  · obtain ⟨rfl, rfl⟩ := e
    rw [hl] at hl'
    cases hl'
    have e1 : (C.put m' r' p) m' r' = some p := by simp [Ca.put]
    rw [e1]
    refine ⟨by rw [has_put_same hm (KE.key hl)]; rfl, ?_⟩
    unfold atn
    rw [atKey_put_same hm (KE.key hl)]
    rfl
  · have hne : l' ≠ l := by
      rintro rfl
      obtain ⟨a, b⟩ := ent_inj hl' hl
      exact e ⟨a, b⟩
    have e1 : (C.put m r p) m' r' = C m' r' := by unfold Ca.put; rw [if_neg e]
    rw [e1]
    obtain ⟨h1, h2⟩ := h.at_ m' r' l' hl'
    refine ⟨by rw [has_put_other hne]; exact h1, ?_⟩
    unfold atn at h2 ⊢
    rw [atKey_put_other hne]
    exact h2
theorem zeroE (w : World) : (zeroValue 41).run Tryz.prog w = .ok (.int .u64 ((0 : Nat) : Int)) w := by kernel_rfl
theorem look_ent (w : World) (b n : Nat) (D : DataW Nat) (h : w.ownsMap Tryz.prog 113 R1 b n D) {m : Int} {r : Nat} {l : Lit} (hl : keyOf Tryz.prog 113 (entV m r) = some l) :
    (Instr.lookup 32 (.map (some b)) (entV m r) true).run Tryz.prog w = .ok (.tuple #[.int .u64 (atn D l : Nat), .bool (Maps.has D l)]) w := by
  obtain ⟨v, ps, hrun, hv⟩ := h.look_ok KE Tryz.underlying32 (zeroE w) (R1_val 0) hl
  obtain ⟨q, rfl, hz⟩ := R1_inv hv
  have : q = atn D l := by have hz1 : D.atKey l (.held 0) = .held q := congrArg Prod.fst hz; unfold atn; rw [hz1]
  rw [hrun, this]
/-! ### what Pass does -/
def proxyOb (into m : Int) (r : Nat) (d : Int) : Ob := ⟨6, into, false, none, 0, 0, none, 0, 0, 0, zero3, m, r, d⟩
/-- Whether an owner has as many as he may. -/
def Ar.full (A : Ar) (n : Nat) : Prop := ∃ q m : Int, A.quotas[n]? = some q ∧ A.many[n]? = some m ∧ q ≤ m
structure Res where
  v : V3
  e : Int
  A : Ar
  C : Ca
/-- What Pass answers, where `fu` tells whether the owner is full. -/
def passR (A : Ar) (C : Ca) (L : List Mb) (fu : Bool) (m into : Int) (v : V3) : Res :=
  match otherR L m into with
  | none => ⟨zero3, 4, A, C⟩
  | some from_ =>
    if deadR L m = true then ⟨zero3, 12, A, C⟩ else
    if v.1 ≠ 5 then ⟨v, 0, A, C⟩ else
    match A.find v.2.1.toNat with
    | none => ⟨zero3, 17, A, C⟩
    | some o =>
      if o.owner ≠ from_ then ⟨zero3, 17, A, C⟩ else
      if o.kind = 6 ∧ o.membrane = m then ⟨(5, o.target, ⟨#[]⟩), 0, A, C⟩ else
      match C m v.2.1.toNat with
      | some p => ⟨(5, (p : Int), ⟨#[]⟩), 0, A, C⟩
      | none =>
        if 6 ≤ o.deep then ⟨zero3, 14, A, C⟩ else
        if fu = true then ⟨zero3, 8, A, C⟩ else
        ⟨(5, (A.name : Int), ⟨#[]⟩), 0, A.add (proxyOb into m v.2.1.toNat (o.deep + 1)), C.put m v.2.1.toNat A.name⟩
end Go.Proofs.YtmmfpkkkpeapeaaGreatDoor.mb
