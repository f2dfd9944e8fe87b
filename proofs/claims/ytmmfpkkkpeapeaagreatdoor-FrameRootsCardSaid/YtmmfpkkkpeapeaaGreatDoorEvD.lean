/- The evaluator's operations that touch no memory: numbers, texts, equality, structs taken apart and made, addresses, slices of slices; each against the model's own. No condition. -/
import Derived.Test.YtmmfpkkkpeapeaaGreatDoorEvC
import Derived.Laws.StructEq
import Derived.Laws.Slices
import Derived.Laws.Strings
set_option linter.unusedSectionVars false
set_option linter.unusedVariables false
set_option linter.unusedSimpArgs false
namespace Go.Proofs.YtmmfpkkkpeapeaaGreatDoor.Ev
open Go Go.RowKit
variable [Sym]

/-- A pure operation's answer. -/
def Ans (P : Program) (ι : Ren) (w : World) (s : Sem Value) (v : Value) : Prop := ∃ v', s.run P w = .ok v' w ∧ VRel ι v v'

def wrapF (k : IntKind) (n : Int) : Int :=
  match k with
  | .i8 => let m := n % 256; if 128 ≤ m then m - 256 else m
  | .i16 => let m := n % 65536; if 32768 ≤ m then m - 65536 else m
  | .i32 => let m := n % 4294967296; if 2147483648 ≤ m then m - 4294967296 else m
  | .i64 => let m := n % 18446744073709551616; if 9223372036854775808 ≤ m then m - 18446744073709551616 else m
  | .u8 => n % 256
  | .u16 => n % 65536
  | .u32 => n % 4294967296
  | .u64 => n % 18446744073709551616
theorem wrapF_eq (k : IntKind) (n : Int) : wrapF k n = k.wrap n := by
  cases k <;> simp [wrapF, IntKind.wrap, IntKind.signed, IntKind.bits]
def intOp : BinOp → IntKind → Int → Int → Option Value
  | .add, k, a, b => some (.int k (wrapF k (a + b)))
  | .sub, k, a, b => some (.int k (wrapF k (a - b)))
  | .mul, k, a, b => some (.int k (wrapF k (a * b)))
  | .quo, k, a, b => if b = 0 then none else some (.int k (wrapF k (a.tdiv b)))
  | .rem, k, a, b => if b = 0 then none else some (.int k (a.tmod b))
  | .eql, _, a, b => some (.bool (a == b))
  | .neq, _, a, b => some (.bool (a != b))
  | .lss, _, a, b => some (.bool (decide (a < b)))
  | .leq, _, a, b => some (.bool (decide (a ≤ b)))
  | .gtr, _, a, b => some (.bool (decide (a > b)))
  | .geq, _, a, b => some (.bool (decide (a ≥ b)))
  | .and, k, a, b => some (.int k (wrapF k (BitVec.ofInt k.bits a &&& BitVec.ofInt k.bits b).toNat))
  | .or, k, a, b => some (.int k (wrapF k (BitVec.ofInt k.bits a ||| BitVec.ofInt k.bits b).toNat))
  | .xor, k, a, b => some (.int k (wrapF k (BitVec.ofInt k.bits a ^^^ BitVec.ofInt k.bits b).toNat))
  | _, _, _, _ => none
theorem intOp_run (P : Program) (w : World) (op : BinOp) (k : IntKind) (a b : Int) (t : TypeId) (v : Value) (h : intOp op k a b = some v) : (binOp op t (.int k a) (.int k b)).run P w = .ok v w ∧ ∀ ι, VRel ι v v := by
  cases op <;> simp only [intOp, Option.some.injEq] at h <;> first
    | (cases h; done)
    | (subst h; refine ⟨?_, fun ι => ?_⟩
       · simp [binOp, Op.intArith, Op.intBits, Op.intCmp, wrapF_eq]
       · first | exact .int _ _ | exact .bool _)
    | (split at h
       · cases h
       · rename_i hb
         cases h
         refine ⟨?_, fun ι => .int _ _⟩
         simp [binOp, Op.intDiv, hb, wrapF_eq])
def shiftOp : BinOp → IntKind → Int → Int → Option Value
  | .shl, k, a, b => if b < 0 then none else some (.int k (wrapF k (a * 2 ^ (min b.toNat k.bits))))
  | .shr, k, a, b => if b < 0 then none else some (.int k (a.fdiv (2 ^ (min b.toNat k.bits))))
  | _, _, _, _ => none
theorem shiftOp_run (P : Program) (w : World) (op : BinOp) (k yk : IntKind) (a b : Int) (t : TypeId) (v : Value) (h : shiftOp op k a b = some v) : (binOp op t (.int k a) (.int yk b)).run P w = .ok v w ∧ ∀ ι, VRel ι v v := by
  cases op <;> simp only [shiftOp] at h <;> first
    | (cases h; done)
    | (split at h
       · cases h
       · rename_i hb
         cases h
         refine ⟨?_, fun ι => .int _ _⟩
         simp [binOp, Op.shift, hb, wrapF_eq])
def bytesLessF : List UInt8 → List UInt8 → Bool
  | _, [] => false
  | [], _ :: _ => true
  | a :: x, b :: y => a < b || (a == b && bytesLessF x y)
theorem bytesLessF_eq : ∀ x y, bytesLessF x y = Op.bytesLess x y
  | _, [] => by simp [bytesLessF, Op.bytesLess]
  | [], _ :: _ => by simp [bytesLessF, Op.bytesLess]
  | a :: x, b :: y => by simp [bytesLessF, Op.bytesLess, bytesLessF_eq x y]
def strOp : BinOp → ByteArray → ByteArray → Option Value
  | .add, x, y => if x.data.size + y.data.size < 9223372036854775808 then some (.string (x ++ y)) else none
  | .eql, x, y => some (.bool (x.data.toList == y.data.toList))
  | .neq, x, y => some (.bool (!(x.data.toList == y.data.toList)))
  | .lss, x, y => some (.bool (bytesLessF x.data.toList y.data.toList))
  | .leq, x, y => some (.bool (bytesLessF x.data.toList y.data.toList || x.data.toList == y.data.toList))
  | .gtr, x, y => some (.bool (!(bytesLessF x.data.toList y.data.toList || x.data.toList == y.data.toList)))
  | .geq, x, y => some (.bool (!(bytesLessF x.data.toList y.data.toList)))
  | _, _, _ => none
theorem strOp_run (P : Program) (w : World) (op : BinOp) (x y : ByteArray) (t : TypeId) (v : Value) (h : strOp op x y = some v) : (binOp op t (.string x) (.string y)).run P w = .ok v w ∧ ∀ ι, VRel ι v v := by
  cases op <;> simp only [strOp, Option.some.injEq] at h <;> first
    | (cases h; done)
    | (subst h
       refine ⟨?_, fun ι => .bool _⟩
       simp [binOp, Op.stringOp, bytesLessF_eq, ByteArray.toList_eq])
    | (split at h
       · rename_i hb
         cases h
         refine ⟨?_, fun ι => .str _⟩
         have h2 : ¬ ((x.size + y.size : Nat) : Int) > IntKind.i64.max := by
           rw [IntKind.max_i64]
           have e1 : x.size = x.data.size := rfl
           have e2 : y.size = y.data.size := rfl
           omega
         simp only [binOp, Op.stringOp, if_neg h2, Sem.run_pure]
       · cases h)

/-! ### parts of structs -/
def aPart (E : Env) (t : TypeId) (cs : Array Value) (off : Nat) : Option Value :=
  match E.tab t with
  | none => none
  | some ti => if aggB ti.desc then (if off + ti.size ≤ cs.size then some (.agg (cs.extract off (off + ti.size))) else none) else cs[off]?
section
variable {E : Env} {P : Program} {ι : Ren}
theorem part_run (ok : E.Ok P) (w : World) {t : TypeId} {cs cs' : Array Value} {off : Nat} {v : Value} (hc : ARel ι cs cs') (h : aPart E t cs off = some v) : Ans P ι w (part t cs' off) v := by
  unfold aPart at h
  split at h
  · cases h
  · rename_i ti et
    unfold Ans
    simp only [part, Sem.run_bind, run_isAgg_tab ok et, Result.andThen_ok]
    split at h
    · rename_i hagg
      split at h
      · cases h
        refine ⟨.agg (cs'.extract off (off + ti.size)), ?_, ?_⟩
        · simp only [if_pos hagg, Sem.run_bind, run_sizeOf_tab ok et, Result.andThen_ok]
          rfl
        · have := hc.extract off (off + ti.size)
          exact .agg this.1 this.2
      · cases h
    · rename_i hagg
      obtain ⟨v', e, hv⟩ := hc.get? h
      exact ⟨v', by simp [hagg, e], hv⟩
end

/-! ### equality -/
def eqFieldsA (f : TypeId → Value → Value → LM Bool) (E : Env) (xs ys : Array Value) : List Field → LM Bool
  | [] => pure true
  | g :: gs => do
    LM.guard (g.name != "_")
    let a ← LM.ofOption (aPart E g.type xs g.offset)
    let b ← LM.ofOption (aPart E g.type ys g.offset)
    let r ← f g.type a b
    match r with
    | false => pure false
    | true => eqFieldsA f E xs ys gs
def eqElemsA (f : TypeId → Value → Value → LM Bool) (E : Env) (e : TypeId) (n : Nat) (xs ys : Array Value) : List Nat → LM Bool
  | [] => pure true
  | i :: l => do
    let a ← LM.ofOption (aPart E e xs (i * n))
    let b ← LM.ofOption (aPart E e ys (i * n))
    let r ← f e a b
    match r with
    | false => pure false
    | true => eqElemsA f E e n xs ys l
/-- The elements, one after the other, as the model compares them. -/
def eqElemsM (d : Nat) (e : TypeId) (n : Nat) (xs ys : Array Value) : List Nat → Sem Bool
  | [] => pure true
  | i :: l => do
    let a ← part e xs (i * n)
    let b ← part e ys (i * n)
    let r ← Op.equalIn d e a b
    if (!r) = true then pure false else eqElemsM d e n xs ys l
theorem run_equalIn_array {P : Program} (w : World) (d : Nat) (t e : TypeId) (len n : Nat) (xs ys : Array Value) (ht : P.underlying t = some (.array len e)) (hn : ∀ w, (sizeOf e).run P w = .ok n w) :
    (Op.equalIn (d + 1) t (.agg xs) (.agg ys)).run P w = (eqElemsM d e n xs ys (List.range len)).run P w := by
  simp only [Op.equalIn, Sem.run_bind, run_underlying ht, Result.andThen_ok, hn]
  simp only [Std.Legacy.Range.forIn_eq_forIn_range', Std.Legacy.Range.size, Nat.sub_zero, Nat.add_one_sub_one, Nat.div_one, List.range_eq_range']
  generalize List.range' 0 len = fs
  clear ht
  induction fs generalizing w with
  | nil => simp [eqElemsM]
  | cons f fs ih =>
    simp only [List.forIn_cons, eqElemsM, Sem.run_bind, Sem.run_ite]
    generalize (part e xs (f * n)).run P w = r1
    cases r1 with
    | ok a w1 =>
      simp only [Result.andThen_ok]
      generalize (part e ys (f * n)).run P w1 = r2
      cases r2 with
      | ok b w2 =>
        simp only [Result.andThen_ok]
        generalize (Op.equalIn d e a b).run P w2 = r3
        cases r3 with
        | ok r w3 =>
          cases r
          · simp only [Result.andThen_ok, Bool.not_false, if_true, Sem.run_pure]
          · simp only [Result.andThen_ok, Bool.not_true, Bool.false_eq_true, if_false, Sem.run_pure]
            exact ih w3
        | halt x w3 => simp [Result.andThen]
      | halt x w2 => simp [Result.andThen]
    | halt x w1 => simp [Result.andThen]
def aEq (E : Env) : Nat → TypeId → Value → Value → LM Bool
  | 0, _, _, _ => LM.fail
  | d + 1, t, x, y => do
    let ti ← LM.ofOption (E.tab t)
    if isTok x || isTok y then LM.ofOption (E.eqT (descK ti.desc) x y) else
    match ti.desc, x, y with
    | .bool, .bool a, .bool b => pure (a == b)
    | .int _, .int k a, .int k' b => do LM.guard (decide (k = k')); pure (a == b)
    | .string, .string a, .string b => pure (a.data.toList == b.data.toList)
    | .pointer _, .pointer none, .pointer b => pure b.isNone
    | .pointer _, .pointer (some _), .pointer none => pure false
    | .pointer e, .pointer (some a), .pointer (some b) => do
      let te ← LM.ofOption (E.tab e)
      LM.guard (decide (te.size ≠ 0))
      let p ← cellsAt a.block
      let q ← cellsAt b.block
      LM.guard (!p.2.2.1 && !q.2.2.1 && decide (E.G ≤ a.block ∧ E.G ≤ b.block))
      pure (decide (a.block = b.block) && decide (a.off = b.off))
    | .interface _, .nilIface, .nilIface => pure true
    | .interface _, .nilIface, .iface _ _ => pure false
    | .interface _, .iface _ _, .nilIface => pure false
    | .interface _, .iface tx _, .iface ty _ => do LM.guard (decide (tx ≠ ty)); pure false
    | .struct fs, .agg xs, .agg ys => do
      LM.guard ti.eqOk
      eqFieldsA (aEq E d) E xs ys fs.toList
    | .array len e, .agg xs, .agg ys => do
      let te ← LM.ofOption (E.tab e)
      eqElemsA (aEq E d) E e te.size xs ys (List.range len)
    | .slice _, .slice none _ _, .slice b _ _ => pure b.isNone
    | .slice _, .slice (some _) _ _, .slice none _ _ => pure false
    | .map _ _, .map none, .map b => pure b.isNone
    | .map _ _, .map (some _), .map none => pure false
    | .func _ _ _, .nilFunc, .nilFunc => pure true
    | .func _ _ _, .nilFunc, .func _ _ _ => pure false
    | .func _ _ _, .func _ _ _, .nilFunc => pure false
    | _, _, _ => LM.fail
section
variable {E : Env} {P : Program} {B : Bd} {ι : Ren} {st st' : St} {w : World}
theorem shape_of {r : Nat} {c : Array Value} {t : TypeId} {fr : Nat × Nat} (h : w.heap[r]? = some (.cells c t fr)) : w.shape? r = some (t, c.size) := by simp [World.shape?, h]
/-- Two addresses in known blocks that no string shares: the same just if block and place are. -/
theorem sameAddr_run {r q : Nat} {o p : Nat} {c c' : Array Value} {t t' : TypeId} (h : w.heap[r]? = some (.cells c t (0, 0))) (h' : w.heap[q]? = some (.cells c' t' (0, 0))) :
    (sameAddr ⟨r, o, none⟩ ⟨q, p, none⟩).run P w = .ok (decide (r = q) && decide (o = p)) w := by
  unfold sameAddr
  by_cases e : r = q
  · subst e
    simp only [beq_self_eq_true, if_true]
    simp only [Sem.run_pure, decide_true, Bool.true_and]
    congr 1
    by_cases ho : o = p
    · subst ho; simp
    · have : ((⟨r, o, none⟩ : Addr) == ⟨r, p, none⟩) = false := by
        rw [beq_eq_false_iff_ne]; intro e; cases e; exact ho rfl
      rw [this]; simp [ho]
  · have hb : (r == q) = false := by simpa using e
    simp only [hb, Bool.false_eq_true, if_false]
    have f1 : ∀ i, w.frozen? ⟨r, i, none⟩ = false := fun i => by rw [frozen_of h]; simp
    have f2 : ∀ i, w.frozen? ⟨q, i, none⟩ = false := fun i => by rw [frozen_of h']; simp
    simp [frozen, noView, viewAt, mayBeOne, stringish, shape_of h, shape_of h', f1, f2, e, Sem.run]
set_option maxHeartbeats 2000000 in
theorem eq_run (ok : E.Ok P) (hw : WRel E.G B ι st w) : ∀ (d D : Nat) (t : TypeId) (x y x' y' : Value) (b : Bool) (st1 : St), d ≤ D → VRel ι x x' → VRel ι y y' → Run (aEq E d t x y) st b st1 → st1 = st ∧ (Op.equalIn D t x' y').run P w = .ok b w := by
  intro d
  induction d with
  | zero => intro D t x y x' y' b st1 _ _ _ h; exact (Run.fail.1 h).elim
  | succ d ih =>
    intro D t x y x' y' b st1 hD hx hy h
    obtain ⟨D, rfl⟩ : ∃ m, D = m + 1 := ⟨D - 1, by omega⟩
    unfold aEq at h
    replace h := Run.bind.1 h
    obtain ⟨ti, st2, h1, h⟩ := h
    replace h1 := Run.ofOption.1 h1
    obtain ⟨et, rfl⟩ := h1
    have hu := run_underlying_tab ok et w
    have hu' := (ok.tab t ti et).1
    by_cases htk : (isTok x || isTok y) = true
    · rw [if_pos htk] at h
      obtain ⟨e1, rfl⟩ := Run.ofOption.1 h
      have e2 := ok.eqT _ _ _ _ e1 ι x' y' hx hy
      refine ⟨rfl, ?_⟩
      generalize ti.desc = ds at hu hu' e2
      unfold descK at e2
      split at e2 <;> unfold eqScal at e2 <;> (try (split at e2)) <;> first
        | (simp_all; done)
        | (cases e2; simp [Op.equalIn, hu]; done)
        | (cases e2; rw [run_equalIn_string w D t _ _ hu', ByteArray.toList_eq, ByteArray.toList_eq]; done)
        | (split at e2
           · rename_i hk
             cases e2
             simp [Op.equalIn, hu, hk]
           · cases e2)
    rw [if_neg htk] at h
    revert h
    split <;> intro h
    · rename_i a b' hd
      obtain ⟨rfl, rfl⟩ := Run.pure.1 h
      cases hx; cases hy
      exact ⟨rfl, by simp [Op.equalIn, hu, hd]⟩
    · rename_i k a k' b' hd
      replace h := Run.bind.1 h
      obtain ⟨u, st3, h1, h⟩ := h
      replace h1 := Run.guard.1 h1
      obtain ⟨e1, rfl⟩ := h1
      obtain ⟨rfl, rfl⟩ := Run.pure.1 h
      have e1 := of_decide_eq_true e1
      cases hx; cases hy
      exact ⟨rfl, by simp [Op.equalIn, hu, hd, e1]⟩
    · rename_i a b' hd
      obtain ⟨rfl, rfl⟩ := Run.pure.1 h
      cases hx; cases hy
      exact ⟨rfl, by rw [run_equalIn_string w D t _ _ (by rw [hu', hd]), ByteArray.toList_eq, ByteArray.toList_eq]⟩
    · rename_i b' hd
      obtain ⟨rfl, rfl⟩ := Run.pure.1 h
      cases hx
      cases hy <;> exact ⟨rfl, by simp [Op.equalIn, hu, hd]⟩
    · rename_i a hd
      obtain ⟨rfl, rfl⟩ := Run.pure.1 h
      cases hx; cases hy
      exact ⟨rfl, by simp [Op.equalIn, hu, hd]⟩
    · rename_i e a b' hd
      replace h := Run.bind.1 h
      obtain ⟨te, st3, h1, h⟩ := h
      replace h1 := Run.ofOption.1 h1
      obtain ⟨ee, rfl⟩ := h1
      replace h := Run.bind.1 h
      obtain ⟨u, st3, h1, h⟩ := h
      replace h1 := Run.guard.1 h1
      obtain ⟨e1, rfl⟩ := h1
      replace h := Run.bind.1 h
      obtain ⟨p, st3, h1, h⟩ := h
      replace h1 := Run.cellsAt h1
      obtain ⟨ep, rfl⟩ := h1
      replace h := Run.bind.1 h
      obtain ⟨q, st3, h1, h⟩ := h
      replace h1 := Run.cellsAt h1
      obtain ⟨eq, rfl⟩ := h1
      replace h := Run.bind.1 h
      obtain ⟨u, st3, h1, h⟩ := h
      replace h1 := Run.guard.1 h1
      obtain ⟨e2, rfl⟩ := h1
      obtain ⟨rfl, rfl⟩ := Run.pure.1 h
      obtain ⟨r1, rfl, hr1⟩ := ptr_inv hx
      obtain ⟨r2, rfl, hr2⟩ := ptr_inv hy
      obtain ⟨c1, t1, f1, g1⟩ := p
      obtain ⟨c2, t2, f2, g2⟩ := q
      simp only [Bool.and_eq_true, Bool.not_eq_true'] at e2 ep eq
      obtain ⟨⟨rfl, rfl⟩, e3⟩ := e2
      obtain ⟨e3, e4⟩ := of_decide_eq_true e3
      obtain ⟨κ1, c1', fr1, _, hh1, _, _, hf1, _⟩ := hw.cellsT hr1 ep
      obtain ⟨κ2, c2', fr2, _, hh2, _, _, hf2, _⟩ := hw.cellsT hr2 eq
      rw [hf1 rfl] at hh1
      rw [hf2 rfl] at hh2
      refine ⟨rfl, ?_⟩
      have e1 := of_decide_eq_true e1
      simp only [Op.equalIn, Sem.run_bind, hu, Result.andThen_ok, hd, run_sizeOf_tab ok ee, e1, ne_eq, not_false_eq_true, if_true]
      rw [sameAddr_run hh1 hh2]
      congr 1
      by_cases hb : a.block = b'.block
      · have : r1 = r2 := by rw [hb] at hr1; rw [hr1] at hr2; cases hr2; rfl
        simp [hb, this]
      · have : r1 ≠ r2 := by
          intro e; subst e
          exact hb (hw.inj _ _ _ e3 e4 hr1 hr2 (by rw [ep]; rfl) (by rw [eq]; rfl))
        simp [hb, this]
    · rename_i ms hd
      obtain ⟨rfl, rfl⟩ := Run.pure.1 h
      cases hx; cases hy
      exact ⟨rfl, by simp [Op.equalIn, hu, hd]⟩
    · rename_i ms t1 v1 hd
      obtain ⟨rfl, rfl⟩ := Run.pure.1 h
      cases hx; cases hy
      exact ⟨rfl, by simp [Op.equalIn, hu, hd]⟩
    · rename_i ms t1 v1 hd
      obtain ⟨rfl, rfl⟩ := Run.pure.1 h
      cases hx; cases hy
      exact ⟨rfl, by simp [Op.equalIn, hu, hd]⟩
    · rename_i ms tx v1 ty v2 hd
      replace h := Run.bind.1 h
      obtain ⟨u, st3, h1, h⟩ := h
      replace h1 := Run.guard.1 h1
      obtain ⟨e1, rfl⟩ := h1
      obtain ⟨rfl, rfl⟩ := Run.pure.1 h
      have e1 := of_decide_eq_true e1
      cases hx; cases hy
      exact ⟨rfl, by simp [Op.equalIn, hu, hd, e1]⟩
    · rename_i fs xs ys hd
      replace h := Run.bind.1 h
      obtain ⟨u, st3, h1, h⟩ := h
      replace h1 := Run.guard.1 h1
      obtain ⟨e1, rfl⟩ := h1
      obtain ⟨hst, _⟩ := ok.eqOk t ti et e1
      cases hx with
      | agg hxc hxs =>
      cases hy with
      | agg hyc hys =>
      rename_i xs' ys'
      have hf : P.fieldsOf t = fs := by unfold Program.fieldsOf; rw [hu', hd]
      rw [run_equalIn_struct w D t xs' ys' (by rw [hu', hd, hf]) hst, hf]
      clear hd hf et hu hu'
      generalize fs.toList = l at h
      induction l generalizing b with
      | nil =>
        obtain ⟨rfl, rfl⟩ := Run.pure.1 h
        exact ⟨rfl, rfl⟩
      | cons g gs ihl =>
        unfold eqFieldsA at h
        replace h := Run.bind.1 h
        obtain ⟨u, st3, h1, h⟩ := h
        replace h1 := Run.guard.1 h1
        obtain ⟨e1, rfl⟩ := h1
        replace h := Run.bind.1 h
        obtain ⟨a, st3, h1, h⟩ := h
        replace h1 := Run.ofOption.1 h1
        obtain ⟨ea, rfl⟩ := h1
        replace h := Run.bind.1 h
        obtain ⟨a2, st3, h1, h⟩ := h
        replace h1 := Run.ofOption.1 h1
        obtain ⟨eb, rfl⟩ := h1
        replace h := Run.bind.1 h
        obtain ⟨r, st3, h1, h⟩ := h
        obtain ⟨va, ra, hva⟩ := part_run ok w (cs' := xs') ⟨hxc, hxs⟩ ea
        obtain ⟨vb, rb, hvb⟩ := part_run ok w (cs' := ys') ⟨hyc, hys⟩ eb
        obtain ⟨rfl, er⟩ := ih D _ _ _ _ _ _ _ (by omega) hva hvb h1
        have hne : g.name ≠ "_" := by simpa using e1
        simp only [Op.eqFields, hne, ne_eq, not_false_eq_true, if_true, Sem.run_bind, ra, rb, er, Result.andThen_ok]
        cases r with
        | false =>
          obtain ⟨rfl, rfl⟩ := Run.pure.1 h
          exact ⟨rfl, rfl⟩
        | true =>
          simp only [Bool.not_true, Bool.false_eq_true, if_false]
          exact ihl b h
    · rename_i len e xs ys hd
      replace h := Run.bind.1 h
      obtain ⟨te, st3, h1, h⟩ := h
      replace h1 := Run.ofOption.1 h1
      obtain ⟨ee, rfl⟩ := h1
      cases hx with
      | agg hxc hxs =>
      cases hy with
      | agg hyc hys =>
      rename_i xs' ys'
      rw [run_equalIn_array w D t e len te.size xs' ys' (by rw [hu', hd]) (fun w => run_sizeOf_tab ok ee w)]
      clear hd et hu hu'
      generalize List.range len = l at h
      induction l generalizing b with
      | nil =>
        obtain ⟨rfl, rfl⟩ := Run.pure.1 h
        exact ⟨rfl, rfl⟩
      | cons g gs ihl =>
        unfold eqElemsA at h
        replace h := Run.bind.1 h
        obtain ⟨a, st3, h1, h⟩ := h
        replace h1 := Run.ofOption.1 h1
        obtain ⟨ea, rfl⟩ := h1
        replace h := Run.bind.1 h
        obtain ⟨a2, st3, h1, h⟩ := h
        replace h1 := Run.ofOption.1 h1
        obtain ⟨eb, rfl⟩ := h1
        replace h := Run.bind.1 h
        obtain ⟨r, st3, h1, h⟩ := h
        obtain ⟨va, ra, hva⟩ := part_run ok w (cs' := xs') ⟨hxc, hxs⟩ ea
        obtain ⟨vb, rb, hvb⟩ := part_run ok w (cs' := ys') ⟨hyc, hys⟩ eb
        obtain ⟨rfl, er⟩ := ih D _ _ _ _ _ _ _ (by omega) hva hvb h1
        simp only [eqElemsM, Sem.run_bind, ra, rb, er, Result.andThen_ok]
        cases r with
        | false =>
          obtain ⟨rfl, rfl⟩ := Run.pure.1 h
          exact ⟨rfl, rfl⟩
        | true =>
          simp only [Bool.not_true, Bool.false_eq_true, if_false]
          exact ihl b h
    · rename_i b' n1 c1 n2 c2 hd
      obtain ⟨rfl, rfl⟩ := Run.pure.1 h
      cases hx
      cases hy <;> exact ⟨rfl, by simp [Op.equalIn, hu, hd]⟩
    · rename_i a n1 c1 n2 c2 hd
      obtain ⟨rfl, rfl⟩ := Run.pure.1 h
      cases hy
      cases hx <;> exact ⟨rfl, by simp [Op.equalIn, hu, hd]⟩
    · rename_i b' hd
      obtain ⟨rfl, rfl⟩ := Run.pure.1 h
      cases hx
      cases hy <;> exact ⟨rfl, by simp [Op.equalIn, hu, hd]⟩
    · rename_i a hd
      obtain ⟨rfl, rfl⟩ := Run.pure.1 h
      cases hx; cases hy
      exact ⟨rfl, by simp [Op.equalIn, hu, hd]⟩
    · rename_i hd
      obtain ⟨rfl, rfl⟩ := Run.pure.1 h
      cases hx; cases hy
      exact ⟨rfl, by simp [Op.equalIn, hu, hd]⟩
    · rename_i hd
      obtain ⟨rfl, rfl⟩ := Run.pure.1 h
      cases hx; cases hy
      exact ⟨rfl, by simp [Op.equalIn, hu, hd]⟩
    · rename_i hd
      obtain ⟨rfl, rfl⟩ := Run.pure.1 h
      cases hx; cases hy
      exact ⟨rfl, by simp [Op.equalIn, hu, hd]⟩
    · exact (Run.fail.1 h).elim
end
end Go.Proofs.YtmmfpkkkpeapeaaGreatDoor.Ev
