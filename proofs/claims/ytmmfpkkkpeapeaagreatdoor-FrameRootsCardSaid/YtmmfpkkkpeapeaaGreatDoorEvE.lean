/- The evaluator's operations on addresses, slices, parts, conversions, structs and slices made whole; each against the model's own. No condition. -/
import Derived.Test.YtmmfpkkkpeapeaaGreatDoorEvD
import Derived.Laws.BytesArg
import Derived.Lib.ConvBytes
set_option linter.unusedSectionVars false
set_option linter.unusedVariables false
set_option linter.unusedSimpArgs false
namespace Go.Proofs.YtmmfpkkkpeapeaaGreatDoor.Ev
open Go Go.RowKit
variable [Sym]

def aUn : UnOp → Value → Option Value
  | .neg, .int k n => intOp .sub k 0 n
  | .xor, .int k n => intOp .xor k (if k.signed then -1 else k.max) n
  | .not, .bool b => some (.bool !b)
  | _, _ => none
def idx? : Value → Option Nat
  | .int _ i => if 0 ≤ i then some i.toNat else none
  | _ => none
def aIndexAddr (E : Env) (t : TypeId) (x ix : Value) : Option Value :=
  match idx? ix, E.tab t with
  | some i, some ti =>
    match ti.desc, x with
    | .array n e, .pointer (some a) => match E.tab e with
      | some te => if i < n then some (.pointer (some ⟨a.block, a.off + i * te.size, none⟩)) else none
      | none => none
    | .slice e, .slice (some a) n _ => match E.tab e with
      | some te => if i < n then some (.pointer (some ⟨a.block, a.off + i * te.size, none⟩)) else none
      | none => none
    | _, _ => none
  | _, _ => none
def aFieldAddr (E : Env) (s : TypeId) (x : Value) (f : Nat) : Option Value :=
  match E.tab s, x with
  | some ti, .pointer (some a) =>
    match ti.desc with
    | .struct fs => match fs[f]? with
      | some g => match E.tab g.type with
        | some tg => if tg.size = 0 then none else some (.pointer (some ⟨a.block, a.off + g.offset, none⟩))
        | none => none
      | none => none
    | _ => none
  | _, _ => none
def aField (E : Env) (s : TypeId) (x : Value) (f : Nat) : Option Value :=
  match E.tab s, x with
  | some ti, .agg cs =>
    match ti.desc with
    | .struct fs => match fs[f]? with
      | some g => aPart E g.type cs g.offset
      | none => none
    | _ => none
  | _, _ => none
def aIndex (E : Env) (t : TypeId) (x ix : Value) : Option Value :=
  match idx? ix, E.tab t with
  | some i, some ti =>
    match ti.desc, x with
    | .array n e, .agg cs => match E.tab e with
      | some te => if i < n then aPart E e cs (i * te.size) else none
      | none => none
    | .string, .string s => match s.data[i]? with
      | some b => some (.int .u8 b.toNat)
      | none => none
    | _, _ => none
  | _, _ => none
def bnd (o : Option Value) (d : Nat) : Option Nat :=
  match o with
  | none => some d
  | some v => idx? v
/-- At least so many elements a slice may have. -/
def capLb (c : Nat) : Nat := if c < 4611686018427387904 then c else if c < 9223372036854775808 then c - 4611686018427387904 else c - 9223372036854775808
def aSlice (E : Env) (t : TypeId) (x : Value) (lo hi mx : Option Value) : Option Value :=
  match E.tab t with
  | none => none
  | some ti =>
    match ti.desc, x with
    | .string, .string s =>
      match mx, bnd lo 0, bnd hi s.data.size with
      | none, some l, some h => if l ≤ h ∧ h ≤ s.data.size then some (.string (s.extract l h)) else none
      | _, _, _ => none
    | .array n e, .pointer (some a) =>
      match mx, bnd lo 0, bnd hi n, E.tab e with
      | none, some l, some h, some te => if l ≤ h ∧ h ≤ n ∧ n < 4611686018427387904 then some (.slice (some ⟨a.block, if n = l then a.off else a.off + l * te.size, none⟩) (h - l) (n - l)) else none
      | _, _, _, _ => none
    | .slice e, .slice none 0 0 =>
      match mx, bnd lo 0, bnd hi 0, E.tab e with
      | none, some 0, some 0, some _ => some (.slice none 0 0)
      | _, _, _, _ => none
    | .slice e, .slice (some a) n c =>
      match bnd lo 0, bnd hi n, E.tab e with
      | some l, some h, some te =>
        match mx with
        | some v => match idx? v, hi with
          | some m, some _ => if l ≤ h ∧ h ≤ m ∧ m ≤ capLb c ∧ m < 4611686018427387904 then some (.slice (some ⟨a.block, if m = l then a.off else a.off + l * te.size, none⟩) (h - l) (m - l)) else none
          | _, _ => none
        | none =>
          if l ≤ h ∧ (h ≤ capLb c ∨ hi = none) then
            if c < 4611686018427387904 then some (.slice (some ⟨a.block, if c = l then a.off else a.off + l * te.size, none⟩) (h - l) (c - l))
            else if l = 0 then some (.slice (some ⟨a.block, a.off, none⟩) h c)
            else if l < capLb c then some (.slice (some ⟨a.block, a.off + l * te.size, none⟩) (h - l) (9223372036854775808 + (capLb c - l)))
            else none
          else none
      | _, _, _ => none
    | _, _ => none
section
variable {E : Env} {P : Program} {ι : Ren} {w : World}
theorem un_run {op : UnOp} {x x' v : Value} (hx : VRel ι x x') (h : aUn op x = some v) : Ans P ι w (Op.unary op x') v := by
  unfold aUn at h
  split at h
  · cases hx
    rename_i k n
    have e : Op.unary .neg (.int k n) = binOp .sub 0 (.int k 0) (.int k n) := by simp [Op.unary, binOp]
    obtain ⟨h1, h2⟩ := intOp_run P w .sub k 0 n 0 v h
    exact ⟨v, by rw [e]; exact h1, h2 ι⟩
  · cases hx
    rename_i k n
    have e : Op.unary .xor (.int k n) = binOp .xor 0 (.int k (if k.signed then -1 else k.max)) (.int k n) := by simp [Op.unary, binOp]
    obtain ⟨h1, h2⟩ := intOp_run P w .xor k _ n 0 v h
    exact ⟨v, by rw [e]; exact h1, h2 ι⟩
  · cases h
    cases hx
    exact ⟨_, rfl, .bool _⟩
  · cases h
theorem idx_inv {v v' : Value} {i : Nat} (hv : VRel ι v v') (h : idx? v = some i) : ∃ k, v' = .int k (i : Int) := by
  unfold idx? at h
  split at h
  · rename_i k n
    split at h
    · rename_i h0
      cases h
      cases hv
      exact ⟨k, by rw [Int.toNat_of_nonneg h0]⟩
    · cases h
  · cases h
theorem sl_inv {a : Addr} {n c : Nat} {v' : Value} (h : VRel ι (.slice (some a) n c) v') : ∃ r c', v' = .slice (some ⟨r, a.off, none⟩) n c' ∧ ι.to a.block = some r ∧ capLb c ≤ c' ∧ (c < 4611686018427387904 → c' = c) ∧ (4611686018427387904 ≤ c → c < 9223372036854775808 → a.off = 0 ∧ ι a.block = some (r, c')) := by
  cases h with
  | sl n h hc =>
    rename_i a'
    obtain ⟨h1, h2, h3, h4⟩ := h
    obtain ⟨r, o, s⟩ := a'
    simp only at h1 h2 h4
    subst h2 h4
    exact ⟨r, c, rfl, h1, by unfold capLb; rw [if_pos hc]; exact Nat.le_refl _, fun _ => rfl, fun h => by omega⟩
  | slg n h h0 hk g1 g2 hc =>
    rename_i a' c'
    obtain ⟨h1, h2, h3, h4⟩ := h
    obtain ⟨r, o, s⟩ := a'
    simp only at h1 h2 h4
    subst h2 h4
    exact ⟨r, c', rfl, h1, by unfold capLb; rw [if_neg (by omega), if_pos g2]; exact hc, fun h => by omega, fun _ _ => ⟨h0, hk⟩⟩
  | slv n h g1 hc =>
    rename_i a' c'
    obtain ⟨h1, h2, h3, h4⟩ := h
    obtain ⟨r, o, s⟩ := a'
    simp only at h1 h2 h4
    subst h2 h4
    exact ⟨r, c', rfl, h1, by unfold capLb; rw [if_neg (by omega), if_neg (by omega)]; exact hc, fun h => by omega, fun _ h => by omega⟩
theorem indexAddr_run (ok : E.Ok P) {t : TypeId} {x x' ix ix' v : Value} (hx : VRel ι x x') (hi : VRel ι ix ix') (h : aIndexAddr E t x ix = some v) : Ans P ι w (Instr.indexAt t x' ix') v := by
  unfold aIndexAddr at h
  split at h
  · rename_i i ti ei et
    obtain ⟨k, rfl⟩ := idx_inv hi ei
    have hu := run_underlying_tab ok et w
    split at h
    · rename_i n e a hd
      split at h
      · rename_i te ee
        split at h
        · rename_i hlt
          cases h
          obtain ⟨r, rfl, hr⟩ := ptr_inv hx
          refine ⟨.pointer (some ⟨r, a.off + i * te.size, none⟩), ?_, .ptr ⟨hr, rfl, rfl, rfl⟩⟩
          simp [Instr.indexAt, asIntOf, hu, hd, Instr.sureAddr, hlt, run_sizeOf_tab ok ee, add_off]
        · cases h
      · cases h
    · rename_i e a n c hd
      split at h
      · rename_i te ee
        split at h
        · rename_i hlt
          cases h
          obtain ⟨r, c', rfl, hr, _⟩ := sl_inv hx
          refine ⟨.pointer (some ⟨r, a.off + i * te.size, none⟩), ?_, .ptr ⟨hr, rfl, rfl, rfl⟩⟩
          simp [Instr.indexAt, asIntOf, hu, hd, Instr.sureAddr, hlt, run_sizeOf_tab ok ee, add_off]
        · cases h
      · cases h
    · cases h
  · cases h
theorem fieldAddr_run (ok : E.Ok P) {s : TypeId} {x x' v : Value} {f : Nat} (hx : VRel ι x x') (h : aFieldAddr E s x f = some v) : Ans P ι w (Instr.fieldAt s x' f) v := by
  unfold aFieldAddr at h
  split at h
  · rename_i ti a et
    have hu := run_underlying_tab ok et w
    split at h
    · rename_i fs hd
      split at h
      · rename_i g eg
        split at h
        · rename_i tg etg
          split at h
          · cases h
          · rename_i hz
            cases h
            obtain ⟨r, rfl, hr⟩ := ptr_inv hx
            refine ⟨.pointer (some ⟨r, a.off + g.offset, none⟩), ?_, .ptr ⟨hr, rfl, rfl, rfl⟩⟩
            simp [Instr.fieldAt, hu, hd, eg, Instr.sureAddr, fieldPlace, run_sizeOf_tab ok etg, hz, add_off]
        · cases h
      · cases h
    · cases h
  · cases h
theorem field_run (ok : E.Ok P) {s : TypeId} {x x' v : Value} {f : Nat} (hx : VRel ι x x') (h : aField E s x f = some v) : Ans P ι w (Instr.field s x' f) v := by
  unfold aField at h
  split at h
  · rename_i ti cs et
    have hu := run_underlying_tab ok et w
    split at h
    · rename_i fs hd
      split at h
      · rename_i g eg
        cases hx with
        | agg hc hs =>
        rename_i cs'
        obtain ⟨v', hr, hv⟩ := part_run ok w (cs' := cs') ⟨hc, hs⟩ h
        exact ⟨v', by simp [Instr.field, hu, hd, eg, asAgg, hr], hv⟩
      · cases h
    · cases h
  · cases h
theorem index_run (ok : E.Ok P) {t : TypeId} {x x' ix ix' v : Value} (hx : VRel ι x x') (hi : VRel ι ix ix') (h : aIndex E t x ix = some v) : Ans P ι w (Instr.index t x' ix') v := by
  unfold aIndex at h
  split at h
  · rename_i i ti ei et
    obtain ⟨k, rfl⟩ := idx_inv hi ei
    have hu := run_underlying_tab ok et w
    split at h
    · rename_i n e cs hd
      split at h
      · rename_i te ee
        split at h
        · rename_i hlt
          cases hx with
          | agg hc hs =>
          rename_i cs'
          obtain ⟨v', hr, hv⟩ := part_run ok w (cs' := cs') ⟨hc, hs⟩ h
          refine ⟨v', ?_, hv⟩
          simp [Instr.index, asIntOf, hu, hd, hlt, run_sizeOf_tab ok ee, hr]
        · cases h
      · cases h
    · rename_i s hd
      split at h
      · rename_i b eb
        cases h
        cases hx
        refine ⟨.int .u8 b.toNat, ?_, .int _ _⟩
        have e2 : s[i]? = some b := eb
        simp [Instr.index, asIntOf, hu, hd, e2]
      · cases h
    · cases h
  · cases h
theorem bnd_inv {o o' : Option Value} {d i : Nat} (ho : (o = none ∧ o' = none) ∨ ∃ v v', o = some v ∧ o' = some v' ∧ VRel ι v v') (h : bnd o d = some i) : (o = none ∧ o' = none ∧ i = d) ∨ ∃ k, o.isSome = true ∧ o' = some (.int k (i : Int)) := by
  rcases ho with ⟨rfl, rfl⟩ | ⟨v, v', rfl, rfl, hv⟩
  · cases h; exact .inl ⟨rfl, rfl, rfl⟩
  · obtain ⟨k, rfl⟩ := idx_inv hv h
    exact .inr ⟨k, rfl, rfl⟩
theorem bound_run (k : IntKind) (i y : Nat) (c : BoundsCode) (h : i ≤ y) : (Instr.sliceBound (.int k (i : Int)) y c).run P w = .ok i w := by
  simp [Instr.sliceBound, asIntOf, h]
abbrev OptV (ι : Ren) (o o' : Option Value) : Prop := (o = none ∧ o' = none) ∨ ∃ v v', o = some v ∧ o' = some v' ∧ VRel ι v v'
/-- The bounds, without a third index. -/
theorem bounds_run {lo lo' hi hi' : Option Value} (hlo : OptV ι lo lo') (hhi : OptV ι hi hi') (isSl : Bool) (len cap l h : Nat) (el : bnd lo 0 = some l) (eh : bnd hi len = some h) (h1 : l ≤ h) (h2 : h ≤ cap ∨ hi = none) :
    (Instr.sliceBounds isSl len cap lo' hi' none).run P w = .ok (l, h, cap) w := by
  rcases bnd_inv hhi eh with ⟨rfl, rfl, rfl⟩ | ⟨k, hs, rfl⟩
  · rcases bnd_inv hlo el with ⟨rfl, rfl, rfl⟩ | ⟨k', _, rfl⟩
    · simp [Instr.sliceBounds]
    · simp [Instr.sliceBounds, bound_run k' l h _ h1]
  · have h2 : h ≤ cap := by
      rcases h2 with h2 | h2
      · exact h2
      · subst h2; cases hs
    rcases bnd_inv hlo el with ⟨rfl, rfl, rfl⟩ | ⟨k', _, rfl⟩
    · simp [Instr.sliceBounds, bound_run k h cap _ h2]
    · simp [Instr.sliceBounds, bound_run k h cap _ h2, bound_run k' l h _ h1]
theorem bounds3_run {lo lo' hi hi' : Option Value} {v v' : Value} (hlo : OptV ι lo lo') (hhi : OptV ι hi hi') (hv : VRel ι v v') (len cap l h m : Nat) (el : bnd lo 0 = some l) (eh : bnd hi len = some h) (em : idx? v = some m) (hs : hi.isSome = true) (h1 : l ≤ h) (h2 : h ≤ m) (h3 : m ≤ cap) :
    (Instr.sliceBounds true len cap lo' hi' (some v')).run P w = .ok (l, h, m) w := by
  obtain ⟨km, rfl⟩ := idx_inv hv em
  rcases bnd_inv hhi eh with ⟨rfl, rfl, rfl⟩ | ⟨k, _, rfl⟩
  · cases hs
  · rcases bnd_inv hlo el with ⟨rfl, rfl, rfl⟩ | ⟨k', _, rfl⟩
    · simp [Instr.sliceBounds, bound_run km m cap _ h3, bound_run k h m _ h2]
    · simp [Instr.sliceBounds, bound_run km m cap _ h3, bound_run k h m _ h2, bound_run k' l h _ h1]
theorem slice_run (ok : E.Ok P) {t : TypeId} {x x' v : Value} {lo lo' hi hi' mx mx' : Option Value} (hx : VRel ι x x') (hlo : OptV ι lo lo') (hhi : OptV ι hi hi') (hmx : OptV ι mx mx') (h : aSlice E t x lo hi mx = some v) : Ans P ι w (Instr.sliceAt t x' lo' hi' mx') v := by
  unfold aSlice at h
  split at h
  · cases h
  rename_i ti et
  have hu := run_underlying_tab ok et w
  split at h
  · -- a text
    rename_i s hd
    split at h
    · rename_i l h' el eh
      split at h
      · rename_i hb
        cases h
        cases hx
        have hmx : mx' = none := by
          rcases hmx with ⟨_, rfl⟩ | ⟨_, _, h, _⟩
          · rfl
          · cases h
        subst hmx
        refine ⟨.string (s.extract l h'), ?_, .str _⟩
        have hb2 := bounds_run (P := P) (w := w) hlo hhi false s.size s.size l h' el eh hb.1 (.inl hb.2)
        simp [Instr.sliceAt, hu, hd, Instr.slice, hb2]
      · cases h
    · cases h
  · -- an array behind its address
    rename_i n e a hd
    split at h
    · rename_i l h' te el eh ee
      split at h
      · rename_i hb
        cases h
        obtain ⟨r, rfl, hr⟩ := ptr_inv hx
        have hmx : mx' = none := by
          rcases hmx with ⟨_, rfl⟩ | ⟨_, _, h, _⟩
          · rfl
          · cases h
        subst hmx
        have hb2 := bounds_run (P := P) (w := w) hlo hhi false n n l h' el eh hb.1 (.inl hb.2.1)
        refine ⟨.slice (some ⟨r, if n = l then a.off else a.off + l * te.size, none⟩) (h' - l) (n - l), ?_, .sl _ ⟨hr, rfl, rfl, rfl⟩ (by omega)⟩
        simp only [Instr.sliceAt, Sem.run_bind, hu, Result.andThen_ok, hd, Instr.sureAddr, Sem.run_pure, hb2, run_sizeOf_tab ok ee, add_off]
        split <;> rfl
      · cases h
    · cases h
  · -- nothing
    rename_i e hd
    split at h
    · rename_i te el eh ee
      cases h
      cases hx
      have hmx : mx' = none := by
        rcases hmx with ⟨_, rfl⟩ | ⟨_, _, h, _⟩
        · rfl
        · cases h
      subst hmx
      have hb2 := bounds_run (P := P) (w := w) hlo hhi true 0 0 0 0 el eh (Nat.le_refl _) (.inl (Nat.le_refl _))
      refine ⟨.slice none 0 0, ?_, .sl0 _ _⟩
      simp [Instr.sliceAt, hu, hd, Instr.slice, hb2, run_sizeOf_tab ok ee]
    · cases h
  · -- a slice
    rename_i e a n c hd
    split at h
    · rename_i l h' te el eh ee
      obtain ⟨r, c', rfl, hr, hlb, hex, hgr⟩ := sl_inv hx
      have go : ∀ l h' m, (Instr.sliceBounds true n c' lo' hi' mx').run P w = .ok (l, h', m) w → (Instr.sliceAt t (.slice (some ⟨r, a.off, none⟩) n c') lo' hi' mx').run P w = .ok (.slice (some ⟨r, if m = l then a.off else a.off + l * te.size, none⟩) (h' - l) (m - l)) w := by
        intro l h' m hb2
        simp only [Instr.sliceAt, Sem.run_bind, hu, Result.andThen_ok, hd, Instr.slice, hb2, run_sizeOf_tab ok ee, Option.map_some, add_off, Sem.run_pure]
        split <;> rfl
      split at h
      · rename_i v0
        split at h
        · rename_i m hiv em
          split at h
          · rename_i hb
            cases h
            rcases hmx with ⟨h, _⟩ | ⟨v1, v1', h, rfl, hv⟩
            · cases h
            · cases h
              have hb2 := bounds3_run (P := P) (w := w) hlo hhi hv n c' l h' m el eh em rfl hb.1 hb.2.1 (by omega)
              exact ⟨_, go _ _ _ hb2, .sl _ ⟨hr, rfl, rfl, rfl⟩ (by omega)⟩
          · cases h
        · cases h
      · have hmx : mx' = none := by
          rcases hmx with ⟨_, rfl⟩ | ⟨_, _, h, _⟩
          · rfl
          · cases h
        subst hmx
        split at h
        · rename_i hb
          have hcap : h' ≤ c' ∨ hi = none := hb.2.elim (fun h => .inl (by omega)) .inr
          have hb2 := bounds_run (P := P) (w := w) hlo hhi true n c' l h' el eh hb.1 hcap
          split at h
          · rename_i hc
            cases h
            have := hex hc
            subst this
            exact ⟨_, go _ _ _ hb2, .sl _ ⟨hr, rfl, rfl, rfl⟩ (by omega)⟩
          · rename_i hc
            split at h
            · rename_i hl
              cases h
              subst hl
              refine ⟨_, go _ _ _ hb2, ?_⟩
              simp only [Nat.zero_mul, Nat.add_zero, ite_self, Nat.sub_zero]
              cases hx with
              | sl n h hc' => omega
              | slg n h h0 hk g1 g2 hc' => exact .slg _ ⟨hr, rfl, rfl, rfl⟩ h0 hk g1 g2 hc'
              | slv n h g1 hc' => exact .slv _ ⟨hr, rfl, rfl, rfl⟩ g1 hc'
            · rename_i hl
              split at h
              · rename_i hlt
                cases h
                refine ⟨_, go _ _ _ hb2, ?_⟩
                rw [if_neg (by omega)]
                exact .slv _ ⟨hr, rfl, rfl, rfl⟩ (by omega) (by omega)
              · cases h
        · cases h
    · cases h
  · cases h
end
end Go.Proofs.YtmmfpkkkpeapeaaGreatDoor.Ev
