/- The evaluator's maps: keys checked, found; look-up, update, delete, ranging over one of at most one entry. No condition. -/
import Derived.Test.YtmmfpkkkpeapeaaGreatDoorEvI
set_option linter.unusedSectionVars false
set_option linter.unusedVariables false
set_option linter.unusedSimpArgs false
namespace Go.Proofs.YtmmfpkkkpeapeaaGreatDoor.Ev
open Go Go.RowKit
variable [Sym]

def aKeyOk (E : Env) : Nat → TypeId → Value → Bool
  | 0, _, _ => false
  | d + 1, t, v =>
    match E.tab t with
    | none => false
    | some ti =>
      if isTok v then (E.eqT (descK ti.desc) v v).getD false else
      match ti.desc, v with
      | .struct fs, .agg cs => fs.toList.all fun f => f.name == "_" || (match aPart E f.type cs f.offset with
        | none => false
        | some p => aKeyOk E d f.type p)
      | .array len e, .agg cs => match E.tab e with
        | none => false
        | some te => (List.range len).all fun i => match aPart E e cs (i * te.size) with
          | none => false
          | some p => aKeyOk E d e p
      | .bool, .bool _ => true
      | .int _, .int _ _ => true
      | .string, .string _ => true
      | _, _ => false
/-- Is a token known to be a scalar? -/
def scalT (E : Env) (v : Value) : Bool := (E.eqT 1 v v).getD false || ((E.eqT 2 v v).getD false || (E.eqT 3 v v).getD false)
/-- The same scalars and tokens. -/
def sameS (E : Env) : Nat → Value → Value → Bool
  | _, .bool a, .bool b => a == b
  | _, .int k a, .int k' b => decide (k = k') && a == b
  | _, .string a, .string b => a.data.toList == b.data.toList
  | _, .complex k i z, .complex k' j z' => decide (k = k') && i == j && z == z' && scalT E (.complex k i z)
  | n + 1, .agg a, .agg b => a.size == b.size && (a.toList.zip b.toList).all fun p => sameS E n p.1 p.2
  | _, _, _ => false
def aFind (E : Env) (t : TypeId) (k : Value) : List MapEntry → Nat → LM (Option (Nat × Value))
  | [], _ => pure none
  | e :: es, i => do
    let r ← aEq E 8 t k e.key
    match r with
    | true => pure (some (i, e.val))
    | false => aFind E t k es (i + 1)
def mapAt (b : Nat) : LM (Array MapEntry × Nat) := do
  match ← LM.look b with
  | .other (.map es k) => pure (es, k)
  | _ => LM.fail
def aEntries : Value → LM (Array MapEntry)
  | .map none => pure #[]
  | .map (some r) => do
    let p ← mapAt r
    pure p.1
  | _ => LM.fail
def aLookup (E : Env) (t : TypeId) (x ix : Value) (ok : Bool) : LM Value := do
  let ti ← LM.ofOption (E.tab t)
  match ti.desc with
  | .map kt et => do
    let es ← aEntries x
    LM.guard (aKeyOk E 8 kt ix)
    match ← aFind E kt ix es.toList 0 with
    | some (_, v) => pure (if ok then .tuple #[v, .bool true] else v)
    | none => do
      let te ← LM.ofOption (E.tab et)
      pure (if ok then .tuple #[te.zero, .bool false] else te.zero)
  | _ => LM.fail
def aMapUpdate (E : Env) (t : TypeId) (m k v : Value) : LM Unit := do
  let ti ← LM.ofOption (E.tab t)
  match ti.desc, m with
  | .map kt _, .map (some r) => do
    let p ← mapAt r
    LM.guard (aKeyOk E 8 kt k && decide (E.G ≤ r))
    match ← aFind E kt k p.1.toList 0 with
    | some (i, _) => do
      let old := ((p.1[i]?).map (·.key)).getD k
      LM.guard ((plainV 6 old && plainV 6 k && Instr.sameBits 10000 old k) || sameS E 6 old k)
      LM.put r (some (.other (.map ((p.1.toList.modify i fun e => { e with key := k, val := v }).toArray) p.2)))
    | none => LM.put r (some (.other (.map (p.1.push { key := k, val := v, born := p.2 }) (p.2 + 1))))
  | _, _ => LM.fail
def aDelete (E : Env) (t : TypeId) (m k : Value) : LM Value := do
  let ti ← LM.ofOption (E.tab t)
  match ti.desc, m with
  | .map kt _, .map none => do
    LM.guard (aKeyOk E 8 kt k)
    pure (.tuple #[])
  | .map kt _, .map (some r) => do
    let p ← mapAt r
    LM.guard (aKeyOk E 8 kt k && decide (E.G ≤ r))
    match ← aFind E kt k p.1.toList 0 with
    | some (i, _) => do
      LM.put r (some (.other (.map (p.1.toList.eraseIdx i).toArray p.2)))
      pure (.tuple #[])
    | none => do
      LM.put r (some (.other (.map p.1 p.2)))
      pure (.tuple #[])
  | _, _ => LM.fail
section
variable {E : Env} {P : Program} {B : Bd} {ι : Ren} {st st' : St} {w : World}
theorem keyOk_run (ok : E.Ok P) (em : Bool) : ∀ (d n : Nat) (t : TypeId) (v v' : Value), d ≤ n → VRel ι v v' → aKeyOk E d t v = true → (Instr.checkKey em n t v').run P w = .ok () w := by
  intro d
  induction d with
  | zero => intro n t v v' _ _ h; simp [aKeyOk] at h
  | succ d ih =>
    intro n t v v' hn hv h
    obtain ⟨n, rfl⟩ : ∃ m, n = m + 1 := ⟨n - 1, by omega⟩
    unfold aKeyOk at h
    split at h
    · cases h
    · rename_i ti et
      have hu := run_underlying_tab ok et w
      by_cases htk : isTok v = true
      · rw [if_pos htk] at h
        cases e1 : E.eqT (descK ti.desc) v v with
        | none => rw [e1] at h; cases h
        | some b =>
          have e2 := ok.eqT _ _ _ _ e1 ι v' v' hv hv
          generalize ti.desc = ds at hu e2
          unfold descK at e2
          split at e2 <;> unfold eqScal at e2 <;> (try (split at e2)) <;> first
            | (simp [Instr.checkKey, hu]; done)
            | (simp_all; done)
      rw [if_neg htk] at h
      split at h
      · rename_i fs cs hd
        cases hv with
        | agg hc hr =>
        rename_i cs'
        rw [hd] at hu
        rw [Instr.checkKey]
        simp only [Sem.run_bind, hu, Result.andThen_ok]
        rw [← Array.forIn_toList]
        generalize fs.toList = L at h
        induction L with
        | nil => simp
        | cons f L ihl =>
          simp only [List.all_cons, Bool.and_eq_true] at h
          by_cases hn' : f.name = "_"
          · simp only [List.forIn_cons, Sem.run_bind, hn', ne_eq, not_true_eq_false, if_false, Result.andThen_ok, Sem.run_pure]
            exact ihl h.2
          · have h1 := h.1
            have : (f.name == "_") = false := by simpa using hn'
            rw [this, Bool.false_or] at h1
            split at h1
            · cases h1
            · rename_i p ep
              obtain ⟨p', rp, hp⟩ := part_run ok w (cs' := cs') ⟨hc, hr⟩ ep
              have hk := ih n _ _ _ (by omega) hp h1
              simp only [List.forIn_cons, Sem.run_bind, hn', ne_eq, not_false_eq_true, if_true, Result.andThen_ok, rp, hk, Sem.run_pure]
              exact ihl h.2
      · rename_i len e cs hd
        split at h
        · cases h
        rename_i te ee
        cases hv with
        | agg hc hr =>
        rename_i cs'
        rw [hd] at hu
        rw [Instr.checkKey]
        simp only [Sem.run_bind, hu, Result.andThen_ok]
        simp only [Std.Legacy.Range.forIn_eq_forIn_range', Std.Legacy.Range.size, Nat.sub_zero, Nat.add_one_sub_one, Nat.div_one, List.range_eq_range'] at h ⊢
        generalize List.range' 0 len = L at h
        induction L with
        | nil => simp
        | cons i L ihl =>
          simp only [List.all_cons, Bool.and_eq_true] at h
          have h1 := h.1
          split at h1
          · cases h1
          · rename_i p ep
            obtain ⟨p', rp, hp⟩ := part_run ok w (cs' := cs') ⟨hc, hr⟩ ep
            have hk := ih n _ _ _ (by omega) hp h1
            simp only [List.forIn_cons, Sem.run_bind, Result.andThen_ok, run_sizeOf_tab ok ee, rp, hk, Sem.run_pure]
            exact ihl h.2
      · rename_i b hd
        cases hv
        simp [Instr.checkKey, hu, hd]
      · rename_i k j hd
        cases hv
        simp [Instr.checkKey, hu, hd]
      · rename_i s hd
        cases hv
        simp [Instr.checkKey, hu, hd]
      · cases h
theorem beq_bytes (a c : ByteArray) : (a == c) = (a.data.toList == c.data.toList) := by
  have h1 : (a == c) = (a.data == c.data) := by cases a; cases c; rfl
  rw [h1, Bool.eq_iff_iff, beq_iff_eq, beq_iff_eq]
  exact Array.toList_inj.symm
theorem scal_bits {κ : Nat} {x y : Value} (h : eqScal κ x y = some true) (m : Nat) : Instr.sameBits m x y = true := by
  unfold eqScal at h
  split at h
  · simpa [Instr.sameBits] using h
  · split at h
    · rename_i hk
      subst hk
      simpa [Instr.sameBits] using h
    · cases h
  · unfold Instr.sameBits
    rw [beq_bytes]; simpa using h
  · cases h
theorem sameS_flat (ok : E.Ok P) (n m : Nat) (x y x' y' : Value) (hn : ∀ a b, x = .agg a → y = .agg b → False) (h : sameS E n x y = true) (hx : VRel ι x x') (hy : VRel ι y y') : Instr.sameBits m x' y' = true := by
  unfold sameS at h
  split at h
  · cases hx; cases hy; simpa [Instr.sameBits] using h
  · cases hx; cases hy; simpa [Instr.sameBits] using h
  · cases hx; cases hy
    unfold Instr.sameBits
    rw [beq_bytes]; exact h
  · simp only [Bool.and_eq_true, decide_eq_true_eq, beq_iff_eq] at h
    obtain ⟨⟨⟨rfl, rfl⟩, rfl⟩, h⟩ := h
    have key : ∀ κ v, VRel ι v x' → VRel ι v y' → (E.eqT κ v v).getD false = true → Instr.sameBits m x' y' = true := by
      intro κ v hx hy hκ
      cases e1 : E.eqT κ v v with
      | none => rw [e1] at hκ; cases hκ
      | some b =>
        rw [e1] at hκ
        cases hκ
        exact scal_bits (ok.eqT _ _ _ _ e1 ι x' y' hx hy) m
    unfold scalT at h
    simp only [Bool.or_eq_true] at h
    rcases h with h | h | h
    · exact key 1 _ hx hy h
    · exact key 2 _ hx hy h
    · exact key 3 _ hx hy h
  · exact (hn _ _ rfl rfl).elim
  · cases h
theorem sameS_bits (ok : E.Ok P) : ∀ (n m : Nat) (x y x' y' : Value), n ≤ m → sameS E n x y = true → VRel ι x x' → VRel ι y y' → Instr.sameBits m x' y' = true := by
  intro n
  induction n with
  | zero =>
    intro m x y x' y' hm h hx hy
    exact sameS_flat ok 0 m x y x' y' (fun _ _ e1 e2 => by subst e1 e2; simp [sameS] at h) h hx hy
  | succ n ih =>
    intro m x y x' y' hm h hx hy
    obtain ⟨m, rfl⟩ : ∃ q, m = q + 1 := ⟨m - 1, by omega⟩
    by_cases hagg : ∃ a b, x = .agg a ∧ y = .agg b
    · obtain ⟨a, b, rfl, rfl⟩ := hagg
      simp only [sameS, Bool.and_eq_true, beq_iff_eq] at h
      cases hx with
      | agg hc hr =>
      cases hy with
      | agg hc2 hr2 =>
      rename_i a' b'
      simp only [Instr.sameBits, Bool.and_eq_true, beq_iff_eq]
      refine ⟨by omega, ?_⟩
      rw [List.all_eq_true]
      intro p hp
      obtain ⟨i, hi, rfl⟩ := List.getElem_of_mem hp
      simp only [List.length_zip, Array.length_toList] at hi
      simp only [List.getElem_zip, Array.getElem_toList]
      have h2 := List.all_eq_true.1 h.2 ((a.toList.zip b.toList)[i]'(by simp; omega)) (List.getElem_mem _)
      simp only [List.getElem_zip, Array.getElem_toList] at h2
      have e1 := hr i (by omega)
      have e2 := hr2 i (by omega)
      simp only [Array.getD, show i < a.size by omega, show i < b.size by omega, show i < a'.size by omega, show i < b'.size by omega, dite_true] at e1 e2
      exact ih m _ _ _ _ (by omega) h2 e1 e2
    · exact sameS_flat ok (n + 1) (m + 1) x y x' y' (fun a b e1 e2 => hagg ⟨a, b, e1, e2⟩) h hx hy
theorem sameNow_eq (ok : E.Ok P) (hw : WRel E.G B ι st w) {t : TypeId} {ti : TI} (et : E.tab t = some ti) {x y x' y' : Value} {b b' : Bool} {st1 : St} (hx : VRel ι x x') (hy : VRel ι y y') (h : Run (aEq E 8 t x y) st b st1) (h' : Instr.sameNow ti.desc x' y' = some b') : b' = b := by
  obtain ⟨n, hn⟩ : ∃ n, 8 ≤ n + 1 := ⟨7, by omega⟩
  have hrun := (eq_run (P := P) ok hw 8 (n + 1) t x y x' y' b st1 hn hx hy h).2
  unfold Instr.sameNow at h'
  have hu := run_underlying_tab ok et w
  split at h'
  · rename_i hd
    split at h'
    · rename_i hk
      cases h'
      simp only [Op.equalIn, Sem.run_bind, hu, Result.andThen_ok, hd, hk] at hrun
      simpa using hrun
    · cases h'
  · rename_i a c hd
    cases h'
    rw [run_equalIn_string w n t _ _ (by rw [(ok.tab t ti et).1, hd]), ByteArray.toList_eq, ByteArray.toList_eq] at hrun
    rw [beq_bytes]
    simpa using hrun
  · rename_i a c hd
    cases h'
    simp only [Op.equalIn, Sem.run_bind, hu, Result.andThen_ok, hd] at hrun
    simpa using hrun
  · cases h'
def FRel (ι : Ren) : Option (Nat × Value) → Option (Nat × Value) → Prop
  | none, none => True
  | some (i, v), some (j, v') => j = i ∧ VRel ι v v'
  | _, _ => False
theorem findAsking_run (ok : E.Ok P) (hw : WRel E.G B ι st w) {t : TypeId} {k k' : Value} (hk : VRel ι k k') {l l' : List MapEntry} (hl : EL ι l l') : ∀ (i : Nat) (r : Option (Nat × Value)) (st1 : St), Run (aFind E t k l i) st r st1 →
    st1 = st ∧ ∃ r', (Instr.findAsking t k' l' i).run P w = .ok r' w ∧ FRel ι r r' := by
  induction hl with
  | nil =>
    intro i r st1 h
    obtain ⟨rfl, rfl⟩ := Run.pure.1 h
    exact ⟨rfl, none, rfl, trivial⟩
  | cons he _ ih =>
    intro i r st1 h
    unfold aFind at h
    replace h := Run.bind.1 h; obtain ⟨b, st2, h1, h⟩ := h
    obtain ⟨rfl, hb⟩ := eq_run ok hw 8 10000 t _ _ _ _ b st2 (by omega) hk he.key h1
    have hb' : (Op.equal t k' _).run P w = .ok b w := hb
    cases b with
    | true =>
      obtain ⟨rfl, rfl⟩ := Run.pure.1 h
      exact ⟨rfl, some (i, _), by simp only [Instr.findAsking, Sem.run_bind, hb', Result.andThen_ok, if_true, Sem.run_pure], rfl, he.val⟩
    | false =>
      obtain ⟨rfl, r', hr, hf⟩ := ih (i + 1) r st1 h
      exact ⟨rfl, r', by simp only [Instr.findAsking, Sem.run_bind, hb', Result.andThen_ok, Bool.false_eq_true, if_false]; exact hr, hf⟩
theorem findNow_run (ok : E.Ok P) (hw : WRel E.G B ι st w) {t : TypeId} {ti : TI} (et : E.tab t = some ti) {k k' : Value} (hk : VRel ι k k') {l l' : List MapEntry} (hl : EL ι l l') : ∀ (i : Nat) (r r2 : Option (Nat × Value)) (st1 : St), Run (aFind E t k l i) st r st1 →
    Instr.findNow ti.desc k' l' i = some r2 → FRel ι r r2 := by
  induction hl with
  | nil =>
    intro i r r2 st1 h h2
    obtain ⟨rfl, rfl⟩ := Run.pure.1 h
    cases h2
    exact trivial
  | cons he _ ih =>
    intro i r r2 st1 h h2
    unfold aFind at h
    replace h := Run.bind.1 h; obtain ⟨b, st2, h1, h⟩ := h
    obtain ⟨rfl, hb⟩ := eq_run ok hw 8 10000 t _ _ _ _ b st2 (by omega) hk he.key h1
    unfold Instr.findNow at h2
    split at h2
    · rename_i hs
      have := sameNow_eq ok hw et hk he.key h1 hs
      subst this
      cases h2
      obtain ⟨rfl, rfl⟩ := Run.pure.1 h
      exact ⟨rfl, he.val⟩
    · rename_i hs
      have := sameNow_eq ok hw et hk he.key h1 hs
      subst this
      exact ih (i + 1) r r2 st1 h h2
    · cases h2
theorem find_run (ok : E.Ok P) (hw : WRel E.G B ι st w) {t : TypeId} {k k' : Value} (hk : VRel ι k k') {l l' : List MapEntry} (hl : EL ι l l') (hkey : aKeyOk E 8 t k = true) {r : Option (Nat × Value)} {st1 : St} (h : Run (aFind E t k l 0) st r st1) :
    st1 = st ∧ ∃ r', (Instr.findKey t k' l').run P w = .ok r' w ∧ FRel ι r r' := by
  obtain ⟨rfl, r', hr, hf⟩ := findAsking_run (P := P) ok hw hk hl 0 r st1 h
  refine ⟨rfl, ?_⟩
  unfold aKeyOk at hkey
  split at hkey
  · cases hkey
  · rename_i ti et
    have hu := run_underlying_tab ok et w
    cases hn : Instr.findNow ti.desc k' l' 0 with
    | none => exact ⟨r', by simp only [Instr.findKey, Sem.run_bind, hu, Result.andThen_ok, hn]; exact hr, hf⟩
    | some r2 => exact ⟨r2, by simp only [Instr.findKey, Sem.run_bind, hu, Result.andThen_ok, hn, Sem.run_pure], findNow_run (P := P) ok hw et hk hl 0 r r2 st1 h hn⟩
theorem Run.mapAt {b : Nat} {p : Array MapEntry × Nat} (h : Run (Ev.mapAt b) st p st') : st.get b = some (.other (.map p.1 p.2)) ∧ st' = st := by
  unfold Ev.mapAt at h
  replace h := Run.bindLook h; obtain ⟨o, e, h⟩ := h
  split at h
  · obtain ⟨rfl, rfl⟩ := Run.pure.1 h; exact ⟨e, rfl⟩
  · exact (Run.fail.1 h).elim
theorem Run.bindMap {β : Type} {y : β} {b : Nat} {f : Array MapEntry × Nat → LM β} (h : Run (Ev.mapAt b >>= f) st y st') : ∃ p, st.get b = some (.other (.map p.1 p.2)) ∧ Run (f p) st y st' := by
  replace h := Run.bind.1 h; obtain ⟨x, st1, h1, h2⟩ := h
  obtain ⟨e, rfl⟩ := Run.mapAt h1
  exact ⟨x, e, h2⟩
theorem WRel.map {G : Nat} (h : WRel G B ι st w) {b r : Nat} {es : Array MapEntry} {k : Nat} (hb : ι.to b = some r) (e : st.get b = some (.other (.map es k))) :
    ∃ κ es', ι b = some (r, κ) ∧ w.heap[r]? = some (.map es' k) ∧ EL ι es.toList es'.toList := by
  obtain ⟨κ, hk⟩ := Ren.to_some hb
  obtain ⟨ro, h1, h2⟩ := h.obj b r κ _ hk e
  cases h2 with
  | map h => exact ⟨κ, _, hk, h1, h.list⟩
theorem map_inv {b : Nat} {v' : Value} (h : VRel ι (.map (some b)) v') : ∃ r, v' = .map (some r) ∧ ι.to b = some r := by
  cases h with
  | map h => exact ⟨_, rfl, h⟩
theorem entries_run {G : Nat} (hw : WRel G B ι st w) {x x' : Value} (hx : VRel ι x x') {es : Array MapEntry} {st1 : St} (h : Run (aEntries x) st es st1) : st1 = st ∧ ((x' = .map none ∧ es = #[]) ∨ ∃ r k es', x' = .map (some r) ∧ w.heap[r]? = some (.map es' k) ∧ EL ι es.toList es'.toList) := by
  unfold aEntries at h
  split at h
  · obtain ⟨rfl, rfl⟩ := Run.pure.1 h
    cases hx
    exact ⟨rfl, .inl ⟨rfl, rfl⟩⟩
  · replace h := Run.bindMap h; obtain ⟨p, e, h⟩ := h
    obtain ⟨rfl, rfl⟩ := Run.pure.1 h
    obtain ⟨r, rfl, hr⟩ := map_inv hx
    obtain ⟨κ, es', hk, hh, hl⟩ := hw.map hr e
    exact ⟨rfl, .inr ⟨r, _, es', rfl, hh, hl⟩⟩
  · exact (Run.fail.1 h).elim
theorem lookup_real {t kt vt : TypeId} {x' ix' z : Value} {es' : Array MapEntry} {cok : Bool} {r' : Option (Nat × Value)} (hu : (underlying t).run P w = .ok (.map kt vt) w) (hx : (x' = .map none ∧ es' = #[]) ∨ ∃ r k, x' = .map (some r) ∧ w.heap[r]? = some (.map es' k))
    (hc : (Instr.checkKey es'.isEmpty 10000 kt ix').run P w = .ok () w) (hf : (Instr.findKey kt ix' es'.toList).run P w = .ok r' w) (hz : r' = none → (zeroValue vt).run P w = .ok z w) :
    (Instr.lookup t x' ix' cok).run P w = .ok (match r' with | some (_, v) => (if cok then .tuple #[v, .bool true] else v) | none => if cok then .tuple #[z, .bool false] else z) w := by
  have hc' := hc
  have hf' := hf
  rcases hx with ⟨rfl, rfl⟩ | ⟨r, k, rfl, hh⟩
  · cases r' with
    | none => simp only [Instr.lookup, Sem.run_bind, hu, Result.andThen_ok, Sem.run_pure, hc, hf, hz rfl]
    | some q => simp only [Instr.lookup, Sem.run_bind, hu, Result.andThen_ok, Sem.run_pure, hc, hf]
  · cases r' with
    | none => simp only [Instr.lookup, Sem.run_bind, hu, Result.andThen_ok, Sem.run_pure, MapKept.run_getObj_map hh, hc, hf, hz rfl]
    | some q => simp only [Instr.lookup, Sem.run_bind, hu, Result.andThen_ok, Sem.run_pure, MapKept.run_getObj_map hh, hc, hf]
theorem lookup_does (ok : E.Ok P) (hw : WRel E.G B ι st w) {t : TypeId} {x x' ix ix' v : Value} {cok : Bool} (hx : VRel ι x x') (hi : VRel ι ix ix') (h : Run (aLookup E t x ix cok) st v st') :
    st' = st ∧ Ans P ι w (Instr.lookup t x' ix' cok) v := by
  unfold aLookup at h
  replace h := Run.bindOpt h
  obtain ⟨ti, et, h⟩ := h
  have hu := run_underlying_tab ok et w
  split at h
  · rename_i kt vt hd
    rw [hd] at hu
    replace h := Run.bind.1 h
    obtain ⟨es, st1, h1, h⟩ := h
    obtain ⟨rfl, hes⟩ := entries_run hw hx h1
    replace h := Run.bindGuard h
    obtain ⟨hkey, h⟩ := h
    replace h := Run.bind.1 h
    obtain ⟨r, st2, h2, h⟩ := h
    have key : ∃ es' : Array MapEntry, EL ι es.toList es'.toList ∧ ((x' = .map none ∧ es' = #[]) ∨ ∃ r k, x' = .map (some r) ∧ w.heap[r]? = some (.map es' k)) := by
      rcases hes with ⟨rfl, rfl⟩ | ⟨r, k, es', rfl, hh, hl⟩
      · exact ⟨#[], .nil, .inl ⟨rfl, rfl⟩⟩
      · exact ⟨es', hl, .inr ⟨r, k, rfl, hh⟩⟩
    obtain ⟨es', hl, hx'⟩ := key
    obtain ⟨rfl, r', hf, hfr⟩ := find_run (P := P) ok hw hi hl hkey h2
    have hc := keyOk_run (P := P) (w := w) (ι := ι) ok es'.isEmpty 8 10000 kt ix ix' (by omega) hi hkey
    unfold Ans
    cases r with
    | none =>
      cases r' with
      | some q => exact hfr.elim
      | none =>
        replace h := Run.bindOpt h
        obtain ⟨te, ee, h⟩ := h
        obtain ⟨rfl, rfl⟩ := Run.pure.1 h
        have hz := run_zero_tab ok ee w
        refine ⟨rfl, _, lookup_real hu hx' hc hf (fun _ => hz), ?_⟩
        have hzr := zero_rel ok ee ι
        cases cok with
        | true =>
          have := ARel.two hzr (.bool false)
          exact .tuple this.1 this.2
        | false => exact hzr
    | some q =>
      obtain ⟨i, v0⟩ := q
      cases r' with
      | none => exact hfr.elim
      | some q' =>
        obtain ⟨j, v0'⟩ := q'
        obtain ⟨rfl, hv⟩ := hfr
        obtain ⟨rfl, rfl⟩ := Run.pure.1 h
        refine ⟨rfl, _, lookup_real (z := undef) hu hx' hc hf (fun h => by cases h), ?_⟩
        cases cok with
        | true =>
          have := ARel.two hv (.bool true)
          exact .tuple this.1 this.2
        | false => exact hv
  · exact (Run.fail.1 h).elim
theorem map_post {G : Nat} (hw : WRel G B ι st w) {b r κ k k2 : Nat} {es es2 es2' : Array MapEntry} (hk : ι b = some (r, κ)) (hG : G ≤ b) (e : st.get b = some (.other (.map es k))) (hl : EL ι es2.toList es2'.toList)
    (hget : ∀ x, st'.get x = if x = b then some (.other (.map es2 k2)) else st.get x) (hn : st'.next = st.next) : Post G B ι st w st' ι (setBlk w r (.map es2' k2)) :=
  Post.turn hw hk hG e hget hn (.map hl.entries)
theorem mapUpdate_does (ok : E.Ok P) (hw : WRel E.G B ι st w) {t : TypeId} {m m' k k' v v' : Value} {u : Unit} (hm : VRel ι m m') (hk : VRel ι k k') (hv : VRel ι v v') (h : Run (aMapUpdate E t m k v) st u st') :
    ∃ w', (Instr.mapUpdate t m' k' v').run P w = .ok () w' ∧ Post E.G B ι st w st' ι w' := by
  unfold aMapUpdate at h
  replace h := Run.bindOpt h; obtain ⟨ti, et, h⟩ := h
  have hu := run_underlying_tab ok et w
  split at h
  · rename_i kt vt r hd
    replace h := Run.bindMap h; obtain ⟨p, ep, h⟩ := h
    replace h := Run.bindGuard h; obtain ⟨hg, h⟩ := h
    simp only [Bool.and_eq_true, decide_eq_true_eq] at hg
    replace h := Run.bind.1 h; obtain ⟨q, st1, h1, h⟩ := h
    obtain ⟨r', rfl, hr⟩ := map_inv hm
    obtain ⟨κ, es', hκ, hh, hl⟩ := hw.map hr ep
    obtain ⟨rfl, q', hf, hfr⟩ := find_run (P := P) ok hw hk hl hg.1 h1
    have hc := keyOk_run (P := P) (w := w) (ι := ι) ok false 8 10000 kt k k' (by omega) hk hg.1
    cases q with
    | none =>
      cases q' with
      | some q => exact hfr.elim
      | none =>
        obtain ⟨hn, hget⟩ := Run.put h
        refine ⟨setBlk w r' (.map (es'.push { key := k', val := v', born := p.2 }) (p.2 + 1)), ?_, map_post hw hκ hg.2 ep ?_ hget hn⟩
        · simp only [Instr.mapUpdate, Sem.run_bind, hu, Result.andThen_ok, hd, MapKept.run_getObj_map hh, hc, hf, MapKept.run_setObj_map _ hh]
          rfl
        · simp only [Array.toList_push]
          exact hl.append (.cons ⟨hk, hv, rfl⟩ .nil)
    | some q =>
      obtain ⟨i, v0⟩ := q
      cases q' with
      | none => exact hfr.elim
      | some q' =>
        obtain ⟨j, v0'⟩ := q'
        obtain ⟨rfl, hv0⟩ := hfr
        replace h := Run.bindGuard h; obtain ⟨hg2, h⟩ := h
        obtain ⟨hn, hget⟩ := Run.put h
        have hbits : Instr.sameBits 10000 (((es'[j]?).map (·.key)).getD k') k' = true := by
          have hold : VRel ι (((p.1[j]?).map (·.key)).getD k) (((es'[j]?).map (·.key)).getD k') := by
            rcases Nat.lt_or_ge j p.1.size with hj | hj
            · have hent := hl.get.2 j (by simpa using hj)
              have hj' : j < es'.size := by have := hl.get.1; simp at this; omega
              have e1 : p.1[j]? = some p.1[j] := Array.getElem?_eq_getElem hj
              have e2 : es'[j]? = some es'[j] := Array.getElem?_eq_getElem hj'
              simp only [List.getD_eq_getElem?_getD, Array.getElem?_toList, e1, e2, Option.getD_some] at hent
              rw [e1, e2]
              exact hent.key
            · have := hl.get.1
              simp at this
              rw [Array.getElem?_eq_none hj, Array.getElem?_eq_none (by omega)]
              exact hk
          rw [Bool.or_eq_true] at hg2
          rcases hg2 with hg2 | hg2
          · simp only [Bool.and_eq_true] at hg2
            obtain ⟨⟨p1, p2⟩, p3⟩ := hg2
            have ek := plainV_eq 6 _ _ p2 hk
            have eo := plainV_eq 6 _ _ p1 hold
            rw [eo, ek]
            exact p3
          · exact sameS_bits ok 6 10000 _ _ _ _ (by omega) hg2 hold hk
        have hst : ∀ w, (Instr.keyThatStays (((es'[j]?).map (·.key)).getD k') k').run P w = .ok k' w := by
          intro w
          simp only [Instr.keyThatStays, hbits, if_true, Sem.run_pure]
        refine ⟨setBlk w r' (.map (es'.modify j fun e => { e with key := k', val := v' }) p.2), ?_, map_post hw hκ hg.2 ep ?_ hget hn⟩
        · simp only [Instr.mapUpdate, Sem.run_bind, hu, Result.andThen_ok, hd, MapKept.run_getObj_map hh, hc, hf, hst, MapKept.run_setObj_map _ hh]
          rfl
        · simp only [Array.toList_modify]
          exact hl.modify j fun e e' he => ⟨hk, hv, he.born⟩
  · exact (Run.fail.1 h).elim
theorem delete_does (ok : E.Ok P) (hw : WRel E.G B ι st w) {t ty : TypeId} {tys : Array TypeId} {args' : Array Value} {m m' k k' v : Value} (e1 : tys[0]? = some t) (e2 : args'[0]? = some m') (e3 : args'[1]? = some k') (hm : VRel ι m m') (hk : VRel ι k k') (h : Run (aDelete E t m k) st v st') :
    v = .tuple #[] ∧ ∃ w', (Builtin.delete_ tys ty args').run P w = .ok (.tuple #[]) w' ∧ Post E.G B ι st w st' ι w' := by
  unfold aDelete at h
  replace h := Run.bindOpt h; obtain ⟨ti, et, h⟩ := h
  have hu := run_underlying_tab ok et w
  split at h
  · rename_i kt vt hd
    replace h := Run.bindGuard h; obtain ⟨hg, h⟩ := h
    obtain ⟨rfl, rfl⟩ := Run.pure.1 h
    cases hm
    have hc := keyOk_run (P := P) (w := w) (ι := ι) ok true 8 10000 kt k k' (by omega) hk hg
    refine ⟨rfl, w, ?_, Post.refl hw⟩
    simp only [Builtin.delete_, e1, e2, e3, Sem.run_bind, hu, Result.andThen_ok, hd, hc, Sem.run_pure]
  · rename_i kt vt r hd
    replace h := Run.bindMap h; obtain ⟨p, ep, h⟩ := h
    replace h := Run.bindGuard h; obtain ⟨hg, h⟩ := h
    simp only [Bool.and_eq_true, decide_eq_true_eq] at hg
    replace h := Run.bind.1 h; obtain ⟨q, st1, h1, h⟩ := h
    obtain ⟨r', rfl, hr⟩ := map_inv hm
    obtain ⟨κ, es', hκ, hh, hl⟩ := hw.map hr ep
    obtain ⟨rfl, q', hf, hfr⟩ := find_run (P := P) ok hw hk hl hg.1 h1
    have hc := keyOk_run (P := P) (w := w) (ι := ι) ok es'.isEmpty 8 10000 kt k k' (by omega) hk hg.1
    cases q with
    | none =>
      cases q' with
      | some q => exact hfr.elim
      | none =>
        replace h := Run.bind.1 h; obtain ⟨u, st2, h2, h⟩ := h
        obtain ⟨rfl, rfl⟩ := Run.pure.1 h
        obtain ⟨hn, hget⟩ := Run.put h2
        refine ⟨rfl, setBlk w r' (.map es' p.2), ?_, map_post hw hκ hg.2 ep hl hget hn⟩
        simp only [Builtin.delete_, e1, e2, e3, Sem.run_bind, hu, Result.andThen_ok, hd, MapKept.run_getObj_map hh, hc, hf, MapKept.run_setObj_map _ hh, Sem.run_pure]
        rfl
    | some q =>
      obtain ⟨i, v0⟩ := q
      cases q' with
      | none => exact hfr.elim
      | some q' =>
        obtain ⟨j, v0'⟩ := q'
        obtain ⟨rfl, hv0⟩ := hfr
        replace h := Run.bind.1 h; obtain ⟨u, st2, h2, h⟩ := h
        obtain ⟨rfl, rfl⟩ := Run.pure.1 h
        obtain ⟨hn, hget⟩ := Run.put h2
        refine ⟨rfl, setBlk w r' (.map (es'.eraseIdxIfInBounds j) p.2), ?_, map_post hw hκ hg.2 ep ?_ hget hn⟩
        · simp only [Builtin.delete_, e1, e2, e3, Sem.run_bind, hu, Result.andThen_ok, hd, MapKept.run_getObj_map hh, hc, hf, MapKept.run_setObj_map _ hh, Sem.run_pure]
          rfl
        · have : (es'.eraseIdxIfInBounds j).toList = es'.toList.eraseIdx j := by
            unfold Array.eraseIdxIfInBounds
            split
            · simp
            · rename_i hj; rw [List.eraseIdx_of_length_le (by simpa using hj)]
          rw [this]
          exact hl.erase j
  · exact (Run.fail.1 h).elim
end
end Go.Proofs.YtmmfpkkkpeapeaaGreatDoor.Ev
