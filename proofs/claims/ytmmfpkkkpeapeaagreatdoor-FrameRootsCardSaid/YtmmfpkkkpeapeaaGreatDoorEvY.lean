/- Laid variables: what a datum tells of the cells that read as it. No condition. -/
import Derived.Test.YtmmfpkkkpeapeaaGreatDoorEvX
import GoSem.ClaimJoined
import Derived.WideShapes
set_option linter.unusedSectionVars false
set_option linter.unusedVariables false
set_option linter.unusedSimpArgs false
namespace Go.Proofs.YtmmfpkkkpeapeaaGreatDoor.Ev
open Go Go.RowKit Go.WideShapes
variable [Sym]

/-- What is known of a cell: its value; that it is a map with these entries; nothing. -/
inductive AC where
  | val (v : Value)
  | tab (l : List (Value × Value))
  | top
def litV : Lit → Option Value
  | .bool b => some (.bool b)
  | .int k n => some (.int k n)
  | .string bs => some (.string ⟨bs.toArray⟩)
  | _ => none
def scalarD : DataW Unit → Option Value
  | .lit l => litV l
  | _ => none
inductive ACR (w : World) (ps : List MemPlace) : AC → Value → Prop
  | val (v : Value) : ACR w ps (.val v) v
  | tab {l : List (Value × Value)} {b k : Nat} {es : Array MapEntry} (hh : w.heap[b]? = some (.map es k)) (hp : MemPlace.map b ∈ ps) (h1 : ∀ e ∈ es.toList, ∃ p ∈ l, e.key = p.1 ∧ e.val = p.2) (h2 : ∀ p ∈ l, ∃ e ∈ es.toList, e.key = p.1) : ACR w ps (.tab l) (.map (some b))
  | top (v : Value) : ACR w ps .top v
inductive ACL (w : World) (ps : List MemPlace) : List AC → List Value → Prop
  | nil : ACL w ps [] []
  | cons {a : AC} {v : Value} {l : List AC} {vs : List Value} (h : ACR w ps a v) (t : ACL w ps l vs) : ACL w ps (a :: l) (v :: vs)
theorem ACR.mono {w : World} {ps qs : List MemPlace} (h : ∀ x ∈ ps, x ∈ qs) {a : AC} {v : Value} (k : ACR w ps a v) : ACR w qs a v := by
  cases k with
  | val v => exact .val v
  | tab hh hp h1 h2 => exact .tab hh (h _ hp) h1 h2
  | top v => exact .top v
theorem ACL.mono {w : World} {ps qs : List MemPlace} (h : ∀ x ∈ ps, x ∈ qs) {a : List AC} {v : List Value} (k : ACL w ps a v) : ACL w qs a v := by
  induction k with
  | nil => exact .nil
  | cons h' _ ih => exact .cons (h'.mono h) ih
theorem ACL.append {w : World} {ps : List MemPlace} {a b : List AC} {v u : List Value} (h : ACL w ps a v) (k : ACL w ps b u) : ACL w ps (a ++ b) (v ++ u) := by
  induction h with
  | nil => exact k
  | cons h _ ih => exact .cons h ih
theorem ACL.tops {w : World} {ps : List MemPlace} : ∀ vs : List Value, ACL w ps (List.replicate vs.length .top) vs
  | [] => .nil
  | v :: vs => .cons (.top v) (ACL.tops vs)
theorem ACL.length {w : World} {ps : List MemPlace} {a : List AC} {v : List Value} (h : ACL w ps a v) : a.length = v.length := by
  induction h with
  | nil => rfl
  | cons _ _ ih => simp [ih]
def scalarT (P : Program) (t : TypeId) : Bool :=
  match P.underlying t with
  | some .bool => true
  | some (.int _) => true
  | some .string => true
  | _ => false
/-- The cells that read as a datum of a type, as far as it tells. -/
def absD (P : Program) : Nat → TypeId → DataW Unit → Option (List AC)
  | 0, _, _ => none
  | f + 1, t, d =>
    match P.underlying t, d with
    | some .bool, .lit (.bool b) => some [.val (.bool b)]
    | some (.int k), .lit (.int k' n) => if k' = k then some [.val (.int k n)] else none
    | some .string, .lit (.string bs) => some [.val (.string ⟨bs.toArray⟩)]
    | some (.map kt et), .map es => if !(scalarT P kt && scalarT P et) then none else (es.mapM fun e => (litV e.1).bind fun k => (scalarD e.2).map fun v => (k, v)).map fun l => [.tab l]
    | some (.array n e), .agg ds =>
      if ds.length = n ∧ P.cellsOf t = n * P.cellsOf e then (ds.mapM (absD P f e)).bind fun ls => if ls.all (fun l => l.length == P.cellsOf e) then some ls.flatten else none
      else none
    | some (.struct fs), .agg ds =>
      if ds.length = fs.size ∧ P.cellsOf t = (fs.toList.map fun g => P.cellsOf g.type).sum ∧ (List.range fs.size).all (fun i => (fs.toList.map (·.offset))[i]? == some ((fs.toList.take i).map fun g => P.cellsOf g.type).sum) then
        ((fs.toList.zip ds).mapM fun x => absD P f x.1.type x.2).bind fun ls => if (fs.toList.zip ls).all (fun x => x.2.length == P.cellsOf x.1.type) then some ls.flatten else none
      else none
    | _, _ => none
theorem mapM_some {α β : Type} (f : α → Option β) : ∀ (l : List α) (r : List β), l.mapM f = some r → r.length = l.length ∧ ∀ (i : Nat) (x : α), l[i]? = some x → ∃ y, r[i]? = some y ∧ f x = some y
  | [], r, h => by simp at h; subst h; exact ⟨rfl, fun i x e => by simp at e⟩
  | a :: l, r, h => by
    rw [List.mapM_cons] at h
    cases ha : f a with
    | none => rw [ha] at h; simp at h
    | some b =>
      cases hl : l.mapM f with
      | none => rw [ha, hl] at h; simp at h
      | some bs =>
        rw [ha, hl] at h
        simp at h
        subst h
        obtain ⟨h1, h2⟩ := mapM_some f l bs hl
        refine ⟨by simp [h1], fun i x e => ?_⟩
        cases i with
        | zero => simp at e; subst e; exact ⟨b, rfl, ha⟩
        | succ i => simpa using h2 i x (by simpa using e)
theorem chunks {w : World} {p : List MemPlace} {cs : List Value} : ∀ (ls : List (List AC)) (sz : List Nat) (off : Nat), sz.length = ls.length →
    (∀ (i : Nat) (l : List AC) (s : Nat), ls[i]? = some l → sz[i]? = some s → ACL w p l ((cs.drop (off + (sz.take i).sum)).take s)) → ACL w p ls.flatten ((cs.drop off).take sz.sum)
  | [], sz, off, hl, h => by
    have : sz = [] := List.eq_nil_of_length_eq_zero (by simpa using hl)
    subst this
    simpa using ACL.nil
  | l :: ls, [], off, hl, h => by simp at hl
  | l :: ls, s :: sz, off, hl, h => by
    have h0 := h 0 l s rfl rfl
    have ht := chunks ls sz (off + s) (by simpa using hl) fun i l' s' e1 e2 => by
      have := h (i + 1) l' s' (by simpa using e1) (by simpa using e2)
      simpa [List.take_succ_cons, List.sum_cons, Nat.add_assoc] using this
    simp only [List.take_zero, List.sum_nil, Nat.add_zero] at h0
    have e : (cs.drop off).take (s :: sz).sum = (cs.drop off).take s ++ (cs.drop (off + s)).take sz.sum := by
      rw [List.sum_cons, List.take_add, List.drop_drop]
    rw [e, List.flatten_cons]
    exact h0.append ht
theorem litV_of {P : Program} {k : TypeId} {v x : Value} {l : Lit} (hs : scalarT P k = true) (h : keyOf P k v = some l) (e : litV l = some x) : x = v := by
  unfold scalarT at hs
  unfold keyOf mapKey at h
  split at hs
  · rename_i hu
    rw [hu] at h
    cases v <;> simp at h
    subst h; cases e; rfl
  · rename_i q hu
    rw [hu] at h
    cases v <;> simp at h
    obtain ⟨⟨rfl, _⟩, rfl⟩ := h
    cases e; rfl
  · rename_i hu
    rw [hu] at h
    cases v <;> simp at h
    obtain ⟨_, rfl⟩ := h
    cases e
    rfl
  · cases hs
theorem val_of {P : Program} {w : World} {sp : Nat → Bool} {e : TypeId} {x v : Value} {d : DataW Unit} {p : List MemPlace} {fuel : Nat} (hs : scalarT P e = true) (hf : x.formed P e = true) (h : DataW.trod (fun _ => ()) P w 0 sp false fuel e x.cells.toList = some (d, p)) (hv : scalarD d = some v) : v = x := by
  unfold scalarT at hs
  cases fuel with
  | zero => simp [DataW.trod] at h
  | succ fuel =>
    split at hs
    · rename_i hu
      cases x <;> simp [Value.formed, hu] at hf <;> simp [Value.cells, DataW.trod, hu] at h
      obtain ⟨rfl, rfl⟩ := h
      cases hv; rfl
    · rename_i q hu
      cases x <;> simp [Value.formed, hu] at hf <;> simp [Value.cells, DataW.trod, hu] at h
      obtain ⟨⟨rfl, _⟩, rfl, rfl⟩ := h
      cases hv; rfl
    · rename_i hu
      cases x <;> simp [Value.formed, hu] at hf <;> simp [Value.cells, DataW.trod, hu] at h
      obtain ⟨_, rfl, rfl⟩ := h
      cases hv; rfl
    · cases hs
theorem absD_spec {P : Program} {w : World} {sp : Nat → Bool} : ∀ (fuel : Nat) (t : TypeId) (cs : List Value) (d : DataW Unit) (p : List MemPlace) (f : Nat) (acs : List AC),
    DataW.trod (fun _ => ()) P w 0 sp false fuel t cs = some (d, p) → absD P f t d = some acs → ACL w p acs cs := by
  intro fuel
  induction fuel with
  | zero => intro t cs d p f acs h; simp [DataW.trod] at h
  | succ fuel ih =>
    intro t cs d p f acs h h2
    cases f with
    | zero => simp [absD] at h2
    | succ f =>
      unfold absD at h2
      split at h2
      · rename_i b hu
        cases h2
        rcases cs with _ | ⟨v, _ | ⟨v2, l⟩⟩ <;> (try cases v) <;> simp [DataW.trod, hu] at h
        obtain ⟨rfl, rfl⟩ := h
        exact .cons (.val _) .nil
      · rename_i k k' n hu
        split at h2
        · cases h2
          rcases cs with _ | ⟨v, _ | ⟨v2, l⟩⟩ <;> (try cases v) <;> simp [DataW.trod, hu] at h
          obtain ⟨⟨rfl, _⟩, ⟨_, rfl⟩, rfl⟩ := h
          exact .cons (.val _) .nil
        · cases h2
      · rename_i bs hu
        cases h2
        rcases cs with _ | ⟨v, _ | ⟨v2, l⟩⟩ <;> (try cases v) <;> simp [DataW.trod, hu] at h
        obtain ⟨_, rfl, rfl⟩ := h
        exact .cons (.val _) .nil
      · rename_i kt et es hu
        split at h2
        · cases h2
        · rename_i hsc
          simp only [Bool.not_eq_true', Bool.not_eq_false, Bool.and_eq_true] at hsc
          obtain ⟨l, hl, h2⟩ := Option.map_eq_some_iff.1 h2
          subst h2
          rcases cs with _ | ⟨v, _ | ⟨v2, cs⟩⟩
          · simp [DataW.trod, hu] at h
          · cases v with
            | map b =>
              cases b with
              | none => simp [DataW.trod, hu] at h
              | some b =>
                simp only [DataW.trod, hu] at h
                split at h
                · rename_i res clock hh
                  split at h
                  · obtain ⟨entries, hen, h⟩ := Option.bind_eq_some_iff.1 h
                    split at h
                    · simp only [Option.some.injEq, Prod.mk.injEq, DataW.map.injEq] at h
                      obtain ⟨rfl, rfl⟩ := h
                      obtain ⟨m1, m2⟩ := mapM_some _ _ _ hen
                      obtain ⟨m3, m4⟩ := mapM_some _ _ _ hl
                      have real : ∀ x : MapEntry, ∀ y, ((keyOf P kt x.key).bind fun key => if x.val.formed P et then (DataW.trod (fun _ => ()) P w 0 sp false fuel et x.val.cells.toList).map fun y => ((key, y.1), y.2) else none) = some y →
                          ∀ p : Value × Value, ((litV y.1.1).bind fun k => (scalarD y.1.2).map fun v => (k, v)) = some p → x.key = p.1 ∧ x.val = p.2 := by
                        intro x y hy p hp
                        obtain ⟨key, hk, hy⟩ := Option.bind_eq_some_iff.1 hy
                        split at hy
                        · rename_i hform
                          obtain ⟨z, hz, rfl⟩ := Option.map_eq_some_iff.1 hy
                          obtain ⟨kv, hkv, hp⟩ := Option.bind_eq_some_iff.1 hp
                          obtain ⟨vv, hvv, rfl⟩ := Option.map_eq_some_iff.1 hp
                          exact ⟨(litV_of hsc.1 hk hkv).symm, (val_of (p := z.2) hsc.2 hform hz hvv).symm⟩
                        · cases hy
                      have perm := sorted_perm (entries.map (·.1))
                      refine .cons (.tab hh (by simp) (fun x hx => ?_) (fun p hp => ?_)) .nil
                      · obtain ⟨i, hi, rfl⟩ := List.getElem_of_mem hx
                        obtain ⟨y, hy1, hy2⟩ := m2 i _ (List.getElem?_eq_getElem hi)
                        have hmem : y.1 ∈ (entries.map (·.1)).foldr DataW.insert [] := perm.mem_iff.2 (List.mem_map.2 ⟨y, List.mem_of_getElem? hy1, rfl⟩)
                        obtain ⟨j, hj, ej⟩ := List.getElem_of_mem hmem
                        obtain ⟨p, hp1, hp2⟩ := m4 j y.1 (by rw [← ej]; exact List.getElem?_eq_getElem hj)
                        exact ⟨p, List.mem_of_getElem? hp1, real _ y hy2 p hp2⟩
                      · obtain ⟨j, hj, rfl⟩ := List.getElem_of_mem hp
                        have hj2 : j < ((entries.map (·.1)).foldr DataW.insert []).length := by rw [← m3]; exact hj
                        obtain ⟨p, hp1, hp2⟩ := m4 j _ (List.getElem?_eq_getElem hj2)
                        rw [List.getElem?_eq_getElem hj] at hp1
                        cases hp1
                        have hmem := perm.mem_iff.1 (List.getElem_mem hj2)
                        obtain ⟨y, hy, ey⟩ := List.mem_map.1 hmem
                        obtain ⟨i, hi, rfl⟩ := List.getElem_of_mem hy
                        have hi2 : i < res.toList.length := by rw [← m1]; exact hi
                        obtain ⟨y2, hy1, hy2⟩ := m2 i _ (List.getElem?_eq_getElem hi2)
                        rw [List.getElem?_eq_getElem hi] at hy1
                        cases hy1
                        rw [← ey] at hp2
                        exact ⟨_, List.getElem_mem hi2, (real _ _ hy2 _ hp2).1⟩
                    · cases h
                  · cases h
                · cases h
            | _ => simp [DataW.trod, hu] at h
          · cases v <;> simp [DataW.trod, hu] at h
      · rename_i n e ds hu
        split at h2
        · rename_i g
          obtain ⟨g1, g2⟩ := g
          obtain ⟨ls, hls, h2⟩ := Option.bind_eq_some_iff.1 h2
          split at h2
          · rename_i hall
            cases h2
            simp only [DataW.trod, hu] at h
            split at h
            · rename_i hlen
              obtain ⟨xs, hxs, he⟩ := Option.map_eq_some_iff.1 h
              simp only [Prod.mk.injEq, DataW.agg.injEq] at he
              obtain ⟨rfl, rfl⟩ := he
              obtain ⟨m1, m2⟩ := mapM_some _ _ _ hls
              obtain ⟨m3, m4⟩ := mapM_some _ _ _ hxs
              have hn : xs.length = n := by simpa using m3
              have hlsn : ls.length = n := by rw [m1]; simpa using hn
              have key := chunks (w := w) (p := xs.flatMap (·.2)) (cs := cs) ls (List.replicate n (P.cellsOf e)) 0 (by simp [hlsn]) fun i l s e1 e2 => by
                have hi : i < n := by
                  have := (List.getElem?_eq_some_iff.1 e1).1
                  omega
                have es : s = P.cellsOf e := by
                  rw [List.getElem?_replicate, if_pos hi] at e2
                  exact (Option.some.inj e2).symm
                subst es
                obtain ⟨x, hx1, hx2⟩ := m4 i i (by rw [List.getElem?_range hi])
                obtain ⟨l', hl1, hl2⟩ := m2 i x.1 (by rw [List.getElem?_map, hx1]; rfl)
                rw [e1] at hl1
                cases hl1
                obtain ⟨c, hc1, hc2⟩ : ∃ c, some c = some ((cs.drop (i * P.cellsOf e)).take (P.cellsOf e)) ∧ DataW.trod (fun _ => ()) P w 0 sp false fuel e c = some x := ⟨_, rfl, hx2⟩
                cases hc1
                have := ih e _ x.1 x.2 f l hc2 hl2
                have hsum : (List.take i (List.replicate n (P.cellsOf e))).sum = i * P.cellsOf e := by
                  rw [List.take_replicate, List.sum_replicate_nat]
                  congr 1; omega
                rw [hsum, Nat.zero_add]
                exact this.mono fun y hy => List.mem_flatMap.2 ⟨x, List.mem_of_getElem? hx1, hy⟩
              rw [List.sum_replicate_nat, List.drop_zero, List.take_of_length_le (by rw [hlen, g2]; exact Nat.le_refl _)] at key
              exact key
            · cases h
          · cases h2
        · cases h2
      · rename_i fs ds hu
        split at h2
        · rename_i g
          obtain ⟨g1, g2, g3⟩ := g
          obtain ⟨ls, hls, h2⟩ := Option.bind_eq_some_iff.1 h2
          split at h2
          · rename_i hall
            cases h2
            simp only [DataW.trod, hu] at h
            split at h
            · rename_i hlen
              obtain ⟨xs, hxs, he⟩ := Option.map_eq_some_iff.1 h
              simp only [Prod.mk.injEq, DataW.agg.injEq] at he
              obtain ⟨rfl, rfl⟩ := he
              obtain ⟨m1, m2⟩ := mapM_some _ _ _ hls
              obtain ⟨m3, m4⟩ := mapM_some _ _ _ hxs
              have hn : xs.length = fs.toList.length := m3
              have hlsn : ls.length = fs.toList.length := by rw [m1, List.length_zip, List.length_map, hn]; omega
              have key := chunks (w := w) (p := xs.flatMap (·.2)) (cs := cs) ls (fs.toList.map fun g => P.cellsOf g.type) 0 (by simp [hlsn]) fun i l s e1 e2 => by
                have hi : i < fs.toList.length := by
                  have := (List.getElem?_eq_some_iff.1 e1).1
                  omega
                have efi : fs.toList[i]? = some fs.toList[i] := List.getElem?_eq_getElem hi
                rw [List.getElem?_map, efi] at e2
                have e2 : s = P.cellsOf fs.toList[i].type := (Option.some.inj e2).symm
                obtain ⟨x, hx1, hx2⟩ := m4 i _ efi
                obtain ⟨l', hl1, hl2⟩ := m2 i (fs.toList[i], x.1) (by rw [List.getElem?_zip_eq_some]; exact ⟨efi, by rw [List.getElem?_map, hx1]; rfl⟩)
                rw [e1] at hl1
                cases hl1
                have := ih _ _ x.1 x.2 f l hx2 hl2
                have hoff : (List.take i (fs.toList.map fun g => P.cellsOf g.type)).sum = fs.toList[i].offset := by
                  have := List.all_eq_true.1 g3 i (List.mem_range.2 (by simpa using hi))
                  rw [List.getElem?_map, efi] at this
                  simp only [Option.map_some, beq_iff_eq, Option.some.injEq] at this
                  rw [← List.map_take]
                  exact this.symm
                rw [hoff, Nat.zero_add, e2]
                exact this.mono fun y hy => List.mem_flatMap.2 ⟨x, List.mem_of_getElem? hx1, hy⟩
              rw [List.drop_zero, List.take_of_length_le (by rw [hlen, g2]; exact Nat.le_refl _)] at key
              exact key
            · cases h
          · cases h2
        · cases h2
      · cases h2
end Go.Proofs.YtmmfpkkkpeapeaaGreatDoor.Ev
