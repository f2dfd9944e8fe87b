/- SealBrands: what brands there are: plain laws. -/
import Derived.Test.YtmmfpkkkpeapeaaGreatDoorBd
set_option linter.unusedVariables false
namespace Go.Proofs.YtmmfpkkkpeapeaaGreatDoor.sb
open Go.RowKit Go.Maps mem rec ar
set_option maxHeartbeats 400000
theorem Room.mono {A : Ar} {k j : Nat} (h : Room A k) (hj : j ≤ k) : Room A j :=
  ⟨by have := h.sl; omega, fun s hs => by have := h.us s hs; omega, h.fr, h.nd, by have := h.fl; omega⟩
theorem Quo.mono {A : Ar} {n k j : Nat} (h : Quo A n k) (hj : j ≤ k) : Quo A n j := by
  obtain ⟨q, m, h1, h2, h3, h4, h5⟩ := h
  exact ⟨q, m, h1, h2, h3, by omega, h5⟩
/-- Whoever's object comes, an owner may have one less at most. -/
theorem Quo.less {A : Ar} {n k : Nat} (h : Quo A n (k + 1)) (o : Ob) (j : Nat) (hn : o.owner = j) : Quo (A.add o) n k := by
  by_cases e : j = n
  · subst e; exact h.add o hn
  · exact Quo.mono (h.other o hn e) (by omega)
/-- A brand of an owner: its name, its sealer's, its unsealer's. -/
structure Has (A : Ar) (n : Nat) (x : Nat × Nat × Nat) : Prop where
  hb : A.find x.1 = some (obK 2 n 0)
  hs : A.find x.2.1 = some (obK 3 n x.1)
  hu : A.find x.2.2 = some (obK 4 n x.1)
  ls : x.2.1 < 9223372036854775808
  lu : x.2.2 < 9223372036854775808
theorem Has.add {A : Ar} {n k : Nat} {x : Nat × Nat × Nat} (h : Has A n x) (hR : Room A (k + 1)) (o : Ob) : Has (A.add o) n x :=
  ⟨find_add_old hR o h.hb, find_add_old hR o h.hs, find_add_old hR o h.hu, h.ls, h.lu⟩
structure Brands (A : Ar) (ns : Nat → Nat) (l : List (Nat × Nat × Nat)) : Prop where
  hx : ∀ i x, l[i]? = some x → Has A (ns i) x
  ne : ∀ (i j : Nat) (x y : Nat × Nat × Nat), l[i]? = some x → l[j]? = some y → x.1 = y.1 → i = j
theorem Brands.nil (A : Ar) (ns : Nat → Nat) : Brands A ns [] := ⟨by simp, by simp⟩
theorem Brands.add {A : Ar} {ns : Nat → Nat} {k : Nat} {l : List (Nat × Nat × Nat)} (h : Brands A ns l) (hR : Room A (k + 1)) (o : Ob) : Brands (A.add o) ns l :=
  ⟨fun i x hi => (h.hx i x hi).add hR o, h.ne⟩
/-- The arena behind Brand. -/
def after (A : Ar) (n bm : Nat) : Ar := (rnd (A.add (obK 2 n 0)) n A.name 2).add (recOb n bm)
def triple (A : Ar) (n : Nat) : Nat × Nat × Nat := (A.name, (A.add (obK 2 n 0)).name, ((A.add (obK 2 n 0)).add (obK 3 n A.name)).name)
theorem room_after {A : Ar} {k n bm : Nat} (hR : Room A (k + 4)) : Room (after A n bm) k := (((Room.add (k := k + 3) hR _).add _).add _).add _
theorem quo_after {A : Ar} {k j n bm : Nat} (hQ : Quo A j (k + 4)) : Quo (after A n bm) j k :=
  Quo.less (Quo.less (Quo.less (Quo.less (k := k + 3) hQ _ n rfl) _ n rfl) _ n rfl) _ n rfl
theorem has_after {A : Ar} {k n bm : Nat} (hR : Room A (k + 4)) : Has (after A n bm) n (triple A n) := by
  have R1 : Room (A.add (obK 2 n 0)) (k + 3) := Room.add (k := k + 3) hR _
  have R2 : Room ((A.add (obK 2 n 0)).add (obK 3 n A.name)) (k + 2) := Room.add (k := k + 2) R1 _
  have R3 : Room (((A.add (obK 2 n 0)).add (obK 3 n A.name)).add (obK 4 n A.name)) (k + 1) := Room.add (k := k + 1) R2 _
  exact ⟨find_add_old R3 _ (find_add_old R2 _ (find_add_old R1 _ (find_add_new (k := k + 3) hR _))), find_add_old R3 _ (find_add_old R2 _ (find_add_new R1 _)), find_add_old R3 _ (find_add_new R2 _), name_lt R1, name_lt R2⟩
theorem rec_after {A : Ar} {k n bm : Nat} (hR : Room A (k + 4)) : (after A n bm).find (rnd (A.add (obK 2 n 0)) n A.name 2).name = some (recOb n bm) := by
  have R3 : Room (rnd (A.add (obK 2 n 0)) n A.name 2) (k + 1) := ((Room.add (k := k + 3) hR _).add _).add _
  exact find_add_new R3 _
theorem rec_lt {A : Ar} {k n : Nat} (hR : Room A (k + 4)) : (rnd (A.add (obK 2 n 0)) n A.name 2).name < 9223372036854775808 := by
  have R3 : Room (rnd (A.add (obK 2 n 0)) n A.name 2) (k + 1) := ((Room.add (k := k + 3) hR _).add _).add _
  exact name_lt R3
theorem Brands.next {A : Ar} {ns : Nat → Nat} {k n bm : Nat} {l : List (Nat × Nat × Nat)} (h : Brands A ns l) (hR : Room A (k + 4)) (hn : ns l.length = n) : Brands (after A n bm) ns (l ++ [triple A n]) := by
  have R1 : Room (A.add (obK 2 n 0)) (k + 3) := Room.add (k := k + 3) hR _
  have R2 : Room ((A.add (obK 2 n 0)).add (obK 3 n A.name)) (k + 2) := Room.add (k := k + 2) R1 _
  have R3 : Room (((A.add (obK 2 n 0)).add (obK 3 n A.name)).add (obK 4 n A.name)) (k + 1) := Room.add (k := k + 1) R2 _
  have H : Brands (after A n bm) ns l := (((h.add (k := k + 3) hR _).add R1 _).add R2 _).add R3 _
  have new : ∀ i x, (l ++ [triple A n])[i]? = some x → l[i]? = some x ∨ (i = l.length ∧ x = triple A n) := by
    intro i x hi
    by_cases hl : i < l.length
    · rw [List.getElem?_append_left hl] at hi; exact .inl hi
    · rw [List.getElem?_append_right (by omega)] at hi
      have hz : i - l.length < 1 := (List.getElem?_eq_some_iff.1 hi).1
      have hi0 : i = l.length := by omega
      subst hi0
      simp at hi
      exact .inr ⟨rfl, hi.symm⟩
  refine ⟨fun i x hi => ?_, fun i j x y hi hj e => ?_⟩
  · rcases new i x hi with h1 | ⟨rfl, rfl⟩
    · exact H.hx i x h1
    · rw [hn]; exact has_after hR
  · rcases new i x hi with h1 | ⟨rfl, rfl⟩ <;> rcases new j y hj with h2 | ⟨rfl, rfl⟩
    · exact H.ne i j x y h1 h2 e
    · exact absurd e (name_ne (k := k + 3) hR (h.hx i x h1).hb)
    · exact absurd e.symm (name_ne (k := k + 3) hR (h.hx j y h2).hb)
    · rfl
/-- What an unsealer of brand j gives of a box of brand k. -/
theorem opened_same {n : Nat} {b : Int} {c : V3} : opened (obK 4 n b) (boxOb n b c) = (c, 0) := by simp [opened, obK, boxOb]
theorem opened_other {n m : Nat} {b b' : Int} {c : V3} (h : b' ≠ b) : opened (obK 4 n b) (boxOb m b' c) = (zero3, 13) := by simp [opened, obK, boxOb, h]
end Go.Proofs.YtmmfpkkkpeapeaaGreatDoor.sb
