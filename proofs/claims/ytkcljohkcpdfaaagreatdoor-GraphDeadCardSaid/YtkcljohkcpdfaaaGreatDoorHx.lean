/- graph's map of pairs: an entry counted up, in either order. -/
import Derived.Test.YtkcljohkcpdfaaaGreatDoorHo
import Derived.Test.YtkcljohkcpdfaaaGreatDoorHm
import Derived.WideKeyEntry
import Derived.ChangeMaps5
set_option linter.unusedVariables false
namespace Go.Proofs.YtkcljohkcpdfaaaGreatDoor.gr
open Go.RowKit Go.Maps mem
open Go.ChangeShapes Go.WideShapes Go.MapKept Go.ChangeMaps
set_option maxRecDepth 100000
set_option maxHeartbeats 400000
theorem KL : Go.WideMaps.KeyLaw Tryz.prog 41 := deep_law_laid laidOutP (m := 3) (by omega) rowP deepP3 (by rw [Tryz.underlying41])
theorem zeroI (w : World) : (zeroValue 3).run Tryz.prog w = .ok (.int .i64 0) w := by kernel_rfl
theorem owns_at {w w' : World} {b n : Nat} {D : DataW Nat} (h : w.ownsMap Tryz.prog 41 (plainElem (H := Nat) Tryz.prog 3) b n D) (e : w'.heap[b]? = w.heap[b]?) : w'.ownsMap Tryz.prog 41 (plainElem (H := Nat) Tryz.prog 3) b n D := by
  obtain ⟨es, c, hb, F, hs, hD⟩ := h
  exact ⟨es, c, e.trans hb, F, hs, hD⟩
theorem set_blk {w : World} {b : Nat} {es : Array MapEntry} {clock : Nat} {o' : Obj} (hb : w.heap[b]? = some (.map es clock)) : Chg [b] w (setBlock w b o') :=
  ⟨rfl, rfl, rfl, by simp [setBlock], fun k hk hn => heap_setBlock_other hb _ (fun e => hn (by rw [e]; simp))⟩
theorem entry_pair {w : World} {mb n : Nat} {D : DataW Nat} (h : w.ownsMap Tryz.prog 41 (plainElem (H := Nat) Tryz.prog 3) mb n D) (hn : n < maxLen) {a b c : Int} {l : Lit} (hl : keyOf Tryz.prog 41 (pairV a b) = some l) (hc : D.atKey l (.lit (.int .i64 0)) = .lit (.int .i64 c)) :
    ∃ (v0 : Value) (st : Nat) (w1 : World), (Instr.lookup 40 (.map (some mb)) (pairV a b) false).run Tryz.prog w = .ok (.int .i64 c) w ∧ (Instr.mapEntry 40 (.map (some mb)) (pairV a b)).run Tryz.prog w = .ok (.tuple #[v0, .int .i64 (st : Int)]) w1 ∧
      (Instr.lookup 40 (.map (some mb)) (pairV a b) false).run Tryz.prog w1 = .ok (.int .i64 c) w1 ∧ Chg [mb] w w1 ∧
      ∀ d : Int, (Lit.int .i64 d).wf = true → ∃ w3, (Instr.entryStore 40 (.map (some mb)) (.int .i64 (st : Int)) (.int .i64 d)).run Tryz.prog w1 = .ok () w3 ∧ Chg [mb] w w3 ∧ w3.ownsMap Tryz.prog 41 (plainElem (H := Nat) Tryz.prog 3) mb (n + 1) (D.put l (.lit (.int .i64 d))) := by
  have ht := Tryz.underlying40
  obtain ⟨c', hrun, hat, hwc⟩ := h.lookup_int KP ht Tryz.underlying3 (zeroI w) hl
  have hcc : c' = c := by rw [hat] at hc; simpa using hc
  subst hcc
  obtain ⟨es, clock, hb, F, hs, hD⟩ := id h
  obtain ⟨v0, st, es1, clock1, H1, H2, H3⟩ := Go.WideElems.entry_then_store (w := w) (b := mb) KL ht zeroI hb F hl
  have hb1 : (setBlock w mb (.map es1 clock1)).heap[mb]? = some (.map es1 clock1) := heap_setBlock_same hb _
  refine ⟨v0, st, _, hrun, H1, ?_, set_blk hb, fun d hd => ?_⟩
  · rcases KL.find w hl es.toList F.keys with ⟨h1, h2⟩ | ⟨j, e0, h1, h2, h3⟩
    · have hE : (Instr.mapEntry 40 (.map (some mb)) (pairV a b)).run Tryz.prog w = .ok (.tuple #[.int .i64 0, goInt clock]) (setBlock w mb (.map (es.push ⟨pairV a b, .int .i64 0, clock⟩) (clock + 1))) := by
        simp [Instr.mapEntry, run_underlying ht, MapKept.run_getObj_map hb, KL.check w false hl, h1, MapKept.run_setObj_map _ hb, Result.andThen, setBlock]
      have hU : (Instr.mapUpdate 40 (.map (some mb)) (pairV a b) (.int .i64 0)).run Tryz.prog w = .ok () (setBlock w mb (.map (es.push ⟨pairV a b, .int .i64 0, clock⟩) (clock + 1))) := by
        simp [Instr.mapUpdate, run_underlying ht, MapKept.run_getObj_map hb, KL.check w false hl, h1, MapKept.run_setObj_map _ hb, Result.andThen, setBlock]
      have hL : (Instr.lookup 40 (.map (some mb)) (pairV a b) false).run Tryz.prog w = .ok (.int .i64 0) w := by
        simp [Instr.lookup, run_underlying ht, MapKept.run_getObj_map hb, KL.check w, hl, h1, Result.andThen]
      have hc0 : c' = 0 := by rw [hrun] at hL; simpa using hL
      obtain ⟨w', hu, ho, -⟩ := h.update KP ht hn hl (plainElem_int Tryz.underlying3 (a := 0) (by decide))
      have e1 : w' = setBlock w mb (.map (es.push ⟨pairV a b, .int .i64 0, clock⟩) (clock + 1)) := by rw [hU] at hu; simpa using hu.symm
      have e2 : setBlock w mb (.map es1 clock1) = setBlock w mb (.map (es.push ⟨pairV a b, .int .i64 0, clock⟩) (clock + 1)) := by
        rw [H1] at hE
        exact (Result.ok.inj hE).2
      rw [e2, ← e1]
      obtain ⟨c2, hr2, hat2, -⟩ := ho.lookup_int KP ht Tryz.underlying3 (zeroI w') hl
      have hm : IsMap D := ⟨_, hD⟩
      rw [atKey_put_same hm (KP.key hl)] at hat2
      have h20 : c2 = 0 := by simpa using hat2.symm
      rw [hr2, h20, hc0]
    · have hj : es[j]? = some e0 := by simpa using h2
      have ho : (setBlock w mb (.map es1 clock1)).ownsMap Tryz.prog 41 (plainElem (H := Nat) Tryz.prog 3) mb n D := by
        have hE : ∃ v, (Instr.mapEntry 40 (.map (some mb)) (pairV a b)).run Tryz.prog w = .ok v (setBlock w mb (.map (es.modify j (fun e => { e with key := pairV a b })) clock)) := by
          refine ⟨.tuple #[e0.val, goInt e0.born], ?_⟩
          simp [Instr.mapEntry, run_underlying ht, MapKept.run_getObj_map hb, KL.check w false hl, h1, hj, h3, KL.stays w hl, MapKept.run_setObj_map _ hb, Result.andThen, setBlock]
        obtain ⟨v, hE⟩ := hE
        have hsame : es.modify j (fun e => { e with key := pairV a b }) = es := by
          apply Array.ext'
          rw [Array.toList_modify, Go.ChangeMaps.modify_eq_set _ _ _ _ h2]
          have e5 : ({ e0 with key := pairV a b } : MapEntry) = e0 := by rw [← h3]
          rw [e5]
          exact Go.WideElems.set_self _ _ _ h2
        rw [hsame, H1] at hE
        have e2 := (Result.ok.inj hE).2
        rw [e2]
        exact owns_at h ((heap_setBlock_same hb _).trans hb.symm)
      obtain ⟨c2, hr2, hat2, -⟩ := ho.lookup_int KP ht Tryz.underlying3 (zeroI _) hl
      have h20 : c2 = c' := by rw [hat] at hat2; simpa using hat2.symm
      rw [hr2, h20]
  · obtain ⟨es', clock', r1, r2⟩ := H3 _ (.int .i64 d) hb1
    obtain ⟨w', hu, ho, -⟩ := h.update KP ht hn hl (plainElem_int Tryz.underlying3 hd)
    have e1 : w' = setBlock w mb (.map es' clock') := by rw [r2] at hu; simpa using hu.symm
    refine ⟨_, r1, (set_blk hb).trans (set_blk hb1) (fun x hx => .inl hx), owns_at ho ?_⟩
    rw [e1, heap_setBlock_same hb1, heap_setBlock_same hb]
end Go.Proofs.YtkcljohkcpdfaaaGreatDoor.gr
