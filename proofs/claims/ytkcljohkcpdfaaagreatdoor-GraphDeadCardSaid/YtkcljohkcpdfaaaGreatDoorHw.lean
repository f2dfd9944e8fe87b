/- slices' Equal, Index, Contains, Clone, where the law comes to them: walked. -/
import Derived.Test.YtkcljohkcpdfaaaGreatDoorProg
import Derived.Test.YtkcljohkcpdfaaaGreatDoorHm
import Derived.Lib.Hide
import Derived.OwnWalk
import Derived.LoopTactic
import Derived.RegionTactic
import Derived.ChangeAlike
import Derived.Deep.RegionWith
import Derived.Deep.CutRange
import Derived.ProofKit
import Derived.Laws.BitsLemmas
import Derived.Outline
import Derived.Deep.QuietTactic
import Derived.BigQuiet
import Derived.Deep.RegionHeld3
import Derived.Deep.DrawnRows
import Derived.Deep.RegionLaw
import Derived.ArgAppend
set_option linter.unusedVariables false
set_option linter.unusedSimpArgs false
namespace Go.Proofs.YtkcljohkcpdfaaaGreatDoor.gr
open Go.RowKit Go.Maps mem
attribute [local go_sem ↓] Go.wp_at_zero Go.wp_at_succ
set_option maxRecDepth 100000
set_option maxHeartbeats 1000000
/-- Equal of two slices that read alike. -/
theorem equal_x (va vb : Value) (l : List Int) (w : World) (ha : IntsAt w va l) (hb : IntsAt w vb l) (hn : l.length ≤ 1000) :
    Calls Tryz.prog 9 #[va, vb] w fun e w' => e = .returned (.bool true) ∧ Up w w' := by
  obtain ⟨a, ca, rfl, ha⟩ := ha
  obtain ⟨b, cb, rfl, hb⟩ := hb
  have HA := Lib.hid ha
  have HB := Lib.hid hb
  clear ha hb
  go_enter Tryz.func9, Tryz.ntmps9
  go_wp2_with fail
  go_loopw [13] (fun i wr => ∃ t : Nat, t ≤ l.length ∧ i = .int .i64 t ∧ Up w wr) (fun i _ => l.length - (intOf i).toNat)
  case atStart => exact ⟨0, by omega, rfl, Up.refl _⟩
  case round =>
    obtain ⟨t, ht, rfl, hU⟩ := hrel
    by_cases hlt : t < l.length
    · obtain ⟨ba, oa, rfl, h1, h2⟩ := HA.out.resolve_left (by omega)
      obtain ⟨bb, ob, rfl, h3, h4⟩ := HB.out.resolve_left (by omega)
      obtain ⟨x, hx⟩ : ∃ x, l[t]? = some x := ⟨_, List.getElem?_eq_getElem hlt⟩
      have c1 := up_cell hU (h2 t x hx)
      have c2 := up_cell hU (h4 t x hx)
      have it0 : (t : Int) < (l.length : Int) := by omega
      have z : (x != x) = false := by simp
      clear h2 h4 hx
      go_upto_region 6 with (fail)
      go_quiet (fail)
      go_wp2_with fail
      go_roundw
      case rel => exact ⟨t + 1, by omega, by go_num, ⟨hU.os, hU.tape, hU.output, hU.size, hU.block⟩⟩
      case measure => simp [intOf]; omega
    · have hte : t = l.length := by omega
      subst hte
      go_wp2_with fail
      go_ret
      exact ⟨rfl, hU⟩
/-- Index of what is there. -/
theorem index_x (va : Value) (l : List Int) (v : Int) (w : World) (ha : IntsAt w va l) (hv : v ∈ l) (hn : l.length ≤ 1000) :
    Calls Tryz.prog 17 #[va, .int .i64 v] w fun e w' => ∃ k : Nat, e = .returned (.int .i64 (k : Int)) ∧ Up w w' := by
  obtain ⟨a, ca, rfl, ha⟩ := ha
  have HA := Lib.hid ha
  have HV := Lib.hid hv
  clear ha hv
  go_enter Tryz.func17, Tryz.ntmps17
  go_wp2_with fail
  go_loopw [8] (fun i wr => ∃ t : Nat, t ≤ l.length ∧ i = .int .i64 t ∧ Up w wr ∧ ∀ x ∈ l.take t, x ≠ v) (fun i _ => l.length - (intOf i).toNat)
  case atStart => exact ⟨0, by omega, rfl, Up.refl _, by simp⟩
  case round =>
    obtain ⟨t, ht, rfl, hU, hA⟩ := hrel
    by_cases hlt : t < l.length
    · obtain ⟨ba, oa, rfl, h1, h2⟩ := HA.out.resolve_left (by omega)
      obtain ⟨x, hx⟩ : ∃ x, l[t]? = some x := ⟨_, List.getElem?_eq_getElem hlt⟩
      have c1 := up_cell hU (h2 t x hx)
      have it0 : (t : Int) < (l.length : Int) := by omega
      have HX := Lib.hid (And.intro hx hA)
      clear h2 hx hA
      by_cases e : v = x
      · have z : (v == x) = true := by simpa using e
        clear e
        go_wp2_with fail
        go_ret
        exact ⟨t, rfl, hU⟩
      · have z : (v == x) = false := by simpa using e
        have HE := Lib.hid e
        clear e
        go_wp2_with fail
        go_roundw
        case rel =>
          refine ⟨t + 1, by omega, by go_num, hU, fun y hy => ?_⟩
          rw [List.take_add_one, HX.out.1] at hy
          rcases List.mem_append.1 hy with h8 | h8
          · exact HX.out.2 y h8
          · have e9 : y = x := by simpa using h8
            rw [e9]
            exact fun e => HE.out e.symm
        case measure => simp [intOf]; omega
    · have hte : t = l.length := by omega
      subst hte
      rw [List.take_length] at hA
      exact absurd rfl (hA v HV.out)
theorem contains_x (va : Value) (l : List Int) (v : Int) (w : World) (ha : IntsAt w va l) (hv : v ∈ l) (hn : l.length ≤ 1000) :
    Calls Tryz.prog 10 #[va, .int .i64 v] w fun e w' => e = .returned (.bool true) ∧ Up w w' := by
  have IX := Lib.hid (index_x va l v w ha hv hn)
  clear ha hv
  go_enter Tryz.func10, Tryz.ntmps10
  go_wp2_with (go_at_call 17; refine IX.out.mono ?_; rintro e w2 ⟨k, rfl, hU2⟩; have z : decide (0 ≤ (k : Int)) = true := decide_eq_true (by omega); have z2 : (0 : Int) ≤ (k : Int) := by omega)
  go_ret
  exact ⟨rfl, hU2⟩
section
variable {P : Program} {ops : Array Oper} {rest : List Oper} {o : Oper} {a : Act} {w : World} {Q : Exit → Act → World → Prop}
/-- An append, whatever is known of its run. -/
theorem wpl_append (hgd : o.guard = none) (s x : Operand) (t : TypeId) (ho : o.op = .call { callee := .builtin .append, args := #[s, x], argTypes := #[t, t] }) (vs vx : Value) (hs : a.eval s = vs) (hx : a.eval x = vx) (Pv : Value → World → Prop)
    (hr : ∃ v' w', (Builtin.append_ #[t, t] o.type #[vs, vx]).run P w = .ok v' w' ∧ Pv v' w') (h : ∀ v' w', Pv v' w' → wpList P ops Q rest (a.put o.dst v') w') : wpList P ops Q (o :: rest) a w :=
  wpList_plain hgd fun _ hK => by
    obtain ⟨v', w', hr, hp⟩ := hr
    unfold Oper.wp execOp
    simp only [ho, resolve, invoke, builtin, Sem.run_bind, Sem.run_pure, Result.andThen_ok, List.map_toArray, List.map_cons, List.map_nil, hs, hx, hr]
    exact hK _ _ (h v' w' hp)
end
theorem infoM : (Tryz.prog.info? 31).map (fun i => (i.zero, i.size, i.bytes)) = some (some (.agg #[.int .i64 0, .int .i64 0, .bool false]), 3, 24) := by kernel_rfl
theorem up_grown {w w' : World} (h : w.grownBy w' none) : Up w w' := by
  obtain ⟨a, b, c, d, e⟩ := h
  exact ⟨a, b, c, d, fun k hk => e k hk (by simp)⟩
/-- append(S{}, s...) -/
theorem run_clone (w : World) (ty : TypeId) (h : Nat) (b off cap : Nat) (L : List Mb) (hb : ∀ i x, L[i]? = some x → MbAt w b (off + i * 3) x) (h0 : 0 < L.length) (hn : L.length ≤ 100) :
    ∃ v' w', (Builtin.append_ #[26, 26] ty #[.slice (some ⟨h, 0, none⟩) 0 0, .slice (some ⟨b, off, none⟩) L.length cap]).run Tryz.prog w = .ok v' w' ∧ w'.ownsRow w.heap.size 31 3 v' L.length (L.flatMap cellsM) ∧ Up w w' := by
  obtain ⟨iM, hi, hz0, hz1, hz2⟩ := info_of infoM
  have len : (L.flatMap cellsM).length = L.length * 3 := by
    clear hb h0 hn
    induction L with
    | nil => rfl
    | cons m L ih => rw [List.flatMap_cons, List.length_append, ih, List.length_cons, show (cellsM m).length = 3 from rfl]; omega
  obtain ⟨v', w', hr, ho, hg⟩ := run_append_arg_grows (P := Tryz.prog) w 26 ty 31 iM _ 3 24 Tryz.underlying26 hi hz0 hz1 hz2 rfl (by decide) ⟨h, 0, none⟩ 0 0 [] rfl (fun j u hu => by cases hu)
    ⟨b, off, none⟩ L.length cap (L.flatMap cellsM) len
    (fun j u hu => by
      have hj : j < L.length * 3 := by rw [← len]; exact (List.getElem?_eq_some_iff.1 hu).1
      obtain ⟨x, hx⟩ : ∃ x, L[j / 3]? = some x := ⟨_, List.getElem?_eq_getElem (by omega)⟩
      have hu2 : (cellsM x)[j % 3]? = some u := by
        rw [← flat3_get L (j / 3) (j % 3) x hx (by omega), show j / 3 * 3 + j % 3 = j by omega]
        exact hu
      have hadd : (⟨b, off, none⟩ : Addr).add j = ⟨b, off + j, none⟩ := by unfold Addr.add; split <;> simp_all
      rw [hadd]
      obtain ⟨m0, m1, m2⟩ := hb (j / 3) x hx
      have h3 : j % 3 = 0 ∨ j % 3 = 1 ∨ j % 3 = 2 := by omega
      rcases h3 with e | e | e
      · rw [e] at hu2; cases hu2; rw [show off + j = off + j / 3 * 3 by omega]; exact m0
      · rw [e] at hu2; cases hu2; rw [show off + j = off + j / 3 * 3 + 1 by omega]; exact m1
      · rw [e] at hu2; cases hu2; rw [show off + j = off + j / 3 * 3 + 2 by omega]; exact m2)
    (by omega) (by unfold maxLen; omega) (by omega)
  rw [Nat.zero_add] at ho
  exact ⟨v', w', hr, ho, up_grown hg⟩
theorem clone_x (va : Value) (L : List Mb) (w : World) (ha : MsAt w va L) (hnil : L.length = 0 → va = .slice none 0 0) (hn : L.length ≤ 100) :
    Calls Tryz.prog 7 #[va] w fun e w' => ∃ v, e = .returned v ∧ w'.ownsRow w.heap.size 31 3 v L.length (L.flatMap cellsM) ∧ Up w w' := by
  by_cases h0 : L.length = 0
  · obtain rfl := hnil h0
    have hL : L = [] := List.length_eq_zero_iff.1 h0
    subst hL
    have E1 : ∀ W, (binOp .eql 26 (.slice none 0 0) (.slice none 0 0)).run Tryz.prog W = .ok (.bool true) W := fun W => by kernel_rfl
    go_enter Tryz.func7, Tryz.ntmps7
    go_wp2_with fail
    go_ret
    exact ⟨_, rfl, World.ownsRow_nil _ _ _ _, Up.refl _⟩
  · obtain ⟨a, ca, rfl, ha⟩ := ha
    obtain ⟨b, off, rfl, hlt, hb⟩ := ha.resolve_left h0
    have HB : Hid (∀ wx, Up w wx → ∀ i x, L[i]? = some x → MbAt wx b (off + i * 3) x) := fun wx u i x hx => (hb i x hx).up u
    clear hb
    have E1 : ∀ W, (binOp .eql 26 (.slice (some ⟨b, off, none⟩) L.length ca) (.slice none 0 0)).run Tryz.prog W = .ok (.bool false) W := fun W => by kernel_rfl
    go_enter Tryz.func7, Tryz.ntmps7
    go_wp2_with (at_builtin; go_loud (refine wpl_append rfl (.tmp 5) (.tmp 6) 26 rfl _ _ rfl rfl (fun v' w' => w'.ownsRow (w.heap.size + 1) 31 3 v' L.length (L.flatMap cellsM) ∧ Up w w') ?hr ?_; (case hr => (obtain ⟨v', w', h1, h2, h3⟩ := run_clone _ _ w.heap.size b off ca L (HB.out _ ((Up.refl w).alloc _)) (by omega) hn; rw [World.size_alloc] at h2; exact ⟨v', w', h1, h2, Up.trans ((Up.refl w).alloc _) h3⟩)); intro v' w' hv'))
    go_ret
    refine ⟨_, rfl, ?_, hv'.2⟩
    obtain ⟨e1, e2⟩ := hv'.1
    refine ⟨e1, e2.imp id ?_⟩
    rintro ⟨g, cap, cur, q1, q2, q3⟩
    exact ⟨g, cap, cur, q1, by omega, q3⟩
end Go.Proofs.YtkcljohkcpdfaaaGreatDoor.gr
