/- graph.Reach: its closure by a contract of its own, by induction; the whole walked. -/
import Derived.Test.YtkcljohkcpdfaaaGreatDoorHq
set_option linter.unusedVariables false
set_option linter.unusedSimpArgs false
namespace Go.Proofs.YtkcljohkcpdfaaaGreatDoor.gr
open Go.RowKit Go.Maps mem
attribute [local go_sem ↓] Go.wp_at_zero Go.wp_at_succ
set_option maxRecDepth 100000
set_option maxHeartbeats 2000000
def walkV (b4 b8 b7 b9 : Nat) : Value := .func (.func 16) #[] #[.pointer (some ⟨b4, 0, none⟩), .pointer (some ⟨b8, 0, none⟩), .pointer (some ⟨b7, 0, none⟩), .pointer (some ⟨b9, 0, none⟩)]
structure Env (w : World) (n b4 b8 b7 b9 sb mb m : Nat) (D : DataW Nat) (L : List Mb) : Prop where
  c4 : w.cell? ⟨b4, 0, none⟩ = some (.int .i64 (n : Int))
  c8 : w.cell? ⟨b8, 0, none⟩ = some (.slice (some ⟨sb, 0, none⟩) n n)
  c7 : w.cell? ⟨b7, 0, none⟩ = some (.map (some mb))
  c9 : w.cell? ⟨b9, 0, none⟩ = some (walkV b4 b8 b7 b9)
  mp : w.ownsMap Tryz.prog 41 (plainElem (H := Nat) Tryz.prog 3) mb m D
  od : OpD D (opens L) m
  ne : b4 ≠ sb ∧ b8 ≠ sb ∧ b7 ≠ sb ∧ b9 ≠ sb ∧ mb ≠ sb
theorem Env.chg {w w' : World} {n b4 b8 b7 b9 sb mb m : Nat} {D : DataW Nat} {L : List Mb} (h : Env w n b4 b8 b7 b9 sb mb m D L) (c : Chg [sb] w w') : Env w' n b4 b8 b7 b9 sb mb m D L := by
  obtain ⟨n4, n8, n7, n9, nm⟩ := h.ne
  exact ⟨(c.cell (World.block_lt_of_cell? w _ h.c4) (by simpa using n4)).trans h.c4, (c.cell (World.block_lt_of_cell? w _ h.c8) (by simpa using n8)).trans h.c8, (c.cell (World.block_lt_of_cell? w _ h.c7) (by simpa using n7)).trans h.c7, (c.cell (World.block_lt_of_cell? w _ h.c9) (by simpa using n9)).trans h.c9, map_chg h.mp c (by simpa using nm), h.od, h.ne⟩
def WalkPost (w w' : World) (sb n v : Nat) (L : List Mb) (S : Nat → Bool) : Prop :=
  ∃ S', SeenAt w' sb n S' ∧ Chg [sb] w w' ∧ (((n ≤ v ∨ S v = true) ∧ S' = S) ∨ (v < n ∧ S v = false ∧ Grew n (adjL L) v S S'))
theorem walk_x (n b4 b8 b7 b9 sb mb m : Nat) (D : DataW Nat) (L : List Mb) (hn : n ≤ 8) : ∀ (u : Nat) (S : Nat → Bool) (v : Nat) (w : World), unseen n S ≤ u → v ≤ 100 → Env w n b4 b8 b7 b9 sb mb m D L → SeenAt w sb n S →
    Calls Tryz.prog 16 #[.int .i64 (v : Int), .pointer (some ⟨b4, 0, none⟩), .pointer (some ⟨b8, 0, none⟩), .pointer (some ⟨b7, 0, none⟩), .pointer (some ⟨b9, 0, none⟩)] w fun e w' => e = .returned (.tuple #[]) ∧ WalkPost w w' sb n v L S := by
  intro u
  induction u with
  | zero =>
    intro S v w hu hv100 hE hS
    have d4 := hE.c4
    have d8 := hE.c8
    have HE := Lib.hid (And.intro hE hS)
    have j0 : decide ((v : Int) < 0) = false := decide_eq_false (by omega)
    by_cases hv : n ≤ v
    · have j1 : decide ((n : Int) ≤ (v : Int)) = true := decide_eq_true (by omega)
      have j2 : (n : Int) ≤ (v : Int) := by omega
      clear hE hS
      go_enter Tryz.func16, Tryz.ntmps16
      go_wp2_with fail
      exact bodyPost_ret (v := .tuple #[]) (by simp [results, Tryz.results16, go_sem]) rfl ⟨rfl, S, HE.out.2, Chg.refl _ _, .inl ⟨.inl hv, rfl⟩⟩
    · have hSv : S v = true := by
        cases h : S v with
        | true => rfl
        | false =>
          have h1 := unseen_lt (S := S) (T := fun _ => true) (fun _ _ => rfl) h rfl n (by omega)
          omega
      have j1 : decide ((n : Int) ≤ (v : Int)) = false := decide_eq_false (by omega)
      have j2 : ¬ (n : Int) ≤ (v : Int) := by omega
      have j3 : (v : Int) < (n : Int) := by omega
      obtain ⟨s0, s1, s2⟩ := hS.cell (i := v) (by omega)
      rw [hSv] at s0
      clear hE hS
      go_enter Tryz.func16, Tryz.ntmps16
      go_wp2_with fail
      exact bodyPost_ret (v := .tuple #[]) (by simp [results, Tryz.results16, go_sem]) rfl ⟨rfl, S, HE.out.2, Chg.refl _ _, .inl ⟨.inr hSv, rfl⟩⟩
  | succ u ih =>
    intro S v w hu hv100 hE hS
    have d4 := hE.c4
    have d8 := hE.c8
    have HE := Lib.hid (And.intro hE hS)
    have IH := Lib.hid ih
    clear ih
    have j0 : decide ((v : Int) < 0) = false := decide_eq_false (by omega)
    by_cases hv : n ≤ v
    · have j1 : decide ((n : Int) ≤ (v : Int)) = true := decide_eq_true (by omega)
      have j2 : (n : Int) ≤ (v : Int) := by omega
      clear hE hS
      go_enter Tryz.func16, Tryz.ntmps16
      go_wp2_with fail
      exact bodyPost_ret (v := .tuple #[]) (by simp [results, Tryz.results16, go_sem]) rfl ⟨rfl, S, HE.out.2, Chg.refl _ _, .inl ⟨.inl hv, rfl⟩⟩
    have j1 : decide ((n : Int) ≤ (v : Int)) = false := decide_eq_false (by omega)
    have j2 : ¬ (n : Int) ≤ (v : Int) := by omega
    have j3 : (v : Int) < (n : Int) := by omega
    obtain ⟨s0, s1, s2⟩ := hS.cell (i := v) (by omega)
    cases hSv : S v with
    | true =>
      rw [hSv] at s0
      clear hE hS
      go_enter Tryz.func16, Tryz.ntmps16
      go_wp2_with fail
      exact bodyPost_ret (v := .tuple #[]) (by simp [results, Tryz.results16, go_sem]) rfl ⟨rfl, S, HE.out.2, Chg.refl _ _, .inl ⟨.inr hSv, rfl⟩⟩
    | false =>
      rw [hSv] at s0
      have HU : Hid (∀ T : Nat → Bool, (∀ x, S x = true → T x = true) → T v = true → unseen n T ≤ u) := fun T h1 h2 => by
        have h3 := unseen_lt h1 hSv h2 n (by omega)
        omega
      have hw1 := set_chg w sb v (.bool true)
      have H1 : Hid (SeenAt (w.setCell ⟨sb, v, none⟩ (.bool true)) sb n (setS S v) ∧ Chg [sb] w (w.setCell ⟨sb, v, none⟩ (.bool true)) ∧ S v = false) := ⟨hS.set (by omega), hw1, hSv⟩
      have e4 := (hE.chg hw1).c4
      clear hE hS hw1 hSv
      go_enter Tryz.func16, Tryz.ntmps16
      go_upto_region 2 with (fail)
      generalize World.setCell w _ _ = W1 at H1 e4 ⊢
      clear s0 s1 s2 d4 d8
      go_wp2_with fail
      clear e4 j0 j1 j2 j3
      go_loopw [24] (fun i wr => ∃ (k : Nat) (T : Nat → Bool), k ≤ n ∧ i = .int .i64 k ∧ SeenAt wr sb n T ∧ Gl n (adjL L) v S T k ∧ Chg [sb] w wr) (fun i _ => n - (intOf i).toNat)
      case atStart => exact ⟨0, _, by omega, rfl, H1.out.1, Gl.start (by omega), H1.out.2.1⟩
      case round =>
        obtain ⟨k, T, hk, rfl, hT, hG, hC⟩ := hrel
        have HR : Hid (SeenAt wr sb n T ∧ Gl n (adjL L) v S T k ∧ Chg [sb] w wr) := ⟨hT, hG, hC⟩
        by_cases hlt : k < n
        · have hEr := HE.out.1.chg hC
          have d7 := hEr.c7
          have d9 := hEr.c9
          obtain ⟨l, hl⟩ := key_pair (v : Int) (k : Int) (wf_i64 (by omega)) (wf_i64 (by omega))
          obtain ⟨c, hc, hc0, hcm, hca⟩ := hEr.od.at_ _ _ l hl
          obtain ⟨c', hrun, hat, -⟩ := hEr.mp.lookup_int KP Tryz.underlying40 Tryz.underlying3 (zeroI wr) hl
          have hcc : c' = c := by rw [hat] at hc; simpa using hc
          subst hcc
          simp only [pairV] at hrun
          have it0 : (k : Int) < (n : Int) := by omega
          have HEr : Hid (Env wr n b4 b8 b7 b9 sb mb m D L ∧ (0 < c' ↔ opens L (v : Int) (k : Int))) := ⟨hEr, hca⟩
          clear hT hG hC hl hc hat hcm hca hEr
          unfold walkV at d9
          by_cases hpos : 0 < c'
          · have q1 : decide (0 < c') = true := decide_eq_true hpos
            go_wp2_with (go_at_call 16; refine (IH.out T k wr (HU.out T HR.out.2.1.ge HR.out.2.1.me) (by omega) HEr.out.1 HR.out.1).mono ?_; rintro e w4 ⟨rfl, hWP⟩)
            go_roundw
            case rel =>
              obtain ⟨T', hT', hC', hor⟩ := hWP
              refine ⟨k + 1, T', by omega, by go_num, hT', ?_, HR.out.2.2.trans hC' (fun x hx => .inl hx)⟩
              rcases hor with ⟨h8 | h8, rfl⟩ | ⟨h8, h9, h10⟩
              · omega
              · exact HR.out.2.1.old h8
              · exact HR.out.2.1.next (by omega) hlt (HEr.out.2.1 hpos) h10
            case measure => simp [intOf]; omega
          · have q1 : decide (0 < c') = false := decide_eq_false hpos
            have HP := Lib.hid hpos
            clear hpos
            go_wp2_with fail
            go_roundw
            case rel => exact ⟨k + 1, T, by omega, by go_num, HR.out.1, HR.out.2.1.skip (fun h => HP.out (HEr.out.2.2 h)), HR.out.2.2⟩
            case measure => simp [intOf]; omega
        · have hke : k = n := by omega
          have HF : Hid (SeenAt wr sb n T ∧ Grew n (adjL L) v S T ∧ Chg [sb] w wr) := ⟨hT, by rw [hke] at hG; exact hG.done, hC⟩
          clear hT hG hC
          go_wp2_with fail
          go_end0
          exact ⟨rfl, T, HF.out.1, HF.out.2.2, .inr ⟨by omega, H1.out.2.2, HF.out.2.1⟩⟩
end Go.Proofs.YtkcljohkcpdfaaaGreatDoor.gr
