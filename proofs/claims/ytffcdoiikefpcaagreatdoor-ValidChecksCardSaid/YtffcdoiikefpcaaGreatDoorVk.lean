/- The law's Make: a module of functions by small numbers, walked (printed by vk_gen.py). -/
import Derived.Test.YtffcdoiikefpcaaGreatDoorVx
import Derived.Test.YtffcdoiikefpcaaGreatDoorVn
import Derived.Test.YtffcdoiikefpcaaGreatDoorVq
set_option linter.unusedVariables false
set_option linter.unusedSimpArgs false
namespace Go.Proofs.YtffcdoiikefpcaaGreatDoor.vl
open Go.RowKit Go.Maps mem
attribute [local go_sem ↓] Go.wp_at_zero Go.wp_at_succ
set_option maxRecDepth 100000
set_option maxHeartbeats 4000000
theorem infoIns' : (Tryz.prog.info? 45).map (fun i => (i.zero, i.size, i.bytes)) = some (some (.agg #[.int .u8 0, .int .i64 0, .int .i64 0, .int .i64 0]), 4, 32) := by kernel_rfl
theorem infoFn' : (Tryz.prog.info? 42).map (fun i => (i.zero, i.size, i.bytes)) = some (some (.agg #[.int .i64 0, .slice none 0 0, .int .i64 0, .slice none 0 0, .slice none 0 0]), 5, 88) := by kernel_rfl
theorem infoV : (Tryz.prog.info? 126).map (fun i => (i.zero, i.size, i.bytes)) = some (some (.agg #[.int .u8 0, .int .i64 0, .string ⟨#[]⟩]), 3, 32) := by kernel_rfl
def zv (k : Nat) : Array Value := madeCells #[.int .u8 0, .int .i64 0, .string ⟨#[]⟩] (k * 3)
theorem make_v (k : Nat) (hk : k ≤ 255) (W : World) : (Instr.makeSlice 40 (.int .u8 (k : Int)) (.int .u8 (k : Int))).run Tryz.prog W = .ok (.slice (some ⟨W.heap.size, 0, none⟩) k k) (W.alloc (.cells (zv k) 126)) := by
  obtain ⟨iV, hi, hz0, hz1, hz2⟩ := info_of infoV
  have q := run_make (P := Tryz.prog) W 40 126 iV _ Tryz.underlying40 hi hz0 .u8 .u8 (k : Int) (k : Int) (by omega) (by omega) (by rw [hz2]; omega) (by omega)
  rw [hz1, Int.toNat_natCast] at q
  exact q
abbrev xc (p r : Int) (hv cv dv : Value) : Array Value := #[.int .i64 p, hv, .int .i64 r, cv, dv]
def Cut5 (wa wx : World) (x : Value) (p r : Int) (k : Nat) : Prop := ∃ (bx : Nat) (ca : Option Addr) (cc : Nat), x = .pointer (some ⟨bx, 0, none⟩) ∧ Up wa wx ∧ wa.heap.size ≤ bx ∧ Blk wx bx (xc p r (.slice none 0 0) (.slice ca k cc) (.slice none 0 0)) 42
theorem mk_a {wa wd : World} {p r : Int} {k : Nat} (hU : Up wa wd) : Cut5 wa ((wd.alloc (.cells (zv k) 126)).alloc (.cells #[.int .i64 p, .slice none 0 0, .int .i64 r, .slice (some ⟨wd.heap.size, 0, none⟩) k k, .slice none 0 0] 42)) (.pointer (some ⟨wd.heap.size + 1, 0, none⟩)) p r k := by
  have z := hU.size
  have h := Blk.new (wd.alloc (.cells (zv k) 126)) #[.int .i64 p, .slice none 0 0, .int .i64 r, .slice (some ⟨wd.heap.size, 0, none⟩) k k, .slice none 0 0] 42
  rw [World.size_alloc] at h
  exact ⟨wd.heap.size + 1, _, _, rfl, (hU.alloc _).alloc _, by omega, h⟩
theorem mk_b {wa wd : World} {p r : Int} {k : Nat} (hU : Up wa wd) : Cut5 wa ((wd.alloc (.cells #[.int .i64 p, .slice none 0 0, .int .i64 r, .slice (some ⟨wd.heap.size + 1, 0, none⟩) k k, .slice none 0 0] 42)).alloc (.cells (zv k) 126)) (.pointer (some ⟨wd.heap.size, 0, none⟩)) p r k := by
  have z := hU.size
  exact ⟨wd.heap.size, _, _, rfl, (hU.alloc _).alloc _, by omega, (Blk.new wd _ _).chg ((Up.refl _).alloc _).chg (by simp)⟩
def LenLe (v : Value) (m : Nat) : Prop := ∀ a n c, v = .slice a n c → n ≤ m
theorem up_of {W wr wa : World} {F : List Nat} (u : Up wa W) (c : Chg F W wr) (h : ∀ b ∈ F, wa.heap.size ≤ b) : Up wa wr := ((u.chg.mono (by simp)).trans c (fun b hb => .inl hb)).to_up h
theorem lmake_x (la : Option Addr) (n lc : Nat) (fs : Nat → FI) (w : World) (hn : n ≤ 8) (hl : n = 0 ∨ ∃ b off, la = some ⟨b, off, none⟩ ∧ b < w.heap.size ∧ ∀ i, i < n → FAt w b (off + i * 6) (fs i))
    (hb : ∀ i, i < n → LenLe (fs i).hv 10 ∧ LenLe (fs i).cv 40) :
    Calls Tryz.prog 6 #[.slice la n lc] w fun e w' => ∃ (sv : Value) (Fs : List Fn), e = .returned (.agg #[sv]) ∧ FnsAt w' sv Fs ∧ (∀ f ∈ Fs, FnFine f) ∧ Up w w' := by
  have HL := Lib.hid (And.intro hl hb)
  clear hl hb
  obtain ⟨iI, hI⟩ := info_of infoI
  obtain ⟨iC, hC⟩ := info_of infoIns'
  obtain ⟨iF, hF⟩ := info_of infoFn'
  have HII := Lib.hid hI
  have HIC := Lib.hid hC
  have HIF := Lib.hid hF
  clear hI hC hF
  go_enter Tryz.func6, Tryz.ntmps6
  go_upto_region 2 with (fail)
  obtain ⟨hB2, hBm, hU1⟩ := two_new w #[.slice none 0 0] #[.slice none 0 0] 31 31
  have hlo : w.heap.size < w.heap.size + 1 := by omega
  have hl2 : w.heap.size ≤ w.heap.size := Nat.le_refl _
  generalize World.alloc (World.alloc w _) _ = W1 at hB2 hBm hU1 ⊢
  generalize hg : w.heap.size + 1 = bm at hBm hlo ⊢
  generalize hg2 : w.heap.size = b2 at hB2 hlo ⊢
  have H1 : Hid (Up w W1 ∧ Blk W1 b2 #[.slice none 0 0] 31 ∧ b2 < bm ∧ w.heap.size = b2) := ⟨hU1, hB2, hlo, hg2⟩
  have H0 : Hid (MR W1 W1 bm 0 #[.slice none 0 0] 31 42 5 (.slice none 0 0) 0 []) := MR.start hBm rfl
  clear hB2 hBm hU1 hlo hl2 hg hg2
  go_wp2_with fail
  go_loopw [13] (fun i wr => ∃ (t : Nat) (sv : Value) (R : List Rf), t ≤ n ∧ i = .int .i64 t ∧ R.length = t ∧ MR W1 wr bm 0 #[.slice none 0 0] 31 42 5 sv R.length (R.flatMap fcells) ∧ RS wr bm sv FnFine R) (fun i _ => n - (intOf i).toNat)
  case atStart => exact ⟨0, _, [], by omega, rfl, rfl, H0.out, fun r hr => by cases hr⟩
  case round =>
    obtain ⟨t, sv, R, ht, rfl, hRl, hM, hR⟩ := hrel
    have HM : Hid (MR W1 wr bm 0 #[.slice none 0 0] 31 42 5 sv R.length (R.flatMap fcells) ∧ RS wr bm sv FnFine R ∧ R.length = t) := ⟨hM, hR, hRl⟩
    have hUw : Up w wr := up_of H1.out.1 hM.cg (fun b hb => by have h1 := H1.out.2; rw [List.mem_singleton.1 hb]; omega)
    clear H0 hRl
    by_cases hlt : t < n
    · obtain ⟨lb, off, rfl, hlb, hx⟩ := HL.out.1.resolve_left (by omega)
      obtain ⟨⟨c0, c1, c2, c3, c4, c5⟩, hp, hr, hk, hHh, hHc⟩ := hx t hlt
      obtain ⟨hb1, hb2⟩ := HL.out.2 t hlt
      generalize fs t = s at c0 c1 c2 c3 c4 c5 hp hr hk hHh hHc hb1 hb2
      obtain ⟨p, r, hv0, k0, cv0, e0⟩ := s
      simp only at c0 c1 c2 c3 c4 c5 hp hr hk hHh hHc hb1 hb2
      obtain ⟨ha, hm, hc, hsp, rfl, hh⟩ := hHh
      obtain ⟨ka, km, kc, ksp, rfl, hkk⟩ := hHc
      have hm10 : hm ≤ 10 := hb1 _ _ _ rfl
      have km40 : km ≤ 40 := hb2 _ _ _ rfl
      have HH := Lib.hid hh
      have HK := Lib.hid hkk
      have c0 := up_cell hUw c0
      have c1 := up_cell hUw c1
      have c2 := up_cell hUw c2
      have c3 := up_cell hUw c3
      have c4 := up_cell hUw c4
      have c5 := up_cell hUw c5
      have it0 : (t : Int) < (n : Int) := by omega
      clear hx hb1 hb2 hh hkk hM hR
      go_upto_region 5 with (fail)
      obtain ⟨hB5, hUa⟩ := blk_new' wr #[.int .i8 p, .int .i8 r, .slice ha hm hc, .int .u8 k0, .slice ka km kc, .bool e0] 28
      generalize World.alloc wr _ = wa at hB5 hUa ⊢
      generalize wr.heap.size = b5 at hB5 ⊢
      have a0 : wa.cell? ⟨b5, 0, none⟩ = some (.int .i8 p) := hB5.cell 0
      have a1 : wa.cell? ⟨b5, 1, none⟩ = some (.int .i8 r) := hB5.cell 1
      have a2 : wa.cell? ⟨b5, 2, none⟩ = some (.slice ha hm hc) := hB5.cell 2
      have a3 : wa.cell? ⟨b5, 3, none⟩ = some (.int .u8 k0) := hB5.cell 3
      have a4 : wa.cell? ⟨b5, 4, none⟩ = some (.slice ka km kc) := hB5.cell 4
      have a5 : wa.cell? ⟨b5, 5, none⟩ = some (.bool e0) := hB5.cell 5
      have H5 : Hid (Up wr wa ∧ Blk wa b5 #[.int .i8 p, .int .i8 r, .slice ha hm hc, .int .u8 k0, .slice ka km kc, .bool e0] 28 ∧ Up w wa) := ⟨hUa, hB5, Up.trans hUw hUa⟩
      clear hB5 hUa c0 c1 c2 c3 c4 c5 hUw
      obtain ⟨k, hk4⟩ : ∃ k : Nat, k0 % 4 = (k : Int) := ⟨(k0 % 4).toNat, by omega⟩
      have hk4' : k0.tmod 4 = (k : Int) := by rw [Int.tmod_eq_emod_of_nonneg hk.1]; exact hk4
      have hk3 : k ≤ 3 := by omega
      have MKV := make_v k (by omega)
      have w1 : IntKind.i64.wrap p = p := by rw [IntKind.wrap_i64] <;> omega
      have w2 : IntKind.i64.wrap r = r := by rw [IntKind.wrap_i64] <;> omega
      go_cut [6] from 17 to 27 (fun x wx => Cut5 wa wx x p r k)
      case first =>
        have HS : Hid (∀ w', Up wa w' → w'.cell? ⟨b5, 0, none⟩ = some (.int .i8 p) ∧ w'.cell? ⟨b5, 1, none⟩ = some (.int .i8 r) ∧ w'.cell? ⟨b5, 3, none⟩ = some (.int .u8 k0)) := fun w' hu => ⟨up_cell hu a0, up_cell hu a1, up_cell hu a3⟩
        clear a0 a1 a2 a3 a4 a5
        refine AnyT.start (S := fun w' => w'.cell? ⟨b5, 0, none⟩ = some (.int .i8 p) ∧ w'.cell? ⟨b5, 1, none⟩ = some (.int .i8 r) ∧ w'.cell? ⟨b5, 3, none⟩ = some (.int .u8 k0)) 12 (by kernel_rfl) (HS.out _ (Up.refl wa).drew) (fun hHeld => ?_)
        have hUd : Up wa wa.drew := (Up.refl wa).drew
        generalize World.drew wa = wd at hUd hHeld ⊢
        refine AnyT.pick (i := 0) (oi := ⟨_, _, _, _, _, _⟩) (v := ?_) rfl (by kernel_rfl) (by kernel_rfl) (by kernel_rfl) (fun _ _ _ h => h) (Or.inl ⟨by rfl, ?y0_1⟩) ?_
        case' y0_1 => ((intro w hSw; go_simp) <;> (with_reducible rfl))
        try simp only [Act.put, List.setIfInBounds_toArray, List.set_cons_zero, List.set_cons_succ]
        refine AnyT.take (i := 1) (oi := ⟨_, _, _, _, _, _⟩) (v := ?_) rfl (by kernel_rfl) (by kernel_rfl) (by kernel_rfl) (by kernel_rfl) (fun _ _ _ h => h) (Or.inl ⟨by rfl, ?y1_2⟩) (by assumption) ?_
        case' y1_2 => ((intro w hSw; (try dsimp only at hSw); go_simp) <;> (with_reducible rfl))
        try simp only [Act.put, List.setIfInBounds_toArray, List.set_cons_zero, List.set_cons_succ]
        refine AnyT.pick (i := 2) (oi := ⟨_, _, _, _, _, _⟩) (v := ?_) rfl (by kernel_rfl) (by kernel_rfl) (by kernel_rfl) (fun _ _ _ h => h) (Or.inl ⟨by rfl, ?y2_3⟩) ?_
        case' y2_3 => ((intro w hSw; go_simp) <;> (with_reducible rfl))
        try simp only [Act.put, List.setIfInBounds_toArray, List.set_cons_zero, List.set_cons_succ]
        refine AnyT.pick (i := 3) (oi := ⟨_, _, _, _, _, _⟩) (v := ?_) rfl (by kernel_rfl) (by kernel_rfl) (by kernel_rfl) (fun _ _ _ h => h) (Or.inl ⟨by rfl, ?y3_4⟩) ?_
        case' y3_4 => ((intro w hSw; go_simp) <;> (with_reducible rfl))
        try simp only [Act.put, List.setIfInBounds_toArray, List.set_cons_zero, List.set_cons_succ]
        refine AnyT.take (i := 4) (oi := ⟨_, _, _, _, _, _⟩) (v := ?_) rfl (by kernel_rfl) (by kernel_rfl) (by kernel_rfl) (by kernel_rfl) (fun _ _ _ h => h) (Or.inl ⟨by rfl, ?y4_5⟩) (by assumption) ?_
        case' y4_5 => ((intro w hSw; (try dsimp only at hSw); go_simp) <;> (with_reducible rfl))
        try simp only [Act.put, List.setIfInBounds_toArray, List.set_cons_zero, List.set_cons_succ]
        refine AnyT.pick (i := 5) (oi := ⟨_, _, _, _, _, _⟩) (v := ?_) rfl (by kernel_rfl) (by kernel_rfl) (by kernel_rfl) (fun _ _ _ h => h) (Or.inl ⟨by rfl, ?y5_6⟩) ?_
        case' y5_6 => ((intro w hSw; go_simp) <;> (with_reducible rfl))
        try simp only [Act.put, List.setIfInBounds_toArray, List.set_cons_zero, List.set_cons_succ]
        refine AnyT.pick (i := 6) (oi := ⟨_, _, _, _, _, _⟩) (v := ?_) rfl (by kernel_rfl) (by kernel_rfl) (by kernel_rfl) (fun _ _ _ h => h) (Or.inl ⟨by rfl, ?y6_7⟩) ?_
        case' y6_7 => ((intro w hSw; go_simp) <;> (with_reducible rfl))
        try simp only [Act.put, List.setIfInBounds_toArray, List.set_cons_zero, List.set_cons_succ]
        refine AnyT.take (i := 7) (oi := ⟨_, _, _, _, _, _⟩) (v := ?_) rfl (by kernel_rfl) (by kernel_rfl) (by kernel_rfl) (by kernel_rfl) (fun _ _ _ h => h) (Or.inl ⟨by rfl, ?y7_8⟩) (by assumption) ?_
        case' y7_8 => ((intro w hSw; (try dsimp only at hSw); go_simp) <;> (with_reducible rfl))
        try simp only [Act.put, List.setIfInBounds_toArray, List.set_cons_zero, List.set_cons_succ]
        refine AnyT.pick (i := 8) (oi := ⟨_, _, _, _, _, _⟩) (v := ?_) rfl (by kernel_rfl) (by kernel_rfl) (by kernel_rfl) (fun _ _ _ h => h) (Or.inl ⟨by rfl, ?y8_9⟩) ?_
        case' y8_9 => ((intro w hSw; go_simp) <;> (with_reducible rfl))
        try simp only [Act.put, List.setIfInBounds_toArray, List.set_cons_zero, List.set_cons_succ]
        refine AllT.go (rs := [9, 11]) (by kernel_rfl) (by simp) ?_
        refine AllT.early (o := ⟨_, _, _, _, _, _⟩) rfl (fun K hK => ?_) ?_
        · go_simp
          refine hK.out _ _ (HS.out _ (hUd.alloc _)) (fun _ => ?_)
          clear hK K
          try simp only [Act.put, List.setIfInBounds_toArray, List.set_cons_zero, List.set_cons_succ]
          refine AnyT.pick (i := 10) (oi := ⟨_, _, _, _, _, _⟩) (v := ?_) rfl (by kernel_rfl) (by kernel_rfl) (by kernel_rfl) (fun _ _ _ h => h) (Or.inl ⟨by rfl, ?y10_10⟩) ?_
          case' y10_10 => ((intro w hSw; go_simp) <;> (with_reducible rfl))
          try simp only [Act.put, List.setIfInBounds_toArray, List.set_cons_zero, List.set_cons_succ]
          refine AllT.go (rs := [11]) (by kernel_rfl) (by simp) ?_
          refine AllT.early (o := ⟨_, _, _, _, _, _⟩) rfl (fun K hK => ?_) ?_
          · go_simp
            refine hK.out _ _ (HS.out _ ((hUd.alloc _).alloc _)) (fun _ => ?_)
            clear hK K
            try simp only [Act.put, List.setIfInBounds_toArray, List.set_cons_zero, List.set_cons_succ]
            refine AllT.go (rs := [12]) (by kernel_rfl) (by simp) ?_
            refine AllT.late (o := ⟨_, _, _, _, _, _⟩) rfl (by decide) (fun K hK => ?_) ?_
            · go_simp
              refine hK.out _ _ trivial (fun _ => ?_)
              clear hK K
              try simp only [Act.put, List.setIfInBounds_toArray, List.set_cons_zero, List.set_cons_succ]
              refine AnyT.done (by kernel_rfl) ?_ _
              go_wp2_with fail
              go_meet
              exact mk_a hUd
            exact AllT.nil
          exact AllT.nil
        refine AllT.early (o := ⟨_, _, _, _, _, _⟩) rfl (fun K hK => ?_) ?_
        · go_simp
          refine hK.out _ _ (HS.out _ (hUd.alloc _)) (fun _ => ?_)
          clear hK K
          try simp only [Act.put, List.setIfInBounds_toArray, List.set_cons_zero, List.set_cons_succ]
          refine AllT.go (rs := [9]) (by kernel_rfl) (by simp) ?_
          refine AllT.early (o := ⟨_, _, _, _, _, _⟩) rfl (fun K hK => ?_) ?_
          · go_simp
            refine hK.out _ _ (HS.out _ ((hUd.alloc _).alloc _)) (fun _ => ?_)
            clear hK K
            try simp only [Act.put, List.setIfInBounds_toArray, List.set_cons_zero, List.set_cons_succ]
            refine AnyT.pick (i := 10) (oi := ⟨_, _, _, _, _, _⟩) (v := ?_) rfl (by kernel_rfl) (by kernel_rfl) (by kernel_rfl) (fun _ _ _ h => h) (Or.inl ⟨by rfl, ?y10_11⟩) ?_
            case' y10_11 => ((intro w hSw; go_simp) <;> (with_reducible rfl))
            try simp only [Act.put, List.setIfInBounds_toArray, List.set_cons_zero, List.set_cons_succ]
            refine AllT.go (rs := [12]) (by kernel_rfl) (by simp) ?_
            refine AllT.late (o := ⟨_, _, _, _, _, _⟩) rfl (by decide) (fun K hK => ?_) ?_
            · go_simp
              refine hK.out _ _ trivial (fun _ => ?_)
              clear hK K
              try simp only [Act.put, List.setIfInBounds_toArray, List.set_cons_zero, List.set_cons_succ]
              refine AnyT.done (by kernel_rfl) ?_ _
              go_wp2_with fail
              go_meet
              exact mk_b hUd
            exact AllT.nil
          exact AllT.nil
        exact AllT.nil
      case rest =>
        obtain ⟨bx, ca', cc', rfl, hU3, hbx, hBx⟩ := hcut
        clear a0 a1 a3 MKV w1 w2
        have a2 := up_cell hU3 a2
        have H3 : Hid (Up wa wc ∧ wa.heap.size ≤ bx ∧ Blk wc bx (xc p r (.slice none 0 0) (.slice ca' k cc') (.slice none 0 0)) 42) := ⟨hU3, hbx, hBx⟩
        have HR0 : Hid (MR wc wc bx 1 (xc p r (.slice none 0 0) (.slice ca' k cc') (.slice none 0 0)) 42 3 1 (.slice none 0 0) 0 []) := MR.start hBx rfl
        clear hU3 hbx hBx a4 a5 hk4 hk4'
        obtain ⟨wA, hwA⟩ : ∃ wA, wA = wr := ⟨_, rfl⟩
        subst hwA
        go_wp2_with fail
        clear a2
        go_loopw [31] (fun i wr => ∃ (j : Nat) (hv : Value) (l : List Int), j ≤ hm ∧ i = .int .i64 j ∧ l.length = j ∧ MR wc wr bx 1 (xc p r (.slice none 0 0) (.slice ca' k cc') (.slice none 0 0)) 42 3 1 hv l.length (l.map (Value.int .i64))) (fun i _ => hm - (intOf i).toNat)
        case atStart => exact ⟨0, _, [], by omega, rfl, rfl, HR0.out⟩
        case round =>
          obtain ⟨j, hv, l, hj, rfl, hjl, hMR⟩ := hrel
          have HMR : Hid (MR wc wr bx 1 (xc p r (.slice none 0 0) (.slice ca' k cc') (.slice none 0 0)) 42 3 1 hv l.length (l.map (Value.int .i64)) ∧ l.length = j) := ⟨hMR, hjl⟩
          have hUr : Up wa wr := up_of H3.out.1 hMR.cg (fun b hb => by rw [List.mem_singleton.1 hb]; exact H3.out.2.1)
          clear HR0
          by_cases hjt : j < hm
          · obtain ⟨hb, hoff, rfl, hhb, hhx⟩ := HH.out.resolve_left (by omega)
            obtain ⟨y0, y1, y2⟩ := hhx j hjt
            have y0 := up_cell (Up.trans H5.out.2.2 hUr) y0
            simp only [Nat.mul_one] at y0
            generalize hsp j = y at y0 y1 y2
            have hwy : IntKind.i64.wrap y = y := by rw [IntKind.wrap_i64] <;> omega
            have ij0 : (j : Int) < (hm : Int) := by omega
            have m1 : wr.cell? ⟨bx, 1, none⟩ = some hv := hMR.cell (by show (1 : Nat) < 5; decide)
            have HG : Hid (MR wc (wr.alloc (.cells #[.int .i64 y] 3)) bx 1 (xc p r (.slice none 0 0) (.slice ca' k cc') (.slice none 0 0)) 42 3 1 hv l.length (l.map (Value.int .i64))) := hMR.grow ((Up.refl _).alloc _)
            have HN : Hid (l.length + 1 ≤ maxLen ∧ (l.length + 1) * 8 ≤ 140737488355328 ∧ wc.heap.size ≤ (wr.alloc (.cells #[.int .i64 y] 3)).heap.size) := ⟨by unfold maxLen; omega, by omega, HG.out.cg.size⟩
            clear hhx hMR hUr hjl
            go_wp2_with (at_builtin; refine wpList_append_lies _ rfl (.tmp 36) (.tmp 39) 39 rfl wc.heap.size 3 _ (.int .i64 0) 1 8 Tryz.underlying39 HII.out.1 HII.out.2.1 HII.out.2.2.1 HII.out.2.2.2 rfl (by decide) hv _ (l.map (Value.int .i64)) rfl HG.out.row ⟨wr.heap.size, 0, none⟩ 1 1 [.int .i64 y] rfl rfl (World.news_of_block (cs := #[.int .i64 y]) (t := 3) (fr := (0, 0)) (heap_alloc_new wr _)) (by intro u hu; simp at hu; subst hu; rfl) (by decide) HN.out.1 HN.out.2.1 HN.out.2.2 (wr.heap.size + 1) (by simp) ?_; intro g1 gcap w5 hown5 hgrow5 hat5 hlt5; have b5' := HG.out.mid hgrow5; have m5 : w5.cell? ⟨bx, 1, none⟩ = some hv := b5'.cell 1; have f5 : w5.frozen? ⟨bx, 1, none⟩ = false := frozen_of_row w5 bx 1 _ _ b5')
            go_roundw
            case rel =>
              have h9 := HG.out.next hown5 hgrow5
              have e9 : l.map (Value.int .i64) ++ [.int .i64 y] = (l ++ [y]).map (Value.int .i64) := by simp
              rw [e9] at h9
              exact ⟨j + 1, .slice (some ⟨g1, 0, none⟩) (l.length + 1) gcap, l ++ [y], by omega, by go_num, by rw [List.length_append, HMR.out.2]; rfl, by rw [show (l ++ [y]).length = l.length + 1 by simp]; exact h9⟩
            case measure => simp [intOf]; omega
          · have hje : j = hm := by omega
            have HX : Hid (MR wc wr bx 1 (xc p r (.slice none 0 0) (.slice ca' k cc') (.slice none 0 0)) 42 3 1 hv l.length (l.map (Value.int .i64)) ∧ l.length ≤ 10 ∧ Up wa wr ∧ hv.ownBlock ≠ some bx) := ⟨hMR, by omega, hUr, fun e => (hMR.ne _ e).1 rfl⟩
            have HR1 : Hid (MR wr wr bx 4 (xc p r hv (.slice ca' k cc') (.slice none 0 0)) 42 45 4 (.slice none 0 0) 0 []) := MR.start hMR.bo rfl
            have a4 : wr.cell? ⟨b5, 4, none⟩ = some (.slice ka km kc) := up_cell hUr (H5.out.2.1.cell 4)
            clear HMR hMR hjl
            have hUr' := Lib.hid hUr
            clear hUr
            obtain ⟨wB, hwB⟩ : ∃ wB, wB = wr := ⟨_, rfl⟩
            subst hwB
            subst hje
            go_wp2_with fail
            clear a4
            go_loopw [46] (fun i wr => ∃ (q : Nat) (dv : Value) (L : List Ins), q ≤ km ∧ i = .int .i64 q ∧ L.length = q ∧ (∀ x ∈ L, InsFine x) ∧ MR wB wr bx 4 (xc p r hv (.slice ca' k cc') (.slice none 0 0)) 42 45 4 dv L.length (L.flatMap insCells)) (fun i _ => km - (intOf i).toNat)
            case atStart => exact ⟨0, _, [], by omega, rfl, rfl, by simp, HR1.out⟩
            case round =>
              obtain ⟨q, dv, L, hq, rfl, hql, hfine, hMC⟩ := hrel
              have HMC : Hid (MR wB wr bx 4 (xc p r hv (.slice ca' k cc') (.slice none 0 0)) 42 45 4 dv L.length (L.flatMap insCells) ∧ L.length = q ∧ ∀ x ∈ L, InsFine x) := ⟨hMC, hql, hfine⟩
              have hUc : Up wa wr := up_of hUr'.out hMC.cg (fun b hb => by rw [List.mem_singleton.1 hb]; exact H3.out.2.1)
              clear HR1 hfine
              by_cases hqt : q < km
              · obtain ⟨kb, koff, rfl, hkb, hkx⟩ := HK.out.resolve_left (by omega)
                obtain ⟨⟨z0, z1, z2, z3⟩, v0, v1, v2, v3⟩ := hkx q hqt
                have z0 := up_cell (Up.trans H5.out.2.2 hUc) z0
                have z1 := up_cell (Up.trans H5.out.2.2 hUc) z1
                have z2 := up_cell (Up.trans H5.out.2.2 hUc) z2
                have z3 := up_cell (Up.trans H5.out.2.2 hUc) z3
                generalize ksp q = y at z0 z1 z2 z3 v0 v1 v2 v3
                obtain ⟨y0, y1, y2, y3⟩ := y
                obtain ⟨y9, hy9⟩ : ∃ y9, y0 % 24 = y9 := ⟨_, rfl⟩
                simp only at z0 z1 z2 z3 v0 v1 v2 v3
                have hy9' : y0.tmod 24 = y9 := by rw [Int.tmod_eq_emod_of_nonneg v0.1]; exact hy9
                have hw1 : IntKind.i64.wrap y1 = y1 := by rw [IntKind.wrap_i64] <;> omega
                have hw2 : IntKind.i64.wrap y2 = y2 := by rw [IntKind.wrap_i64] <;> omega
                have hw3 : IntKind.i64.wrap y3 = y3 := by rw [IntKind.wrap_i64] <;> omega
                have iq0 : (q : Int) < (km : Int) := by omega
                clear hkx hql
                go_upto_region 14 with (fail)
                obtain ⟨hB7, hU7⟩ := blk_new' wr #[.int .u8 y0, .int .i8 y1, .int .i8 y2, .int .i8 y3] 48
                generalize World.alloc wr _ = w7 at hB7 hU7 ⊢
                generalize wr.heap.size = b7 at hB7 ⊢
                have z0 : w7.cell? ⟨b7, 0, none⟩ = some (.int .u8 y0) := hB7.cell 0
                have z1 : w7.cell? ⟨b7, 1, none⟩ = some (.int .i8 y1) := hB7.cell 1
                have z2 : w7.cell? ⟨b7, 2, none⟩ = some (.int .i8 y2) := hB7.cell 2
                have z3 : w7.cell? ⟨b7, 3, none⟩ = some (.int .i8 y3) := hB7.cell 3
                have hM7 := hMC.grow hU7
                have m4 : w7.cell? ⟨bx, 4, none⟩ = some dv := hM7.cell (by show (4 : Nat) < 5; decide)
                have HG : Hid (MR wB (w7.alloc (.cells #[.int .u8 y9, .int .i64 y1, .int .i64 y2, .int .i64 y3] 45)) bx 4 (xc p r hv (.slice ca' k cc') (.slice none 0 0)) 42 45 4 dv L.length (L.flatMap insCells)) := hM7.grow ((Up.refl _).alloc _)
                have HN : Hid (L.length + 1 ≤ maxLen ∧ (L.length + 1) * 32 ≤ 140737488355328 ∧ wB.heap.size ≤ (w7.alloc (.cells #[.int .u8 y9, .int .i64 y1, .int .i64 y2, .int .i64 y3] 45)).heap.size) := by have h1 := HMC.out.2.1; exact ⟨by unfold maxLen; omega, by omega, HG.out.cg.size⟩
                have HF : Hid (InsFine ⟨y9, y1, y2, y3⟩) := ⟨by show 0 ≤ y9 ∧ y9 ≤ 23; omega, by show _ ≤ y2 ∧ y2 ≤ _; omega, by show _ ≤ y3 ∧ y3 ≤ _; omega⟩
                clear hB7 hU7 hM7 hMC hUc v1 v2 v3
                go_wp2_with (at_builtin; refine wpList_append_lies _ rfl (.tmp 51) (.tmp 65) 38 rfl wB.heap.size 45 _ (.agg #[.int .u8 0, .int .i64 0, .int .i64 0, .int .i64 0]) 4 32 Tryz.underlying38 HIC.out.1 HIC.out.2.1 HIC.out.2.2.1 HIC.out.2.2.2 rfl (by decide) dv _ (L.flatMap insCells) rfl HG.out.row ⟨w7.heap.size, 0, none⟩ 1 1 [.int .u8 y9, .int .i64 y1, .int .i64 y2, .int .i64 y3] rfl rfl (World.news_of_block (cs := #[.int .u8 y9, .int .i64 y1, .int .i64 y2, .int .i64 y3]) (t := 45) (fr := (0, 0)) (heap_alloc_new w7 _)) (by intro u hu; simp at hu; rcases hu with rfl | rfl | rfl | rfl <;> rfl) (by decide) HN.out.1 HN.out.2.1 HN.out.2.2 (w7.heap.size + 1) (by simp) ?_; intro g1 gcap w5 hown5 hgrow5 hat5 hlt5; have b5' := HG.out.mid hgrow5; have m5 : w5.cell? ⟨bx, 4, none⟩ = some dv := b5'.cell 4; have f5 : w5.frozen? ⟨bx, 4, none⟩ = false := frozen_of_row w5 bx 4 _ _ b5')
                go_roundw
                case rel =>
                  have h9 := HG.out.next hown5 hgrow5
                  have e9 : L.flatMap insCells ++ [.int .u8 y9, .int .i64 y1, .int .i64 y2, .int .i64 y3] = (L ++ [(⟨y9, y1, y2, y3⟩ : Ins)]).flatMap insCells := by rw [List.flatMap_append]; simp [insCells]
                  rw [e9] at h9
                  exact ⟨q + 1, .slice (some ⟨g1, 0, none⟩) (L.length + 1) gcap, L ++ [⟨y9, y1, y2, y3⟩], by omega, by go_num, by rw [List.length_append, HMC.out.2.1]; rfl, fun x hx => by
                    rcases List.mem_append.1 hx with h8 | h8
                    · exact HMC.out.2.2 x h8
                    · rw [List.mem_singleton.1 h8]; exact HF.out, by rw [show (L ++ [(⟨y9, y1, y2, y3⟩ : Ins)]).length = L.length + 1 by simp]; exact h9⟩
                case measure => simp [intOf]; omega
              · have hqe : q = km := by omega
                subst hqe
                have a5 : wr.cell? ⟨b5, 5, none⟩ = some (.bool e0) := up_cell hUc (H5.out.2.1.cell 5)
                have m4 : wr.cell? ⟨bx, 4, none⟩ = some dv := hMC.cell (by show (4 : Nat) < 5; decide)
                have HL40 : Hid (L.length ≤ 40) := by show _ ≤ _; omega
                clear hql hMC hUc
                obtain ⟨wC, hwC⟩ : ∃ wC, wC = wr := ⟨_, rfl⟩
                subst hwC
                go_upto_if 70 with (fail)
                go_cut [] from 71 to 76 (fun wx => ∃ (dv : Value) (L : List Ins), L.length ≤ 41 ∧ (∀ x ∈ L, InsFine x) ∧ MR wB wx bx 4 (xc p r hv (.slice ca' k cc') (.slice none 0 0)) 42 45 4 dv L.length (L.flatMap insCells))
                case first =>
                  cases e0
                  · go_wp2_with fail
                    go_meet
                    exact ⟨dv, L, by have h1 := HL40.out; omega, HMC.out.2.2, HMC.out.1⟩
                  · have HG : Hid (MR wB (wC.alloc (.cells #[.int .u8 18, .int .i64 0, .int .i64 0, .int .i64 0] 45)) bx 4 (xc p r hv (.slice ca' k cc') (.slice none 0 0)) 42 45 4 dv L.length (L.flatMap insCells)) := HMC.out.1.grow ((Up.refl _).alloc _)
                    have HN : Hid (L.length + 1 ≤ maxLen ∧ (L.length + 1) * 32 ≤ 140737488355328 ∧ wB.heap.size ≤ (wC.alloc (.cells #[.int .u8 18, .int .i64 0, .int .i64 0, .int .i64 0] 45)).heap.size) := by have h1 := HL40.out; exact ⟨by unfold maxLen; omega, by omega, HG.out.cg.size⟩
                    go_wp2_with (at_builtin; refine wpList_append_lies _ rfl (.tmp 72) (.tmp 74) 38 rfl wB.heap.size 45 _ (.agg #[.int .u8 0, .int .i64 0, .int .i64 0, .int .i64 0]) 4 32 Tryz.underlying38 HIC.out.1 HIC.out.2.1 HIC.out.2.2.1 HIC.out.2.2.2 rfl (by decide) dv _ (L.flatMap insCells) rfl HG.out.row ⟨wC.heap.size, 0, none⟩ 1 1 [.int .u8 18, .int .i64 0, .int .i64 0, .int .i64 0] rfl rfl (World.news_of_block (cs := #[.int .u8 18, .int .i64 0, .int .i64 0, .int .i64 0]) (t := 45) (fr := (0, 0)) (heap_alloc_new wC _)) (by intro u hu; simp at hu; rcases hu with rfl | rfl | rfl | rfl <;> rfl) (by decide) HN.out.1 HN.out.2.1 HN.out.2.2 (wC.heap.size + 1) (by simp) ?_; intro g1 gcap w5 hown5 hgrow5 hat5 hlt5; have b5' := HG.out.mid hgrow5; have m5 : w5.cell? ⟨bx, 4, none⟩ = some dv := b5'.cell 4; have f5 : w5.frozen? ⟨bx, 4, none⟩ = false := frozen_of_row w5 bx 4 _ _ b5')
                    go_meet
                    have h9 := HG.out.next hown5 hgrow5
                    have e9 : L.flatMap insCells ++ [.int .u8 18, .int .i64 0, .int .i64 0, .int .i64 0] = (L ++ [ret0]).flatMap insCells := by rw [List.flatMap_append]; simp [insCells, ret0]
                    rw [e9] at h9
                    exact ⟨.slice (some ⟨g1, 0, none⟩) (L.length + 1) gcap, L ++ [ret0], by have h1 := HL40.out; rw [List.length_append]; show _ + 1 ≤ 41; omega, fun x hx => by
                      rcases List.mem_append.1 hx with h8 | h8
                      · exact HMC.out.2.2 x h8
                      · rw [List.mem_singleton.1 h8]; exact ⟨by decide, by decide, by decide⟩, by rw [show (L ++ [ret0]).length = L.length + 1 by simp]; exact h9⟩
                case rest =>
                  obtain ⟨dv2, L2, hL2, hfine2, hMD⟩ := hcut
                  clear a5 m4
                  have hUz : Up wa wc := up_of hUr'.out hMD.cg (fun b hb => by rw [List.mem_singleton.1 hb]; exact H3.out.2.1)
                  have hUz0 : Up wA wc := Up.trans H5.out.1 hUz
                  have hMM := HM.out.1.grow hUz0
                  have hRR := HM.out.2.1.up hUz0
                  have m0 : wc.cell? ⟨bm, 0, none⟩ = some sv := hMM.cell (by decide)
                  have x0 : wc.cell? ⟨bx, 0, none⟩ = some (.int .i64 p) := hMD.other 0 (by decide)
                  have x1 : wc.cell? ⟨bx, 1, none⟩ = some hv := hMD.other 1 (by decide)
                  have x2 : wc.cell? ⟨bx, 2, none⟩ = some (.int .i64 r) := hMD.other 2 (by decide)
                  have x3 : wc.cell? ⟨bx, 3, none⟩ = some (.slice ca' k cc') := hMD.other 3 (by decide)
                  have x4 : wc.cell? ⟨bx, 4, none⟩ = some dv2 := hMD.cell (by show (4 : Nat) < 5; decide)
                  have hrf : RfIs wc ((⟨p, l, r, k, L2⟩, hv, .slice ca' k cc', dv2) : Rf) := ⟨(ints_of HX.out.1.row).chg hMD.cg (fun b hb hx => (HX.out.1.ne b hb).1 (List.mem_singleton.1 hx)), ⟨_, _, rfl⟩, code_of hMD.row⟩
                  have hff : FnFine ⟨p, l, r, k, L2⟩ := ⟨by show _ ≤ p ∧ p ≤ _; omega, by show _ ≤ r ∧ r ≤ _; omega, by have h1 := HX.out.2.1; show l.length ≤ _; omega, by show L2.length ≤ _; omega, hfine2⟩
                  have hfb : ∀ b, fb ((⟨p, l, r, k, L2⟩, hv, .slice ca' k cc', dv2) : Rf) b → b < wc.heap.size ∧ bm < b ∧ sv.ownBlock ≠ some b := by
                    have q1 := HM.out.1.lo
                    have q2 := HM.out.1.cg.size
                    have q3 := H5.out.1.size
                    have q4 := H3.out.1.size
                    have q5 := HX.out.1.cg.size
                    have q6 := hMD.cg.size
                    intro b hb
                    have hsv : ∀ g, sv.ownBlock = some g → g < wA.heap.size := fun g hg => (HM.out.1.row.lt g hg).2
                    rcases hb with h8 | h8
                    · have q7 := (HX.out.1.row.lt b h8)
                      exact ⟨by omega, by omega, fun e => by have q8 := hsv b e; omega⟩
                    · have q7 := (hMD.row.lt b h8)
                      exact ⟨q7.2, by omega, fun e => by have q8 := hsv b e; omega⟩
                  have HZ : Hid (MR W1 wc bm 0 #[.slice none 0 0] 31 42 5 sv R.length (R.flatMap fcells) ∧ RS wc bm sv FnFine R ∧ R.length = t ∧ RfIs wc ((⟨p, l, r, k, L2⟩, hv, .slice ca' k cc', dv2) : Rf) ∧ FnFine ⟨p, l, r, k, L2⟩ ∧ ∀ b, fb ((⟨p, l, r, k, L2⟩, hv, .slice ca' k cc', dv2) : Rf) b → b < wc.heap.size ∧ bm < b ∧ sv.ownBlock ≠ some b) := ⟨hMM, hRR, HM.out.2.2, hrf, hff, hfb⟩
                  have HG : Hid (MR W1 (wc.alloc (.cells #[.int .i64 p, hv, .int .i64 r, .slice ca' k cc', dv2] 42)) bm 0 #[.slice none 0 0] 31 42 5 sv R.length (R.flatMap fcells)) := hMM.grow ((Up.refl _).alloc _)
                  have HN : Hid (R.length + 1 ≤ maxLen ∧ (R.length + 1) * 88 ≤ 140737488355328 ∧ W1.heap.size ≤ (wc.alloc (.cells #[.int .i64 p, hv, .int .i64 r, .slice ca' k cc', dv2] 42)).heap.size) := by have h1 := HM.out.2.2; exact ⟨by unfold maxLen; omega, by omega, HG.out.cg.size⟩
                  have hs5 : ∀ v ∈ ([.int .i64 p, hv, .int .i64 r, .slice ca' k cc', dv2] : List Value), v.oneCell' = true := by
                    obtain ⟨e1, e2, e3⟩ := owns_slice HX.out.1.row
                    obtain ⟨e4, e5, e6⟩ := owns_slice hMD.row
                    intro u hu
                    simp at hu
                    rcases hu with rfl | rfl | rfl | rfl | rfl
                    · rfl
                    · rw [e3]; rfl
                    · rfl
                    · rfl
                    · rw [e6]; rfl
                  have HS5 := Lib.hid hs5
                  clear hMM hRR hrf hff hfb hUz hUz0 hMD hfine2 hs5
                  go_wp2_with (at_builtin; refine wpList_append_lies _ rfl (.tmp 78) (.tmp 80) 29 rfl W1.heap.size 42 _ (.agg #[.int .i64 0, .slice none 0 0, .int .i64 0, .slice none 0 0, .slice none 0 0]) 5 88 Tryz.underlying29 HIF.out.1 HIF.out.2.1 HIF.out.2.2.1 HIF.out.2.2.2 rfl (by decide) sv _ (R.flatMap fcells) rfl HG.out.row ⟨wc.heap.size, 0, none⟩ 1 1 [.int .i64 p, hv, .int .i64 r, .slice ca' k cc', dv2] rfl rfl (World.news_of_block (cs := #[.int .i64 p, hv, .int .i64 r, .slice ca' k cc', dv2]) (t := 42) (fr := (0, 0)) (heap_alloc_new wc _)) HS5.out (by decide) HN.out.1 HN.out.2.1 HN.out.2.2 (wc.heap.size + 1) (by simp) ?_; intro g1 gcap w5 hown5 hgrow5 hat5 hlt5; have b5' := HG.out.mid hgrow5; have m5 : w5.cell? ⟨bm, 0, none⟩ = some sv := b5'.cell 0; have f5 : w5.frozen? ⟨bm, 0, none⟩ = false := frozen_of_row w5 bm 0 _ _ b5')
                  go_roundw
                  case rel =>
                    have h9 := HG.out.next hown5 hgrow5
                    have h8 := RS.next (u := .slice (some ⟨g1, 0, none⟩) (R.length + 1) gcap) (n1 := R.length + 1) (c := gcap) (HZ.out.2.1.up ((Up.refl _).alloc (.cells #[.int .i64 p, hv, .int .i64 r, .slice ca' k cc', dv2] 42))) (HZ.out.2.2.2.1.up ((Up.refl _).alloc _)) HZ.out.2.2.2.2.1 (fun b hb => ⟨Nat.lt_of_lt_of_le (HZ.out.2.2.2.2.2 b hb).1 ((Up.refl wc).alloc _).size, (HZ.out.2.2.2.2.2 b hb).2⟩) hgrow5 (hat5.imp id (fun e => by rw [e]; simp))
                    have e9 : R.flatMap fcells ++ [.int .i64 p, hv, .int .i64 r, .slice ca' k cc', dv2] = (R ++ [((⟨p, l, r, k, L2⟩, hv, .slice ca' k cc', dv2) : Rf)]).flatMap fcells := by rw [List.flatMap_append]; simp [fcells]
                    rw [e9] at h9
                    have e10 : R.length + 1 = (R ++ [((⟨p, l, r, k, L2⟩, hv, .slice ca' k cc', dv2) : Rf)]).length := by simp
                    exact ⟨t + 1, .slice (some ⟨g1, 0, none⟩) (R.length + 1) gcap, R ++ [((⟨p, l, r, k, L2⟩, hv, .slice ca' k cc', dv2) : Rf)], by omega, by go_num, by rw [← e10, HZ.out.2.2.1], by rw [← e10]; exact h9, h8⟩
                  case measure => simp [intOf]; omega
    · have hte : n = t := by omega
      obtain ⟨sa, sc, rfl⟩ := owns_slice hM.row
      have m0 : wr.cell? ⟨bm, 0, none⟩ = some (.slice sa R.length sc) := hM.cell (by decide)
      have hb2 : Blk wr b2 #[.slice none 0 0] 31 := H1.out.2.1.chg hM.cg (fun hx => by have h1 := H1.out.2.2.1; have h2 : b2 = bm := List.mem_singleton.1 hx; omega)
      have r0 : wr.cell? ⟨b2, 0, none⟩ = some (.slice none 0 0) := hb2.cell 0
      have rf : wr.frozen? ⟨b2, 0, none⟩ = false := frozen_of_row wr b2 0 _ _ hb2
      have hcell : (wr.setCell ⟨b2, 0, none⟩ (.slice sa R.length sc)).cell? ⟨b2, 0, none⟩ = some (.slice sa R.length sc) := by
        rw [cell_of_row _ b2 0 _ _ _ (heap_setCell_same wr b2 0 _ _ (.slice sa R.length sc) hb2)]
        simp
      have CS : Chg [b2] wr (wr.setCell ⟨b2, 0, none⟩ (.slice sa R.length sc)) := (Chg.refl [b2] wr).setCell (p := ⟨b2, 0, none⟩) (.inl (by simp)) _
      have hlt2 : ∀ b, W1.heap.size ≤ b → b ∉ [b2] := fun b hb hx => by have h1 := H1.out.2.1.lt; have h2 : b = b2 := List.mem_singleton.1 hx; omega
      have hFs : FnsAt (wr.setCell ⟨b2, 0, none⟩ (.slice sa R.length sc)) (.slice sa R.length sc) (R.map (·.1)) := fns_of (owns_chg hM.row CS (fun b hb => hlt2 b (hM.ne b hb).2)) (fun x hx => (hR x hx).1.chg CS (fun b hb hx2 => by have h1 := ((hR x hx).2.2 b hb).2.1; have h3 := H1.out.2.2.1; have h2 : b = b2 := List.mem_singleton.1 hx2; omega))
      have hfin : ∀ f ∈ R.map (·.1), FnFine f := fun f hf => by
        obtain ⟨x, hx, rfl⟩ := List.mem_map.1 hf
        exact (hR x hx).2.1
      have hUe : Up w (wr.setCell ⟨b2, 0, none⟩ (.slice sa R.length sc)) := up_of hUw CS (fun b hb => by have h1 := H1.out.2.2.2; rw [List.mem_singleton.1 hb]; omega)
      have HE : Hid (FnsAt (wr.setCell ⟨b2, 0, none⟩ (.slice sa R.length sc)) (.slice sa R.length sc) (R.map (·.1)) ∧ (∀ f ∈ R.map (·.1), FnFine f) ∧ Up w (wr.setCell ⟨b2, 0, none⟩ (.slice sa R.length sc))) := ⟨hFs, hfin, hUe⟩
      clear hFs hfin hUe hM hR hUw
      go_wp2_with fail
      exact bodyPost_ret (v := .agg #[.slice sa R.length sc]) (by simp [results, Tryz.results6, go_sem, hcell]) rfl ⟨.slice sa R.length sc, rfl, _, HE.out⟩
end Go.Proofs.YtffcdoiikefpcaaGreatDoor.vl
