/- The law's wrong, walked op by op to where its two loops begin (printed by vw_gen.py). -/
import Derived.Test.YtffcdoiikefpcaaGreatDoorVc
import Derived.Deep.AppendLies
import Derived.ArgAppend
import Derived.Deep.CutBlock
set_option linter.unusedVariables false
set_option linter.unusedSimpArgs false
namespace Go.Proofs.YtffcdoiikefpcaaGreatDoor.vl
open Go.RowKit Go.Maps mem
attribute [local go_sem ↓] Go.wp_at_zero Go.wp_at_succ
set_option maxRecDepth 100000
set_option maxHeartbeats 1000000
theorem ints_nil (w : World) : IntsAt w (.slice none 0 0) [] := ⟨none, 0, rfl, .inl rfl⟩
theorem three_new (w : World) (c1 c5 c4 : Array Value) (t1 t5 t4 : TypeId) : Blk (((w.alloc (.cells c1 t1)).alloc (.cells c5 t5)).alloc (.cells c4 t4)) w.heap.size c1 t1 ∧ Blk (((w.alloc (.cells c1 t1)).alloc (.cells c5 t5)).alloc (.cells c4 t4)) (w.heap.size + 1) c5 t5 ∧ Blk (((w.alloc (.cells c1 t1)).alloc (.cells c5 t5)).alloc (.cells c4 t4)) (w.heap.size + 1 + 1) c4 t4 ∧ Up w (((w.alloc (.cells c1 t1)).alloc (.cells c5 t5)).alloc (.cells c4 t4)) := by
  obtain ⟨h1, h2, h3⟩ := two_new w c1 c5 t1 t5
  refine ⟨h1.chg ((Up.refl _).alloc _).chg (by simp), h2.chg ((Up.refl _).alloc _).chg (by simp), ?_, h3.alloc _⟩
  have h := Blk.new ((w.alloc (.cells c1 t1)).alloc (.cells c5 t5)) c4 t4
  rw [World.size_alloc, World.size_alloc] at h
  exact h
theorem infoI : (Tryz.prog.info? 3).map (fun i => (i.zero, i.size, i.bytes)) = some (some (.int .i64 0), 1, 8) := by kernel_rfl
theorem info_of {o : Option TypeInfo} {z : Option Value} {s b : Nat} (h : o.map (fun i => (i.zero, i.size, i.bytes)) = some (z, s, b)) : ∃ i, o = some i ∧ i.zero = z ∧ i.size = s ∧ i.bytes = b := by
  cases o with
  | none => cases h
  | some i => cases h; exact ⟨i, rfl, rfl, rfl, rfl⟩
theorem up_grown {w w' : World} (h : w.grownBy w' none) : Up w w' := by
  obtain ⟨a, b, c, d, e⟩ := h
  exact ⟨a, b, c, d, fun k hk => e k hk (by simp)⟩
/-- append([]int{y}, l...) -/
theorem run_append_ints (w : World) (ty : TypeId) (b : Nat) (y : Int) (hb : w.cell? ⟨b, 0, none⟩ = some (.int .i64 y)) (hv : Value) (l : List Int) (hl : IntsAt w hv l) (hn : l.length ≤ 1000000) :
    ∃ v' w', (Builtin.append_ #[39, 39] ty #[.slice (some ⟨b, 0, none⟩) 1 1, hv]).run Tryz.prog w = .ok v' w' ∧ Up w w' ∧ IntsAt w' v' (y :: l) := by
  obtain ⟨a, cap, rfl, h⟩ := hl
  obtain ⟨iV, hi, hz0, hz1, hz2⟩ := info_of infoI
  by_cases h0 : l.length = 0
  · refine ⟨.slice (some ⟨b, 0, none⟩) 1 1, w, ?_, Up.refl w, ?_⟩
    · rw [h0]
      cases a <;> simp [Builtin.append_, run_underlying Tryz.underlying39, sizeOf, typeInfo, hi, Builtin.lenOf, Builtin.firstCells, loadCells, loadCellsFrom, storeCells, Addr.add, hz1]
    · have hl0 : l = [] := List.length_eq_zero_iff.1 h0
      subst hl0
      exact ⟨some ⟨b, 0, none⟩, 1, rfl, .inr ⟨b, 0, rfl, World.block_lt_of_cell? w _ hb, fun i x hx => by
        cases i with
        | zero => cases hx; exact hb
        | succ i => cases hx⟩⟩
  · obtain ⟨hb2, off, rfl, hlt, hx⟩ := h.resolve_left h0
    obtain ⟨v', w', hr, ho, hg⟩ := run_append_arg_grows (P := Tryz.prog) w 39 ty 3 iV _ 1 8 Tryz.underlying39 hi hz0 hz1 hz2 rfl (by decide) ⟨b, 0, none⟩ 1 1 [.int .i64 y] rfl
      (fun j u hu => by
        have hadd : (⟨b, 0, none⟩ : Addr).add j = ⟨b, j, none⟩ := by unfold Addr.add; split <;> simp_all
        rw [hadd]
        cases j with
        | zero => cases hu; exact hb
        | succ j => cases hu)
      ⟨hb2, off, none⟩ l.length cap (l.map (Value.int .i64)) (by simp)
      (fun j u hu => by
        rw [List.getElem?_map] at hu
        cases hy : l[j]? with
        | none => rw [hy] at hu; cases hu
        | some x =>
          rw [hy] at hu
          cases hu
          have hadd : (⟨hb2, off, none⟩ : Addr).add j = ⟨hb2, off + j, none⟩ := by unfold Addr.add; split <;> simp_all
          rw [hadd]
          exact hx j x hy)
      (by omega) (by unfold maxLen; omega) (by omega)
    refine ⟨v', w', hr, up_grown hg, ?_⟩
    obtain ⟨g, c, rfl, -, hgl⟩ := ho.form (by omega)
    refine ⟨some ⟨g, 0, none⟩, c, by rw [show (y :: l).length = 1 + l.length by simp [Nat.add_comm]], .inr ⟨g, 0, rfl, hgl, fun i x hxi => ?_⟩⟩
    have hil := (List.getElem?_eq_some_iff.1 hxi).1
    have hil2 : i < 1 + l.length := by simpa [Nat.add_comm] using hil
    rw [Nat.zero_add, World.ownsRow.cellAt ho i (by omega)]
    show ((y :: l).map (Value.int .i64))[i]? = _
    rw [List.getElem?_map, hxi]
    rfl
theorem step_append_ints {ops : Array Oper} {o : Oper} {a : Act} {w : World} {K : Act → World → Prop} {Q : Exit → Act → World → Prop} {E : Prop} (hgd : o.guard = none) (s x : Operand)
    (ho : o.op = .call { callee := .builtin .append, args := #[s, x], argTypes := #[39, 39] }) (b : Nat) (y : Int) (hs : a.eval s = .slice (some ⟨b, 0, none⟩) 1 1) (hb : w.cell? ⟨b, 0, none⟩ = some (.int .i64 y))
    (hv : Value) (l : List Int) (hx : a.eval x = hv) (hl : IntsAt w hv l) (hn : l.length ≤ 1000000) (h : ∀ v' w', Up w w' → IntsAt w' v' (y :: l) → K (a.put o.dst v') w') :
    if Region.wanted o (yielded ops a.tmps) = true then Oper.wp Tryz.prog o a w K Q else E := by
  have hw : Region.wanted o (yielded ops a.tmps) = true := by simp [Region.wanted, hgd]
  rw [if_pos hw]
  obtain ⟨v', w', hr, hu, hi⟩ := run_append_ints w o.type b y hb hv l hl hn
  unfold Oper.wp execOp
  simp only [ho, resolve, invoke, builtin, Sem.run_bind, Sem.run_pure, Result.andThen_ok, List.map_toArray, List.map_cons, List.map_nil, hs, hx, hr]
  exact h v' w' hu hi
theorem all_snoc {n : Nat} {x : Int} {l : List Int} {t : Nat} (h : l[t]? = some x) : (l.take (t + 1)).all (toOk n) = ((l.take t).all (toOk n) && toOk n x) := by
  rw [List.take_add_one, h, List.all_append]
  simp
theorem all_no {n : Nat} {x : Int} {l : List Int} {t : Nat} (h : l[t]? = some x) (hx : toOk n x = false) : l.all (toOk n) = false := by
  rw [List.all_eq_false]
  exact ⟨x, List.mem_of_getElem? h, by rw [hx]; decide⟩
theorem ints_new2 (w : World) (o : Obj) (x : Int) (t : TypeId) : IntsAt ((w.alloc o).alloc (.cells #[.int .i64 x] t)) (.slice (some ⟨w.heap.size + 1, 0, none⟩) 1 1) [x] := by
  have h := ints_new (w.alloc o) [x] t
  rw [World.size_alloc] at h
  exact h
theorem wrong_x (Fs : List Fn) (f : Fn) (mv hv cv dv : Value) (x : Ins) (w : World) (hF : FnsAt w mv Fs) (hf : FnIs w f hv cv dv) (hh : ∀ g ∈ Fs, g.held.length ≤ 1000000) (ho : 0 ≤ x.op ∧ x.op ≤ 23) (hb : -4000000000 ≤ x.b ∧ x.b ≤ 4000000000) (hc : -4000000000 ≤ x.c ∧ x.c ≤ 4000000000) :
    Calls Tryz.prog 12 #[.agg #[mv], .agg #[.int .i64 f.params, hv, .int .i64 f.regs, cv, dv], .agg #[.int .u8 x.op, .int .i64 x.a, .int .i64 x.b, .int .i64 x.c]] w fun e w' => e = .returned (.bool (!insOk Fs f x)) ∧ Up w w' := by
  obtain ⟨-, ⟨ca, cc, rfl⟩, da, dc, rfl, -⟩ := hf
  obtain ⟨ma, mc, rfl, hm⟩ := hF
  obtain ⟨op, a, b, c⟩ := x
  simp only at ho hb hc ⊢
  have HM := Lib.hid (And.intro hm hh)
  clear hm hh
  go_enter Tryz.func12, Tryz.ntmps12
  go_upto_region 1 with (fail)
  obtain ⟨B3, B4, B5, U3⟩ := three_new w #[.slice ma Fs.length mc] #[.int .i64 f.params, hv, .int .i64 f.regs, .slice ca f.consts cc, .slice da f.code.length dc] #[.int .u8 op, .int .i64 a, .int .i64 b, .int .i64 c] 31 42 45
  generalize World.alloc (World.alloc (World.alloc w _) _) _ = W3 at B3 B4 B5 U3 ⊢
  generalize w.heap.size + 1 + 1 = b5 at B5 ⊢
  generalize w.heap.size + 1 = b4 at B4 ⊢
  generalize w.heap.size = b3 at B3 ⊢
  have d0 : W3.cell? ⟨b3, 0, none⟩ = some (.slice ma Fs.length mc) := B3.cell 0
  have f2 : W3.cell? ⟨b4, 2, none⟩ = some (.int .i64 f.regs) := B4.cell 2
  have f3 : W3.cell? ⟨b4, 3, none⟩ = some (.slice ca f.consts cc) := B4.cell 3
  have f4 : W3.cell? ⟨b4, 4, none⟩ = some (.slice da f.code.length dc) := B4.cell 4
  have e0 : W3.cell? ⟨b5, 0, none⟩ = some (.int .u8 op) := B5.cell 0
  have e1 : W3.cell? ⟨b5, 1, none⟩ = some (.int .i64 a) := B5.cell 1
  have e2 : W3.cell? ⟨b5, 2, none⟩ = some (.int .i64 b) := B5.cell 2
  have e3 : W3.cell? ⟨b5, 3, none⟩ = some (.int .i64 c) := B5.cell 3
  have HU : Hid (Blk W3 b4 #[.int .i64 f.params, hv, .int .i64 f.regs, .slice ca f.consts cc, .slice da f.code.length dc] 42) := B4
  have l3 : b3 < W3.heap.size := B3.lt
  have l4 : b4 < W3.heap.size := B4.lt
  have l5 : b5 < W3.heap.size := B5.lt
  have U3 := Lib.hid U3
  clear B3 B4 B5
  go_upto_block 0 with (fail)
  go_cut [7, 8] from 15 to 118 (fun rv pv wx => ∃ rl pl : List Int, IntsAt wx rv rl ∧ IntsAt wx pv pl ∧ rl.length ≤ 2000000 ∧ pl.length ≤ 2000000 ∧ Up W3 wx ∧ insOk Fs f ⟨op, a, b, c⟩ = (allR f.regs rl && pl.all (toOk f.code.length)))
  case first =>
    obtain rfl | rfl | rfl | rfl | rfl | rfl | rfl | rfl | rfl | rfl | rfl | rfl | rfl | rfl | rfl | rfl | rfl | rfl | rfl | rfl | rfl | rfl | rfl | rfl : op = 0 ∨ op = 1 ∨ op = 2 ∨ op = 3 ∨ op = 4 ∨ op = 5 ∨ op = 6 ∨ op = 7 ∨ op = 8 ∨ op = 9 ∨ op = 10 ∨ op = 11 ∨ op = 12 ∨ op = 13 ∨ op = 14 ∨ op = 15 ∨ op = 16 ∨ op = 17 ∨ op = 18 ∨ op = 19 ∨ op = 20 ∨ op = 21 ∨ op = 22 ∨ op = 23 := by omega
    · by_cases h0 : b < 0
      · have i0 : decide (b < 0) = true := by simpa using h0
        have e9 : ¬ 0 ≤ b := by omega
        have hI : insOk Fs f ⟨0, a, b, c⟩ = false := by simp [insOk, e9]
        go_wp2_with fail
        go_ret
        exact ⟨(by first | rfl | (rw [hI]; rfl)), Up.trans U3.out ((Up.refl _).alloc _)⟩
      have i0 : decide (b < 0) = false := by simpa using h0
      by_cases h1 : (f.consts : Int) ≤ b
      · have i1 : decide ((f.consts : Int) ≤ b) = true := by simpa using h1
        have e9 : ¬ b < (f.consts : Int) := by omega
        have hI : insOk Fs f ⟨0, a, b, c⟩ = false := by simp [insOk, e9]
        go_wp2_with fail
        go_ret
        exact ⟨(by first | rfl | (rw [hI]; rfl)), Up.trans U3.out ((Up.refl _).alloc _)⟩
      have i1 : decide ((f.consts : Int) ≤ b) = false := by simpa using h1
      have hI : insOk Fs f ⟨0, a, b, c⟩ = (allR f.regs [a] && [].all (toOk f.code.length)) := by
        have e0 : 0 ≤ b := by omega
        have e1 : b < (f.consts : Int) := by omega
        simp [insOk, allR, e0, e1]
      go_wp2_with fail
      go_meet
      exact ⟨[a], [], ints_new _ [a] _, ints_nil _, by simp, by simp, (Up.refl _).alloc _, hI⟩
    · have hI : insOk Fs f ⟨1, a, b, c⟩ = (allR f.regs [a, b] && [].all (toOk f.code.length)) := by simp [insOk, allR]
      go_wp2_with fail
      go_meet
      exact ⟨[a, b], [], ints_new _ [a, b] _, ints_nil _, by simp, by simp, (Up.refl _).alloc _, hI⟩
    · have hI : insOk Fs f ⟨2, a, b, c⟩ = (allR f.regs [a] && [].all (toOk f.code.length)) := by simp [insOk, allR]
      go_wp2_with fail
      go_meet
      exact ⟨[a], [], ints_new _ [a] _, ints_nil _, by simp, by simp, (Up.refl _).alloc _, hI⟩
    · have hI : insOk Fs f ⟨3, a, b, c⟩ = (allR f.regs [a, b, c] && [].all (toOk f.code.length)) := by simp [insOk, allR, Bool.and_assoc]
      go_wp2_with fail
      go_meet
      exact ⟨[a, b, c], [], ints_new _ [a, b, c] _, ints_nil _, by simp, by simp, (Up.refl _).alloc _, hI⟩
    · have hI : insOk Fs f ⟨4, a, b, c⟩ = (allR f.regs [a, b, c] && [].all (toOk f.code.length)) := by simp [insOk, allR, Bool.and_assoc]
      go_wp2_with fail
      go_meet
      exact ⟨[a, b, c], [], ints_new _ [a, b, c] _, ints_nil _, by simp, by simp, (Up.refl _).alloc _, hI⟩
    · by_cases h0 : b < 1
      · have i0 : decide (b < 1) = true := by simpa using h0
        have hI : insOk Fs f ⟨5, a, b, c⟩ = false := by
          have e9 : ¬ 0 < b := by omega
          simp [insOk, e9]
        go_wp2_with fail
        go_ret
        exact ⟨(by first | rfl | (rw [hI]; rfl)), Up.trans U3.out (Up.refl _)⟩
      have i0 : decide (b < 1) = false := by simpa using h0
      by_cases h1 : (Fs.length : Int) ≤ b
      · have i1 : decide ((Fs.length : Int) ≤ b) = true := by simpa using h1
        have hI : insOk Fs f ⟨5, a, b, c⟩ = false := by
          have e9 : ¬ b < (Fs.length : Int) := by omega
          simp [insOk, e9]
        go_wp2_with fail
        go_ret
        exact ⟨(by first | rfl | (rw [hI]; rfl)), Up.trans U3.out (Up.refl _)⟩
      have i1 : decide ((Fs.length : Int) ≤ b) = false := by simpa using h1
      obtain ⟨k, rfl⟩ : ∃ k : Nat, b = (k : Int) := ⟨b.toNat, by omega⟩
      obtain ⟨gb, goff, rfl, hgb, hx⟩ := HM.out.1.resolve_left (by omega)
      obtain ⟨g, hg⟩ : ∃ g, Fs[k]? = some g := ⟨_, List.getElem?_eq_getElem (by omega)⟩
      obtain ⟨hv', cv', dv', h1', h2, h3, h4, h5, h6⟩ := (hx k g hg).up U3.out
      have HG : Hid (IntsAt W3 hv' g.held ∧ g.held.length ≤ 1000000) := ⟨h1'.1, HM.out.2 g (List.mem_of_getElem? hg)⟩
      have hI : insOk Fs f ⟨5, a, (k : Int), c⟩ = (allR f.regs (a :: g.held) && [].all (toOk f.code.length)) := by
        have hg2 : heldOf Fs k = g.held := by unfold heldOf; rw [hg]
        have e8 : 0 < k := by omega
        have e9 : k < Fs.length := by omega
        simp [insOk, allR, e8, e9, hg2]
      have i2 : (k : Int) < (Fs.length : Int) := by omega
      have i3 : k < Fs.length := by omega
      have i4 : ¬ (k : Int) < 1 := by omega
      have i5 : 0 < k := by omega
      have i6 : decide (Fs.length ≤ k) = false := by simp; omega
      have HS : Hid (∀ w', Up W3 w' → w'.cell? ⟨b3, 0, none⟩ = some (.slice (some ⟨gb, goff, none⟩) Fs.length mc) ∧ w'.cell? ⟨b5, 1, none⟩ = some (.int .i64 a) ∧ w'.cell? ⟨b5, 2, none⟩ = some (.int .i64 (k : Int)) ∧ w'.cell? ⟨gb, goff + k * 5 + 1, none⟩ = some hv') := fun w' hu => ⟨up_cell hu d0, up_cell hu e1, up_cell hu e2, up_cell hu h3⟩
      clear h1' h2 h4 h5 h6 hx hg h1 h0
      go_upto_region 28 with (fail)
      clear e0 e1 e2 e3 f2 f4 d0 h3
      refine AnyT.start (S := fun w' => w'.cell? ⟨b3, 0, none⟩ = some (.slice (some ⟨gb, goff, none⟩) Fs.length mc) ∧ w'.cell? ⟨b5, 1, none⟩ = some (.int .i64 a) ∧ w'.cell? ⟨b5, 2, none⟩ = some (.int .i64 (k : Int)) ∧ w'.cell? ⟨gb, goff + k * 5 + 1, none⟩ = some hv') 12 (by kernel_rfl) (HS.out _ (Up.refl W3).drew) (fun hHeld => ?_)
      have hUd : Up W3 W3.drew := (Up.refl W3).drew
      generalize World.drew W3 = wd at hUd hHeld ⊢
      refine AnyT.pick (i := 0) (oi := ⟨_, _, _, _, _, _⟩) (v := ?_) rfl (by kernel_rfl) (by kernel_rfl) (by kernel_rfl) (fun _ _ _ h => h) (Or.inl ⟨by rfl, ?y0_1⟩) ?_
      case' y0_1 => ((intro w hSw; go_simp) <;> (with_reducible rfl))
      try simp only [Act.put, List.setIfInBounds_toArray, List.set_cons_zero, List.set_cons_succ]
      refine AnyT.take (i := 1) (oi := ⟨_, _, _, _, _, _⟩) (v := ?_) rfl (by kernel_rfl) (by kernel_rfl) (by kernel_rfl) (by kernel_rfl) (fun _ _ _ h => h) (Or.inl ⟨by rfl, ?y1_2⟩) (by assumption) ?_
      case' y1_2 => ((intro w hSw; (try dsimp only at hSw); go_simp) <;> (with_reducible rfl))
      try simp only [Act.put, List.setIfInBounds_toArray, List.set_cons_zero, List.set_cons_succ]
      refine AnyT.pick (i := 3) (oi := ⟨_, _, _, _, _, _⟩) (v := ?_) rfl (by kernel_rfl) (by kernel_rfl) (by kernel_rfl) (fun _ _ _ h => h) (Or.inl ⟨by rfl, ?y3_3⟩) ?_
      case' y3_3 => ((intro w hSw; go_simp) <;> (with_reducible rfl))
      try simp only [Act.put, List.setIfInBounds_toArray, List.set_cons_zero, List.set_cons_succ]
      refine AnyT.take (i := 4) (oi := ⟨_, _, _, _, _, _⟩) (v := ?_) rfl (by kernel_rfl) (by kernel_rfl) (by kernel_rfl) (by kernel_rfl) (fun _ _ _ h => h) (Or.inl ⟨by rfl, ?y4_4⟩) (by assumption) ?_
      case' y4_4 => ((intro w hSw; (try dsimp only at hSw); go_simp) <;> (with_reducible rfl))
      try simp only [Act.put, List.setIfInBounds_toArray, List.set_cons_zero, List.set_cons_succ]
      refine AnyT.pick (i := 5) (oi := ⟨_, _, _, _, _, _⟩) (v := ?_) rfl (by kernel_rfl) (by kernel_rfl) (by kernel_rfl) (fun _ _ _ h => h) (Or.inl ⟨by rfl, ?y5_5⟩) ?_
      case' y5_5 => ((intro w hSw; go_simp) <;> (with_reducible rfl))
      try simp only [Act.put, List.setIfInBounds_toArray, List.set_cons_zero, List.set_cons_succ]
      refine AnyT.take (i := 6) (oi := ⟨_, _, _, _, _, _⟩) (v := ?_) rfl (by kernel_rfl) (by kernel_rfl) (by kernel_rfl) (by kernel_rfl) (fun _ _ _ h => h) (Or.inl ⟨by rfl, ?y6_6⟩) (by assumption) ?_
      case' y6_6 => ((intro w hSw; (try dsimp only at hSw); go_simp) <;> (with_reducible rfl))
      try simp only [Act.put, List.setIfInBounds_toArray, List.set_cons_zero, List.set_cons_succ]
      refine AnyT.pick (i := 7) (oi := ⟨_, _, _, _, _, _⟩) (v := ?_) rfl (by kernel_rfl) (by kernel_rfl) (by kernel_rfl) (fun _ _ _ h => h) (Or.inl ⟨by rfl, ?y7_7⟩) ?_
      case' y7_7 => ((intro w hSw; go_simp) <;> (with_reducible rfl))
      try simp only [Act.put, List.setIfInBounds_toArray, List.set_cons_zero, List.set_cons_succ]
      refine AnyT.pick (i := 8) (oi := ⟨_, _, _, _, _, _⟩) (v := ?_) rfl (by kernel_rfl) (by kernel_rfl) (by kernel_rfl) (fun _ _ _ h => h) (Or.inl ⟨by rfl, ?y8_8⟩) ?_
      case' y8_8 => ((intro w hSw; go_simp) <;> (with_reducible rfl))
      try simp only [Act.put, List.setIfInBounds_toArray, List.set_cons_zero, List.set_cons_succ]
      refine AnyT.take (i := 9) (oi := ⟨_, _, _, _, _, _⟩) (v := ?_) rfl (by kernel_rfl) (by kernel_rfl) (by kernel_rfl) (by kernel_rfl) (fun _ _ _ h => h) (Or.inl ⟨by rfl, ?y9_9⟩) (by assumption) ?_
      case' y9_9 => ((intro w hSw; (try dsimp only at hSw); go_simp) <;> (with_reducible rfl))
      try simp only [Act.put, List.setIfInBounds_toArray, List.set_cons_zero, List.set_cons_succ]
      refine AllT.go (rs := [2]) (by kernel_rfl) (by simp) ?_
      refine AllT.early (o := ⟨_, _, _, _, _, _⟩) rfl (fun K hK => ?_) ?_
      · go_simp
        refine hK.out _ _ (HS.out _ (hUd.alloc _)) (fun _ => ?_)
        clear hK K
        try simp only [Act.put, List.setIfInBounds_toArray, List.set_cons_zero, List.set_cons_succ]
        refine AllT.go (rs := [10]) (by kernel_rfl) (by simp) ?_
        refine AllT.early (o := ⟨_, _, _, _, _, _⟩) rfl (fun K hK => ?_) ?_
        · refine step_append_ints rfl (.tmp 78) (.tmp 85) rfl wd.heap.size a rfl ((Blk.new wd #[.int .i64 a] 3).cell 0) hv' g.held rfl (HG.out.1.up (hUd.alloc _)) HG.out.2 ?_
          intro v' w5 hU5 hI5
          refine hK.out _ _ (HS.out _ (Up.trans (hUd.alloc _) hU5)) (fun _ => ?_)
          clear hK K
          try simp only [Act.put, List.setIfInBounds_toArray, List.set_cons_zero, List.set_cons_succ]
          refine AnyT.pick (i := 11) (oi := ⟨_, _, _, _, _, _⟩) (v := ?_) rfl (by kernel_rfl) (by kernel_rfl) (by kernel_rfl) (fun _ _ _ h => h) (Or.inl ⟨by rfl, ?y11_10⟩) ?_
          case' y11_10 => ((intro w hSw; go_simp) <;> (with_reducible rfl))
          try simp only [Act.put, List.setIfInBounds_toArray, List.set_cons_zero, List.set_cons_succ]
          refine AnyT.done (by kernel_rfl) ?_ _
          go_wp2_with fail
          go_meet
          exact ⟨a :: g.held, [], hI5, ints_nil _, by have h9 := HG.out.2; simp; omega, by simp, Up.trans (hUd.alloc _) hU5, hI⟩
        exact AllT.nil
      exact AllT.nil
    · have hwb : IntKind.i64.wrap (b + c) = b + c := by rw [IntKind.wrap_i64] <;> omega
      by_cases h0 : c < 0
      · have i0 : decide (c < 0) = true := by simpa using h0
        have e9 : ¬ 0 ≤ c := by omega
        have hI : insOk Fs f ⟨6, a, b, c⟩ = false := by simp [insOk, e9]
        go_wp2_with fail
        go_ret
        exact ⟨(by first | rfl | (rw [hI]; rfl)), Up.trans U3.out ((Up.refl _).alloc _)⟩
      have i0 : decide (c < 0) = false := by simpa using h0
      have hI : insOk Fs f ⟨6, a, b, c⟩ = (allR f.regs [a, b, b + c] && [].all (toOk f.code.length)) := by
        rw [Bool.eq_iff_iff]
        simp [insOk, allR, rOk]
        omega
      go_wp2_with fail
      go_meet
      exact ⟨[a, b, b + c], [], ints_new _ [a, b, b + c] _, ints_nil _, by simp, by simp, (Up.refl _).alloc _, hI⟩
    · have hI : insOk Fs f ⟨7, a, b, c⟩ = (allR f.regs [a, b] && [].all (toOk f.code.length)) := by simp [insOk, allR]
      go_wp2_with fail
      go_meet
      exact ⟨[a, b], [], ints_new _ [a, b] _, ints_nil _, by simp, by simp, (Up.refl _).alloc _, hI⟩
    · have hI : insOk Fs f ⟨8, a, b, c⟩ = (allR f.regs [a, b] && [].all (toOk f.code.length)) := by simp [insOk, allR]
      go_wp2_with fail
      go_meet
      exact ⟨[a, b], [], ints_new _ [a, b] _, ints_nil _, by simp, by simp, (Up.refl _).alloc _, hI⟩
    · have hI : insOk Fs f ⟨9, a, b, c⟩ = (allR f.regs [a, b, c] && [].all (toOk f.code.length)) := by simp [insOk, allR, Bool.and_assoc]
      go_wp2_with fail
      go_meet
      exact ⟨[a, b, c], [], ints_new _ [a, b, c] _, ints_nil _, by simp, by simp, (Up.refl _).alloc _, hI⟩
    · have hI : insOk Fs f ⟨10, a, b, c⟩ = (allR f.regs [a, b, c] && [].all (toOk f.code.length)) := by simp [insOk, allR, Bool.and_assoc]
      go_wp2_with fail
      go_meet
      exact ⟨[a, b, c], [], ints_new _ [a, b, c] _, ints_nil _, by simp, by simp, (Up.refl _).alloc _, hI⟩
    · have hI : insOk Fs f ⟨11, a, b, c⟩ = (allR f.regs [a, b, c] && [].all (toOk f.code.length)) := by simp [insOk, allR, Bool.and_assoc]
      go_wp2_with fail
      go_meet
      exact ⟨[a, b, c], [], ints_new _ [a, b, c] _, ints_nil _, by simp, by simp, (Up.refl _).alloc _, hI⟩
    · have hI : insOk Fs f ⟨12, a, b, c⟩ = (allR f.regs [a, b, c] && [].all (toOk f.code.length)) := by simp [insOk, allR, Bool.and_assoc]
      go_wp2_with fail
      go_meet
      exact ⟨[a, b, c], [], ints_new _ [a, b, c] _, ints_nil _, by simp, by simp, (Up.refl _).alloc _, hI⟩
    · have hI : insOk Fs f ⟨13, a, b, c⟩ = (allR f.regs [a, b, c] && [].all (toOk f.code.length)) := by simp [insOk, allR, Bool.and_assoc]
      go_wp2_with fail
      go_meet
      exact ⟨[a, b, c], [], ints_new _ [a, b, c] _, ints_nil _, by simp, by simp, (Up.refl _).alloc _, hI⟩
    · have hI : insOk Fs f ⟨14, a, b, c⟩ = (allR f.regs [a, b, c] && [].all (toOk f.code.length)) := by simp [insOk, allR, Bool.and_assoc]
      go_wp2_with fail
      go_meet
      exact ⟨[a, b, c], [], ints_new _ [a, b, c] _, ints_nil _, by simp, by simp, (Up.refl _).alloc _, hI⟩
    · have hI : insOk Fs f ⟨15, a, b, c⟩ = (allR f.regs [] && [a].all (toOk f.code.length)) := by simp [insOk, allR]
      go_wp2_with fail
      go_meet
      exact ⟨[], [a], ints_nil _, ints_new _ [a] _, by simp, by simp, (Up.refl _).alloc _, hI⟩
    · have hI : insOk Fs f ⟨16, a, b, c⟩ = (allR f.regs [] && [a].all (toOk f.code.length)) := by simp [insOk, allR]
      go_wp2_with fail
      go_meet
      exact ⟨[], [a], ints_nil _, ints_new _ [a] _, by simp, by simp, (Up.refl _).alloc _, hI⟩
    · have hI : insOk Fs f ⟨17, a, b, c⟩ = (allR f.regs [a] && [b].all (toOk f.code.length)) := by simp [insOk, allR]
      have HS : Hid (∀ w', Up W3 w' → w'.cell? ⟨b5, 1, none⟩ = some (.int .i64 a) ∧ w'.cell? ⟨b5, 2, none⟩ = some (.int .i64 b)) := fun w' hu => ⟨up_cell hu e1, up_cell hu e2⟩
      go_upto_region 38 with (fail)
      clear e0 e1 e2 e3 f2 f4
      refine AnyT.start (S := fun w' => w'.cell? ⟨b5, 1, none⟩ = some (.int .i64 a) ∧ w'.cell? ⟨b5, 2, none⟩ = some (.int .i64 b)) 8 (by kernel_rfl) (HS.out _ (Up.refl W3).drew) (fun hHeld => ?_)
      have hUd : Up W3 W3.drew := (Up.refl W3).drew
      generalize World.drew W3 = wd at hUd hHeld ⊢
      refine AnyT.pick (i := 0) (oi := ⟨_, _, _, _, _, _⟩) (v := ?_) rfl (by kernel_rfl) (by kernel_rfl) (by kernel_rfl) (fun _ _ _ h => h) (Or.inl ⟨by rfl, ?y0_11⟩) ?_
      case' y0_11 => ((intro w hSw; go_simp) <;> (with_reducible rfl))
      try simp only [Act.put, List.setIfInBounds_toArray, List.set_cons_zero, List.set_cons_succ]
      refine AnyT.take (i := 1) (oi := ⟨_, _, _, _, _, _⟩) (v := ?_) rfl (by kernel_rfl) (by kernel_rfl) (by kernel_rfl) (by kernel_rfl) (fun _ _ _ h => h) (Or.inl ⟨by rfl, ?y1_12⟩) (by assumption) ?_
      case' y1_12 => ((intro w hSw; (try dsimp only at hSw); go_simp) <;> (with_reducible rfl))
      try simp only [Act.put, List.setIfInBounds_toArray, List.set_cons_zero, List.set_cons_succ]
      refine AnyT.pick (i := 3) (oi := ⟨_, _, _, _, _, _⟩) (v := ?_) rfl (by kernel_rfl) (by kernel_rfl) (by kernel_rfl) (fun _ _ _ h => h) (Or.inl ⟨by rfl, ?y3_13⟩) ?_
      case' y3_13 => ((intro w hSw; go_simp) <;> (with_reducible rfl))
      try simp only [Act.put, List.setIfInBounds_toArray, List.set_cons_zero, List.set_cons_succ]
      refine AnyT.take (i := 4) (oi := ⟨_, _, _, _, _, _⟩) (v := ?_) rfl (by kernel_rfl) (by kernel_rfl) (by kernel_rfl) (by kernel_rfl) (fun _ _ _ h => h) (Or.inl ⟨by rfl, ?y4_14⟩) (by assumption) ?_
      case' y4_14 => ((intro w hSw; (try dsimp only at hSw); go_simp) <;> (with_reducible rfl))
      try simp only [Act.put, List.setIfInBounds_toArray, List.set_cons_zero, List.set_cons_succ]
      refine AllT.go (rs := [2, 5]) (by kernel_rfl) (by simp) ?_
      refine AllT.early (o := ⟨_, _, _, _, _, _⟩) rfl (fun K hK => ?_) ?_
      · go_simp
        refine hK.out _ _ (HS.out _ (hUd.alloc _)) (fun _ => ?_)
        clear hK K
        try simp only [Act.put, List.setIfInBounds_toArray, List.set_cons_zero, List.set_cons_succ]
        refine AnyT.pick (i := 6) (oi := ⟨_, _, _, _, _, _⟩) (v := ?_) rfl (by kernel_rfl) (by kernel_rfl) (by kernel_rfl) (fun _ _ _ h => h) (Or.inl ⟨by rfl, ?y6_15⟩) ?_
        case' y6_15 => ((intro w hSw; go_simp) <;> (with_reducible rfl))
        try simp only [Act.put, List.setIfInBounds_toArray, List.set_cons_zero, List.set_cons_succ]
        refine AllT.go (rs := [5]) (by kernel_rfl) (by simp) ?_
        refine AllT.early (o := ⟨_, _, _, _, _, _⟩) rfl (fun K hK => ?_) ?_
        · go_simp
          refine hK.out _ _ (HS.out _ ((hUd.alloc _).alloc _)) (fun _ => ?_)
          clear hK K
          try simp only [Act.put, List.setIfInBounds_toArray, List.set_cons_zero, List.set_cons_succ]
          refine AnyT.pick (i := 7) (oi := ⟨_, _, _, _, _, _⟩) (v := ?_) rfl (by kernel_rfl) (by kernel_rfl) (by kernel_rfl) (fun _ _ _ h => h) (Or.inl ⟨by rfl, ?y7_16⟩) ?_
          case' y7_16 => ((intro w hSw; go_simp) <;> (with_reducible rfl))
          try simp only [Act.put, List.setIfInBounds_toArray, List.set_cons_zero, List.set_cons_succ]
          refine AnyT.done (by kernel_rfl) ?_ _
          go_wp2_with fail
          go_meet
          exact ⟨[a], [b], (ints_new wd [a] 3).up ((Up.refl _).alloc _), ints_new2 wd _ b 3, by simp, by simp, (hUd.alloc _).alloc _, hI⟩
        exact AllT.nil
      refine AllT.early (o := ⟨_, _, _, _, _, _⟩) rfl (fun K hK => ?_) ?_
      · go_simp
        refine hK.out _ _ (HS.out _ (hUd.alloc _)) (fun _ => ?_)
        clear hK K
        try simp only [Act.put, List.setIfInBounds_toArray, List.set_cons_zero, List.set_cons_succ]
        refine AllT.go (rs := [2]) (by kernel_rfl) (by simp) ?_
        refine AllT.early (o := ⟨_, _, _, _, _, _⟩) rfl (fun K hK => ?_) ?_
        · go_simp
          refine hK.out _ _ (HS.out _ ((hUd.alloc _).alloc _)) (fun _ => ?_)
          clear hK K
          try simp only [Act.put, List.setIfInBounds_toArray, List.set_cons_zero, List.set_cons_succ]
          refine AnyT.pick (i := 6) (oi := ⟨_, _, _, _, _, _⟩) (v := ?_) rfl (by kernel_rfl) (by kernel_rfl) (by kernel_rfl) (fun _ _ _ h => h) (Or.inl ⟨by rfl, ?y6_17⟩) ?_
          case' y6_17 => ((intro w hSw; go_simp) <;> (with_reducible rfl))
          try simp only [Act.put, List.setIfInBounds_toArray, List.set_cons_zero, List.set_cons_succ]
          refine AnyT.pick (i := 7) (oi := ⟨_, _, _, _, _, _⟩) (v := ?_) rfl (by kernel_rfl) (by kernel_rfl) (by kernel_rfl) (fun _ _ _ h => h) (Or.inl ⟨by rfl, ?y7_18⟩) ?_
          case' y7_18 => ((intro w hSw; go_simp) <;> (with_reducible rfl))
          try simp only [Act.put, List.setIfInBounds_toArray, List.set_cons_zero, List.set_cons_succ]
          refine AnyT.done (by kernel_rfl) ?_ _
          go_wp2_with fail
          go_meet
          exact ⟨[a], [b], ints_new2 wd _ a 3, (ints_new wd [b] 3).up ((Up.refl _).alloc _), by simp, by simp, (hUd.alloc _).alloc _, hI⟩
        exact AllT.nil
      exact AllT.nil
    · have hI : insOk Fs f ⟨18, a, b, c⟩ = (allR f.regs [a] && [].all (toOk f.code.length)) := by simp [insOk, allR]
      go_wp2_with fail
      go_meet
      exact ⟨[a], [], ints_new _ [a] _, ints_nil _, by simp, by simp, (Up.refl _).alloc _, hI⟩
    · have hI : insOk Fs f ⟨19, a, b, c⟩ = (allR f.regs [a] && [].all (toOk f.code.length)) := by simp [insOk, allR]
      go_wp2_with fail
      go_meet
      exact ⟨[a], [], ints_new _ [a] _, ints_nil _, by simp, by simp, (Up.refl _).alloc _, hI⟩
    · have hI : insOk Fs f ⟨20, a, b, c⟩ = (allR f.regs [a] && [b].all (toOk f.code.length)) := by simp [insOk, allR]
      have HS : Hid (∀ w', Up W3 w' → w'.cell? ⟨b5, 1, none⟩ = some (.int .i64 a) ∧ w'.cell? ⟨b5, 2, none⟩ = some (.int .i64 b)) := fun w' hu => ⟨up_cell hu e1, up_cell hu e2⟩
      go_upto_region 38 with (fail)
      clear e0 e1 e2 e3 f2 f4
      refine AnyT.start (S := fun w' => w'.cell? ⟨b5, 1, none⟩ = some (.int .i64 a) ∧ w'.cell? ⟨b5, 2, none⟩ = some (.int .i64 b)) 8 (by kernel_rfl) (HS.out _ (Up.refl W3).drew) (fun hHeld => ?_)
      have hUd : Up W3 W3.drew := (Up.refl W3).drew
      generalize World.drew W3 = wd at hUd hHeld ⊢
      refine AnyT.pick (i := 0) (oi := ⟨_, _, _, _, _, _⟩) (v := ?_) rfl (by kernel_rfl) (by kernel_rfl) (by kernel_rfl) (fun _ _ _ h => h) (Or.inl ⟨by rfl, ?y0_19⟩) ?_
      case' y0_19 => ((intro w hSw; go_simp) <;> (with_reducible rfl))
      try simp only [Act.put, List.setIfInBounds_toArray, List.set_cons_zero, List.set_cons_succ]
      refine AnyT.take (i := 1) (oi := ⟨_, _, _, _, _, _⟩) (v := ?_) rfl (by kernel_rfl) (by kernel_rfl) (by kernel_rfl) (by kernel_rfl) (fun _ _ _ h => h) (Or.inl ⟨by rfl, ?y1_20⟩) (by assumption) ?_
      case' y1_20 => ((intro w hSw; (try dsimp only at hSw); go_simp) <;> (with_reducible rfl))
      try simp only [Act.put, List.setIfInBounds_toArray, List.set_cons_zero, List.set_cons_succ]
      refine AnyT.pick (i := 3) (oi := ⟨_, _, _, _, _, _⟩) (v := ?_) rfl (by kernel_rfl) (by kernel_rfl) (by kernel_rfl) (fun _ _ _ h => h) (Or.inl ⟨by rfl, ?y3_21⟩) ?_
      case' y3_21 => ((intro w hSw; go_simp) <;> (with_reducible rfl))
      try simp only [Act.put, List.setIfInBounds_toArray, List.set_cons_zero, List.set_cons_succ]
      refine AnyT.take (i := 4) (oi := ⟨_, _, _, _, _, _⟩) (v := ?_) rfl (by kernel_rfl) (by kernel_rfl) (by kernel_rfl) (by kernel_rfl) (fun _ _ _ h => h) (Or.inl ⟨by rfl, ?y4_22⟩) (by assumption) ?_
      case' y4_22 => ((intro w hSw; (try dsimp only at hSw); go_simp) <;> (with_reducible rfl))
      try simp only [Act.put, List.setIfInBounds_toArray, List.set_cons_zero, List.set_cons_succ]
      refine AllT.go (rs := [2, 5]) (by kernel_rfl) (by simp) ?_
      refine AllT.early (o := ⟨_, _, _, _, _, _⟩) rfl (fun K hK => ?_) ?_
      · go_simp
        refine hK.out _ _ (HS.out _ (hUd.alloc _)) (fun _ => ?_)
        clear hK K
        try simp only [Act.put, List.setIfInBounds_toArray, List.set_cons_zero, List.set_cons_succ]
        refine AnyT.pick (i := 6) (oi := ⟨_, _, _, _, _, _⟩) (v := ?_) rfl (by kernel_rfl) (by kernel_rfl) (by kernel_rfl) (fun _ _ _ h => h) (Or.inl ⟨by rfl, ?y6_23⟩) ?_
        case' y6_23 => ((intro w hSw; go_simp) <;> (with_reducible rfl))
        try simp only [Act.put, List.setIfInBounds_toArray, List.set_cons_zero, List.set_cons_succ]
        refine AllT.go (rs := [5]) (by kernel_rfl) (by simp) ?_
        refine AllT.early (o := ⟨_, _, _, _, _, _⟩) rfl (fun K hK => ?_) ?_
        · go_simp
          refine hK.out _ _ (HS.out _ ((hUd.alloc _).alloc _)) (fun _ => ?_)
          clear hK K
          try simp only [Act.put, List.setIfInBounds_toArray, List.set_cons_zero, List.set_cons_succ]
          refine AnyT.pick (i := 7) (oi := ⟨_, _, _, _, _, _⟩) (v := ?_) rfl (by kernel_rfl) (by kernel_rfl) (by kernel_rfl) (fun _ _ _ h => h) (Or.inl ⟨by rfl, ?y7_24⟩) ?_
          case' y7_24 => ((intro w hSw; go_simp) <;> (with_reducible rfl))
          try simp only [Act.put, List.setIfInBounds_toArray, List.set_cons_zero, List.set_cons_succ]
          refine AnyT.done (by kernel_rfl) ?_ _
          go_wp2_with fail
          go_meet
          exact ⟨[a], [b], (ints_new wd [a] 3).up ((Up.refl _).alloc _), ints_new2 wd _ b 3, by simp, by simp, (hUd.alloc _).alloc _, hI⟩
        exact AllT.nil
      refine AllT.early (o := ⟨_, _, _, _, _, _⟩) rfl (fun K hK => ?_) ?_
      · go_simp
        refine hK.out _ _ (HS.out _ (hUd.alloc _)) (fun _ => ?_)
        clear hK K
        try simp only [Act.put, List.setIfInBounds_toArray, List.set_cons_zero, List.set_cons_succ]
        refine AllT.go (rs := [2]) (by kernel_rfl) (by simp) ?_
        refine AllT.early (o := ⟨_, _, _, _, _, _⟩) rfl (fun K hK => ?_) ?_
        · go_simp
          refine hK.out _ _ (HS.out _ ((hUd.alloc _).alloc _)) (fun _ => ?_)
          clear hK K
          try simp only [Act.put, List.setIfInBounds_toArray, List.set_cons_zero, List.set_cons_succ]
          refine AnyT.pick (i := 6) (oi := ⟨_, _, _, _, _, _⟩) (v := ?_) rfl (by kernel_rfl) (by kernel_rfl) (by kernel_rfl) (fun _ _ _ h => h) (Or.inl ⟨by rfl, ?y6_25⟩) ?_
          case' y6_25 => ((intro w hSw; go_simp) <;> (with_reducible rfl))
          try simp only [Act.put, List.setIfInBounds_toArray, List.set_cons_zero, List.set_cons_succ]
          refine AnyT.pick (i := 7) (oi := ⟨_, _, _, _, _, _⟩) (v := ?_) rfl (by kernel_rfl) (by kernel_rfl) (by kernel_rfl) (fun _ _ _ h => h) (Or.inl ⟨by rfl, ?y7_26⟩) ?_
          case' y7_26 => ((intro w hSw; go_simp) <;> (with_reducible rfl))
          try simp only [Act.put, List.setIfInBounds_toArray, List.set_cons_zero, List.set_cons_succ]
          refine AnyT.done (by kernel_rfl) ?_ _
          go_wp2_with fail
          go_meet
          exact ⟨[a], [b], ints_new2 wd _ a 3, (ints_new wd [b] 3).up ((Up.refl _).alloc _), by simp, by simp, (hUd.alloc _).alloc _, hI⟩
        exact AllT.nil
      exact AllT.nil
    · have hI : insOk Fs f ⟨21, a, b, c⟩ = (allR f.regs [] && [].all (toOk f.code.length)) := by simp [insOk, allR]
      go_wp2_with fail
      go_meet
      exact ⟨[], [], ints_nil _, ints_nil _, by simp, by simp, Up.refl _, hI⟩
    · have hI : insOk Fs f ⟨22, a, b, c⟩ = false := by simp [insOk]
      go_wp2_with fail
      go_ret
      exact ⟨(by first | rfl | (rw [hI]; rfl)), Up.trans U3.out (Up.refl _)⟩
    · have hI : insOk Fs f ⟨23, a, b, c⟩ = false := by simp [insOk]
      go_wp2_with fail
      go_ret
      exact ⟨(by first | rfl | (rw [hI]; rfl)), Up.trans U3.out (Up.refl _)⟩
  case rest =>
    obtain ⟨rl, pl, hr, hp, hrn, hpn, hU, hI⟩ := hcut
    clear d0 f2 f3 f4 e0 e1 e2 e3
    obtain ⟨ra, rc, rfl, hr0⟩ := hr
    obtain ⟨pa, pc, rfl, hp0⟩ := hp
    have HR := Lib.hid hr0
    have HP := Lib.hid hp0
    have HI := Lib.hid hI
    have U4 := Lib.hid hU
    clear hr0 hp0 hI hU
    go_wp2_with fail
    go_loopw [121] (fun i wr => ∃ t : Nat, t ≤ rl.length ∧ i = .int .i64 t ∧ Up wc wr ∧ allR f.regs (rl.take t) = true) (fun i _ => rl.length - (intOf i).toNat)
    case atStart => exact ⟨0, by omega, rfl, Up.refl _, rfl⟩
    case round =>
      obtain ⟨t, ht, rfl, hU, hA⟩ := hrel
      have d3 : wr.cell? ⟨b4, 2, none⟩ = some (.int .i64 f.regs) := up_cell (Up.trans U4.out hU) (HU.out.cell 2)
      by_cases hlt : t < rl.length
      · obtain ⟨qb, off, rfl, hb, hx⟩ := HR.out.resolve_left (by omega)
        obtain ⟨x, hx0⟩ : ∃ x, rl[t]? = some x := ⟨_, List.getElem?_eq_getElem hlt⟩
        have cx := up_cell hU (hx t x hx0)
        have it0 : (t : Int) < (rl.length : Int) := by omega
        clear hx
        by_cases h0 : x < 0
        · have r0 : rOk f.regs x = false := by unfold rOk; simp; omega
          have i0 : decide (x < 0) = true := by simpa using h0
          have hF : insOk Fs f ⟨op, a, b, c⟩ = false := by rw [HI.out, allR_no hx0 r0]; rfl
          go_wp2_with fail
          go_ret
          exact ⟨(by first | rfl | (rw [hF]; rfl)), Up.trans U3.out (Up.trans U4.out hU)⟩
        · have i0 : decide (x < 0) = false := by simpa using h0
          by_cases h1 : f.regs ≤ x
          · have r0 : rOk f.regs x = false := by unfold rOk; simp; omega
            have hF : insOk Fs f ⟨op, a, b, c⟩ = false := by rw [HI.out, allR_no hx0 r0]; rfl
            go_wp2_with fail
            go_ret
            exact ⟨(by first | rfl | (rw [hF]; rfl)), Up.trans U3.out (Up.trans U4.out hU)⟩
          · have r0 : rOk f.regs x = true := by unfold rOk; simp; omega
            have hA2 : allR f.regs (rl.take (t + 1)) = true := by rw [allR_snoc hx0, hA, r0]; rfl
            go_wp2_with fail
            go_roundw
            case rel => exact ⟨t + 1, by omega, by go_num, hU, hA2⟩
            case measure => simp [intOf]; omega
      · have hte : t = rl.length := by omega
        subst hte
        rw [List.take_length] at hA
        have HI2 : Hid (insOk Fs f ⟨op, a, b, c⟩ = pl.all (toOk f.code.length)) := by show _ = _; rw [HI.out, hA]; rfl
        clear hA d3
        obtain ⟨wA, hwA⟩ : ∃ wA, wA = wr := ⟨_, rfl⟩
        subst hwA
        have UA := Lib.hid hU
        clear hU
        go_wp2_with fail
        go_loopw [136] (fun i wr => ∃ t : Nat, t ≤ pl.length ∧ i = .int .i64 t ∧ Up wA wr ∧ (pl.take t).all (toOk f.code.length) = true) (fun i _ => pl.length - (intOf i).toNat)
        case atStart => exact ⟨0, by omega, rfl, Up.refl _, rfl⟩
        case round =>
          obtain ⟨t, ht, rfl, hU, hA⟩ := hrel
          have d3 : wr.cell? ⟨b4, 4, none⟩ = some (.slice da f.code.length dc) := up_cell (Up.trans U4.out (Up.trans UA.out hU)) (HU.out.cell 4)
          by_cases hlt : t < pl.length
          · obtain ⟨qb, off, rfl, hb, hx⟩ := HP.out.resolve_left (by omega)
            obtain ⟨x, hx0⟩ : ∃ x, pl[t]? = some x := ⟨_, List.getElem?_eq_getElem hlt⟩
            have cx := up_cell (Up.trans UA.out hU) (hx t x hx0)
            have it0 : (t : Int) < (pl.length : Int) := by omega
            clear hx
            by_cases h0 : x < 0
            · have r0 : toOk f.code.length x = false := by unfold toOk; simp; omega
              have i0 : decide (x < 0) = true := by simpa using h0
              have hF : insOk Fs f ⟨op, a, b, c⟩ = false := by rw [HI2.out, all_no hx0 r0]
              go_wp2_with fail
              go_ret
              exact ⟨(by first | rfl | (rw [hF]; rfl)), Up.trans U3.out (Up.trans U4.out (Up.trans UA.out hU))⟩
            · have i0 : decide (x < 0) = false := by simpa using h0
              by_cases h1 : (f.code.length : Int) ≤ x
              · have r0 : toOk f.code.length x = false := by unfold toOk; simp; omega
                have hF : insOk Fs f ⟨op, a, b, c⟩ = false := by rw [HI2.out, all_no hx0 r0]
                go_wp2_with fail
                go_ret
                exact ⟨(by first | rfl | (rw [hF]; rfl)), Up.trans U3.out (Up.trans U4.out (Up.trans UA.out hU))⟩
              · have r0 : toOk f.code.length x = true := by unfold toOk; simp; omega
                have hA2 : (pl.take (t + 1)).all (toOk f.code.length) = true := by rw [all_snoc hx0, hA, r0]; rfl
                go_wp2_with fail
                go_roundw
                case rel => exact ⟨t + 1, by omega, by go_num, hU, hA2⟩
                case measure => simp [intOf]; omega
          · have hte : t = pl.length := by omega
            subst hte
            rw [List.take_length] at hA
            have hF : insOk Fs f ⟨op, a, b, c⟩ = true := by rw [HI2.out, hA]
            go_wp2_with fail
            go_ret
            exact ⟨(by first | rfl | (rw [hF]; rfl)), Up.trans U3.out (Up.trans U4.out (Up.trans UA.out hU))⟩
end Go.Proofs.YtffcdoiikefpcaaGreatDoor.vl
