/- The arena's Put. -/
import Derived.Test.YtmmfpkkkpeapeaaGreatDoorAh
import Derived.Deep.CutBlock
set_option linter.unusedVariables false
set_option linter.unusedSimpArgs false
namespace Go.Proofs.YtmmfpkkkpeapeaaGreatDoor.ar
open Go.RowKit Go.Maps mem rec
attribute [local go_sem ↓] Go.wp_at_zero Go.wp_at_succ
set_option maxRecDepth 100000
set_option maxHeartbeats 2000000
def Ar.grow (A : Ar) : Ar := if A.free = [] then { A with slots := A.slots ++ [sl0], free := [A.slots.length] } else A
def Ar.top (A : Ar) : Nat := A.grow.free.getLastD 0
def Ar.old (A : Ar) : Nat := (A.grow.slots.getD A.top sl0).uses
def Ar.name (A : Ar) : Nat := (A.old + 1) * 4294967296 + A.top
def Ar.add (A : Ar) (o : Ob) : Ar :=
  { slots := A.grow.slots.set A.top ⟨A.old + 1, true, o⟩, free := A.grow.free.dropLast, quotas := A.quotas, many := A.many.set o.owner.toNat (A.many.getD o.owner.toNat 0 + 1) }
def obBox (o : Ob) : Obj := .cells o.cells.toArray 66
theorem put_owner (w : World) (p : Nat) (v : Nat → Value) (A : Ar) (o : Ob) (h : Parts w p v A) (hn : A.has o.owner = false) :
    Calls Tryz.prog 27 #[.pointer (some ⟨p, 0, none⟩), .agg o.cells.toArray] w fun e w' => e = .returned (.tuple #[.int .u64 0, .int .i64 17]) ∧ Up w w' := by
  have HP := Lib.hid (And.intro h hn)
  clear h hn
  obtain ⟨kind, owner, frozen, fields, module, func, ha, hn, hc, brand, content, membrane, target, deep⟩ := o
  obtain ⟨k1, k2, k3⟩ := content
  simp only [Ob.cells]
  go_enter Tryz.func27, Tryz.ntmps27
  go_wp2_with fail
  refine (has_x _ p _ v A (HP.out.1.up ((Up.refl w).alloc _))).mono ?_
  rintro e w1 ⟨rfl, rfl⟩
  have hb := HP.out.2
  rw [hb]
  go_wp2_with fail
  go_ret2
  exact ⟨rfl, (Up.refl w).alloc _⟩
theorem put_full (w : World) (p : Nat) (v : Nat → Value) (A : Ar) (o : Ob) (h : Parts w p v A) (n : Nat) (q m : Int) (hn : o.owner = n) (hq : A.quotas[n]? = some q) (hm : A.many[n]? = some m) (hle : q ≤ m) :
    Calls Tryz.prog 27 #[.pointer (some ⟨p, 0, none⟩), .agg o.cells.toArray] w fun e w' => e = .returned (.tuple #[.int .u64 0, .int .i64 8]) ∧ Up w w' := by
  have hlq : n < A.quotas.length := (List.getElem?_eq_some_iff.1 hq).1
  have hlm : n < A.many.length := (List.getElem?_eq_some_iff.1 hm).1
  have hhas : A.has n = true := by simp [Ar.has]; omega
  have d2 : w.cell? ⟨p, 2, none⟩ = some (v 2) := h.hd.cell 2
  have d3 : w.cell? ⟨p, 3, none⟩ = some (v 3) := h.hd.cell 3
  obtain ⟨g2, cap2, hv2, _, l2⟩ := (h.ow 2 (by omega)).form (show 0 < A.len 2 by show 0 < A.quotas.length; omega)
  obtain ⟨g3, cap3, hv3, _, l3⟩ := (h.ow 3 (by omega)).form (show 0 < A.len 3 by show 0 < A.many.length; omega)
  have hv2' : v 2 = .slice (some ⟨g2, 0, none⟩) A.quotas.length cap2 := hv2
  have hv3' : v 3 = .slice (some ⟨g3, 0, none⟩) A.many.length cap3 := hv3
  have o2 := h.ow 2 (by omega)
  have o3 := h.ow 3 (by omega)
  rw [hv2'] at o2 d2
  rw [hv3'] at o3 d3
  have e2 : w.cell? ⟨g2, n, none⟩ = some (.int .i64 q) := by
    have := World.ownsRow.cellAt o2 n (show n < A.quotas.length * 1 by omega)
    rw [this]; show (A.quotas.map _)[n]? = _; simp [hq]
  have e3 : w.cell? ⟨g3, n, none⟩ = some (.int .i64 m) := by
    have := World.ownsRow.cellAt o3 n (show n < A.many.length * 1 by omega)
    rw [this]; show (A.many.map _)[n]? = _; simp [hm]
  have hpl := h.hd.lt
  have HP := Lib.hid (And.intro h hhas)
  clear h hhas hv2 hv3 hv2' hv3' o2 o3 hq hm
  obtain ⟨kind, owner, frozen, fields, module, func, ha, hn', hc, brand, content, membrane, target, deep⟩ := o
  obtain ⟨k1, k2, k3⟩ := content
  simp only at hn
  subst hn
  simp only [Ob.cells]
  generalize A.quotas.length = lq at *
  generalize A.many.length = lm at *
  have i0 : (0 : Int) ≤ (n : Int) := by omega
  have i1 : (n : Int) < (lq : Int) := by omega
  have i2 : (n : Int) < (lm : Int) := by omega
  go_enter Tryz.func27, Tryz.ntmps27
  go_wp2_with fail
  refine (has_x _ p _ v A (HP.out.1.up ((Up.refl w).alloc _))).mono ?_
  rintro e w1 ⟨rfl, rfl⟩
  rw [HP.out.2]
  go_wp2_with fail
  go_quiet (fail)
  go_wp2_with fail
  go_ret2
  exact ⟨rfl, up_drewN ((Up.refl w).alloc _) _⟩
theorem infoSlot : (Tryz.prog.info? 122).map (fun i => (i.zero, i.size, i.bytes)) = some (some (.agg #[.int .u32 0, .bool false, .int .u8 0, .int .i64 0, .bool false, .map none, .int .i64 0, .int .i64 0, .slice none 0 0, .int .u64 0, .int .u8 0, .int .i64 0, .string ⟨#[]⟩, .int .i64 0, .int .u64 0, .int .i64 0]), 16, 144) := by kernel_rfl
theorem infoU32 : (Tryz.prog.info? 115).map (fun i => (i.zero, i.size, i.bytes)) = some (some (.int .u32 0), 1, 4) := by kernel_rfl
theorem infoInt : (Tryz.prog.info? 3).map (fun i => (i.zero, i.size, i.bytes)) = some (some (.int .i64 0), 1, 8) := by kernel_rfl
end Go.Proofs.YtmmfpkkkpeapeaaGreatDoor.ar
