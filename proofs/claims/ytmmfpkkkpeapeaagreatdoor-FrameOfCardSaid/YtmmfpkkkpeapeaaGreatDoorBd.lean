/- seal.Brand. -/
import Derived.Test.YtmmfpkkkpeapeaaGreatDoorAb
set_option linter.unusedVariables false
set_option linter.unusedSimpArgs false
namespace Go.Proofs.YtmmfpkkkpeapeaaGreatDoor.ar
open Go.RowKit Go.Maps mem rec
attribute [local go_sem ↓] Go.wp_at_zero Go.wp_at_succ
set_option maxRecDepth 100000
set_option maxHeartbeats 2000000
def obK (k : Int) (n : Nat) (br : Int) : Ob := ⟨k, n, false, none, 0, 0, none, 0, 0, br, zero3, 0, 0, 0⟩
theorem size_one (l : Lit) (d : DataW V3) : Maps.size ((DataW.map [] : DataW V3).put l d) = 1 := by rfl
/-- The arena behind i rounds. -/
def rnd (A1 : Ar) (n : Nat) (br : Int) : Nat → Ar
  | 0 => A1
  | 1 => A1.add (obK 3 n br)
  | _ => (A1.add (obK 3 n br)).add (obK 4 n br)
def sealB : ByteArray := ⟨#[115, 101, 97, 108]⟩
def unsealB : ByteArray := ⟨#[117, 110, 115, 101, 97, 108]⟩
/-- The map behind i rounds. -/
def MapB (D : DataW V3) (A1 : Ar) (n : Nat) (br : Int) : Nat → Prop
  | 0 => D = .map []
  | 1 => ∃ l, keyOf Tryz.prog 51 (val (3, 0, sealB)) = some l ∧ D = (DataW.map []).put l (.held (5, (A1.name : Int), ⟨#[]⟩))
  | _ => ∃ l l2, keyOf Tryz.prog 51 (val (3, 0, sealB)) = some l ∧ keyOf Tryz.prog 51 (val (3, 0, unsealB)) = some l2 ∧ D = ((DataW.map []).put l (.held (5, (A1.name : Int), ⟨#[]⟩))).put l2 (.held (5, ((A1.add (obK 3 n br)).name : Int), ⟨#[]⟩))
theorem mapB_two {D : DataW V3} {A1 : Ar} {n : Nat} {br : Int} (h : MapB D A1 n br 2) : Maps.size D = 2 ∧ (∀ l, keyOf Tryz.prog 51 (val (3, 0, sealB)) = some l → atv D l = (5, (A1.name : Int), ⟨#[]⟩)) ∧
    (∀ l, keyOf Tryz.prog 51 (val (3, 0, unsealB)) = some l → atv D l = (5, ((A1.add (obK 3 n br)).name : Int), ⟨#[]⟩)) := by
  obtain ⟨l, l2, h1, h2, rfl⟩ := h
  have hne : l ≠ l2 := by
    rintro rfl
    have := K.inj h1 h2
    simp [val, sealB, unsealB] at this
  have ht : Tidy ((DataW.map [] : DataW V3).put l (.held (5, (A1.name : Int), ⟨#[]⟩))) := Tidy.put ⟨[], rfl, List.Pairwise.nil⟩ (K.key h1) _
  refine ⟨?_, fun l' hl' => ?_, fun l' hl' => ?_⟩
  · rw [size_put ht, has_put_other (fun e => hne e.symm)]
    rfl
  · rw [h1] at hl'
    cases hl'
    unfold atv
    rw [atKey_put_other hne, atKey_put_same ⟨[], rfl⟩ (K.key h1)]
  · rw [h2] at hl'
    cases hl'
    unfold atv
    rw [atKey_put_same (show IsMap _ from by obtain ⟨es, he, -⟩ := ht; exact ⟨es, he⟩) (K.key h2)]
/-- What holds before round i. -/
structure Rnd (w1 wr : World) (p : Nat) (v1 : Nat → Value) (A1 : Ar) (n : Nat) (br : Int) (P B bm i : Nat) : Prop where
  ex : ∃ v' D m, Parts wr p v' (rnd A1 n br i) ∧ Chg (foot p v1) w1 wr ∧ (∀ b ∈ foot p v', b ∈ foot p v1 ∨ w1.heap.size ≤ b) ∧ wr.ownsMap Tryz.prog 51 R3 bm m D ∧ MapB D A1 n br i ∧ m ≤ i ∧ bm ∉ foot p v' ∧ P ∉ foot p v' ∧ B ∉ foot p v'
  rc : wr.rangeAt P 0 [.int .u8 0, .int .i64 n, .bool false, .map (some bm), .int .i64 0, .int .i64 0, .slice none 0 0, .int .u64 0, .int .u8 0, .int .i64 0, .string ⟨#[]⟩, .int .i64 0, .int .u64 0, .int .i64 0]
  ar : wr.rangeAt B 0 [.string sealB, .int .u8 3, .string unsealB, .int .u8 4]
  lt : w1.heap.size ≤ bm ∧ bm < P ∧ B = P + 1 ∧ B < wr.heap.size
theorem rnd_start {w1 w2 : World} {p n bm : Nat} {v1 : Nat → Value} {A1 : Ar} {br : Int} (hP : Parts w1 p v1 A1) (hU : Up w1 w2) (hbm : w1.heap.size ≤ bm) (hlt : bm < w2.heap.size) (hown : w2.ownsMap Tryz.prog 51 R3 bm 0 (.map [])) (ta tb : TypeId) :
    Rnd w1 ((w2.alloc (.cells #[.int .u8 0, .int .i64 n, .bool false, .map (some bm), .int .i64 0, .int .i64 0, .slice none 0 0, .int .u64 0, .int .u8 0, .int .i64 0, .string ⟨#[]⟩, .int .i64 0, .int .u64 0, .int .i64 0] ta)).alloc (.cells #[.string sealB, .int .u8 3, .string unsealB, .int .u8 4] tb)) p v1 A1 n br w2.heap.size (w2.heap.size + 1) bm 0 := by
  have hz := hU.size
  have ha := (Up.refl w2).alloc (.cells #[.int .u8 0, .int .i64 n, .bool false, .map (some bm), .int .i64 0, .int .i64 0, .slice none 0 0, .int .u64 0, .int .u8 0, .int .i64 0, .string ⟨#[]⟩, .int .i64 0, .int .u64 0, .int .i64 0] ta)
  have hb := ha.alloc (.cells #[.string sealB, .int .u8 3, .string unsealB, .int .u8 4] tb)
  refine ⟨⟨v1, .map [], 0, hP.up (hU.trans hb), (hU.trans hb).chg.mono (by simp), fun b hb => .inl hb, owns_up hown hb, rfl, Nat.le_refl _, ?_, ?_, ?_⟩, fun j u hj => ?_, fun j u hj => ?_, hbm, hlt, rfl, by simp⟩
  · intro hx; have := hP.lt _ hx; omega
  · intro hx; have := hP.lt _ hx; omega
  · intro hx; have := hP.lt _ hx; omega
  · have e : (w2.alloc (.cells #[.int .u8 0, .int .i64 n, .bool false, .map (some bm), .int .i64 0, .int .i64 0, .slice none 0 0, .int .u64 0, .int .u8 0, .int .i64 0, .string ⟨#[]⟩, .int .i64 0, .int .u64 0, .int .i64 0] ta)).cell? ⟨w2.heap.size, 0 + j, none⟩ = some u := by
      rw [show (⟨w2.heap.size, 0 + j, none⟩ : Addr) = ⟨w2.heap.size, j, none⟩ by simp, World.cell?_alloc_at _ _ _ _ rfl]
      simpa using hj
    exact up_cell ((Up.refl _).alloc _) e
  · rw [show (⟨w2.heap.size + 1, 0 + j, none⟩ : Addr) = ⟨w2.heap.size + 1, j, none⟩ by simp, World.cell?_alloc_at _ _ _ _ (by simp)]
    simpa using hj
theorem range_chg {F : List Nat} {w w' : World} {b o : Nat} {cs : List Value} (h : w.rangeAt b o cs) (c : Chg F w w') (hn : b ∉ F) : w'.rangeAt b o cs := fun j v hj => by
  have h1 := h j v hj
  exact (c.cell (p := ⟨b, o + j, none⟩) (World.block_lt_of_cell? w _ h1) hn).trans h1
/-- One round more. -/
theorem rnd_next {w1 wr wx w3 w4 w5 : World} {p n P B bm i m' : Nat} {v1 v' v3 : Nat → Value} {A1 : Ar} {br : Int} {D' : DataW V3} (hC : Chg (foot p v1) w1 wr) (hF : ∀ b ∈ foot p v', b ∈ foot p v1 ∨ w1.heap.size ≤ b)
    (n1 : bm ∉ foot p v') (n2 : P ∉ foot p v') (n3 : B ∉ foot p v')
    (rc : wr.rangeAt P 0 [.int .u8 0, .int .i64 n, .bool false, .map (some bm), .int .i64 0, .int .i64 0, .slice none 0 0, .int .u64 0, .int .u8 0, .int .i64 0, .string ⟨#[]⟩, .int .i64 0, .int .u64 0, .int .i64 0])
    (ar : wr.rangeAt B 0 [.string sealB, .int .u8 3, .string unsealB, .int .u8 4]) (lt : w1.heap.size ≤ bm ∧ bm < P ∧ B = P + 1 ∧ B < wr.heap.size)
    (hUr : Up wr wx) (hC3 : Chg (foot p v') wx w3) (hP3 : Parts w3 p v3 (rnd A1 n br (i + 1))) (hF3 : ∀ b ∈ foot p v3, b ∈ foot p v' ∨ wx.heap.size ≤ b) (hU4 : Up w3 w4) (ht : w4.mapTurned w5 bm)
    (hown : w5.ownsMap Tryz.prog 51 R3 bm m' D') (hm : m' ≤ i + 1) (hMB : MapB D' A1 n br (i + 1)) : Rnd w1 w5 p v1 A1 n br P B bm (i + 1) := by
  obtain ⟨l1, l2, l3, l4⟩ := lt
  have hzx := hUr.size
  have hz1 := hC.size
  have C5 : Chg [bm] w4 w5 := (Chg.refl _ w4).turned ht (.inl (by simp))
  have C35 : Chg [bm] w3 w5 := (hU4.chg.mono (by simp)).trans C5 (fun x hx => .inl hx)
  have Cx5 : Chg (bm :: foot p v') wx w5 := (hC3.mono (fun x hx => List.mem_cons_of_mem _ hx)).trans C35 (fun x hx => .inl (by rw [List.mem_singleton.1 hx]; exact List.mem_cons_self ..))
  have Cr5 : Chg (bm :: foot p v') wr w5 := (hUr.chg.mono (by simp)).trans Cx5 (fun x hx => .inl hx)
  have nf : ∀ b, b < wr.heap.size → b ∉ foot p v' → b ∉ foot p v3 := fun b hb hn hx => by
    rcases hF3 b hx with h1 | h1
    · exact hn h1
    · omega
  have nP : P ∉ bm :: foot p v' := fun hx => by
    rcases List.mem_cons.1 hx with h1 | h1
    · omega
    · exact n2 h1
  have nB : B ∉ bm :: foot p v' := fun hx => by
    rcases List.mem_cons.1 hx with h1 | h1
    · omega
    · exact n3 h1
  refine ⟨⟨v3, D', m', hP3.chg C35 (fun b hb hx => ?_), hC.trans Cr5 (fun x hx => ?_), fun b hb => ?_, hown, hMB, hm, nf _ (by omega) n1, nf _ (by omega) n2, nf _ (by omega) n3⟩, range_chg rc Cr5 nP, range_chg ar Cr5 nB, l1, l2, l3, Nat.lt_of_lt_of_le l4 Cr5.size⟩
  · rw [List.mem_singleton.1 hx] at hb
    exact nf bm (by omega) n1 hb
  · rcases List.mem_cons.1 hx with h1 | h1
    · exact .inr (by omega)
    · exact hF x h1
  · rcases hF3 b hb with h1 | h1
    · exact hF b h1
    · exact .inr (by omega)
def recOb (n bm : Nat) : Ob := ⟨0, n, false, some bm, 0, 0, none, 0, 0, 0, zero3, 0, 0, 0⟩
theorem brand_room (w : World) (p n j k : Nat) (v : Nat → Value) (A : Ar) (h : Parts w p v A) (hR : Room A (k + 4)) (hQ : Quo A n (j + 4)) :
    Calls Tryz.prog 47 #[.pointer (some ⟨p, 0, none⟩), .int .i64 n] w fun e w' => ∃ (v' : Nat → Value) (bm m : Nat) (D : DataW V3), e = .returned (.tuple #[.int .u64 (rnd (A.add (obK 2 n 0)) n A.name 2).name, .int .i64 0]) ∧ Parts w' p v' ((rnd (A.add (obK 2 n 0)) n A.name 2).add (recOb n bm)) ∧ Chg (foot p v) w w' ∧
      (∀ b ∈ foot p v', b ∈ foot p v ∨ w.heap.size ≤ b) ∧ w'.ownsMap Tryz.prog 51 R3 bm m D ∧ m ≤ 2 ∧ MapB D (A.add (obK 2 n 0)) n A.name 2 ∧ bm ∉ foot p v' ∧ w.heap.size ≤ bm := by
  have P1 := Lib.hid (put_k w p v A (obK 2 n 0) h n (j + 3) (k + 3) rfl hR hQ)
  simp only [obK, Ob.cells, zero3] at P1
  have NN := Lib.hid (new_any n)
  go_enter Tryz.func47, Tryz.ntmps47
  go_wp2_with (first
    | (go_at_call 27; refine P1.out.mono ?_; rintro e w1 ⟨v1, rfl, hP1, hC1, hF1⟩)
    | (go_at_call 34; refine (NN.out _).mono ?_; rintro e w2 ⟨bm, rfl, hU2, hbm, hown⟩))
  have U2 : ∀ ty : TypeId, Up w1 ((w2.alloc (.cells #[.int .u8 0, .int .i64 n, .bool false, .map (some bm), .int .i64 0, .int .i64 0, .slice none 0 0, .int .u64 0, .int .u8 0, .int .i64 0, .string ⟨#[]⟩, .int .i64 0, .int .u64 0, .int .i64 0] 66)).alloc (.cells #[.string ⟨#[115, 101, 97, 108]⟩, .int .u8 3, .string ⟨#[117, 110, 115, 101, 97, 108]⟩, .int .u8 4] ty)) := fun ty => (hU2.alloc _).alloc _
  have P2 := Lib.hid (fun wx (hx : Up w1 wx) => put_k wx p v1 _ (obK 3 n A.name) (hP1.up hx) n (j + 2) (k + 2) rfl (hR.add _) (hQ.add _ rfl))
  simp only [obK, Ob.cells, zero3] at P2
  have HP := Lib.hid (And.intro hP1 (And.intro hC1 (And.intro hF1 (And.intro hU2 (And.intro hbm hown)))))
  have U2 := Lib.hid U2
  clear hP1 hC1 hF1 hbm hown hU2
  go_loopw [29] (fun i wr => ∃ t : Nat, t ≤ 2 ∧ i = .int .i64 t ∧ Rnd w1 wr p v1 (A.add (obK 2 n 0)) n A.name w2.heap.size (w2.heap.size + 1) bm t) (fun i _ => 2 - (intOf i).toNat)
  case atStart =>
    exact ⟨0, by omega, rfl, rnd_start HP.out.1 HP.out.2.2.2.1 HP.out.2.2.2.2.1 HP.out.2.2.2.2.2.lt HP.out.2.2.2.2.2 _ _⟩
  case round =>
    obtain ⟨t, ht, rfl, hr⟩ := hrel
    obtain ⟨⟨v', D, m, hPr, hCr, hFr, hMr, hDr, hmr, hn1, hn2, hn3⟩, hrc, har, hl1, hl2, hl3, hl4⟩ := hr
    have a0 := har 0 _ rfl
    have a1 := har 1 _ rfl
    have a2 := har 2 _ rfl
    have a3 := har 3 _ rfl
    have r3 := hrc 3 _ rfl
    have HR := Lib.hid (And.intro (And.intro hPr (And.intro hCr (And.intro hFr (And.intro hMr (And.intro hDr (And.intro hmr (And.intro hn1 (And.intro hn2 hn3)))))))) (And.intro hrc har))
    have HL := Lib.hid (And.intro hl1 (And.intro hl2 (And.intro hl3 hl4)))
    clear hPr hCr hFr hMr hDr hmr hn1 hn2 hn3 hrc har hl1 hl2 hl3
    rcases (by omega : t = 0 ∨ t = 1 ∨ t = 2) with rfl | rfl | rfl
    · have PP := Lib.hid (fun wx (hx : Up wr wx) => put_k wx p v' _ (obK 3 n A.name) (HR.out.1.1.up hx) n (j + 2) (k + 2) rfl (hR.add _) (hQ.add _ rfl))
      simp only [obK, Ob.cells, zero3] at PP
      go_wp2_with (go_at_call 27; refine (PP.out _ ((Up.refl _).alloc _)).mono ?_; rintro e w3 ⟨v3, rfl, hP3, hC3, hF3⟩)
      obtain ⟨NM, hNM⟩ : ∃ x, x = (rnd (A.add (obK 2 n 0)) n A.name 0).name := ⟨_, rfl⟩
      simp only [obK, zero3] at hNM
      rw [← hNM]
      have hNL : NM < 9223372036854775808 := by rw [hNM]; exact name_lt (k := k + 2) (hR.add _)
      have hown3 := map_chg (HR.out.1.2.2.2.1.alloc _) hC3 HR.out.1.2.2.2.2.2.2.1
      have U3 : Up w3 (((w3.alloc (.cells #[.int .u8 3, .int .i64 0, .string sealB] 51)).alloc (.cells #[.int .u8 5, .int .i64 NM, .string ⟨#[]⟩] 51)).drew) := (((Up.refl w3).alloc _).alloc _).drew
      obtain ⟨l, hl⟩ := key_of 3 0 sealB (by decide) (by decide) (by decide)
      obtain ⟨w5, hrun, hown5, hturn⟩ := (owns_up hown3 U3).store K Tryz.underlying63 (by have := HR.out.1.2.2.2.2.2.1; unfold maxLen; omega) hl (R3_val (5, NM, ⟨#[]⟩))
      simp only [val] at hrun
      have hz2 : w2.heap.size < wr.heap.size := by have := HL.out.2.2; omega
      have b3 : w3.cell? ⟨w2.heap.size, 3, none⟩ = some (.map (some bm)) := (hC3.cell (p := ⟨w2.heap.size, 3, none⟩) (by simp; omega) HR.out.1.2.2.2.2.2.2.2.1).trans ((World.cell?_alloc_lt _ _ _ (by simpa using hz2)).trans r3)
      have b0 : w3.cell? ⟨wr.heap.size, 0, none⟩ = some (.string sealB) := (hC3.cell (p := ⟨wr.heap.size, 0, none⟩) (by simp) (fun hx => Nat.lt_irrefl _ (show wr.heap.size < wr.heap.size from HR.out.1.1.lt _ hx))).trans (by go_simp)
      have HH := Lib.hid (And.intro hown5 (And.intro hturn (And.intro hP3 (And.intro hC3 (And.intro hF3 hNM)))))
      have WX := Lib.hid (words_x sealB)
      have OX := Lib.hid (object_x NM hNL)
      simp only [val] at WX OX
      have HKL := Lib.hid hl
      clear hown5 hturn hP3 hC3 hF3 hNM hown3 U3 hl
      have hz4 : wr.heap.size < w3.heap.size := by have := HH.out.2.2.2.1.size; rw [World.size_alloc] at this; omega
      have hz3 : w2.heap.size < w3.heap.size := by omega
      have hz5 : wr.heap.size < w3.heap.size + 1 := by omega
      have hz6 : w2.heap.size < w3.heap.size + 1 := by omega
      go_region_with (first
          | (go_at_call 57; refine (WX.out _).mono ?_; rintro e w4 ⟨rfl, rfl⟩)
          | (go_at_call 10; refine (OX.out _).mono ?_; rintro e w4 ⟨rfl, rfl⟩))
      all_goals
        go_wp2_with fail
        refine ⟨⟨1, by omega, rfl, rnd_next HR.out.1.2.1 HR.out.1.2.2.1 HR.out.1.2.2.2.2.2.2.1 HR.out.1.2.2.2.2.2.2.2.1 HR.out.1.2.2.2.2.2.2.2.2 HR.out.2.1 HR.out.2.2 ⟨HL.out.1, HL.out.2.1, rfl, hl4⟩ ((Up.refl _).alloc _) HH.out.2.2.2.1 HH.out.2.2.1 HH.out.2.2.2.2.1 (((Up.refl w3).alloc _).alloc _).drew HH.out.2.1 HH.out.1 (Nat.succ_le_succ HR.out.1.2.2.2.2.2.1) ?_⟩, by simp [intOf]⟩
        have hD : D = .map [] := HR.out.1.2.2.2.2.1
        subst hD
        refine ⟨l, HKL.out, ?_⟩
        rw [HH.out.2.2.2.2.2]
        rfl
    · have PP := Lib.hid (fun wx (hx : Up wr wx) => put_k wx p v' _ (obK 4 n A.name) (HR.out.1.1.up hx) n (j + 1) (k + 1) rfl ((hR.add _).add _) ((hQ.add _ rfl).add _ rfl))
      simp only [obK, Ob.cells, zero3] at PP
      go_wp2_with (go_at_call 27; refine (PP.out _ ((Up.refl _).alloc _)).mono ?_; rintro e w3 ⟨v3, rfl, hP3, hC3, hF3⟩)
      obtain ⟨NM, hNM⟩ : ∃ x, x = (rnd (A.add (obK 2 n 0)) n A.name 1).name := ⟨_, rfl⟩
      simp only [obK, zero3] at hNM
      rw [← hNM]
      have hNL : NM < 9223372036854775808 := by rw [hNM]; exact name_lt (k := k + 1) ((hR.add _).add _)
      have hown3 := map_chg (HR.out.1.2.2.2.1.alloc _) hC3 HR.out.1.2.2.2.2.2.2.1
      have U3 : Up w3 (((w3.alloc (.cells #[.int .u8 3, .int .i64 0, .string unsealB] 51)).alloc (.cells #[.int .u8 5, .int .i64 NM, .string ⟨#[]⟩] 51)).drew) := (((Up.refl w3).alloc _).alloc _).drew
      obtain ⟨l, hl⟩ := key_of 3 0 unsealB (by decide) (by decide) (by decide)
      obtain ⟨w5, hrun, hown5, hturn⟩ := (owns_up hown3 U3).store K Tryz.underlying63 (by have := HR.out.1.2.2.2.2.2.1; unfold maxLen; omega) hl (R3_val (5, NM, ⟨#[]⟩))
      simp only [val] at hrun
      have hz2 : w2.heap.size < wr.heap.size := by have := HL.out.2.2; omega
      have b3 : w3.cell? ⟨w2.heap.size, 3, none⟩ = some (.map (some bm)) := (hC3.cell (p := ⟨w2.heap.size, 3, none⟩) (by simp; omega) HR.out.1.2.2.2.2.2.2.2.1).trans ((World.cell?_alloc_lt _ _ _ (by simpa using hz2)).trans r3)
      have b0 : w3.cell? ⟨wr.heap.size, 0, none⟩ = some (.string unsealB) := (hC3.cell (p := ⟨wr.heap.size, 0, none⟩) (by simp) (fun hx => Nat.lt_irrefl _ (show wr.heap.size < wr.heap.size from HR.out.1.1.lt _ hx))).trans (by go_simp)
      have HH := Lib.hid (And.intro hown5 (And.intro hturn (And.intro hP3 (And.intro hC3 (And.intro hF3 hNM)))))
      have WX := Lib.hid (words_x unsealB)
      have OX := Lib.hid (object_x NM hNL)
      simp only [val] at WX OX
      have HKL := Lib.hid hl
      clear hown5 hturn hP3 hC3 hF3 hNM hown3 U3 hl
      have hz4 : wr.heap.size < w3.heap.size := by have := HH.out.2.2.2.1.size; rw [World.size_alloc] at this; omega
      have hz3 : w2.heap.size < w3.heap.size := by omega
      have hz5 : wr.heap.size < w3.heap.size + 1 := by omega
      have hz6 : w2.heap.size < w3.heap.size + 1 := by omega
      go_region_with (first
          | (go_at_call 57; refine (WX.out _).mono ?_; rintro e w4 ⟨rfl, rfl⟩)
          | (go_at_call 10; refine (OX.out _).mono ?_; rintro e w4 ⟨rfl, rfl⟩))
      all_goals
        go_wp2_with fail
        refine ⟨⟨2, by omega, rfl, rnd_next HR.out.1.2.1 HR.out.1.2.2.1 HR.out.1.2.2.2.2.2.2.1 HR.out.1.2.2.2.2.2.2.2.1 HR.out.1.2.2.2.2.2.2.2.2 HR.out.2.1 HR.out.2.2 ⟨HL.out.1, HL.out.2.1, rfl, hl4⟩ ((Up.refl _).alloc _) HH.out.2.2.2.1 HH.out.2.2.1 HH.out.2.2.2.2.1 (((Up.refl w3).alloc _).alloc _).drew HH.out.2.1 HH.out.1 (Nat.succ_le_succ HR.out.1.2.2.2.2.2.1) ?_⟩, by simp [intOf]⟩
        obtain ⟨l0, hl0, hD⟩ : MapB D (A.add (obK 2 n 0)) n A.name 1 := HR.out.1.2.2.2.2.1
        refine ⟨l0, l, hl0, HKL.out, ?_⟩
        rw [hD, HH.out.2.2.2.2.2]
        rfl
    · have r0 := HR.out.2.1 0 _ rfl
      have r1 := HR.out.2.1 1 _ rfl
      have r2 := HR.out.2.1 2 _ rfl
      have r4 := HR.out.2.1 4 _ rfl
      have r5 := HR.out.2.1 5 _ rfl
      have r6 := HR.out.2.1 6 _ rfl
      have r7 := HR.out.2.1 7 _ rfl
      have r8 := HR.out.2.1 8 _ rfl
      have r9 := HR.out.2.1 9 _ rfl
      have r10 := HR.out.2.1 10 _ rfl
      have r11 := HR.out.2.1 11 _ rfl
      have r12 := HR.out.2.1 12 _ rfl
      have r13 := HR.out.2.1 13 _ rfl
      simp only [Nat.zero_add] at r0 r1 r2 r3 r4 r5 r6 r7 r8 r9 r10 r11 r12 r13
      have PP := Lib.hid (put_k wr p v' _ (recOb n bm) HR.out.1.1 n j k rfl (((hR.add _).add _).add _) (((hQ.add _ rfl).add _ rfl).add _ rfl))
      simp only [recOb, Ob.cells, zero3] at PP
      go_wp2_with (go_at_call 27; refine PP.out.mono ?_; rintro e w6 ⟨v6, rfl, hP6, hC6, hF6⟩)
      have z1 := HP.out.2.1.size
      have z2 := HR.out.1.2.1.size
      have fA : ∀ b ∈ foot p v', b ∈ foot p v ∨ w.heap.size ≤ b := fun b hb => by
        rcases HR.out.1.2.2.1 b hb with h1 | h1
        · exact HP.out.2.2.1 b h1
        · exact .inr (by omega)
      refine bodyPost_ret (v := .tuple #[.int .u64 (rnd (A.add (obK 2 n 0)) n A.name 2).name, .int .i64 0]) (by simp [results, Tryz.results47, go_sem]) rfl ⟨v6, bm, m, D, rfl, hP6, ?_, fun b hb => ?_, map_chg HR.out.1.2.2.2.1 hC6 HR.out.1.2.2.2.2.2.2.1, HR.out.1.2.2.2.2.2.1, HR.out.1.2.2.2.2.1, fun hx => ?_, by have := HL.out.1; omega⟩
      · exact (HP.out.2.1.trans HR.out.1.2.1 (fun b hb => HP.out.2.2.1 b hb)).trans hC6 fA
      · rcases hF6 b hb with h1 | h1
        · exact fA b h1
        · exact .inr (by omega)
      · rcases hF6 bm hx with h1 | h1
        · exact HR.out.1.2.2.2.2.2.2.1 h1
        · have := HR.out.1.2.2.2.1.lt; omega
end Go.Proofs.YtmmfpkkkpeapeaaGreatDoor.ar
