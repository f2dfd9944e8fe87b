/- A piece of a run over the tables: from one configuration to the next, or to the end. No condition. -/
import Derived.Test.YtdgeilfopkbacaaGreatDoorEvCb
set_option linter.unusedSectionVars false
set_option linter.unusedVariables false
set_option linter.unusedSimpArgs false
namespace Go.Proofs.YtdgeilfopkbacaaGreatDoor.Ev
open Go Go.RowKit

def memB (g : Nat) : List Nat → Bool
  | [] => false
  | a :: l => match Nat.beq g a with
    | true => true
    | false => memB g l
/-- So many steps from a configuration on; d: the functions that are stepped through. -/
def segK (P : Program) (G f1 f2 : Nat) (ks : List Nat) (facts : List Fact) (eqs : List EqF) (calls : List CallF) (d : List Nat) (k : Nat) (c : Cfg) : CRes :=
  cgo (envOf P G (eqTT ks eqs)) (extOf f1 f2 (factT facts)) (evG (envOf P G (eqTT ks eqs)) (extOf f1 f2 (factT facts)) (callT calls) 100000 200) 100000 (fun g => memB g d) k c.top.fn c.top.regs c.top.items c.cs c.st
def doneB : CRes → Bool
  | .done (.bool b) => b
  | _ => false
section
variable {P : Program} {ng nt f1 f2 f : Nat} {st0 : St} {B : Bd} {M : World → Prop} {l : List Value} {hl : (l.all fun v => v.oneCell') = true} {ks : List Nat} {facts mems : List Fact} {eqs : List EqF} {calls : List CallF} {d : List Nat} {k : Nat} {c : Cfg}
theorem seg_leads (hm : P.follows .mixedOrders = true)
    (h1 : ∀ args w, (callFunc f1 args).run P w = ((Extern.AbiNoEscape.same args).run P w).andThen fun v w' => .ok (.value v) w') (h2 : ∀ args w, (callFunc f2 args).run P w = ((Extern.BytealgIndexByte.indexByte args).run P w).andThen fun v w' => .ok (.value v) w')
    (hk : KindsB l ks = true) (hfacts : FactsOk P l facts) (hmems : MemsOk P M l mems) (heqs : EqsOk l eqs) (hcalls : CallsOk P (fun w => LaidN ng nt st0 w.heap.size w ∧ M w) l calls) (hJ : ∀ w, B.J w → LaidN ng nt st0 w.heap.size w ∧ M w) :
    @Leads (symOf l hl) P (ng + 16) B f c (segK P (ng + 16) f1 f2 ks (facts ++ mems) eqs calls d k c) := by
  letI : Sym := symOf l hl
  have ok := envOf_ok P (ng + 16) (eqT := eqTT ks eqs) (eqTT_ok hk heqs)
  have hX := extOf_ok (E := envOf P (ng + 16) (eqTT ks eqs)) (P := P) (B := B) (f1 := f1) (f2 := f2) (fact := factT (facts ++ mems)) (fun k vs v e ι vs' hv w hw => factT_ok hfacts hmems k vs v e ι vs' hv w (hJ w hw).2) h1 h2
  have hg : CfOk P B.J (callT calls) := fun f args v e ι args' ha w hw => callT_ok hcalls f args v e ι args' ha w (hJ w hw)
  have hrec := evG_sound (B := B) ok hX hm hg 100000 200
  exact cgo_ok (N := 100000) (d := fun g => memB g d) (f := f) ok hX hrec hm k c.top.fn c.top.regs c.top.items c.cs c.st
/-- On to the next one. -/
theorem seg_go (hm : P.follows .mixedOrders = true)
    (h1 : ∀ args w, (callFunc f1 args).run P w = ((Extern.AbiNoEscape.same args).run P w).andThen fun v w' => .ok (.value v) w') (h2 : ∀ args w, (callFunc f2 args).run P w = ((Extern.BytealgIndexByte.indexByte args).run P w).andThen fun v w' => .ok (.value v) w')
    (hk : KindsB l ks = true) (hfacts : FactsOk P l facts) (hmems : MemsOk P M l mems) (heqs : EqsOk l eqs) (hcalls : CallsOk P (fun w => LaidN ng nt st0 w.heap.size w ∧ M w) l calls) (hJ : ∀ w, B.J w → LaidN ng nt st0 w.heap.size w ∧ M w)
    {rl : List Nat} {ms : List Value} {l2 : List Value} {hl2 : (l2.all fun v => v.oneCell') = true} {s : FrSpec} {ss : List FrSpec} {objs : List AObj} {h0 : Tr AObj} {lows : List (Option AObj)} (hlen : ((s :: ss).all fun s => decide (s.vals.length < 1000000)) = true)
    (hrun : foldK (ng + 16) rl ms (s :: ss) objs (segK P (ng + 16) f1 f2 ks (facts ++ mems) eqs calls d k c) = some (s.items :: ss.map (·.items), lows)) (hlow : lows = lowsOf (ng + 16) h0) (hlo : lowOk (ng + 16) h0 = true) (hms : l2 = ms.map (den1 l))
    (hg : @Fine (symOf l2 hl2) P (ng + 16) B f ⟨frOf s, ss.map frOf, stOf (ng + 16) h0 objs⟩) : @Fine (symOf l hl) P (ng + 16) B f c := by
  have hlead := seg_leads (hl := hl) (f := f) (d := d) (k := k) (c := c) hm h1 h2 hk hfacts hmems heqs hcalls hJ
  have hm' : ∀ (j : Nat) (m : Value), ms[j]? = some m → l2.getD j (.bool false) = den1 l m := by
    intro j m e
    rw [hms, List.getD_eq_getElem?_getD, List.getElem?_map, e]; rfl
  revert hrun hlead
  generalize segK P (ng + 16) f1 f2 ks (facts ++ mems) eqs calls d k c = x
  intro hrun hlead
  cases x with
  | go c1 => exact @Move.good (symOf l hl) _ _ _ _ _ _ hlead (fold_good hm' hlen hrun hlow hlo hg)
  | done v => cases hrun
  | stuck n => cases hrun
/-- On to the end. -/
theorem seg_done (hm : P.follows .mixedOrders = true)
    (h1 : ∀ args w, (callFunc f1 args).run P w = ((Extern.AbiNoEscape.same args).run P w).andThen fun v w' => .ok (.value v) w') (h2 : ∀ args w, (callFunc f2 args).run P w = ((Extern.BytealgIndexByte.indexByte args).run P w).andThen fun v w' => .ok (.value v) w')
    (hk : KindsB l ks = true) (hfacts : FactsOk P l facts) (hmems : MemsOk P M l mems) (heqs : EqsOk l eqs) (hcalls : CallsOk P (fun w => LaidN ng nt st0 w.heap.size w ∧ M w) l calls) (hJ : ∀ w, B.J w → LaidN ng nt st0 w.heap.size w ∧ M w)
    (hrun : doneB (segK P (ng + 16) f1 f2 ks (facts ++ mems) eqs calls d k c) = true) : @Fine (symOf l hl) P (ng + 16) B f c := by
  have hlead := seg_leads (hl := hl) (f := f) (d := d) (k := k) (c := c) hm h1 h2 hk hfacts hmems heqs hcalls hJ
  revert hrun hlead
  generalize segK P (ng + 16) f1 f2 ks (facts ++ mems) eqs calls d k c = x
  intro hrun hlead
  unfold doneB at hrun
  split at hrun
  · subst hrun
    exact @End.good (symOf l hl) _ _ _ _ _ hlead
  · cases hrun
end
/-- A call, where its first configuration is good. -/
theorem calls_good {P : Program} {ng nt f : Nat} {st0 : St} (hnt : nt ≤ 16) (hnx : ng + 16 ≤ st0.next) (M : World → Prop) (l : List Value) (hl : (l.all fun v => v.oneCell') = true) {fn : Func} {body : Code} (hfn : P.funcs[f]? = some fn) (hb : fn.body = some body) (args : List Value) (hsz : args.length ≤ fn.ntmps ∧ fn.ntmps < 1000000) (ha : args.all sim2 = true)
    (hg : ∀ B : Bd, (∀ w, B.J w → LaidN ng nt st0 w.heap.size w ∧ M w) → @Fine (symOf l hl) P (ng + 16) B f ⟨⟨f, enterRegs args.toArray fn.ntmps .run, [.code body]⟩, [], st0⟩)
    (w : World) (hL : LaidN ng nt st0 w.heap.size w) (hM : M w) (keepM : ∀ w1 w2, Below w.heap.size w1 w2 → M w1 → M w2) :
    Calls P f (args.map (den2 l)).toArray w fun e w' => e = .returned (.bool true) ∧ Below w.heap.size w w' := by
  let B : Bd := ⟨w.heap.size, fun w1 => LaidN ng nt st0 w.heap.size w1 ∧ M w1, fun w1 w2 hb h => ⟨laidN_keep ng nt st0 w.heap.size w1 w2 hb h.1, keepM w1 w2 hb h.2⟩⟩
  have hJ : ∀ w1, B.J w1 → LaidN ng nt st0 w1.heap.size w1 ∧ M w1 := fun w1 h => ⟨laidN_up _ _ _ _ w1 h.1, h.2⟩
  obtain ⟨ι, hw, hfree⟩ := @laidS_rel (symOf l hl) ng nt st0 hnt hnx (ng + 16) rfl B w rfl ⟨hL, hM⟩ (hL (symOf l hl))
  have hargs : @ARel (symOf l hl) ι args.toArray (args.map (den2 l)).toArray := den_arr (p := sim2) (g := den2 l) (fun v hv => den2_rel hv) (by rw [← Array.all_toList]; exact ha)
  intro cs
  let b : Frame := { (default : Frame) with fn := f, kind := .normal }
  have henter : Frame.enter P f (args.map (den2 l)).toArray .normal = b.atR { tmps := (args.map (den2 l)).toArray ++ Array.replicate (fn.ntmps - (args.map (den2 l)).toArray.size) undef, defers := [] } [.code body] := by
    simp [Frame.enter, Frame.atR, hfn, hb, b]
    rfl
  have hreg := @enter_rel (symOf l hl) ι args.toArray (args.map (den2 l)).toArray hargs fn.ntmps (by simpa using hsz.1) hsz.2 .run .run (@ModeRel.run (symOf l hl) ι)
  obtain ⟨w1, fr1, r1, r2, r3, r4⟩ := hg B hJ ι w (Frame.enter P f (args.map (den2 l)).toArray .normal) [] cs (@At.mk (symOf l hl) _ _ _ _ _ _ _ _ _ hw hfree (@SRel.base (symOf l hl) _ _ _ _ (@QRel.mk (symOf l hl) _ _ _ ⟨b, _, .run, henter, rfl, rfl, rfl, hreg⟩) rfl))
  exact ⟨.returned (.bool true), w1, fr1, ⟨rfl, r1⟩, r2, r3, r4⟩
end Go.Proofs.YtdgeilfopkbacaaGreatDoor.Ev
