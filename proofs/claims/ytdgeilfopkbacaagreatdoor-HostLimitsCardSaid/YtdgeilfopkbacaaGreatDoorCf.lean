/- The seat's configurations: what is good, one piece of a run, a call out of its first configuration. No condition. -/
import Derived.Test.YtdgeilfopkbacaaGreatDoorEvCc
import Derived.Test.YtdgeilfopkbacaaGreatDoorBase
set_option maxRecDepth 100000
set_option linter.unusedVariables false
namespace Go.Proofs.YtdgeilfopkbacaaGreatDoor
open Go Go.RowKit Ev
def lows0 : List (Option AObj) := [some low0, some low1, some low2, some low3, some low4, some low5, some low6, some low7, some low8, some low9, none, none, none, none, none, none, none, some low17, none, some low19, none, none, some low22, some low23, some low24, some low25, some low26, some low27, none, none, none, none, none, none, none, none, none, none, none]
theorem lows_ok : lows0 = lowsOf 39 heap0 := by kernel_rfl
theorem low_ok : lowOk 39 heap0 = true := by kernel_rfl
def cfgOf (s : FrSpec) (ss : List FrSpec) (objs : List AObj) : Cfg := ⟨frOf s, ss.map frOf, stOf 39 heap0 objs⟩
noncomputable def nOf (f : Nat) : Nat := match Tryz.prog.funcs[f]? with
  | some g => g.ntmps
  | none => 0
noncomputable def cOf (f : Nat) : Code := match Tryz.prog.funcs[f]? with
  | some g => codeOf g
  | none => .skip
noncomputable def cfg0 (f : Nat) (args : List Value) : Cfg := ⟨⟨f, enterRegs args.toArray (nOf f) .run, [.code (cOf f)]⟩, [], st0⟩
/-- It ends with true, whatever the world, where the laid variables read so. -/
def GoodAt (M : World → Prop) (l : List Value) (f : Nat) (c : Cfg) : Prop := ∀ (hl : (l.all fun v => v.oneCell') = true) (B : Bd), (∀ w, B.J w → Laid w ∧ M w) → @Fine (symOf l hl) Tryz.prog 39 B f c
noncomputable def seg (ks : List Nat) (facts : List Fact) (eqs : List EqF) (calls : List CallF) (d : List Nat) (k : Nat) (c : Cfg) : CRes := segK Tryz.prog 39 292 264 ks facts eqs calls d k c
theorem step_goM {M : World → Prop} {f : Nat} {c : Cfg} (l : List Value) (ks : List Nat) (facts mems : List Fact) (eqs : List EqF) (calls : List CallF) (d : List Nat) (k : Nat) (rl : List Nat) (ms l2 : List Value) (s : FrSpec) (ss : List FrSpec) (objs : List AObj)
    (hk : KindsB l ks = true) (hfacts : FactsOk Tryz.prog l facts) (hmems : MemsOk Tryz.prog M l mems) (heqs : EqsOk l eqs) (hcalls : CallsOk Tryz.prog (fun w => Laid w ∧ M w) l calls) (hl2 : (l2.all fun v => v.oneCell') = true)
    (hrun : foldK 39 rl ms (s :: ss) objs (seg ks (facts ++ mems) eqs calls d k c) = some (s.items :: ss.map (·.items), lows0)) (hlen : ((s :: ss).all fun s => decide (s.vals.length < 1000000)) = true) (hms : l2 = ms.map (den1 l))
    (hg : GoodAt M l2 f (cfgOf s ss objs)) : GoodAt M l f c := fun hl B hJ =>
  seg_go (ng := 23) (nt := 5) (st0 := st0) mixed esc_run idx_run hk hfacts hmems heqs hcalls hJ hlen hrun lows_ok low_ok hms (hg hl2 B hJ)
theorem step_doneM {M : World → Prop} {f : Nat} {c : Cfg} (l : List Value) (ks : List Nat) (facts mems : List Fact) (eqs : List EqF) (calls : List CallF) (d : List Nat) (k : Nat)
    (hk : KindsB l ks = true) (hfacts : FactsOk Tryz.prog l facts) (hmems : MemsOk Tryz.prog M l mems) (heqs : EqsOk l eqs) (hcalls : CallsOk Tryz.prog (fun w => Laid w ∧ M w) l calls)
    (hrun : doneB (seg ks (facts ++ mems) eqs calls d k c) = true) : GoodAt M l f c := fun hl B hJ =>
  seg_done (ng := 23) (nt := 5) (st0 := st0) mixed esc_run idx_run hk hfacts hmems heqs hcalls hJ hrun
abbrev GoodF (l : List Value) (f : Nat) (c : Cfg) : Prop := GoodAt (fun _ => True) l f c
theorem step_go {f : Nat} {c : Cfg} (l : List Value) (ks : List Nat) (facts : List Fact) (eqs : List EqF) (calls : List CallF) (d : List Nat) (k : Nat) (rl : List Nat) (ms l2 : List Value) (s : FrSpec) (ss : List FrSpec) (objs : List AObj)
    (hk : KindsB l ks = true) (hfacts : FactsOk Tryz.prog l facts) (heqs : EqsOk l eqs) (hcalls : CallsOk Tryz.prog Laid l calls) (hl2 : (l2.all fun v => v.oneCell') = true)
    (hrun : foldK 39 rl ms (s :: ss) objs (seg ks facts eqs calls d k c) = some (s.items :: ss.map (·.items), lows0)) (hlen : ((s :: ss).all fun s => decide (s.vals.length < 1000000)) = true) (hms : l2 = ms.map (den1 l))
    (hg : GoodF l2 f (cfgOf s ss objs)) : GoodF l f c :=
  step_goM (M := fun _ => True) l ks facts [] eqs calls d k rl ms l2 s ss objs hk hfacts trivial heqs (callsOk_laid hcalls) hl2 (by rw [List.append_nil]; exact hrun) hlen hms hg
theorem step_done {f : Nat} {c : Cfg} (l : List Value) (ks : List Nat) (facts : List Fact) (eqs : List EqF) (calls : List CallF) (d : List Nat) (k : Nat)
    (hk : KindsB l ks = true) (hfacts : FactsOk Tryz.prog l facts) (heqs : EqsOk l eqs) (hcalls : CallsOk Tryz.prog Laid l calls)
    (hrun : doneB (seg ks facts eqs calls d k c) = true) : GoodF l f c :=
  step_doneM (M := fun _ => True) l ks facts [] eqs calls d k hk hfacts trivial heqs (callsOk_laid hcalls) (by rw [List.append_nil]; exact hrun)
/-- A call that ends with true. -/
theorem calls_of_goodM (M : World → Prop) (l : List Value) (hl : (l.all fun v => v.oneCell') = true) {f : Nat} {fn : Func} {body : Code} (hfn : Tryz.prog.funcs[f]? = some fn) (hb : fn.body = some body) (args : List Value) (hsz : args.length ≤ fn.ntmps ∧ fn.ntmps < 1000000) (ha : args.all sim2 = true) (hg : GoodAt M l f (cfg0 f args))
    (w : World) (hL : Laid w) (hM : M w) (keepM : ∀ w1 w2, Below w.heap.size w1 w2 → M w1 → M w2) : Calls Tryz.prog f (args.map (den2 l)).toArray w fun e w' => e = .returned (.bool true) ∧ Below w.heap.size w w' := by
  refine calls_good (ng := 23) (nt := 5) (st0 := st0) (by decide) (by decide) M l hl hfn hb args hsz ha (fun B hJ => ?_) w hL hM keepM
  have h := hg hl B hJ
  have e1 : nOf f = fn.ntmps := by unfold nOf; rw [hfn]
  have e2 : cOf f = body := by unfold cOf; rw [hfn]; unfold codeOf; dsimp only; rw [hb]
  unfold cfg0 at h
  rw [e1, e2] at h
  exact h
theorem calls_of_good (l : List Value) (hl : (l.all fun v => v.oneCell') = true) {f : Nat} {fn : Func} {body : Code} (hfn : Tryz.prog.funcs[f]? = some fn) (hb : fn.body = some body) (args : List Value) (hsz : args.length ≤ fn.ntmps ∧ fn.ntmps < 1000000) (ha : args.all sim2 = true) (hg : GoodF l f (cfg0 f args))
    (w : World) (hL : Laid w) : Calls Tryz.prog f (args.map (den2 l)).toArray w fun e w' => e = .returned (.bool true) ∧ Below w.heap.size w w' :=
  calls_of_goodM (fun _ => True) l hl hfn hb args hsz ha hg w hL trivial (fun _ _ _ _ => trivial)
end Go.Proofs.YtdgeilfopkbacaaGreatDoor
