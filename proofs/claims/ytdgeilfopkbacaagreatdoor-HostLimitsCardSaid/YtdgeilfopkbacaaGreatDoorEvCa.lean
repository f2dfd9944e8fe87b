/- Configurations: a stack of frames, each at some point of its code, beside the machine's; they are led on step by step, so that a long run may be cut in pieces, parted where a comparison is open, and joined. No condition. -/
import Derived.Test.YtdgeilfopkbacaaGreatDoorEvW
set_option linter.unusedSectionVars false
set_option linter.unusedVariables false
set_option linter.unusedSimpArgs false
namespace Go.Proofs.YtdgeilfopkbacaaGreatDoor.Ev
open Go Go.RowKit

/-- A frame: its function, its registers, what is left of its code. -/
structure AFr where
  fn : Nat
  regs : Regs
  items : List Item
/-- The frame that runs, those that wait for it, the state. -/
structure Cfg where
  top : AFr
  cs : List AFr
  st : St
inductive CRes where
  | go (c : Cfg)
  | done (v : Value)
  | stuck (n : Nat)
section
variable [Sym]
structure QRel (ι : Ren) (a : AFr) (fr : Frame) : Prop where
  ex : ∃ (b : Frame) (act : Act) (u : FrameMode), fr = b.atR act a.items ∧ b.fn = a.fn ∧ b.kind = .normal ∧ b.roundOf = none ∧ RegRel ι a.regs act u
inductive SRel (ι : Ren) (f : Nat) : AFr → List AFr → Frame → List Frame → Prop
  | base {a : AFr} {fr : Frame} (h : QRel ι a fr) (hf : a.fn = f) : SRel ι f a [] fr []
  | push {a b : AFr} {fr fb : Frame} {l : List AFr} {lb : List Frame} (h : QRel ι a fr) (t : SRel ι f b l fb lb) : SRel ι f a (b :: l) fr (fb :: lb)
theorem QRel.mono {ι ι' : Ren} (le : ι.le ι') {a : AFr} {fr : Frame} (h : QRel ι a fr) : QRel ι' a fr := by
  obtain ⟨b, act, u, h1, h2, h3, h4, h5⟩ := h
  exact ⟨b, act, u, h1, h2, h3, h4, h5.mono le⟩
theorem SRel.mono {ι ι' : Ren} (le : ι.le ι') {f : Nat} {a : AFr} {l : List AFr} {fr : Frame} {lf : List Frame} (h : SRel ι f a l fr lf) : SRel ι' f a l fr lf := by
  induction h with
  | base h hf => exact .base (h.mono le) hf
  | push h _ ih => exact .push (h.mono le) ih
/-- The top frame. -/
theorem SRel.top {ι : Ren} {f : Nat} {a : AFr} {l : List AFr} {fr : Frame} {lf : List Frame} (h : SRel ι f a l fr lf) : QRel ι a fr := by
  cases h with
  | base h _ => exact h
  | push h _ => exact h
/-- Another top frame of the same function. -/
theorem SRel.swap {ι : Ren} {f : Nat} {a a' : AFr} {l : List AFr} {fr fr' : Frame} {lf : List Frame} (h : SRel ι f a l fr lf) (hn : a'.fn = a.fn) (k : QRel ι a' fr') : SRel ι f a' l fr' lf := by
  cases h with
  | base _ hf => exact .base k (hn.trans hf)
  | push _ t => exact .push k t
def FreeFrom (ι : Ren) (n : Nat) : Prop := ∀ b, n ≤ b → ι b = none
structure At (P : Program) (G : Nat) (B : Bd) (f : Nat) (c : Cfg) (ι : Ren) (w : World) (fr : Frame) (l : List Frame) : Prop where
  rel : WRel G B ι c.st w
  free : FreeFrom ι c.st.next
  stack : SRel ι f c.top c.cs fr l
/-- The one leads to the other. -/
def Move (P : Program) (G : Nat) (B : Bd) (f : Nat) (c c' : Cfg) : Prop :=
  ∀ ι w fr l cs, At P G B f c ι w fr l → ∃ ι' w1 fr1 l1, At P G B f c' ι' w1 fr1 l1 ∧ Below B.n w w1 ∧ Steps P (lone fr (l ++ cs) w) (lone fr1 (l1 ++ cs) w1)
/-- It ends with this value. -/
def End (P : Program) (G : Nat) (B : Bd) (f : Nat) (c : Cfg) (v : Value) : Prop :=
  ∀ ι w fr l cs, At P G B f c ι w fr l → ∃ ι' w1 fr1 v', VRel ι' v v' ∧ Below B.n w w1 ∧ Steps P (lone fr (l ++ cs) w) (lone fr1 cs w1) ∧ fr1.fn = f ∧ fr1.leaving P w1 (.returned v')
/-- It ends with true. -/
def Fine (P : Program) (G : Nat) (B : Bd) (f : Nat) (c : Cfg) : Prop :=
  ∀ ι w fr l cs, At P G B f c ι w fr l → ∃ w1 fr1, Below B.n w w1 ∧ Steps P (lone fr (l ++ cs) w) (lone fr1 cs w1) ∧ fr1.fn = f ∧ fr1.leaving P w1 (.returned (.bool true))
def Leads (P : Program) (G : Nat) (B : Bd) (f : Nat) (c : Cfg) : CRes → Prop
  | .go c' => Move P G B f c c'
  | .done v => End P G B f c v
  | .stuck _ => True
section
variable {P : Program} {G : Nat} {B : Bd} {f : Nat} {c c1 c2 : Cfg}
theorem Move.refl (c : Cfg) : Move P G B f c c := fun ι w fr l cs h => ⟨ι, w, fr, l, h, Below.refl _ _, Steps.refl _ _⟩
theorem Move.good (h : Move P G B f c c1) (k : Fine P G B f c1) : Fine P G B f c := by
  intro ι w fr l cs ha
  obtain ⟨ι1, w1, fr1, l1, h1, hb, hs⟩ := h ι w fr l cs ha
  obtain ⟨w2, fr2, hb2, hs2, h3, h4⟩ := k ι1 w1 fr1 l1 cs h1
  exact ⟨w2, fr2, hb.trans hb2, hs.trans hs2, h3, h4⟩
theorem Move.leads (h : Move P G B f c c1) {x : CRes} (k : Leads P G B f c1 x) : Leads P G B f c x := by
  cases x with
  | go c' =>
    intro ι w fr l cs ha
    obtain ⟨ι1, w1, fr1, l1, h1, hb, hs⟩ := h ι w fr l cs ha
    obtain ⟨ι2, w2, fr2, l2, h2, hb2, hs2⟩ := k ι1 w1 fr1 l1 cs h1
    exact ⟨ι2, w2, fr2, l2, h2, hb.trans hb2, hs.trans hs2⟩
  | done v =>
    intro ι w fr l cs ha
    obtain ⟨ι1, w1, fr1, l1, h1, hb, hs⟩ := h ι w fr l cs ha
    obtain ⟨ι2, w2, fr2, v', h2, hb2, hs2, h3, h4⟩ := k ι1 w1 fr1 l1 cs h1
    exact ⟨ι2, w2, fr2, v', h2, hb.trans hb2, hs.trans hs2, h3, h4⟩
  | stuck n => trivial
theorem End.good (h : End P G B f c (.bool true)) : Fine P G B f c := by
  intro ι w fr l cs ha
  obtain ⟨ι1, w1, fr1, v', hv, hb, hs, h3, h4⟩ := h ι w fr l cs ha
  cases hv
  exact ⟨w1, fr1, hb, hs, h3, h4⟩
/-- A step of the top frame's code that turns nothing. -/
theorem Move.item {fn : Nat} {r : Regs} {its its' : List Item} {l0 : List AFr} {st : St}
    (h : ∀ ι w (b : Frame) (a : Act) (u : FrameMode) cs, WRel G B ι st w → RegRel ι r a u → step P (lone (b.atR a its) cs w) = .next (lone (b.atR a its') cs w)) :
    Move P G B f ⟨⟨fn, r, its⟩, l0, st⟩ ⟨⟨fn, r, its'⟩, l0, st⟩ := by
  intro ι w fr l cs ha
  obtain ⟨b, act, u, h1, h2, h3, h4, h5⟩ := ha.stack.top
  refine ⟨ι, w, b.atR act its', l, ⟨ha.rel, ha.free, ha.stack.swap (a' := ⟨fn, r, its'⟩) rfl ⟨b, act, u, rfl, h2, h3, h4, h5⟩⟩, Below.refl _ _, ?_⟩
  rw [h1]
  exact .one (h ι w b act u _ ha.rel h5)
end
end

/-! ### how a configuration is led on -/
def backTo (v : Value) (st : St) : List AFr → (Nat → Regs → List Item → List AFr → St → CRes) → CRes
  | [], _ => .done v
  | b :: l, self => match b.items with
    | .inRegion ops (i :: rest) :: k => self b.fn (b.regs.put ((ops[i]?).bind (·.dst)) v) (.inRegion ops rest :: k) l st
    | _ => .stuck 1
section
variable [Sym]
/-- The function that a call enters on the stack (d: which functions may). -/
def deepFn (E : Env) (d : Nat → Bool) (r : Regs) (o : Oper) : Bool :=
  match o.op with
  | .call c => match c.callee with
    | .value x => match evOpd E r x with
      | .func (.func g) _ _ => d g
      | _ => false
    | _ => false
  | _ => false
def leaveK (E : Env) (X : Ext) (rec : Req → LM Ans2) (N : Nat) (self : Nat → Regs → List Item → List AFr → St → CRes) (fn : Nat) (r : Regs) (cs : List AFr) (st : St) : CRes :=
  match E.fn fn with
  | none => .stuck 2
  | some g => (evEnd E X rec N g (.ret, r)).fast (fun a st' _ _ => match a.fin with
      | .returned v => backTo v st' cs self
      | _ => .stuck 3) (.stuck 4) st [] []
def bigK (E : Env) (X : Ext) (rec : Req → LM Ans2) (N : Nat) (self : Nat → Regs → List Item → List AFr → St → CRes) (fn : Nat) (r : Regs) (x : Code) (k : List Item) (cs : List AFr) (st : St) : CRes :=
  (evCode E X rec N ⟨fn, false, none⟩ x r).fast (fun p st' _ _ => match p.1 with
    | .normal => self fn p.2 k cs st'
    | .exit id => match exitTo id k with
      | some k' => self fn p.2 k' cs st'
      | none => .stuck 5
    | _ => .stuck 6) (.stuck 7) st [] []
def deepK (E : Env) (X : Ext) (self : Nat → Regs → List Item → List AFr → St → CRes) (fn : Nat) (r : Regs) (its : List Item) (ops : Array Oper) (o : Oper) (cs : List AFr) (st : St) : CRes :=
  match evWanted ops r o with
  | some true => (aExec E X (evOpd E r) o).fast (fun n st' _ _ => match n with
    | .enter g args => match E.fn g with
      | some h => match h.body with
        | some b => match decide (args.size ≤ h.ntmps ∧ h.ntmps < 1000000) with
          | true => self g (enterRegs args h.ntmps .run) [.code b] (⟨fn, r, its⟩ :: cs) st'
          | false => .stuck 8
        | none => .stuck 9
      | none => .stuck 10
    | _ => .stuck 11) (.stuck 12) st [] []
  | _ => .stuck 19
def opK (E : Env) (X : Ext) (rec : Req → LM Ans2) (self : Nat → Regs → List Item → List AFr → St → CRes) (fn : Nat) (r : Regs) (ops : Array Oper) (o : Oper) (rest : List Nat) (k : List Item) (cs : List AFr) (st : St) : CRes :=
  (evOp E X rec ⟨fn, false, none⟩ ops o r).fast (fun p st' _ _ => match p.1 with
    | .normal => self fn p.2 (.inRegion ops rest :: k) cs st'
    | _ => .stuck 13) (.stuck 14) st [] []
def codeK (E : Env) (X : Ext) (rec : Req → LM Ans2) (N : Nat) (self : Nat → Regs → List Item → List AFr → St → CRes) (fn : Nat) (r : Regs) (k : List Item) (cs : List AFr) (st : St) : Code → CRes
  | .skip => self fn r k cs st
  | .label _ => self fn r k cs st
  | .seq x y => self fn r (.code x :: .code y :: k) cs st
  | .cond c x y => match evOpd E r c with
    | .bool true => self fn r (.code x :: k) cs st
    | .bool false => self fn r (.code y :: k) cs st
    | _ => .stuck 15
  | .block id c => self fn r (.code c :: .inBlock id :: k) cs st
  | .loop c => self fn r (.code c :: .inLoop c :: k) cs st
  | .scope c => self fn r (.code c :: .inScope c :: k) cs st
  | .exit id => match exitTo id k with
    | some k' => self fn r k' cs st
    | none => .stuck 16
  | .ret => leaveK E X rec N self fn r cs st
  | .region id ops draw => match draw with
    | false => self fn r (.inRegion ops (List.range ops.size) :: k) cs st
    | true => bigK E X rec N self fn r (.region id ops true) k cs st
  | x => bigK E X rec N self fn r x k cs st
def stepK (E : Env) (X : Ext) (rec : Req → LM Ans2) (N : Nat) (d : Nat → Bool) (self : Nat → Regs → List Item → List AFr → St → CRes) (fn : Nat) (r : Regs) (its : List Item) (cs : List AFr) (st : St) : CRes :=
  match its with
  | [] => leaveK E X rec N self fn r cs st
  | x :: k => match x with
    | .code c => codeK E X rec N self fn r k cs st c
    | .inBlock _ => self fn r k cs st
    | .inScope _ => self fn r k cs st
    | .inLoop c => self fn r (.code c :: .inLoop c :: k) cs st
    | .inRegion ops todo => match todo with
      | [] => self fn r k cs st
      | i :: rest => match ops[i]? with
        | none => .stuck 17
        | some o => match deepFn E d r o with
          | true => deepK E X self fn r its ops o cs st
          | false => opK E X rec self fn r ops o rest k cs st
    | _ => .stuck 18
def cgo (E : Env) (X : Ext) (rec : Req → LM Ans2) (N : Nat) (d : Nat → Bool) (n : Nat) : Nat → Regs → List Item → List AFr → St → CRes :=
  Nat.rec (fun fn r its cs st => .go ⟨⟨fn, r, its⟩, cs, st⟩) (fun _ self => stepK E X rec N d self) n

section
variable {E : Env} {P : Program} {B : Bd} {X : Ext} {rec : Req → LM Ans2} {N : Nat} {d : Nat → Bool} {f : Nat} {self : Nat → Regs → List Item → List AFr → St → CRes}
def SelfOk (P : Program) (G : Nat) (B : Bd) (f : Nat) (self : Nat → Regs → List Item → List AFr → St → CRes) : Prop := ∀ fn r its cs st, Leads P G B f ⟨⟨fn, r, its⟩, cs, st⟩ (self fn r its cs st)
/-- What is handed to what comes behind a run leads on, where each of its ends does. -/
theorem fast_leads {G : Nat} {c : Cfg} {α : Type} (m : LM α) (k : α → St → List Nat → List Nat → CRes) (n : Nat) (st : St) (h : ∀ x st' a b, Run m st x st' → Leads P G B f c (k x st' a b)) : Leads P G B f c (m.fast k (.stuck n) st [] []) := by
  rw [LM.fast_eq]
  split
  · trivial
  · rename_i x st' rd wr e
    exact h x st' _ _ ⟨rd, wr, e⟩
theorem FreeFrom.post {ι ι' : Ren} {G : Nat} {st st' : St} {w w' : World} (h : FreeFrom ι st.next) (p : Post G B ι st w st' ι' w') (g : st.next ≤ st'.next) : FreeFrom ι' st'.next :=
  fun b hb => (p.ext b (.inr hb)).trans (h b (by omega))
theorem FreeFrom.free {ι : Ren} {a n : Nat} (h : FreeFrom ι a) : Free ι a n := fun c h1 _ => h c h1
/-- What a call's end does. -/
theorem back_leads (hs : SelfOk P E.G B f self) {c : Cfg} {v : Value} {st' : St} {l0 : List AFr}
    (h : ∀ ι w fr l cs, At P E.G B f c ι w fr l → ∃ ι' w1 fr1 v', WRel E.G B ι' st' w1 ∧ FreeFrom ι' st'.next ∧ VRel ι' v v' ∧ Below B.n w w1 ∧ Steps P (lone fr (l ++ cs) w) (lone fr1 (l ++ cs) w1) ∧ fr1.fn = c.top.fn ∧ fr1.leaving P w1 (.returned v') ∧
      ((l0 = [] ∧ l = [] ∧ fr1.fn = f) ∨ ∃ b lb fb lf, l0 = b :: lb ∧ l = fb :: lf ∧ SRel ι' f b lb fb lf)) : Leads P E.G B f c (backTo v st' l0 self) := by
  unfold backTo
  split
  · intro ι w fr l cs ha
    obtain ⟨ι1, w1, fr1, v', h1, h2, h3, h4, h5, h6, h7, h8⟩ := h ι w fr l cs ha
    rcases h8 with ⟨_, rfl, hf⟩ | ⟨b, lb, fb, lf, e, _⟩
    · exact ⟨ι1, w1, fr1, v', h3, h4, h5, hf, h7⟩
    · cases e
  · rename_i b lb
    split
    · rename_i ops i rest k hits
      refine Move.leads ?_ (hs b.fn (b.regs.put ((ops[i]?).bind (·.dst)) v) (.inRegion ops rest :: k) lb st')
      intro ι w fr l cs ha
      obtain ⟨ι1, w1, fr1, v', h1, h2, h3, h4, h5, h6, h7, h8⟩ := h ι w fr l cs ha
      rcases h8 with ⟨e, _⟩ | ⟨b', lb', fb, lf, e, rfl, hst⟩
      · cases e
      · cases e
        obtain ⟨bb, act, u, q1, q2, q3, q4, q5⟩ := hst.top
        rw [hits] at q1
        have hfin := Frame.finish_atR bb act ops i rest k v'
        refine ⟨ι1, w1, bb.atR (act.put ((ops[i]?).bind (·.dst)) v') (.inRegion ops rest :: k), lf, ⟨h1, h2, hst.swap (a' := ⟨b.fn, b.regs.put ((ops[i]?).bind (·.dst)) v, .inRegion ops rest :: k⟩) rfl ⟨bb, _, u, rfl, q2, q3, q4, q5.put _ h3⟩⟩, h4, h5.trans (.one ?_)⟩
        have := step_leave_returned (c := fb) (cs := lf ++ cs) h7
        rw [q1, hfin] at this
        rw [q1]
        exact this
    · trivial
theorem leaveK_leads (ok : E.Ok P) (hX : X.Ok E P B) (hrec : CallSound E P B rec) (hs : SelfOk P E.G B f self) {fn : Nat} {r : Regs} {its : List Item} {l0 : List AFr} {st : St} (hits : its = [] ∨ ∃ k, its = .code .ret :: k) :
    Leads P E.G B f ⟨⟨fn, r, its⟩, l0, st⟩ (leaveK E X rec N self fn r l0 st) := by
  unfold leaveK
  split
  · trivial
  · rename_i g eg
    · refine fast_leads _ _ _ _ fun a st' rd wr hrun => ?_
      split
      · rename_i v hfin
        refine back_leads hs ?_
        intro ι w fr l cs ha
        obtain ⟨b, act, u, q1, q2, q3, q4, q5⟩ := ha.stack.top
        dsimp only at q1 q2 q5
        obtain ⟨hfn, _, _⟩ := ok.fn fn g eg
        have hg := Run.grow hrun
        have harr : Arr P (lone fr (l ++ cs) w) b [] (l ++ cs) .ret act w ∨ Arr P (lone fr (l ++ cs) w) b [] (l ++ cs) .normal act w := by
          rcases hits with h | ⟨k, h⟩
          · right; rw [q1, h]; exact Steps.refl _ _
          · left; rw [q1, h]; exact ⟨k, Steps.refl _ _⟩
        have key : ∃ ι' w' e' fr', Post E.G B ι st w st' ι' w' ∧ EndRel ι' a.fin e' ∧ Steps P (lone fr (l ++ cs) w) (lone fr' (l ++ cs) w') ∧ fr'.fn = b.fn ∧ fr'.kind = b.kind ∧
            (match e' with
              | .returned v => fr'.mode = .returning ∧ fr'.defers = [] ∧ (results g fr'.tmps).run P w' = .ok v w'
              | .panicked ch => fr'.mode = .panicking ch ∧ fr'.defers = []
              | .outgrown => False) := by
          rcases harr with harr | harr
          · obtain ⟨ι', w', e', fr', p1, p2, _, p4, p5, p6, p7⟩ := end_does (b := b) ok hX hrec ha.rel ha.free.free hrun q4 (by rw [q2]; exact hfn) q5 (ex' := .ret) .ret harr
            exact ⟨ι', w', e', fr', p1, p2, p4, p5, p6, p7⟩
          · have hrun2 : Run (evEnd E X rec N g (.normal, r)) st a st' := hrun
            obtain ⟨ι', w', e', fr', p1, p2, _, p4, p5, p6, p7⟩ := end_does (b := b) (p := (.normal, r)) ok hX hrec ha.rel ha.free.free hrun2 q4 (by rw [q2]; exact hfn) q5 (ex' := .normal) .normal harr
            exact ⟨ι', w', e', fr', p1, p2, p4, p5, p6, p7⟩
        obtain ⟨ι', w', e', fr', p1, p2, p4, p5, p6, p7⟩ := key
        rw [hfin] at p2
        cases p2 with
        | returned hv =>
          rename_i v'
          refine ⟨ι', w', fr', v', p1.rel, ha.free.post p1 hg, hv, p1.below, p4, p5.trans q2, ⟨p7.1, p7.2.1, p6.trans q3, g, by rw [p5, q2]; exact hfn, p7.2.2⟩, ?_⟩
          have hst := ha.stack
          dsimp only at hst
          cases hst with
          | base _ hf => exact .inl ⟨rfl, rfl, by rw [p5, q2]; exact hf⟩
          | push _ t => exact .inr ⟨_, _, _, _, rfl, rfl, t.mono p1.le⟩
      · trivial
/-- A piece of the top frame's code, done whole. -/
theorem big_move (ok : E.Ok P) {ctx : Ctx} {fn : Nat} (hctx : ctx = ⟨fn, false, none⟩) {r r' : Regs} {x : Code} {g : Regs → LM (AExit × Regs)} (hcode : ∀ b cs0, CodeAt P E B ctx b cs0 g x) {k k' : List Item} {l0 : List AFr} {st st' : St} {ex : AExit} (hrun : Run (g r) st (ex, r') st')
    (hk : (ex = .normal ∧ k' = k) ∨ (∃ id, ex = .exit id ∧ exitTo id k = some k')) : Move P E.G B f ⟨⟨fn, r, .code x :: k⟩, l0, st⟩ ⟨⟨fn, r', k'⟩, l0, st'⟩ := by
  subst hctx
  intro ι w fr l cs ha
  obtain ⟨b, act, u, q1, q2, q3, q4, q5⟩ := ha.stack.top
  dsimp only at q1 q2 q5
  have hg := Run.grow hrun
  obtain ⟨ι1, w1, a1, u1, ex1, hp, hr1, he, harr⟩ := hcode b (l ++ cs) k ι st st' w r act u (ex, r') ha.rel ha.free.free q5 ⟨q2, q3, .inl ⟨rfl, q4⟩, nofun⟩ hrun
  refine ⟨ι1, w1, b.atR a1 k', l, ⟨hp.rel, ha.free.post hp hg, (ha.stack.mono hp.le).swap (a' := ⟨fn, r', k'⟩) rfl ⟨b, a1, u1, rfl, q2, q3, q4, hr1⟩⟩, hp.below, ?_⟩
  rw [q1]
  dsimp only at he
  rcases hk with ⟨rfl, rfl⟩ | ⟨id, rfl, hx⟩
  · cases he
    exact harr
  · cases he
    obtain ⟨k1, e1, hs⟩ := harr
    exact Steps.trans hs (.one (stepR_exit (e1.trans hx)))
theorem bigK_leads (ok : E.Ok P) (hX : X.Ok E P B) (hrec : CallSound E P B rec) (hm : P.follows .mixedOrders = true) (hs : SelfOk P E.G B f self) {fn : Nat} {r : Regs} {x : Code} {k : List Item} {l0 : List AFr} {st : St} :
    Leads P E.G B f ⟨⟨fn, r, .code x :: k⟩, l0, st⟩ (bigK E X rec N self fn r x k l0 st) := by
  unfold bigK
  have hc : ∀ b cs0, CodeAt P E B ⟨fn, false, none⟩ b cs0 (evCode E X rec N ⟨fn, false, none⟩ x) x := fun b cs0 => code_does ok hX hrec hm x
  refine fast_leads _ _ _ _ fun p st' rd wr hrun => ?_
  obtain ⟨ex, r'⟩ := p
  dsimp only
  split
  · exact Move.leads (big_move ok rfl hc hrun (.inl ⟨rfl, rfl⟩)) (hs _ _ _ _ _)
  · split
    · rename_i id k' hx
      exact Move.leads (big_move ok rfl hc hrun (.inr ⟨_, rfl, hx⟩)) (hs _ _ _ _ _)
    · trivial
  · trivial
theorem opK_leads (ok : E.Ok P) (hX : X.Ok E P B) (hrec : CallSound E P B rec) (hs : SelfOk P E.G B f self) {fn : Nat} {r : Regs} {ops : Array Oper} {i : Nat} {o : Oper} (hi : ops[i]? = some o) {rest : List Nat} {k : List Item} {l0 : List AFr} {st : St} :
    Leads P E.G B f ⟨⟨fn, r, .inRegion ops (i :: rest) :: k⟩, l0, st⟩ (opK E X rec self fn r ops o rest k l0 st) := by
  unfold opK
  · refine fast_leads _ _ _ _ fun p st' rd wr hrun => ?_
    obtain ⟨ex, r'⟩ := p
    dsimp only
    split
    · refine Move.leads ?_ (hs _ _ _ _ _)
      intro ι w fr l cs ha
      obtain ⟨b, act, u, q1, q2, q3, q4, q5⟩ := ha.stack.top
      dsimp only at q1 q2 q5
      have hg := Run.grow hrun
      obtain ⟨ι1, w1, a1, u1, ex1, hp, hr1, he, _, harr⟩ := op_does ok hX hrec ha.rel ha.free.free hi q5 hrun b (l ++ cs) ⟨q2, q3, .inl ⟨rfl, q4⟩, nofun⟩ rest k
      dsimp only at he
      cases he
      refine ⟨ι1, w1, b.atR a1 (.inRegion ops rest :: k), l, ⟨hp.rel, ha.free.post hp hg, (ha.stack.mono hp.le).swap (a' := ⟨fn, r', .inRegion ops rest :: k⟩) rfl ⟨b, a1, u1, rfl, q2, q3, q4, hr1⟩⟩, hp.below, ?_⟩
      rw [q1]
      exact harr
    · trivial
theorem deepK_leads (ok : E.Ok P) (hX : X.Ok E P B) (hs : SelfOk P E.G B f self) {fn : Nat} {r : Regs} {ops : Array Oper} {i : Nat} {o : Oper} (hi : ops[i]? = some o) {rest : List Nat} {k : List Item} {l0 : List AFr} {st : St} :
    Leads P E.G B f ⟨⟨fn, r, .inRegion ops (i :: rest) :: k⟩, l0, st⟩ (deepK E X self fn r (.inRegion ops (i :: rest) :: k) ops o l0 st) := by
  unfold deepK
  split
  · rename_i ew
    refine fast_leads _ _ _ _ fun nx st' rd wr hrun => ?_
    split
    · rename_i g args
      split
      · rename_i h eg
        split
        · rename_i body eb
          split
          · rename_i hd
            obtain ⟨g1, g2⟩ := of_decide_eq_true hd
            refine Move.leads ?_ (hs _ _ _ _ _)
            intro ι w fr l cs ha
            obtain ⟨b, act, u, q1, q2, q3, q4, q5⟩ := ha.stack.top
            dsimp only at q1 q2 q5
            have hg := Run.grow hrun
            obtain ⟨hfn, _, _⟩ := ok.fn g h eg
            have hwant := wanted_run q5 ew
            obtain ⟨ι1, w1, hp1, hn⟩ := exec_does ok hX ha.rel (fun c h1 h2 => ha.free c h1) (fun y => opd_rel ha.rel q5 y) hrun
            have hsem : o.semAt b.roundOf act.eval = execOp act.eval o := by rw [q4]; rfl
            have hgo := stepGR_op (P := P) (b := b) (a := act) (k := k) (cs := l ++ cs) (w := w) (rest := rest) hi hwant
            rw [hsem] at hgo
            generalize hres : (execOp act.eval o).run P w = res at hn
            cases hn with
            | enter hf hargs =>
              rename_i fn' args'
              have henter : step P (lone (b.atR act (.inRegion ops (i :: rest) :: k)) (l ++ cs) w) = .next (lone (Frame.enter P g args' .normal) (b.atR act (.inRegion ops (i :: rest) :: k) :: (l ++ cs)) w1) :=
                step_lone_go (by rw [hgo]; simp [stepG.apply, hres, Frame.atR])
              let b2 : Frame := { (default : Frame) with fn := g, kind := .normal }
              have hent2 : Frame.enter P g args' .normal = b2.atR { tmps := args' ++ Array.replicate (h.ntmps - args'.size) undef, defers := [] } [.code body] := by
                simp [Frame.enter, Frame.atR, hfn, eb, b2]
                rfl
              refine ⟨ι1, w1, _, b.atR act (.inRegion ops (i :: rest) :: k) :: l, ⟨hp1.rel, ha.free.post hp1 hg, .push ⟨b2, _, .run, rfl, rfl, rfl, rfl, enter_rel hargs g1 g2 .run⟩ ?_⟩, hp1.below, ?_⟩
              · have := (ha.stack.mono hp1.le)
                rw [q1] at this
                exact this
              · rw [q1]
                refine .one ?_
                rw [henter, hent2]
                rfl
          · trivial
        · trivial
      · trivial
    · trivial
  · trivial
theorem codeK_leads (ok : E.Ok P) (hX : X.Ok E P B) (hrec : CallSound E P B rec) (hm : P.follows .mixedOrders = true) (hs : SelfOk P E.G B f self) {fn : Nat} {r : Regs} {k : List Item} {l0 : List AFr} {st : St} (x : Code) :
    Leads P E.G B f ⟨⟨fn, r, .code x :: k⟩, l0, st⟩ (codeK E X rec N self fn r k l0 st x) := by
  cases x with
  | skip => exact Move.leads (Move.item fun _ _ _ _ _ _ _ _ => stepR_skip) (hs _ _ _ _ _)
  | label l => exact Move.leads (Move.item fun _ _ _ _ _ _ _ _ => stepR_label) (hs _ _ _ _ _)
  | seq x y => exact Move.leads (Move.item fun _ _ _ _ _ _ _ _ => stepR_seq) (hs _ _ _ _ _)
  | cond c x y =>
    show Leads P E.G B f _ (match evOpd E r c with
      | .bool true => self fn r (.code x :: k) l0 st
      | .bool false => self fn r (.code y :: k) l0 st
      | _ => .stuck 15)
    split
    · rename_i e
      refine Move.leads (Move.item fun ι w b a u cs hw hr => ?_) (hs _ _ _ _ _)
      have hc := opd_rel hw hr c
      rw [e] at hc
      have hb : a.eval c = .bool true := by cases hq : a.eval c <;> rw [hq] at hc <;> cases hc; rfl
      exact stepR_cond hb
    · rename_i e
      refine Move.leads (Move.item fun ι w b a u cs hw hr => ?_) (hs _ _ _ _ _)
      have hc := opd_rel hw hr c
      rw [e] at hc
      have hb : a.eval c = .bool false := by cases hq : a.eval c <;> rw [hq] at hc <;> cases hc; rfl
      exact stepR_cond hb
    · trivial
  | block id c => exact Move.leads (Move.item fun _ _ _ _ _ _ _ _ => stepR_block) (hs _ _ _ _ _)
  | loop c => exact Move.leads (Move.item fun _ _ _ _ _ _ _ _ => stepR_loop) (hs _ _ _ _ _)
  | scope c => exact Move.leads (Move.item fun _ _ _ _ _ _ _ _ => stepR_scope) (hs _ _ _ _ _)
  | exit id =>
    show Leads P E.G B f _ (match exitTo id k with
      | some k' => self fn r k' l0 st
      | none => .stuck 16)
    split
    · rename_i k' e
      exact Move.leads (Move.item fun _ _ _ _ _ _ _ _ => stepR_exit e) (hs _ _ _ _ _)
    · trivial
  | ret => exact leaveK_leads ok hX hrec hs (.inr ⟨k, rfl⟩)
  | region id ops draw =>
    cases draw with
    | false => exact Move.leads (Move.item fun _ _ _ _ _ _ _ _ => stepR_region) (hs _ _ _ _ _)
    | true => exact bigK_leads ok hX hrec hm hs
  | rangeFunc a b c d => exact bigK_leads ok hX hrec hm hs
  | goto l => exact bigK_leads ok hX hrec hm hs
  | refuse s => exact bigK_leads ok hX hrec hm hs
theorem stepK_leads (ok : E.Ok P) (hX : X.Ok E P B) (hrec : CallSound E P B rec) (hm : P.follows .mixedOrders = true) (hs : SelfOk P E.G B f self) : SelfOk P E.G B f (stepK E X rec N d self) := by
  intro fn r its l0 st
  unfold stepK
  split
  · exact leaveK_leads ok hX hrec hs (.inl rfl)
  · rename_i x k
    split
    · exact codeK_leads ok hX hrec hm hs _
    · exact Move.leads (Move.item fun _ _ _ _ _ _ _ _ => stepR_inBlock) (hs _ _ _ _ _)
    · exact Move.leads (Move.item fun _ _ _ _ _ _ _ _ => stepR_inScope) (hs _ _ _ _ _)
    · exact Move.leads (Move.item fun _ _ _ _ _ _ _ _ => stepR_inLoop) (hs _ _ _ _ _)
    · split
      · exact Move.leads (Move.item fun _ _ _ _ _ _ _ _ => stepR_region_end) (hs _ _ _ _ _)
      · rename_i ops i rest
        split
        · trivial
        · rename_i o hi
          split
          · exact deepK_leads ok hX hs hi
          · exact opK_leads ok hX hrec hs hi
    · trivial
theorem cgo_ok (ok : E.Ok P) (hX : X.Ok E P B) (hrec : CallSound E P B rec) (hm : P.follows .mixedOrders = true) : ∀ n, SelfOk P E.G B f (cgo E X rec N d n)
  | 0 => fun fn r its cs st => Move.refl _
  | n + 1 => stepK_leads ok hX hrec hm (cgo_ok ok hX hrec hm n)
end
end
end Go.Proofs.YtdgeilfopkbacaaGreatDoor.Ev
