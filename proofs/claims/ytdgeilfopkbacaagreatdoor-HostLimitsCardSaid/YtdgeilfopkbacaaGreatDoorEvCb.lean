/- A configuration folded into another one: blocks numbered anew, tokens set anew, what is of no use forgotten. No condition. -/
import Derived.Test.YtdgeilfopkbacaaGreatDoorEvCa
set_option linter.unusedSectionVars false
set_option linter.unusedVariables false
set_option linter.unusedSimpArgs false
namespace Go.Proofs.YtdgeilfopkbacaaGreatDoor.Ev
open Go Go.RowKit

/-! ### lists as tries -/
def fillT {α : Type} : List α → Nat → Tr α → Tr α
  | [], _, t => t
  | v :: vs, i, t => match Tr.set 40 t i (some v) with
    | .nil => fillT vs (Nat.add i 1) .nil
    | .node a b c => fillT vs (Nat.add i 1) (.node a b c)
theorem fillT_cons {α : Type} (v : α) (vs : List α) (i : Nat) (t : Tr α) : fillT (v :: vs) i t = fillT vs (i + 1) (Tr.set 40 t i (some v)) := by
  show (match Tr.set 40 t i (some v) with
    | .nil => fillT vs (Nat.add i 1) .nil
    | .node a b c => fillT vs (Nat.add i 1) (.node a b c)) = _
  cases Tr.set 40 t i (some v) <;> rfl
theorem fillT_get {α : Type} : ∀ (vs : List α) (i : Nat) (t : Tr α) (m : Nat), i + vs.length < 1000000 → (fillT vs i t).get m = if i ≤ m ∧ m < i + vs.length then vs[m - i]? else t.get m
  | [], i, t, m, h => by rw [if_neg (by simp)]; rfl
  | v :: vs, i, t, m, h => by
    simp only [List.length_cons] at h
    rw [fillT_cons, fillT_get vs (i + 1) _ m (by omega)]
    have h40 : (2 : Nat) ^ 40 = 1099511627776 := by decide
    by_cases h1 : m = i
    · subst h1
      rw [if_neg (by omega), if_pos (by simp), Tr.get_set 40 t m (some v) m (by omega), if_pos rfl]
      simp
    · by_cases h2 : i + 1 ≤ m ∧ m < i + 1 + vs.length
      · rw [if_pos h2, if_pos (by simp; omega)]
        obtain ⟨d, hd⟩ : ∃ d, m - i = d + 1 := ⟨m - i - 1, by omega⟩
        rw [hd, show m - (i + 1) = d by omega]; rfl
      · rw [if_neg h2, if_neg (by simp; omega), Tr.get_set 40 t i (some v) m (by omega), if_neg h1]

/-! ### places in code; short names -/
def itemsAt : List Nat → Code → List Item → List Item
  | [], c, k => .code c :: k
  | n :: p, c, k => match Nat.beq n 1000 with
    | true => k
    | false => match c with
      | .seq x y => match Nat.beq n 0 with
        | true => itemsAt p x (.code y :: k)
        | false => itemsAt p y k
      | .cond _ x y => match Nat.beq n 0 with
        | true => itemsAt p x k
        | false => itemsAt p y k
      | .block id c => itemsAt p c (.inBlock id :: k)
      | .loop c => itemsAt p c (.inLoop c :: k)
      | .scope c => itemsAt p c (.inScope c :: k)
      | .region _ ops _ => .inRegion ops (List.range' n (ops.size - n)) :: k
      | c => .code c :: k
def codeOf (g : Func) : Code := match g.body with
  | some c => c
  | none => .skip
def tp : Value := .complex .f64 0 0
def tps (n : Nat) : List Value := List.replicate n tp
def pt (b o : Nat) : Value := .pointer (some ⟨b, o, none⟩)
def sl (b o n c : Nat) : Value := .slice (some ⟨b, o, none⟩) n c
/-! ### the check -/
structure FrSpec where
  fn : Nat
  items : List Item
  vals : List Value
def frOf (s : FrSpec) : AFr := ⟨s.fn, ⟨fillT s.vals 0 .nil, s.vals.length, [], .run⟩, s.items⟩
def stOf (G : Nat) (h0 : Tr AObj) (objs : List AObj) : St := ⟨fillT objs G h0, G + objs.length⟩
/-- Where a block was before it was numbered anew. -/
def was (G : Nat) (rt : Tr Nat) (b : Nat) : Option Nat := match Nat.blt b G with
  | true => some b
  | false => rt.get (Nat.sub b G)
def isAt (G : Nat) (rt : Tr Nat) (a b : Nat) : Bool := match was G rt b with
  | some x => Nat.beq a x
  | none => false
def fitL (f : Value → Value → Bool) : List Value → List Value → Bool
  | [], [] => true
  | a :: l, b :: m => match f a b with
    | true => fitL f l m
    | false => false
  | _, _ => false
/-- The first cells of a block. -/
def fitP (f : Value → Value → Bool) : List Value → List Value → Bool
  | _, [] => true
  | a :: l, b :: m => match f a b with
    | true => fitP f l m
    | false => false
  | [], _ :: _ => false
def fitFn (G : Nat) (rt : Tr Nat) : Fn → Fn → Bool
  | .func a, .func b => Nat.beq a b
  | .yield a, .yield b => isAt G rt a b
  | _, _ => false
def fitAddr (G : Nat) (rt : Tr Nat) (a b : Addr) : Bool := isAt G rt a.block b.block && (Nat.beq a.off b.off && (a.spot.isNone && b.spot.isNone))
def fitV (G : Nat) (rt : Tr Nat) (ms : List Value) : Nat → Value → Value → Bool
  | 0, _, _ => false
  | d + 1, a, b => match b with
    | .complex .f64 0 0 => true
    | .complex .f64 (j + 1) 0 => match ms[j]? with
      | some m => sameV a m
      | none => false
    | .bool _ => sameV a b
    | .int _ _ => sameV a b
    | .string _ => sameV a b
    | .pointer none => match a with
      | .pointer none => true
      | _ => false
    | .pointer (some q) => match a with
      | .pointer (some p) => fitAddr G rt p q
      | _ => false
    | .slice none n c => match a with
      | .slice none n' c' => Nat.beq n n' && Nat.beq c c'
      | _ => false
    | .slice (some q) n c => match a with
      | .slice (some p) n' c' => Nat.beq n n' && (Nat.beq c c' && fitAddr G rt p q)
      | _ => false
    | .map none => match a with
      | .map none => true
      | _ => false
    | .map (some q) => match a with
      | .map (some p) => isAt G rt p q
      | _ => false
    | .nilFunc => match a with
      | .nilFunc => true
      | _ => false
    | .nilIface => match a with
      | .nilIface => true
      | _ => false
    | .func f x c => match a with
      | .func f' x' c' => fitFn G rt f' f && (fitL (fitV G rt ms d) x'.toList x.toList && fitL (fitV G rt ms d) c'.toList c.toList)
      | _ => false
    | .iface t v => match a with
      | .iface t' v' => Nat.beq t t' && fitV G rt ms d v' v
      | _ => false
    | .agg c => match a with
      | .agg c' => fitL (fitV G rt ms d) c'.toList c.toList
      | _ => false
    | .tuple c => match a with
      | .tuple c' => fitL (fitV G rt ms d) c'.toList c.toList
      | _ => false
    | _ => false
def fitE (G : Nat) (rt : Tr Nat) (ms : List Value) : List MapEntry → List MapEntry → Bool
  | [], [] => true
  | a :: l, b :: m => fitV G rt ms 6 a.key b.key && (fitV G rt ms 6 a.val b.val && (Nat.beq a.born b.born && fitE G rt ms l m))
  | _, _ => false
def sameNs : List Nat → List Nat → Bool
  | [], [] => true
  | a :: l, b :: m => Nat.beq a b && sameNs l m
  | _, _ => false
def fitO (G : Nat) (rt : Tr Nat) (ms : List Value) (a b : AObj) : Bool :=
  match b with
  | .cells c t fro g => match a with
    | .cells c' t' fro' g' => Nat.beq t t' && ((fro == fro') && (Nat.beq g g' && fitP (fitV G rt ms 6) c'.toList c.toList))
    | _ => false
  | .other (.map es k) => match a with
    | .other (.map es' k') => Nat.beq k k' && fitE G rt ms es'.toList es.toList
    | _ => false
  | .other (.stringIter s p) => match a with
    | .other (.stringIter s' p') => Nat.beq p p' && decide (s'.data.toList = s.data.toList)
    | _ => false
  | .other (.mapIter m since seen stepped) => match a with
    | .other (.mapIter m' since' seen' stepped') => (match m, m' with
        | none, none => true
        | some q, some p => isAt G rt p q
        | _, _ => false) && (Nat.beq since since' && (Nat.beq stepped stepped' && sameNs seen'.toList seen.toList))
    | _ => false
  | .other (.deferred none) => match a with
    | .other (.deferred none) => true
    | _ => false
  | _ => false
def fitObjs (G : Nat) (rt : Tr Nat) (ms : List Value) (st : St) : List Nat → List AObj → Bool
  | [], [] => true
  | b :: l, o :: m => match st.get b with
    | some a => match fitO G rt ms a o with
      | true => fitObjs G rt ms st l m
      | false => false
    | none => false
  | _, _ => false
def fitRegs (G : Nat) (rt : Tr Nat) (ms : List Value) (r : Regs) : Nat → List Value → Bool
  | _, [] => true
  | t, v :: l => match fitV G rt ms 6 (r.get t) v with
    | true => fitRegs G rt ms r (Nat.add t 1) l
    | false => false
def isRun : FrameMode → Bool
  | .run => true
  | _ => false
def fitF (G : Nat) (rt : Tr Nat) (ms : List Value) (a : AFr) (s : FrSpec) : Bool :=
  Nat.beq a.fn s.fn && (Nat.beq a.regs.size s.vals.length && (a.regs.defers.isEmpty && (isRun a.regs.mode && fitRegs G rt ms a.regs 0 s.vals)))
def fitFs (G : Nat) (rt : Tr Nat) (ms : List Value) : List AFr → List FrSpec → Bool
  | [], [] => true
  | a :: l, s :: m => fitF G rt ms a s && fitFs G rt ms l m
  | _, _ => false
def apartNs : List Nat → Bool
  | [] => true
  | a :: l => l.all (fun b => !Nat.beq a b) && apartNs l
def lowsOf (G : Nat) (h : Tr AObj) : List (Option AObj) := (List.range G).map h.get
/-- What there is to compare of a configuration, where it fits. -/
def foldK (G : Nat) (rl : List Nat) (ms : List Value) (fs : List FrSpec) (objs : List AObj) : CRes → Option (List (List Item) × List (Option AObj))
  | .go c => match rl.all (fun b => Nat.ble G b) && (apartNs rl && (Nat.blt (G + rl.length) 1000000 && (fitObjs G (fillT rl 0 .nil) ms c.st rl objs && fitFs G (fillT rl 0 .nil) ms (c.top :: c.cs) fs))) with
    | true => some (c.top.items :: c.cs.map (·.items), lowsOf G c.st.heap)
    | false => none
  | _ => none

/-! ### it is sound -/
section
variable {G : Nat} {rl : List Nat} {ms : List Value} {l1 l2 : List Value} {h1 : (l1.all fun v => v.oneCell') = true} {h2 : (l2.all fun v => v.oneCell') = true} {ι : Ren}
def newRen (G : Nat) (rt : Tr Nat) (ι : Ren) : Ren := fun b => (was G rt b).bind ι
theorem isAt_eq {rt : Tr Nat} {a b : Nat} (h : isAt G rt a b = true) : was G rt b = some a := by
  unfold isAt at h
  split at h
  · rename_i x e
    rw [e, Nat.eq_of_beq_eq_true h]
  · cases h
theorem newRen_at {rt : Tr Nat} {a b : Nat} (h : isAt G rt a b = true) : newRen G rt ι b = ι a := by
  unfold newRen
  rw [isAt_eq h]; rfl
theorem newRen_to {rt : Tr Nat} {a b : Nat} (h : isAt G rt a b = true) : (newRen G rt ι).to b = ι.to a := by
  unfold Ren.to; rw [newRen_at h]
theorem fitAddr_rel {rt : Tr Nat} {a b a' : Addr} (h : fitAddr G rt a b = true) (k : addrRel ι a a') : addrRel (newRen G rt ι) b a' := by
  unfold fitAddr at h
  simp only [Bool.and_eq_true, Option.isNone_iff_eq_none] at h
  obtain ⟨e1, e2, e3, e4⟩ := h
  obtain ⟨k1, k2, k3, k4⟩ := k
  exact ⟨by rw [newRen_to e1]; exact k1, by rw [k2]; exact Nat.eq_of_beq_eq_true e2, e4, k4⟩
theorem fitL_rel {f : Value → Value → Bool} {rt : Tr Nat} (hf : ∀ a b v', f a b = true → @VRel (symOf l1 h1) ι a v' → @VRel (symOf l2 h2) (newRen G rt ι) b v') : ∀ (c d : List Value) (c' : Array Value), fitL f c d = true → @ARel (symOf l1 h1) ι c.toArray c' → @ARel (symOf l2 h2) (newRen G rt ι) d.toArray c' := by
  have key : ∀ (c d : List Value), fitL f c d = true → d.length = c.length ∧ ∀ i, i < d.length → f (c.getD i undef) (d.getD i undef) = true := by
    intro c
    induction c with
    | nil => intro d h; cases d with
      | nil => exact ⟨rfl, fun i hi => absurd hi (by simp)⟩
      | cons b m => cases h
    | cons a c ih =>
      intro d h
      cases d with
      | nil => cases h
      | cons b m =>
        unfold fitL at h
        split at h
        · rename_i hab
          obtain ⟨e, k⟩ := ih m h
          refine ⟨by simp [e], fun i hi => ?_⟩
          cases i with
          | zero => exact hab
          | succ i => simpa using k i (by simpa using hi)
        · cases h
  intro c d c' h k
  obtain ⟨e, hk⟩ := key c d h
  refine ⟨by have := k.1; simp at this ⊢; omega, fun i hi => ?_⟩
  have hi' : i < d.length := by simpa using hi
  have := k.2 i (by simp; omega)
  refine hf _ _ _ ?_ this
  have := hk i hi'
  simpa [Array.getD_eq_getD_getElem?, List.getD_eq_getElem?_getD] using this
theorem sameV_tok {a m : Value} (h : sameV a m = true) {v' : Value} (k : @VRel (symOf l1 h1) ι a v') : v' = den1 l1 m := by
  have hs := sameV_sim h
  rw [← sameV_eq h]
  exact den1_eq hs k
theorem fitV_rel {rt : Tr Nat} (hm : ∀ (j : Nat) (m : Value), ms[j]? = some m → l2.getD j (.bool false) = den1 l1 m) : ∀ (d : Nat) (a b v' : Value), fitV G rt ms d a b = true → @VRel (symOf l1 h1) ι a v' → @VRel (symOf l2 h2) (newRen G rt ι) b v' := by
  intro d
  induction d with
  | zero => intro a b v' h; cases h
  | succ d ih =>
    intro a b v' h k
    have scal : ∀ x, (∀ i, x ≠ .complex .f64 (i + 1) 0) → sameV a x = true → @VRel (symOf l2 h2) (newRen G rt ι) x v' := by
      intro x hx hs
      rw [sameV_tok hs k]
      have hsx : simV x = true := by rw [← sameV_eq hs]; exact sameV_sim hs
      have e : den1 l1 x = den1 l2 x := by
        unfold den1
        split
        · rename_i i; exact absurd rfl (hx i)
        · rfl
      rw [e]
      exact den1_rel hsx
    have list : ∀ (x y : Array Value) (x' : Array Value), fitL (fitV G rt ms d) x.toList y.toList = true → @ARel (symOf l1 h1) ι x x' → @ARel (symOf l2 h2) (newRen G rt ι) y x' := by
      intro x y x' hf hk
      have := fitL_rel (G := G) (rt := rt) (h1 := h1) (h2 := h2) (ι := ι) (fun a b v' x y => ih a b v' x y) x.toList y.toList x' hf (by simpa using hk)
      simpa using this
    unfold fitV at h
    split at h
    · exact @VRel.top (symOf l2 h2) _ _
    · rename_i j
      split at h
      · rename_i m em
        have e := sameV_tok h k
        have e2 : den1 l1 m = (symOf l2 h2).val j := (hm j m em).symm
        rw [e, e2]
        exact @VRel.tok (symOf l2 h2) _ j
      · cases h
    · exact scal _ (fun i => nofun) h
    · exact scal _ (fun i => nofun) h
    · exact scal _ (fun i => nofun) h
    · split at h
      · cases k; exact @VRel.ptr0 (symOf l2 h2) _
      · cases h
    · split at h
      · cases k with
        | ptr ha => exact @VRel.ptr (symOf l2 h2) _ _ _ (fitAddr_rel h ha)
      · cases h
    · split at h
      · simp only [Bool.and_eq_true] at h
        rw [Nat.eq_of_beq_eq_true h.1, Nat.eq_of_beq_eq_true h.2]
        cases k; exact @VRel.sl0 (symOf l2 h2) _ _ _
      · cases h
    · split at h
      · rename_i q n c _ p n' c'
        simp only [Bool.and_eq_true] at h
        obtain ⟨e1, e2, e3⟩ := h
        have en := Nat.eq_of_beq_eq_true e1
        have ec := Nat.eq_of_beq_eq_true e2
        subst en ec
        have hat : isAt G rt p.block q.block = true := by unfold fitAddr at e3; simp only [Bool.and_eq_true] at e3; exact e3.1
        have hoff : p.off = q.off := by unfold fitAddr at e3; simp only [Bool.and_eq_true] at e3; exact Nat.eq_of_beq_eq_true e3.2.1
        cases k with
        | sl _ ha hc => exact @VRel.sl (symOf l2 h2) _ _ _ _ _ (fitAddr_rel e3 ha) hc
        | slg _ ha h0 hk q1 q2 hc => exact @VRel.slg (symOf l2 h2) _ _ _ _ _ _ (fitAddr_rel e3 ha) (hoff ▸ h0) (by rw [newRen_at hat]; exact hk) q1 q2 hc
        | slv _ ha q1 hc => exact @VRel.slv (symOf l2 h2) _ _ _ _ _ _ (fitAddr_rel e3 ha) q1 hc
      · cases h
    · split at h
      · cases k; exact @VRel.map0 (symOf l2 h2) _
      · cases h
    · split at h
      · cases k with
        | map hb => exact @VRel.map (symOf l2 h2) _ _ _ (by rw [newRen_to h]; exact hb)
      · cases h
    · split at h
      · cases k; exact @VRel.nilFunc (symOf l2 h2) _
      · cases h
    · split at h
      · cases k; exact @VRel.nilIface (symOf l2 h2) _
      · cases h
    · split at h
      · rename_i f x c _ f' x' c'
        simp only [Bool.and_eq_true] at h
        obtain ⟨e1, e2, e3⟩ := h
        cases k with
        | func hf hx hc q1 q2 =>
          have r1 := list _ _ _ e2 ⟨hx, q1⟩
          have r2 := list _ _ _ e3 ⟨hc, q2⟩
          refine @VRel.func (symOf l2 h2) _ _ _ _ _ _ _ ?_ r1.1 r2.1 r1.2 r2.2
          unfold fitFn at e1
          cases hf with
          | func g =>
            split at e1
            · rename_i heq
              cases heq
              rw [Nat.eq_of_beq_eq_true e1]; exact .func _
            · rename_i heq; cases heq
            · cases e1
          | yield hl =>
            split at e1
            · rename_i heq; cases heq
            · rename_i heq
              cases heq
              exact .yield (by rw [newRen_to e1]; exact hl)
            · cases e1
      · cases h
    · split at h
      · simp only [Bool.and_eq_true] at h
        rw [Nat.eq_of_beq_eq_true h.1]
        cases k with
        | iface t hv => exact @VRel.iface (symOf l2 h2) _ _ _ _ (ih _ _ _ h.2 hv)
      · cases h
    · split at h
      · cases k with
        | agg hc hr =>
          have r := list _ _ _ h ⟨hc, hr⟩
          exact @VRel.agg (symOf l2 h2) _ _ _ r.1 r.2
      · cases h
    · split at h
      · cases k with
        | tuple hc hr =>
          have r := list _ _ _ h ⟨hc, hr⟩
          exact @VRel.tuple (symOf l2 h2) _ _ _ r.1 r.2
      · cases h
    · cases h
theorem sameNs_eq : ∀ {a b : List Nat}, sameNs a b = true → a = b
  | [], [], _ => rfl
  | a :: l, b :: m, h => by
    simp only [sameNs, Bool.and_eq_true] at h
    rw [Nat.eq_of_beq_eq_true h.1, sameNs_eq h.2]
  | [], _ :: _, h => by cases h
  | _ :: _, [], h => by cases h
theorem fitE_rel {rt : Tr Nat} (hm : ∀ (j : Nat) (m : Value), ms[j]? = some m → l2.getD j (.bool false) = den1 l1 m) : ∀ (a b : List MapEntry) (es' : Array MapEntry), fitE G rt ms a b = true → @EntriesRel (symOf l1 h1) ι a.toArray es' → @EntriesRel (symOf l2 h2) (newRen G rt ι) b.toArray es' := by
  have key : ∀ (a b : List MapEntry), fitE G rt ms a b = true → b.length = a.length ∧ ∀ i, i < b.length → (fitV G rt ms 6 (a.getD i default).key (b.getD i default).key = true ∧ fitV G rt ms 6 (a.getD i default).val (b.getD i default).val = true ∧ (a.getD i default).born = (b.getD i default).born) := by
    intro a
    induction a with
    | nil => intro b h; cases b with
      | nil => exact ⟨rfl, fun i hi => absurd hi (by simp)⟩
      | cons _ _ => cases h
    | cons x a ih =>
      intro b h
      cases b with
      | nil => cases h
      | cons y b =>
        simp only [fitE, Bool.and_eq_true] at h
        obtain ⟨e1, e2, e3, e4⟩ := h
        obtain ⟨e, k⟩ := ih b e4
        refine ⟨by simp [e], fun i hi => ?_⟩
        cases i with
        | zero => exact ⟨e1, e2, Nat.eq_of_beq_eq_true e3⟩
        | succ i => simpa using k i (by simpa using hi)
  intro a b es' h k
  obtain ⟨e, hk⟩ := key a b h
  refine ⟨by have := k.1; simp at this ⊢; omega, fun i hi => ?_⟩
  have hi' : i < b.length := by simpa using hi
  obtain ⟨q1, q2, q3⟩ := hk i hi'
  have hr := k.2 i (by simp; omega)
  have ea : (a.toArray.getD i default) = a.getD i default := by simp [Array.getD_eq_getD_getElem?, List.getD_eq_getElem?_getD]
  have eb : (b.toArray.getD i default) = b.getD i default := by simp [Array.getD_eq_getD_getElem?, List.getD_eq_getElem?_getD]
  rw [ea] at hr
  rw [eb]
  obtain ⟨r1, r2, r3⟩ := hr
  exact @EntryRel.mk (symOf l2 h2) _ _ _ (fitV_rel hm 6 _ _ _ q1 r1) (fitV_rel hm 6 _ _ _ q2 r2) (r3.trans q3)
theorem fitO_rel {rt : Tr Nat} (hm : ∀ (j : Nat) (m : Value), ms[j]? = some m → l2.getD j (.bool false) = den1 l1 m) {κ : Nat} {a b : AObj} {ro : Obj} (h : fitO G rt ms a b = true) (k : @ORel (symOf l1 h1) ι κ a ro) : @ORel (symOf l2 h2) (newRen G rt ι) κ b ro := by
  unfold fitO at h
  split at h
  · rename_i c t fro g
    split at h
    · rename_i c' t' fro' g'
      simp only [Bool.and_eq_true, beq_iff_eq] at h
      obtain ⟨e1, e2, e3, e4⟩ := h
      have e1 := Nat.eq_of_beq_eq_true e1
      have e3 := Nat.eq_of_beq_eq_true e3
      subst e1 e2 e3
      cases k with
      | cells hs hv hf hg ht =>
        rename_i c'' t'' fr
        have key : ∀ (x y : List Value), fitP (fitV G rt ms 6) x y = true → y.length ≤ x.length ∧ ∀ i, i < y.length → fitV G rt ms 6 (x.getD i undef) (y.getD i undef) = true := by
          intro x
          induction x with
          | nil => intro y h; cases y with
            | nil => exact ⟨Nat.le_refl _, fun i hi => absurd hi (by simp)⟩
            | cons _ _ => cases h
          | cons a x ih =>
            intro y h
            cases y with
            | nil => exact ⟨by simp, fun i hi => absurd hi (by simp)⟩
            | cons b y =>
              unfold fitP at h
              split at h
              · rename_i hab
                obtain ⟨e, k⟩ := ih y h
                refine ⟨by simp; omega, fun i hi => ?_⟩
                cases i with
                | zero => exact hab
                | succ i => simpa using k i (by simpa using hi)
              · cases h
        obtain ⟨hlen, hcell⟩ := key _ _ e4
        have hlen : c.size ≤ c'.size := by simpa using hlen
        refine @ORel.cells (symOf l2 h2) _ _ _ _ _ _ _ _ _ (by omega) (fun i hi => ?_) hf hg ht
        have hf := hcell i (by simpa using hi)
        have hv := hv i (by omega)
        refine fitV_rel hm 6 _ _ _ ?_ hv
        simpa [Array.getD_eq_getD_getElem?, List.getD_eq_getElem?_getD] using hf
    · cases h
  · split at h
    · rename_i es k' _ es' k''
      simp only [Bool.and_eq_true] at h
      have e1 := Nat.eq_of_beq_eq_true h.1
      subst e1
      cases k with
      | map hm' =>
        have := fitE_rel (h1 := h1) (h2 := h2) (ι := ι) hm _ _ _ h.2 (by simpa using hm')
        exact @ORel.map (symOf l2 h2) _ _ _ _ _ (by simpa using this)
    · cases h
  · split at h
    · rename_i s p _ s' p'
      simp only [Bool.and_eq_true, decide_eq_true_eq] at h
      have e1 := Nat.eq_of_beq_eq_true h.1
      have e2 : s' = s := by
        cases s; cases s'
        simpa using h.2
      subst e1 e2
      cases k
      exact @ORel.siter (symOf l2 h2) _ _ _ _
    · cases h
  · split at h
    · rename_i m since seen stepped _ m' since' seen' stepped'
      simp only [Bool.and_eq_true] at h
      obtain ⟨e0, e1, e2, e3⟩ := h
      have e1 := Nat.eq_of_beq_eq_true e1
      have e2 := Nat.eq_of_beq_eq_true e2
      have e3 : seen' = seen := by have := sameNs_eq e3; exact Array.toList_inj.1 this
      subst e1 e2 e3
      cases k with
      | miter a b c ho =>
        refine @ORel.miter (symOf l2 h2) _ _ _ _ _ _ _ ?_
        cases ho with
        | none =>
          cases m with
          | none => exact .none
          | some _ => cases e0
        | some hb =>
          cases m with
          | none => cases e0
          | some q => exact .some (by rw [newRen_to e0]; exact hb)
    · cases h
  · split at h
    · cases k
      exact @ORel.deferred0 (symOf l2 h2) _ _
    · cases h
  · cases h
theorem fitObjs_get {rt : Tr Nat} {st : St} : ∀ (rl : List Nat) (objs : List AObj), fitObjs G rt ms st rl objs = true → objs.length = rl.length ∧ ∀ (i b : Nat) (o : AObj), rl[i]? = some b → objs[i]? = some o → ∃ a, st.get b = some a ∧ fitO G rt ms a o = true
  | [], [], _ => ⟨rfl, fun i b o h => by simp at h⟩
  | b :: l, o :: m, h => by
    unfold fitObjs at h
    split at h
    · rename_i a ea
      split at h
      · rename_i hf
        obtain ⟨e, k⟩ := fitObjs_get l m h
        refine ⟨by simp [e], fun i b' o' h1 h2 => ?_⟩
        cases i with
        | zero => simp at h1 h2; subst h1 h2; exact ⟨a, ea, hf⟩
        | succ i => exact k i b' o' (by simpa using h1) (by simpa using h2)
      · cases h
    · cases h
  | [], _ :: _, h => by cases h
  | _ :: _, [], h => by cases h
theorem fitRegs_get {rt : Tr Nat} {r : Regs} : ∀ (vs : List Value) (t : Nat), fitRegs G rt ms r t vs = true → ∀ i v, vs[i]? = some v → fitV G rt ms 6 (r.get (t + i)) v = true
  | [], t, _, i, v, e => by simp at e
  | x :: vs, t, h, i, v, e => by
    unfold fitRegs at h
    split at h
    · rename_i hx
      cases i with
      | zero => simp at e; subst e; exact hx
      | succ i =>
        have := fitRegs_get vs (t + 1) h i v (by simpa using e)
        rw [show t + (i + 1) = t + 1 + i by omega]
        exact this
    · cases h
theorem fitF_rel {rt : Tr Nat} (hm : ∀ (j : Nat) (m : Value), ms[j]? = some m → l2.getD j (.bool false) = den1 l1 m) {a : AFr} {s : FrSpec} {fr : Frame} (h : fitF G rt ms a s = true) (hi : a.items = s.items) (hlen : s.vals.length < 1000000) (k : @QRel (symOf l1 h1) ι a fr) : @QRel (symOf l2 h2) (newRen G rt ι) (frOf s) fr := by
  unfold fitF at h
  simp only [Bool.and_eq_true, List.isEmpty_iff] at h
  obtain ⟨e1, e2, e3, e4, e5⟩ := h
  have e1 := Nat.eq_of_beq_eq_true e1
  have e2 := Nat.eq_of_beq_eq_true e2
  obtain ⟨b, act, u, q1, q2, q3, q4, ⟨s1, s2, s3, s4, s5⟩⟩ := k
  refine @QRel.mk (symOf l2 h2) _ _ _ ⟨b, act, u, by rw [q1, hi]; rfl, q2.trans e1, q3, q4, ?_⟩
  have hmode : @ModeRel (symOf l2 h2) (newRen G rt ι) .run u := by
    have := s5
    unfold isRun at e4
    split at e4
    · rename_i e
      rw [e] at this
      cases this
      exact @ModeRel.run (symOf l2 h2) _
    · cases e4
  have hdef : @DefersRel (symOf l2 h2) (newRen G rt ι) [] act.defers := by
    have := s4
    rw [e3] at this
    generalize act.defers = ds at this ⊢
    cases this
    exact @DefersRel.nil (symOf l2 h2) _
  refine @RegRel.mk (symOf l2 h2) _ _ _ _ (s1.trans e2) hlen (fun t => ?_) hdef hmode
  show @VRel (symOf l2 h2) _ (((fillT s.vals 0 .nil).get t).getD undef) _
  rw [fillT_get _ _ _ _ (by omega)]
  by_cases ht : t < s.vals.length
  · rw [if_pos (by omega), Nat.sub_zero, List.getElem?_eq_getElem ht]
    have := fitRegs_get s.vals 0 e5 t _ (List.getElem?_eq_getElem ht)
    rw [Nat.zero_add] at this
    exact fitV_rel hm 6 _ _ _ this (s3 t)
  · rw [if_neg (by omega)]
    have : act.tmps.getD t undef = undef := by
      have := s1
      simp [Array.getD, show ¬ t < act.tmps.size by omega]
    rw [this]
    exact @VRel.undef (symOf l2 h2) _
theorem fitFs_rel {rt : Tr Nat} (hm : ∀ (j : Nat) (m : Value), ms[j]? = some m → l2.getD j (.bool false) = den1 l1 m) {f : Nat} : ∀ (cs : List AFr) (a : AFr) (ss : List FrSpec) (s : FrSpec) (fr : Frame) (lf : List Frame), fitFs G rt ms (a :: cs) (s :: ss) = true → a.items :: cs.map (·.items) = s.items :: ss.map (·.items) → ((s :: ss).all fun s => decide (s.vals.length < 1000000)) = true →
    @SRel (symOf l1 h1) ι f a cs fr lf → @SRel (symOf l2 h2) (newRen G rt ι) f (frOf s) (ss.map frOf) fr lf := by
  intro cs
  induction cs with
  | nil =>
    intro a ss s fr lf h hi hl k
    simp only [fitFs, Bool.and_eq_true] at h
    cases ss with
    | cons _ _ => cases h.2
    | nil =>
      cases k with
      | base hf hn =>
        simp only [List.all_cons, Bool.and_eq_true, decide_eq_true_eq] at hl
        simp only [List.map_nil, List.cons.injEq, and_true] at hi
        refine @SRel.base (symOf l2 h2) _ _ _ _ (fitF_rel hm h.1 hi hl.1 hf) ?_
        have := h.1
        unfold fitF at this
        simp only [Bool.and_eq_true] at this
        exact (Nat.eq_of_beq_eq_true this.1).symm.trans hn
  | cons b cs ih =>
    intro a ss s fr lf h hi hl k
    rw [fitFs, Bool.and_eq_true] at h
    cases ss with
    | nil => cases h.2
    | cons s2 ss =>
      cases k with
      | push hf t =>
        rw [List.all_cons, Bool.and_eq_true, decide_eq_true_eq] at hl
        simp only [List.map_cons, List.cons.injEq] at hi
        refine @SRel.push (symOf l2 h2) _ _ _ _ _ _ _ _ (fitF_rel hm h.1 hi.1 hl.1 hf) ?_
        exact ih b ss s2 _ _ h.2 (by simp only [List.map_cons, List.cons.injEq]; exact hi.2) hl.2 t
theorem apartNs_ne : ∀ {rl : List Nat}, apartNs rl = true → ∀ (i j b : Nat), rl[i]? = some b → rl[j]? = some b → i = j
  | [], _, i, j, b, h, _ => by simp at h
  | a :: l, h, i, j, b, hi, hj => by
    unfold apartNs at h
    rw [Bool.and_eq_true] at h
    have no : ∀ k, l[k]? = some a → False := fun k hk => by
      have := List.all_eq_true.1 h.1 a (List.mem_of_getElem? hk)
      simp at this
    cases i with
    | zero => cases j with
      | zero => rfl
      | succ j => simp at hi hj; subst hi; exact (no j hj).elim
    | succ i => cases j with
      | zero => simp at hi hj; subst hj; exact (no i hi).elim
      | succ j => rw [apartNs_ne h.2 i j b (by simpa using hi) (by simpa using hj)]
/-- The laid blocks name no others, and no tokens. -/
def lowO (G : Nat) (o : AObj) : Bool :=
  match o with
  | .table l => l.all fun p => fitV G .nil [] 6 p.2 p.2
  | o => fitO G .nil [] o o
def lowOk (G : Nat) (h0 : Tr AObj) : Bool := (List.range G).all fun b => match h0.get b with
  | some o => lowO G o
  | none => true
theorem lowO_rel {rt : Tr Nat} {κ : Nat} {o : AObj} {ro : Obj} (h : lowO G o = true) (k : @ORel (symOf l1 h1) ι κ o ro) : @ORel (symOf l2 h2) (newRen G rt ι) κ o ro := by
  have hle : (newRen G .nil ι).le (newRen G rt ι) := by
    intro b r e
    unfold newRen was at e ⊢
    cases hb : Nat.blt b G with
    | true => rw [hb] at e; exact e
    | false => rw [hb] at e; simp [Tr.get_nil] at e
  have hm : ∀ (j : Nat) (m : Value), ([] : List Value)[j]? = some m → l2.getD j (.bool false) = den1 l1 m := fun j m e => by simp at e
  unfold lowO at h
  split at h
  · cases k with
    | table q1 q2 =>
      refine @ORel.table (symOf l2 h2) _ _ _ _ _ (fun e he => ?_) q2
      obtain ⟨p, hp, ek, hv⟩ := q1 e he
      exact ⟨p, hp, ek, @VRel.mono (symOf l2 h2) _ _ hle _ _ (fitV_rel hm 6 _ _ _ (List.all_eq_true.1 h p hp) hv)⟩
  · exact @ORel.mono (symOf l2 h2) _ _ hle _ _ _ (fitO_rel hm h k)
/-- What is good where it's folded is good before. -/
theorem fold_good {P : Program} {B : Bd} {f : Nat} (hm : ∀ (j : Nat) (m : Value), ms[j]? = some m → l2.getD j (.bool false) = den1 l1 m) {c : Cfg} {s : FrSpec} {ss : List FrSpec} {objs : List AObj} {h0 : Tr AObj} {lows : List (Option AObj)} (hlen : ((s :: ss).all fun s => decide (s.vals.length < 1000000)) = true)
    (hk : foldK G rl ms (s :: ss) objs (.go c) = some (s.items :: ss.map (·.items), lows)) (hlow : lows = lowsOf G h0) (hlo : lowOk G h0 = true)
    (hg : @Fine (symOf l2 h2) P G B f ⟨frOf s, ss.map frOf, stOf G h0 objs⟩) : @Fine (symOf l1 h1) P G B f c := by
  unfold foldK at hk
  dsimp only at hk
  split at hk
  case h_2 => cases hk
  rename_i hb
  simp only [Bool.and_eq_true] at hb
  obtain ⟨b1, b2, b3, b4, b5⟩ := hb
  simp only [Option.some.injEq, Prod.mk.injEq] at hk
  obtain ⟨hi, hl0⟩ := hk
  have b3 : G + rl.length < 1000000 := Nat.le_of_ble_eq_true b3
  obtain ⟨hol, hobj⟩ := fitObjs_get rl objs b4
  have hrt : ∀ i, (fillT rl 0 Tr.nil).get i = rl[i]? := by
    intro i
    rw [fillT_get _ _ _ _ (by omega)]
    by_cases h : i < rl.length
    · rw [if_pos (by omega), Nat.sub_zero]
    · rw [if_neg (by omega), List.getElem?_eq_none (by omega)]; rfl
  generalize hrtd : fillT rl 0 Tr.nil = rt at hrt b4 b5 hobj
  have wasLo : ∀ b, b < G → was G rt b = some b := by
    intro b hb
    have : Nat.blt b G = true := by simp [Nat.blt]; omega
    simp [was, this]
  have wasHi : ∀ b, G ≤ b → was G rt b = rl[b - G]? := by
    intro b hb
    have : Nat.blt b G = false := by
      cases e : Nat.blt b G with
      | false => rfl
      | true => have := Nat.le_of_ble_eq_true e; omega
    simp only [was, this]
    exact hrt _
  have hge : ∀ i b, rl[i]? = some b → G ≤ b := fun i b e => Nat.le_of_ble_eq_true (List.all_eq_true.1 b1 b (List.mem_of_getElem? e))
  have lowEq : ∀ b, b < G → c.st.get b = h0.get b := by
    intro b hb
    have e : lowsOf G c.st.heap = lowsOf G h0 := by rw [hl0, hlow]
    have e1 : ∀ h : Tr AObj, (lowsOf G h)[b]? = some (h.get b) := fun h => by
      unfold lowsOf
      rw [List.getElem?_map, List.getElem?_range hb]; rfl
    have e2 := (e1 c.st.heap).symm.trans ((congrArg (fun l => l[b]?) e).trans (e1 h0))
    exact Option.some.inj e2
  have getLo : ∀ b, b < G → (stOf G h0 objs).get b = h0.get b := by
    intro b hb
    show (fillT objs G h0).get b = _
    rw [fillT_get _ _ _ _ (by rw [hol]; exact b3), if_neg (by omega)]
  have getHi : ∀ b, G ≤ b → b < G + objs.length → (stOf G h0 objs).get b = objs[b - G]? := by
    intro b hb hb2
    show (fillT objs G h0).get b = _
    rw [fillT_get _ _ _ _ (by rw [hol]; exact b3), if_pos (by omega)]
  intro ι w fr lf cs ha
  obtain ⟨⟨rObj, rLt, rInj, rUnder, rNxt, rLow, rGlob, rBig, rLaid⟩, hfree, hst⟩ := ha
  have toOf : ∀ b r, (newRen G rt ι).to b = some r → ∃ a, was G rt b = some a ∧ ι.to a = some r := by
    intro b r e
    obtain ⟨κ, e⟩ := @Ren.to_some (symOf l1 h1) _ _ _ e
    unfold newRen at e
    cases hw : was G rt b with
    | none => rw [hw] at e; cases e
    | some a => rw [hw] at e; exact ⟨a, rfl, @Ren.to_of (symOf l1 h1) _ _ _ _ e⟩
  -- a block beyond the new ones is none; h0's own blocks beyond G don't matter
  have hat : @At (symOf l2 h2) P G B f ⟨frOf s, ss.map frOf, stOf G h0 objs⟩ (newRen G rt ι) w fr lf := by
    refine @At.mk (symOf l2 h2) _ _ _ _ _ _ _ _ _ (@WRel.mk (symOf l2 h2) _ _ _ _ _ ?_ ?_ ?_ ?_ ?_ ?_ ?_ rBig rLaid) ?_ ?_
    · intro b r κ o e1 e2
      rcases Nat.lt_or_ge b G with hb | hb
      · have e1' : ι b = some (r, κ) := by unfold newRen at e1; rw [wasLo b hb] at e1; exact e1
        rw [getLo b hb] at e2
        have hl := List.all_eq_true.1 hlo b (List.mem_range.2 hb)
        rw [e2] at hl
        rw [← lowEq b hb] at e2
        obtain ⟨ro, q1, q2⟩ := rObj b r κ o e1' e2
        exact ⟨ro, q1, lowO_rel hl q2⟩
      · have hw := wasHi b hb
        unfold newRen at e1
        rw [hw] at e1
        cases hr : rl[b - G]? with
        | none => rw [hr] at e1; cases e1
        | some a =>
          rw [hr] at e1
          have hlt : b - G < rl.length := by
            rcases Nat.lt_or_ge (b - G) rl.length with h | h
            · exact h
            · rw [List.getElem?_eq_none h] at hr; cases hr
          rw [getHi b hb (by omega)] at e2
          obtain ⟨ao, ea, hfit⟩ := hobj _ _ _ hr e2
          obtain ⟨ro, q1, q2⟩ := rObj a r κ ao e1 ea
          exact ⟨ro, q1, fitO_rel hm hfit q2⟩
    · intro b r e
      obtain ⟨a, _, h⟩ := toOf b r e
      exact rLt a r h
    · intro b b' r g1 g2 e1 e2 s1 s2
      obtain ⟨a, w1, t1⟩ := toOf b r e1
      obtain ⟨a', w2, t2⟩ := toOf b' r e2
      rw [wasHi b g1] at w1
      rw [wasHi b' g2] at w2
      have l1' : b - G < rl.length := by
        rcases Nat.lt_or_ge (b - G) rl.length with h | h
        · exact h
        · rw [List.getElem?_eq_none h] at w1; cases w1
      have l2' : b' - G < rl.length := by
        rcases Nat.lt_or_ge (b' - G) rl.length with h | h
        · exact h
        · rw [List.getElem?_eq_none h] at w2; cases w2
      have live : ∀ (i x : Nat), rl[i]? = some x → (c.st.get x).isSome = true := by
        intro i x hx
        have hlt : i < rl.length := by
          rcases Nat.lt_or_ge i rl.length with h | h
          · exact h
          · rw [List.getElem?_eq_none h] at hx; cases hx
        obtain ⟨ao, ea, _⟩ := hobj i x _ hx (List.getElem?_eq_getElem (by omega))
        rw [ea]; rfl
      have := rInj a a' r (hge _ _ w1) (hge _ _ w2) t1 t2 (live _ _ w1) (live _ _ w2)
      subst this
      have := apartNs_ne b2 _ _ _ w1 w2
      omega
    · intro b r hb e
      obtain ⟨a, w1, t1⟩ := toOf b r e
      rw [wasLo b hb] at w1
      cases w1
      exact rUnder b r hb t1
    · show G ≤ G + objs.length
      omega
    · intro b r hb e
      obtain ⟨a, w1, t1⟩ := toOf b r e
      rw [wasHi b hb] at w1
      exact rLow a r (hge _ _ w1) t1
    · intro g hgg
      show (was G rt g).bind ι = _
      rw [wasLo g (by omega)]
      exact rGlob g hgg
    · intro b hb
      show (was G rt b).bind ι = none
      have hb' : G + objs.length ≤ b := hb
      rw [wasHi b (by omega), List.getElem?_eq_none (by omega)]
      rfl
    · exact fitFs_rel hm c.cs c.top ss s fr lf b5 hi hlen hst
  obtain ⟨w1, fr1, r1, r2, r3, r4⟩ := hg (newRen G rt ι) w fr lf cs hat
  exact ⟨w1, fr1, r1, r2, r3, r4⟩
end
end Go.Proofs.YtdgeilfopkbacaaGreatDoor.Ev
