/-
  Regions that draw their order: one walk in the order of the text serves every order, where operations that make memory or call are told by what they leave ('light': a fact that stays; 'chain': the state of a chain of operations that wait for each other).
-/
import Derived.Test.YtbenjjaofabdcaaGreatDoorBase
import Derived.StillTail
namespace Go.Proofs.YtbenjjaofabdcaaGreatDoor
open Go Go.RowKit

section
variable {P : Program}

/-- What an operation that is carried out comes to: a value, and a world, of which 'post' holds. -/
def loudUpon (P : Program) (post : Value → World → Prop) : Result Next → Prop
  | .ok (.value v) w' => post v w'
  | .ok .skip w' => post undef w'
  | .ok (.enter f args) w' => Calls P f args w' (fun e w'' => ∃ v, e = .returned v ∧ post v w'')
  | .ok (.row row args) w' => Rows P row args w' post
  | _ => False
def Loud (P : Program) (o : Oper) (a : Act) (w : World) (post : Value → World → Prop) : Prop := loudUpon P post ((execOp a.eval o).run P w)
def Same (P : Program) (o : Oper) (a : Act) (w : World) (v : Value) : Prop :=
  match (execOp a.eval o).run P w with
  | .ok (.value u) w' => w' = w ∧ u = v
  | .ok .skip w' => w' = w ∧ v = undef
  | _ => False

theorem Loud.wp {o : Oper} {a : Act} {w : World} {post : Value → World → Prop} {K : Act → World → Prop} {Q : Exit → Act → World → Prop} (h : Loud P o a w post)
    (hk : ∀ v w', post v w' → K (a.put o.dst v) w') : o.wp P a w K Q := by
  unfold Loud at h
  unfold Oper.wp
  generalize (execOp a.eval o).run P w = r at *
  cases r with
  | ok n w' =>
    cases n <;> simp only [loudUpon] at h <;> simp only [Oper.upon]
    case value v => exact hk _ _ h
    case skip => exact hk _ _ h
    case enter f args => exact h.mono fun e w'' ⟨v, he, hp⟩ => by subst he; exact hk _ _ hp
    case row row args => exact Rows.mono h fun v w'' hp => hk _ _ hp
  | halt x w' => exact h.elim
theorem Same.wp {o : Oper} {a : Act} {w : World} {v : Value} {K : Act → World → Prop} {Q : Exit → Act → World → Prop} (h : Same P o a w v)
    (hk : K (a.put o.dst v) w) : o.wp P a w K Q := by
  unfold Same at h
  unfold Oper.wp
  generalize (execOp a.eval o).run P w = r at *
  cases r with
  | ok n w' =>
    cases n <;> simp only at h <;> simp only [Oper.upon]
    case value u => obtain ⟨rfl, rfl⟩ := h; exact hk
    case skip => obtain ⟨rfl, rfl⟩ := h; exact hk
  | halt x w' => exact h.elim

/-- Out of a walk of the one operation. -/
theorem Loud.of_wp {o : Oper} {a : Act} {w : World} {post : Value → World → Prop} {d : Tmp} (hd : o.dst = some d) (hlt : d < a.tmps.size)
    (h : ∀ (K : Act → World → Prop) (Q : Exit → Act → World → Prop), (∀ v w', post v w' → K (a.put o.dst v) w') → o.wp P a w K Q) : Loud P o a w post := by
  have h1 := h (fun x w' => x.defers = a.defers ∧ post (x.tmps.getD d undef) w') (fun _ _ _ => False) (fun v w' hp => by
    rw [hd]
    simp only [Act.put, true_and]
    rw [show (a.tmps.setIfInBounds d v).getD d undef = v by simp [hlt]]
    exact hp)
  have hg : ∀ v, ((a.put o.dst v).tmps).getD d undef = v := fun v => by rw [hd]; simp [Act.put, hlt]
  unfold Loud
  unfold Oper.wp at h1
  generalize (execOp a.eval o).run P w = r at *
  cases r with
  | ok n w' =>
    cases n <;> simp only [Oper.upon] at h1 <;> simp only [loudUpon]
    case value v => rw [hg] at h1; exact h1.2
    case skip => rw [hg] at h1; exact h1.2
    case defer dd =>
      have h2 := h1.1
      rw [hd] at h2
      simp only [Act.put] at h2
      exact absurd h2 (by simp)
    case enter f args =>
      refine Calls.mono h1 fun e w'' he => ?_
      cases e with
      | returned v => simp only at he; rw [hg] at he; exact ⟨v, rfl, he.2⟩
      | panicked c => exact he.elim
      | outgrown => obtain ⟨_, _, he⟩ := he; exact he.elim
    case row row args =>
      refine Rows.mono h1 fun v w'' he => ?_
      rw [hg] at he
      exact he.2
  | halt x w' => cases x <;> simp only [Oper.upon] at h1

theorem Loud.of_wp0 {o : Oper} {a : Act} {w : World} {post : World → Prop} (hd : o.dst = none)
    (h : ∀ (K : Act → World → Prop) (Q : Exit → Act → World → Prop), (∀ w', post w' → K a w') → o.wp P a w K Q) : Loud P o a w (fun _ w' => post w') := by
  have h1 := h (fun x w' => x.defers = a.defers ∧ post w') (fun _ _ _ => False) (fun w' hp => ⟨rfl, hp⟩)
  unfold Loud
  unfold Oper.wp at h1
  generalize (execOp a.eval o).run P w = r at *
  cases r with
  | ok n w' =>
    cases n <;> simp only [Oper.upon, hd] at h1 <;> simp only [loudUpon]
    case value v => exact h1.2
    case skip => exact h1.2
    case defer dd =>
      have h2 := h1.1
      simp only [Act.put] at h2
      exact absurd h2 (by simp)
    case enter f args =>
      refine Calls.mono h1 fun e w'' he => ?_
      cases e with
      | returned v => exact ⟨v, rfl, he.2⟩
      | panicked c => exact he.elim
      | outgrown => obtain ⟨_, _, he⟩ := he; exact he.elim
    case row row args => exact Rows.mono h1 fun v w'' he => he.2
  | halt x w' => cases x <;> simp only [Oper.upon] at h1
theorem Loud.mono {o : Oper} {a : Act} {w : World} {post post' : Value → World → Prop} (h : Loud P o a w post) (hp : ∀ v w', post v w' → post' v w') : Loud P o a w post' := by
  unfold Loud at *
  generalize (execOp a.eval o).run P w = r at *
  cases r with
  | ok n w' =>
    cases n <;> simp only [loudUpon] at h ⊢
    case value v => exact hp _ _ h
    case skip => exact hp _ _ h
    case enter f args => exact h.mono fun e w'' ⟨v, he, hq⟩ => ⟨v, he, hp _ _ hq⟩
    case row row args => exact Rows.mono h fun v w'' hq => hp _ _ hq
  | halt x w' => exact h.elim
theorem Loud.congr {o : Oper} {a a' : Act} {w : World} {post : Value → World → Prop} (he : execOp a'.eval o = execOp a.eval o) (h : Loud P o a w post) : Loud P o a' w post := by
  unfold Loud at *; rw [he]; exact h
theorem Same.congr {o : Oper} {a a' : Act} {w : World} {v : Value} (he : execOp a'.eval o = execOp a.eval o) (h : Same P o a w v) : Same P o a' w v := by
  unfold Same at *; rw [he]; exact h

/-- What is told of each operation. -/
inductive Sp where
  | q
  | l (p : Value → Prop) (φ : Value → World → Prop)
  | c (p : Value → Prop) (X : Value → World → Prop)
def Sp.isC : Sp → Bool
  | .c .. => true
  | _ => false

def needs (o : Oper) (i : Nat) : Bool := o.after.any fun e => Region.binds .any e && e.on == i

/-- What holds behind operation i: D behind the last one, C else. -/
def Aft (ops : Array Oper) (C D : World → Prop) (i : Nat) (w : World) : Prop := (i + 1 = ops.size → D w) ∧ (i + 1 ≠ ops.size → C w)
def Rem (ops : Array Oper) (C D : World → Prop) (i : Nat) : Prop := i + 1 = ops.size → ∀ w, C w → D w

variable (P) in
/-- THE WALK IN THE ORDER OF THE TEXT. C: what holds throughout; D: behind the last operation; L, R: what light, and chain, operations do to a world. -/
def Gen (ops : Array Oper) (C D : World → Prop) (L R : World → World → Prop) (Q : Act → World → Prop) :
    Nat → List Oper → List Sp → Act → (World → Prop) → List (Nat × (World → Prop)) → Prop
  | _, [], _, a, X, F => ∀ w, D w → X w → (∀ x ∈ F, x.2 w) → Q a w
  | _, _ :: _, [], _, _, _ => False
  | i, o :: rest, s :: ss, a, X, F =>
    if Region.wanted o (yielded ops a.tmps) = true then
      match s with
      | .q => ∃ v, (∀ w, C w → Same P o a w v) ∧ Rem ops C D i ∧ Gen ops C D L R Q (i + 1) rest ss (a.put o.dst v) X F
      | .l p φ => (∃ v, p v) ∧ (∀ v w w', φ v w → R w w' → φ v w') ∧
          (∀ w, C w → (∀ x ∈ F, needs o x.1 = true → x.2 w) → Loud P o a w (fun v w' => Aft ops C D i w' ∧ L w w' ∧ p v ∧ φ v w')) ∧
          ∀ v, p v → Gen ops C D L R Q (i + 1) rest ss (a.put o.dst v) X ((i, φ v) :: F)
      | .c p X' => (∃ v, p v) ∧ (∀ v w w', X' v w → L w w' → X' v w') ∧
          (∀ w, C w → X w → (∀ x ∈ F, needs o x.1 = true → x.2 w) → Loud P o a w (fun v w' => Aft ops C D i w' ∧ R w w' ∧ p v ∧ X' v w')) ∧
          ∀ v, p v → Gen ops C D L R Q (i + 1) rest ss (a.put o.dst v) (X' v) F
    else Rem ops C D i ∧ Gen ops C D L R Q (i + 1) rest ss (a.put o.dst undef) X F

/-! ### Replays -/
def dstOf (ops : Array Oper) (k : Nat) : Option Tmp := (ops[k]?).bind (·.dst)
def rep (ops : Array Oper) (a : Act) (val : Nat → Value) (sel : Nat → Bool) : Nat → Act
  | 0 => a
  | k + 1 => if sel k then (rep ops a val sel k).put (dstOf ops k) (val k) else rep ops a val sel k

structure Ag (l : List Tmp) (a a' : Act) : Prop where
  size : a.tmps.size = a'.tmps.size
  at_ : ∀ d ∈ l, a.tmps.getD d undef = a'.tmps.getD d undef
theorem Ag.refl (l : List Tmp) (a : Act) : Ag l a a := ⟨rfl, fun _ _ => rfl⟩
theorem Ag.symm {l : List Tmp} {a a' : Act} (h : Ag l a a') : Ag l a' a := ⟨h.size.symm, fun d hd => (h.at_ d hd).symm⟩
theorem Ag.trans {l : List Tmp} {a b c : Act} (h : Ag l a b) (k : Ag l b c) : Ag l a c := ⟨h.size.trans k.size, fun d hd => (h.at_ d hd).trans (k.at_ d hd)⟩
theorem Ag.both {l : List Tmp} {a a' : Act} (h : Ag l a a') (x : Option Tmp) (v : Value) : Ag l (a.put x v) (a'.put x v) := by
  cases x with
  | none => exact h
  | some d =>
    refine ⟨by simp [Act.put, h.size], fun e he => ?_⟩
    have := h.at_ e he
    by_cases hde : d = e
    · subst hde
      by_cases hlt : d < a.tmps.size
      · have hlt' : d < a'.tmps.size := h.size ▸ hlt
        simp [Act.put, hlt, hlt']
      · have hlt' : ¬ d < a'.tmps.size := h.size ▸ hlt
        simp [Act.put, hlt, hlt']
    · simpa [Act.put, Array.getElem?_setIfInBounds_ne hde] using this
theorem Ag.left {l : List Tmp} {a a' : Act} (h : Ag l a a') (x : Option Tmp) (v : Value) (hx : ∀ d, x = some d → d ∉ l) : Ag l (a.put x v) a' := by
  cases x with
  | none => exact h
  | some d =>
    refine ⟨by simp [Act.put, h.size], fun e he => ?_⟩
    have hde : d ≠ e := fun e' => hx d rfl (e' ▸ he)
    have := h.at_ e he
    simpa [Act.put, Array.getElem?_setIfInBounds_ne hde] using this
theorem Ag.exec {ops : Array Oper} {o : Oper} {a a' : Act} (hs : ∀ cs b, o.op ≠ .select cs b) (h : Ag (o.looksAt ops) a a') : execOp a.eval o = execOp a'.eval o :=
  execOp_congr o hs fun x hx => by
    cases x with
    | tmp d => exact h.at_ d (List.mem_append_left _ (List.mem_filterMap.2 ⟨.tmp d, by simpa using hx, rfl⟩))
    | _ => rfl
theorem Ag.wanted {ops : Array Oper} {o : Oper} {a a' : Act} (h : Ag (o.looksAt ops) a a') : Region.wanted o (yielded ops a.tmps) = Region.wanted o (yielded ops a'.tmps) := by
  unfold Region.wanted
  cases hg : o.guard with
  | none => rfl
  | some gw =>
    obtain ⟨g, want⟩ := gw
    have : yielded ops a.tmps g = yielded ops a'.tmps g := by
      unfold yielded
      cases ht : (ops[g]?).bind (·.dst) with
      | none => rfl
      | some t =>
        have h1 := h.at_ t (by simp [Oper.looksAt, hg, ht])
        have h2 : a.tmps[t]? = a'.tmps[t]? := by
          by_cases hlt : t < a.tmps.size
          · have hlt' : t < a'.tmps.size := h.size ▸ hlt
            simp only [Array.getD_eq_getD_getElem?, hlt, hlt', Array.getElem?_eq_getElem, Option.getD_some] at h1
            simp only [hlt, hlt', Array.getElem?_eq_getElem, h1]
          · have hlt' : ¬ t < a'.tmps.size := h.size ▸ hlt
            simp [hlt, hlt']
        simp only [Option.bind_some, h2]
    simp only [this]

theorem rep_ag {ops : Array Oper} {a : Act} {val val' : Nat → Value} {sel sel' : Nat → Bool} {l : List Tmp} (n : Nat)
    (h : ∀ i, i < n → (sel i = sel' i ∧ (sel i = true → val i = val' i)) ∨ ∀ d, dstOf ops i = some d → d ∉ l) : Ag l (rep ops a val sel n) (rep ops a val' sel' n) := by
  induction n with
  | zero => exact Ag.refl _ _
  | succ n ih =>
    have ih := ih fun i hi => h i (by omega)
    simp only [rep]
    rcases h n (by omega) with ⟨h1, h2⟩ | h1
    · rw [← h1]
      split
      · rename_i hs; rw [h2 hs]; exact ih.both _ _
      · exact ih
    · split <;> split
      · exact (ih.left _ _ h1).symm.left _ _ h1 |>.symm
      · exact ih.left _ _ h1
      · exact (ih.symm.left _ _ h1).symm
      · exact ih
theorem rep_same {ops : Array Oper} {a : Act} {val val' : Nat → Value} {sel sel' : Nat → Bool} (n : Nat)
    (h : ∀ i, i < n → sel i = sel' i ∧ (sel i = true → val i = val' i)) : rep ops a val sel n = rep ops a val' sel' n := by
  induction n with
  | zero => rfl
  | succ n ih =>
    simp only [rep]
    rw [ih fun i hi => h i (by omega), ← (h n (by omega)).1]
    split
    · rename_i hs; rw [(h n (by omega)).2 hs]
    · rfl
/-- Text's order, k operations. -/
theorem rep_prefix {ops : Array Oper} {a : Act} {val : Nat → Value} (k n : Nat) (h : k ≤ n) : rep ops a val (fun i => decide (i < k)) n = rep ops a val (fun _ => true) k := by
  induction n with
  | zero => obtain rfl : k = 0 := by omega
            rfl
  | succ n ih =>
    by_cases hk : k = n + 1
    · subst hk
      exact rep_same _ fun i hi => ⟨by simp [hi], fun _ => rfl⟩
    · simp only [rep]
      rw [if_neg (by simp; omega)]
      exact ih (by omega)
/-- One more is taken. -/
theorem rep_insert {ops : Array Oper} {a : Act} {val : Nat → Value} {sel : Nat → Bool} {j : Nat} {v : Value} (n : Nat) (hj : j < n) (hs : sel j = false)
    (hd : ∀ i, j < i → i < n → sel i = true → ∀ d, dstOf ops j = some d → dstOf ops i ≠ some d) :
    (rep ops a val sel n).put (dstOf ops j) v = rep ops a (upd val j v) (upd sel j true) n := by
  induction n with
  | zero => omega
  | succ n ih =>
    simp only [rep]
    by_cases hjn : j = n
    · subst hjn
      rw [hs, upd_same, upd_same]
      simp only [if_true, Bool.false_eq_true, if_false]
      rw [rep_same j fun i hi => ⟨(upd_other sel j i true (by omega)).symm, fun _ => (upd_other val j i v (by omega)).symm⟩]
    · rw [upd_other sel j n true (by omega), upd_other val j n v (by omega)]
      have ih := ih (by omega) (fun i h1 h2 => hd i h1 (by omega))
      split
      · rename_i hsn
        rw [← ih, Act.put_comm]
        exact fun d hd' hd'' => hd n (by omega) (by omega) hsn d hd'' hd'
      · exact ih

/-! ### The shape -/
/-- Each pair waits or is apart; edges lead back; chain operations wait for the one before. -/
def orderB (ops : Array Oper) (isC : Nat → Bool) : Bool :=
  Region.noSelect ops &&
  (List.range ops.size).all fun j => match ops[j]? with
    | none => true
    | some oj =>
      (oj.after.all fun e => !Region.binds .any e || decide (e.on < j)) &&
      ((List.range j).all fun i => match ops[i]? with
        | none => true
        | some oi => Region.waitsFor .any ops j i || oi.apart ops oj) &&
      (!isC j || ((List.range j).all fun i => !isC i || Region.waitsFor .any ops j i || (List.range j).any fun m => decide (i < m) && isC m && Region.waitsFor .any ops j m))

structure OrdOk (ops : Array Oper) (isC : Nat → Bool) : Prop where
  sel : ∀ (j : Nat) (o : Oper) cs b, ops[j]? = some o → o.op ≠ .select cs b
  back : ∀ (j : Nat) (oj : Oper), ops[j]? = some oj → ∀ e ∈ oj.after, Region.binds .any e = true → e.on < j
  pair : ∀ (i j : Nat) (oi oj : Oper), i < j → ops[i]? = some oi → ops[j]? = some oj → Region.waitsFor .any ops j i = true ∨ oi.apart ops oj = true
  chain : ∀ (i j : Nat), i < j → j < ops.size → isC i = true → isC j = true → Region.waitsFor .any ops j i = true ∨ ∃ m, i < m ∧ m < j ∧ isC m = true ∧ Region.waitsFor .any ops j m = true
theorem ord_of (ops : Array Oper) (isC : Nat → Bool) (h : orderB ops isC = true) : OrdOk ops isC := by
  unfold orderB at h
  simp only [Bool.and_eq_true, List.all_eq_true, List.mem_range] at h
  obtain ⟨hs, h⟩ := h
  refine ⟨Region.noSelect_spec hs, fun j oj hj e he hb => ?_, fun i j oi oj hij hi hj => ?_, fun i j hij hj hci hcj => ?_⟩
  · have := h j (Array.getElem?_eq_some_iff.1 hj).1
    simp only [hj, Bool.and_eq_true] at this
    have h1 := Array.all_eq_true'.1 this.1.1 e he
    simpa [hb] using h1
  · have := h j (Array.getElem?_eq_some_iff.1 hj).1
    simp only [hj, Bool.and_eq_true, List.all_eq_true, List.mem_range] at this
    have h1 := this.1.2 i hij
    simpa [hi] using h1
  · have h0 := h j hj
    cases hoj : ops[j]? with
    | none => simp at hoj; omega
    | some oj =>
      simp only [hoj, Bool.and_eq_true, Bool.or_eq_true, hcj, Bool.not_true, Bool.false_eq_true, false_or, List.all_eq_true, List.mem_range, List.any_eq_true, decide_eq_true_eq] at h0
      rcases h0.2 i hij with (h1 | h1) | h1
      · simp [hci] at h1
      · exact .inl h1
      · obtain ⟨m, hm, ⟨h2, h3⟩, h4⟩ := h1
        exact .inr ⟨m, h2, hm, h3, h4⟩

section main
variable {ops : Array Oper} {C D : World → Prop} {L R : World → World → Prop} {Q : Act → World → Prop} {specs : List Sp} {a0 : Act} {X0 : World → Prop}

/-- Text's act. -/
def T (ops : Array Oper) (a0 : Act) (val : Nat → Value) (k : Nat) : Act := rep ops a0 val (fun _ => true) k
variable (P C) in
/-- Operation k's value is one that the walk speaks of. -/
def Cons (ops : Array Oper) (specs : List Sp) (a0 : Act) (val : Nat → Value) (k : Nat) : Prop :=
  ∀ o s, ops[k]? = some o → specs[k]? = some s →
    if Region.wanted o (yielded ops (T ops a0 val k).tmps) = true then
      match s with
      | .q => ∀ w, C w → Same P o (T ops a0 val k) w (val k)
      | .l p _ => p (val k)
      | .c p _ => p (val k)
    else val k = undef
def wantedT (ops : Array Oper) (a0 : Act) (val : Nat → Value) (k : Nat) : Bool :=
  match ops[k]? with
  | some o => Region.wanted o (yielded ops (T ops a0 val k).tmps)
  | none => false
def XT (ops : Array Oper) (specs : List Sp) (a0 : Act) (X0 : World → Prop) (val : Nat → Value) : Nat → World → Prop
  | 0 => X0
  | k + 1 => match specs[k]? with
    | some (.c _ X) => if wantedT ops a0 val k then X (val k) else XT ops specs a0 X0 val k
    | _ => XT ops specs a0 X0 val k
def FT (ops : Array Oper) (specs : List Sp) (a0 : Act) (val : Nat → Value) : Nat → List (Nat × (World → Prop))
  | 0 => []
  | k + 1 => match specs[k]? with
    | some (.l _ φ) => if wantedT ops a0 val k then (k, φ (val k)) :: FT ops specs a0 val k else FT ops specs a0 val k
    | _ => FT ops specs a0 val k

theorem T_congr {val val' : Nat → Value} (k : Nat) (h : ∀ i, i < k → val i = val' i) : T ops a0 val k = T ops a0 val' k := rep_same k fun i hi => ⟨rfl, fun _ => h i hi⟩
theorem wantedT_congr {val val' : Nat → Value} (k : Nat) (h : ∀ i, i < k → val i = val' i) : wantedT ops a0 val k = wantedT ops a0 val' k := by
  unfold wantedT; rw [T_congr k h]
theorem T_succ (val : Nat → Value) (k : Nat) : T ops a0 val (k + 1) = (T ops a0 val k).put (dstOf ops k) (val k) := by simp [T, rep]

/-- The walk's part at k, along values that it speaks of. -/
theorem gen_at (l : List Oper) (hl : ∀ j : Nat, l[j]? = ops[j]?) (hsp : specs.length = l.length) {w0 : World} (hw0 : C w0) (hG : Gen P ops C D L R Q 0 l specs a0 X0 []) (val : Nat → Value) :
    ∀ k, k ≤ l.length → (∀ i, i < k → Cons P C ops specs a0 val i) → Gen P ops C D L R Q k (l.drop k) (specs.drop k) (T ops a0 val k) (XT ops specs a0 X0 val k) (FT ops specs a0 val k) := by
  intro k
  induction k with
  | zero => intro _ _; exact hG
  | succ k ih =>
    intro hk hc
    have h := ih (by omega) (fun i hi => hc i (by omega))
    have hkl : k < l.length := by omega
    have hks : k < specs.length := by omega
    rw [List.drop_eq_getElem_cons hkl, List.drop_eq_getElem_cons hks] at h
    have ho : ops[k]? = some l[k] := by rw [← hl]; simp [hkl]
    have hs : specs[k]? = some specs[k] := by simp [hks]
    have hcons := hc k (by omega) l[k] specs[k] ho hs
    have hd : dstOf ops k = l[k].dst := by simp [dstOf, ho]
    rw [T_succ, hd]
    have hwt : wantedT ops a0 val k = Region.wanted l[k] (yielded ops (T ops a0 val k).tmps) := by simp [wantedT, ho]
    simp only [Gen] at h
    by_cases hw : Region.wanted l[k] (yielded ops (T ops a0 val k).tmps) = true
    · rw [if_pos hw] at h hcons
      simp only [XT, FT, hs, hwt, hw]
      generalize specs[k] = s at *
      cases s with
      | q =>
        obtain ⟨v, h1, -, h2⟩ := h
        have e : v = val k := by
          have a1 := h1 _ hw0
          have a2 := hcons _ hw0
          unfold Same at a1 a2
          generalize (execOp (T ops a0 val k).eval l[k]).run P w0 = r at *
          cases r with
          | ok n w' => cases n <;> simp only at a1 a2 <;> first | exact a1.2.symm.trans a2.2 | exact a1.2.trans a2.2.symm | exact a1.elim
          | halt x w' => exact a1.elim
        subst e
        exact h2
      | l p φ => exact h.2.2.2 _ hcons
      | c p X => exact h.2.2.2 _ hcons
    · rw [if_neg hw] at h hcons
      rw [hcons]
      have hw' : Region.wanted l[k] (yielded ops (T ops a0 val k).tmps) = false := by simpa using hw
      simp only [XT, FT, hs, hwt, hw']
      generalize specs[k] = s at *
      cases s <;> simpa using h.2
/-- There is a next value. -/
theorem gen_next (l : List Oper) (hl : ∀ j : Nat, l[j]? = ops[j]?) (hsp : specs.length = l.length) (val : Nat → Value) (k : Nat) (hk : k < l.length)
    (h : Gen P ops C D L R Q k (l.drop k) (specs.drop k) (T ops a0 val k) (XT ops specs a0 X0 val k) (FT ops specs a0 val k)) : ∃ v, Cons P C ops specs a0 (upd val k v) k := by
  have hks : k < specs.length := by omega
  rw [List.drop_eq_getElem_cons hk, List.drop_eq_getElem_cons hks] at h
  have ho : ops[k]? = some l[k] := by rw [← hl]; simp [hk]
  have hs : specs[k]? = some specs[k] := by simp [hks]
  have hT : ∀ v, T ops a0 (upd val k v) k = T ops a0 val k := fun v => T_congr k fun i hi => upd_other val k i v (by omega)
  have key : ∀ v, (if Region.wanted l[k] (yielded ops (T ops a0 val k).tmps) = true then
      match specs[k] with
      | .q => ∀ w, C w → Same P l[k] (T ops a0 val k) w v
      | .l p _ => p v
      | .c p _ => p v
    else v = undef) → Cons P C ops specs a0 (upd val k v) k := by
    intro v hv o s ho' hs'
    obtain rfl := Option.some.inj (ho.symm.trans ho')
    obtain rfl := Option.some.inj (hs.symm.trans hs')
    rw [hT, upd_same]
    exact hv
  simp only [Gen] at h
  by_cases hw : Region.wanted l[k] (yielded ops (T ops a0 val k).tmps) = true
  · rw [if_pos hw] at h
    simp only [hw, if_true] at key
    generalize specs[k] = s at *
    cases s with
    | q => obtain ⟨v, h1, _⟩ := h; exact ⟨v, key v h1⟩
    | l p φ => obtain ⟨⟨v, hv⟩, _⟩ := h; exact ⟨v, key v hv⟩
    | c p X => obtain ⟨⟨v, hv⟩, _⟩ := h; exact ⟨v, key v hv⟩
  · exact ⟨undef, key undef (by rw [if_neg hw])⟩

theorem waits_spec {j i : Nat} (h : Region.waitsFor .any ops j i = true) {oj : Oper} (hj : ops[j]? = some oj) : ∃ e ∈ oj.after, Region.binds .any e = true ∧ e.on = i := by
  obtain ⟨o', ho', e, he, hb, hon⟩ := Region.waitsFor_spec h
  obtain rfl := Option.some.inj (ho'.symm.trans hj)
  exact ⟨e, he, hb, hon⟩

def isCf (specs : List Sp) (k : Nat) : Bool := ((specs[k]?).map Sp.isC).getD false

/-- How far we are. -/
structure Inv (P : Program) (ops : Array Oper) (C D : World → Prop) (specs : List Sp) (a0 : Act) (X0 : World → Prop) (val : Nat → Value) (listed : Array Bool) (a : Act) (w : World) : Prop where
  size : listed.size = ops.size
  closed : ∀ (j : Nat) (oj : Oper), ops[j]? = some oj → listed.getD j false = true → ∀ e ∈ oj.after, Region.binds .any e = true → listed.getD e.on false = true
  cons : ∀ k, k < ops.size → Cons P C ops specs a0 val k
  act : a = rep ops a0 val (fun k => listed.getD k false) ops.size
  cw : ∀ k, k < ops.size → listed.getD k false = false → C w
  dw : ∀ k, k + 1 = ops.size → listed.getD k false = true → D w
  lf : ∀ (k : Nat) (p : Value → Prop) (φ : Value → World → Prop), k < ops.size → listed.getD k false = true → specs[k]? = some (.l p φ) → wantedT ops a0 val k = true → φ (val k) w
  xf : ∀ j, j ≤ ops.size → (∀ k, k < j → isCf specs k = true → listed.getD k false = true) → (∀ k, j ≤ k → isCf specs k = true → listed.getD k false = false) → XT ops specs a0 X0 val j w

theorem XT_mid {val : Nat → Value} (j d : Nat) (h : ∀ k, j ≤ k → k < j + d → isCf specs k = false) : XT ops specs a0 X0 val (j + d) = XT ops specs a0 X0 val j := by
  induction d with
  | zero => rfl
  | succ d ih =>
    rw [← ih fun k h1 h2 => h k h1 (by omega)]
    show XT ops specs a0 X0 val (j + d + 1) = _
    have := h (j + d) (by omega) (by omega)
    unfold isCf at this
    simp only [XT]
    cases hs : specs[j + d]? with
    | none => rfl
    | some s => cases s <;> simp_all [Sp.isC]
theorem XT_congr {val val' : Nat → Value} (j : Nat) (hc : ∀ k, k < j → isCf specs k = true → val k = val' k) (hw : ∀ k, k < j → isCf specs k = true → wantedT ops a0 val k = wantedT ops a0 val' k) :
    XT ops specs a0 X0 val j = XT ops specs a0 X0 val' j := by
  induction j with
  | zero => rfl
  | succ j ih =>
    have ih := ih (fun k h => hc k (by omega)) (fun k h => hw k (by omega))
    simp only [XT]
    cases hs : specs[j]? with
    | none => exact ih
    | some s =>
      cases s with
      | q => exact ih
      | l p φ => exact ih
      | c p X =>
        have hi : isCf specs j = true := by simp [isCf, hs, Sp.isC]
        simp only [hw j (by omega) hi, hc j (by omega) hi, ih]
theorem FT_mem {val : Nat → Value} {x : Nat × (World → Prop)} (k : Nat) (h : x ∈ FT ops specs a0 val k) : x.1 < k ∧ ∃ p φ, specs[x.1]? = some (.l p φ) ∧ wantedT ops a0 val x.1 = true ∧ x.2 = φ (val x.1) := by
  induction k with
  | zero => cases h
  | succ k ih =>
    simp only [FT] at h
    have old : x ∈ FT ops specs a0 val k → x.1 < k + 1 ∧ ∃ p φ, specs[x.1]? = some (.l p φ) ∧ wantedT ops a0 val x.1 = true ∧ x.2 = φ (val x.1) := fun h => ⟨by have := (ih h).1; omega, (ih h).2⟩
    cases hs : specs[k]? with
    | none => rw [hs] at h; exact old h
    | some s =>
      rw [hs] at h
      cases s with
      | q => exact old h
      | c p X => exact old h
      | l p φ =>
        simp only at h
        split at h
        · rename_i hw
          rcases List.mem_cons.1 h with rfl | h
          · exact ⟨by simp, p, φ, hs, hw, rfl⟩
          · exact old h
        · exact old h

section sound
variable (l : List Oper) (hl : ∀ j : Nat, l[j]? = ops[j]?) (hsp : specs.length = l.length) {w0 : World} (hw0 : C w0) (hG : Gen P ops C D L R Q 0 l specs a0 X0 [])
  (hO : OrdOk ops (isCf specs)) (hLR : ∀ w w', L w w' → R w w') (hX0 : ∀ w w', X0 w → L w w' → X0 w')
  (hS : (∀ i, i + 1 < ops.size → ∃ j, i < j ∧ j < ops.size ∧ Region.waitsFor .any ops j i = true) ∨ ∀ w, C w ↔ D w)
include hl
theorem len_eq : l.length = ops.size := by
  rcases Nat.lt_trichotomy l.length ops.size with h | h | h
  · have h1 := hl l.length
    simp [h] at h1
  · exact h
  · have h1 := hl ops.size
    simp [h] at h1
include hsp hw0 hG hO
omit hl hsp hw0 hG in
/-- Operation j in the act as it is, and in the text's. -/
theorem ag_now {val : Nat → Value} {listed : Array Bool} {j : Nat} {o : Oper} (ho : ops[j]? = some o)
    (hclosed : ∀ (j : Nat) (oj : Oper), ops[j]? = some oj → listed.getD j false = true → ∀ e ∈ oj.after, Region.binds .any e = true → listed.getD e.on false = true)
    (hun : listed.getD j false = false) (hrd : ∀ e ∈ o.after, Region.binds .any e = true → listed.getD e.on false = true) :
    Ag (o.looksAt ops) (rep ops a0 val (fun k => listed.getD k false) ops.size) (T ops a0 val j) := by
  have hj : j < ops.size := (Array.getElem?_eq_some_iff.1 ho).1
  rw [T, ← rep_prefix (ops := ops) (a := a0) (val := val) j ops.size (by omega)]
  refine rep_ag _ fun i hi => ?_
  have hoi : ops[i]? = some ops[i] := by simp [hi]
  rcases Nat.lt_trichotomy i j with h | h | h
  · by_cases hli : listed.getD i false = true
    · exact .inl ⟨by simp only [hli]; simp [h], fun _ => rfl⟩
    · refine .inr fun d hd => ?_
      rcases hO.pair i j ops[i] o h hoi ho with hw | hap
      · obtain ⟨e, he, hb, hon⟩ := waits_spec hw ho
        have := hrd e he hb
        rw [hon] at this
        exact absurd this hli
      · exact (Oper.apart_spec hap).1 d (by simpa [dstOf, hoi] using hd)
  · subst h
    exact .inl ⟨by simp only [hun]; simp, fun _ => rfl⟩
  · by_cases hli : listed.getD i false = true
    · refine .inr fun d hd => ?_
      rcases hO.pair j i o ops[i] h ho hoi with hw | hap
      · obtain ⟨e, he, hb, hon⟩ := waits_spec hw hoi
        have := hclosed i ops[i] hoi hli e he hb
        rw [hon, hun] at this
        cases this
      · exact (Oper.apart_spec hap).2.2 d (by simpa [dstOf, hoi] using hd)
    · have : listed.getD i false = false := by simpa using hli
      exact .inl ⟨by simp only [this]; simp; omega, fun _ => rfl⟩
omit hl hsp hw0 hG in
/-- A listed operation does not look at what is pending. -/
theorem ag_listed {val val' : Nat → Value} {listed : Array Bool} {m : Nat} {o : Oper} (ho : ops[m]? = some o)
    (hclosed : ∀ (j : Nat) (oj : Oper), ops[j]? = some oj → listed.getD j false = true → ∀ e ∈ oj.after, Region.binds .any e = true → listed.getD e.on false = true)
    (hlm : listed.getD m false = true) (hv : ∀ k, k < m → listed.getD k false = true → val k = val' k) :
    Ag (o.looksAt ops) (T ops a0 val m) (T ops a0 val' m) := by
  have hm : m < ops.size := (Array.getElem?_eq_some_iff.1 ho).1
  refine rep_ag _ fun i hi => ?_
  have hoi : ops[i]? = some ops[i] := by simp
  by_cases hli : listed.getD i false = true
  · exact .inl ⟨rfl, fun _ => hv i hi hli⟩
  · refine .inr fun d hd => ?_
    rcases hO.pair i m ops[i] o hi hoi ho with hw | hap
    · obtain ⟨e, he, hb, hon⟩ := waits_spec hw ho
      have := hclosed m o ho hlm e he hb
      rw [hon] at this
      exact absurd this hli
    · exact (Oper.apart_spec hap).1 d (by simpa [dstOf, hoi] using hd)
omit hl hsp hw0 hG in
theorem cons_congr {val val' : Nat → Value} {m : Nat} (h : ∀ o, ops[m]? = some o → Ag (o.looksAt ops) (T ops a0 val m) (T ops a0 val' m)) (hv : val m = val' m)
    (hc : Cons P C ops specs a0 val m) : Cons P C ops specs a0 val' m := by
  intro o s ho hs
  have h1 := hc o s ho hs
  have hag := h o ho
  have he := hag.exec (hO.sel m o · · ho)
  have hw := hag.wanted
  rw [hw, hv] at h1
  split at h1
  · rename_i hw'
    rw [if_pos hw']
    cases s with
    | q => exact fun w hw => (h1 w hw).congr he.symm
    | l p φ => exact h1
    | c p X => exact h1
  · rename_i hw'
    rw [if_neg hw']
    exact h1
/-- The values anew, behind operation j's own. -/
theorem anew {val : Nat → Value} {listed : Array Bool} {j : Nat} {v : Value}
    (hclosed : ∀ (j : Nat) (oj : Oper), ops[j]? = some oj → listed.getD j false = true → ∀ e ∈ oj.after, Region.binds .any e = true → listed.getD e.on false = true)
    (hun : listed.getD j false = false) (hcons : ∀ k, k < ops.size → Cons P C ops specs a0 val k) (hcj : Cons P C ops specs a0 (upd val j v) j) :
    ∀ d, j + 1 + d ≤ ops.size → ∃ val' : Nat → Value, val' j = v ∧ (∀ k, k < j ∨ listed.getD k false = true → val' k = val k) ∧ ∀ k, k < j + 1 + d → Cons P C ops specs a0 val' k := by
  intro d
  induction d with
  | zero =>
    intro hd
    refine ⟨upd val j v, upd_same _ _ _, fun k hk => ?_, fun k hk => ?_⟩
    · exact upd_other _ _ _ _ (by rintro rfl; rcases hk with h | h; omega; rw [hun] at h; cases h)
    · by_cases e : k = j
      · subst e; exact hcj
      · refine cons_congr hO (fun o ho => ?_) (upd_other val j k v e).symm (hcons k (by omega))
        rw [T_congr k fun i hi => upd_other val j i v (by omega)]
        exact Ag.refl _ _
  | succ d ih =>
    intro hd
    obtain ⟨val', h1, h2, h3⟩ := ih (by omega)
    have hm : j + 1 + d < ops.size := by omega
    by_cases hlm : listed.getD (j + 1 + d) false = true
    · refine ⟨val', h1, h2, fun k hk => ?_⟩
      by_cases e : k = j + 1 + d
      · subst e
        refine cons_congr hO (fun o ho => ?_) (h2 _ (.inr hlm)).symm (hcons _ hm)
        exact ag_listed hO ho hclosed hlm fun k hk hlk => (h2 k (.inr hlk)).symm
      · exact h3 k (by omega)
    · have hlen := len_eq l hl
      obtain ⟨u, hu⟩ := gen_next l hl hsp val' (j + 1 + d) (by omega) (gen_at l hl hsp hw0 hG val' (j + 1 + d) (by omega) h3)
      refine ⟨upd val' (j + 1 + d) u, by rw [upd_other _ _ _ _ (by omega)]; exact h1, fun k hk => ?_, fun k hk => ?_⟩
      · rw [upd_other _ _ _ _ (by rintro rfl; rcases hk with h | h; omega; exact hlm h)]
        exact h2 k hk
      · by_cases e : k = j + 1 + d
        · subst e; exact hu
        · refine cons_congr hO (fun o ho => ?_) (upd_other val' _ k u e).symm (h3 k (by omega))
          rw [T_congr k fun i hi => upd_other val' _ i u (by omega)]
          exact Ag.refl _ _

/-- How many are pending. -/
def pend (listed : Array Bool) : Nat → Nat
  | 0 => 0
  | k + 1 => pend listed k + if listed.getD k true then 0 else 1
omit hl hsp hw0 hG hO in
theorem pend_set {listed : Array Bool} {j : Nat} (hj : listed.getD j true = false) (n : Nat) : pend listed n = pend (listed.setIfInBounds j true) n + if j < n then 1 else 0 := by
  induction n with
  | zero => rfl
  | succ n ih =>
    simp only [pend]
    by_cases e : n = j
    · subst e
      have hlt : n < listed.size := by
        rcases Nat.lt_or_ge n listed.size with h | h
        · exact h
        · simp [Array.getElem?_eq_none h] at hj
      rw [hj, ih]
      simp [hlt]
    · rw [getD_set_ne true (Ne.symm e), ih]
      split <;> split <;> split <;> first | omega | rfl
include hX0
omit hO in
/-- What light operations leave of a chain's state. -/
theorem XT_stable {val : Nat → Value} (hcons : ∀ k, k < ops.size → Cons P C ops specs a0 val k) : ∀ j, j ≤ ops.size → ∀ w w', XT ops specs a0 X0 val j w → L w w' → XT ops specs a0 X0 val j w' := by
  have hlen := len_eq l hl
  intro j
  induction j with
  | zero => exact fun _ => hX0
  | succ j ih =>
    intro hj w w' hx hLw
    have ih := ih (by omega) w w'
    have hg := gen_at l hl hsp hw0 hG val j (by omega) fun i hi => hcons i (by omega)
    have hjl : j < l.length := by omega
    have hjs : j < specs.length := by omega
    rw [List.drop_eq_getElem_cons hjl, List.drop_eq_getElem_cons hjs] at hg
    have hs : specs[j]? = some specs[j] := by simp [hjs]
    have ho : ops[j]? = some l[j] := by rw [← hl]; simp [hjl]
    have hwt : wantedT ops a0 val j = Region.wanted l[j] (yielded ops (T ops a0 val j).tmps) := by simp [wantedT, ho]
    simp only [XT, hs, hwt] at hx ⊢
    simp only [Gen] at hg
    generalize specs[j] = s at *
    cases s with
    | q => exact ih hx hLw
    | l p φ => exact ih hx hLw
    | c p X =>
      simp only at hx ⊢
      by_cases hw : Region.wanted l[j] (yielded ops (T ops a0 val j).tmps) = true
      · rw [if_pos hw] at hx hg ⊢
        exact hg.2.1 _ _ _ hx hLw
      · rw [if_neg hw] at hx ⊢
        exact ih hx hLw

omit hl hsp hw0 hG hX0 in
/-- What is listed of a chain is a beginning of it. -/
theorem chain_down {listed : Array Bool}
    (hclosed : ∀ (j : Nat) (oj : Oper), ops[j]? = some oj → listed.getD j false = true → ∀ e ∈ oj.after, Region.binds .any e = true → listed.getD e.on false = true) {k : Nat} (hck : isCf specs k = true) :
    ∀ (d m : Nat), m - k = d → k < m → m < ops.size → isCf specs m = true → listed.getD m false = true → listed.getD k false = true := by
  intro d
  induction d using Nat.strongRecOn with
  | _ d ih =>
    intro m hd hkm hm hcm hlm
    have hom : ops[m]? = some ops[m] := by simp [hm]
    rcases hO.chain k m hkm hm hck hcm with hwf | ⟨m2, h1, h2, h3, hwf⟩
    · obtain ⟨e, he, hb, hon⟩ := waits_spec hwf hom
      have := hclosed m ops[m] hom hlm e he hb
      rwa [hon] at this
    · obtain ⟨e, he, hb, hon⟩ := waits_spec hwf hom
      have := hclosed m ops[m] hom hlm e he hb
      rw [hon] at this
      exact ih (m2 - k) (by omega) m2 rfl h1 (by omega) h3 this
omit hl hsp hw0 hG hO hX0 hS in
/-- Where the last operation is listed, and each one is waited for, all are listed. -/
theorem sink_all {listed : Array Bool}
    (hclosed : ∀ (j : Nat) (oj : Oper), ops[j]? = some oj → listed.getD j false = true → ∀ e ∈ oj.after, Region.binds .any e = true → listed.getD e.on false = true)
    (hs : ∀ i, i + 1 < ops.size → ∃ j, i < j ∧ j < ops.size ∧ Region.waitsFor .any ops j i = true) {n' : Nat} (hn : n' + 1 = ops.size) (hln : listed.getD n' false = true) :
    ∀ (d i : Nat), ops.size - i = d → i < ops.size → listed.getD i false = true := by
  intro d
  induction d using Nat.strongRecOn with
  | _ d ih =>
    intro i hd hi
    by_cases e : i = n'
    · subst e; exact hln
    · obtain ⟨j, h1, h2, h3⟩ := hs i (by omega)
      have hoj : ops[j]? = some ops[j] := by simp [h2]
      obtain ⟨e, he, hb, hon⟩ := waits_spec h3 hoj
      have := hclosed j ops[j] hoj (ih (ops.size - j) (by omega) j rfl h2) e he hb
      rwa [hon] at this
include hLR hS
/-- ONE OPERATION. -/
theorem inv_step {Q' : Exit → Act → World → Prop} {val : Nat → Value} {listed : Array Bool} {a : Act} {w : World} {j : Nat} (I : Inv P ops C D specs a0 X0 val listed a w) (hr : j ∈ Region.ready .any ops listed)
    {K : Act → World → Prop} (hK : ∀ val' a' w', Inv P ops C D specs a0 X0 val' (listed.setIfInBounds j true) a' w' → K a' w') : wpOp P ops Q' j K a w := by
  have hlen := len_eq l hl
  obtain ⟨hunt, o, ho, hrd⟩ := mem_ready.1 hr
  have hj : j < ops.size := (Array.getElem?_eq_some_iff.1 ho).1
  have hun : listed.getD j false = false := getD_both hunt
  have hag := ag_now hO (a0 := a0) (val := val) ho I.closed hun hrd
  rw [← I.act] at hag
  have hexec := hag.exec (hO.sel j o · · ho)
  have hwant := hag.wanted
  have hg := gen_at l hl hsp hw0 hG val j (by omega) fun i hi => I.cons i (by omega)
  have hjl : j < l.length := by omega
  have hjs : j < specs.length := by omega
  rw [List.drop_eq_getElem_cons hjl, List.drop_eq_getElem_cons hjs] at hg
  have hs : specs[j]? = some specs[j] := by simp [hjs]
  have hol : l[j] = o := by
    have h1 : ops[j]? = some l[j] := by rw [← hl]; simp [hjl]
    exact Option.some.inj (h1.symm.trans ho)
  rw [hol] at hg
  have hwt : wantedT ops a0 val j = Region.wanted o (yielded ops (T ops a0 val j).tmps) := by simp [wantedT, ho]
  have hcj := I.cons j hj o specs[j] ho hs
  have hset : ∀ k, (listed.setIfInBounds j true).getD k false = upd (fun k => listed.getD k false) j true k := fun k => by
    by_cases e : k = j
    · subst e
      rw [upd_same]
      have : k < listed.size := by rw [I.size]; exact hj
      simp [this]
    · rw [upd_other _ _ _ _ e, getD_set_ne false (Ne.symm e)]
  have hset' : ∀ k, (listed.setIfInBounds j true).getD k false = true → k = j ∨ listed.getD k false = true := fun k hk => by
    rw [hset] at hk
    by_cases e : k = j
    · exact .inl e
    · rw [upd_other _ _ _ _ e] at hk; exact .inr hk
  have hsetk : ∀ k, listed.getD k false = true → (listed.setIfInBounds j true).getD k false = true := fun k hk => by
    rw [hset]
    by_cases e : k = j
    · subst e; exact upd_same _ _ _
    · rw [upd_other _ _ _ _ e]; exact hk
  have hsetj : (listed.setIfInBounds j true).getD j false = true := by rw [hset]; exact upd_same _ _ _
  have hclosed' : ∀ (k : Nat) (ok : Oper), ops[k]? = some ok → (listed.setIfInBounds j true).getD k false = true → ∀ e ∈ ok.after, Region.binds .any e = true → (listed.setIfInBounds j true).getD e.on false = true := fun k ok hk hlk e he hb => by
    rcases hset' k hlk with rfl | h
    · obtain rfl := Option.some.inj (hk.symm.trans ho)
      exact hsetk _ (hrd e he hb)
    · exact hsetk _ (I.closed k ok hk h e he hb)
  have hact : ∀ val' : Nat → Value, (∀ k, k < j ∨ listed.getD k false = true → val' k = val k) → a.put o.dst (val' j) = rep ops a0 val' (fun k => (listed.setIfInBounds j true).getD k false) ops.size := fun val' hv => by
    have hd : o.dst = dstOf ops j := by simp [dstOf, ho]
    rw [I.act, hd, rep_insert ops.size hj hun]
    · refine rep_same _ fun i hi => ⟨(hset i).symm, fun hsel => ?_⟩
      by_cases e : i = j
      · subst e; exact upd_same _ _ _
      · rw [upd_other _ _ _ _ e] at hsel ⊢
        exact (hv i (.inr hsel)).symm
    · intro i hji hi hli d hd1 hd2
      have hoi : ops[i]? = some ops[i] := by simp [hi]
      rcases hO.pair j i o ops[i] hji ho hoi with hwf | hap
      · obtain ⟨e, he, hb, hon⟩ := waits_spec hwf hoi
        have := I.closed i ops[i] hoi hli e he hb
        rw [hon, hun] at this
        cases this
      · exact (Oper.apart_spec hap).2.1 d (by rw [← hd] at hd1; exact hd1) (by simpa [dstOf, hoi] using hd2)
  have behind : isCf specs j = true → ∀ k, j < k → k < ops.size → isCf specs k = true → listed.getD k false = false := fun hcj0 k hjk hk hck => by
    cases hlk : listed.getD k false with
    | false => rfl
    | true =>
      have := chain_down hO I.closed hcj0 _ k rfl hjk hk hck hlk
      rw [hun] at this
      cases this
  have ahead : isCf specs j = true → ∀ k, k < j → isCf specs k = true → listed.getD k false = true := fun hcj0 k hkj hck => by
    rcases hO.chain k j hkj hj hck hcj0 with hwf | ⟨m, hm1, hm2, hm3, hwf⟩
    · obtain ⟨e, he, hb, hon⟩ := waits_spec hwf ho
      have := hrd e he hb
      rwa [hon] at this
    · obtain ⟨e, he, hb, hon⟩ := waits_spec hwf ho
      have := hrd e he hb
      rw [hon] at this
      exact chain_down hO I.closed hck _ m rfl hm1 (by omega) hm3 this
  have hcsize : ∀ k, isCf specs k = true → k < ops.size := fun k hk => by
    rcases Nat.lt_or_ge k ops.size with h | h
    · exact h
    · have : specs[k]? = none := by simp; omega
      simp [isCf, this] at hk
  have xnow : isCf specs j = true → XT ops specs a0 X0 val j w := fun hcj0 => I.xf j (by omega) (ahead hcj0) fun k hjk hck => by
    by_cases e : k = j
    · subst e; exact hun
    · exact behind hcj0 k (by omega) (hcsize k hck) hck
  -- what the facts are, where values are kept
  have wkeep : ∀ val' : Nat → Value, (∀ k, k < j ∨ listed.getD k false = true → val' k = val k) → ∀ k, listed.getD k false = true → wantedT ops a0 val' k = wantedT ops a0 val k := fun val' hv k hk => by
    have hkn : k < ops.size := by
      rcases Nat.lt_or_ge k ops.size with h | h
      · exact h
      · have : listed[k]? = none := by simp [I.size]; omega
        simp [this] at hk
    have hok : ops[k]? = some ops[k] := by simp [hkn]
    simp only [wantedT, hok]
    exact (ag_listed hO (a0 := a0) hok I.closed hk fun i _ hli => hv i (.inr hli)).wanted
  have wkeepj : ∀ val' : Nat → Value, (∀ k, k < j ∨ listed.getD k false = true → val' k = val k) → wantedT ops a0 val' j = wantedT ops a0 val j := fun val' hv => wantedT_congr j fun i hi => hv i (.inl hi)
  have lkeep : ∀ (val' : Nat → Value) (w' : World), (∀ k, k < j ∨ listed.getD k false = true → val' k = val k) → R w w' → ∀ (k : Nat) (p : Value → Prop) (φ : Value → World → Prop), k < ops.size → listed.getD k false = true → specs[k]? = some (.l p φ) → wantedT ops a0 val' k = true → φ (val' k) w' := fun val' w' hv hRw k p φ hk hlk hsk hwk => by
    rw [wkeep val' hv k hlk] at hwk
    rw [hv k (.inr hlk)]
    have h1 := I.lf k p φ hk hlk hsk hwk
    have hgk := gen_at l hl hsp hw0 hG val k (by omega) fun i hi => I.cons i (by omega)
    have hkl : k < l.length := by omega
    have hks : k < specs.length := by omega
    rw [List.drop_eq_getElem_cons hkl, List.drop_eq_getElem_cons hks] at hgk
    have hsk' : specs[k] = .l p φ := by
      have : specs[k]? = some specs[k] := by simp [hks]
      exact Option.some.inj (this.symm.trans hsk)
    have hok : ops[k]? = some l[k] := by rw [← hl]; simp [hkl]
    rw [hsk'] at hgk
    simp only [Gen] at hgk
    have : Region.wanted l[k] (yielded ops (T ops a0 val k).tmps) = true := by simpa [wantedT, hok] using hwk
    rw [if_pos this] at hgk
    exact hgk.2.1 _ _ _ h1 hRw
  have xkeep : ∀ (val' : Nat → Value) (j' : Nat), (∀ k, k < j ∨ listed.getD k false = true → val' k = val k) → j' ≤ ops.size → (∀ k, k < j' → isCf specs k = true → listed.getD k false = true) → XT ops specs a0 X0 val' j' = XT ops specs a0 X0 val j' := fun val' j' hv hj' hall =>
    XT_congr j' (fun k hk hck => hv k (.inr (hall k hk hck))) (fun k hk hck => wkeep val' hv k (hall k hk hck))
  -- a state of no chain goes on where this operation is none of the chain
  have xother : isCf specs j = false → ∀ (val' : Nat → Value) (w' : World), (∀ k, k < j ∨ listed.getD k false = true → val' k = val k) → (∀ k, k < ops.size → Cons P C ops specs a0 val k) → (w' = w ∨ L w w') →
      ∀ j', j' ≤ ops.size → (∀ k, k < j' → isCf specs k = true → (listed.setIfInBounds j true).getD k false = true) → (∀ k, j' ≤ k → isCf specs k = true → (listed.setIfInBounds j true).getD k false = false) → XT ops specs a0 X0 val' j' w' :=
    fun hnc val' w' hv hcs hww j' hj' h1 h2 => by
      have h1' : ∀ k, k < j' → isCf specs k = true → listed.getD k false = true := fun k hk hck => by
        rcases hset' k (h1 k hk hck) with e | h
        · subst e; rw [hnc] at hck; cases hck
        · exact h
      have h2' : ∀ k, j' ≤ k → isCf specs k = true → listed.getD k false = false := fun k hk hck => by
        cases h : listed.getD k false with
        | false => rfl
        | true => have := hsetk k h; rw [h2 k hk hck] at this; cases this
      rw [xkeep val' j' hv hj' h1']
      have hx := I.xf j' hj' h1' h2'
      rcases hww with rfl | hLw
      · exact hx
      · exact XT_stable l hl hsp hw0 hG hX0 hcs j' hj' w w' hx hLw
  have hCw : C w := I.cw j hj hun
  have cwNew : ∀ w', Aft ops C D j w' → ∀ k, k < ops.size → (listed.setIfInBounds j true).getD k false = false → C w' := fun w' hA k hk hkl => by
    by_cases e : j + 1 = ops.size
    · rcases hS with hS | hS
      · have := sink_all hclosed' hS e hsetj _ k rfl hk
        rw [hkl] at this; cases this
      · exact (hS w').2 (hA.1 e)
    · exact hA.2 e
  have dwNew : ∀ w', Aft ops C D j w' → ∀ k, k + 1 = ops.size → (listed.setIfInBounds j true).getD k false = true → D w' := fun w' hA k hk hkl => by
    by_cases e : j + 1 = ops.size
    · exact hA.1 e
    · rcases hS with hS | hS
      · have h1 : listed.getD k false = true := by
          rcases hset' k hkl with rfl | h
          · exact absurd hk e
          · exact h
        have := sink_all I.closed hS hk h1 _ j rfl hj
        rw [hun] at this; cases this
      · exact (hS w').1 (hA.2 e)
  unfold wpOp
  simp only [ho, hwant]
  generalize hse : specs[j] = s at *
  simp only [Gen] at hg
  by_cases hw : Region.wanted o (yielded ops (T ops a0 val j).tmps) = true
  · rw [if_pos hw] at hg hcj ⊢
    refine .inl ?_
    have hnew : ∀ v, (∀ c : Cons P C ops specs a0 (upd val j v) j, ∃ val' : Nat → Value, val' j = v ∧ (∀ k, k < j ∨ listed.getD k false = true → val' k = val k) ∧ ∀ k, k < ops.size → Cons P C ops specs a0 val' k) := fun v c => by
      obtain ⟨val', h1, h2, h3⟩ := anew l hl hsp hw0 hG hO (a0 := a0) (v := v) I.closed hun I.cons c (ops.size - (j + 1)) (by omega)
      exact ⟨val', h1, h2, fun k hk => h3 k (by omega)⟩
    have hT : ∀ v, T ops a0 (upd val j v) j = T ops a0 val j := fun v => T_congr j fun i hi => upd_other val j i v (by omega)
    cases s with
    | q =>
      have hnc : isCf specs j = false := by simp [isCf, hs, Sp.isC]
      obtain ⟨_, _, hrem, _⟩ := hg
      have hA : Aft ops C D j w := ⟨fun e => hrem e w hCw, fun _ => hCw⟩
      refine ((hcj w hCw).congr hexec).wp ?_
      refine hK val _ w ⟨by simp [I.size], hclosed', I.cons, hact val fun _ _ => rfl, cwNew w hA, dwNew w hA, fun k p φ hk hlk hsk hwk => ?_, xother hnc val w (fun _ _ => rfl) I.cons (.inl rfl)⟩
      rcases hset' k hlk with rfl | h
      · rw [hs] at hsk; cases hsk
      · exact I.lf k p φ hk h hsk hwk
    | l p φ =>
      have hnc : isCf specs j = false := by simp [isCf, hs, Sp.isC]
      have hld := hg.2.2.1 w hCw fun x hx hn => by
        obtain ⟨h1, p', φ', h2, h3, h4⟩ := FT_mem j hx
        rw [h4]
        obtain ⟨e, he, hbe⟩ := Array.any_eq_true'.1 (show (o.after.any fun e => Region.binds .any e && e.on == x.1) = true from hn)
        simp only [Bool.and_eq_true, beq_iff_eq] at hbe
        have h5 := hrd e he hbe.1
        rw [hbe.2] at h5
        exact I.lf x.1 p' φ' (by omega) h5 h2 h3
      refine (hld.congr hexec).wp fun v w' ⟨hC', hL', hp, hφ⟩ => ?_
      obtain ⟨val', h1, h2, h3⟩ := hnew v (fun o' s' ho' hs' => by
        obtain rfl := Option.some.inj (ho.symm.trans ho')
        obtain rfl := Option.some.inj (hs.symm.trans hs')
        rw [hT, if_pos hw]
        simpa [upd_same] using hp)
      rw [← h1]
      refine hK val' _ w' ⟨by simp [I.size], hclosed', h3, hact val' h2, cwNew w' hC', dwNew w' hC', fun k p' φ' hk hlk hsk hwk => ?_, xother hnc val' w' h2 I.cons (.inr hL')⟩
      rcases hset' k hlk with rfl | h
      · rw [hs] at hsk
        simp only [Option.some.injEq, Sp.l.injEq] at hsk
        obtain ⟨rfl, rfl⟩ := hsk
        rw [h1]; exact hφ
      · exact lkeep val' w' h2 (hLR _ _ hL') k p' φ' hk h hsk hwk
    | c p X =>
      have hcj0 : isCf specs j = true := by simp [isCf, hs, Sp.isC]
      have hld := hg.2.2.1 w hCw (xnow hcj0) fun x hx hn => by
        obtain ⟨h1, p', φ', h2, h3, h4⟩ := FT_mem j hx
        rw [h4]
        obtain ⟨e, he, hbe⟩ := Array.any_eq_true'.1 (show (o.after.any fun e => Region.binds .any e && e.on == x.1) = true from hn)
        simp only [Bool.and_eq_true, beq_iff_eq] at hbe
        have h5 := hrd e he hbe.1
        rw [hbe.2] at h5
        exact I.lf x.1 p' φ' (by omega) h5 h2 h3
      refine (hld.congr hexec).wp fun v w' ⟨hC', hR', hp, hX'⟩ => ?_
      obtain ⟨val', h1, h2, h3⟩ := hnew v (fun o' s' ho' hs' => by
        obtain rfl := Option.some.inj (ho.symm.trans ho')
        obtain rfl := Option.some.inj (hs.symm.trans hs')
        rw [hT, if_pos hw]
        simpa [upd_same] using hp)
      rw [← h1]
      refine hK val' _ w' ⟨by simp [I.size], hclosed', h3, hact val' h2, cwNew w' hC', dwNew w' hC', fun k p' φ' hk hlk hsk hwk => ?_, fun j' hj' g1 g2 => ?_⟩
      · rcases hset' k hlk with rfl | h
        · rw [hs] at hsk; cases hsk
        · exact lkeep val' w' h2 hR' k p' φ' hk h hsk hwk
      · have hjj : j < j' := by
          rcases Nat.lt_or_ge j j' with h | h
          · exact h
          · have := g2 j h hcj0; rw [hsetj] at this; cases this
        have hmid := XT_mid (ops := ops) (specs := specs) (a0 := a0) (X0 := X0) (val := val') (j + 1) (j' - (j + 1)) fun k hk1 hk2 => by
          cases hck : isCf specs k with
          | false => rfl
          | true =>
            rcases hset' k (g1 k (by omega) hck) with e | h
            · omega
            · rw [behind hcj0 k (by omega) (by omega) hck] at h; cases h
        rw [show j + 1 + (j' - (j + 1)) = j' by omega] at hmid
        rw [hmid]
        have hwj : wantedT ops a0 val' j = true := by rw [wkeepj val' h2, hwt]; exact hw
        simp only [XT, hs, hwj, if_true, h1]
        exact hX'
  · rw [if_neg hw] at hg hcj ⊢
    have hv : ∀ k, k < j ∨ listed.getD k false = true → val k = val k := fun _ _ => rfl
    have hA : Aft ops C D j w := ⟨fun e => hg.1 e w hCw, fun _ => hCw⟩
    have hwf : wantedT ops a0 val j = false := by rw [hwt]; simpa using hw
    refine hK val _ w ⟨by simp [I.size], hclosed', I.cons, by rw [← hact val hv, hcj], cwNew w hA, dwNew w hA, fun k p' φ' hk hlk hsk hwk => ?_, fun j' hj' g1 g2 => ?_⟩
    · rcases hset' k hlk with rfl | h
      · rw [hwf] at hwk; cases hwk
      · exact I.lf k p' φ' hk h hsk hwk
    · cases hcj0 : isCf specs j with
      | false => exact xother hcj0 val w hv I.cons (.inl rfl) j' hj' g1 g2
      | true =>
        have hjj : j < j' := by
          rcases Nat.lt_or_ge j j' with h | h
          · exact h
          · have := g2 j h hcj0; rw [hsetj] at this; cases this
        have hmid := XT_mid (ops := ops) (specs := specs) (a0 := a0) (X0 := X0) (val := val) (j + 1) (j' - (j + 1)) fun k hk1 hk2 => by
          cases hck : isCf specs k with
          | false => rfl
          | true =>
            rcases hset' k (g1 k (by omega) hck) with e | h
            · omega
            · rw [behind hcj0 k (by omega) (by omega) hck] at h; cases h
        rw [show j + 1 + (j' - (j + 1)) = j' by omega] at hmid
        rw [hmid]
        have hx := xnow hcj0
        simp only [XT, hs, hwf]
        cases s <;> simpa using hx

omit hO hLR hX0 hS in
/-- At the end. -/
theorem inv_end (hpos : 0 < ops.size) {val : Nat → Value} {listed : Array Bool} {a : Act} {w : World} (I : Inv P ops C D specs a0 X0 val listed a w) (hall : ∀ k, k < ops.size → listed.getD k false = true) : Q a w := by
  have hlen := len_eq l hl
  have hg := gen_at l hl hsp hw0 hG val ops.size (by omega) fun i hi => I.cons i hi
  rw [List.drop_eq_nil_of_le (by omega), List.drop_eq_nil_of_le (by omega)] at hg
  have ha : a = T ops a0 val ops.size := by
    rw [I.act]
    exact rep_same _ fun i hi => ⟨hall i hi, fun _ => rfl⟩
  have hcsize : ∀ k, isCf specs k = true → k < ops.size := fun k hk => by
    rcases Nat.lt_or_ge k ops.size with h | h
    · exact h
    · have : specs[k]? = none := by simp; omega
      simp [isCf, this] at hk
  rw [ha]
  refine hg w (I.dw (ops.size - 1) (by omega) (hall _ (by omega))) (I.xf ops.size (Nat.le_refl _) (fun k hk _ => hall k hk) fun k hk hck => ?_) fun x hx => ?_
  · have := hcsize k hck; omega
  · obtain ⟨h1, p', φ', h2, h3, h4⟩ := FT_mem ops.size hx
    rw [h4]
    exact I.lf x.1 p' φ' h1 (hall _ h1) h2 h3
omit hl hsp hw0 hG hX0 hLR hS in
theorem all_listed {listed : Array Bool} (hsz : listed.size = ops.size) (hr : Region.ready .any ops listed = []) : ∀ i, i < ops.size → listed.getD i false = true := by
  intro i
  induction i using Nat.strongRecOn with
  | _ i ih =>
    intro hi
    cases h : listed.getD i false with
    | true => rfl
    | false =>
      have hm : i ∈ Region.ready .any ops listed := mem_ready.2 ⟨getD_in (by omega) h, ops[i], by simp [hi], fun e he hb => by
        have := hO.back i ops[i] (by simp [hi]) e he hb
        exact ih e.on this (by omega)⟩
      rw [hr] at hm
      cases hm
omit hl hsp hw0 hG hX0 hLR hO hS in
theorem pend_zero {listed : Array Bool} (n : Nat) (h : pend listed n = 0) : ∀ k, k < n → listed.getD k true = true := by
  induction n with
  | zero => intro k hk; omega
  | succ n ih =>
    simp only [pend] at h
    intro k hk
    by_cases e : k = n
    · subst e
      cases hh : listed.getD k true with
      | true => rfl
      | false => rw [hh] at h; simp at h
    · exact ih (by omega) k (by omega)
theorem inv_all (hpos : 0 < ops.size) {Q' : Exit → Act → World → Prop} (hQ : ∀ a w, Q a w → Q' .normal a w) : ∀ (fuel : Nat) (listed : Array Bool) (a : Act) (w : World) (val : Nat → Value), Inv P ops C D specs a0 X0 val listed a w →
    pend listed ops.size ≤ fuel → wpAny P .any ops Q' fuel listed a w := by
  intro fuel
  induction fuel with
  | zero =>
    intro listed a w val I hp
    have hall : ∀ k, k < ops.size → listed.getD k false = true := fun k hk => by
      have := pend_zero (listed := listed) ops.size (by omega) k hk
      have hk' : k < listed.size := by rw [I.size]; exact hk
      simp [hk'] at this ⊢
      exact this
    refine ⟨?_, hQ _ _ (inv_end l hl hsp hw0 hG hpos I hall)⟩
    apply List.eq_nil_iff_forall_not_mem.2
    intro j hj
    obtain ⟨h1, o, ho, _⟩ := mem_ready.1 hj
    have := hall j (Array.getElem?_eq_some_iff.1 ho).1
    rw [getD_both h1] at this
    cases this
  | succ fuel ih =>
    intro listed a w val I hp
    refine ⟨fun hr => hQ _ _ (inv_end l hl hsp hw0 hG hpos I (all_listed hO I.size hr)), fun j hj => ?_⟩
    refine inv_step l hl hsp hw0 hG hO hLR hX0 hS I hj fun val' a' w' I' => ih _ _ _ val' I' ?_
    obtain ⟨h1, o, ho, _⟩ := mem_ready.1 hj
    have hjn := (Array.getElem?_eq_some_iff.1 ho).1
    have := pend_set h1 ops.size
    rw [if_pos hjn] at this
    omega
end sound

def sinkB (ops : Array Oper) : Bool := (List.range ops.size).all fun i => decide (i + 1 = ops.size) || (List.range ops.size).any fun j => decide (i < j) && Region.waitsFor .any ops j i
theorem sink_of (h : sinkB ops = true) : ∀ i, i + 1 < ops.size → ∃ j, i < j ∧ j < ops.size ∧ Region.waitsFor .any ops j i = true := fun i hi => by
  have h1 := List.all_eq_true.1 h i (List.mem_range.2 (by omega))
  simp only [Bool.or_eq_true, decide_eq_true_eq, List.any_eq_true, List.mem_range, Bool.and_eq_true] at h1
  rcases h1 with h1 | ⟨j, h2, h3, h4⟩
  · omega
  · exact ⟨j, h3, h2, h4⟩
theorem wp_region_gen' (C D : World → Prop) (L R : World → World → Prop) (X0 : World → Prop) (specs : List Sp) {id : Nat} {Q' : Exit → Act → World → Prop} {a : Act} {w : World} {l : List Oper}
    (hm : P.follows .mixedOrders = true) (hsp : specs.length = l.length) (hpos : 0 < l.length) (hB : orderB l.toArray (isCf specs) = true)
    (hS : (∀ i, i + 1 < l.toArray.size → ∃ j, i < j ∧ j < l.toArray.size ∧ Region.waitsFor .any l.toArray j i = true) ∨ ∀ w, C w ↔ D w)
    (hLR : ∀ w w', L w w' → R w w') (hX0 : ∀ w w', X0 w → L w w' → X0 w') (hC : C { w with drawn := w.drawn + 1 }) (hX : X0 { w with drawn := w.drawn + 1 })
    (h : Gen P l.toArray C D L R (fun a w => Q' .normal a w) 0 l specs a X0 []) : (Code.region id l.toArray true).wp P Q' a w := by
  have hO := ord_of _ _ hB
  have hl : ∀ j : Nat, l[j]? = l.toArray[j]? := fun j => by simp
  refine wp_region_any hm ?_
  have hlen : l.toArray.size = l.length := by simp
  -- values to begin with
  have start : ∀ d, d ≤ l.toArray.size → ∃ val : Nat → Value, ∀ k, k < d → Cons P C l.toArray specs a val k := by
    intro d
    induction d with
    | zero => exact fun _ => ⟨fun _ => undef, fun k hk => by omega⟩
    | succ d ih =>
      intro hd
      obtain ⟨val, hv⟩ := ih (by omega)
      obtain ⟨u, hu⟩ := gen_next l hl hsp val d (by omega) (gen_at l hl hsp hC h val d (by omega) hv)
      refine ⟨upd val d u, fun k hk => ?_⟩
      by_cases e : k = d
      · subst e; exact hu
      · refine cons_congr hO (fun o ho => ?_) (upd_other val d k u e).symm (hv k (by omega))
        rw [T_congr k fun i hi => upd_other val d i u (by omega)]
        exact Ag.refl _ _
  obtain ⟨val, hv⟩ := start _ (Nat.le_refl _)
  have hrepl : ∀ j, (Array.replicate l.toArray.size false).getD j false = false := getD_replicate_false _
  refine inv_all l hl hsp hC h hO hLR hX0 hS (by simpa using hpos) (fun _ _ h => h) l.toArray.size _ a _ val ⟨by simp, fun j oj _ hj => ?_, hv, ?_, fun _ _ _ => hC, fun k _ hk => ?_, fun k p φ _ hk => ?_, fun j hj h1 _ => ?_⟩ ?_
  · rw [hrepl] at hj; cases hj
  · have : ∀ n, rep l.toArray a val (fun k => (Array.replicate l.toArray.size false).getD k false) n = a := fun n => by
      induction n with
      | zero => rfl
      | succ n ih =>
        simp only [rep]
        rw [if_neg (by rw [hrepl]; simp)]
        exact ih
    exact (this _).symm
  · rw [hrepl] at hk; cases hk
  · rw [hrepl] at hk; cases hk
  · have := XT_mid (ops := l.toArray) (specs := specs) (a0 := a) (X0 := X0) (val := val) 0 j fun k _ hk => by
      cases hck : isCf specs k with
      | false => rfl
      | true => have := h1 k (by omega) hck; rw [hrepl] at this; cases this
    rw [show 0 + j = j by omega] at this
    rw [this]
    exact hX
  · have : ∀ n, pend (Array.replicate l.toArray.size false) n ≤ n := fun n => by
      induction n with
      | zero => exact Nat.le_refl _
      | succ n ih => simp only [pend]; split <;> omega
    exact this _

/-- A REGION THAT DRAWS ITS ORDER; what holds throughout holds at its end. -/
theorem wp_region_gen (C : World → Prop) (L R : World → World → Prop) (X0 : World → Prop) (specs : List Sp) {id : Nat} {Q' : Exit → Act → World → Prop} {a : Act} {w : World} {l : List Oper}
    (hm : P.follows .mixedOrders = true) (hsp : specs.length = l.length) (hB : (decide (0 < l.length) && orderB l.toArray (isCf specs)) = true)
    (hLR : ∀ w w', L w w' → R w w') (hX0 : ∀ w w', X0 w → L w w' → X0 w') (hC : C { w with drawn := w.drawn + 1 }) (hX : X0 { w with drawn := w.drawn + 1 })
    (h : Gen P l.toArray C C L R (fun a w => Q' .normal a w) 0 l specs a X0 []) : (Code.region id l.toArray true).wp P Q' a w := by
  simp only [Bool.and_eq_true, decide_eq_true_eq] at hB
  exact wp_region_gen' C C L R X0 specs hm hsp hB.1 hB.2 (.inr fun _ => Iff.rfl) hLR hX0 hC hX h
/-- A REGION THAT DRAWS ITS ORDER, whose last operation waits for all the others. -/
theorem wp_region_tail (C D : World → Prop) (L R : World → World → Prop) (X0 : World → Prop) (specs : List Sp) {id : Nat} {Q' : Exit → Act → World → Prop} {a : Act} {w : World} {l : List Oper}
    (hm : P.follows .mixedOrders = true) (hsp : specs.length = l.length) (hB : (decide (0 < l.length) && sinkB l.toArray && orderB l.toArray (isCf specs)) = true)
    (hLR : ∀ w w', L w w' → R w w') (hX0 : ∀ w w', X0 w → L w w' → X0 w') (hC : C { w with drawn := w.drawn + 1 }) (hX : X0 { w with drawn := w.drawn + 1 })
    (h : Gen P l.toArray C D L R (fun a w => Q' .normal a w) 0 l specs a X0 []) : (Code.region id l.toArray true).wp P Q' a w := by
  simp only [Bool.and_eq_true, decide_eq_true_eq] at hB
  exact wp_region_gen' C D L R X0 specs hm hsp hB.1.1 hB.2 (.inl (sink_of hB.1.2)) hLR hX0 hC hX h

/-- Operations that enter no function. -/
def plainOp : Op → Bool
  | .call { callee := .builtin .len, .. } | .call { callee := .builtin .cap, .. } | .call { callee := .builtin .min, .. } | .call { callee := .builtin .max, .. } => true
  | .call _ | .go _ | .defer _ | .send .. | .recv .. | .select .. => false
  | _ => true
def Next.isV : Next → Bool
  | .value _ | .skip => true
  | _ => false
def onlyV : Result Next → Prop
  | .ok n _ => Next.isV n = true
  | .halt _ _ => True
theorem onlyV_bind {α : Type} (e : Sem α) (k : α → Sem Next) (w : World) (h : ∀ x w', onlyV ((k x).run P w')) : onlyV ((e >>= k).run P w) := by
  rw [Sem.run_bind]
  cases e.run P w with
  | ok x w' => exact h x w'
  | halt x w' => exact trivial
theorem onlyV_v (e : Sem Value) (w : World) : onlyV ((e >>= fun x => (pure (.value x) : Sem Next)).run P w) := onlyV_bind e _ w fun _ _ => rfl
theorem onlyV_u (e : Sem Unit) (w : World) : onlyV ((e >>= fun _ => (pure .skip : Sem Next)).run P w) := onlyV_bind e _ w fun _ _ => rfl
theorem plain_only (ρ : Operand → Value) (o : Oper) (w : World) (h : plainOp o.op = true) : onlyV ((execOp ρ o).run P w) := by
  obtain ⟨dst, op, type, pos, after, guard⟩ := o
  cases op
  case call c =>
    obtain ⟨callee, args, ats⟩ := c
    cases callee with
    | value f => simp [plainOp] at h
    | invoke r m => simp [plainOp] at h
    | builtin b =>
      rw [BigFrame.execOp_builtin]
      cases b <;> first | (simp [plainOp] at h; done) | exact onlyV_v _ w
  case go c => simp [plainOp] at h
  case defer c => simp [plainOp] at h
  case send c x => simp [plainOp] at h
  case recv c x y => simp [plainOp] at h
  case select c b => simp [plainOp] at h
  case nilCheck x =>
    simp only [execOp]
    split
    · exact onlyV_bind _ _ w fun _ _ => trivial
    · exact onlyV_bind _ _ w fun _ _ => trivial
    · exact onlyV_bind _ _ w fun _ _ => trivial
    · split
      · exact onlyV_bind _ _ w fun _ _ => trivial
      · refine onlyV_bind _ _ w fun _ w' => onlyV_bind _ _ w' fun _ w'' => ?_
        split
        · exact trivial
        · rfl
      · rfl
    · rfl
  all_goals first | rfl | exact onlyV_v _ w | exact onlyV_u _ w | (simp only [execOp]; exact onlyV_bind _ _ w fun _ _ => rfl)
theorem Same.of_wp {o : Oper} {a : Act} {w : World} {v : Value} {d : Tmp} (hp : plainOp o.op = true) (hd : o.dst = some d) (hlt : d < a.tmps.size)
    (h : ∀ (K : Act → World → Prop) (Q : Exit → Act → World → Prop), K (a.put o.dst v) w → o.wp P a w K Q) : Same P o a w v := by
  have h1 := h (fun x w' => x.tmps.getD d undef = v ∧ w' = w) (fun _ _ _ => False) (by rw [hd]; simp [Act.put, hlt])
  have hg : ∀ v, ((a.put o.dst v).tmps).getD d undef = v := fun v => by rw [hd]; simp [Act.put, hlt]
  have ho := plain_only (P := P) a.eval o w hp
  unfold Same
  unfold Oper.wp at h1
  generalize (execOp a.eval o).run P w = r at *
  cases r with
  | ok n w' =>
    cases n <;> simp only [onlyV, Next.isV] at ho <;> simp only [Oper.upon, hg] at h1
    case value u => exact ⟨h1.2, h1.1⟩
    case skip => exact ⟨h1.2, h1.1.symm⟩
    all_goals cases ho
  | halt x w' => cases x <;> simp only [Oper.upon] at h1

theorem aft_mid {i : Nat} (h : i + 1 ≠ ops.size) {w : World} (hC : C w) : Aft ops C D i w := ⟨fun e => absurd e h, fun _ => hC⟩
theorem rem_mid {i : Nat} (h : i + 1 ≠ ops.size) : Rem ops C D i := fun e => absurd e h
theorem aft_same {i : Nat} {w : World} (hC : C w) : Aft ops C C i w := ⟨fun _ => hC, fun _ => hC⟩

section steps
variable {i : Nat} {o : Oper} {rest : List Oper} {ss : List Sp} {a : Act} {X : World → Prop} {F : List (Nat × (World → Prop))}
theorem gen_q {v : Value} (hw : Region.wanted o (yielded ops a.tmps) = true)
    (h : ∀ w, C w → Same P o a w v) (k : Gen P ops C C L R Q (i + 1) rest ss (a.put o.dst v) X F) : Gen P ops C C L R Q i (o :: rest) (.q :: ss) a X F := by
  simp only [Gen]; rw [if_pos hw]; exact ⟨v, h, fun _ _ h => h, k⟩
theorem gen_skip {s : Sp} (hw : Region.wanted o (yielded ops a.tmps) = false)
    (k : Gen P ops C C L R Q (i + 1) rest ss (a.put o.dst undef) X F) : Gen P ops C C L R Q i (o :: rest) (s :: ss) a X F := by
  simp only [Gen]; rw [if_neg (by rw [hw]; simp)]; exact ⟨fun _ _ h => h, k⟩
theorem gen_l {p : Value → Prop} {φ : Value → World → Prop} (hw : Region.wanted o (yielded ops a.tmps) = true)
    (h1 : ∃ v, p v) (h2 : ∀ v w w', φ v w → R w w' → φ v w')
    (h : ∀ w, C w → (∀ x ∈ F, needs o x.1 = true → x.2 w) → Loud P o a w (fun v w' => C w' ∧ L w w' ∧ p v ∧ φ v w'))
    (k : ∀ v, p v → Gen P ops C C L R Q (i + 1) rest ss (a.put o.dst v) X ((i, φ v) :: F)) : Gen P ops C C L R Q i (o :: rest) (.l p φ :: ss) a X F := by
  simp only [Gen]; rw [if_pos hw]; exact ⟨h1, h2, fun w hC hF => (h w hC hF).mono fun _ _ h => ⟨aft_same h.1, h.2⟩, k⟩
theorem gen_c {p : Value → Prop} {X' : Value → World → Prop} (hw : Region.wanted o (yielded ops a.tmps) = true)
    (h1 : ∃ v, p v) (h2 : ∀ v w w', X' v w → L w w' → X' v w')
    (h : ∀ w, C w → X w → (∀ x ∈ F, needs o x.1 = true → x.2 w) → Loud P o a w (fun v w' => C w' ∧ R w w' ∧ p v ∧ X' v w'))
    (k : ∀ v, p v → Gen P ops C C L R Q (i + 1) rest ss (a.put o.dst v) (X' v) F) : Gen P ops C C L R Q i (o :: rest) (.c p X' :: ss) a X F := by
  simp only [Gen]; rw [if_pos hw]; exact ⟨h1, h2, fun w hC hX hF => (h w hC hX hF).mono fun _ _ h => ⟨aft_same h.1, h.2⟩, k⟩
theorem gen_nil (h : ∀ w, D w → X w → (∀ x ∈ F, x.2 w) → Q a w) : Gen P ops C D L R Q i [] ss a X F := by
  simp only [Gen]; exact h
/- The same where the last operation parts from what held. -/
theorem gent_q {v : Value} (hi : (i + 1 == ops.size) = false) (hw : Region.wanted o (yielded ops a.tmps) = true)
    (h : ∀ w, C w → Same P o a w v) (k : Gen P ops C D L R Q (i + 1) rest ss (a.put o.dst v) X F) : Gen P ops C D L R Q i (o :: rest) (.q :: ss) a X F := by
  simp only [Gen]; rw [if_pos hw]; exact ⟨v, h, rem_mid (by simpa using hi), k⟩
theorem gent_skip {s : Sp} (hi : (i + 1 == ops.size) = false) (hw : Region.wanted o (yielded ops a.tmps) = false)
    (k : Gen P ops C D L R Q (i + 1) rest ss (a.put o.dst undef) X F) : Gen P ops C D L R Q i (o :: rest) (s :: ss) a X F := by
  simp only [Gen]; rw [if_neg (by rw [hw]; simp)]; exact ⟨rem_mid (by simpa using hi), k⟩
theorem gent_l {p : Value → Prop} {φ : Value → World → Prop} (hi : (i + 1 == ops.size) = false) (hw : Region.wanted o (yielded ops a.tmps) = true)
    (h1 : ∃ v, p v) (h2 : ∀ v w w', φ v w → R w w' → φ v w')
    (h : ∀ w, C w → (∀ x ∈ F, needs o x.1 = true → x.2 w) → Loud P o a w (fun v w' => C w' ∧ L w w' ∧ p v ∧ φ v w'))
    (k : ∀ v, p v → Gen P ops C D L R Q (i + 1) rest ss (a.put o.dst v) X ((i, φ v) :: F)) : Gen P ops C D L R Q i (o :: rest) (.l p φ :: ss) a X F := by
  simp only [Gen]; rw [if_pos hw]; exact ⟨h1, h2, fun w hC hF => (h w hC hF).mono fun _ _ h => ⟨aft_mid (by simpa using hi) h.1, h.2⟩, k⟩
theorem gent_c {p : Value → Prop} {X' : Value → World → Prop} (hi : (i + 1 == ops.size) = false) (hw : Region.wanted o (yielded ops a.tmps) = true)
    (h1 : ∃ v, p v) (h2 : ∀ v w w', X' v w → L w w' → X' v w')
    (h : ∀ w, C w → X w → (∀ x ∈ F, needs o x.1 = true → x.2 w) → Loud P o a w (fun v w' => C w' ∧ R w w' ∧ p v ∧ X' v w'))
    (k : ∀ v, p v → Gen P ops C D L R Q (i + 1) rest ss (a.put o.dst v) (X' v) F) : Gen P ops C D L R Q i (o :: rest) (.c p X' :: ss) a X F := by
  simp only [Gen]; rw [if_pos hw]; exact ⟨h1, h2, fun w hC hX hF => (h w hC hX hF).mono fun _ _ h => ⟨aft_mid (by simpa using hi) h.1, h.2⟩, k⟩
/-- The last operation. -/
theorem gent_last {p : Value → Prop} {X' : Value → World → Prop} (hi : (i + 1 == ops.size) = true) (hw : Region.wanted o (yielded ops a.tmps) = true)
    (h1 : ∃ v, p v) (h2 : ∀ v w w', X' v w → L w w' → X' v w')
    (h : ∀ w, C w → X w → (∀ x ∈ F, needs o x.1 = true → x.2 w) → Loud P o a w (fun v w' => D w' ∧ R w w' ∧ p v ∧ X' v w'))
    (k : ∀ v, p v → Gen P ops C D L R Q (i + 1) rest ss (a.put o.dst v) (X' v) F) : Gen P ops C D L R Q i (o :: rest) (.c p X' :: ss) a X F := by
  simp only [Gen]; rw [if_pos hw]
  exact ⟨h1, h2, fun w hC hX hF => (h w hC hX hF).mono fun _ _ h => ⟨⟨fun _ => h.1, fun e => absurd (by simpa using hi) e⟩, h.2⟩, k⟩
end steps
end main
end
attribute [go_sem] Same
end Go.Proofs.YtbenjjaofabdcaaGreatDoor
