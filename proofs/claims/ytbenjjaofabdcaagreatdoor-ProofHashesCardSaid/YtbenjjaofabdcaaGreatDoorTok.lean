/-
  Regions that draw their order, by pieces of memory: each operation is told which pieces it reads, which it takes and which it leaves; one walk in the order of the text serves every order.
-/
import Derived.Test.YtbenjjaofabdcaaGreatDoorRegion
import Derived.Test.YtbenjjaofabdcaaGreatDoorShaC
import Derived.CheckFast
import Derived.RangeFuncSeq
import Derived.OrdersIn
namespace Go.Proofs.YtbenjjaofabdcaaGreatDoor
open Go Go.RowKit

/-! ### One operation, a yield among them, in a fence without walls -/
def loudR (P : Program) (post : Value → World → Prop) : Result Next → Prop
  | .ok (.value v) w' => post v w'
  | .ok .skip w' => post undef w'
  | .ok (.enter f args) w' => Calls P f args w' (fun e w'' => ∃ v, e = .returned v ∧ post v w'')
  | .ok (.row row args) w' => Rows P row args w' post
  | .ok (.round l f tmps assign body) w' => RoundIn Fence.wide 0 P l f tmps assign body w' (fun e w'' => ∃ v, e = .returned v ∧ post v w'')
  | _ => False
def LoudR (P : Program) (o : Oper) (a : Act) (w : World) (post : Value → World → Prop) : Prop := loudR P post ((execOp a.eval o).run P w)
theorem Loud.r {P : Program} {o : Oper} {a : Act} {w : World} {post : Value → World → Prop} (h : Loud P o a w post) : LoudR P o a w post := by
  unfold Loud at h
  unfold LoudR
  generalize (execOp a.eval o).run P w = r at *
  cases r with
  | ok n w' => cases n <;> first | exact h | exact h.elim
  | halt x w' => exact h.elim
theorem LoudR.congr {P : Program} {o : Oper} {a a' : Act} {w : World} {post : Value → World → Prop} (he : execOp a'.eval o = execOp a.eval o) (h : LoudR P o a w post) : LoudR P o a' w post := by
  unfold LoudR at *; rw [he]; exact h
/-- No walls; perhaps in a round. -/
def OpenF (F : Fence) : Prop := F = Fence.wide ∨ ∃ l, F = Fence.wide.inRound l
theorem OpenF.fn {F : Fence} (h : OpenF F) (f : FuncId) : F.fn f := by rcases h with rfl | ⟨l, rfl⟩ <;> trivial
theorem OpenF.depth {F : Fence} (h : OpenF F) : ¬ F.depth.isSome = true := by rcases h with rfl | ⟨l, rfl⟩ <;> simp [Fence.wide, Fence.inRound]
theorem OpenF.calls {F : Fence} (h : OpenF F) {n : Nat} {P : Program} {f : FuncId} {args : Array Value} {w : World} {R : Ending → World → Prop} (hc : Calls P f args w R) : CallsIn F n P f args w R := by
  have h1 := (callsIn_wide (n := n)).2 hc
  rcases h with rfl | ⟨l, rfl⟩ <;> exact h1
theorem OpenF.rows {F : Fence} (h : OpenF F) {n : Nat} {P : Program} {row : String} {args : Array Value} {w : World} {R : Value → World → Prop} (hc : Rows P row args w R) : RowsIn F n P row args w R := by
  have h1 : RowsIn Fence.wide n P row args w R := fun c cs _ => let ⟨v, w', r, s⟩ := hc c cs; ⟨v, w', r, stepsIn_wide.2 s⟩
  rcases h with rfl | ⟨l, rfl⟩ <;> exact h1
theorem OpenF.round {F : Fence} (h : OpenF F) {n : Nat} {P : Program} {l : Nat} {f : FuncId} {tmps : Array Value} {assign body : Code} {w : World} {R : Ending → World → Prop} (hc : RoundIn Fence.wide 0 P l f tmps assign body w R) : RoundIn F n P l f tmps assign body w R := by
  have h1 : RoundIn Fence.wide n P l f tmps assign body w R := ⟨hc.1, fun c cs _ => hc.2 c cs (room_wide _)⟩
  rcases h with rfl | ⟨l, rfl⟩ <;> exact h1
theorem semAt_open {F : Fence} {o : Oper} {ρ : Operand → Value} (hD : F.round = none ∨ ∀ c, o.op ≠ .defer c) : o.semAt F.round ρ = execOp ρ o := by
  rcases hD with h | h
  · rw [h]; rfl
  · exact Oper.semAt_eq _ _ _ h
theorem LoudR.wpIn {F : Fence} (hF : OpenF F) {n : Nat} {P : Program} {o : Oper} (hD : F.round = none ∨ ∀ c, o.op ≠ .defer c) {a : Act} {w : World} {post : Value → World → Prop} {K : Act → World → Prop} {Q : Exit → Act → World → Prop} (h : LoudR P o a w post)
    (hk : ∀ v w', post v w' → K (a.put o.dst v) w') : o.wpIn F n P a w K Q := by
  refine ⟨fun f _ => hF.fn f, ?_⟩
  rw [semAt_open hD]
  unfold LoudR at h
  generalize (execOp a.eval o).run P w = r at *
  cases r with
  | ok m w' =>
    cases m <;> simp only [loudR] at h <;> simp only [Oper.uponIn]
    case value v => exact hk _ _ h
    case skip => exact hk _ _ h
    case enter f args => exact ⟨fun h => absurd h hF.depth, hF.calls (h.mono fun e w'' ⟨v, he, hp⟩ => by subst he; exact hk _ _ hp)⟩
    case row row args => exact ⟨fun h => absurd h hF.depth, hF.rows (Rows.mono h fun v w'' hp => hk _ _ hp)⟩
    case round l f tmps assign body => exact ⟨fun h => absurd h hF.depth, hF.round (h.mono fun e w'' ⟨v, he, hp⟩ => by subst he; exact hk _ _ hp)⟩
  | halt x w' => exact h.elim
theorem Same.wpIn {F : Fence} (hF : OpenF F) {n : Nat} {P : Program} {o : Oper} (hD : F.round = none ∨ ∀ c, o.op ≠ .defer c) {a : Act} {w : World} {v : Value} {K : Act → World → Prop} {Q : Exit → Act → World → Prop} (h : Same P o a w v) (hk : K (a.put o.dst v) w) : o.wpIn F n P a w K Q := by
  refine ⟨fun f _ => hF.fn f, ?_⟩
  rw [semAt_open hD]
  unfold Same at h
  generalize (execOp a.eval o).run P w = r at *
  cases r with
  | ok m w' =>
    cases m <;> simp only at h <;> simp only [Oper.uponIn]
    case value u => obtain ⟨rfl, rfl⟩ := h; exact hk
    case skip => obtain ⟨rfl, rfl⟩ := h; exact hk
  | halt x w' => exact h.elim

/-- What is told of a piece of memory. -/
structure Asn where
  fp : Nat → Prop
  holds : World → Prop
  loc : ∀ {w w' : World}, holds w → (∀ k, fp k → w'.heap[k]? = w.heap[k]?) → holds w'
  lt : ∀ {w : World}, holds w → ∀ k, fp k → k < w.heap.size

/-- A value, and where it lies, where that is not to be seen from it. -/
abbrev GV := Value × (Nat → Prop)
def gq (v : Value) : GV := (v, fun _ => False)
/-- A piece, in a region: which operation leaves it (none: it is there), which one takes it, which ones read it; of whose values it tells. -/
structure Tok where
  prod : Option Nat
  cons : Option Nat
  rds : List Nat
  deps : List Nat
  asn : List GV → Asn
def Tok.at_ (t : Tok) (val : Nat → GV) : Asn := t.asn (t.deps.map val)
def Tok.used (t : Tok) (j : Nat) : Prop := j ∈ t.rds ∨ t.cons = some j
inductive OSp where
  | q
  | v (deps : List Nat) (p : List GV → GV → Prop)
def OSp.isQ : OSp → Bool
  | .q => true
  | _ => false

section
variable {P : Program}
/-- Who has come up ahead of whom, for sure. -/
inductive Anc (ops : Array Oper) : Nat → Nat → Prop
  | one {j : Nat} {o : Oper} {e : Edge} : ops[j]? = some o → e ∈ o.after → Region.binds .any e = true → Anc ops j e.on
  | more {j i : Nat} {o : Oper} {e : Edge} : ops[j]? = some o → e ∈ o.after → Region.binds .any e = true → Anc ops e.on i → Anc ops j i
variable {ops : Array Oper}
def Closed (ops : Array Oper) (listed : Array Bool) : Prop := ∀ (j : Nat) (oj : Oper), ops[j]? = some oj → listed.getD j false = true → ∀ e ∈ oj.after, Region.binds .any e = true → listed.getD e.on false = true
def Back (ops : Array Oper) : Prop := ∀ (j : Nat) (oj : Oper), ops[j]? = some oj → ∀ e ∈ oj.after, Region.binds .any e = true → e.on < j
theorem Anc.listed {listed : Array Bool} (hc : Closed ops listed) {j i : Nat} (h : Anc ops j i) : listed.getD j false = true → listed.getD i false = true := by
  induction h with
  | one ho he hb => exact fun hj => hc _ _ ho hj _ he hb
  | more ho he hb _ ih => exact fun hj => ih (hc _ _ ho hj _ he hb)
theorem Anc.ready {listed : Array Bool} (hc : Closed ops listed) {j i : Nat} {o : Oper} (ho : ops[j]? = some o) (hrd : ∀ e ∈ o.after, Region.binds .any e = true → listed.getD e.on false = true) (h : Anc ops j i) : listed.getD i false = true := by
  cases h with
  | one ho' he hb => obtain rfl := Option.some.inj (ho.symm.trans ho'); exact hrd _ he hb
  | more ho' he hb h => obtain rfl := Option.some.inj (ho.symm.trans ho'); exact h.listed hc (hrd _ he hb)
theorem Anc.lt (hb : Back ops) {j i : Nat} (h : Anc ops j i) : i < j := by
  induction h with
  | one ho he hb' => exact hb _ _ ho _ he hb'
  | more ho he hb' _ ih => exact Nat.lt_trans ih (hb _ _ ho _ he hb')
theorem Anc.trans {j m i : Nat} (h : Anc ops j m) (h2 : Anc ops m i) : Anc ops j i := by
  induction h with
  | one ho he hb => exact .more ho he hb h2
  | more ho he hb _ ih => exact .more ho he hb (ih h2)

/-- The masks of who comes ahead. -/
theorem one_spec (look : Nat → Nat) (o : Oper) (i : Nat) (h : (CheckFast.one look o).testBit i = true) : ∃ e ∈ o.after, Region.binds .any e = true ∧ (e.on = i ∨ (look e.on).testBit i = true) := by
  unfold CheckFast.one at h
  rw [← Array.foldl_toList] at h
  have key : ∀ (l : List Edge) (s : Nat), (l.foldl (fun s e => if Region.binds .any e then s ||| 2 ^ e.on ||| look e.on else s) s).testBit i = true → s.testBit i = true ∨ ∃ e ∈ l, Region.binds .any e = true ∧ (e.on = i ∨ (look e.on).testBit i = true) := by
    intro l
    induction l with
    | nil => exact fun s h => .inl h
    | cons e r ih =>
      intro s h
      rw [List.foldl_cons] at h
      rcases ih _ h with h | ⟨e', h1, h2⟩
      · split at h
        · rename_i hb
          rw [Nat.testBit_or, Nat.testBit_or, Bool.or_eq_true, Bool.or_eq_true] at h
          rcases h with (h | h) | h
          · exact .inl h
          · rw [Nat.testBit_two_pow] at h
            exact .inr ⟨e, by simp, hb, .inl (by simpa using h)⟩
          · exact .inr ⟨e, by simp, hb, .inr h⟩
        · exact .inl h
      · exact .inr ⟨e', List.mem_cons_of_mem _ h1, h2⟩
  rcases key _ _ h with h | ⟨e, h1, h2⟩
  · simp at h
  · exact ⟨e, by simpa using h1, h2⟩
theorem before_spec : ∀ (l : List Oper) (A : Array Nat), (∀ j : Nat, l[j]? = ops[A.size + j]?) → (∀ j i, (A.getD j 0).testBit i = true → Anc ops j i) →
    ∀ j i, ((l.foldl (fun acc o => acc.push (CheckFast.one (fun i => acc.getD i 0) o)) A).getD j 0).testBit i = true → Anc ops j i
  | [], A, _, hA => hA
  | o :: l, A, hl, hA => by
    rw [List.foldl_cons]
    refine before_spec l _ (fun j => ?_) (fun j i h => ?_)
    · have := hl (j + 1)
      simp only [Array.size_push]
      rw [show A.size + 1 + j = A.size + (j + 1) by omega, ← this]
      rfl
    · by_cases hj : j = A.size
      · subst hj
        have ho : ops[A.size]? = some o := by have := hl 0; simpa using this.symm
        rw [Array.getD_eq_getD_getElem?, Array.getElem?_push_size, Option.getD_some] at h
        obtain ⟨e, he, hb, h1⟩ := one_spec _ _ _ h
        rcases h1 with h1 | h1
        · subst h1; exact .one ho he hb
        · exact .more ho he hb (hA _ _ h1)
      · rw [Array.getD_eq_getD_getElem?, Array.getElem?_push, if_neg hj, ← Array.getD_eq_getD_getElem?] at h
        exact hA _ _ h
def masks (l : List Oper) : Array Nat := CheckFast.beforeF l.toArray
theorem masks_spec (l : List Oper) (j i : Nat) (h : ((masks l).getD j 0).testBit i = true) : Anc l.toArray j i := by
  unfold masks at h
  rw [CheckFast.beforeF_eq] at h
  have h2 := before_spec (ops := l.toArray) l #[] (fun j => by simp) (fun j i h => by simp at h)
  refine h2 j i ?_
  unfold Region.before at h
  rw [← Array.foldl_toList] at h
  exact h

/-- The shape that serves. -/
structure Ord2 (ops : Array Oper) : Prop where
  sel : ∀ (j : Nat) (o : Oper) cs b, ops[j]? = some o → o.op ≠ .select cs b
  back : Back ops
  pair : ∀ (i j : Nat) (oi oj : Oper), i < j → ops[i]? = some oi → ops[j]? = some oj → Anc ops j i ∨ oi.apart ops oj = true
structure TokOk (ops : Array Oper) (specs : List OSp) (t : Tok) : Prop where
  p : ∀ p, t.prod = some p → p < ops.size ∧ (specs[p]?).map OSp.isQ = some false
  rd : ∀ r ∈ t.rds, ∀ p, t.prod = some p → Anc ops r p
  c : ∀ c, t.cons = some c → c < ops.size ∧ (specs[c]?).map OSp.isQ = some false ∧ (∀ p, t.prod = some p → Anc ops c p) ∧ ∀ r ∈ t.rds, Anc ops c r
  dp : ∀ d ∈ t.deps, ∃ p, t.prod = some p ∧ (d = p ∨ Anc ops p d)
def SpecOk (ops : Array Oper) (specs : List OSp) : Prop := ∀ (j : Nat) ds p, specs[j]? = some (.v ds p) → ∀ d ∈ ds, Anc ops j d
def ancB (m : Array Nat) (j i : Nat) : Bool := (m.getD j 0).testBit i
def tokB (n : Nat) (m : Array Nat) (specs : List OSp) (t : Tok) : Bool :=
  (match t.prod with | none => t.deps.isEmpty | some p => decide (p < n) && (specs[p]?).map OSp.isQ == some false && t.rds.all (fun r => ancB m r p) && t.deps.all (fun d => d == p || ancB m p d)) &&
  (match t.cons with | none => true | some c => decide (c < n) && (specs[c]?).map OSp.isQ == some false && (match t.prod with | none => true | some p => ancB m c p) && t.rds.all (fun r => ancB m c r))
def specB (m : Array Nat) : Nat → List OSp → Bool
  | _, [] => true
  | j, .q :: r => specB m (j + 1) r
  | j, .v ds _ :: r => ds.all (fun d => ancB m j d) && specB m (j + 1) r
def backB : Nat → List Oper → Bool
  | _, [] => true
  | j, o :: r => o.after.all (fun e => !Region.binds .any e || decide (e.on < j)) && backB (j + 1) r
def pairB (ops : Array Oper) (m : Array Nat) : Nat → List Oper → Bool
  | _, [] => true
  | i, o :: r => ((r.zipIdx (i + 1)).all fun x => ancB m x.2 i || o.apart ops x.1) && pairB ops m (i + 1) r
def drawB (l : List Oper) (m : Array Nat) (specs : List OSp) (toks : List Tok) : Bool :=
  Region.noSelect l.toArray && backB 0 l && pairB l.toArray m 0 l && specB m 0 specs && toks.all (tokB l.length m specs)

theorem backB_spec : ∀ (l : List Oper) (n : Nat), backB n l = true → ∀ (j : Nat) (o : Oper), l[j]? = some o → ∀ e ∈ o.after, Region.binds .any e = true → e.on < n + j
  | [], _, _, j, o, h => by simp at h
  | o' :: r, n, hB, j, o, h => by
    simp only [backB, Bool.and_eq_true] at hB
    intro e he hb
    rcases j with _ | j
    · obtain rfl : o' = o := by simpa using h
      have := Array.all_eq_true'.1 hB.1 e he
      simpa [hb] using this
    · have := backB_spec r (n + 1) hB.2 j o (by simpa using h) e he hb
      omega
theorem pairB_spec {m : Array Nat} (hm : ∀ j i, ancB m j i = true → Anc ops j i) : ∀ (l : List Oper) (n : Nat), pairB ops m n l = true → ∀ (i j : Nat) (oi oj : Oper), i < j → l[i]? = some oi → l[j]? = some oj → Anc ops (n + j) (n + i) ∨ oi.apart ops oj = true
  | [], _, _, i, j, oi, oj, _, h, _ => by simp at h
  | o' :: r, n, hB, i, j, oi, oj, hij, hi, hj => by
    simp only [pairB, Bool.and_eq_true] at hB
    rcases j with _ | j
    · omega
    rcases i with _ | i
    · obtain rfl : o' = oi := by simpa using hi
      have hj' : r[j]? = some oj := by simpa using hj
      have hmem : (oj, n + 1 + j) ∈ r.zipIdx (n + 1) := by
        rw [List.mk_mem_zipIdx_iff_le_and_getElem?_sub]
        rw [show n + 1 + j - (n + 1) = j by omega]
        exact ⟨by omega, hj'⟩
      have := List.all_eq_true.1 hB.1 _ hmem
      simp only [Bool.or_eq_true] at this
      rcases this with h | h
      · exact .inl (by have := hm _ _ h; rwa [show n + 1 + j = n + (j + 1) by omega] at this)
      · exact .inr h
    · have := pairB_spec hm r (n + 1) hB.2 i j oi oj (by omega) (by simpa using hi) (by simpa using hj)
      rwa [show n + 1 + j = n + (j + 1) by omega, show n + 1 + i = n + (i + 1) by omega] at this
theorem specB_spec {m : Array Nat} (hm : ∀ j i, ancB m j i = true → Anc ops j i) : ∀ (l : List OSp) (n : Nat), specB m n l = true → ∀ (j : Nat) ds p, l[j]? = some (.v ds p) → ∀ d ∈ ds, Anc ops (n + j) d
  | [], _, _, j, ds, p, h => by simp at h
  | s :: r, n, hB, j, ds, p, h => by
    intro d hd
    rcases j with _ | j
    · obtain rfl : s = .v ds p := by simpa using h
      simp only [specB, Bool.and_eq_true] at hB
      exact hm _ _ (List.all_eq_true.1 hB.1 d hd)
    · have hr : specB m (n + 1) r = true := by
        cases s with
        | q => exact hB
        | v ds' p' => simp only [specB, Bool.and_eq_true] at hB; exact hB.2
      have := specB_spec hm r (n + 1) hr j ds p (by simpa using h) d hd
      rwa [show n + 1 + j = n + (j + 1) by omega] at this
theorem tokB_spec {m : Array Nat} (hm : ∀ j i, ancB m j i = true → Anc ops j i) {specs : List OSp} {t : Tok} (h : tokB ops.size m specs t = true) : TokOk ops specs t := by
  obtain ⟨pr, co, rds, deps, asn⟩ := t
  unfold tokB at h
  rw [Bool.and_eq_true] at h
  obtain ⟨h1, h2⟩ := h
  refine ⟨?_, ?_, ?_, ?_⟩
  · rintro p rfl
    simp only [Bool.and_eq_true, decide_eq_true_eq, beq_iff_eq] at h1
    exact ⟨h1.1.1.1, h1.1.1.2⟩
  · rintro r hr p rfl
    simp only [Bool.and_eq_true] at h1
    exact hm _ _ (List.all_eq_true.1 h1.1.2 r hr)
  · rintro c rfl
    simp only [Bool.and_eq_true, decide_eq_true_eq, beq_iff_eq] at h2
    refine ⟨h2.1.1.1, h2.1.1.2, ?_, fun r hr => hm _ _ (List.all_eq_true.1 h2.2 r hr)⟩
    rintro p rfl
    exact hm _ _ h2.1.2
  · intro d hd
    cases pr with
    | none => simp only [List.isEmpty_iff] at h1; subst h1; cases hd
    | some p =>
      simp only [Bool.and_eq_true] at h1
      have := List.all_eq_true.1 h1.2 d hd
      simp only [Bool.or_eq_true, beq_iff_eq] at this
      exact ⟨p, rfl, this.imp id (hm _ _)⟩
theorem draw_of (l : List Oper) (specs : List OSp) (toks : List Tok) (h : drawB l (masks l) specs toks = true) : Ord2 l.toArray ∧ SpecOk l.toArray specs ∧ ∀ t ∈ toks, TokOk l.toArray specs t := by
  unfold drawB at h
  simp only [Bool.and_eq_true] at h
  obtain ⟨⟨⟨⟨h1, h2⟩, h3⟩, h4⟩, h5⟩ := h
  have hm : ∀ j i, ancB (masks l) j i = true → Anc l.toArray j i := fun j i h => masks_spec l j i h
  refine ⟨⟨Region.noSelect_spec h1, fun j oj hj e he hb => ?_, fun i j oi oj hij hi hj => ?_⟩, fun j ds p hs d hd => ?_, fun t ht => ?_⟩
  · have := backB_spec l 0 h2 j oj (by simpa using hj) e he hb
    omega
  · have := pairB_spec hm l 0 h3 i j oi oj hij (by simpa using hi) (by simpa using hj)
    simpa using this
  · have := specB_spec hm specs 0 h4 j ds p hs d hd
    simpa using this
  · exact tokB_spec hm (by simpa using List.all_eq_true.1 h5 t ht)

/-! ### The walk -/
def vs (val : Nat → GV) (i : Nat) : Value := (val i).1
theorem vs_other (val : Nat → GV) (i j : Nat) (g : GV) (h : j ≠ i) : vs (upd val i g) j = vs val j := by unfold vs; rw [upd_other _ _ _ _ h]
theorem vs_same (val : Nat → GV) (i : Nat) (g : GV) : vs (upd val i g) i = g.1 := by unfold vs; rw [upd_same]
variable (toks : List Tok)
def Apart (ps : Tok → Prop) (val : Nat → GV) : Prop := ∀ (x y : Nat) (t u : Tok), toks[x]? = some t → toks[y]? = some u → x ≠ y → ps t → ps u → ∀ k, (t.at_ val).fp k → ¬ (u.at_ val).fp k
structure Ins (C : World → Prop) (toks : List Tok) (j : Nat) (val : Nat → GV) (w : World) : Prop where
  frame : C w
  holds : ∀ t ∈ toks, t.used j → (t.at_ val).holds w
  apart : Apart toks (fun t => t.used j) val
def CF (j : Nat) (val : Nat → GV) (k : Nat) : Prop := ∃ t ∈ toks, t.cons = some j ∧ (t.at_ val).fp k
structure Outs (j : Nat) (val : Nat → GV) (w w' : World) : Prop where
  keep : Kp (CF toks j val) w w'
  holds : ∀ t ∈ toks, t.prod = some j → (t.at_ val).holds w' ∧ ∀ k, (t.at_ val).fp k → CF toks j val k ∨ w.heap.size ≤ k
  apart : Apart toks (fun t => t.prod = some j) val
variable (P ops) (C : World → Prop) in
/-- THE WALK IN THE ORDER OF THE TEXT. -/
def Walk (Q : Act → (Nat → GV) → Prop) : Nat → List Oper → List OSp → (Nat → GV) → Act → Prop
  | _, [], _, val, a => Q a val
  | _, _ :: _, [], _, _ => False
  | i, o :: rest, s :: ss, val, a =>
    if Region.wanted o (yielded ops a.tmps) = true then
      match s with
      | .q => ∃ v, (∀ w, Ins C toks i val w → Same P o a w v) ∧ Walk Q (i + 1) rest ss (upd val i (gq v)) (a.put o.dst v)
      | .v ds p => (∃ g, p (ds.map val) g) ∧ (∀ w, Ins C toks i val w → LoudR P o a w fun v w' => ∃ g, g.1 = v ∧ p (ds.map val) g ∧ Outs toks i (upd val i g) w w') ∧
          ∀ g, p (ds.map val) g → Walk Q (i + 1) rest ss (upd val i g) (a.put o.dst g.1)
    else (∀ t ∈ toks, t.prod ≠ some i ∧ t.cons ≠ some i) ∧ Walk Q (i + 1) rest ss (upd val i (gq undef)) (a.put o.dst undef)

theorem at_congr {t : Tok} {val val' : Nat → GV} (h : ∀ d ∈ t.deps, val d = val' d) : t.at_ val = t.at_ val' := by
  unfold Tok.at_; rw [List.map_congr_left h]

variable {specs : List OSp} {a0 : Act}
def Con (P : Program) (ops : Array Oper) (C : World → Prop) (toks : List Tok) (specs : List OSp) (a0 : Act) (val : Nat → GV) (k : Nat) : Prop :=
  ∀ o s, ops[k]? = some o → specs[k]? = some s →
    if Region.wanted o (yielded ops (T ops a0 (vs val) k).tmps) = true then
      match s with
      | .q => (∃ w, Ins C toks k val w ∧ Same P o (T ops a0 (vs val) k) w (val k).1) ∧ val k = gq (val k).1
      | .v ds p => p (ds.map val) (val k)
    else val k = gq undef
def Avail (listed : Array Bool) (t : Tok) : Prop := (∀ p, t.prod = some p → listed.getD p false = true) ∧ ∀ c, t.cons = some c → listed.getD c false = false
def IFp (toks : List Tok) (k : Nat) : Prop := ∃ t ∈ toks, t.prod = none ∧ (t.asn []).fp k
structure Inv2 (P : Program) (ops : Array Oper) (C : World → Prop) (toks : List Tok) (specs : List OSp) (a0 : Act) (wS : World) (val : Nat → GV) (listed : Array Bool) (a : Act) (w : World) : Prop where
  size : listed.size = ops.size
  closed : Closed ops listed
  cons : ∀ k, listed.getD k false = true → Con P ops C toks specs a0 val k
  act : a = rep ops a0 (vs val) (fun k => listed.getD k false) ops.size
  holds : ∀ t ∈ toks, Avail listed t → (t.at_ val).holds w
  apart : Apart toks (Avail listed) val
  keep : Kp (IFp toks) wS w
  own : ∀ t ∈ toks, Avail listed t → ∀ k, (t.at_ val).fp k → IFp toks k ∨ wS.heap.size ≤ k

theorem Same.uniq {o : Oper} {a : Act} {w : World} {u v : Value} (h1 : Same P o a w u) (h2 : Same P o a w v) : u = v := by
  unfold Same at h1 h2
  generalize (execOp a.eval o).run P w = r at *
  cases r with
  | ok n w' => cases n <;> simp only at h1 h2 <;> first | exact h1.2.symm.trans h2.2 | exact h1.2.trans h2.2.symm | exact h1.elim
  | halt x w' => exact h1.elim

variable {toks} {C : World → Prop}
theorem Ins.congr {j : Nat} {val val' : Nat → GV} {w : World} (h : ∀ t ∈ toks, t.used j → t.at_ val = t.at_ val') (hi : Ins C toks j val w) : Ins C toks j val' w :=
  ⟨hi.frame, fun t ht hu => by rw [← h t ht hu]; exact hi.holds t ht hu, fun x y t u hx hy hxy ht hu k => by
    rw [← h t (List.mem_of_getElem? hx) ht, ← h u (List.mem_of_getElem? hy) hu]; exact hi.apart x y t u hx hy hxy ht hu k⟩

section sound2
variable (hO : Ord2 ops) (hSp : SpecOk ops specs) (hT : ∀ t ∈ toks, TokOk ops specs t)
include hO
theorem ag2 {val val' : Nat → GV} {listed : Array Bool} (hc : Closed ops listed) {j : Nat} {o : Oper} (ho : ops[j]? = some o) (hrd : ∀ i, Anc ops j i → listed.getD i false = true)
    (hv : ∀ i, i < j → listed.getD i false = true → val i = val' i) : Ag (o.looksAt ops) (T ops a0 (vs val) j) (T ops a0 (vs val') j) := by
  have hj : j < ops.size := (Array.getElem?_eq_some_iff.1 ho).1
  refine rep_ag _ fun i hi => ?_
  have hoi : ops[i]? = some ops[i] := by simp
  by_cases hli : listed.getD i false = true
  · exact .inl ⟨rfl, fun _ => congrArg Prod.fst (hv i hi hli)⟩
  · refine .inr fun d hd => ?_
    rcases hO.pair i j ops[i] o hi hoi ho with hw | hap
    · exact absurd (hrd i hw) hli
    · exact (Oper.apart_spec hap).1 d (by simpa [dstOf, hoi] using hd)
theorem ag2_now {val val' : Nat → GV} {listed : Array Bool} (hc : Closed ops listed) {j : Nat} {o : Oper} (ho : ops[j]? = some o) (hun : listed.getD j false = false) (hrd : ∀ i, Anc ops j i → listed.getD i false = true)
    (hv : ∀ i, i < j → listed.getD i false = true → val i = val' i) : Ag (o.looksAt ops) (rep ops a0 (vs val) (fun k => listed.getD k false) ops.size) (T ops a0 (vs val') j) := by
  have hj : j < ops.size := (Array.getElem?_eq_some_iff.1 ho).1
  rw [T, ← rep_prefix (ops := ops) (a := a0) (val := vs val') j ops.size (by omega)]
  refine rep_ag _ fun i hi => ?_
  have hoi : ops[i]? = some ops[i] := by simp [hi]
  rcases Nat.lt_trichotomy i j with h | h | h
  · by_cases hli : listed.getD i false = true
    · exact .inl ⟨by simp only [hli]; simp [h], fun _ => congrArg Prod.fst (hv i h hli)⟩
    · refine .inr fun d hd => ?_
      rcases hO.pair i j ops[i] o h hoi ho with hw | hap
      · exact absurd (hrd i hw) hli
      · exact (Oper.apart_spec hap).1 d (by simpa [dstOf, hoi] using hd)
  · subst h
    exact .inl ⟨by simp only [hun]; simp, fun h => by rw [hun] at h; cases h⟩
  · by_cases hli : listed.getD i false = true
    · refine .inr fun d hd => ?_
      rcases hO.pair j i o ops[i] h ho hoi with hw | hap
      · have := hw.listed hc hli
        rw [hun] at this
        cases this
      · exact (Oper.apart_spec hap).2.2 d (by simpa [dstOf, hoi] using hd)
    · have : listed.getD i false = false := by simpa using hli
      exact .inl ⟨by simp only [this]; simp; omega, fun h => absurd h hli⟩
include hT
omit hO in
theorem used_anc {j : Nat} {t : Tok} (ht : t ∈ toks) (hu : t.used j) {p : Nat} (hp : t.prod = some p) : Anc ops j p := by
  rcases hu with h | h
  · exact (hT t ht).rd j h p hp
  · exact ((hT t ht).c j h).2.2.1 p hp
omit hO in
theorem used_deps {j : Nat} {t : Tok} (ht : t ∈ toks) (hu : t.used j) {d : Nat} (hd : d ∈ t.deps) : Anc ops j d := by
  obtain ⟨p, hp, h⟩ := (hT t ht).dp d hd
  have := used_anc hT ht hu hp
  rcases h with rfl | h
  · exact this
  · exact this.trans h
include hSp
theorem con_congr {val val' : Nat → GV} {listed : Array Bool} (hc : Closed ops listed) {k : Nat} (hrd : ∀ i, Anc ops k i → listed.getD i false = true)
    (hv : ∀ i, i < k → listed.getD i false = true → val i = val' i) (hk : val k = val' k) (h : Con P ops C toks specs a0 val k) : Con P ops C toks specs a0 val' k := by
  intro o s ho hs
  have h1 := h o s ho hs
  have hag := ag2 hO (a0 := a0) hc ho hrd hv
  have he := hag.exec (hO.sel k o · · ho)
  have hw := hag.wanted
  rw [hw] at h1
  have hanc : ∀ i, Anc ops k i → val i = val' i := fun i hi => hv i (hi.lt hO.back) (hrd i hi)
  split at h1
  · rename_i hw'
    rw [if_pos hw']
    cases s with
    | q =>
      obtain ⟨⟨w, h2, h3⟩, h4⟩ := h1
      exact ⟨⟨w, h2.congr fun t ht hu => at_congr fun d hd => hanc d (used_deps hT ht hu hd), by rw [← hk]; exact h3.congr he.symm⟩, by rw [← hk]; exact h4⟩
    | v ds p =>
      simp only at h1 ⊢
      rw [← hk, ← List.map_congr_left fun d hd => hanc d (hSp k ds p hs d hd)]
      exact h1
  · rename_i hw'
    rw [if_neg hw', ← hk]
    exact h1
variable {Q : Act → (Nat → GV) → Prop} (l : List Oper) (hl : ∀ j : Nat, l[j]? = ops[j]?) (hsp : specs.length = l.length) (hW : Walk P ops toks C Q 0 l specs (fun _ => gq undef) a0)
include hl hsp hW
/-- The walk's part at n, with values for what has not come up. -/
theorem reach {val : Nat → GV} {listed : Array Bool} (hc : Closed ops listed) (hcons : ∀ k, listed.getD k false = true → Con P ops C toks specs a0 val k) :
    ∀ n, n ≤ l.length → ∃ val' : Nat → GV, (∀ k, k < n → listed.getD k false = true → val k = val' k) ∧ Walk P ops toks C Q n (l.drop n) (specs.drop n) val' (T ops a0 (vs val') n) := by
  intro n
  induction n with
  | zero => exact fun _ => ⟨_, fun k hk => by omega, hW⟩
  | succ n ih =>
    intro hn
    obtain ⟨val', hv, h⟩ := ih (by omega)
    have hkl : n < l.length := by omega
    have hks : n < specs.length := by omega
    rw [List.drop_eq_getElem_cons hkl, List.drop_eq_getElem_cons hks] at h
    have ho : ops[n]? = some l[n] := by rw [← hl]; simp [hkl]
    have hs : specs[n]? = some specs[n] := by simp [hks]
    have hd : dstOf ops n = l[n].dst := by simp [dstOf, ho]
    have fin : ∀ v : GV, (listed.getD n false = true → val n = v) → Walk P ops toks C Q (n + 1) (l.drop (n + 1)) (specs.drop (n + 1)) (upd val' n v) ((T ops a0 (vs val') n).put l[n].dst v.1) →
        ∃ val'' : Nat → GV, (∀ k, k < n + 1 → listed.getD k false = true → val k = val'' k) ∧ Walk P ops toks C Q (n + 1) (l.drop (n + 1)) (specs.drop (n + 1)) val'' (T ops a0 (vs val'') (n + 1)) := by
      intro v hvn hw
      refine ⟨upd val' n v, fun k hk hlk => ?_, ?_⟩
      · by_cases e : k = n
        · subst e; rw [upd_same]; exact hvn hlk
        · rw [upd_other _ _ _ _ e]; exact hv k (by omega) hlk
      · rw [T_succ, vs_same, hd, T_congr n fun i hi => vs_other val' n i v (by omega)]
        exact hw
    have hlist : listed.getD n false = true → (if Region.wanted l[n] (yielded ops (T ops a0 (vs val') n).tmps) = true then
        match specs[n] with
        | .q => (∃ w, Ins C toks n val' w ∧ Same P l[n] (T ops a0 (vs val') n) w (val n).1) ∧ val n = gq (val n).1
        | .v ds p => p (ds.map val') (val n)
      else val n = gq undef) := fun hln => by
      have hrd : ∀ i, Anc ops n i → listed.getD i false = true := fun i hi => hi.listed hc hln
      have := con_congr (val' := upd val' n (val n)) hO hSp hT hc hrd (fun i hi hli => by rw [upd_other _ _ _ _ (by omega)]; exact hv i hi hli) (upd_same _ _ _).symm (hcons n hln) l[n] specs[n] ho hs
      rw [T_congr n fun i hi => vs_other val' n i (val n) (by omega), upd_same] at this
      split at this
      · rename_i hw
        rw [if_pos hw]
        generalize hsn : specs[n] = s at *
        cases s with
        | q =>
          obtain ⟨⟨w, h1, h2⟩, h3⟩ := this
          exact ⟨⟨w, h1.congr fun t ht hu => at_congr fun d hd => upd_other _ _ _ _ (by have := (used_deps hT ht hu hd).lt hO.back; omega), h2⟩, h3⟩
        | v ds p =>
          simp only at this ⊢
          rwa [List.map_congr_left fun d hd => upd_other val' n d (val n) (by have := (hSp n ds p hs d hd).lt hO.back; omega)] at this
      · rename_i hw
        rw [if_neg hw]
        exact this
    simp only [Walk] at h
    by_cases hw : Region.wanted l[n] (yielded ops (T ops a0 (vs val') n).tmps) = true
    · rw [if_pos hw] at h
      simp only [hw, if_true] at hlist
      generalize specs[n] = s at *
      cases s with
      | q =>
        obtain ⟨v, h1, h2⟩ := h
        refine fin (gq v) (fun hln => ?_) h2
        obtain ⟨⟨w, h3, h4⟩, h5⟩ := hlist hln
        rw [h5, h4.uniq (h1 w h3)]
      | v ds p =>
        obtain ⟨⟨v, hv0⟩, _, h2⟩ := h
        by_cases hln : listed.getD n false = true
        · exact fin (val n) (fun _ => rfl) (h2 _ (hlist hln))
        · exact fin v (fun h => absurd h hln) (h2 _ hv0)
    · rw [if_neg hw] at h
      simp only [hw] at hlist
      exact fin (gq undef) (fun hln => by simpa using hlist hln) h.2

/-- ONE OPERATION. -/
theorem inv2_step {F : Fence} {n : Nat} (hFo : OpenF F) (hDf : F.round = none ∨ ∀ (j : Nat) (o : Oper), ops[j]? = some o → ∀ c, o.op ≠ .defer c) {wS : World} (hC : ∀ w, Kp (IFp toks) wS w → C w) {Q' : Exit → Act → World → Prop} {val : Nat → GV} {listed : Array Bool} {a : Act} {w : World} {j : Nat} (I : Inv2 P ops C toks specs a0 wS val listed a w) (hr : j ∈ Region.ready .any ops listed)
    {K : Act → World → Prop} (hK : ∀ val' a' w', Inv2 P ops C toks specs a0 wS val' (listed.setIfInBounds j true) a' w' → K a' w') : wpOpIn F n P ops Q' j K a w := by
  obtain ⟨hunt, o, ho, hrd⟩ := mem_ready.1 hr
  have hj : j < ops.size := (Array.getElem?_eq_some_iff.1 ho).1
  have hun : listed.getD j false = false := getD_both hunt
  have hanc : ∀ i, Anc ops j i → listed.getD i false = true := fun i hi => hi.ready I.closed ho hrd
  have hlen := len_eq l hl
  obtain ⟨val', hv, h⟩ := reach hO hSp hT l hl hsp hW I.closed I.cons j (by omega)
  have hag := ag2_now hO (a0 := a0) I.closed ho hun hanc hv
  rw [← I.act] at hag
  have hexec := hag.exec (hO.sel j o · · ho)
  have hwant := hag.wanted
  have hjl : j < l.length := by omega
  have hjs : j < specs.length := by omega
  rw [List.drop_eq_getElem_cons hjl, List.drop_eq_getElem_cons hjs] at h
  have hs : specs[j]? = some specs[j] := by simp [hjs]
  have hol : l[j] = o := by
    have h1 : ops[j]? = some l[j] := by rw [← hl]; simp [hjl]
    exact Option.some.inj (h1.symm.trans ho)
  rw [hol] at h
  have hset : ∀ k, (listed.setIfInBounds j true).getD k false = upd (fun k => listed.getD k false) j true k := fun k => by
    by_cases e : k = j
    · subst e
      rw [upd_same]
      have : k < listed.size := by rw [I.size]; exact hj
      simp [this]
    · rw [upd_other _ _ _ _ e, getD_set_ne false (Ne.symm e)]
  have hsetj : (listed.setIfInBounds j true).getD j false = true := by rw [hset]; exact upd_same _ _ _
  have hseto : ∀ k, k ≠ j → (listed.setIfInBounds j true).getD k false = listed.getD k false := fun k hk => by rw [hset]; exact upd_other _ _ _ _ hk
  have hset' : ∀ k, (listed.setIfInBounds j true).getD k false = true → k = j ∨ listed.getD k false = true := fun k hk => by
    by_cases e : k = j
    · exact .inl e
    · rw [hseto k e] at hk; exact .inr hk
  have hsetk : ∀ k, listed.getD k false = true → (listed.setIfInBounds j true).getD k false = true := fun k hk => by
    by_cases e : k = j
    · subst e; exact hsetj
    · rw [hseto k e]; exact hk
  have hclosed' : Closed ops (listed.setIfInBounds j true) := fun k ok hk hlk e he hb => by
    rcases hset' k hlk with rfl | h
    · obtain rfl := Option.some.inj (hk.symm.trans ho)
      exact hsetk _ (hrd e he hb)
    · exact hsetk _ (I.closed k ok hk h e he hb)
  -- the act behind
  have hact : ∀ v : GV, a.put o.dst v.1 = rep ops a0 (vs (upd val j v)) (fun k => (listed.setIfInBounds j true).getD k false) ops.size := fun v => by
    have hd : o.dst = dstOf ops j := by simp [dstOf, ho]
    rw [I.act, hd, rep_insert ops.size hj hun]
    · refine rep_same _ fun i hi => ⟨(hset i).symm, fun hsel => ?_⟩
      by_cases e : i = j
      · subst e; rw [upd_same, vs_same]
      · rw [upd_other _ _ _ _ e, vs_other _ _ _ _ e]
    · intro i hji hi hli d hd1 hd2
      have hoi : ops[i]? = some ops[i] := by simp [hi]
      rcases hO.pair j i o ops[i] hji ho hoi with hwf | hap
      · have := hwf.listed I.closed hli
        rw [hun] at this
        cases this
      · exact (Oper.apart_spec hap).2.1 d (by rw [← hd] at hd1; exact hd1) (by simpa [dstOf, hoi] using hd2)
  -- what holds of those that came up before
  have hne : ∀ k i, listed.getD k false = true → Anc ops k i → i ≠ j := fun k i hk hi e => by
    have := hi.listed I.closed hk
    rw [e, hun] at this; cases this
  have hconO : ∀ v k, listed.getD k false = true → Con P ops C toks specs a0 (upd val j v) k := fun v k hk => by
    have hkj : k ≠ j := fun e => by rw [e, hun] at hk; cases hk
    exact con_congr hO hSp hT I.closed (fun i hi => hi.listed I.closed hk) (fun i hi hli => (upd_other _ _ _ _ (fun e => by rw [e, hun] at hli; cases hli)).symm) (upd_other _ _ _ _ hkj).symm (I.cons k hk)
  have hTag : ∀ v, Ag (o.looksAt ops) (T ops a0 (vs (upd val j v)) j) (T ops a0 (vs val') j) := fun v => ag2 hO I.closed ho hanc fun i hi hli => by
    rw [upd_other _ _ _ _ (by omega)]; exact hv i hi hli
  -- pieces
  have hdep : ∀ t ∈ toks, (∀ p, t.prod = some p → listed.getD p false = true) → ∀ d ∈ t.deps, listed.getD d false = true := fun t ht hp d hd => by
    obtain ⟨p, h1, h2⟩ := (hT t ht).dp d hd
    rcases h2 with rfl | h2
    · exact hp _ h1
    · exact h2.listed I.closed (hp p h1)
  have hatO : ∀ v, ∀ t ∈ toks, (∀ p, t.prod = some p → listed.getD p false = true) → t.at_ (upd val j v) = t.at_ val := fun v t ht hp => at_congr fun d hd => upd_other _ _ _ _ fun e => by
    have := hdep t ht hp d hd
    rw [e, hun] at this; cases this
  have husedP : ∀ t ∈ toks, t.used j → ∀ p, t.prod = some p → listed.getD p false = true := fun t ht hu p hp => hanc p (used_anc hT ht hu hp)
  have havail : ∀ t ∈ toks, t.used j → Avail listed t := fun t ht hu => ⟨husedP t ht hu, fun c hc => by
    rcases hu with h | h
    · cases hlc : listed.getD c false with
      | false => rfl
      | true =>
        have := (((hT t ht).c c hc).2.2.2 j h).listed I.closed hlc
        rw [hun] at this; cases this
    · rw [hc] at h; cases h; exact hun⟩
  have hval' : ∀ t ∈ toks, t.used j → t.at_ val = t.at_ val' := fun t ht hu => at_congr fun d hd => by
    have hd' := used_deps hT ht hu hd
    exact hv d (hd'.lt hO.back) (hanc d hd')
  have hins : Ins C toks j val w := ⟨hC w I.keep, fun t ht hu => I.holds t ht (havail t ht hu), fun x y t u hx hy hxy ht hu => I.apart x y t u hx hy hxy (havail t (List.mem_of_getElem? hx) ht) (havail u (List.mem_of_getElem? hy) hu)⟩
  have hins' : Ins C toks j val' w := hins.congr hval'
  have hinsv : ∀ v, Ins C toks j (upd val j v) w := fun v => hins.congr fun t ht hu => (hatO v t ht (husedP t ht hu)).symm
  have quiet : ∀ v, (∀ t ∈ toks, t.prod ≠ some j ∧ t.cons ≠ some j) → Con P ops C toks specs a0 (upd val j v) j → Inv2 P ops C toks specs a0 wS (upd val j v) (listed.setIfInBounds j true) (a.put o.dst v.1) w := fun v hno hcj => by
    have hav : ∀ t ∈ toks, Avail (listed.setIfInBounds j true) t → Avail listed t := fun t ht ⟨h1, h2⟩ => ⟨fun p hp => by
      rcases hset' p (h1 p hp) with e | h
      · subst e; exact absurd hp (hno t ht).1
      · exact h, fun c hc => by
      have := h2 c hc
      rwa [hseto c (fun e => (hno t ht).2 (by rw [← e]; exact hc))] at this⟩
    refine ⟨by simp [I.size], hclosed', fun k hk => ?_, hact v, fun t ht hA => ?_, fun x y t u hx hy hxy ht hu => ?_, I.keep, fun t ht hA => ?_⟩
    · rcases hset' k hk with rfl | h
      · exact hcj
      · exact hconO v k h
    · have := hav t ht hA
      rw [hatO v t ht this.1]; exact I.holds t ht this
    · have h1 := hav t (List.mem_of_getElem? hx) ht
      have h2 := hav u (List.mem_of_getElem? hy) hu
      rw [hatO v t (List.mem_of_getElem? hx) h1.1, hatO v u (List.mem_of_getElem? hy) h2.1]
      exact I.apart x y t u hx hy hxy h1 h2
    · have := hav t ht hA
      rw [hatO v t ht this.1]; exact I.own t ht this
  have hD : F.round = none ∨ ∀ c, o.op ≠ .defer c := hDf.imp id fun h c => h j o ho c
  unfold wpOpIn
  simp only [ho, hwant]
  simp only [Walk] at h
  generalize hse : specs[j] = s at *
  by_cases hw : Region.wanted o (yielded ops (T ops a0 (vs val') j).tmps) = true
  · rw [if_pos hw] at h ⊢
    have hcon : ∀ v : GV, (match (generalizing := false) s with
        | .q => (∃ w, Ins C toks j (upd val j v) w ∧ Same P o (T ops a0 (vs (upd val j v)) j) w v.1) ∧ v = gq v.1
        | .v ds p => p (ds.map (upd val j v)) v) → Con P ops C toks specs a0 (upd val j v) j := fun v hc o' s' ho' hs' => by
      obtain rfl := Option.some.inj (ho.symm.trans ho')
      obtain rfl := Option.some.inj (hs.symm.trans hs')
      rw [(hTag v).wanted, if_pos hw, upd_same]
      exact hc
    cases s with
    | q =>
      obtain ⟨v, h1, -⟩ := h
      have h1 := h1 w hins'
      refine Same.wpIn hFo hD (h1.congr hexec) ?_
      refine hK _ _ w (quiet (gq v) (fun t ht => ⟨fun hp => ?_, fun hc => ?_⟩) (hcon (gq v) ⟨⟨w, hinsv _, h1.congr ((hTag _).exec (hO.sel j o · · ho))⟩, rfl⟩))
      · have := ((hT t ht).p j hp).2
        rw [hs] at this; cases this
      · have := ((hT t ht).c j hc).2.1
        rw [hs] at this; cases this
    | v ds p =>
      obtain ⟨-, h1, -⟩ := h
      have hds : ds.map val' = ds.map val := List.map_congr_left fun d hd => (hv d ((hSp j ds p hs d hd).lt hO.back) (hanc d (hSp j ds p hs d hd))).symm
      refine LoudR.wpIn hFo hD ((h1 w hins').congr hexec) fun v0 w' ⟨v, hv0, hp, hout⟩ => ?_
      subst hv0
      have hdv : ds.map (upd val j v) = ds.map val := List.map_congr_left fun d hd => upd_other _ _ _ _ (by have := (hSp j ds p hs d hd).lt hO.back; omega)
      have hcj := hcon v (by rw [hds] at hp; show p (ds.map (upd val j v)) v; rw [hdv]; exact hp)
      -- what it takes, and leaves, in the values as they are
      have hat' : ∀ t ∈ toks, t.prod = some j → t.at_ (upd val' j v) = t.at_ (upd val j v) := fun t ht hp => at_congr fun d hd => by
        obtain ⟨p', h1, h2⟩ := (hT t ht).dp d hd
        rw [hp] at h1
        cases h1
        rcases h2 with rfl | h2
        · rw [upd_same, upd_same]
        · have := h2.lt hO.back
          rw [upd_other _ _ _ _ (by omega), upd_other _ _ _ _ (by omega)]
          exact (hv d this (hanc d h2)).symm
      have hatc : ∀ t ∈ toks, t.cons = some j → t.at_ (upd val' j v) = t.at_ val := fun t ht hc => at_congr fun d hd => by
        have hd' := used_deps hT ht (.inr hc) hd
        have := hd'.lt hO.back
        rw [upd_other _ _ _ _ (by omega)]
        exact (hv d this (hanc d hd')).symm
      have hCF : ∀ k, CF toks j (upd val' j v) k → ∃ u : Nat, ∃ t, toks[u]? = some t ∧ t.cons = some j ∧ Avail listed t ∧ (t.at_ val).fp k := fun k ⟨t, ht, hc, hk⟩ => by
        obtain ⟨u, hu⟩ := List.mem_iff_getElem?.1 ht
        exact ⟨u, t, hu, hc, havail t ht (.inr hc), by rw [← hatc t ht hc]; exact hk⟩
      have hold : ∀ t ∈ toks, Avail (listed.setIfInBounds j true) t → t.prod ≠ some j → Avail listed t ∧ t.cons ≠ some j := fun t ht ⟨h1, h2⟩ hne => ⟨⟨fun p hp => by
        rcases hset' p (h1 p hp) with e | h
        · subst e; exact absurd hp hne
        · exact h, fun c hc => by
        have := h2 c hc
        cases hlc : listed.getD c false with
        | false => rfl
        | true => rw [hsetk c hlc] at this; cases this⟩, fun hc => by
        have := h2 j hc
        rw [hsetj] at this; cases this⟩
      have holdCF : ∀ (x : Nat) t, toks[x]? = some t → Avail listed t → t.cons ≠ some j → ∀ k, (t.at_ val).fp k → ¬ CF toks j (upd val' j v) k := fun x t hx hA hc k hk hcf => by
        obtain ⟨y, u, hy, hcu, hAu, hku⟩ := hCF k hcf
        exact I.apart x y t u hx hy (fun e => by subst e; rw [hx] at hy; cases hy; exact hc hcu) hA hAu k hk hku
      have hholdO : ∀ (x : Nat) t, toks[x]? = some t → Avail listed t → t.cons ≠ some j → (t.at_ val).holds w' := fun x t hx hA hc => by
        have h1 := I.holds t (List.mem_of_getElem? hx) hA
        exact (t.at_ val).loc h1 fun k hk => hout.keep.block k ((t.at_ val).lt h1 k hk) (holdCF x t hx hA hc k hk)
      have hCFI : ∀ k, CF toks j (upd val' j v) k → IFp toks k ∨ wS.heap.size ≤ k := fun k hk => by
        obtain ⟨y, u, hy, hcu, hAu, hku⟩ := hCF k hk
        exact I.own u (List.mem_of_getElem? hy) hAu k hku
      refine hK (upd val j v) _ w' ⟨by simp [I.size], hclosed', fun k hk => ?_, hact v, fun t ht hA => ?_, fun x y t u hx hy hxy ht hu k => ?_, ?_, fun t ht hA k hk => ?_⟩
      · rcases hset' k hk with rfl | h
        · exact hcj
        · exact hconO v k h
      · by_cases hp : t.prod = some j
        · rw [← hat' t ht hp]; exact (hout.holds t ht hp).1
        · obtain ⟨h2, h3⟩ := hold t ht hA hp
          obtain ⟨x, hx⟩ := List.mem_iff_getElem?.1 ht
          rw [hatO v t ht h2.1]; exact hholdO x t hx h2 h3
      · have htm := List.mem_of_getElem? hx
        have hum := List.mem_of_getElem? hy
        -- new beside old
        have mix : ∀ (x y : Nat) (t u : Tok), toks[x]? = some t → toks[y]? = some u → t.prod = some j → Avail listed u → u.cons ≠ some j → ∀ k, (t.at_ (upd val' j v)).fp k → ¬ (u.at_ val).fp k := fun x y t u hx hy hp hA hc k hk hku => by
          rcases (hout.holds t (List.mem_of_getElem? hx) hp).2 k hk with h | h
          · exact holdCF y u hy hA hc k hku h
          · have := (u.at_ val).lt (I.holds u (List.mem_of_getElem? hy) hA) k hku
            omega
        by_cases hpt : t.prod = some j <;> by_cases hpu : u.prod = some j
        · rw [← hat' t htm hpt, ← hat' u hum hpu]
          exact hout.apart x y t u hx hy hxy hpt hpu k
        · obtain ⟨h2, h3⟩ := hold u hum hu hpu
          rw [← hat' t htm hpt, hatO v u hum h2.1]
          exact mix x y t u hx hy hpt h2 h3 k
        · obtain ⟨h2, h3⟩ := hold t htm ht hpt
          rw [← hat' u hum hpu, hatO v t htm h2.1]
          exact fun h4 h5 => mix y x u t hy hx hpu h2 h3 k h5 h4
        · obtain ⟨h2, h3⟩ := hold t htm ht hpt
          obtain ⟨h4, h5⟩ := hold u hum hu hpu
          rw [hatO v t htm h2.1, hatO v u hum h4.1]
          exact I.apart x y t u hx hy hxy h2 h4 k
      · refine ⟨hout.keep.os.trans I.keep.os, hout.keep.tape.trans I.keep.tape, hout.keep.output.trans I.keep.output, Nat.le_trans I.keep.size hout.keep.size, fun k hk hn => ?_⟩
        have := I.keep.size
        refine (hout.keep.block k (by omega) fun hcf => ?_).trans (I.keep.block k hk hn)
        rcases hCFI k hcf with h | h
        · exact hn h
        · omega
      · by_cases hp : t.prod = some j
        · rw [← hat' t ht hp] at hk
          rcases (hout.holds t ht hp).2 k hk with h | h
          · exact hCFI k h
          · have := I.keep.size; exact .inr (by omega)
        · obtain ⟨h2, h3⟩ := hold t ht hA hp
          rw [hatO v t ht h2.1] at hk
          exact I.own t ht h2 k hk
  · rw [if_neg hw] at h ⊢
    refine ⟨fun f _ => hFo.fn f, hK _ _ w (quiet (gq undef) h.1 fun o' s' ho' hs' => ?_)⟩
    obtain rfl := Option.some.inj (ho.symm.trans ho')
    rw [(hTag (gq undef)).wanted, if_neg hw]
    exact upd_same _ _ _
/-- At the end. -/
theorem inv2_end {wS : World} {val : Nat → GV} {listed : Array Bool} {a : Act} {w : World} (I : Inv2 P ops C toks specs a0 wS val listed a w) (hall : ∀ k, k < ops.size → listed.getD k false = true) :
    ∃ val' : Nat → GV, Q a val' ∧ Kp (IFp toks) wS w ∧ (∀ t ∈ toks, t.cons = none → (t.at_ val').holds w ∧ ∀ k, (t.at_ val').fp k → IFp toks k ∨ wS.heap.size ≤ k) ∧ Apart toks (fun t => t.cons = none) val' := by
  have hlen := len_eq l hl
  obtain ⟨val', hv, h⟩ := reach hO hSp hT l hl hsp hW I.closed I.cons l.length (Nat.le_refl _)
  rw [List.drop_eq_nil_of_le (Nat.le_refl _)] at h
  have ha : a = T ops a0 (vs val') ops.size := by
    rw [I.act]
    exact rep_same _ fun i hi => ⟨hall i hi, fun _ => congrArg Prod.fst (hv i (by omega) (hall i hi))⟩
  rw [hlen, ← ha] at h
  have hav : ∀ t ∈ toks, t.cons = none → Avail listed t := fun t ht hc => ⟨fun p hp => hall p ((hT t ht).p p hp).1, fun c hc' => by rw [hc] at hc'; cases hc'⟩
  have hat : ∀ t ∈ toks, t.at_ val' = t.at_ val := fun t ht => at_congr fun d hd => by
    obtain ⟨p, h1, h2⟩ := (hT t ht).dp d hd
    have hp := ((hT t ht).p p h1).1
    have hdl : d < ops.size := by
      rcases h2 with rfl | h2
      · exact hp
      · have := h2.lt hO.back; omega
    exact (hv d (by omega) (hall d hdl)).symm
  refine ⟨val', h, I.keep, fun t ht hc => ?_, fun x y t u hx hy hxy ht hu k => ?_⟩
  · rw [hat t ht]; exact ⟨I.holds t ht (hav t ht hc), I.own t ht (hav t ht hc)⟩
  · rw [hat t (List.mem_of_getElem? hx), hat u (List.mem_of_getElem? hy)]
    exact I.apart x y t u hx hy hxy (hav t (List.mem_of_getElem? hx) ht) (hav u (List.mem_of_getElem? hy) hu) k
omit hSp hT hl hsp hW in
theorem all_listed2 {listed : Array Bool} (hsz : listed.size = ops.size) (hr : Region.ready .any ops listed = []) : ∀ i, i < ops.size → listed.getD i false = true := by
  intro i
  induction i using Nat.strongRecOn with
  | _ i ih =>
    intro hi
    cases h : listed.getD i false with
    | true => rfl
    | false =>
      have hm : i ∈ Region.ready .any ops listed := mem_ready.2 ⟨getD_in (by omega) h, ops[i], by simp [hi], fun e he hb => by
        have := hO.back i ops[i] (by simp [hi]) e he hb
        exact ih e.on this (by omega)⟩
      rw [hr] at hm
      cases hm
theorem inv2_all {F : Fence} {n : Nat} (hFo : OpenF F) (hDf : F.round = none ∨ ∀ (j : Nat) (o : Oper), ops[j]? = some o → ∀ c, o.op ≠ .defer c) {wS : World} (hC : ∀ w, Kp (IFp toks) wS w → C w) {Q' : Exit → Act → World → Prop}
    (hQ : ∀ (val : Nat → GV) (a : Act) (w : World), Q a val → Kp (IFp toks) wS w → (∀ t ∈ toks, t.cons = none → (t.at_ val).holds w ∧ ∀ k, (t.at_ val).fp k → IFp toks k ∨ wS.heap.size ≤ k) → Apart toks (fun t => t.cons = none) val → Q' .normal a w) :
    ∀ (fuel : Nat) (listed : Array Bool) (a : Act) (w : World) (val : Nat → GV), Inv2 P ops C toks specs a0 wS val listed a w →
    pend listed ops.size ≤ fuel → wpAnyIn F n P .any ops Q' fuel listed a w := by
  have fin : ∀ {val : Nat → GV} {listed : Array Bool} {a : Act} {w : World}, Inv2 P ops C toks specs a0 wS val listed a w → (∀ k, k < ops.size → listed.getD k false = true) → Q' .normal a w := fun I hall => by
    obtain ⟨val', h1, h2, h3, h4⟩ := inv2_end hO hSp hT l hl hsp hW I hall
    exact hQ val' _ _ h1 h2 h3 h4
  intro fuel
  induction fuel with
  | zero =>
    intro listed a w val I hp
    have hall : ∀ k, k < ops.size → listed.getD k false = true := fun k hk => by
      have := pend_zero (listed := listed) ops.size (by omega) k hk
      have hk' : k < listed.size := by rw [I.size]; exact hk
      simp [hk'] at this ⊢
      exact this
    refine ⟨?_, fin I hall⟩
    apply List.eq_nil_iff_forall_not_mem.2
    intro j hj
    obtain ⟨h1, o, ho, _⟩ := mem_ready.1 hj
    have := hall j (Array.getElem?_eq_some_iff.1 ho).1
    rw [getD_both h1] at this
    cases this
  | succ fuel ih =>
    intro listed a w val I hp
    refine ⟨fun hr => fin I (all_listed2 hO I.size hr), fun j hj => ?_⟩
    refine inv2_step hO hSp hT l hl hsp hW hFo hDf hC I hj fun val' a' w' I' => ih _ _ _ val' I' ?_
    obtain ⟨h1, o, ho, _⟩ := mem_ready.1 hj
    have hjn := (Array.getElem?_eq_some_iff.1 ho).1
    have := pend_set h1 ops.size
    rw [if_pos hjn] at this
    omega
end sound2
end
end Go.Proofs.YtbenjjaofabdcaaGreatDoor
