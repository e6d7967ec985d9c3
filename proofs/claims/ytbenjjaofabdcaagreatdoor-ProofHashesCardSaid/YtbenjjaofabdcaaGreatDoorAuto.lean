/-
  Walks that are alike from region to region: tables of pieces without what they hold, which the walk finds; measures of types as instances.
-/
import Derived.Test.YtbenjjaofabdcaaGreatDoorWr
import Derived.Test.YtbenjjaofabdcaaGreatDoorR4
namespace Go.Proofs.YtbenjjaofabdcaaGreatDoor
open Go Go.RowKit

/-! ### Tables without what the pieces hold -/
structure TSk where
  prod : Option Nat
  cons : Option Nat
  rds : List Nat
  deps : List Nat
abbrev mkTok (s : TSk) (A : List GV → Asn) : Tok := ⟨s.prod, s.cons, s.rds, s.deps, A⟩
def mkToks : List TSk → List (List GV → Asn) → List Tok
  | s :: ss, A :: As => mkTok s A :: mkToks ss As
  | _, _ => []
/-- A piece that was there, or one that a store made of it. -/
abbrev pK (A : Asn) : List GV → Asn := fun _ => A
/-- A new variable. -/
abbrev pN (e : TypeId) (cs : List Value) : List GV → Asn := fun gs => pts (blkOf (gs.headD (gq undef)).1) e cs
/-- A row that an append made. -/
abbrev pR (e : TypeId) (sz n : Nat) (xs : List Value) : List GV → Asn := fun gs => rowA e sz (gs.headD (gq undef)).1 n xs
/-- What a call made of a writer. -/
abbrev pW (bw : Nat) (l : List UInt8) : List GV → Asn := fun gs => wrA (gs.headD (gq undef)).2 bw l
/-- What a call made of a tape. -/
abbrev pT (t : Value) (bl : List (List UInt8)) : List GV → Asn := fun gs => tpA (gs.headD (gq undef)).2 t bl
/-- Cells of which some are what an operation came to. -/
inductive Cl where
  | c (v : Value)
  | g (k : Nat)
def Cl.val (gs : List GV) : Cl → Value
  | .c v => v
  | .g k => (gs.getD k (gq undef)).1
abbrev pM (b : Nat) (e : TypeId) (l : List Cl) : List GV → Asn := fun gs => pts b e (l.map (Cl.val gs))
abbrev pB (e : TypeId) (l : List Cl) : List GV → Asn := fun gs => pts (blkOf (gs.headD (gq undef)).1) e (l.map (Cl.val gs))
def tokSB (n : Nat) (m : Array Nat) (vs : List Nat) (s : TSk) : Bool :=
  (match s.prod with | none => s.deps.isEmpty | some p => decide (p < n) && vs.contains p && s.rds.all (fun r => ancB m r p) && s.deps.all (fun d => d == p || ancB m p d)) &&
  (match s.cons with | none => true | some c => decide (c < n) && vs.contains c && (match s.prod with | none => true | some p => ancB m c p) && s.rds.all (fun r => ancB m c r))
def drawSB (l : List Oper) (m : Array Nat) (vs : List Nat) (sk : List TSk) : Bool :=
  Region.noSelect l.toArray && backB 0 l && pairB l.toArray m 0 l && sk.all (tokSB l.length m vs)
def kindB (vs : List Nat) : Nat → List OSp → Bool
  | _, [] => true
  | j, .q :: r => !vs.contains j && kindB vs (j + 1) r
  | j, .v ds _ :: r => ds.isEmpty && vs.contains j && kindB vs (j + 1) r
theorem kindB_spec {vs : List Nat} : ∀ (specs : List OSp) (j : Nat), kindB vs j specs = true → ∀ p, p < specs.length → vs.contains (j + p) = true → (specs[p]?).map OSp.isQ = some false
  | [], _, _, p, hp, _ => by simp at hp
  | .q :: r, j, h, p, hp, hv => by
    simp only [kindB, Bool.and_eq_true] at h
    rcases p with _ | p
    · rw [Nat.add_zero] at hv; rw [hv] at h; simp at h
    · have := kindB_spec r (j + 1) h.2 p (by simpa using hp) (by rw [← hv]; congr 1; omega)
      simpa using this
  | .v ds q :: r, j, h, p, hp, hv => by
    simp only [kindB, Bool.and_eq_true] at h
    rcases p with _ | p
    · rfl
    · have := kindB_spec r (j + 1) h.2 p (by simpa using hp) (by rw [← hv]; congr 1; omega)
      simpa using this
theorem kindB_specs {vs : List Nat} {m : Array Nat} : ∀ (specs : List OSp) (j : Nat), kindB vs j specs = true → specB m j specs = true
  | [], _, _ => rfl
  | .q :: r, j, h => by
    simp only [kindB, Bool.and_eq_true] at h
    simp only [specB]
    exact kindB_specs r _ h.2
  | .v ds q :: r, j, h => by
    simp only [kindB, Bool.and_eq_true, List.isEmpty_iff] at h
    simp only [specB, Bool.and_eq_true]
    obtain ⟨⟨rfl, -⟩, h3⟩ := h
    exact ⟨rfl, kindB_specs r _ h3⟩
theorem mkToks_mem {P : Tok → Prop} : ∀ (sk : List TSk) (As : List (List GV → Asn)), (∀ s ∈ sk, ∀ A, P (mkTok s A)) → ∀ t ∈ mkToks sk As, P t
  | [], _, _, t, ht => by simp [mkToks] at ht
  | _ :: _, [], _, t, ht => by simp [mkToks] at ht
  | s :: ss, A :: As, h, t, ht => by
    rcases List.mem_cons.1 ht with rfl | ht
    · exact h s (.head _) A
    · exact mkToks_mem ss As (fun s hs => h s (.tail _ hs)) t ht
theorem drawSB_spec {l : List Oper} {vs : List Nat} {sk : List TSk} {As : List (List GV → Asn)} {specs : List OSp} (hB : drawSB l (masks l) vs sk = true) (hk : (specs.length == l.length && kindB vs 0 specs) = true) :
    (decide (specs.length = l.length) && drawB l (masks l) specs (mkToks sk As)) = true := by
  simp only [Bool.and_eq_true, beq_iff_eq, decide_eq_true_eq, drawSB, drawB] at hB hk ⊢
  refine ⟨hk.1, ⟨⟨hB.1, kindB_specs _ _ hk.2⟩, List.all_eq_true.2 ?_⟩⟩
  refine mkToks_mem sk As fun s hs A => ?_
  have h := List.all_eq_true.1 hB.2 s hs
  have hq : ∀ p, p < l.length → vs.contains p = true → ((specs[p]?).map OSp.isQ == some false) = true := fun p hp hv => by
    rw [kindB_spec specs 0 hk.2 p (by omega) (by rw [Nat.zero_add]; exact hv)]; rfl
  unfold tokSB at h
  unfold tokB mkTok
  rw [Bool.and_eq_true] at h ⊢
  obtain ⟨h1, h2⟩ := h
  refine ⟨?_, ?_⟩
  · cases hp : s.prod with
    | none => rw [hp] at h1; exact h1
    | some p =>
      rw [hp] at h1
      simp only [Bool.and_eq_true, decide_eq_true_eq] at h1 ⊢
      obtain ⟨⟨⟨a, b⟩, c⟩, d⟩ := h1
      exact ⟨⟨⟨a, hq p a b⟩, c⟩, d⟩
  · cases hp : s.cons with
    | none => rfl
    | some p =>
      rw [hp] at h2
      simp only [Bool.and_eq_true, decide_eq_true_eq] at h2 ⊢
      obtain ⟨⟨⟨a, b⟩, c⟩, d⟩ := h2
      exact ⟨⟨⟨a, hq p a b⟩, c⟩, d⟩
/-- The pieces that were there, in order. -/
inductive Told : List TSk → List (List GV → Asn) → List Asn → Prop
  | z : Told [] [] []
  | t {c : Option Nat} {r : List Nat} {ss : List TSk} {A : Asn} {As : List (List GV → Asn)} {L : List Asn} : Told ss As L → Told (⟨none, c, r, []⟩ :: ss) (pK A :: As) (A :: L)
  | n {p : Nat} {c : Option Nat} {r d : List Nat} {ss : List TSk} {A : List GV → Asn} {As : List (List GV → Asn)} {L : List Asn} : Told ss As L → Told (⟨some p, c, r, d⟩ :: ss) (A :: As) L
theorem Told.eq {sk : List TSk} {As : List (List GV → Asn)} {L : List Asn} (h : Told sk As L) : ((mkToks sk As).filter (·.prod.isNone)).map (fun t => t.asn []) = L := by
  induction h with
  | z => rfl
  | t _ ih => simp only [mkToks, mkTok, List.filter_cons, Option.isNone_none, if_true, List.map_cons, ih]
  | n _ ih => simp only [mkToks, mkTok, List.filter_cons, Option.isNone_some, Bool.false_eq_true, if_false, ih]
/-- A REGION THAT DRAWS ITS ORDER: sk tells which operation makes, reads, uses up which piece; vs, which operations are not quiet. -/
theorem wp_drawS {W : Nat → Prop} {w0 w : World} {L : List Asn} (M : Sep W w0 w L) (sk : List TSk) (As : List (List GV → Asn)) (vs : List Nat) (specs : List OSp) {id : Nat} {Q' : Exit → Act → World → Prop} {a : Act} {l : List Oper}
    (hB : drawSB l (masks l) vs sk = true) (hL : Told sk As L) (hk : (specs.length == l.length && kindB vs 0 specs) = true)
    (h : Walk Tryz.prog l.toArray (mkToks sk As) (Kp W w0) (fun a val => ∀ w', Sep W w0 w' (((mkToks sk As).filter (·.cons.isNone)).map (·.at_ val)) → Q' .normal a w') 0 l specs (fun _ => gq undef) a) : (Code.region id l.toArray true).wp Tryz.prog Q' a w :=
  wp_draw M (mkToks sk As) specs (by kernel_rfl) hL.eq (drawSB_spec hB hk) h

def noDefer (l : List Oper) : Bool := l.all fun o => match o.op with | .defer _ => false | _ => true
theorem noDefer_spec {l : List Oper} (h : noDefer l = true) : ∀ (j : Nat) (o : Oper), l.toArray[j]? = some o → ∀ c, o.op ≠ .defer c := fun j o ho c hc => by
  have hm : o ∈ l := List.mem_of_getElem? (by simpa using ho)
  have := List.all_eq_true.1 h o hm
  rw [hc] at this
  cases this
/-- The same in a fence without walls, perhaps in a round. -/
theorem wpIn_drawS {F : Fence} {n : Nat} (hFo : OpenF F) {W : Nat → Prop} {w0 w : World} {L : List Asn} (M : Sep W w0 w L) (sk : List TSk) (As : List (List GV → Asn)) (vs : List Nat) (specs : List OSp) {id : Nat} {Q' : Exit → Act → World → Prop} {a : Act} {l : List Oper}
    (hB : drawSB l (masks l) vs sk = true) (hL : Told sk As L) (hk : (specs.length == l.length && kindB vs 0 specs) = true) (hnd : noDefer l = true)
    (h : Walk Tryz.prog l.toArray (mkToks sk As) (Kp W w0) (fun a val => ∀ w', Sep W w0 w' (((mkToks sk As).filter (·.cons.isNone)).map (·.at_ val)) → Q' .normal a w') 0 l specs (fun _ => gq undef) a) : (Code.region id l.toArray true).wpIn F n Tryz.prog Q' a w :=
  wpIn_draw hFo M (mkToks sk As) specs (by kernel_rfl) hL.eq (drawSB_spec hB hk) (.inr (noDefer_spec hnd)) h

/-! ### Measures as instances -/
class TyI (t : TypeId) (n : outParam Nat) (row : outParam Bool) (zs : outParam (List Value)) : Prop where
  ty : Ty Tryz.prog t n row zs
class ElI (t : TypeId) (e : outParam TypeId) (sz bytes : outParam Nat) : Prop where
  el : ElemOk Tryz.prog t e sz bytes
instance : TyI 3 1 false [.int .i64 0] := ⟨tyInt⟩
instance : TyI 35 2 true [.int .u64 0, .int .u64 0] := ⟨tyNum⟩
instance : TyI 4 1 false [.bool false] := ⟨tyBool⟩
instance : TyI 5 1 false [.int .u8 0] := ⟨tyU8⟩
instance : TyI 26 1 false [.slice none 0 0] := ⟨tyBytes⟩
instance : TyI 30 32 true (List.replicate 32 (.int .u8 0)) := ⟨tyHash⟩
instance : TyI 118 7 true [.slice none 0 0, .slice none 0 0, .slice none 0 0, .pointer none, .pointer none, .int .i64 0, .int .i64 0] := ⟨tyEng⟩
instance : TyI 67 1 false [.slice none 0 0] := ⟨tyAccs⟩
instance : TyI 80 1 false [.slice none 0 0] := ⟨tyTrfs⟩
instance : TyI 114 1 false [.slice none 0 0] := ⟨tyLists⟩
instance : TyI 110 1 false [.pointer none] := ⟨tyIndexP⟩
instance : TyI 50 1 false [.pointer none] := ⟨tyEngP⟩
instance : TyI 52 1 false [.slice none 0 0] := ⟨tyEngs⟩
theorem tyHashesA : Ty Tryz.prog 22 1 false [.slice none 0 0] := ⟨Tryz.sizeOf22, Tryz.isAgg22, fun w => ⟨_, Tryz.zeroValue22 w, rfl⟩⟩
theorem tyWriterA : Ty Tryz.prog 92 1 true [.slice none 0 0] := ⟨Tryz.sizeOf92, Tryz.isAgg92, fun w => ⟨_, Tryz.zeroValue92 w, rfl⟩⟩
theorem tyChainPA : Ty Tryz.prog 51 1 false [.pointer none] := ⟨Tryz.sizeOf51, Tryz.isAgg51, fun w => ⟨_, Tryz.zeroValue51 w, rfl⟩⟩
instance : TyI 22 1 false [.slice none 0 0] := ⟨tyHashesA⟩
instance : TyI 92 1 true [.slice none 0 0] := ⟨tyWriterA⟩
instance : TyI 51 1 false [.pointer none] := ⟨tyChainPA⟩
instance : ElI 74 35 2 16 := ⟨elemNum⟩
instance : ElI 52 50 1 8 := ⟨elemEng⟩
instance : ElI 32 26 1 24 := ⟨elemBB⟩
instance : ElI 136 3 1 8 := ⟨elemInt⟩
instance : ElI 26 5 1 1 := ⟨elem_u8⟩
instance : ElI 22 30 32 32 := ⟨elem_hash⟩

/-! ### Hashes' lengths, found by instances -/
class H32 (x : List UInt8) : Prop where
  len : x.length = 32
instance (l : List UInt8) : H32 (sha l) := ⟨sha_length l⟩
instance (a : Acct) : H32 a.root := ⟨a.hroot⟩
class H32s (hs : List (List UInt8)) : Prop where
  all : ∀ h ∈ hs, h.length = 32
instance : H32s [] := ⟨by simp⟩
instance {x : List UInt8} {hs : List (List UInt8)} [h : H32 x] [r : H32s hs] : H32s (x :: hs) := ⟨fun y hy => (List.mem_cons.1 hy).elim (fun e => e ▸ h.len) (r.all y)⟩
instance {hs hs' : List (List UInt8)} [h : H32s hs] [r : H32s hs'] : H32s (hs ++ hs') := ⟨fun y hy => (List.mem_append.1 hy).elim (h.all y) (r.all y)⟩

theorem ones_hcs (hs : List (List UInt8)) : ones (hcs hs) := fun u hu => by
  obtain ⟨h, _, hm⟩ := List.mem_flatMap.1 hu
  exact ones_bcs h u hm
class Blob (cs : List Value) (n : outParam Nat) : Prop where
  len : cs.length = n
  one : ones cs
instance {x : List UInt8} [h : H32 x] : Blob (bcs x) 32 := ⟨by rw [bcs_length, h.len], ones_bcs _⟩
instance (a : Acct) : Blob (acells a) 46 := ⟨acells_length a, ones_acells a⟩
instance (t : Trf) : Blob (tcells t) 16 := ⟨rfl, ones_of rfl⟩
instance (r : Rw0) : Blob (rcells r) 14 := ⟨rfl, ones_of rfl⟩
instance (n : Num) : Blob (ncs n) 2 := ⟨rfl, ones_of rfl⟩

/-! ### Where a piece stands, found by instances -/
class PtsIn (b : Nat) (L : List Asn) (e : outParam TypeId) (cs : outParam (List Value)) : Prop where
  mem : pts b e cs ∈ L
instance (priority := 2000) {b : Nat} {e : TypeId} {cs : List Value} {L : List Asn} : PtsIn b (pts b e cs :: L) e cs := ⟨.head _⟩
instance {b : Nat} {e : TypeId} {cs : List Value} {A : Asn} {L : List Asn} [h : PtsIn b L e cs] : PtsIn b (A :: L) e cs := ⟨.tail _ h.mem⟩
class PtsRepl (b : Nat) (L : List Asn) (e : outParam TypeId) (cs : outParam (List Value)) (F : outParam (List Value → List Asn)) : Prop where
  repl : ∀ cs', Repl (pts b e cs) (pts b e cs') L (F cs')
instance (priority := 2000) {b : Nat} {e : TypeId} {cs : List Value} {L : List Asn} : PtsRepl b (pts b e cs :: L) e cs (fun cs' => pts b e cs' :: L) := ⟨fun _ => .head⟩
instance {b : Nat} {e : TypeId} {cs : List Value} {A : Asn} {L : List Asn} {F : List Value → List Asn} [h : PtsRepl b L e cs F] : PtsRepl b (A :: L) e cs (fun cs' => A :: F cs') := ⟨fun cs' => .tail (h.repl cs')⟩
class RowIn (v : Value) (L : List Asn) (e : outParam TypeId) (sz n : outParam Nat) (xs : outParam (List Value)) : Prop where
  mem : rowA e sz v n xs ∈ L
instance (priority := 2000) {v : Value} {e : TypeId} {sz n : Nat} {xs : List Value} {L : List Asn} : RowIn v (rowA e sz v n xs :: L) e sz n xs := ⟨.head _⟩
instance {v : Value} {e : TypeId} {sz n : Nat} {xs : List Value} {A : Asn} {L : List Asn} [h : RowIn v L e sz n xs] : RowIn v (A :: L) e sz n xs := ⟨.tail _ h.mem⟩
class RowRepl (v : Value) (L : List Asn) (e : outParam TypeId) (sz n : outParam Nat) (xs : outParam (List Value)) (F : outParam (Value → Nat → List Value → List Asn)) : Prop where
  repl : ∀ v' n' xs', Repl (rowA e sz v n xs) (rowA e sz v' n' xs') L (F v' n' xs')
instance (priority := 2000) {v : Value} {e : TypeId} {sz n : Nat} {xs : List Value} {L : List Asn} : RowRepl v (rowA e sz v n xs :: L) e sz n xs (fun v' n' xs' => rowA e sz v' n' xs' :: L) := ⟨fun _ _ _ => .head⟩
instance {v : Value} {e : TypeId} {sz n : Nat} {xs : List Value} {A : Asn} {L : List Asn} {F : Value → Nat → List Value → List Asn} [h : RowRepl v L e sz n xs F] : RowRepl v (A :: L) e sz n xs (fun v' n' xs' => A :: F v' n' xs') := ⟨fun v' n' xs' => .tail (h.repl v' n' xs')⟩
/-- What a load comes to. -/
inductive LdV : Nat → Bool → List Value → Nat → Value → List Value → Prop
  | one {cs : List Value} {off : Nat} {v : Value} : cs[off]? = some v → LdV 1 false cs off v [v]
  | two {cs : List Value} {off : Nat} {v u : Value} : cs[off]? = some v → cs[off + 1]? = some u → LdV 2 true cs off (.agg #[v, u]) [v, u]
  | all {cs : List Value} {n : Nat} : cs.length = n → LdV n true cs 0 (.agg cs.toArray) cs
  | mid {cs ds : List Value} {n off : Nat} : ds.length = n → (cs.drop off).take n = ds → LdV n true cs off (.agg ds.toArray) ds
theorem ldH {cs : List Value} {n : Nat} [h : Blob cs n] : LdV n true cs 0 (.agg cs.toArray) cs := .all h.len
theorem LdV.range {n : Nat} {row : Bool} {cs ds : List Value} {off b : Nat} {v : Value} {e : TypeId} {w : World} (h : LdV n row cs off v ds) (hp : (pts b e cs).holds w) : w.rangeAt b off ds := by
  cases h with
  | one h =>
    intro j x hx
    rcases j with _ | j
    · simp at hx; subst hx; exact pts.cell hp off h
    · simp at hx
  | two h1 h2 => exact range2 hp h1 h2
  | all h => exact range_all hp
  | mid h1 h2 => exact pts.range hp off (by rw [h1]; exact h2)
theorem LdV.len {n : Nat} {row : Bool} {cs ds : List Value} {off : Nat} {v : Value} (h : LdV n row cs off v ds) : ds.length = n := by
  cases h with
  | one h => rfl
  | two h1 h2 => rfl
  | all h => exact h
  | mid h1 h2 => exact h1
theorem LdV.val {n : Nat} {row : Bool} {cs ds : List Value} {off : Nat} {v : Value} (h : LdV n row cs off v ds) : (row = true ∧ v = .agg ds.toArray) ∨ (row = false ∧ n = 1 ∧ ds = [v]) := by
  cases h with
  | one h => exact .inr ⟨rfl, rfl, rfl⟩
  | two h1 h2 => exact .inl ⟨rfl, rfl⟩
  | all h => exact .inl ⟨rfl, rfl⟩
  | mid h1 h2 => exact .inl ⟨rfl, rfl⟩
theorem cell_of_range {w : World} {b off : Nat} {v : Value} (h : w.rangeAt b off [v]) : w.cell? ⟨b, off, none⟩ = some v := by have := h 0 v rfl; simpa using this
/-! The frame after an operation, under short names. -/
theorem p0 (a : Act) (v : Value) : a.put none v = a := rfl
theorem p1 (a : Act) (t : Tmp) (v : Value) : a.put (some t) v = { a with tmps := a.tmps.setIfInBounds t v } := rfl
theorem p2 {α : Type} (l : List α) (i : Nat) (x : α) : l.toArray.setIfInBounds i x = (l.set i x).toArray := List.setIfInBounds_toArray l i x
theorem p3 {α : Type} (a x : α) (l : List α) (i : Nat) : (a :: l).set (i + 1) x = a :: l.set i x := rfl
theorem p4 {α : Type} (a x : α) (l : List α) : (a :: l).set 0 x = x :: l := rfl

theorem Sep.as {W : Nat → Prop} {w0 w : World} {L L' : List Asn} (M : Sep W w0 w L) (h : L = L') : Sep W w0 w L' := h ▸ M
/-- A piece is taken apart. -/
theorem Sep.split {W : Nat → Prop} {w0 w : World} {A : Asn} {L : List Asn} (M : Sep W w0 w (A :: L)) (Ps : List Asn) (hP : ∀ B ∈ Ps, B.holds w) (hd : Ps.Pairwise fun A B => ∀ k, A.fp k → ¬ B.fp k) (hf : ∀ B ∈ Ps, ∀ k, B.fp k → A.fp k) : Sep W w0 w (Ps ++ L) := by
  have hd' := List.pairwise_cons.1 M.disj
  refine ⟨M.keep, fun B hB => ?_, List.pairwise_append.2 ⟨hd, hd'.2, fun B hB C hC k hk hk' => hd'.1 C hC k (hf B hB k hk) hk'⟩, fun B hB k hk => ?_⟩
  · rcases List.mem_append.1 hB with hB | hB
    · exact hP B hB
    · exact M.holds B (.tail _ hB)
  · rcases List.mem_append.1 hB with hB | hB
    · exact M.own A (.head _) k (hf B hB k hk)
    · exact M.own B (.tail _ hB) k hk
/-- Pieces are put together. -/
theorem Sep.join {W : Nat → Prop} {w0 w : World} {Ps L : List Asn} (M : Sep W w0 w (Ps ++ L)) (A : Asn) (hA : A.holds w) (hf : ∀ k, A.fp k → ∃ B ∈ Ps, B.fp k) : Sep W w0 w (A :: L) := by
  have hd := List.pairwise_append.1 M.disj
  refine ⟨M.keep, fun B hB => ?_, List.pairwise_cons.2 ⟨fun C hC k hk hk' => ?_, hd.2.1⟩, fun B hB k hk => ?_⟩
  · rcases List.mem_cons.1 hB with rfl | hB
    · exact hA
    · exact M.holds B (List.mem_append_right _ hB)
  · obtain ⟨B, hB, h⟩ := hf k hk
    exact hd.2.2 B hB C hC k h hk'
  · rcases List.mem_cons.1 hB with rfl | hB
    · obtain ⟨C, hC, h⟩ := hf k hk
      exact M.own C (List.mem_append_left _ hC) k h
    · exact M.own B (List.mem_append_right _ hB) k hk
/-- Some pieces, by their places. -/
def selL (L : List Asn) : List Nat → Option (List Asn)
  | [] => some []
  | i :: r => match L[i]?, selL L r with
    | some A, some R => some (A :: R)
    | _, _ => none
theorem selL_spec {L : List Asn} : ∀ (is : List Nat) (L' : List Asn), selL L is = some L' → L'.length = is.length ∧ ∀ (j : Nat) (A : Asn), L'[j]? = some A → ∃ i, is[j]? = some i ∧ L[i]? = some A
  | [], L', h => by simp [selL] at h; subst h; simp
  | i :: r, L', h => by
    unfold selL at h
    split at h
    · rename_i A R hA hR
      obtain rfl := Option.some.inj h
      obtain ⟨h1, h2⟩ := selL_spec r R hR
      refine ⟨by simp [h1], fun j B hj => ?_⟩
      rcases j with _ | j
      · simp at hj; subst hj; exact ⟨i, rfl, hA⟩
      · simpa using h2 j B (by simpa using hj)
    · cases h
theorem Sep.sel {W : Nat → Prop} {w0 w : World} {L L' : List Asn} (M : Sep W w0 w L) (is : List Nat) (h : selL L is = some L') (hn : is.Nodup) : Sep W w0 w L' := by
  obtain ⟨hl, hs⟩ := selL_spec is L' h
  have hmem : ∀ A ∈ L', A ∈ L := fun A hA => by
    obtain ⟨j, hj⟩ := List.mem_iff_getElem?.1 hA
    obtain ⟨i, _, h2⟩ := hs j A hj
    exact List.mem_of_getElem? h2
  refine ⟨M.keep, fun A hA => M.holds A (hmem A hA), List.pairwise_iff_getElem.2 fun x y hx hy hxy k hk hk' => ?_, fun A hA => M.own A (hmem A hA)⟩
  obtain ⟨i, h1, h2⟩ := hs x _ (List.getElem?_eq_getElem hx)
  obtain ⟨i', h3, h4⟩ := hs y _ (List.getElem?_eq_getElem hy)
  obtain ⟨h5, h6⟩ := List.getElem?_eq_some_iff.1 h1
  obtain ⟨h7, h8⟩ := List.getElem?_eq_some_iff.1 h3
  have hne : i ≠ i' := fun e => by
    have := (List.nodup_iff_pairwise_ne.1 hn)
    have := List.pairwise_iff_getElem.1 this x y h5 h7 hxy
    rw [h6, h8] at this
    exact this e
  obtain ⟨h9, h10⟩ := List.getElem?_eq_some_iff.1 h2
  obtain ⟨h11, h12⟩ := List.getElem?_eq_some_iff.1 h4
  rw [← h10] at hk
  rw [← h12] at hk'
  rcases Nat.lt_or_gt_of_ne hne with h | h
  · exact List.pairwise_iff_getElem.1 M.disj i i' h9 h11 h k hk hk'
  · exact List.pairwise_iff_getElem.1 M.disj i' i h11 h9 h k hk' hk
/-- A piece made of pieces. -/
def boxA (F : Nat → Prop) (Phi : List Asn → Prop) : Asn where
  fp := F
  holds w := (∃ L, Phi L ∧ (∀ A ∈ L, A.holds w) ∧ (L.Pairwise fun A B => ∀ k, A.fp k → ¬ B.fp k) ∧ ∀ A ∈ L, ∀ k, A.fp k → F k) ∧ ∀ k, F k → k < w.heap.size
  loc {w w'} h hk := by
    obtain ⟨⟨L, h1, h2, h3, h4⟩, h5⟩ := h
    refine ⟨⟨L, h1, fun A hA => A.loc (h2 A hA) fun k hkA => hk k (h4 A hA k hkA), h3, h4⟩, fun k hF => ?_⟩
    have h6 := h5 k hF
    have h7 := hk k hF
    rw [Array.getElem?_eq_getElem h6] at h7
    exact (Array.getElem?_eq_some_iff.1 h7).1
  lt h k hk := h.2 k hk
theorem box_open {F : Nat → Prop} {Phi : List Asn → Prop} {w : World} (h : (boxA F Phi).holds w) : ∃ L, Phi L ∧ Sep F w w L := by
  obtain ⟨⟨L, h1, h2, h3, h4⟩, h5⟩ := h
  exact ⟨L, h1, Kp.refl _ _, h2, h3, fun A hA k hk => .inl (h4 A hA k hk)⟩
theorem Sep.unbox {W : Nat → Prop} {w0 w : World} {F : Nat → Prop} {Phi : List Asn → Prop} {L : List Asn} (M : Sep W w0 w (boxA F Phi :: L)) : ∃ L', Phi L' ∧ Sep W w0 w (L' ++ L) := by
  obtain ⟨⟨L', h1, h2, h3, h4⟩, _⟩ := M.get 0 rfl
  exact ⟨L', h1, M.split L' h2 h3 h4⟩
/-- Where a list of pieces lies. -/
def fps (L : List Asn) (k : Nat) : Prop := ∃ A ∈ L, A.fp k
theorem Sep.boxed {W : Nat → Prop} {w0 w : World} {L L' : List Asn} (M : Sep W w0 w (L' ++ L)) {Phi : List Asn → Prop} (h : Phi L') : Sep W w0 w (boxA (fps L') Phi :: L) := by
  refine M.join _ ⟨⟨L', h, fun A hA => M.holds A (List.mem_append_left _ hA), (List.pairwise_append.1 M.disj).1, fun A hA k hk => ⟨A, hA, hk⟩⟩, fun k hk => ?_⟩ fun k hk => hk
  obtain ⟨A, hA, hk⟩ := hk
  exact A.lt (M.holds A (List.mem_append_left _ hA)) k hk
theorem box_post {F : Nat → Prop} {w w' : World} {L L' : List Asn} {v : Value} {e : Ending} (M : Sep F w w' (L' ++ L)) {Phi : List Asn → Prop} (h : Phi L') (he : e = .returned v) : CPost (fun F => boxA F Phi) F v w e w' := by
  have M' := M.boxed h
  exact ⟨he, fps L', M.keep, M'.get 0 rfl, M'.own _ (.head _)⟩
theorem box_post0 {F : Nat → Prop} {w w' : World} {L' : List Asn} {v : Value} {e : Ending} (M : Sep F w w' L') {Phi : List Asn → Prop} (h : Phi L') (he : e = .returned v) : CPost (fun F => boxA F Phi) F v w e w' :=
  box_post (L := []) (M.as (List.append_nil _).symm) h he
/-- A piece in new memory. -/
structure NewA (A : (Nat → Prop) → Asn) (w w' : World) : Prop where
  ex : ∃ F, (A F).holds w' ∧ (∀ k, F k → w.heap.size ≤ k) ∧ Below w.heap.size w w'
theorem newA_box {w w' : World} {L L' : List Asn} (M : Sep (fun _ => False) w w' (L' ++ L)) {Phi : List Asn → Prop} (h : Phi L') : NewA (fun F => boxA F Phi) w w' := by
  have M' := M.boxed h
  exact ⟨fps L', M'.get 0 rfl, fun k hk => (M'.own _ (.head _) k hk).resolve_left id, M.out⟩
theorem newA_box0 {w w' : World} {L' : List Asn} (M : Sep (fun _ => False) w w' L') {Phi : List Asn → Prop} (h : Phi L') : NewA (fun F => boxA F Phi) w w' := newA_box (L := []) (M.as (List.append_nil _).symm) h
/-- Without a tape. -/
theorem tp_nil {bl : List (List UInt8)} {v : Value} {w : World} {e : Ending} {w' : World} (h : TPost (fun _ => False) (.pointer none) bl v w e w') : e = .returned v ∧ Below w.heap.size w w' := by
  obtain ⟨rfl, F', hk, _⟩ := h
  exact ⟨rfl, hk.below (Nat.le_refl _) fun _ h => h.elim⟩
/-- A row in new memory. -/
structure NewRow (e : TypeId) (sz n : Nat) (xs : List Value) (w : World) (v : Value) (w' : World) : Prop where
  row : (rowA e sz v n xs).holds w'
  new : ∀ k, v.ownBlock = some k → w.heap.size ≤ k
  below : Below w.heap.size w w'
theorem Sep.addRow {W : Nat → Prop} {w0 w w' : World} {L : List Asn} {e : TypeId} {sz n : Nat} {xs : List Value} {v : Value} (M : Sep W w0 w L) (h : NewRow e sz n xs w v w') : Sep W w0 w' (rowA e sz v n xs :: L) := M.add h.below _ h.row fun k hk => h.new k hk
theorem Sep.addA {W : Nat → Prop} {w0 w w' : World} {L : List Asn} {A : (Nat → Prop) → Asn} (hA : ∀ F k, (A F).fp k → F k) (M : Sep W w0 w L) (h : NewA A w w') : ∃ F, Sep W w0 w' (A F :: L) := by
  obtain ⟨F, h1, h2, h3⟩ := h.ex
  exact ⟨F, M.add h3 _ h1 fun k hk => h2 k (hA F k hk)⟩
theorem Sep.apart {W : Nat → Prop} {w0 w : World} {L : List Asn} (M : Sep W w0 w L) (i j : Nat) {A B : Asn} (hi : L[i]? = some A) (hj : L[j]? = some B) (hij : i ≠ j) : ∀ k, A.fp k → ¬ B.fp k := fun k hk hk' => by
  obtain ⟨h1, h2⟩ := List.getElem?_eq_some_iff.1 hi
  obtain ⟨h3, h4⟩ := List.getElem?_eq_some_iff.1 hj
  rw [← h2] at hk
  rw [← h4] at hk'
  rcases Nat.lt_or_gt_of_ne hij with h | h
  · exact List.pairwise_iff_getElem.1 M.disj i j h1 h3 h k hk hk'
  · exact List.pairwise_iff_getElem.1 M.disj j i h3 h1 h k hk' hk
/-! What a value's cells are, by its form. -/
theorem cI {k : IntKind} {n : Int} : (Value.int k n).cells = [Value.int k n].toArray := rfl
theorem cB {b : Bool} : (Value.bool b).cells = [Value.bool b].toArray := rfl
theorem cS {a : Option Addr} {n c : Nat} : (Value.slice a n c).cells = [Value.slice a n c].toArray := rfl
theorem cP {a : Option Addr} : (Value.pointer a).cells = [Value.pointer a].toArray := rfl
theorem cA {l : List Value} : (Value.agg l.toArray).cells = l.toArray := rfl
theorem f1I {k : IntKind} {n : Int} : flatC [Value.int k n] = [Value.int k n] := rfl
theorem f2I {k k' : IntKind} {n n' : Int} : flatC [Value.int k n, .int k' n'] = [Value.int k n, .int k' n'] := rfl
theorem f1S {a : Option Addr} {n c : Nat} : flatC [Value.slice a n c] = [Value.slice a n c] := rfl
theorem f1P {a : Option Addr} : flatC [Value.pointer a] = [Value.pointer a] := rfl
theorem f1N {x y : Value} : flatC [Value.agg #[x, y]] = [x, y] := rfl
theorem f2N {x y z u : Value} : flatC [Value.agg #[x, y], .agg #[z, u]] = [x, y, z, u] := rfl
theorem f4N {x y z u p q r s : Value} : flatC [Value.agg #[x, y], .agg #[z, u], .agg #[p, q], .agg #[r, s]] = [x, y, z, u, p, q, r, s] := rfl
theorem f5N {x y z u p q r s c d : Value} : flatC [Value.agg #[x, y], .agg #[z, u], .agg #[p, q], .agg #[r, s], .agg #[c, d]] = [x, y, z, u, p, q, r, s, c, d] := rfl
theorem f1A {l : List Value} : flatC [Value.agg l.toArray] = l := by simp [flatC, Value.cells]
theorem f2S {a a' : Option Addr} {n c n' c' : Nat} : flatC [Value.slice a n c, .slice a' n' c'] = [Value.slice a n c, .slice a' n' c'] := rfl
theorem f3S {a a' a2 : Option Addr} {n c n' c' n2 c2 : Nat} : flatC [Value.slice a n c, .slice a' n' c', .slice a2 n2 c2] = [Value.slice a n c, .slice a' n' c', .slice a2 n2 c2] := rfl
theorem h1v {x : List UInt8} : [Value.agg (bcs x).toArray] = [x].map hv := rfl
theorem h2v {x y : List UInt8} : [Value.agg (bcs x).toArray, .agg (bcs y).toArray] = [x, y].map hv := rfl
theorem h3v {x y z : List UInt8} : [Value.agg (bcs x).toArray, .agg (bcs y).toArray, .agg (bcs z).toArray] = [x, y, z].map hv := rfl
theorem h4v {x y z u : List UInt8} : [Value.agg (bcs x).toArray, .agg (bcs y).toArray, .agg (bcs z).toArray, .agg (bcs u).toArray] = [x, y, z, u].map hv := rfl
theorem flat_hv (hs : List (List UInt8)) : flatC (hs.map hv) = hcs hs := by
  induction hs with
  | nil => rfl
  | cons x r ih =>
    have : flatC ((x :: r).map hv) = (hv x).cells.toList ++ flatC (r.map hv) := rfl
    rw [this, ih]; simp [hv, Value.cells, hcs]
theorem f2A {l l' : List Value} : flatC [Value.agg l.toArray, .agg l'.toArray] = l ++ l' := by simp [flatC, Value.cells]
theorem fAll {l : List Value} : flatC l = flatC l := rfl

/-! ### In the order of the text -/
section
variable {W : Nat → Prop} {w0 w : World} {L L' : List Asn} {ops : Array Oper} {rest : List Oper} {o : Oper} {a : Act} {Q : Exit → Act → World → Prop}
theorem al_alloc (M : Sep W w0 w L) {e : TypeId} {n : Nat} {row : Bool} {zs : List Value} [T : TyI e n row zs] (hgd : Region.wanted o (yielded ops a.tmps) = true) (ho : o.op = .alloc e)
    (h : ∀ b w', Sep W w0 w' (pts b e zs :: L) → wpList Tryz.prog ops Q rest (a.put o.dst (ptr b 0)) w') : wpList Tryz.prog ops Q (o :: rest) a w := wl_alloc M hgd ho T.ty h
theorem al_box (M : Sep W w0 w L) {e : TypeId} {x : Operand} {v : Value} {cs : List Value} (hgd : Region.wanted o (yielded ops a.tmps) = true) (ho : o.op = .box e x) (hx : a.eval x = v) (hv : v.cells = cs.toArray)
    (h : ∀ b w', Sep W w0 w' (pts b e cs :: L) → wpList Tryz.prog ops Q rest (a.put o.dst (ptr b 0)) w') : wpList Tryz.prog ops Q (o :: rest) a w := wl_box M cs hgd ho hx hv h
/-- A load from a row of memory that is told otherwise. -/
theorem al_ldr (M : Sep W w0 w L) {t : TypeId} {n : Nat} {row : Bool} {zs ds : List Value} {x : Operand} {b off : Nat} {v : Value} [T : TyI t n row zs] (hgd : Region.wanted o (yielded ops a.tmps) = true) (ho : o.op = .load t x) (hx : a.eval x = ptr b off) (hr : w.rangeAt b off ds) (hl : ds.length = n)
    (hv : (row = true ∧ v = .agg ds.toArray) ∨ (row = false ∧ n = 1 ∧ ds = [v])) (h : wpList Tryz.prog ops Q rest (a.put o.dst v) w) : wpList Tryz.prog ops Q (o :: rest) a w :=
  wl_plain hgd fun _ hK => by
    have hT := T.ty
    rcases hv with ⟨rfl, rfl⟩ | ⟨rfl, rfl, rfl⟩
    · exact wp_loadn ho hx hT hr hl (hK _ _ h)
    · exact wp_load1 ho hx hT (cell_of_range hr) (hK _ _ h)
theorem al_ld (M : Sep W w0 w L) {t e : TypeId} {n : Nat} {row : Bool} {zs cs ds : List Value} {x : Operand} {b off : Nat} {v : Value} [T : TyI t n row zs] (hgd : Region.wanted o (yielded ops a.tmps) = true) (ho : o.op = .load t x) (hx : a.eval x = ptr b off) [I : PtsIn b L e cs] (hv : LdV n row cs off v ds)
    (h : wpList Tryz.prog ops Q rest (a.put o.dst v) w) : wpList Tryz.prog ops Q (o :: rest) a w := al_ldr M hgd ho hx (hv.range (M.holds _ I.mem)) hv.len hv.val h
/-- A load from a variable that was there and stays as it is. -/
theorem al_ldo (M : Sep W w0 w L) {t e : TypeId} {n : Nat} {row : Bool} {zs cs ds : List Value} {x : Operand} {b off : Nat} {v : Value} (hp : (pts b e cs).holds w0) (hb : ¬ W b) [T : TyI t n row zs] (hgd : Region.wanted o (yielded ops a.tmps) = true) (ho : o.op = .load t x) (hx : a.eval x = ptr b off) (hv : LdV n row cs off v ds)
    (h : wpList Tryz.prog ops Q rest (a.put o.dst v) w) : wpList Tryz.prog ops Q (o :: rest) a w := al_ldr M hgd ho hx (hv.range (M.old _ hp fun k hk => by rw [show k = b from hk]; exact hb)) hv.len hv.val h
theorem al_st (M : Sep W w0 w L) {t e : TypeId} {n : Nat} {row : Bool} {zs cs ds cs' : List Value} {F : List Value → List Asn} {x y : Operand} {b off : Nat} {v : Value} [T : TyI t n row zs] (hgd : Region.wanted o (yielded ops a.tmps) = true) (ho : o.op = .store t x y) (hx : a.eval x = ptr b off) [I : PtsRepl b L e cs F] (hy : a.eval y = v)
    (hv : v.cells = ds.toArray) (hl : ds.length = n) (h1 : ones ds) (hn : off + n ≤ cs.length) (hs : splice cs off ds = cs')
    (h : ∀ w', Sep W w0 w' (F cs') → wpList Tryz.prog ops Q rest (a.put o.dst undef) w') : wpList Tryz.prog ops Q (o :: rest) a w := wl_store M ds hgd ho hx hy T.ty hv hl h1 (by rw [hs]; exact I.repl _) hn h
theorem bsl_parts {len : Nat} {parts : Array (Nat × Operand)} (hp : parts.toList.map (·.1) = List.range len) : len = (parts.toList.map fun x => a.eval x.2).length ∧ parts.toList.map (fun x => (x.1, a.eval x.2)) = ((parts.toList.map fun x => a.eval x.2).zipIdx 0).map fun x => (x.2, x.1) := by
  have hl : len = (parts.toList.map fun x => a.eval x.2).length := by
    have := congrArg List.length hp
    simp only [List.length_map, List.length_range] at this ⊢
    exact this.symm
  refine ⟨hl, ?_⟩
  apply List.ext_getElem
  · simp
  · intro j h1 h2
    simp only [List.getElem_map, List.getElem_zipIdx, Nat.zero_add, Prod.mk.injEq, and_true]
    have h3 : (parts.toList.map (·.1))[j]? = (List.range len)[j]? := by rw [hp]
    have h4 : j < parts.toList.length := by simpa using h1
    have h5 : j < len := by rw [hl]; simpa using h4
    rw [List.getElem?_map, List.getElem?_eq_getElem h4, List.getElem?_eq_getElem (by simpa using h5)] at h3
    simpa using h3
theorem al_bsl (M : Sep W w0 w L) {t e : TypeId} {sz bytes : Nat} [E : ElI t e sz bytes] {len : Nat} {parts : Array (Nat × Operand)} {cs : List Value} (hgd : Region.wanted o (yielded ops a.tmps) = true) (ho : o.op = .buildSlice t len parts)
    (hp : parts.toList.map (·.1) = List.range len) (hsz : (parts.toList.all fun x => (a.eval x.2).cells.size == sz) = true) (hpos : Nat.ble 1 len = true) (hm : Nat.ble (len * sz) 16777216 = true) (hc : flatC (parts.toList.map fun x => a.eval x.2) = cs)
    (h : ∀ b w', Sep W w0 w' (pts b e cs :: L) → wpList Tryz.prog ops Q rest (a.put o.dst (.slice (some ⟨b, 0, none⟩) len len)) w') : wpList Tryz.prog ops Q (o :: rest) a w := by
  subst hc
  obtain ⟨h1, h2⟩ := bsl_parts (a := a) hp
  refine wl_bslice M E.el (parts.toList.map fun x => a.eval x.2) hgd ho h2 (fun v hv => ?_) h1 (Nat.le_of_ble_eq_true hpos) (Nat.le_of_ble_eq_true hm) h
  obtain ⟨x, hx, rfl⟩ := List.mem_map.1 hv
  have := List.all_eq_true.1 hsz x hx
  simpa using this
/-- A whole variable is stored. -/
theorem al_sh (M : Sep W w0 w L) {t e : TypeId} {n : Nat} {row : Bool} {zs cs ds : List Value} {F : List Value → List Asn} {p y : Operand} {b : Nat} [T : TyI t n row zs] (hgd : Region.wanted o (yielded ops a.tmps) = true) (ho : o.op = .store t p y) (hx : a.eval p = ptr b 0) [I : PtsRepl b L e cs F] (hy : a.eval y = .agg ds.toArray) [H : Blob ds n] (hn : cs.length = n)
    (h : ∀ w', Sep W w0 w' (F ds) → wpList Tryz.prog ops Q rest (a.put o.dst undef) w') : wpList Tryz.prog ops Q (o :: rest) a w :=
  al_st M hgd ho hx hy cA H.len H.one (by omega) (splice_all cs ds (by rw [hn, H.len])) h
theorem al_bsh (M : Sep W w0 w L) {t e : TypeId} {bytes : Nat} [E : ElI t e 32 bytes] {len : Nat} {parts : Array (Nat × Operand)} {hs : List (List UInt8)} (hgd : Region.wanted o (yielded ops a.tmps) = true) (ho : o.op = .buildSlice t len parts)
    (hp : parts.toList.map (·.1) = List.range len) (hv' : parts.toList.map (fun x => a.eval x.2) = hs.map hv) [H : H32s hs] (hpos : Nat.ble 1 len = true) (hm : Nat.ble (len * 32) 16777216 = true)
    (h : ∀ b w', Sep W w0 w' (pts b e (hcs hs) :: L) → wpList Tryz.prog ops Q rest (a.put o.dst (.slice (some ⟨b, 0, none⟩) len len)) w') : wpList Tryz.prog ops Q (o :: rest) a w := by
  refine al_bsl M hgd ho hp ?_ hpos hm (by rw [hv', flat_hv]) h
  have h1 : (parts.toList.map fun x => a.eval x.2).all (fun v => v.cells.size == 32) = true := by
    rw [hv', List.all_map, List.all_eq_true]
    intro x hx
    simp [hv, Value.cells, bcs_length, H.all x hx]
  rw [List.all_map] at h1
  exact h1
/-- make([]T, 0, c). -/
theorem al_make0 (M : Sep W w0 w L) {t e : TypeId} {sz bytes : Nat} [E : ElI t e sz bytes] {c : Nat} {x y : Operand} (hgd : Region.wanted o (yielded ops a.tmps) = true) (ho : o.op = .makeSlice t x y) (hx : a.eval x = .int .i64 0) (hy : a.eval y = .int .i64 c) (hc : c * bytes ≤ 1048576) (hcm : c ≤ 1048576)
    (h : ∀ b w', Sep W w0 w' (rowA e sz (.slice (some ⟨b, 0, none⟩) 0 c) 0 [] :: L) → wpList Tryz.prog ops Q rest (a.put o.dst (.slice (some ⟨b, 0, none⟩) 0 c)) w') : wpList Tryz.prog ops Q (o :: rest) a w := by
  refine wl_plain hgd fun K hK => ?_
  obtain ⟨i, z, hi, hz, hsi, hb, hzc⟩ := E.el.info
  have hr := run_make (P := Tryz.prog) w t e i z E.el.slice hi hz .i64 .i64 0 c (Int.le_refl _) (by omega) (by rw [hb, Int.mul_comm]; have h1 : ((c * bytes : Nat) : Int) ≤ 1048576 := Int.ofNat_le.2 hc; rw [Int.natCast_mul] at h1; exact Int.le_trans h1 (by decide)) (by omega)
  have hml : c ≤ maxLen := by unfold maxLen; omega
  simp only [Int.toNat_natCast, Int.toNat_zero] at hr
  unfold Oper.wp execOp
  simp only [ho, hx, hy, Sem.run_bind, hr, Result.andThen_ok, Sem.run_pure]
  refine hK _ _ (h _ _ (M.add ((Below.refl _ _).alloc (Nat.le_refl _) _) _ ?_ ?_))
  · exact World.ownsRow_made w _ c (Nat.zero_le _) hml (by rw [size_madeCells, hsi])
  · intro k hk
    cases hk
    exact Nat.le_refl _
/-- APPEND of what a variable holds to a row of one's own. -/
theorem al_app (M : Sep W w0 w L) {t e e' : TypeId} {sz sz' bytes : Nat} [E : ElI t e sz bytes] {s x : Operand} {F : Value → Nat → List Value → List Asn} {ao : Option Addr} {n n' cp m c b : Nat} {xs news : List Value} (hgd : Region.wanted o (yielded ops a.tmps) = true) (ho : o.op = .call { callee := .builtin .append, args := #[s, x], argTypes := #[t, t] })
    (hs : a.eval s = .slice ao n cp) [I : RowRepl (.slice ao n cp) L e sz' n' xs F] (hx : a.eval x = .slice (some ⟨b, 0, none⟩) m c) [J : PtsIn b L e' news] (hz : sz' = sz) (hn : n' = n) (hl : news.length = m * sz) (hmc : Nat.ble m c = true) (hc : Nat.ble c 1048576 = true) (h1 : ones news) (hb : (n + m) * bytes ≤ 140737488355328)
    (h : ∀ ao' c' w', Sep W w0 w' (F (.slice ao' (n + m) c') (n + m) (xs ++ news)) → wpList Tryz.prog ops Q rest (a.put o.dst (.slice ao' (n + m) c')) w') : wpList Tryz.prog ops Q (o :: rest) a w := by
  subst hz
  subst hn
  exact wl_app M E.el hgd ho hs hx (fun v' => I.repl _ _ _) (.inr ⟨b, 0, c, rfl, Nat.le_of_ble_eq_true hmc, Nat.le_trans (Nat.le_of_ble_eq_true hc) (by unfold maxLen; omega), hl, range_all (M.holds _ J.mem)⟩) h1 hb h
theorem al_apps (M : Sep W w0 w L) {t e : TypeId} {sz sz' bytes : Nat} [E : ElI t e sz bytes] {s x : Operand} {F : Value → Nat → List Value → List Asn} {ao : Option Addr} {n n' cp m : Nat} {xv : Value} {xs news : List Value} (hgd : Region.wanted o (yielded ops a.tmps) = true) (ho : o.op = .call { callee := .builtin .append, args := #[s, x], argTypes := #[t, t] })
    (hs : a.eval s = .slice ao n cp) [I : RowRepl (.slice ao n cp) L e sz' n' xs F] (hx : a.eval x = xv) (hz : sz' = sz) (hn : n' = n) (hsrc : Sl w sz xv m news) (h1 : ones news) (hb : (n + m) * bytes ≤ 140737488355328)
    (h : ∀ ao' c' w', Sep W w0 w' (F (.slice ao' (n + m) c') (n + m) (xs ++ news)) → wpList Tryz.prog ops Q rest (a.put o.dst (.slice ao' (n + m) c')) w') : wpList Tryz.prog ops Q (o :: rest) a w := by
  subst hz
  subst hn
  exact wl_app M E.el hgd ho hs hx (fun v' => I.repl _ _ _) hsrc h1 hb h
theorem al_app0 (M : Sep W w0 w L) {t e : TypeId} {sz bytes : Nat} [E : ElI t e sz bytes] {s x : Operand} {m : Nat} {xv : Value} {news : List Value} (hgd : Region.wanted o (yielded ops a.tmps) = true) (ho : o.op = .call { callee := .builtin .append, args := #[s, x], argTypes := #[t, t] })
    (hs : a.eval s = .slice none 0 0) (hx : a.eval x = xv) (hsrc : Sl w sz xv m news) (h1 : ones news) (hb : m * bytes ≤ 140737488355328)
    (h : ∀ ao c w', Sep W w0 w' (rowA e sz (.slice ao m c) m news :: L) → wpList Tryz.prog ops Q rest (a.put o.dst (.slice ao m c)) w') : wpList Tryz.prog ops Q (o :: rest) a w := wl_app0 M E.el hgd ho hs hx hsrc h1 hb h
end

/-! ### In a region that draws its order -/
section
variable {C : World → Prop} {ops : Array Oper} {toks : List Tok} {Q : Act → (Nat → GV) → Prop} {i : Nat} {o : Oper} {rest : List Oper} {ss : List OSp} {val : Nat → GV} {a : Act}
/-- Operation i may read such a piece. -/
inductive Has (toks : List Tok) (i : Nat) (val : Nat → GV) (A : Asn) : Prop
  | at (x : Nat) {t : Tok} (hx : toks[x]? = some t) (hu : (t.rds.contains i || t.cons == some i) = true) (ha : t.at_ val = A)
theorem Has.holds {A : Asn} (h : Has toks i val A) : ∀ w, Ins C toks i val w → A.holds w := fun w hI => by
  obtain ⟨x, hx, hu, rfl⟩ := h
  exact ins_get hI x hx hu
/-- Operation i uses up such a piece. -/
inductive Uses (toks : List Tok) (i : Nat) (val : Nat → GV) (A : Asn) : Prop
  | at (x : Nat) {t : Tok} (hx : toks[x]? = some t) (hu : (t.cons == some i) = true) (ha : t.at_ val = A) (hb : ∀ g, t.at_ (upd val i g) = A)
/-- Operation i makes such a piece, and no other one. -/
inductive Makes (toks : List Tok) (i : Nat) (val : Nat → GV) (A : GV → Asn) : Prop
  | at (x : Nat) {t : Tok} (hx : toks[x]? = some t) (hu : prodB toks i x = true) (ha : ∀ g, t.at_ (upd val i g) = A g)
theorem wk_ldr {t : TypeId} {n : Nat} {row : Bool} {zs ds : List Value} {x : Operand} {b off : Nat} {v : Value} [T : TyI t n row zs] (ho : o.op = .load t x) (hx : a.eval x = ptr b off) (hw : Region.wanted o (yielded ops a.tmps) = true) (hr : ∀ w, Ins C toks i val w → w.rangeAt b off ds) (hl : ds.length = n)
    (hv : (row = true ∧ v = .agg ds.toArray) ∨ (row = false ∧ n = 1 ∧ ds = [v])) (h : Walk Tryz.prog ops toks C Q (i + 1) rest ss (upd val i (gq v)) (a.put o.dst v)) : Walk Tryz.prog ops toks C Q i (o :: rest) (.q :: ss) val a := by
  have hT := T.ty
  rcases hv with ⟨rfl, rfl⟩ | ⟨rfl, rfl, rfl⟩
  · exact walk_loadn ho hx hT hl hw hr h
  · exact walk_load1 ho hx hT hw (fun w hI => cell_of_range (hr w hI)) h
theorem wk_ld {t e : TypeId} {n : Nat} {row : Bool} {zs cs ds : List Value} {x : Operand} {b off : Nat} {v : Value} [T : TyI t n row zs] (ho : o.op = .load t x) (hx : a.eval x = ptr b off) (hw : Region.wanted o (yielded ops a.tmps) = true) (hm : Has toks i val (pts b e cs)) (hv : LdV n row cs off v ds)
    (h : Walk Tryz.prog ops toks C Q (i + 1) rest ss (upd val i (gq v)) (a.put o.dst v)) : Walk Tryz.prog ops toks C Q i (o :: rest) (.q :: ss) val a :=
  wk_ldr ho hx hw (fun w hI => hv.range (hm.holds w hI)) hv.len hv.val h
theorem wk_alloc {e : TypeId} {n : Nat} {row : Bool} {zs : List Value} {d : Tmp} [T : TyI e n row zs] (ho : o.op = .alloc e) (hd : o.dst = some d) (hlt : Nat.ble (d + 1) a.tmps.size = true) (hw : Region.wanted o (yielded ops a.tmps) = true)
    (hm : Makes toks i val (fun g => pts (blkOf g.1) e zs)) (hf : freeB toks i = true)
    (h : ∀ b, Walk Tryz.prog ops toks C Q (i + 1) rest ss (upd val i (gq (ptr b 0))) (a.put o.dst (ptr b 0))) : Walk Tryz.prog ops toks C Q i (o :: rest) (ospP :: ss) val a := by
  obtain ⟨x, hx, hu, ha⟩ := hm
  exact walk_alloc x ho hd hlt T.ty hx (by rw [hu, hf]; rfl) hw (fun b => ha _) h
theorem wk_box {e : TypeId} {p : Operand} {v : Value} {cs : List Value} {d : Tmp} (ho : o.op = .box e p) (hd : o.dst = some d) (hlt : Nat.ble (d + 1) a.tmps.size = true) (hp : a.eval p = v) (hv : v.cells = cs.toArray) (hw : Region.wanted o (yielded ops a.tmps) = true)
    (hm : Makes toks i val (fun g => pts (blkOf g.1) e cs)) (hf : freeB toks i = true)
    (h : ∀ b, Walk Tryz.prog ops toks C Q (i + 1) rest ss (upd val i (gq (ptr b 0))) (a.put o.dst (ptr b 0))) : Walk Tryz.prog ops toks C Q i (o :: rest) (ospP :: ss) val a := by
  obtain ⟨x, hx, hu, ha⟩ := hm
  exact walk_box x ho hd hlt hp hv hx (by rw [hu, hf]; rfl) hw (fun b => ha _) h
theorem wk_bsl {t e : TypeId} {sz bytes : Nat} [E : ElI t e sz bytes] {len : Nat} {parts : Array (Nat × Operand)} {cs : List Value} {d : Tmp} (ho : o.op = .buildSlice t len parts) (hd : o.dst = some d) (hlt : Nat.ble (d + 1) a.tmps.size = true) (hw : Region.wanted o (yielded ops a.tmps) = true)
    (hp : parts.toList.map (·.1) = List.range len) (hsz : (parts.toList.all fun x => (a.eval x.2).cells.size == sz) = true) (hpos : Nat.ble 1 len = true) (hmx : Nat.ble (len * sz) 16777216 = true) (hc : flatC (parts.toList.map fun x => a.eval x.2) = cs)
    (hm : Makes toks i val (fun g => pts (blkOf g.1) e cs)) (hf : freeB toks i = true)
    (h : ∀ b, Walk Tryz.prog ops toks C Q (i + 1) rest ss (upd val i (gq (.slice (some ⟨b, 0, none⟩) len len))) (a.put o.dst (.slice (some ⟨b, 0, none⟩) len len))) : Walk Tryz.prog ops toks C Q i (o :: rest) (ospB len :: ss) val a := by
  obtain ⟨x, hx, hu, ha⟩ := hm
  subst hc
  obtain ⟨h1, h2⟩ := bsl_parts (a := a) hp
  refine walk_bslice E.el x (parts.toList.map fun x => a.eval x.2) ho hd hlt h2 (fun v hv => ?_) h1 (Nat.le_of_ble_eq_true hpos) (Nat.le_of_ble_eq_true hmx) hx (by rw [hu, hf]; rfl) hw (fun b => ha _) h
  obtain ⟨y, hy, rfl⟩ := List.mem_map.1 hv
  have := List.all_eq_true.1 hsz y hy
  simpa using this
theorem wk_st {t e : TypeId} {n : Nat} {row : Bool} {zs cs ds cs' : List Value} {p q : Operand} {b off : Nat} {v : Value} [T : TyI t n row zs] (ho : o.op = .store t p q) (hd : o.dst = none) (hp : a.eval p = ptr b off) (hw : Region.wanted o (yielded ops a.tmps) = true) (hm : Uses toks i val (pts b e cs)) (hq : a.eval q = v)
    (hv : v.cells = ds.toArray) (hl : ds.length = n) (h1 : ones ds) (hn : off + n ≤ cs.length) (hs : splice cs off ds = cs') (hm' : Makes toks i val (fun _ => pts b e cs'))
    (h : Walk Tryz.prog ops toks C Q (i + 1) rest ss (upd val i (gq undef)) a) : Walk Tryz.prog ops toks C Q i (o :: rest) (ospU :: ss) val a := by
  obtain ⟨y, hy, hu, ha, hb⟩ := hm
  obtain ⟨x, hx, hpx, hc⟩ := hm'
  exact walk_store y x ds ho hd hp hq T.ty hv hl h1 hn hy hx (by rw [hpx, hu]; rfl) hw (hb _) ha (by rw [hs]; exact hc _) h
theorem wk_sh {t e : TypeId} {n : Nat} {row : Bool} {zs cs ds : List Value} {p q : Operand} {b : Nat} [T : TyI t n row zs] (ho : o.op = .store t p q) (hd : o.dst = none) (hp : a.eval p = ptr b 0) (hw : Region.wanted o (yielded ops a.tmps) = true) (hm : Uses toks i val (pts b e cs)) (hq : a.eval q = .agg ds.toArray) [H : Blob ds n] (hn : cs.length = n) (hm' : Makes toks i val (fun _ => pts b e ds))
    (h : Walk Tryz.prog ops toks C Q (i + 1) rest ss (upd val i (gq undef)) a) : Walk Tryz.prog ops toks C Q i (o :: rest) (ospU :: ss) val a :=
  wk_st ho hd hp hw hm hq cA H.len H.one (by omega) (splice_all cs ds (by rw [hn, H.len])) hm' h
theorem wk_bsh {t e : TypeId} {bytes : Nat} [E : ElI t e 32 bytes] {len : Nat} {parts : Array (Nat × Operand)} {hs : List (List UInt8)} {d : Tmp} (ho : o.op = .buildSlice t len parts) (hd : o.dst = some d) (hlt : Nat.ble (d + 1) a.tmps.size = true) (hw : Region.wanted o (yielded ops a.tmps) = true)
    (hp : parts.toList.map (·.1) = List.range len) (hv' : parts.toList.map (fun x => a.eval x.2) = hs.map hv) [H : H32s hs] (hpos : Nat.ble 1 len = true) (hmx : Nat.ble (len * 32) 16777216 = true)
    (hm : Makes toks i val (fun g => pts (blkOf g.1) e (hcs hs))) (hf : freeB toks i = true)
    (h : ∀ b, Walk Tryz.prog ops toks C Q (i + 1) rest ss (upd val i (gq (.slice (some ⟨b, 0, none⟩) len len))) (a.put o.dst (.slice (some ⟨b, 0, none⟩) len len))) : Walk Tryz.prog ops toks C Q i (o :: rest) (ospB len :: ss) val a := by
  refine wk_bsl ho hd hlt hw hp ?_ hpos hmx (by rw [hv', flat_hv]) hm hf h
  have h1 : (parts.toList.map fun x => a.eval x.2).all (fun v => v.cells.size == 32) = true := by
    rw [hv', List.all_map, List.all_eq_true]
    intro x hx
    simp [hv, Value.cells, bcs_length, H.all x hx]
  rw [List.all_map] at h1
  exact h1
/-- APPEND, to a row of one's own, of what another variable or row holds. -/
theorem wk_app {t e : TypeId} {sz bytes : Nat} [E : ElI t e sz bytes] {s x : Operand} {d : Tmp} {ao : Option Addr} {n m cp : Nat} {xv : Value} {xs news : List Value} (ho : o.op = .call { callee := .builtin .append, args := #[s, x], argTypes := #[t, t] }) (hd : o.dst = some d) (hlt : Nat.ble (d + 1) a.tmps.size = true)
    (hw : Region.wanted o (yielded ops a.tmps) = true) (hs : a.eval s = .slice ao n cp) (hm : Uses toks i val (rowA e sz (.slice ao n cp) n xs)) (hx : a.eval x = xv) (hsrc : ∀ w, Ins C toks i val w → Sl w sz xv m news) (h1 : ones news) (hb : (n + m) * bytes ≤ 140737488355328)
    (hm' : Makes toks i val (fun g => rowA e sz g.1 (n + m) (xs ++ news)))
    (h : ∀ ao c, Walk Tryz.prog ops toks C Q (i + 1) rest ss (upd val i (gq (.slice ao (n + m) c))) (a.put o.dst (.slice ao (n + m) c))) : Walk Tryz.prog ops toks C Q i (o :: rest) (ospS (n + m) :: ss) val a := by
  obtain ⟨y, hy, hu, ha, hb'⟩ := hm
  obtain ⟨z, hz, hpz, hc⟩ := hm'
  exact walk_app E.el y z ho hd hlt hs hx hsrc h1 hb hy hz (by rw [hpz, hu]; rfl) hw ha hb' (fun v' => hc _) rfl h
/-- A source that is a variable's cells. -/
theorem src_pts {e : TypeId} {b m c sz : Nat} {news : List Value} (hm : Has toks i val (pts b e news)) (hl : news.length = m * sz) (hmc : Nat.ble m c = true) (hc : Nat.ble c 1048576 = true) : ∀ w, Ins C toks i val w → Sl w sz (.slice (some ⟨b, 0, none⟩) m c) m news := fun w hI =>
  .inr ⟨b, 0, c, rfl, Nat.le_of_ble_eq_true hmc, Nat.le_trans (Nat.le_of_ble_eq_true hc) (by unfold maxLen; omega), hl, range_all (hm.holds w hI)⟩
theorem src_row {e : TypeId} {v : Value} {m sz : Nat} {news : List Value} (hm : Has toks i val (rowA e sz v m news)) : ∀ w, Ins C toks i val w → Sl w sz v m news := fun w hI => rowA.sl (hm.holds w hI)
/-- A call that turns a piece; where it lies is told on. -/
theorem wk_turnS {W : Nat → Prop} {w0 : World} {A : Asn} (N : (Nat → Prop) → Asn) {F0 F : Nat → Prop} {v : Value} {d : Tmp} (hF : ∀ k, F k → F0 k ∨ w0.heap.size ≤ k) (hw : Region.wanted o (yielded ops a.tmps) = true) (hd : o.dst = some d) (hlt : Nat.ble (d + 1) a.tmps.size = true)
    (hu : Uses toks i val A) (hm : Makes toks i val (fun g => N g.2)) (hAF : A.fp = F) (hN : ∀ F k, (N F).fp k → F k)
    (hcall : ∀ w, Ins (Kp W w0) toks i val w → A.holds w → ∀ (K : Act → World → Prop) (Q : Exit → Act → World → Prop), (∀ e w', CPost N F v w e w' → K (a.put o.dst v) w') → o.wp Tryz.prog a w K Q)
    (h : ∀ F', (∀ k, F' k → F0 k ∨ w0.heap.size ≤ k) → Walk Tryz.prog ops toks (Kp W w0) Q (i + 1) rest ss (upd val i (v, F')) (a.put o.dst v)) : Walk Tryz.prog ops toks (Kp W w0) Q i (o :: rest) (ospTS (fun k => F0 k ∨ w0.heap.size ≤ k) v :: ss) val a := by
  obtain ⟨y, hy, huy, ha, hb⟩ := hu
  obtain ⟨x, hx, hpx, hc⟩ := hm
  exact walk_turn y x hF (fun w k hC h => .inr (Nat.le_trans hC.size h)) hAF hN hy hx (by rw [hpx, huy]; rfl) hd hlt hw ha hb hc hcall h
theorem wk_row {e : TypeId} {sz n : Nat} {xs : List Value} {d : Tmp} (hw : Region.wanted o (yielded ops a.tmps) = true) (hd : o.dst = some d) (hlt : Nat.ble (d + 1) a.tmps.size = true)
    (hcall : ∀ w, Ins C toks i val w → ∀ (K : Act → World → Prop) (Q : Exit → Act → World → Prop), (∀ v w', NewRow e sz n xs w v w' → K (a.put o.dst v) w') → o.wp Tryz.prog a w K Q)
    (hm : Makes toks i val (fun g => rowA e sz g.1 n xs)) (hf : freeB toks i = true)
    (h : ∀ ao c, Walk Tryz.prog ops toks C Q (i + 1) rest ss (upd val i (gq (.slice ao n c))) (a.put o.dst (.slice ao n c))) : Walk Tryz.prog ops toks C Q i (o :: rest) (ospS n :: ss) val a := by
  obtain ⟨x, hx, hu, ha⟩ := hm
  refine walk_v hw ⟨_, none, 0, rfl⟩ (fun w hI => Loud.of_wp hd (Nat.le_of_ble_eq_true hlt) fun K Q' hK => hcall w hI K Q' fun v w' hN => ?_) (by rintro g ⟨ao, c, rfl⟩; exact h ao c)
  obtain ⟨ao, c, rfl⟩ := rowA.form hN.row
  exact hK _ _ ⟨gq _, rfl, ⟨ao, c, rfl⟩, outs_new x hx (by rw [hu, hf]; rfl) hN.below (by rw [ha]; exact hN.row) fun k hk => hN.new k (by rw [ha] at hk; exact hk)⟩
theorem ins_ap {C : World → Prop} {toks : List Tok} {j : Nat} {val : Nat → GV} {w : World} (h : Ins C toks j val w) (x y : Nat) {t u : Tok} (hx : toks[x]? = some t) (hy : toks[y]? = some u) (hxy : (x != y) = true) (ht : (t.rds.contains j || t.cons == some j) = true) (hu : (u.rds.contains j || u.cons == some j) = true) : ∀ k, (t.at_ val).fp k → ¬ (u.at_ val).fp k :=
  h.apart x y t u hx hy (by simpa using hxy) (by simp only [Bool.or_eq_true, List.contains_iff_mem, beq_iff_eq] at ht; exact ht) (by simp only [Bool.or_eq_true, List.contains_iff_mem, beq_iff_eq] at hu; exact hu)
/-- A call that turns a piece. -/
theorem wk_turn {A : Asn} (N : (Nat → Prop) → Asn) {F : Nat → Prop} {v : Value} {d : Tmp} (hw : Region.wanted o (yielded ops a.tmps) = true) (hd : o.dst = some d) (hlt : Nat.ble (d + 1) a.tmps.size = true)
    (hu : Uses toks i val A) (hm : Makes toks i val (fun g => N g.2)) (hAF : A.fp = F) (hN : ∀ F k, (N F).fp k → F k)
    (hcall : ∀ w, Ins C toks i val w → A.holds w → ∀ (K : Act → World → Prop) (Q : Exit → Act → World → Prop), (∀ e w', CPost N F v w e w' → K (a.put o.dst v) w') → o.wp Tryz.prog a w K Q)
    (h : ∀ F', Walk Tryz.prog ops toks C Q (i + 1) rest ss (upd val i (v, F')) (a.put o.dst v)) : Walk Tryz.prog ops toks C Q i (o :: rest) (ospTS (fun _ => True) v :: ss) val a := by
  obtain ⟨y, hy, huy, ha, hb⟩ := hu
  obtain ⟨x, hx, hpx, hc⟩ := hm
  exact walk_turn y x (fun _ _ => trivial) (fun _ _ _ _ => trivial) hAF hN hy hx (by rw [hpx, huy]; rfl) hd hlt hw ha hb hc hcall (fun F' _ => h F')
/-- APPEND to nil. -/
theorem wk_app0 {t e : TypeId} {sz bytes : Nat} [E : ElI t e sz bytes] {s x : Operand} {d : Tmp} {m : Nat} {xv : Value} {news : List Value} (ho : o.op = .call { callee := .builtin .append, args := #[s, x], argTypes := #[t, t] }) (hd : o.dst = some d) (hlt : Nat.ble (d + 1) a.tmps.size = true)
    (hw : Region.wanted o (yielded ops a.tmps) = true) (hs : a.eval s = .slice none 0 0) (hx : a.eval x = xv) (hsrc : ∀ w, Ins C toks i val w → Sl w sz xv m news) (h1 : ones news) (hb : m * bytes ≤ 140737488355328)
    (hm : Makes toks i val (fun g => rowA e sz g.1 m news)) (hf : freeB toks i = true)
    (h : ∀ ao c, Walk Tryz.prog ops toks C Q (i + 1) rest ss (upd val i (gq (.slice ao m c))) (a.put o.dst (.slice ao m c))) : Walk Tryz.prog ops toks C Q i (o :: rest) (ospS m :: ss) val a :=
  wk_row hw hd hlt (fun w hI K Q' hK => wp_appR E.el ho hs (rowA_nil e sz w) hx (hsrc w hI) h1 (by rw [Nat.zero_add]; exact hb) fun v' w' h2 h3 h4 => by
    rw [Nat.zero_add, List.nil_append] at h2 h4
    refine hK v' w' ⟨h2, fun k hk => ?_, h3.below (Nat.le_refl _) fun k hk => by cases hk⟩
    rcases h4 k hk with h5 | h5
    · cases h5
    · exact h5) hm hf h
/-- An operation that only computes. -/
def quietOp : Op → Bool
  | .call c => match c.callee with | .builtin .len => true | _ => false
  | .load .. | .store .. | .alloc .. | .box .. | .buildSlice .. => false
  | _ => true
theorem wk_q {v : Value} {d : Tmp} (hw : Region.wanted o (yielded ops a.tmps) = true) (hq : (quietOp o.op && plainOp o.op) = true) (hd : o.dst = some d) (hlt : Nat.ble (d + 1) a.tmps.size = true) (h1 : ∀ w, Ins C toks i val w → ∀ (K : Act → World → Prop) (Q : Exit → Act → World → Prop), K (a.put o.dst v) w → o.wp Tryz.prog a w K Q) (h2 : Walk Tryz.prog ops toks C Q (i + 1) rest ss (upd val i (gq v)) (a.put o.dst v)) :
    Walk Tryz.prog ops toks C Q i (o :: rest) (.q :: ss) val a := walk_q hw (fun w hI => Same.of_wp (Bool.and_eq_true _ _ ▸ hq).2 hd (Nat.le_of_ble_eq_true hlt) (h1 w hI)) h2
/-- A call that only makes memory, none of which is told, and comes to a value that is known. -/
theorem wk_pure {v : Value} {d : Tmp} (hw : Region.wanted o (yielded ops a.tmps) = true) (hB : (toks.all fun t => t.prod != some i) = true) (hd : o.dst = some d) (hlt : Nat.ble (d + 1) a.tmps.size = true)
    (hcall : ∀ w, Ins C toks i val w → ∀ (K : Act → World → Prop) (Q : Exit → Act → World → Prop), (∀ w', Below w.heap.size w w' → K (a.put o.dst v) w') → o.wp Tryz.prog a w K Q)
    (h : Walk Tryz.prog ops toks C Q (i + 1) rest ss (upd val i (gq v)) (a.put o.dst v)) : Walk Tryz.prog ops toks C Q i (o :: rest) (ospV v :: ss) val a :=
  walk_pure hB hd hlt hw hcall h
end
end Go.Proofs.YtbenjjaofabdcaaGreatDoor
