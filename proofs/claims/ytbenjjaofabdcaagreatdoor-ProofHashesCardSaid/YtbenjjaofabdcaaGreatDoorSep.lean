/-
  Pieces of memory beside each other (Sep): what is known of a world, in one sentence; how operations and calls turn it; regions that draw their order.
-/
import Derived.Test.YtbenjjaofabdcaaGreatDoorTok
namespace Go.Proofs.YtbenjjaofabdcaaGreatDoor
open Go Go.RowKit

structure Sep (W : Nat → Prop) (w0 w : World) (L : List Asn) : Prop where
  keep : Kp W w0 w
  holds : ∀ A ∈ L, A.holds w
  disj : L.Pairwise fun A B => ∀ k, A.fp k → ¬ B.fp k
  own : ∀ A ∈ L, ∀ k, A.fp k → W k ∨ w0.heap.size ≤ k

theorem Sep.start (W : Nat → Prop) (w : World) : Sep W w w [] := ⟨Kp.refl _ _, by simp, .nil, by simp⟩
theorem Sep.one {A : Asn} {w : World} (h : A.holds w) : Sep A.fp w w [A] := ⟨Kp.refl _ _, by simpa using h, by simp, by simp; exact fun k hk => .inl hk⟩
theorem Sep.below {W : Nat → Prop} {w0 w w' : World} {L : List Asn} (M : Sep W w0 w L) (hb : Below w.heap.size w w') : Sep W w0 w' L :=
  ⟨M.keep.trans (Kp.of_below hb), fun A hA => A.loc (M.holds A hA) fun k hk => hb.block k (A.lt (M.holds A hA) k hk), M.disj, M.own⟩
theorem Sep.add {W : Nat → Prop} {w0 w w' : World} {L : List Asn} (M : Sep W w0 w L) (hb : Below w.heap.size w w') (A : Asn) (hA : A.holds w') (hf : ∀ k, A.fp k → w.heap.size ≤ k) : Sep W w0 w' (A :: L) := by
  have M' := M.below hb
  refine ⟨M'.keep, fun B hB => ?_, List.pairwise_cons.2 ⟨fun B hB k hk hk' => ?_, M'.disj⟩, fun B hB k hk => ?_⟩
  · rcases List.mem_cons.1 hB with rfl | hB
    · exact hA
    · exact M'.holds B hB
  · have h1 := hf k hk
    have h2 := B.lt (M.holds B hB) k hk'
    omega
  · rcases List.mem_cons.1 hB with rfl | hB
    · have := hf k hk; have := M.keep.size; exact .inr (by omega)
    · exact M'.own B hB k hk
theorem Sep.get {W : Nat → Prop} {w0 w : World} {L : List Asn} (M : Sep W w0 w L) (i : Nat) {A : Asn} (h : L[i]? = some A) : A.holds w := M.holds A (List.mem_of_getElem? h)
theorem Sep.set {W : Nat → Prop} {w0 w w' : World} {L : List Asn} (M : Sep W w0 w L) (i : Nat) {A : Asn} (h : L[i]? = some A) (hk : Kp A.fp w w') (A' : Asn) (hA : A'.holds w') (hf : ∀ k, A'.fp k → A.fp k ∨ w.heap.size ≤ k) : Sep W w0 w' (L.set i A') := by
  have hi : i < L.length := (List.getElem?_eq_some_iff.1 h).1
  have hLi : L[i] = A := by rw [List.getElem?_eq_getElem hi] at h; exact Option.some.inj h
  have hsz := M.keep.size
  have hdis : ∀ (j : Nat) (hj : j < L.length), j ≠ i → ∀ k, A.fp k → ¬ (L[j]).fp k := fun j hj hji k hkA hkj => by
    have hp := List.pairwise_iff_getElem.1 M.disj
    rcases Nat.lt_or_gt_of_ne hji with h1 | h1
    · exact hp j i hj hi h1 k hkj (by rw [hLi]; exact hkA)
    · exact hp i j hi hj h1 k (by rw [hLi]; exact hkA) hkj
  have hkeep : Kp W w0 w' := ⟨hk.os.trans M.keep.os, hk.tape.trans M.keep.tape, hk.output.trans M.keep.output, Nat.le_trans hsz hk.size, fun k hk0 hn => by
    refine (hk.block k (by omega) fun hA => ?_).trans (M.keep.block k hk0 hn)
    rcases M.own A (List.mem_of_getElem? h) k hA with h1 | h1
    · exact hn h1
    · omega⟩
  have hold : ∀ (j : Nat) (hj : j < L.length), j ≠ i → (L[j]).holds w' := fun j hj hji => by
    have h1 := M.holds L[j] (List.getElem_mem hj)
    exact (L[j]).loc h1 fun k hkj => hk.block k ((L[j]).lt h1 k hkj) fun hkA => hdis j hj hji k hkA hkj
  have hownA : ∀ k, A'.fp k → W k ∨ w0.heap.size ≤ k := fun k hkA => by
    rcases hf k hkA with h1 | h1
    · exact M.own A (List.mem_of_getElem? h) k h1
    · exact .inr (by omega)
  refine ⟨hkeep, fun B hB => ?_, List.pairwise_iff_getElem.2 fun x y hx hy hxy k h1 h2 => ?_, fun B hB k hkB => ?_⟩
  · obtain ⟨j, hj, rfl⟩ := List.mem_iff_getElem.1 hB
    rw [List.length_set] at hj
    rw [List.getElem_set]
    split
    · exact hA
    · exact hold j hj (by omega)
  · rw [List.length_set] at hx hy
    rw [List.getElem_set] at h1 h2
    have new : ∀ (j : Nat) (hj : j < L.length), j ≠ i → A'.fp k → ¬ (L[j]).fp k := fun j hj hji ha hb => by
      rcases hf k ha with h3 | h3
      · exact hdis j hj hji k h3 hb
      · have := (L[j]).lt (M.holds _ (List.getElem_mem hj)) k hb; omega
    split at h1
    · rw [if_neg (by omega)] at h2
      exact new y hy (by omega) h1 h2
    · split at h2
      · exact new x hx (by omega) h2 h1
      · exact List.pairwise_iff_getElem.1 M.disj x y hx hy hxy k h1 h2
  · obtain ⟨j, hj, rfl⟩ := List.mem_iff_getElem.1 hB
    rw [List.length_set] at hj
    rw [List.getElem_set] at hkB
    split at hkB
    · exact hownA k hkB
    · exact M.own _ (List.getElem_mem hj) k hkB
theorem Sep.sub {W : Nat → Prop} {w0 w : World} {L L' : List Asn} (M : Sep W w0 w L) (h : L'.Sublist L) : Sep W w0 w L' :=
  ⟨M.keep, fun A hA => M.holds A (h.subset hA), M.disj.sublist h, fun A hA => M.own A (h.subset hA)⟩
theorem Sep.perm {W : Nat → Prop} {w0 w : World} {L L' : List Asn} (M : Sep W w0 w L) (h : L.Perm L') : Sep W w0 w L' :=
  ⟨M.keep, fun A hA => M.holds A (h.mem_iff.2 hA), (h.pairwise_iff (fun h k h1 h2 => h k h2 h1)).1 M.disj, fun A hA => M.own A (h.mem_iff.2 hA)⟩
/-- Where nothing old may be written. -/
theorem Sep.out {w0 w : World} {L : List Asn} (M : Sep (fun _ => False) w0 w L) : Below w0.heap.size w0 w :=
  ⟨M.keep.os, M.keep.tape, M.keep.output, M.keep.size, fun k hk => M.keep.block k hk id⟩
theorem Sep.drawn {W : Nat → Prop} {w0 w : World} {L : List Asn} (M : Sep W w0 w L) (n : Nat) : Sep W w0 { w with drawn := n } L :=
  ⟨⟨M.keep.os, M.keep.tape, M.keep.output, M.keep.size, M.keep.block⟩, fun A hA => A.loc (M.holds A hA) fun _ _ => rfl, M.disj, M.own⟩
theorem Sep.old {W : Nat → Prop} {w0 w : World} {L : List Asn} (M : Sep W w0 w L) (A : Asn) (hA : A.holds w0) (hd : ∀ k, A.fp k → ¬ W k) : A.holds w :=
  A.loc hA fun k hk => M.keep.block k (A.lt hA k hk) (hd k hk)

section
variable {P : Program}
theorem pair_apart {toks : List Tok} {ps : Tok → Bool} {val : Nat → GV} : ((toks.filter ps).map (·.at_ val)).Pairwise (fun A B => ∀ k, A.fp k → ¬ B.fp k) ↔ Apart toks (fun t => ps t = true) val := by
  rw [List.pairwise_map, List.pairwise_filter, List.pairwise_iff_getElem]
  constructor
  · intro h x y t u hx hy hxy ht hu k hk hk'
    have hx' := (List.getElem?_eq_some_iff.1 hx).1
    have hy' := (List.getElem?_eq_some_iff.1 hy).1
    rw [List.getElem?_eq_getElem hx'] at hx
    rw [List.getElem?_eq_getElem hy'] at hy
    cases hx; cases hy
    rcases Nat.lt_or_gt_of_ne hxy with h1 | h1
    · exact h x y hx' hy' h1 ht hu k hk hk'
    · exact h y x hy' hx' h1 hu ht k hk' hk
  · intro h x y hx hy hxy ht hu
    exact h x y _ _ (List.getElem?_eq_getElem hx) (List.getElem?_eq_getElem hy) (by omega) ht hu
/-- A REGION THAT DRAWS ITS ORDER, in a fence without walls. -/
theorem wpIn_draw {F : Fence} {n : Nat} (hFo : OpenF F) {W : Nat → Prop} {w0 w : World} {L : List Asn} (M : Sep W w0 w L) (toks : List Tok) (specs : List OSp) {id : Nat} {Q' : Exit → Act → World → Prop} {a : Act} {l : List Oper}
    (hm : P.follows .mixedOrders = true) (hL : (toks.filter (·.prod.isNone)).map (fun t => t.asn []) = L) (hB : (decide (specs.length = l.length) && drawB l (masks l) specs toks) = true) (hDf : F.round = none ∨ ∀ (j : Nat) (o : Oper), l.toArray[j]? = some o → ∀ c, o.op ≠ .defer c)
    (h : Walk P l.toArray toks (Kp W w0) (fun a val => ∀ w', Sep W w0 w' ((toks.filter (·.cons.isNone)).map (·.at_ val)) → Q' .normal a w') 0 l specs (fun _ => gq undef) a) : (Code.region id l.toArray true).wpIn F n P Q' a w := by
  rw [Bool.and_eq_true, decide_eq_true_eq] at hB
  obtain ⟨hsp, hB⟩ := hB
  obtain ⟨hO, hSp, hT⟩ := draw_of l specs toks hB
  have hl : ∀ j : Nat, l[j]? = l.toArray[j]? := fun j => by simp
  refine wpIn_region_any hm ?_
  have hrepl : ∀ j, (Array.replicate l.toArray.size false).getD j false = false := getD_replicate_false _
  have hdeps : ∀ t ∈ toks, t.prod = none → t.deps = [] := fun t ht hp => by
    cases hd : t.deps with
    | nil => rfl
    | cons d r =>
      obtain ⟨p, h1, _⟩ := (hT t ht).dp d (by rw [hd]; simp)
      rw [hp] at h1; cases h1
  have hat : ∀ t ∈ toks, t.prod = none → ∀ val, t.at_ val = t.asn [] := fun t ht hp val => by unfold Tok.at_; rw [hdeps t ht hp]; rfl
  have hmem : ∀ t ∈ toks, t.prod = none → t.asn [] ∈ L := fun t ht hp => by
    rw [← hL]
    exact List.mem_map.2 ⟨t, List.mem_filter.2 ⟨ht, by simp [hp]⟩, rfl⟩
  have hnone : ∀ t ∈ toks, Avail (Array.replicate l.toArray.size false) t → t.prod = none := fun t ht hA => by
    cases hp : t.prod with
    | none => rfl
    | some p => have := hA.1 p hp; rw [hrepl] at this; cases this
  have hLat : ∀ val, (toks.filter (·.prod.isNone)).map (·.at_ val) = L := fun val => by
    rw [← hL]
    refine List.map_congr_left fun t ht => ?_
    have := List.mem_filter.1 ht
    exact hat t this.1 (by simpa using this.2) val
  have M' := M.drawn (w.drawn + 1)
  have hfr : ∀ w', Kp (IFp toks) { w with drawn := w.drawn + 1 } w' → Kp W w0 w' := fun w' hK => by
    have hsz : w0.heap.size ≤ w.heap.size := M.keep.size
    refine ⟨hK.os.trans M'.keep.os, hK.tape.trans M'.keep.tape, hK.output.trans M'.keep.output, Nat.le_trans hsz hK.size, fun k hk hn => ?_⟩
    refine (hK.block k (by show k < w.heap.size; omega) fun ⟨t, ht, hp, hi⟩ => ?_).trans (M.keep.block k hk hn)
    rcases M.own _ (hmem t ht hp) k hi with h1 | h1
    · exact hn h1
    · omega
  refine inv2_all (specs := specs) (a0 := a) (Q := fun a val => ∀ w', Sep W w0 w' ((toks.filter (·.cons.isNone)).map (·.at_ val)) → Q' .normal a w') hO hSp hT l hl hsp h hFo hDf (wS := { w with drawn := w.drawn + 1 }) hfr (fun val a w' hQ hK hH hA => ?_) l.toArray.size _ a _ (fun _ => gq undef) ⟨by simp, fun j oj _ hj => ?_, fun k hk => ?_, ?_, fun t ht hA => ?_, fun x y t u hx hy hxy ht hu => ?_, Kp.refl _ _, fun t ht hA k hk => ?_⟩ ?_
  · have hI : ∀ k, IFp toks k → W k ∨ w0.heap.size ≤ k := fun k ⟨t, ht, hp, hk⟩ => M.own _ (hmem t ht hp) k hk
    have hsz : w0.heap.size ≤ w.heap.size := M.keep.size
    refine hQ w' ⟨⟨hK.os.trans M'.keep.os, hK.tape.trans M'.keep.tape, hK.output.trans M'.keep.output, Nat.le_trans hsz hK.size, fun k hk hn => ?_⟩, fun A hA' => ?_, pair_apart.2 fun x y t u hx hy hxy ht hu => hA x y t u hx hy hxy (by simpa using ht) (by simpa using hu), fun A hA' k hk => ?_⟩
    · refine (hK.block k (by show k < w.heap.size; omega) fun hi => ?_).trans (M.keep.block k hk hn)
      rcases hI k hi with h1 | h1
      · exact hn h1
      · omega
    · obtain ⟨t, ht, rfl⟩ := List.mem_map.1 hA'
      have := List.mem_filter.1 ht
      exact (hH t this.1 (by simpa using this.2)).1
    · obtain ⟨t, ht, rfl⟩ := List.mem_map.1 hA'
      have := List.mem_filter.1 ht
      rcases (hH t this.1 (by simpa using this.2)).2 k hk with h1 | h1
      · exact hI k h1
      · exact .inr (Nat.le_trans hsz h1)
  · rw [hrepl] at hj; cases hj
  · rw [hrepl] at hk; cases hk
  · have : ∀ n, rep l.toArray a (vs fun _ => gq undef) (fun k => (Array.replicate l.toArray.size false).getD k false) n = a := fun n => by
      induction n with
      | zero => rfl
      | succ n ih =>
        simp only [rep]
        rw [if_neg (by rw [hrepl]; simp)]
        exact ih
    exact (this _).symm
  · have hp := hnone t ht hA
    rw [hat t ht hp]
    exact M'.holds _ (hmem t ht hp)
  · have h1 := hnone t (List.mem_of_getElem? hx) ht
    have h2 := hnone u (List.mem_of_getElem? hy) hu
    have h3 := M.disj
    rw [← hLat fun _ => gq undef, pair_apart] at h3
    exact h3 x y t u hx hy hxy (by simp [h1]) (by simp [h2])
  · have hp := hnone t ht hA
    rw [hat t ht hp] at hk
    exact .inl ⟨t, ht, hp, hk⟩
  · have : ∀ n, pend (Array.replicate l.toArray.size false) n ≤ n := fun n => by
      induction n with
      | zero => exact Nat.le_refl _
      | succ n ih => simp only [pend]; split <;> omega
    exact this _

theorem wp_draw {W : Nat → Prop} {w0 w : World} {L : List Asn} (M : Sep W w0 w L) (toks : List Tok) (specs : List OSp) {id : Nat} {Q' : Exit → Act → World → Prop} {a : Act} {l : List Oper}
    (hm : P.follows .mixedOrders = true) (hL : (toks.filter (·.prod.isNone)).map (fun t => t.asn []) = L) (hB : (decide (specs.length = l.length) && drawB l (masks l) specs toks) = true)
    (h : Walk P l.toArray toks (Kp W w0) (fun a val => ∀ w', Sep W w0 w' ((toks.filter (·.cons.isNone)).map (·.at_ val)) → Q' .normal a w') 0 l specs (fun _ => gq undef) a) : (Code.region id l.toArray true).wp P Q' a w :=
  wpIn_wide.1 (wpIn_draw (n := 0) (.inl rfl) M toks specs hm hL hB (.inl rfl) h)
variable {C : World → Prop} {ops : Array Oper} {toks : List Tok} {Q : Act → (Nat → GV) → Prop} {i : Nat} {o : Oper} {rest : List Oper} {ss : List OSp} {val : Nat → GV} {a : Act}
theorem walk_q {v : Value} (hw : Region.wanted o (yielded ops a.tmps) = true) (h1 : ∀ w, Ins C toks i val w → Same P o a w v) (h2 : Walk P ops toks C Q (i + 1) rest ss (upd val i (gq v)) (a.put o.dst v)) :
    Walk P ops toks C Q i (o :: rest) (.q :: ss) val a := by
  simp only [Walk]; rw [if_pos hw]; exact ⟨v, h1, h2⟩
theorem walk_v {ds : List Nat} {p : List GV → GV → Prop} (hw : Region.wanted o (yielded ops a.tmps) = true) (he : ∃ v, p (ds.map val) v)
    (h1 : ∀ w, Ins C toks i val w → Loud P o a w fun v w' => ∃ g : GV, g.1 = v ∧ p (ds.map val) g ∧ Outs toks i (upd val i g) w w')
    (h2 : ∀ g, p (ds.map val) g → Walk P ops toks C Q (i + 1) rest ss (upd val i g) (a.put o.dst g.1)) : Walk P ops toks C Q i (o :: rest) (.v ds p :: ss) val a := by
  simp only [Walk]; rw [if_pos hw]; exact ⟨he, fun w hI => (h1 w hI).r, h2⟩
theorem walk_vR {ds : List Nat} {p : List GV → GV → Prop} (hw : Region.wanted o (yielded ops a.tmps) = true) (he : ∃ v, p (ds.map val) v)
    (h1 : ∀ w, Ins C toks i val w → LoudR P o a w fun v w' => ∃ g : GV, g.1 = v ∧ p (ds.map val) g ∧ Outs toks i (upd val i g) w w')
    (h2 : ∀ g, p (ds.map val) g → Walk P ops toks C Q (i + 1) rest ss (upd val i g) (a.put o.dst g.1)) : Walk P ops toks C Q i (o :: rest) (.v ds p :: ss) val a := by
  simp only [Walk]; rw [if_pos hw]; exact ⟨he, h1, h2⟩
theorem walk_skip {s : OSp} (hw : Region.wanted o (yielded ops a.tmps) = false) (ht : (toks.all fun t => t.prod != some i && t.cons != some i) = true) (h2 : Walk P ops toks C Q (i + 1) rest ss (upd val i (gq undef)) (a.put o.dst undef)) :
    Walk P ops toks C Q i (o :: rest) (s :: ss) val a := by
  simp only [Walk]; rw [if_neg (by rw [hw]; simp)]
  refine ⟨fun t h => ?_, h2⟩
  have := List.all_eq_true.1 ht t h
  simpa using this
theorem walk_nil (h : Q a val) : Walk P ops toks C Q i [] ss val a := h
theorem ins_get {C : World → Prop} {j : Nat} {w : World} (h : Ins C toks j val w) (x : Nat) {t : Tok} (hx : toks[x]? = some t) (hu : (t.rds.contains j || t.cons == some j) = true) : (t.at_ val).holds w := by
  refine h.holds t (List.mem_of_getElem? hx) ?_
  simp only [Bool.or_eq_true, List.contains_iff_mem, beq_iff_eq] at hu
  exact hu
def prodB (toks : List Tok) (j x : Nat) : Bool := toks.zipIdx.all fun t => t.1.prod != some j || t.2 == x
def consB (toks : List Tok) (j x : Nat) : Bool := toks.zipIdx.all fun t => t.1.cons != some j || t.2 == x
def freeB (toks : List Tok) (j : Nat) : Bool := toks.all fun t => t.cons != some j
theorem prodB_spec {j x : Nat} (h : prodB toks j x = true) {y : Nat} {u : Tok} (hy : toks[y]? = some u) (hp : u.prod = some j) : y = x := by
  have := List.all_eq_true.1 h (u, y) (List.mk_mem_zipIdx_iff_getElem?.2 hy)
  simpa [hp] using this
theorem consB_spec {j x : Nat} (h : consB toks j x = true) {y : Nat} {u : Tok} (hy : toks[y]? = some u) (hp : u.cons = some j) : y = x := by
  have := List.all_eq_true.1 h (u, y) (List.mk_mem_zipIdx_iff_getElem?.2 hy)
  simpa [hp] using this
theorem freeB_spec {j : Nat} (h : freeB toks j = true) {val : Nat → GV} {k : Nat} : ¬ CF toks j val k := fun ⟨t, ht, hc, _⟩ => by
  have := List.all_eq_true.1 h t ht
  simp [hc] at this
theorem outs_new {j : Nat} {w w' : World} (x : Nat) {t : Tok} (hx : toks[x]? = some t) (hB : (prodB toks j x && freeB toks j) = true) (hb : Below w.heap.size w w') (hh : (t.at_ val).holds w') (hf : ∀ k, (t.at_ val).fp k → w.heap.size ≤ k) : Outs toks j val w w' := by
  rw [Bool.and_eq_true] at hB
  refine ⟨Kp.of_below hb, fun u hu hp => ?_, fun y z u v hy hz hyz hpu hpv => ?_⟩
  · obtain ⟨y, hy⟩ := List.mem_iff_getElem?.1 hu
    obtain rfl := prodB_spec hB.1 hy hp
    obtain rfl := Option.some.inj (hx.symm.trans hy)
    exact ⟨hh, fun k hk => .inr (hf k hk)⟩
  · have h1 := prodB_spec hB.1 hy hpu
    have h2 := prodB_spec hB.1 hz hpv
    omega
theorem outs_set {j : Nat} {w w' : World} (y : Nat) {u : Tok} (hy : toks[y]? = some u) (x : Nat) {t : Tok} (hx : toks[x]? = some t) (hB : (prodB toks j x && (u.cons == some j)) = true) (hk : Kp (u.at_ val).fp w w') (hh : (t.at_ val).holds w') (hf : ∀ k, (t.at_ val).fp k → (u.at_ val).fp k ∨ w.heap.size ≤ k) : Outs toks j val w w' := by
  rw [Bool.and_eq_true, beq_iff_eq] at hB
  have hsub : ∀ k, (u.at_ val).fp k → CF toks j val k := fun k hk => ⟨u, List.mem_of_getElem? hy, hB.2, hk⟩
  refine ⟨hk.mono hsub, fun v hv hp => ?_, fun y z u v hy hz hyz hpu hpv => ?_⟩
  · obtain ⟨z, hz⟩ := List.mem_iff_getElem?.1 hv
    obtain rfl := prodB_spec hB.1 hz hp
    obtain rfl := Option.some.inj (hx.symm.trans hz)
    exact ⟨hh, fun k hk => (hf k hk).imp (hsub k) id⟩
  · have h1 := prodB_spec hB.1 hy hpu
    have h2 := prodB_spec hB.1 hz hpv
    omega
theorem outs_quiet {j : Nat} {w w' : World} (hB : (toks.all fun t => t.prod != some j) = true) (hb : Below w.heap.size w w') : Outs toks j val w w' := by
  have h0 : ∀ t ∈ toks, t.prod ≠ some j := fun t ht => by
    have := List.all_eq_true.1 hB t ht
    simpa using this
  exact ⟨Kp.of_below hb, fun t ht hp => absurd hp (h0 t ht), fun y z u v hy _ _ hpu _ => absurd hpu (h0 u (List.mem_of_getElem? hy))⟩
end

/-! ### Pieces -/
/-- A variable: a block of cells. -/
def pts (b : Nat) (t : TypeId) (cs : List Value) : Asn where
  fp k := k = b
  holds w := w.heap[b]? = some (.cells cs.toArray t (0, 0))
  loc h hk := (hk b rfl).trans h
  lt h k hk := by rw [hk]; exact (Array.getElem?_eq_some_iff.1 h).1
theorem pts.cell {b : Nat} {t : TypeId} {cs : List Value} {w : World} (h : (pts b t cs).holds w) (off : Nat) {v : Value} (hv : cs[off]? = some v) : w.cell? ⟨b, off, none⟩ = some v := by
  have h : w.heap[b]? = some (.cells cs.toArray t (0, 0)) := h
  simp [World.cell?, h, hv]
theorem pts.free {b : Nat} {t : TypeId} {cs : List Value} {w : World} (h : (pts b t cs).holds w) (off : Nat) : w.frozen? ⟨b, off, none⟩ = false := by
  have h : w.heap[b]? = some (.cells cs.toArray t (0, 0)) := h
  simp [World.frozen?, h]
theorem pts.range {b : Nat} {t : TypeId} {cs : List Value} {w : World} (h : (pts b t cs).holds w) (off : Nat) {ds : List Value} (hd : (cs.drop off).take ds.length = ds) : w.rangeAt b off ds := fun j v hv => by
  refine pts.cell h (off + j) ?_
  have hj : j < ds.length := (List.getElem?_eq_some_iff.1 hv).1
  rw [← hd, List.getElem?_take_of_lt hj, List.getElem?_drop] at hv
  exact hv
theorem pts.there {b : Nat} {t : TypeId} {cs : List Value} {w : World} (h : (pts b t cs).holds w) (off n : Nat) (hn : off + n ≤ cs.length) : w.there b off n := fun j hj => by
  refine ⟨?_, pts.free h _⟩
  rw [pts.cell h (off + j) (List.getElem?_eq_getElem (by omega))]
  rfl
theorem pts_alloc (w : World) (t : TypeId) (cs : Array Value) : (pts w.heap.size t cs.toList).holds (w.alloc (.cells cs t)) := by
  show (w.alloc (.cells cs t)).heap[w.heap.size]? = some (.cells cs.toList.toArray t (0, 0))
  rw [Array.toArray_toList]
  exact heap_alloc_new w _
/-- cs with ds from off on. -/
def splice (cs : List Value) (off : Nat) : List Value → List Value
  | [] => cs
  | d :: r => splice (cs.set off d) (off + 1) r
theorem pts_setCell {b : Nat} {t : TypeId} {cs : List Value} {w : World} (h : (pts b t cs).holds w) (off : Nat) (v : Value) : (pts b t (cs.set off v)).holds (w.setCell ⟨b, off, none⟩ v) := by
  show (w.setCell ⟨b, off, none⟩ v).heap[b]? = some (.cells (cs.set off v).toArray t (0, 0))
  rw [heap_setCell_same w b off _ t v h]
  simp
theorem pts_setCells {b : Nat} {t : TypeId} {cs : List Value} {w : World} (h : (pts b t cs).holds w) (off : Nat) (ds : List Value) : (pts b t (splice cs off ds)).holds (w.setCells b off ds) := by
  induction ds generalizing cs w off with
  | nil => exact h
  | cons d r ih => exact ih (pts_setCell h off d) (off + 1)
theorem kp_setCell (w : World) (b off : Nat) (v : Value) (F : Nat → Prop) (hF : F b) : Kp F w (w.setCell ⟨b, off, none⟩ v) :=
  ⟨rfl, rfl, rfl, by simp [World.setCell], fun k _ hn => Below.heap_setCell w ⟨b, off, none⟩ v k (fun e => hn (e ▸ hF))⟩
theorem kp_setCells (w : World) (b off : Nat) (ds : List Value) (F : Nat → Prop) (hF : F b) : Kp F w (w.setCells b off ds) := by
  induction ds generalizing w off with
  | nil => exact Kp.refl _ _
  | cons d r ih => exact (kp_setCell w b off d F hF).trans (ih _ _)
/-- A row of one's own. -/
def rowA (e : TypeId) (sz : Nat) (v : Value) (n : Nat) (xs : List Value) : Asn where
  fp k := v.ownBlock = some k
  holds w := w.ownsRow 0 e sz v n xs
  loc {w w'} h hk := by
    obtain ⟨hl, h | ⟨g, cap, cur, rfl, h1, h2, h3⟩⟩ := h
    · exact ⟨hl, .inl h⟩
    · exact ⟨hl, .inr ⟨g, cap, cur, rfl, h1, (hk g rfl).trans h2, h3⟩⟩
  lt h k hk := (own_base h k hk).2
end Go.Proofs.YtbenjjaofabdcaaGreatDoor
