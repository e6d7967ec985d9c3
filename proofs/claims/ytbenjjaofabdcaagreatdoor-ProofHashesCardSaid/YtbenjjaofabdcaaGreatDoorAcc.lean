/-
  wire.Account, wire.Row.
-/
import Derived.Test.YtbenjjaofabdcaaGreatDoorInt2
namespace Go.Proofs.YtbenjjaofabdcaaGreatDoor
open Go Go.RowKit

section
variable {W : Nat → Prop} {w0 : World} {ops : Array Oper} {toks : List Tok} {Q : Act → (Nat → GV) → Prop} {i : Nat} {o : Oper} {rest : List Oper} {ss : List OSp} {val : Nat → GV} {a : Act}
/-- A call that turns a writer, reading a variable. -/
theorem wk_wr (ly : List UInt8) {F : Nat → Prop} {bw b : Nat} {l : List UInt8} {e : TypeId} {cs : List Value} {d : Tmp} (hw : Region.wanted o (yielded ops a.tmps) = true) (hd : o.dst = some d) (hlt : Nat.ble (d + 1) a.tmps.size = true)
    (y z x : Nat) {u s t : Tok} (hy : toks[y]? = some u) (huy : (u.cons == some i) = true) (ha : u.at_ val = wrA F bw l) (hb : ∀ g, u.at_ (upd val i g) = wrA F bw l) (hz : toks[z]? = some t) (htz : t.rds.contains i = true) (hc : t.at_ val = pts b e cs) (hzy : (z != y) = true)
    (hx : toks[x]? = some s) (hpx : prodB toks i x = true) (hs : ∀ g, s.at_ (upd val i g) = wrA g.2 bw (l ++ ly))
    (hcall : ∀ w, (wrA F bw l).holds w → (pts b e cs).holds w → (¬ F b) → ∀ (K : Act → World → Prop) (Q : Exit → Act → World → Prop), (∀ e w', CPost (fun F => wrA F bw (l ++ ly)) F (ptr bw 0) w e w' → K (a.put o.dst (ptr bw 0)) w') → o.wp Tryz.prog a w K Q)
    (h : ∀ F', Walk Tryz.prog ops toks (Kp W w0) Q (i + 1) rest ss (upd val i (ptr bw 0, F')) (a.put o.dst (ptr bw 0))) : Walk Tryz.prog ops toks (Kp W w0) Q i (o :: rest) (ospTS (fun _ => True) (ptr bw 0) :: ss) val a := by
  refine walk_turn y x (N := fun F => wrA F bw (l ++ ly)) (F := F) (fun _ _ => trivial) (fun _ _ _ _ => trivial) rfl (fun _ _ h => h) hy hx (by rw [hpx, huy]; rfl) hd hlt hw ha hb hs (fun w hI hT K Q' hK => ?_) (fun F' _ => h F')
  have h1 := ins_get hI z hz (by rw [htz]; rfl)
  have h2 := ins_ap hI z y hz hy hzy (by rw [htz]; rfl) (by rw [huy]; simp)
  rw [hc] at h1 h2
  rw [ha] at h2
  exact hcall w hT h1 (h2 b rfl) K Q' hK
end
theorem num1 {w : World} {b n : Nat} {e : TypeId} {cs : List Value} (h : (pts b e cs).holds w) (xs : List Num) (hx : nums xs = cs) (hl : xs.length = n) (hm : Nat.ble n 1048576 = true) : Sl w 2 (.slice (some ⟨b, 0, none⟩) n n) xs.length (nums xs) := by
  subst hx; subst hl
  exact pts.sl h (nums_length xs) (Nat.le_trans (Nat.le_of_ble_eq_true hm) (by unfold maxLen; omega))
theorem int1 {w : World} {b n : Nat} {e : TypeId} {cs : List Value} (h : (pts b e cs).holds w) (xs : List Int) (hx : xs.map (Value.int .i64) = cs) (hl : xs.length = n) (hm : Nat.ble n 1048576 = true) : Sl w 1 (.slice (some ⟨b, 0, none⟩) n n) xs.length (xs.map (Value.int .i64)) := by
  subst hx; subst hl
  exact pts.sl h (by simp) (Nat.le_trans (Nat.le_of_ble_eq_true hm) (by unfold maxLen; omega))
theorem hash1 {w : World} {b n : Nat} {e : TypeId} {cs : List Value} (h : (pts b e cs).holds w) (hs : List (List UInt8)) (hx : hcs hs = cs) (h32 : ∀ h ∈ hs, h.length = 32) (hl : hs.length = n) (hm : Nat.ble n 1048576 = true) : Sl w 32 (.slice (some ⟨b, 0, none⟩) n n) hs.length (hcs hs) := by
  subst hx; subst hl
  exact pts.sl h (hcs_length hs h32) (Nat.le_trans (Nat.le_of_ble_eq_true hm) (by unfold maxLen; omega))
theorem OwnB.low {w w2 w' : World} {e : TypeId} {v : Value} {l : List UInt8} (h : OwnB w' w2.heap.size e v l) (hb : w.heap.size ≤ w2.heap.size) : OwnB w' w.heap.size e v l := by
  obtain ⟨hl, h5 | ⟨g, cap, cur, rfl, h5, h6⟩⟩ := h
  · exact ⟨hl, .inl h5⟩
  · exact ⟨hl, .inr ⟨g, cap, cur, rfl, Nat.le_trans hb h5, h6⟩⟩
theorem own_not {F : Nat → Prop} {b n c : Nat} (h : ¬ F b) : ∀ k, (Value.slice (some ⟨b, 0, none⟩) n c).ownBlock = some k → ¬ F k := by rintro k ⟨⟩; exact h
section
variable {α : Type} {f : α → List Value} {sz : Nat}
/-! Rows of structs. -/
theorem fm_length (hf : ∀ x, (f x).length = sz) (l : List α) : (l.flatMap f).length = l.length * sz := by
  induction l with
  | nil => simp
  | cons a r ih => simp [ih, hf, Nat.succ_mul]; omega
theorem fm_take (hf : ∀ x, (f x).length = sz) (l : List α) (k : Nat) : (l.flatMap f).take (k * sz) = (l.take k).flatMap f := by
  induction l generalizing k with
  | nil => simp
  | cons a r ih =>
    rcases k with _ | k
    · simp
    · rw [List.flatMap_cons, List.take_append, hf, show (k + 1) * sz - sz = k * sz by rw [Nat.succ_mul]; omega, ih, List.take_of_length_le (by rw [hf, Nat.succ_mul]; omega)]; simp
theorem fm_drop (hf : ∀ x, (f x).length = sz) (l : List α) (k : Nat) : (l.flatMap f).drop (k * sz) = (l.drop k).flatMap f := by
  induction l generalizing k with
  | nil => simp
  | cons a r ih =>
    rcases k with _ | k
    · simp
    · rw [List.flatMap_cons, List.drop_append, hf, show (k + 1) * sz - sz = k * sz by rw [Nat.succ_mul]; omega, ih, List.drop_eq_nil_of_le (by rw [hf, Nat.succ_mul]; omega)]; simp
theorem fm_at (hf : ∀ x, (f x).length = sz) (l : List α) (k : Nat) (hk : k < l.length) : ((l.flatMap f).drop (k * sz)).take sz = f l[k] := by
  rw [fm_drop hf, List.drop_eq_getElem_cons hk, List.flatMap_cons, List.take_append_of_le_length (by rw [hf]; omega), List.take_of_length_le (by rw [hf]; omega)]
theorem range_part {w : World} {b o : Nat} {cs : List Value} (h : w.rangeAt b o cs) (k n : Nat) : w.rangeAt b (o + k) ((cs.drop k).take n) := fun j u hj => by
  have hj' : cs[k + j]? = some u := by
    have h1 : j < ((cs.drop k).take n).length := (List.getElem?_eq_some_iff.1 hj).1
    rw [List.getElem?_take_of_lt (by rw [List.length_take] at h1; omega), List.getElem?_drop] at hj
    exact hj
  rw [Nat.add_assoc]
  exact h (k + j) u hj'
theorem fm_row (hf : ∀ x, (f x).length = sz) {w : World} {b o n c : Nat} {l : List α} (h : Sl w sz (.slice (some ⟨b, o, none⟩) n c) n (l.flatMap f)) (k : Nat) (hk : k < l.length) : w.rangeAt b (o + k * sz) (f l[k]) := by
  have h1 := range_part h.range (k * sz) sz
  rwa [fm_at hf l k hk] at h1
end
theorem acells_root (a : Acct) : ((acells a).drop 14).take 32 = bcs a.root := by
  have : (acells a).drop 14 = bcs a.root := rfl
  rw [this]
  exact List.take_of_length_le (by rw [bcs_length, a.hroot]; omega)
theorem ldRoot (a : Acct) : LdV 32 true (acells a) 14 (.agg (bcs a.root).toArray) (bcs a.root) := .mid (by rw [bcs_length, a.hroot]) (acells_root a)
/-- An account's bytes. -/
def acctB (a : Acct) : List UInt8 := numB a.id ++ beI 4 a.ledger ++ beI 2 a.flags ++ (numB a.dp ++ numB a.dq ++ numB a.cp ++ numB a.cq) ++ (beI 6 a.time ++ beI 6 a.rows) ++ a.root
theorem acctB_length (a : Acct) : (acctB a).length = 130 := by simp [acctB, numB_length, beI_length, a.hroot]
set_option maxHeartbeats 1600000 in
set_option maxRecDepth 100000 in
theorem wacct_any (w : World) (a : Acct) : Calls Tryz.prog 67 #[av a] w fun e w' => ∃ v, e = .returned v ∧ NewRow 5 1 130 (bcs (acctB a)) w v w' := by
  have M := Sep.start (fun _ => False) w
  have HR := Lib.hid a.hroot
  go_enter Tryz.func67, Tryz.ntmps67
  go_wp2_with (first | ((with_reducible refine wl_at ⟨some _, .load _ _, _, _, _, _⟩ ?_); refine al_ld M rfl rfl rfl (by first | exact .one rfl | exact .two rfl rfl | exact ldH | exact .all rfl | exact ldRoot _) ?_; simp only [p0, p1, p2, p3, p4, Nat.reduceAdd]) | ((with_reducible refine wl_at ⟨some _, .alloc _, _, _, _, _⟩ ?_); refine al_alloc M rfl rfl ?_; clear M; intro bb ww M; simp only [p0, p1, p2, p3, p4, Nat.reduceAdd]) | ((with_reducible refine wl_at ⟨some _, .box _ _, _, _, _, _⟩ ?_); refine al_box M rfl rfl rfl (by first | exact cI | exact cB | exact cS | exact cP | exact cA | rfl) ?_; clear M; intro bb ww M; simp only [p0, p1, p2, p3, p4, Nat.reduceAdd]) | ((with_reducible refine wl_at ⟨_, .store _ _ _, _, _, _, _⟩ ?_); refine al_sh M rfl rfl rfl rfl (by first | rfl | exact Blob.len) ?_; clear M; intro ww M; simp only [p0, p1, p2, p3, p4, Nat.reduceAdd]) | ((with_reducible refine wl_at ⟨_, .store _ _ _, _, _, _, _⟩ ?_); refine al_st M rfl rfl rfl rfl (by first | exact cI | exact cB | exact cS | exact cP | exact cA | rfl) (by rfl) (by exact ones_of rfl) (by exact Nat.le_of_ble_eq_true rfl) (by simp only [splice, List.set_cons_succ, List.set_cons_zero]; rfl) ?_; clear M; intro ww M; simp only [p0, p1, p2, p3, p4, Nat.reduceAdd]) | ((with_reducible refine wl_at ⟨some _, .buildSlice _ _ _, _, _, _, _⟩ ?_); refine al_bsh M rfl rfl rfl (by first | exact h1v | exact h2v | exact h3v | exact h4v) rfl rfl ?_; clear M; intro bb ww M; simp only [p0, p1, p2, p3, p4, Nat.reduceAdd]) | ((with_reducible refine wl_at ⟨some _, .buildSlice _ _ _, _, _, _, _⟩ ?_); refine al_bsl M rfl rfl rfl rfl rfl rfl (by first | exact f1I | exact f2I | exact f1S | exact f2S | exact f3S | exact f1P | exact f1N | exact f2N | exact f4N | exact f5N | exact f2A | exact f1A) ?_; clear M; intro bb ww M; simp only [p0, p1, p2, p3, p4, Nat.reduceAdd]) | fail)
  replace M := M.conv .head wrA_new (fun _ h => h)
  obtain ⟨bw, rfl⟩ : ∃ bw, bw = bb := ⟨_, rfl⟩
  apply wp_drawS M [⟨none, some 3, [], []⟩, ⟨none, none, [1, 5, 9, 13, 15, 17, 19, 23, 25, 29], []⟩, ⟨some 2, none, [3], [2]⟩, ⟨some 3, some 7, [], [3]⟩, ⟨some 6, none, [7], [6]⟩, ⟨some 7, some 11, [], [7]⟩, ⟨some 10, none, [11], [10]⟩, ⟨some 11, some 21, [], [11]⟩, ⟨some 20, none, [21], [20]⟩, ⟨some 21, some 27, [], [21]⟩, ⟨some 26, none, [27], [26]⟩, ⟨some 27, some 31, [], [27]⟩, ⟨some 30, none, [31], [30]⟩, ⟨some 31, none, [], [31]⟩] [pK _, pK _, pN _ _, pW _ _, pN _ _, pW _ _, pN _ _, pW _ _, pN _ _, pW _ _, pN _ _, pW _ _, pN _ _, pW _ _] [2, 3, 6, 7, 10, 11, 20, 21, 26, 27, 30, 31] [.q, .q, .v [] _, .v [] _, .q, .q, .v [] _, .v [] _, .q, .q, .v [] _, .v [] _, .q, .q, .q, .q, .q, .q, .q, .q, .v [] _, .v [] _, .q, .q, .q, .q, .v [] _, .v [] _, .q, .q, .v [] _, .v [] _] (by kernel_rfl) (.t (.t (.n (.n (.n (.n (.n (.n (.n (.n (.n (.n (.n (.n .z)))))))))))))) rfl
  repeat (refine wk_q rfl rfl rfl rfl (by intro w1 hI KK QQ hK; simp only [p0, p1, p2, p3, p4, Nat.reduceAdd] at hK; go_step; exact hK) ?_; simp only [p0, p1, p2, p3, p4, Nat.reduceAdd])
  refine wk_ld rfl rfl rfl (.at 1 rfl rfl rfl) (by first | exact .one rfl | exact .two rfl rfl | exact ldH | exact .all rfl | exact ldRoot _) ?_; simp only [p0, p1, p2, p3, p4, Nat.reduceAdd]
  refine wk_bsl rfl rfl rfl rfl rfl rfl rfl rfl (by first | exact f1I | exact f2I | exact f1S | exact f2S | exact f3S | exact f1P | exact f1N | exact f2N | exact f4N | exact f5N | exact f2A | exact f1A) (by exact .at 2 rfl rfl fun _ => rfl) rfl fun bb => ?_; simp only [p0, p1, p2, p3, p4, Nat.reduceAdd]
  refine wk_wr ([a.id].flatMap numB) rfl rfl rfl 0 2 3 rfl rfl rfl (fun _ => rfl) rfl rfl rfl rfl rfl rfl (fun _ => rfl) (by intro w1 h1 h2 h3 K Q hK; go_step; exact Calls.mono (num_wr w1 _ _ _ h1 _ [a.id] (num1 h2 [a.id] rfl rfl rfl) (by simp [numB_length, beI_length, beN_length]; try omega) (own_not h3)) (by rintro e w' h; have h' := h; obtain ⟨rfl, -⟩ := h; exact hK _ _ h')) fun F1 => ?_; simp only [p0, p1, p2, p3, p4, Nat.reduceAdd]
  repeat (refine wk_q rfl rfl rfl rfl (by intro w1 hI KK QQ hK; simp only [p0, p1, p2, p3, p4, Nat.reduceAdd] at hK; go_step; exact hK) ?_; simp only [p0, p1, p2, p3, p4, Nat.reduceAdd])
  refine wk_ld rfl rfl rfl (.at 1 rfl rfl rfl) (by first | exact .one rfl | exact .two rfl rfl | exact ldH | exact .all rfl | exact ldRoot _) ?_; simp only [p0, p1, p2, p3, p4, Nat.reduceAdd]
  refine wk_bsl rfl rfl rfl rfl rfl rfl rfl rfl (by first | exact f1I | exact f2I | exact f1S | exact f2S | exact f3S | exact f1P | exact f1N | exact f2N | exact f4N | exact f5N | exact f2A | exact f1A) (by exact .at 4 rfl rfl fun _ => rfl) rfl fun bb => ?_; simp only [p0, p1, p2, p3, p4, Nat.reduceAdd]
  refine wk_wr ([a.ledger].flatMap (beI 4)) rfl rfl rfl 3 4 5 rfl rfl rfl (fun _ => rfl) rfl rfl rfl rfl rfl rfl (fun _ => rfl) (by intro w1 h1 h2 h3 K Q hK; go_step; exact Calls.mono (int_wi w1 _ _ _ h1 4 _ [a.ledger] (by decide) (int1 h2 [a.ledger] rfl rfl rfl) (by simp [numB_length, beI_length, beN_length]; try omega) (own_not h3) (by simp)) (by rintro e w' h; have h' := h; obtain ⟨rfl, -⟩ := h; exact hK _ _ h')) fun F1 => ?_; simp only [p0, p1, p2, p3, p4, Nat.reduceAdd]
  repeat (refine wk_q rfl rfl rfl rfl (by intro w1 hI KK QQ hK; simp only [p0, p1, p2, p3, p4, Nat.reduceAdd] at hK; go_step; exact hK) ?_; simp only [p0, p1, p2, p3, p4, Nat.reduceAdd])
  refine wk_ld rfl rfl rfl (.at 1 rfl rfl rfl) (by first | exact .one rfl | exact .two rfl rfl | exact ldH | exact .all rfl | exact ldRoot _) ?_; simp only [p0, p1, p2, p3, p4, Nat.reduceAdd]
  refine wk_bsl rfl rfl rfl rfl rfl rfl rfl rfl (by first | exact f1I | exact f2I | exact f1S | exact f2S | exact f3S | exact f1P | exact f1N | exact f2N | exact f4N | exact f5N | exact f2A | exact f1A) (by exact .at 6 rfl rfl fun _ => rfl) rfl fun bb => ?_; simp only [p0, p1, p2, p3, p4, Nat.reduceAdd]
  refine wk_wr ([a.flags].flatMap (beI 2)) rfl rfl rfl 5 6 7 rfl rfl rfl (fun _ => rfl) rfl rfl rfl rfl rfl rfl (fun _ => rfl) (by intro w1 h1 h2 h3 K Q hK; go_step; exact Calls.mono (int_wi w1 _ _ _ h1 2 _ [a.flags] (by decide) (int1 h2 [a.flags] rfl rfl rfl) (by simp [numB_length, beI_length, beN_length]; try omega) (own_not h3) (by simp)) (by rintro e w' h; have h' := h; obtain ⟨rfl, -⟩ := h; exact hK _ _ h')) fun F1 => ?_; simp only [p0, p1, p2, p3, p4, Nat.reduceAdd]
  repeat (refine wk_q rfl rfl rfl rfl (by intro w1 hI KK QQ hK; simp only [p0, p1, p2, p3, p4, Nat.reduceAdd] at hK; go_step; exact hK) ?_; simp only [p0, p1, p2, p3, p4, Nat.reduceAdd])
  refine wk_ld rfl rfl rfl (.at 1 rfl rfl rfl) (by first | exact .one rfl | exact .two rfl rfl | exact ldH | exact .all rfl | exact ldRoot _) ?_; simp only [p0, p1, p2, p3, p4, Nat.reduceAdd]
  repeat (refine wk_q rfl rfl rfl rfl (by intro w1 hI KK QQ hK; simp only [p0, p1, p2, p3, p4, Nat.reduceAdd] at hK; go_step; exact hK) ?_; simp only [p0, p1, p2, p3, p4, Nat.reduceAdd])
  refine wk_ld rfl rfl rfl (.at 1 rfl rfl rfl) (by first | exact .one rfl | exact .two rfl rfl | exact ldH | exact .all rfl | exact ldRoot _) ?_; simp only [p0, p1, p2, p3, p4, Nat.reduceAdd]
  repeat (refine wk_q rfl rfl rfl rfl (by intro w1 hI KK QQ hK; simp only [p0, p1, p2, p3, p4, Nat.reduceAdd] at hK; go_step; exact hK) ?_; simp only [p0, p1, p2, p3, p4, Nat.reduceAdd])
  refine wk_ld rfl rfl rfl (.at 1 rfl rfl rfl) (by first | exact .one rfl | exact .two rfl rfl | exact ldH | exact .all rfl | exact ldRoot _) ?_; simp only [p0, p1, p2, p3, p4, Nat.reduceAdd]
  repeat (refine wk_q rfl rfl rfl rfl (by intro w1 hI KK QQ hK; simp only [p0, p1, p2, p3, p4, Nat.reduceAdd] at hK; go_step; exact hK) ?_; simp only [p0, p1, p2, p3, p4, Nat.reduceAdd])
  refine wk_ld rfl rfl rfl (.at 1 rfl rfl rfl) (by first | exact .one rfl | exact .two rfl rfl | exact ldH | exact .all rfl | exact ldRoot _) ?_; simp only [p0, p1, p2, p3, p4, Nat.reduceAdd]
  refine wk_bsl rfl rfl rfl rfl rfl rfl rfl rfl (by first | exact f1I | exact f2I | exact f1S | exact f2S | exact f3S | exact f1P | exact f1N | exact f2N | exact f4N | exact f5N | exact f2A | exact f1A) (by exact .at 8 rfl rfl fun _ => rfl) rfl fun bb => ?_; simp only [p0, p1, p2, p3, p4, Nat.reduceAdd]
  refine wk_wr ([a.dp, a.dq, a.cp, a.cq].flatMap numB) rfl rfl rfl 7 8 9 rfl rfl rfl (fun _ => rfl) rfl rfl rfl rfl rfl rfl (fun _ => rfl) (by intro w1 h1 h2 h3 K Q hK; go_step; exact Calls.mono (num_wr w1 _ _ _ h1 _ [a.dp, a.dq, a.cp, a.cq] (num1 h2 [a.dp, a.dq, a.cp, a.cq] rfl rfl rfl) (by simp [numB_length, beI_length, beN_length]; try omega) (own_not h3)) (by rintro e w' h; have h' := h; obtain ⟨rfl, -⟩ := h; exact hK _ _ h')) fun F1 => ?_; simp only [p0, p1, p2, p3, p4, Nat.reduceAdd]
  repeat (refine wk_q rfl rfl rfl rfl (by intro w1 hI KK QQ hK; simp only [p0, p1, p2, p3, p4, Nat.reduceAdd] at hK; go_step; exact hK) ?_; simp only [p0, p1, p2, p3, p4, Nat.reduceAdd])
  refine wk_ld rfl rfl rfl (.at 1 rfl rfl rfl) (by first | exact .one rfl | exact .two rfl rfl | exact ldH | exact .all rfl | exact ldRoot _) ?_; simp only [p0, p1, p2, p3, p4, Nat.reduceAdd]
  repeat (refine wk_q rfl rfl rfl rfl (by intro w1 hI KK QQ hK; simp only [p0, p1, p2, p3, p4, Nat.reduceAdd] at hK; go_step; exact hK) ?_; simp only [p0, p1, p2, p3, p4, Nat.reduceAdd])
  refine wk_ld rfl rfl rfl (.at 1 rfl rfl rfl) (by first | exact .one rfl | exact .two rfl rfl | exact ldH | exact .all rfl | exact ldRoot _) ?_; simp only [p0, p1, p2, p3, p4, Nat.reduceAdd]
  refine wk_bsl rfl rfl rfl rfl rfl rfl rfl rfl (by first | exact f1I | exact f2I | exact f1S | exact f2S | exact f3S | exact f1P | exact f1N | exact f2N | exact f4N | exact f5N | exact f2A | exact f1A) (by exact .at 10 rfl rfl fun _ => rfl) rfl fun bb => ?_; simp only [p0, p1, p2, p3, p4, Nat.reduceAdd]
  refine wk_wr ([a.time, a.rows].flatMap (beI 6)) rfl rfl rfl 9 10 11 rfl rfl rfl (fun _ => rfl) rfl rfl rfl rfl rfl rfl (fun _ => rfl) (by intro w1 h1 h2 h3 K Q hK; go_step; exact Calls.mono (int_wi w1 _ _ _ h1 6 _ [a.time, a.rows] (by decide) (int1 h2 [a.time, a.rows] rfl rfl rfl) (by simp [numB_length, beI_length, beN_length]; try omega) (own_not h3) (by simp)) (by rintro e w' h; have h' := h; obtain ⟨rfl, -⟩ := h; exact hK _ _ h')) fun F1 => ?_; simp only [p0, p1, p2, p3, p4, Nat.reduceAdd]
  repeat (refine wk_q rfl rfl rfl rfl (by intro w1 hI KK QQ hK; simp only [p0, p1, p2, p3, p4, Nat.reduceAdd] at hK; go_step; exact hK) ?_; simp only [p0, p1, p2, p3, p4, Nat.reduceAdd])
  refine wk_ld rfl rfl rfl (.at 1 rfl rfl rfl) (by first | exact .one rfl | exact .two rfl rfl | exact ldH | exact .all rfl | exact ldRoot _) ?_; simp only [p0, p1, p2, p3, p4, Nat.reduceAdd]
  refine wk_bsl rfl rfl rfl rfl rfl (show (((Value.agg (bcs a.root).toArray).cells.size == 32) && true) = true by simp [Value.cells, bcs_length, HR.out]) rfl rfl f1A (by exact .at 12 rfl rfl fun _ => rfl) rfl fun bb => ?_; simp only [p0, p1, p2, p3, p4]
  
  refine wk_wr ([a.root].flatten) rfl rfl rfl 11 12 13 rfl rfl rfl (fun _ => rfl) rfl rfl rfl rfl rfl rfl (fun _ => rfl) (by intro w1 h1 h2 h3 K Q hK; go_step; exact Calls.mono (whash_wr w1 _ _ _ h1 _ [a.root] (hash1 h2 [a.root] (by simp [hcs]) (by simpa using HR.out) rfl rfl) (by simp [numB_length, beI_length, beN_length]; try omega) (by simpa using HR.out) (own_not h3) (by simp)) (by rintro e w' h; have h' := h; obtain ⟨rfl, -⟩ := h; exact hK _ _ h')) fun F1 => ?_; simp only [p0, p1, p2, p3, p4, Nat.reduceAdd]
  
  refine walk_nil fun w2 M => ?_
  simp only [mkToks, List.filter_cons, List.filter_nil, Option.isNone_none, Option.isNone_some, if_true, Bool.false_eq_true, if_false, List.map_cons, List.map_nil, Tok.at_, pK, pN, pR, pW, pT, pM, pB, Cl.val, List.getD_cons_zero, List.getD_cons_succ, upd, List.headD_cons, blkOf, gq, reduceIte, Nat.reduceEqDiff] at M
  go_wp2_with (fail)
  refine Calls.mono (bytes_wr w2 _ bw _ (M.get 7 rfl) (by simp [numB_length, beI_length, HR.out])) ?_
  rintro e w3 ⟨v, rfl, ho, hb⟩
  have hsz := M.out.size
  replace M := M.below hb
  go_wp2_with (fail)
  go_ret
  have e1 : [] ++ [a.id].flatMap numB ++ [a.ledger].flatMap (beI 4) ++ [a.flags].flatMap (beI 2) ++ [a.dp, a.dq, a.cp, a.cq].flatMap numB ++ [a.time, a.rows].flatMap (beI 6) ++ [a.root].flatten = acctB a := by simp [acctB]
  rw [e1] at ho
  exact ⟨v, rfl, newRow_of (ho.low hsz) (acctB_length a) M.out⟩
/-- A row's bytes. -/
def rowB (r : Rw0) : List UInt8 := numB r.id ++ beI 6 r.time ++ beI 2 (wrap64 (r.event + 1)) ++ (numB r.amount ++ numB r.dp ++ numB r.dq ++ numB r.cp ++ numB r.cq)
theorem rowB_length (r : Rw0) : (rowB r).length = 104 := by simp [rowB, numB_length, beI_length]
set_option maxHeartbeats 1600000 in
set_option maxRecDepth 100000 in
theorem wrow_any (w : World) (r : Rw0) : Calls Tryz.prog 116 #[rv r] w fun e w' => ∃ v, e = .returned v ∧ NewRow 5 1 104 (bcs (rowB r)) w v w' := by
  have M := Sep.start (fun _ => False) w
  go_enter Tryz.func116, Tryz.ntmps116
  go_wp2_with (first | ((with_reducible refine wl_at ⟨some _, .load _ _, _, _, _, _⟩ ?_); refine al_ld M rfl rfl rfl (by first | exact .one rfl | exact .two rfl rfl | exact ldH | exact .all rfl | exact ldRoot _) ?_; simp only [p0, p1, p2, p3, p4, Nat.reduceAdd]) | ((with_reducible refine wl_at ⟨some _, .alloc _, _, _, _, _⟩ ?_); refine al_alloc M rfl rfl ?_; clear M; intro bb ww M; simp only [p0, p1, p2, p3, p4, Nat.reduceAdd]) | ((with_reducible refine wl_at ⟨some _, .box _ _, _, _, _, _⟩ ?_); refine al_box M rfl rfl rfl (by first | exact cI | exact cB | exact cS | exact cP | exact cA | rfl) ?_; clear M; intro bb ww M; simp only [p0, p1, p2, p3, p4, Nat.reduceAdd]) | ((with_reducible refine wl_at ⟨_, .store _ _ _, _, _, _, _⟩ ?_); refine al_sh M rfl rfl rfl rfl (by first | rfl | exact Blob.len) ?_; clear M; intro ww M; simp only [p0, p1, p2, p3, p4, Nat.reduceAdd]) | ((with_reducible refine wl_at ⟨_, .store _ _ _, _, _, _, _⟩ ?_); refine al_st M rfl rfl rfl rfl (by first | exact cI | exact cB | exact cS | exact cP | exact cA | rfl) (by rfl) (by exact ones_of rfl) (by exact Nat.le_of_ble_eq_true rfl) (by simp only [splice, List.set_cons_succ, List.set_cons_zero]; rfl) ?_; clear M; intro ww M; simp only [p0, p1, p2, p3, p4, Nat.reduceAdd]) | ((with_reducible refine wl_at ⟨some _, .buildSlice _ _ _, _, _, _, _⟩ ?_); refine al_bsh M rfl rfl rfl (by first | exact h1v | exact h2v | exact h3v | exact h4v) rfl rfl ?_; clear M; intro bb ww M; simp only [p0, p1, p2, p3, p4, Nat.reduceAdd]) | ((with_reducible refine wl_at ⟨some _, .buildSlice _ _ _, _, _, _, _⟩ ?_); refine al_bsl M rfl rfl rfl rfl rfl rfl (by first | exact f1I | exact f2I | exact f1S | exact f2S | exact f3S | exact f1P | exact f1N | exact f2N | exact f4N | exact f5N | exact f2A | exact f1A) ?_; clear M; intro bb ww M; simp only [p0, p1, p2, p3, p4, Nat.reduceAdd]) | fail)
  replace M := M.conv .head wrA_new (fun _ h => h)
  obtain ⟨bw, rfl⟩ : ∃ bw, bw = bb := ⟨_, rfl⟩
  apply wp_drawS M [⟨none, some 3, [], []⟩, ⟨none, none, [1, 5, 9, 14, 16, 18, 20, 22], []⟩, ⟨some 2, none, [3], [2]⟩, ⟨some 3, some 7, [], [3]⟩, ⟨some 6, none, [7], [6]⟩, ⟨some 7, some 12, [], [7]⟩, ⟨some 11, none, [12], [11]⟩, ⟨some 12, some 24, [], [12]⟩, ⟨some 23, none, [24], [23]⟩, ⟨some 24, none, [], [24]⟩] [pK _, pK _, pN _ _, pW _ _, pN _ _, pW _ _, pN _ _, pW _ _, pN _ _, pW _ _] [2, 3, 6, 7, 11, 12, 23, 24] [.q, .q, .v [] _, .v [] _, .q, .q, .v [] _, .v [] _, .q, .q, .q, .v [] _, .v [] _, .q, .q, .q, .q, .q, .q, .q, .q, .q, .q, .v [] _, .v [] _] (by kernel_rfl) (.t (.t (.n (.n (.n (.n (.n (.n (.n (.n .z)))))))))) rfl
  repeat (refine wk_q rfl rfl rfl rfl (by intro w1 hI KK QQ hK; simp only [p0, p1, p2, p3, p4, Nat.reduceAdd] at hK; go_step; exact hK) ?_; simp only [p0, p1, p2, p3, p4, Nat.reduceAdd])
  refine wk_ld rfl rfl rfl (.at 1 rfl rfl rfl) (by first | exact .one rfl | exact .two rfl rfl | exact ldH | exact .all rfl | exact ldRoot _) ?_; simp only [p0, p1, p2, p3, p4, Nat.reduceAdd]
  refine wk_bsl rfl rfl rfl rfl rfl rfl rfl rfl (by first | exact f1I | exact f2I | exact f1S | exact f2S | exact f3S | exact f1P | exact f1N | exact f2N | exact f4N | exact f5N | exact f2A | exact f1A) (by exact .at 2 rfl rfl fun _ => rfl) rfl fun bb => ?_; simp only [p0, p1, p2, p3, p4, Nat.reduceAdd]
  refine wk_wr ([r.id].flatMap numB) rfl rfl rfl 0 2 3 rfl rfl rfl (fun _ => rfl) rfl rfl rfl rfl rfl rfl (fun _ => rfl) (by intro w1 h1 h2 h3 K Q hK; go_step; exact Calls.mono (num_wr w1 _ _ _ h1 _ [r.id] (num1 h2 [r.id] rfl rfl rfl) (by simp [numB_length, beI_length, beN_length]; try omega) (own_not h3)) (by rintro e w' h; have h' := h; obtain ⟨rfl, -⟩ := h; exact hK _ _ h')) fun F1 => ?_; simp only [p0, p1, p2, p3, p4, Nat.reduceAdd]
  repeat (refine wk_q rfl rfl rfl rfl (by intro w1 hI KK QQ hK; simp only [p0, p1, p2, p3, p4, Nat.reduceAdd] at hK; go_step; exact hK) ?_; simp only [p0, p1, p2, p3, p4, Nat.reduceAdd])
  refine wk_ld rfl rfl rfl (.at 1 rfl rfl rfl) (by first | exact .one rfl | exact .two rfl rfl | exact ldH | exact .all rfl | exact ldRoot _) ?_; simp only [p0, p1, p2, p3, p4, Nat.reduceAdd]
  refine wk_bsl rfl rfl rfl rfl rfl rfl rfl rfl (by first | exact f1I | exact f2I | exact f1S | exact f2S | exact f3S | exact f1P | exact f1N | exact f2N | exact f4N | exact f5N | exact f2A | exact f1A) (by exact .at 4 rfl rfl fun _ => rfl) rfl fun bb => ?_; simp only [p0, p1, p2, p3, p4, Nat.reduceAdd]
  refine wk_wr ([r.time].flatMap (beI 6)) rfl rfl rfl 3 4 5 rfl rfl rfl (fun _ => rfl) rfl rfl rfl rfl rfl rfl (fun _ => rfl) (by intro w1 h1 h2 h3 K Q hK; go_step; exact Calls.mono (int_wi w1 _ _ _ h1 6 _ [r.time] (by decide) (int1 h2 [r.time] rfl rfl rfl) (by simp [numB_length, beI_length, beN_length]; try omega) (own_not h3) (by simp)) (by rintro e w' h; have h' := h; obtain ⟨rfl, -⟩ := h; exact hK _ _ h')) fun F1 => ?_; simp only [p0, p1, p2, p3, p4, Nat.reduceAdd]
  repeat (refine wk_q rfl rfl rfl rfl (by intro w1 hI KK QQ hK; simp only [p0, p1, p2, p3, p4, Nat.reduceAdd] at hK; go_step; exact hK) ?_; simp only [p0, p1, p2, p3, p4, Nat.reduceAdd])
  refine wk_ld rfl rfl rfl (.at 1 rfl rfl rfl) (by first | exact .one rfl | exact .two rfl rfl | exact ldH | exact .all rfl | exact ldRoot _) ?_; simp only [p0, p1, p2, p3, p4, Nat.reduceAdd]
  repeat (refine wk_q rfl rfl rfl rfl (by intro w1 hI KK QQ hK; simp only [p0, p1, p2, p3, p4, Nat.reduceAdd] at hK; go_step; exact hK) ?_; simp only [p0, p1, p2, p3, p4, Nat.reduceAdd])
  refine wk_bsl rfl rfl rfl rfl rfl rfl rfl rfl (by first | exact f1I | exact f2I | exact f1S | exact f2S | exact f3S | exact f1P | exact f1N | exact f2N | exact f4N | exact f5N | exact f2A | exact f1A) (by exact .at 6 rfl rfl fun _ => rfl) rfl fun bb => ?_; simp only [p0, p1, p2, p3, p4, Nat.reduceAdd]
  refine wk_wr ([wrap64 (r.event + 1)].flatMap (beI 2)) rfl rfl rfl 5 6 7 rfl rfl rfl (fun _ => rfl) rfl rfl rfl rfl rfl rfl (fun _ => rfl) (by intro w1 h1 h2 h3 K Q hK; go_step; exact Calls.mono (int_wi w1 _ _ _ h1 2 _ [wrap64 (r.event + 1)] (by decide) (int1 h2 [wrap64 (r.event + 1)] rfl rfl rfl) (by simp [numB_length, beI_length, beN_length]; try omega) (own_not h3) (by simp)) (by rintro e w' h; have h' := h; obtain ⟨rfl, -⟩ := h; exact hK _ _ h')) fun F1 => ?_; simp only [p0, p1, p2, p3, p4, Nat.reduceAdd]
  repeat (refine wk_q rfl rfl rfl rfl (by intro w1 hI KK QQ hK; simp only [p0, p1, p2, p3, p4, Nat.reduceAdd] at hK; go_step; exact hK) ?_; simp only [p0, p1, p2, p3, p4, Nat.reduceAdd])
  refine wk_ld rfl rfl rfl (.at 1 rfl rfl rfl) (by first | exact .one rfl | exact .two rfl rfl | exact ldH | exact .all rfl | exact ldRoot _) ?_; simp only [p0, p1, p2, p3, p4, Nat.reduceAdd]
  repeat (refine wk_q rfl rfl rfl rfl (by intro w1 hI KK QQ hK; simp only [p0, p1, p2, p3, p4, Nat.reduceAdd] at hK; go_step; exact hK) ?_; simp only [p0, p1, p2, p3, p4, Nat.reduceAdd])
  refine wk_ld rfl rfl rfl (.at 1 rfl rfl rfl) (by first | exact .one rfl | exact .two rfl rfl | exact ldH | exact .all rfl | exact ldRoot _) ?_; simp only [p0, p1, p2, p3, p4, Nat.reduceAdd]
  repeat (refine wk_q rfl rfl rfl rfl (by intro w1 hI KK QQ hK; simp only [p0, p1, p2, p3, p4, Nat.reduceAdd] at hK; go_step; exact hK) ?_; simp only [p0, p1, p2, p3, p4, Nat.reduceAdd])
  refine wk_ld rfl rfl rfl (.at 1 rfl rfl rfl) (by first | exact .one rfl | exact .two rfl rfl | exact ldH | exact .all rfl | exact ldRoot _) ?_; simp only [p0, p1, p2, p3, p4, Nat.reduceAdd]
  repeat (refine wk_q rfl rfl rfl rfl (by intro w1 hI KK QQ hK; simp only [p0, p1, p2, p3, p4, Nat.reduceAdd] at hK; go_step; exact hK) ?_; simp only [p0, p1, p2, p3, p4, Nat.reduceAdd])
  refine wk_ld rfl rfl rfl (.at 1 rfl rfl rfl) (by first | exact .one rfl | exact .two rfl rfl | exact ldH | exact .all rfl | exact ldRoot _) ?_; simp only [p0, p1, p2, p3, p4, Nat.reduceAdd]
  repeat (refine wk_q rfl rfl rfl rfl (by intro w1 hI KK QQ hK; simp only [p0, p1, p2, p3, p4, Nat.reduceAdd] at hK; go_step; exact hK) ?_; simp only [p0, p1, p2, p3, p4, Nat.reduceAdd])
  refine wk_ld rfl rfl rfl (.at 1 rfl rfl rfl) (by first | exact .one rfl | exact .two rfl rfl | exact ldH | exact .all rfl | exact ldRoot _) ?_; simp only [p0, p1, p2, p3, p4, Nat.reduceAdd]
  refine wk_bsl rfl rfl rfl rfl rfl rfl rfl rfl (by first | exact f1I | exact f2I | exact f1S | exact f2S | exact f3S | exact f1P | exact f1N | exact f2N | exact f4N | exact f5N | exact f2A | exact f1A) (by exact .at 8 rfl rfl fun _ => rfl) rfl fun bb => ?_; simp only [p0, p1, p2, p3, p4, Nat.reduceAdd]
  refine wk_wr ([r.amount, r.dp, r.dq, r.cp, r.cq].flatMap numB) rfl rfl rfl 7 8 9 rfl rfl rfl (fun _ => rfl) rfl rfl rfl rfl rfl rfl (fun _ => rfl) (by intro w1 h1 h2 h3 K Q hK; go_step; exact Calls.mono (num_wr w1 _ _ _ h1 _ [r.amount, r.dp, r.dq, r.cp, r.cq] (num1 h2 [r.amount, r.dp, r.dq, r.cp, r.cq] rfl rfl rfl) (by simp [numB_length, beI_length, beN_length]; try omega) (own_not h3)) (by rintro e w' h; have h' := h; obtain ⟨rfl, -⟩ := h; exact hK _ _ h')) fun F1 => ?_; simp only [p0, p1, p2, p3, p4, Nat.reduceAdd]
  
  refine walk_nil fun w2 M => ?_
  simp only [mkToks, List.filter_cons, List.filter_nil, Option.isNone_none, Option.isNone_some, if_true, Bool.false_eq_true, if_false, List.map_cons, List.map_nil, Tok.at_, pK, pN, pR, pW, pT, pM, pB, Cl.val, List.getD_cons_zero, List.getD_cons_succ, upd, List.headD_cons, blkOf, gq, reduceIte, Nat.reduceEqDiff] at M
  go_wp2_with (fail)
  refine Calls.mono (bytes_wr w2 _ bw _ (M.get 5 rfl) (by simp [numB_length, beI_length])) ?_
  rintro e w3 ⟨v, rfl, ho, hb⟩
  have hsz := M.out.size
  replace M := M.below hb
  go_wp2_with (fail)
  go_ret
  have e1 : [] ++ [r.id].flatMap numB ++ [r.time].flatMap (beI 6) ++ [wrap64 (r.event + 1)].flatMap (beI 2) ++ [r.amount, r.dp, r.dq, r.cp, r.cq].flatMap numB = rowB r := by simp [rowB]
  rw [e1] at ho
  exact ⟨v, rfl, newRow_of (ho.low hsz) (rowB_length r) M.out⟩
end Go.Proofs.YtbenjjaofabdcaaGreatDoor
