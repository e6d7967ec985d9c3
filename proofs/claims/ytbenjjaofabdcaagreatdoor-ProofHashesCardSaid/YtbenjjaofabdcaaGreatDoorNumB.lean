/-
  u128.Bytes, Writer.Num, Writer.Raw.
-/
import Derived.Test.YtbenjjaofabdcaaGreatDoorTys
namespace Go.Proofs.YtbenjjaofabdcaaGreatDoor
open Go Go.RowKit

/-- A number's sixteen bytes. -/
def numB (n : Num) : List UInt8 := beN 8 n.hi ++ beN 8 n.lo
theorem numB_length (n : Num) : (numB n).length = 16 := by simp [numB, beN_length]
theorem beN_get (n x k : Nat) (h : k < n) : (beN n x)[k]? = some (UInt8.ofNat ((x / 256 ^ (n - 1 - k)) % 256)) := by
  have h1 : k < (beN n x).length := by rw [beN_length]; exact h
  rw [List.getElem?_eq_getElem h1]
  simp only [beN, List.getElem_map, List.getElem_reverse, List.getElem_range, List.length_range]
theorem u8c_shr (x j : Nat) : Value.int .u8 ((x : Int) / 2 ^ (8 * j) % 256) = u8c (UInt8.ofNat ((x / 256 ^ j) % 256)) := by
  rw [← u8c_mod, show (256 : Nat) ^ j = 2 ^ (8 * j) by rw [Nat.pow_mul]]
  simp
theorem numB_next (n : Num) (j : Nat) (hj : j < 16) : (numB n).take (15 - j) ++ [UInt8.ofNat (((if 8 ≤ j then n.hi else n.lo) / 256 ^ (j % 8)) % 256)] = (numB n).take (16 - j) := by
  have h1 : (numB n)[15 - j]? = some (UInt8.ofNat (((if 8 ≤ j then n.hi else n.lo) / 256 ^ (j % 8)) % 256)) := by
    unfold numB
    by_cases h : 8 ≤ j
    · rw [if_pos h, List.getElem?_append_left (by rw [beN_length]; omega), beN_get _ _ _ (by omega), show 8 - 1 - (15 - j) = j % 8 by omega]
    · rw [if_neg h, List.getElem?_append_right (by rw [beN_length]; omega), beN_length, beN_get _ _ _ (by omega), show 8 - 1 - (15 - j - 8) = j % 8 by omega]
  have h2 : 16 - j = 15 - j + 1 := by omega
  rw [h2, List.take_add_one, h1]
  rfl
theorem ownB_of {w : World} {B n : Nat} {v : Value} {l : List UInt8} (h : (rowA 5 1 v n (bcs l)).holds w) (hn : n = l.length) (hb : ∀ k, v.ownBlock = some k → B ≤ k) : OwnB w B 5 v l := by
  subst hn
  obtain ⟨h1, h2 | ⟨g, cap, cur, rfl, _, h3⟩⟩ := h
  · exact ⟨h1, .inl h2⟩
  · exact ⟨h1, .inr ⟨g, cap, cur, rfl, hb g rfl, h3⟩⟩
theorem newRow_of {w w' : World} {v : Value} {l : List UInt8} {n : Nat} (h : OwnB w' w.heap.size 5 v l) (hn : l.length = n) (hb : Below w.heap.size w w') : NewRow 5 1 n (bcs l) w v w' := by
  subst hn
  refine ⟨?_, h.base, hb⟩
  obtain ⟨h1, h2 | ⟨g, cap, cur, h3, _, h4⟩⟩ := h
  · exact ⟨h1, .inl h2⟩
  · exact ⟨h1, .inr ⟨g, cap, cur, h3, Nat.zero_le _, h4⟩⟩
set_option maxHeartbeats 1600000 in
set_option maxRecDepth 100000 in
theorem numB_any (w : World) (n : Num) : Calls Tryz.prog 93 #[nv n] w fun e w' => ∃ v, e = .returned v ∧ OwnB w' w.heap.size 5 v (numB n) ∧ Below w.heap.size w w' := by
  have M := Sep.start (fun _ => False) w
  go_enter Tryz.func93, Tryz.ntmps93
  go_wp2_with (first | ((with_reducible refine wl_at ⟨some _, .load _ _, _, _, _, _⟩ ?_); refine al_ld M rfl rfl rfl (by first | exact .one rfl | exact .two rfl rfl | exact ldH | exact .all rfl | exact ldRoot _) ?_; simp only [p0, p1, p2, p3, p4, Nat.reduceAdd]) | ((with_reducible refine wl_at ⟨some _, .alloc _, _, _, _, _⟩ ?_); refine al_alloc M rfl rfl ?_; clear M; intro bb ww M; simp only [p0, p1, p2, p3, p4, Nat.reduceAdd]) | ((with_reducible refine wl_at ⟨some _, .box _ _, _, _, _, _⟩ ?_); refine al_box M rfl rfl rfl (by first | exact cI | exact cB | exact cS | exact cP | exact cA | rfl) ?_; clear M; intro bb ww M; simp only [p0, p1, p2, p3, p4, Nat.reduceAdd]) | ((with_reducible refine wl_at ⟨_, .store _ _ _, _, _, _, _⟩ ?_); refine al_sh M rfl rfl rfl rfl (by first | rfl | exact Blob.len) ?_; clear M; intro ww M; simp only [p0, p1, p2, p3, p4, Nat.reduceAdd]) | ((with_reducible refine wl_at ⟨_, .store _ _ _, _, _, _, _⟩ ?_); refine al_st M rfl rfl rfl rfl (by first | exact cI | exact cB | exact cS | exact cP | exact cA | rfl) (by rfl) (by exact ones_of rfl) (by exact Nat.le_of_ble_eq_true rfl) (by simp only [splice, List.set_cons_succ, List.set_cons_zero]; rfl) ?_; clear M; intro ww M; simp only [p0, p1, p2, p3, p4, Nat.reduceAdd]) | ((with_reducible refine wl_at ⟨some _, .buildSlice _ _ _, _, _, _, _⟩ ?_); refine al_bsh M rfl rfl rfl (by first | exact h1v | exact h2v | exact h3v | exact h4v) rfl rfl ?_; clear M; intro bb ww M; simp only [p0, p1, p2, p3, p4, Nat.reduceAdd]) | ((with_reducible refine wl_at ⟨some _, .buildSlice _ _ _, _, _, _, _⟩ ?_); refine al_bsl M rfl rfl rfl rfl rfl rfl (by first | exact f1I | exact f2I | exact f1S | exact f2S | exact f3S | exact f1P | exact f1N | exact f2N | exact f4N | exact f5N | exact f2A | exact f1A) ?_; clear M; intro bb ww M; simp only [p0, p1, p2, p3, p4, Nat.reduceAdd]) | ((with_reducible refine wl_at ⟨some 6, _, _, _, _, _⟩ ?_); refine al_make0 M (c := 16) rfl rfl rfl rfl (by decide) (by decide) ?_; clear M; intro b6 ww M; simp only [Act.put, List.setIfInBounds_toArray, List.set_cons_succ, List.set_cons_zero]) | fail)
  go_loopw [3, 4] (fun v k wr => ∃ j : Nat, j ≤ 16 ∧ k = .int .i64 ((j : Int) - 1) ∧ ∃ ao c, v = .slice ao (16 - j) c ∧ Sep (fun _ => False) w wr [rowA 5 1 (.slice ao (16 - j) c) (16 - j) (bcs ((numB n).take (16 - j))), pts bb 35 (ncs n)]) (fun _ k _ => (intOf k + 1).toNat)
  case atStart => exact ⟨16, Nat.le_refl _, rfl, _, _, rfl, M⟩
  case round =>
    clear M
    obtain ⟨j, hj, rfl, ao, c, rfl, M⟩ := hrel
    rcases j with _ | j
    · rw [show (((0 : Nat) : Int) - 1) = -1 by rfl]
      rw [List.take_of_length_le (by rw [numB_length]; omega)] at M
      go_wp2_with (first | ((with_reducible refine wl_at ⟨some _, .load _ _, _, _, _, _⟩ ?_); refine al_ld M rfl rfl rfl (by first | exact .one rfl | exact .two rfl rfl | exact ldH | exact .all rfl | exact ldRoot _) ?_; simp only [p0, p1, p2, p3, p4, Nat.reduceAdd]) | ((with_reducible refine wl_at ⟨some _, .alloc _, _, _, _, _⟩ ?_); refine al_alloc M rfl rfl ?_; clear M; intro bb ww M; simp only [p0, p1, p2, p3, p4, Nat.reduceAdd]) | ((with_reducible refine wl_at ⟨some _, .box _ _, _, _, _, _⟩ ?_); refine al_box M rfl rfl rfl (by first | exact cI | exact cB | exact cS | exact cP | exact cA | rfl) ?_; clear M; intro bb ww M; simp only [p0, p1, p2, p3, p4, Nat.reduceAdd]) | ((with_reducible refine wl_at ⟨_, .store _ _ _, _, _, _, _⟩ ?_); refine al_sh M rfl rfl rfl rfl (by first | rfl | exact Blob.len) ?_; clear M; intro ww M; simp only [p0, p1, p2, p3, p4, Nat.reduceAdd]) | ((with_reducible refine wl_at ⟨_, .store _ _ _, _, _, _, _⟩ ?_); refine al_st M rfl rfl rfl rfl (by first | exact cI | exact cB | exact cS | exact cP | exact cA | rfl) (by rfl) (by exact ones_of rfl) (by exact Nat.le_of_ble_eq_true rfl) (by simp only [splice, List.set_cons_succ, List.set_cons_zero]; rfl) ?_; clear M; intro ww M; simp only [p0, p1, p2, p3, p4, Nat.reduceAdd]) | ((with_reducible refine wl_at ⟨some _, .buildSlice _ _ _, _, _, _, _⟩ ?_); refine al_bsh M rfl rfl rfl (by first | exact h1v | exact h2v | exact h3v | exact h4v) rfl rfl ?_; clear M; intro bb ww M; simp only [p0, p1, p2, p3, p4, Nat.reduceAdd]) | ((with_reducible refine wl_at ⟨some _, .buildSlice _ _ _, _, _, _, _⟩ ?_); refine al_bsl M rfl rfl rfl rfl rfl rfl (by first | exact f1I | exact f2I | exact f1S | exact f2S | exact f3S | exact f1P | exact f1N | exact f2N | exact f4N | exact f5N | exact f2A | exact f1A) ?_; clear M; intro bb ww M; simp only [p0, p1, p2, p3, p4, Nat.reduceAdd]) | fail)
      go_ret
      exact ⟨.slice ao (16 - 0) c, rfl, ownB_of (M.get 0 rfl) (by rw [numB_length]) fun k hk => (M.own _ (.head _) k hk).resolve_left id, M.out⟩
    · rw [show (((j + 1 : Nat) : Int) - 1) = (j : Int) by omega]
      have hn := numB_next n j (by omega)
      rw [show 16 - (j + 1) = 15 - j by omega] at M ⊢
      have hu := u8c_shr (if 8 ≤ j then n.hi else n.lo) (j % 8)
      by_cases h8 : 8 ≤ j
      · rw [if_pos h8] at hn hu
        have HN := Lib.hid hn
        have HU := Lib.hid hu
        clear hn hu
        go_wp2_with (first | ((with_reducible refine wl_at ⟨some _, .load _ _, _, _, _, _⟩ ?_); refine al_ld M rfl rfl rfl (by first | exact .one rfl | exact .two rfl rfl | exact ldH | exact .all rfl | exact ldRoot _) ?_; simp only [p0, p1, p2, p3, p4, Nat.reduceAdd]) | ((with_reducible refine wl_at ⟨some _, .alloc _, _, _, _, _⟩ ?_); refine al_alloc M rfl rfl ?_; clear M; intro bb ww M; simp only [p0, p1, p2, p3, p4, Nat.reduceAdd]) | ((with_reducible refine wl_at ⟨some _, .box _ _, _, _, _, _⟩ ?_); refine al_box M rfl rfl rfl (by first | exact cI | exact cB | exact cS | exact cP | exact cA | rfl) ?_; clear M; intro bb ww M; simp only [p0, p1, p2, p3, p4, Nat.reduceAdd]) | ((with_reducible refine wl_at ⟨_, .store _ _ _, _, _, _, _⟩ ?_); refine al_sh M rfl rfl rfl rfl (by first | rfl | exact Blob.len) ?_; clear M; intro ww M; simp only [p0, p1, p2, p3, p4, Nat.reduceAdd]) | ((with_reducible refine wl_at ⟨_, .store _ _ _, _, _, _, _⟩ ?_); refine al_st M rfl rfl rfl rfl (by first | exact cI | exact cB | exact cS | exact cP | exact cA | rfl) (by rfl) (by exact ones_of rfl) (by exact Nat.le_of_ble_eq_true rfl) (by simp only [splice, List.set_cons_succ, List.set_cons_zero]; rfl) ?_; clear M; intro ww M; simp only [p0, p1, p2, p3, p4, Nat.reduceAdd]) | ((with_reducible refine wl_at ⟨some _, .buildSlice _ _ _, _, _, _, _⟩ ?_); refine al_bsh M rfl rfl rfl (by first | exact h1v | exact h2v | exact h3v | exact h4v) rfl rfl ?_; clear M; intro bb ww M; simp only [p0, p1, p2, p3, p4, Nat.reduceAdd]) | ((with_reducible refine wl_at ⟨some _, .buildSlice _ _ _, _, _, _, _⟩ ?_); refine al_bsl M rfl rfl rfl rfl rfl rfl (by first | exact f1I | exact f2I | exact f1S | exact f2S | exact f3S | exact f1P | exact f1N | exact f2N | exact f4N | exact f5N | exact f2A | exact f1A) ?_; clear M; intro bb ww M; simp only [p0, p1, p2, p3, p4, Nat.reduceAdd]) | ((with_reducible refine wl_at ⟨some _, .call _, _, _, _, _⟩ ?_); refine al_app M rfl rfl rfl rfl rfl rfl (by first | rfl | exact Blob.len | exact hcs_length _ H32s.all) rfl rfl (by first | exact ones_of rfl | exact ones_bcs _ | exact ones_hcs _ | exact Blob.one) (by first | decide | omega) ?_; clear M; intro ao cc ww M; simp only [p0, p1, p2, p3, p4, Nat.reduceAdd]) | fail)
        refine ⟨⟨j, by omega, rfl, _, _, by rw [show 15 - j + 1 = 16 - j by omega], ?_⟩, by simp [intOf]⟩
        refine (M.sub (.cons _ (.refl _))).as ?_
        rw [show 15 - j + 1 = 16 - j by omega, ← HN.out, bcs_append, HU.out]; rfl
      · rw [if_neg h8] at hn hu
        have HN := Lib.hid hn
        have HU := Lib.hid hu
        clear hn hu
        go_wp2_with (first | ((with_reducible refine wl_at ⟨some _, .load _ _, _, _, _, _⟩ ?_); refine al_ld M rfl rfl rfl (by first | exact .one rfl | exact .two rfl rfl | exact ldH | exact .all rfl | exact ldRoot _) ?_; simp only [p0, p1, p2, p3, p4, Nat.reduceAdd]) | ((with_reducible refine wl_at ⟨some _, .alloc _, _, _, _, _⟩ ?_); refine al_alloc M rfl rfl ?_; clear M; intro bb ww M; simp only [p0, p1, p2, p3, p4, Nat.reduceAdd]) | ((with_reducible refine wl_at ⟨some _, .box _ _, _, _, _, _⟩ ?_); refine al_box M rfl rfl rfl (by first | exact cI | exact cB | exact cS | exact cP | exact cA | rfl) ?_; clear M; intro bb ww M; simp only [p0, p1, p2, p3, p4, Nat.reduceAdd]) | ((with_reducible refine wl_at ⟨_, .store _ _ _, _, _, _, _⟩ ?_); refine al_sh M rfl rfl rfl rfl (by first | rfl | exact Blob.len) ?_; clear M; intro ww M; simp only [p0, p1, p2, p3, p4, Nat.reduceAdd]) | ((with_reducible refine wl_at ⟨_, .store _ _ _, _, _, _, _⟩ ?_); refine al_st M rfl rfl rfl rfl (by first | exact cI | exact cB | exact cS | exact cP | exact cA | rfl) (by rfl) (by exact ones_of rfl) (by exact Nat.le_of_ble_eq_true rfl) (by simp only [splice, List.set_cons_succ, List.set_cons_zero]; rfl) ?_; clear M; intro ww M; simp only [p0, p1, p2, p3, p4, Nat.reduceAdd]) | ((with_reducible refine wl_at ⟨some _, .buildSlice _ _ _, _, _, _, _⟩ ?_); refine al_bsh M rfl rfl rfl (by first | exact h1v | exact h2v | exact h3v | exact h4v) rfl rfl ?_; clear M; intro bb ww M; simp only [p0, p1, p2, p3, p4, Nat.reduceAdd]) | ((with_reducible refine wl_at ⟨some _, .buildSlice _ _ _, _, _, _, _⟩ ?_); refine al_bsl M rfl rfl rfl rfl rfl rfl (by first | exact f1I | exact f2I | exact f1S | exact f2S | exact f3S | exact f1P | exact f1N | exact f2N | exact f4N | exact f5N | exact f2A | exact f1A) ?_; clear M; intro bb ww M; simp only [p0, p1, p2, p3, p4, Nat.reduceAdd]) | ((with_reducible refine wl_at ⟨some _, .call _, _, _, _, _⟩ ?_); refine al_app M rfl rfl rfl rfl rfl rfl (by first | rfl | exact Blob.len | exact hcs_length _ H32s.all) rfl rfl (by first | exact ones_of rfl | exact ones_bcs _ | exact ones_hcs _ | exact Blob.one) (by first | decide | omega) ?_; clear M; intro ao cc ww M; simp only [p0, p1, p2, p3, p4, Nat.reduceAdd]) | fail)
        refine ⟨⟨j, by omega, rfl, _, _, by rw [show 15 - j + 1 = 16 - j by omega], ?_⟩, by simp [intOf]⟩
        refine (M.sub (.cons _ (.refl _))).as ?_
        rw [show 15 - j + 1 = 16 - j by omega, ← HN.out, bcs_append, HU.out]; rfl
theorem numB_row (w : World) (n : Num) : Calls Tryz.prog 93 #[nv n] w fun e w' => ∃ v, e = .returned v ∧ NewRow 5 1 16 (bcs (numB n)) w v w' := (numB_any w n).mono fun e w' ⟨v, h1, h2, h3⟩ => ⟨v, h1, newRow_of h2 (numB_length n) h3⟩
/-! ### A writer, taken apart -/
theorem wr_open {F : Nat → Prop} {bw : Nat} {l : List UInt8} {w : World} (hW : (wrA F bw l).holds w) : ∃ ao c, Sep (WFp w bw) w w [pts bw 92 [.slice ao l.length c], rowA 5 1 (.slice ao l.length c) l.length (bcs l)] := by
  obtain ⟨vb, hc, ho⟩ := hW.1.ex
  obtain ⟨ao, c, rfl⟩ := ho.form
  have hb := ho.base
  have ho' : (rowA 5 1 (.slice ao l.length c) l.length (bcs l)).holds w := by
    obtain ⟨h1, h2 | ⟨g, cap, cur, h3, _, h4⟩⟩ := ho
    · exact ⟨h1, .inl h2⟩
    · exact ⟨h1, .inr ⟨g, cap, cur, h3, Nat.zero_le _, h4⟩⟩
  refine ⟨ao, c, Kp.refl _ _, ?_, ?_, ?_⟩
  · intro A hA
    simp at hA
    rcases hA with rfl | rfl
    · exact hc
    · exact ho'
  · simp only [List.pairwise_cons, List.mem_cons, List.not_mem_nil, or_false, forall_eq, false_imp_iff, implies_true, List.Pairwise.nil, and_true]
    intro k hk hk'
    have := hb k hk'
    rw [show k = bw from hk] at this
    omega
  · intro A hA k hk
    simp at hA
    rcases hA with rfl | rfl
    · exact .inl (.inl hk)
    · exact .inl (.inr ⟨_, hc, hk⟩)
theorem wr_close {F : Nat → Prop} {bw n : Nat} {l0 l : List UInt8} {w w' : World} {ao : Option Addr} {c : Nat} {L : List Asn} {v : Value} {e : Ending} (hW : (wrA F bw l0).holds w) (M : Sep (WFp w bw) w w' (pts bw 92 [.slice ao n c] :: rowA 5 1 (.slice ao n c) n (bcs l) :: L)) (he : e = .returned v) : CPost (fun F => wrA F bw l) F v w e w' := by
  have h0 := M.get 0 rfl
  have h1 := M.get 1 rfl
  have hd := (List.pairwise_cons.1 M.disj).1 _ (.head _)
  have hown := M.own _ (.tail _ (.head _))
  have hn : n = l.length := by have := h1.1; simpa [bcs_length] using this.symm
  subst hn
  have hbw : bw < w.heap.size := WFp.lt hW.1 bw (.inl rfl)
  have hbase : ∀ k, (Value.slice ao l.length c).ownBlock = some k → bw + 1 ≤ k := fun k hk => by
    rcases hown k hk with (h | ⟨vb, h2, h3⟩) | h
    · exact absurd hk (hd k h)
    · obtain ⟨vb', h4, h5⟩ := hW.1.ex
      rw [h4] at h2
      simp at h2
      subst h2
      exact h5.base k h3
    · omega
  refine wrA.of hW ⟨he, ⟨_, h0, ownB_of h1 rfl hbase⟩, ?_⟩
  refine ⟨M.keep, fun k hk => ?_⟩
  rcases hk with rfl | ⟨vb, h2, h3⟩
  · exact .inl (.inl rfl)
  · rw [show w'.heap[bw]? = _ from h0] at h2
    simp at h2
    subst h2
    exact hown k h3
theorem nums_take {l : List Num} {k : Nat} (h : k < l.length) (F : Num → List UInt8) : (l.take (k + 1)).flatMap F = (l.take k).flatMap F ++ F l[k] := by
  rw [List.take_succ_eq_append_getElem h, List.flatMap_append]; simp
theorem flat_len {α : Type} (F : α → List UInt8) (m : Nat) (hF : ∀ x, (F x).length = m) (l : List α) : (l.flatMap F).length = l.length * m := by
  induction l with
  | nil => simp
  | cons x r ih => simp [ih, hF, Nat.succ_mul]; omega
set_option maxHeartbeats 1600000 in
set_option maxRecDepth 100000 in
theorem num_wr (w : World) (F : Nat → Prop) (bw : Nat) (l : List UInt8) (hW : (wrA F bw l).holds w) (v : Value) (xs : List Num) (hx : Sl w 2 v xs.length (nums xs)) (hlen : l.length + xs.length * 16 ≤ 1099511627776) (hv : ∀ k, v.ownBlock = some k → ¬ F k) :
    Calls Tryz.prog 58 #[ptr bw 0, v] w (CPost (fun F => wrA F bw (l ++ xs.flatMap numB)) F (ptr bw 0) w) := by
  have M : Sep F w w _ := Sep.one hW
  obtain ⟨ao, c, rfl⟩ := hx.form
  have HX := Lib.hid hx
  have HV := Lib.hid hv
  clear hx hv
  go_enter Tryz.func58, Tryz.ntmps58
  go_wp2_with (first | ((with_reducible refine wl_at ⟨some _, .load _ _, _, _, _, _⟩ ?_); refine al_ld M rfl rfl rfl (by first | exact .one rfl | exact .two rfl rfl | exact ldH | exact .all rfl | exact ldRoot _) ?_; simp only [p0, p1, p2, p3, p4, Nat.reduceAdd]) | ((with_reducible refine wl_at ⟨some _, .alloc _, _, _, _, _⟩ ?_); refine al_alloc M rfl rfl ?_; clear M; intro bb ww M; simp only [p0, p1, p2, p3, p4, Nat.reduceAdd]) | ((with_reducible refine wl_at ⟨some _, .box _ _, _, _, _, _⟩ ?_); refine al_box M rfl rfl rfl (by first | exact cI | exact cB | exact cS | exact cP | exact cA | rfl) ?_; clear M; intro bb ww M; simp only [p0, p1, p2, p3, p4, Nat.reduceAdd]) | ((with_reducible refine wl_at ⟨_, .store _ _ _, _, _, _, _⟩ ?_); refine al_sh M rfl rfl rfl rfl (by first | rfl | exact Blob.len) ?_; clear M; intro ww M; simp only [p0, p1, p2, p3, p4, Nat.reduceAdd]) | ((with_reducible refine wl_at ⟨_, .store _ _ _, _, _, _, _⟩ ?_); refine al_st M rfl rfl rfl rfl (by first | exact cI | exact cB | exact cS | exact cP | exact cA | rfl) (by rfl) (by exact ones_of rfl) (by exact Nat.le_of_ble_eq_true rfl) (by simp only [splice, List.set_cons_succ, List.set_cons_zero]; rfl) ?_; clear M; intro ww M; simp only [p0, p1, p2, p3, p4, Nat.reduceAdd]) | ((with_reducible refine wl_at ⟨some _, .buildSlice _ _ _, _, _, _, _⟩ ?_); refine al_bsh M rfl rfl rfl (by first | exact h1v | exact h2v | exact h3v | exact h4v) rfl rfl ?_; clear M; intro bb ww M; simp only [p0, p1, p2, p3, p4, Nat.reduceAdd]) | ((with_reducible refine wl_at ⟨some _, .buildSlice _ _ _, _, _, _, _⟩ ?_); refine al_bsl M rfl rfl rfl rfl rfl rfl (by first | exact f1I | exact f2I | exact f1S | exact f2S | exact f3S | exact f1P | exact f1N | exact f2N | exact f4N | exact f5N | exact f2A | exact f1A) ?_; clear M; intro bb ww M; simp only [p0, p1, p2, p3, p4, Nat.reduceAdd]) | fail)
  go_loopw [9] (fun i wr => ∃ k : Nat, k ≤ xs.length ∧ i = .int .i64 k ∧ ∃ F1, Sep F w wr [wrA F1 bw (l ++ (xs.take k).flatMap numB)]) (fun i _ => xs.length - (intOf i).toNat)
  case atStart => exact ⟨0, Nat.zero_le _, rfl, F, by simpa using M⟩
  case round =>
    clear M
    obtain ⟨k, hk, rfl, F1, M0⟩ := hrel
    by_cases hlt : k < xs.length
    · obtain ⟨b0, o0, rfl⟩ := HX.out.solid (by omega)
      have hr := nums_row (HX.out.kp M0.keep HV.out) k hlt
      have hW1 := M0.get 0 rfl
      obtain ⟨a1, c1, M⟩ := wr_open hW1
      have hfl := nums_take hlt numB
      have hll : (l ++ (xs.take k).flatMap numB).length ≤ 1099511627776 := by
        rw [List.length_append, flat_len numB 16 numB_length, List.length_take]
        have : min k xs.length * 16 ≤ xs.length * 16 := Nat.mul_le_mul_right _ (Nat.min_le_right _ _)
        omega
      generalize xs[k] = x at *
      generalize hL : l ++ (xs.take k).flatMap numB = L at *
      have HR := Lib.hid hr
      have HL := Lib.hid hL
      have HF := Lib.hid hfl
      have HW1 := Lib.hid hW1
      have HM0 := Lib.hid M0
      clear hr hL hfl hW1 M0
      go_wp2_with (first | ((with_reducible refine wl_at ⟨some 12, _, _, _, _, _⟩ ?_); refine al_ldr M (ds := [.int .u64 x.hi, .int .u64 x.lo]) rfl rfl rfl HR.out rfl (.inl ⟨rfl, rfl⟩) ?_; simp only [Act.put, List.setIfInBounds_toArray, List.set_cons_succ, List.set_cons_zero]) | ((with_reducible refine wl_at ⟨some _, .load _ _, _, _, _, _⟩ ?_); refine al_ld M rfl rfl rfl (by first | exact .one rfl | exact .two rfl rfl | exact ldH | exact .all rfl | exact ldRoot _) ?_; simp only [p0, p1, p2, p3, p4, Nat.reduceAdd]) | ((with_reducible refine wl_at ⟨some _, .alloc _, _, _, _, _⟩ ?_); refine al_alloc M rfl rfl ?_; clear M; intro bb ww M; simp only [p0, p1, p2, p3, p4, Nat.reduceAdd]) | ((with_reducible refine wl_at ⟨some _, .box _ _, _, _, _, _⟩ ?_); refine al_box M rfl rfl rfl (by first | exact cI | exact cB | exact cS | exact cP | exact cA | rfl) ?_; clear M; intro bb ww M; simp only [p0, p1, p2, p3, p4, Nat.reduceAdd]) | ((with_reducible refine wl_at ⟨_, .store _ _ _, _, _, _, _⟩ ?_); refine al_sh M rfl rfl rfl rfl (by first | rfl | exact Blob.len) ?_; clear M; intro ww M; simp only [p0, p1, p2, p3, p4, Nat.reduceAdd]) | ((with_reducible refine wl_at ⟨_, .store _ _ _, _, _, _, _⟩ ?_); refine al_st M rfl rfl rfl rfl (by first | exact cI | exact cB | exact cS | exact cP | exact cA | rfl) (by rfl) (by exact ones_of rfl) (by exact Nat.le_of_ble_eq_true rfl) (by simp only [splice, List.set_cons_succ, List.set_cons_zero]; rfl) ?_; clear M; intro ww M; simp only [p0, p1, p2, p3, p4, Nat.reduceAdd]) | ((with_reducible refine wl_at ⟨some _, .buildSlice _ _ _, _, _, _, _⟩ ?_); refine al_bsh M rfl rfl rfl (by first | exact h1v | exact h2v | exact h3v | exact h4v) rfl rfl ?_; clear M; intro bb ww M; simp only [p0, p1, p2, p3, p4, Nat.reduceAdd]) | ((with_reducible refine wl_at ⟨some _, .buildSlice _ _ _, _, _, _, _⟩ ?_); refine al_bsl M rfl rfl rfl rfl rfl rfl (by first | exact f1I | exact f2I | exact f1S | exact f2S | exact f3S | exact f1P | exact f1N | exact f2N | exact f4N | exact f5N | exact f2A | exact f1A) ?_; clear M; intro bb ww M; simp only [p0, p1, p2, p3, p4, Nat.reduceAdd]) | fail)
      apply wp_drawS M [⟨none, none, [5], []⟩, ⟨none, some 10, [4], []⟩, ⟨none, some 7, [], []⟩, ⟨some 6, none, [7], [6]⟩, ⟨some 7, none, [], [7]⟩, ⟨some 10, none, [], [7]⟩] [pK _, pK _, pK _, pR _ _ _ _, pR _ _ _ _, pM _ _ [.g 0]] [6, 7, 10] [.q, .q, .q, .q, .q, .q, .v [] _, .v [] _, .q, .q, .v [] _] (by kernel_rfl) (.t (.t (.t (.n (.n (.n .z)))))) rfl
      repeat (refine wk_q rfl rfl rfl rfl (by intro w1 hI KK QQ hK; simp only [p0, p1, p2, p3, p4, Nat.reduceAdd] at hK; go_step; exact hK) ?_; simp only [p0, p1, p2, p3, p4, Nat.reduceAdd])
      refine wk_ld rfl rfl rfl (.at 1 rfl rfl rfl) (by first | exact .one rfl | exact .two rfl rfl | exact ldH | exact .all rfl | exact ldRoot _) ?_; simp only [p0, p1, p2, p3, p4, Nat.reduceAdd]
      refine wk_ld rfl rfl rfl (.at 0 rfl rfl rfl) (by first | exact .one rfl | exact .two rfl rfl | exact ldH | exact .all rfl | exact ldRoot _) ?_; simp only [p0, p1, p2, p3, p4, Nat.reduceAdd]
      (refine wk_row rfl rfl rfl (by intro w1 hI K Q hK; go_step; exact Calls.mono (numB_row w1 x) (by rintro e w' ⟨v, rfl, hN⟩; exact hK _ _ hN)) (.at 3 rfl rfl fun _ => rfl) rfl fun ao cc => ?_; simp only [p0, p1, p2, p3, p4, Nat.reduceAdd])
      refine wk_app rfl rfl rfl rfl rfl (.at 2 rfl rfl rfl fun _ => rfl) rfl (src_row (.at 3 rfl rfl rfl)) (by first | exact ones_of rfl | exact ones_bcs _ | exact ones_hcs _ | exact Blob.one) (by first | decide | omega) (.at 4 rfl rfl fun _ => rfl) fun ao cc => ?_; simp only [p0, p1, p2, p3, p4, Nat.reduceAdd]
      repeat (refine wk_q rfl rfl rfl rfl (by intro w1 hI KK QQ hK; simp only [p0, p1, p2, p3, p4, Nat.reduceAdd] at hK; go_step; exact hK) ?_; simp only [p0, p1, p2, p3, p4, Nat.reduceAdd])
      refine wk_st rfl rfl rfl rfl (.at 1 rfl rfl rfl fun _ => rfl) rfl (by first | exact cI | exact cB | exact cS | exact cP | exact cA | rfl) (by rfl) (by exact ones_of rfl) (by exact Nat.le_of_ble_eq_true rfl) (by simp only [splice, List.set_cons_succ, List.set_cons_zero]; rfl) (by exact .at 5 rfl rfl fun _ => rfl) ?_
      refine walk_nil fun w2 M => ?_
      simp only [mkToks, List.filter_cons, List.filter_nil, Option.isNone_none, Option.isNone_some, if_true, Bool.false_eq_true, if_false, List.map_cons, List.map_nil, Tok.at_, pK, pN, pR, pW, pT, pM, pB, Cl.val, List.getD_cons_zero, List.getD_cons_succ, upd, List.headD_cons, blkOf, gq, reduceIte, Nat.reduceEqDiff] at M
      obtain ⟨-, F2, hk2, hT2, hf2⟩ := wr_close HW1.out (l := L ++ numB x) (L := []) ((M.sel [3, 2] rfl (by decide)).as (by rw [bcs_append])) (rfl : Ending.returned (.pointer none) = _)
      replace M := HM0.out.repl .head hk2 hT2 hf2
      clear hk2 hT2 hf2
      go_wp2_with (fail)
      exact ⟨⟨k + 1, by omega, by go_num, F2, M.as (by rw [HF.out, ← List.append_assoc, HL.out])⟩, by simp [intOf]; omega⟩
    · obtain rfl : k = xs.length := by omega
      rw [List.take_length] at M0
      go_wp2_with (fail)
      go_ret
      exact ⟨rfl, F1, M0.keep, M0.get 0 rfl, M0.own _ (.head _)⟩
end Go.Proofs.YtbenjjaofabdcaaGreatDoor
