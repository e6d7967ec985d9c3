/-
  Writer.Int of any numbers, Writer.Raw.
-/
import Derived.Test.YtbenjjaofabdcaaGreatDoorNumB
namespace Go.Proofs.YtbenjjaofabdcaaGreatDoor
open Go Go.RowKit

/-- The lowest n bytes of a number, the highest first. -/
def beI (n : Nat) (x : Int) : List UInt8 := (List.range n).reverse.map fun k => UInt8.ofNat ((x / 256 ^ k) % 256).toNat
theorem beI_length (n : Nat) (x : Int) : (beI n x).length = n := by simp [beI]
theorem beI_take (n : Nat) (x : Int) (j : Nat) (h : j < n) : (beI n x).take (n - j) = (beI n x).take (n - (j + 1)) ++ [UInt8.ofNat ((x / 256 ^ j) % 256).toNat] := by
  have h1 : n - (j + 1) < (beI n x).length := by rw [beI_length]; omega
  rw [show n - j = n - (j + 1) + 1 by omega, List.take_succ_eq_append_getElem h1]
  congr 2
  simp only [beI, List.getElem_map, List.getElem_reverse, List.getElem_range, List.length_range]
  rw [show n - 1 - (n - (j + 1)) = j by omega]
theorem u8c_int (y : Int) : Value.int .u8 (y % 256) = u8c (UInt8.ofNat (y % 256).toNat) := by
  have h1 : 0 ≤ y % 256 := Int.emod_nonneg _ (by decide)
  have h2 : y % 256 < 256 := Int.emod_lt_of_pos _ (by decide)
  obtain ⟨n, hn⟩ := Int.eq_ofNat_of_zero_le h1
  rw [hn]
  have h3 : n % 256 = n := Nat.mod_eq_of_lt (by omega)
  have := u8c_mod n
  rw [show ((n : Int) % 256) = (n : Int) by omega, h3] at this
  simpa using this
set_option maxHeartbeats 1600000 in
set_option maxRecDepth 100000 in
theorem int_wi (w : World) (F : Nat → Prop) (bw : Nat) (l : List UInt8) (hW : (wrA F bw l).holds w) (n : Nat) (v : Value) (xs : List Int) (hn : n ≤ 8) (hx : Sl w 1 v xs.length (xs.map (Value.int .i64))) (hlen : l.length + xs.length * n ≤ 1099511627776) (hv : ∀ k, v.ownBlock = some k → ¬ F k) (hxl : xs.length ≤ 1099511627776) :
    Calls Tryz.prog 36 #[ptr bw 0, .int .i64 n, v] w (CPost (fun F => wrA F bw (l ++ xs.flatMap (beI n))) F (ptr bw 0) w) := by
  have M : Sep F w w _ := Sep.one hW
  obtain ⟨ao, c, rfl⟩ := hx.form
  have HX := Lib.hid hx
  have HV := Lib.hid hv
  clear hx hv
  go_enter Tryz.func36, Tryz.ntmps36
  go_wp2_with (first | ((with_reducible refine wl_at ⟨some _, .load _ _, _, _, _, _⟩ ?_); refine al_ld M rfl rfl rfl (by first | exact .one rfl | exact .two rfl rfl | exact ldH | exact .all rfl | exact ldRoot _) ?_; simp only [p0, p1, p2, p3, p4, Nat.reduceAdd]) | ((with_reducible refine wl_at ⟨some _, .alloc _, _, _, _, _⟩ ?_); refine al_alloc M rfl rfl ?_; clear M; intro bb ww M; simp only [p0, p1, p2, p3, p4, Nat.reduceAdd]) | ((with_reducible refine wl_at ⟨some _, .box _ _, _, _, _, _⟩ ?_); refine al_box M rfl rfl rfl (by first | exact cI | exact cB | exact cS | exact cP | exact cA | rfl) ?_; clear M; intro bb ww M; simp only [p0, p1, p2, p3, p4, Nat.reduceAdd]) | ((with_reducible refine wl_at ⟨_, .store _ _ _, _, _, _, _⟩ ?_); refine al_sh M rfl rfl rfl rfl (by first | rfl | exact Blob.len) ?_; clear M; intro ww M; simp only [p0, p1, p2, p3, p4, Nat.reduceAdd]) | ((with_reducible refine wl_at ⟨_, .store _ _ _, _, _, _, _⟩ ?_); refine al_st M rfl rfl rfl rfl (by first | exact cI | exact cB | exact cS | exact cP | exact cA | rfl) (by rfl) (by exact ones_of rfl) (by exact Nat.le_of_ble_eq_true rfl) (by simp only [splice, List.set_cons_succ, List.set_cons_zero]; rfl) ?_; clear M; intro ww M; simp only [p0, p1, p2, p3, p4, Nat.reduceAdd]) | ((with_reducible refine wl_at ⟨some _, .buildSlice _ _ _, _, _, _, _⟩ ?_); refine al_bsh M rfl rfl rfl (by first | exact h1v | exact h2v | exact h3v | exact h4v) rfl rfl ?_; clear M; intro bb ww M; simp only [p0, p1, p2, p3, p4, Nat.reduceAdd]) | ((with_reducible refine wl_at ⟨some _, .buildSlice _ _ _, _, _, _, _⟩ ?_); refine al_bsl M rfl rfl rfl rfl rfl rfl (by first | exact f1I | exact f2I | exact f1S | exact f2S | exact f3S | exact f1P | exact f1N | exact f2N | exact f4N | exact f5N | exact f2A | exact f1A) ?_; clear M; intro bb ww M; simp only [p0, p1, p2, p3, p4, Nat.reduceAdd]) | fail)
  go_loopw [12] (fun i wr => ∃ k : Nat, k ≤ xs.length ∧ i = .int .i64 k ∧ ∃ F1, Sep F w wr [wrA F1 bw (l ++ (xs.take k).flatMap (beI n))]) (fun i _ => xs.length - (intOf i).toNat)
  case atStart => exact ⟨0, Nat.zero_le _, rfl, F, by simpa using M⟩
  case round =>
    clear M
    obtain ⟨k, hk, rfl, F1, M0⟩ := hrel
    by_cases hlt : k < xs.length
    · obtain ⟨b0, o0, rfl⟩ := HX.out.solid (by omega)
      have hc := (HX.out.kp M0.keep HV.out).cell k (by simpa using hlt)
      simp only [List.getElem_map] at hc
      have hfl : (xs.take (k + 1)).flatMap (beI n) = (xs.take k).flatMap (beI n) ++ beI n xs[k] := by
        rw [List.take_succ_eq_append_getElem hlt, List.flatMap_append]; simp
      have hll : (l ++ (xs.take k).flatMap (beI n)).length + n ≤ 1099511627776 := by
        rw [List.length_append, flat_len (beI n) n (beI_length n), List.length_take]
        have : (min k xs.length + 1) * n ≤ xs.length * n := Nat.mul_le_mul_right _ (by omega)
        rw [Nat.succ_mul] at this
        omega
      generalize xs[k] = x at *
      generalize hL : l ++ (xs.take k).flatMap (beI n) = L at *
      have HL := Lib.hid hL
      have HF := Lib.hid hfl
      have HM0 := Lib.hid M0
      have hr : wr.rangeAt b0 (o0 + k) [.int .i64 x] := fun j u hj => by
        rcases j with _ | j
        · simp at hj; subst hj; exact hc
        · simp at hj
      have HR := Lib.hid hr
      clear hL hfl hc hr
      go_wp2_with (first | ((with_reducible refine wl_at ⟨some 15, _, _, _, _, _⟩ ?_); refine al_ldr M0 rfl rfl rfl HR.out rfl (.inr ⟨rfl, rfl, rfl⟩) ?_; simp only [Act.put, List.setIfInBounds_toArray, List.set_cons_succ, List.set_cons_zero]) | fail)
      go_loopw [9] (fun v wr2 => ∃ j : Nat, j ≤ n ∧ v = .int .i64 ((j : Int) - 1) ∧ ∃ F2, Sep F w wr2 [wrA F2 bw (L ++ (beI n x).take (n - j))]) (fun v _ => (intOf v + 1).toNat)
      case atStart => exact ⟨n, Nat.le_refl _, rfl, F1, by simpa using HM0.out⟩
      case round =>
        clear HM0 M0
        obtain ⟨j, hj, rfl, F2, M2⟩ := hrel
        rcases j with _ | j
        · rw [show (((0 : Nat) : Int) - 1) = -1 by rfl]
          rw [Nat.sub_zero, List.take_of_length_le (by rw [beI_length]; omega)] at M2
          go_wp2_with (fail)
          exact ⟨⟨k + 1, by omega, by go_num, F2, M2.as (by rw [HF.out, ← List.append_assoc, HL.out])⟩, by simp [intOf]; omega⟩
        · rw [show (((j + 1 : Nat) : Int) - 1) = (j : Int) by omega]
          have ht := beI_take n x j (by omega)
          have hu := u8c_int (x / 256 ^ j)
          rw [show (256 : Int) ^ j = 2 ^ (8 * j) by rw [Int.pow_mul]; rfl] at hu ht
          have hll2 : (L ++ (beI n x).take (n - (j + 1))).length + 1 ≤ 1099511627776 := by
            rw [List.length_append, List.length_take, beI_length]; omega
          generalize hL2 : L ++ (beI n x).take (n - (j + 1)) = L2 at *
          have HW2 := Lib.hid (M2.get 0 rfl)
          obtain ⟨a1, c1, M⟩ := wr_open HW2.out
          have HT := Lib.hid ht
          have HU := Lib.hid hu
          have HL2 := Lib.hid hL2
          have HM2 := Lib.hid M2
          clear ht hu hL2 M2
          go_wp2_with (first | ((with_reducible refine wl_at ⟨some _, .load _ _, _, _, _, _⟩ ?_); refine al_ld M rfl rfl rfl (by first | exact .one rfl | exact .two rfl rfl | exact ldH | exact .all rfl | exact ldRoot _) ?_; simp only [p0, p1, p2, p3, p4, Nat.reduceAdd]) | ((with_reducible refine wl_at ⟨some _, .alloc _, _, _, _, _⟩ ?_); refine al_alloc M rfl rfl ?_; clear M; intro bb ww M; simp only [p0, p1, p2, p3, p4, Nat.reduceAdd]) | ((with_reducible refine wl_at ⟨some _, .box _ _, _, _, _, _⟩ ?_); refine al_box M rfl rfl rfl (by first | exact cI | exact cB | exact cS | exact cP | exact cA | rfl) ?_; clear M; intro bb ww M; simp only [p0, p1, p2, p3, p4, Nat.reduceAdd]) | ((with_reducible refine wl_at ⟨_, .store _ _ _, _, _, _, _⟩ ?_); refine al_sh M rfl rfl rfl rfl (by first | rfl | exact Blob.len) ?_; clear M; intro ww M; simp only [p0, p1, p2, p3, p4, Nat.reduceAdd]) | ((with_reducible refine wl_at ⟨_, .store _ _ _, _, _, _, _⟩ ?_); refine al_st M rfl rfl rfl rfl (by first | exact cI | exact cB | exact cS | exact cP | exact cA | rfl) (by rfl) (by exact ones_of rfl) (by exact Nat.le_of_ble_eq_true rfl) (by simp only [splice, List.set_cons_succ, List.set_cons_zero]; rfl) ?_; clear M; intro ww M; simp only [p0, p1, p2, p3, p4, Nat.reduceAdd]) | ((with_reducible refine wl_at ⟨some _, .buildSlice _ _ _, _, _, _, _⟩ ?_); refine al_bsh M rfl rfl rfl (by first | exact h1v | exact h2v | exact h3v | exact h4v) rfl rfl ?_; clear M; intro bb ww M; simp only [p0, p1, p2, p3, p4, Nat.reduceAdd]) | ((with_reducible refine wl_at ⟨some _, .buildSlice _ _ _, _, _, _, _⟩ ?_); refine al_bsl M rfl rfl rfl rfl rfl rfl (by first | exact f1I | exact f2I | exact f1S | exact f2S | exact f3S | exact f1P | exact f1N | exact f2N | exact f4N | exact f5N | exact f2A | exact f1A) ?_; clear M; intro bb ww M; simp only [p0, p1, p2, p3, p4, Nat.reduceAdd]) | fail)
          apply wp_drawS M [⟨none, some 14, [4], []⟩, ⟨none, some 11, [], []⟩, ⟨some 10, none, [11], [10]⟩, ⟨some 11, none, [], [11]⟩, ⟨some 14, none, [], [11]⟩] [pK _, pK _, pN _ _, pR _ _ _ _, pM _ _ [.g 0]] [10, 11, 14] [.q, .q, .q, .q, .q, .q, .q, .q, .q, .q, .v [] _, .v [] _, .q, .q, .v [] _] (by kernel_rfl) (.t (.t (.n (.n (.n .z))))) rfl
          repeat (refine wk_q rfl rfl rfl rfl (by intro w1 hI KK QQ hK; simp only [p0, p1, p2, p3, p4, Nat.reduceAdd] at hK; go_step; exact hK) ?_; simp only [p0, p1, p2, p3, p4, Nat.reduceAdd])
          refine wk_ld rfl rfl rfl (.at 0 rfl rfl rfl) (by first | exact .one rfl | exact .two rfl rfl | exact ldH | exact .all rfl | exact ldRoot _) ?_; simp only [p0, p1, p2, p3, p4, Nat.reduceAdd]
          repeat (refine wk_q rfl rfl rfl rfl (by intro w1 hI KK QQ hK; simp only [p0, p1, p2, p3, p4, Nat.reduceAdd] at hK; go_step; exact hK) ?_; simp only [p0, p1, p2, p3, p4, Nat.reduceAdd])
          refine wk_bsl rfl rfl rfl rfl rfl rfl rfl rfl (by first | exact f1I | exact f2I | exact f1S | exact f2S | exact f3S | exact f1P | exact f1N | exact f2N | exact f4N | exact f5N | exact f2A | exact f1A) (by exact .at 2 rfl rfl fun _ => rfl) rfl fun bb => ?_; simp only [p0, p1, p2, p3, p4, Nat.reduceAdd]
          refine wk_app rfl rfl rfl rfl rfl (.at 1 rfl rfl rfl fun _ => rfl) rfl (src_pts (.at 2 rfl rfl rfl) (by first | rfl | exact Blob.len | exact hcs_length _ H32s.all) rfl rfl) (by first | exact ones_of rfl | exact ones_bcs _ | exact ones_hcs _ | exact Blob.one) (by first | decide | omega) (.at 3 rfl rfl fun _ => rfl) fun ao cc => ?_; simp only [p0, p1, p2, p3, p4, Nat.reduceAdd]
          repeat (refine wk_q rfl rfl rfl rfl (by intro w1 hI KK QQ hK; simp only [p0, p1, p2, p3, p4, Nat.reduceAdd] at hK; go_step; exact hK) ?_; simp only [p0, p1, p2, p3, p4, Nat.reduceAdd])
          refine wk_st rfl rfl rfl rfl (.at 0 rfl rfl rfl fun _ => rfl) rfl (by first | exact cI | exact cB | exact cS | exact cP | exact cA | rfl) (by rfl) (by exact ones_of rfl) (by exact Nat.le_of_ble_eq_true rfl) (by simp only [splice, List.set_cons_succ, List.set_cons_zero]; rfl) (by exact .at 4 rfl rfl fun _ => rfl) ?_
          refine walk_nil fun w2 M => ?_
          simp only [mkToks, List.filter_cons, List.filter_nil, Option.isNone_none, Option.isNone_some, if_true, Bool.false_eq_true, if_false, List.map_cons, List.map_nil, Tok.at_, pK, pN, pR, pW, pT, pM, pB, Cl.val, List.getD_cons_zero, List.getD_cons_succ, upd, List.headD_cons, blkOf, gq, reduceIte, Nat.reduceEqDiff] at M
          obtain ⟨-, F3, hk2, hT2, hf2⟩ := wr_close HW2.out (l := L2 ++ [UInt8.ofNat ((x / 2 ^ (8 * j)) % 256).toNat]) (L := []) ((M.sel [2, 1] rfl (by decide)).as (by rw [bcs_append, HU.out]; rfl)) (rfl : Ending.returned (.pointer none) = _)
          replace M := HM2.out.repl .head hk2 hT2 hf2
          clear hk2 hT2 hf2
          go_wp2_with (fail)
          exact ⟨⟨j, by omega, rfl, F3, M.as (by rw [HT.out, ← List.append_assoc, HL2.out])⟩, by simp [intOf]⟩
    · obtain rfl : k = xs.length := by omega
      rw [List.take_length] at M0
      go_wp2_with (fail)
      go_ret
      exact ⟨rfl, F1, M0.keep, M0.get 0 rfl, M0.own _ (.head _)⟩
theorem range1 {w : World} {b o : Nat} {v : Value} (h : w.cell? ⟨b, o, none⟩ = some v) : w.rangeAt b o [v] := fun j u hj => by
  rcases j with _ | j
  · simp at hj; subst hj; exact h
  · simp at hj
set_option maxHeartbeats 1600000 in
set_option maxRecDepth 100000 in
theorem raw_wr (w : World) (F : Nat → Prop) (bw : Nat) (l : List UInt8) (hW : (wrA F bw l).holds w) (v : Value) (ys : List (Value × List UInt8)) (hx : Sl w 1 v ys.length (ys.map (·.1))) (hB : ∀ y ∈ ys, Bs w y.1 y.2) (hlen : l.length + (ys.flatMap (·.2)).length ≤ 1099511627776) (hv : ∀ k, v.ownBlock = some k → ¬ F k) (hvs : ∀ y ∈ ys, ∀ k, y.1.ownBlock = some k → ¬ F k) (hyl : ys.length ≤ 1099511627776) :
    Calls Tryz.prog 66 #[ptr bw 0, v] w (CPost (fun F => wrA F bw (l ++ ys.flatMap (·.2))) F (ptr bw 0) w) := by
  have M : Sep F w w _ := Sep.one hW
  obtain ⟨ao, c, rfl⟩ := hx.form
  have HX := Lib.hid hx
  have HV := Lib.hid hv
  have HB := Lib.hid hB
  have HVS := Lib.hid hvs
  clear hx hv hB hvs
  go_enter Tryz.func66, Tryz.ntmps66
  go_wp2_with (first | ((with_reducible refine wl_at ⟨some _, .load _ _, _, _, _, _⟩ ?_); refine al_ld M rfl rfl rfl (by first | exact .one rfl | exact .two rfl rfl | exact ldH | exact .all rfl | exact ldRoot _) ?_; simp only [p0, p1, p2, p3, p4, Nat.reduceAdd]) | ((with_reducible refine wl_at ⟨some _, .alloc _, _, _, _, _⟩ ?_); refine al_alloc M rfl rfl ?_; clear M; intro bb ww M; simp only [p0, p1, p2, p3, p4, Nat.reduceAdd]) | ((with_reducible refine wl_at ⟨some _, .box _ _, _, _, _, _⟩ ?_); refine al_box M rfl rfl rfl (by first | exact cI | exact cB | exact cS | exact cP | exact cA | rfl) ?_; clear M; intro bb ww M; simp only [p0, p1, p2, p3, p4, Nat.reduceAdd]) | ((with_reducible refine wl_at ⟨_, .store _ _ _, _, _, _, _⟩ ?_); refine al_sh M rfl rfl rfl rfl (by first | rfl | exact Blob.len) ?_; clear M; intro ww M; simp only [p0, p1, p2, p3, p4, Nat.reduceAdd]) | ((with_reducible refine wl_at ⟨_, .store _ _ _, _, _, _, _⟩ ?_); refine al_st M rfl rfl rfl rfl (by first | exact cI | exact cB | exact cS | exact cP | exact cA | rfl) (by rfl) (by exact ones_of rfl) (by exact Nat.le_of_ble_eq_true rfl) (by simp only [splice, List.set_cons_succ, List.set_cons_zero]; rfl) ?_; clear M; intro ww M; simp only [p0, p1, p2, p3, p4, Nat.reduceAdd]) | ((with_reducible refine wl_at ⟨some _, .buildSlice _ _ _, _, _, _, _⟩ ?_); refine al_bsh M rfl rfl rfl (by first | exact h1v | exact h2v | exact h3v | exact h4v) rfl rfl ?_; clear M; intro bb ww M; simp only [p0, p1, p2, p3, p4, Nat.reduceAdd]) | ((with_reducible refine wl_at ⟨some _, .buildSlice _ _ _, _, _, _, _⟩ ?_); refine al_bsl M rfl rfl rfl rfl rfl rfl (by first | exact f1I | exact f2I | exact f1S | exact f2S | exact f3S | exact f1P | exact f1N | exact f2N | exact f4N | exact f5N | exact f2A | exact f1A) ?_; clear M; intro bb ww M; simp only [p0, p1, p2, p3, p4, Nat.reduceAdd]) | fail)
  go_loopw [9] (fun i wr => ∃ k : Nat, k ≤ ys.length ∧ i = .int .i64 k ∧ ∃ F1, Sep F w wr [wrA F1 bw (l ++ (ys.take k).flatMap (·.2))]) (fun i _ => ys.length - (intOf i).toNat)
  case atStart => exact ⟨0, Nat.zero_le _, rfl, F, by simpa using M⟩
  case round =>
    clear M
    obtain ⟨k, hk, rfl, F1, M0⟩ := hrel
    by_cases hlt : k < ys.length
    · obtain ⟨b0, o0, rfl⟩ := HX.out.solid (by omega)
      have hc := (HX.out.kp M0.keep HV.out).cell k (by simpa using hlt)
      simp only [List.getElem_map] at hc
      have hfl : (ys.take (k + 1)).flatMap (·.2) = (ys.take k).flatMap (·.2) ++ ys[k].2 := by
        rw [List.take_succ_eq_append_getElem hlt, List.flatMap_append]; simp
      have hll : (l ++ (ys.take k).flatMap (·.2)).length + ys[k].2.length ≤ 1099511627776 := by
        have h1 : (ys.flatMap (·.2)).length = ((ys.take (k + 1)).flatMap (·.2)).length + ((ys.drop (k + 1)).flatMap (·.2)).length := by
          rw [← List.length_append, ← List.flatMap_append, List.take_append_drop]
        rw [hfl, List.length_append] at h1
        rw [List.length_append]
        omega
      have hs := (HB.out _ (List.getElem_mem hlt)).kp M0.keep (HVS.out _ (List.getElem_mem hlt))
      generalize ys[k] = y at *
      obtain ⟨y1, y2⟩ := y
      simp only at hc hfl hll hs
      obtain ⟨a2, c2, rfl⟩ := hs.form
      generalize hL : l ++ (ys.take k).flatMap (·.2) = L at *
      obtain ⟨a1, c1, M⟩ := wr_open (M0.get 0 rfl)
      have HL := Lib.hid hL
      have HF := Lib.hid hfl
      have HM0 := Lib.hid M0
      have HR := Lib.hid (range1 hc)
      have HS := Lib.hid hs
      clear hL hfl hc M0 hs
      go_wp2_with (first | ((with_reducible refine wl_at ⟨some 12, _, _, _, _, _⟩ ?_); refine al_ldr M rfl rfl rfl HR.out rfl (.inr ⟨rfl, rfl, rfl⟩) ?_; simp only [Act.put, List.setIfInBounds_toArray, List.set_cons_succ, List.set_cons_zero]) | ((with_reducible refine wl_at ⟨some _, .load _ _, _, _, _, _⟩ ?_); refine al_ld M rfl rfl rfl (by first | exact .one rfl | exact .two rfl rfl | exact ldH | exact .all rfl | exact ldRoot _) ?_; simp only [p0, p1, p2, p3, p4, Nat.reduceAdd]) | ((with_reducible refine wl_at ⟨some _, .alloc _, _, _, _, _⟩ ?_); refine al_alloc M rfl rfl ?_; clear M; intro bb ww M; simp only [p0, p1, p2, p3, p4, Nat.reduceAdd]) | ((with_reducible refine wl_at ⟨some _, .box _ _, _, _, _, _⟩ ?_); refine al_box M rfl rfl rfl (by first | exact cI | exact cB | exact cS | exact cP | exact cA | rfl) ?_; clear M; intro bb ww M; simp only [p0, p1, p2, p3, p4, Nat.reduceAdd]) | ((with_reducible refine wl_at ⟨_, .store _ _ _, _, _, _, _⟩ ?_); refine al_sh M rfl rfl rfl rfl (by first | rfl | exact Blob.len) ?_; clear M; intro ww M; simp only [p0, p1, p2, p3, p4, Nat.reduceAdd]) | ((with_reducible refine wl_at ⟨_, .store _ _ _, _, _, _, _⟩ ?_); refine al_st M rfl rfl rfl rfl (by first | exact cI | exact cB | exact cS | exact cP | exact cA | rfl) (by rfl) (by exact ones_of rfl) (by exact Nat.le_of_ble_eq_true rfl) (by simp only [splice, List.set_cons_succ, List.set_cons_zero]; rfl) ?_; clear M; intro ww M; simp only [p0, p1, p2, p3, p4, Nat.reduceAdd]) | ((with_reducible refine wl_at ⟨some _, .buildSlice _ _ _, _, _, _, _⟩ ?_); refine al_bsh M rfl rfl rfl (by first | exact h1v | exact h2v | exact h3v | exact h4v) rfl rfl ?_; clear M; intro bb ww M; simp only [p0, p1, p2, p3, p4, Nat.reduceAdd]) | ((with_reducible refine wl_at ⟨some _, .buildSlice _ _ _, _, _, _, _⟩ ?_); refine al_bsl M rfl rfl rfl rfl rfl rfl (by first | exact f1I | exact f2I | exact f1S | exact f2S | exact f3S | exact f1P | exact f1N | exact f2N | exact f4N | exact f5N | exact f2A | exact f1A) ?_; clear M; intro bb ww M; simp only [p0, p1, p2, p3, p4, Nat.reduceAdd]) | ((with_reducible refine wl_at ⟨some 19, _, _, _, _, _⟩ ?_); refine al_apps M rfl rfl rfl rfl rfl rfl HS.out (ones_bcs _) (by omega) ?_; clear M; intro ao cc ww M; simp only [Act.put, List.setIfInBounds_toArray, List.set_cons_succ, List.set_cons_zero]) | fail)
      obtain ⟨-, F3, hk2, hT2, hf2⟩ := wr_close (HM0.out.get 0 rfl) (l := L ++ y2) (L := []) (M.as (by rw [bcs_append])) (rfl : Ending.returned (.pointer none) = _)
      replace M := HM0.out.repl .head hk2 hT2 hf2
      clear hk2 hT2 hf2
      exact ⟨⟨k + 1, by omega, by go_num, F3, M.as (by rw [HF.out, ← List.append_assoc, HL.out])⟩, by simp [intOf]; omega⟩
    · obtain rfl : k = ys.length := by omega
      rw [List.take_length] at M0
      go_wp2_with (fail)
      go_ret
      exact ⟨rfl, F1, M0.keep, M0.get 0 rfl, M0.own _ (.head _)⟩
end Go.Proofs.YtbenjjaofabdcaaGreatDoor
