/-
  SHA-256's rotation and its block function: each returns, and what it leaves is the Lean function beside it.
-/
import Derived.Test.YtbenjjaofabdcaaGreatDoorProg
import Derived.Test.YtbenjjaofabdcaaGreatDoorBase
import Derived.Test.YtbenjjaofabdcaaGreatDoorRegion

namespace Go.Proofs.YtbenjjaofabdcaaGreatDoor
open Go Go.RowKit

def rotr (x n : Int) : Int := bits .or .u32 (x / 2 ^ n.toNat) (x * 2 ^ (32 - n).toNat % 4294967296)
theorem u32_range (op : BinOp) (x y : Int) : 0 ≤ bits op .u32 x y ∧ bits op .u32 x y < 4294967296 := by
  unfold bits
  rw [IntKind.wrap_u32]
  omega
theorem rotr_range (x n : Int) : 0 ≤ rotr x n ∧ rotr x n < 4294967296 := u32_range _ _ _

theorem turn_any (x n : Int) (w : World) (h0 : 0 ≤ x) (h1 : x < 4294967296) (hn : 0 < n) (hn1 : n < 32) :
    Calls Tryz.prog 72 #[.int .u32 x, .int .i64 n] w fun e w' => e = .returned (.int .u32 (rotr x n)) ∧ ∃ k, w' = w.drewN k := by
  have hr : rotr x n = bits .or .u32 (x / 2 ^ n.toNat) (x * 2 ^ (32 - n).toNat % 4294967296) := rfl
  have HR := Lib.hid hr
  clear hr
  go_enter Tryz.func72, Tryz.ntmps72
  go_wp2
  go_quiet (fail)
  go_wp2
  all_goals go_ret
  rw [HR.out]
  exact ⟨rfl, _, rfl⟩

def U (f : Nat → Int) : Nat → Value := fun i => .int .u32 (f i)
def U32 (f : Nat → Int) : Prop := ∀ i, 0 ≤ f i ∧ f i < 4294967296

theorem U_upd (f : Nat → Int) (i : Nat) (v : Int) : upd (U f) i (.int .u32 v) = U (upd f i v) := by
  funext j
  simp only [upd, U]
  split <;> rfl
/-- A byte goes into a word. -/
def inW (B : Nat → Int) (i : Nat) (m : Nat) (W : Nat → Int) : Nat → Int := upd W i (bits .or .u32 (W i * 256 % 4294967296) (B (4 * i + m) % 4294967296))
/-- The first sixteen words, k of them. -/
def W1 (B : Nat → Int) (k : Nat) : Nat → Int := loopN (fun i W => loopN (inW B i) 4 W) k (fun _ => 0)
theorem upd_range {f : Nat → Int} (h : U32 f) (i : Nat) (v : Int) (hv : 0 ≤ v ∧ v < 4294967296) : U32 (upd f i v) := fun j => by
  unfold upd; split
  · exact hv
  · exact h j
theorem inW_range (B : Nat → Int) (i : Nat) (m : Nat) (W : Nat → Int) (h : U32 W) : U32 (loopN (inW B i) m W) := by
  induction m with
  | zero => exact h
  | succ m ih => exact upd_range ih _ _ (u32_range _ _ _)
theorem W1_range (B : Nat → Int) (k : Nat) : U32 (W1 B k) := by
  induction k with
  | zero => intro i; simp [W1, loopN]
  | succ k ih => exact inW_range B k 4 _ ih
/-- One word more. -/
def wordS (W : Nat → Int) (k : Nat) : Int :=
  (W k + bits .xor .u32 (bits .xor .u32 (rotr (W (16 + k - 15)) 7) (rotr (W (16 + k - 15)) 18)) (W (16 + k - 15) / 8) + W (16 + k - 7) +
    bits .xor .u32 (bits .xor .u32 (rotr (W (16 + k - 2)) 17) (rotr (W (16 + k - 2)) 19)) (W (16 + k - 2) / 1024)) % 4294967296
def W2 (B : Nat → Int) (k : Nat) : Nat → Int := loopN (fun j W => upd W (16 + j) (wordS W j)) k (W1 B 16)
theorem W2_range (B : Nat → Int) (k : Nat) : U32 (W2 B k) := by
  induction k with
  | zero => exact W1_range B 16
  | succ k ih => exact upd_range ih _ _ (by unfold wordS; omega)
/-- One round. -/
def roundT (K W S : Nat → Int) (k : Nat) : Int :=
  ((S 7 + bits .xor .u32 (bits .xor .u32 (rotr (S 4) 6) (rotr (S 4) 11)) (rotr (S 4) 25) + bits .xor .u32 (bits .and .u32 (S 4) (S 5)) (bits .and .u32 (bits .xor .u32 (if IntKind.u32.signed = true then -1 else IntKind.u32.max) (S 4)) (S 6)) + K k) % 4294967296 + W k) % 4294967296
def roundU (S : Nat → Int) : Int :=
  (bits .xor .u32 (bits .xor .u32 (rotr (S 0) 2) (rotr (S 0) 13)) (rotr (S 0) 22) + bits .xor .u32 (bits .xor .u32 (bits .and .u32 (S 0) (S 1)) (bits .and .u32 (S 0) (S 2))) (bits .and .u32 (S 1) (S 2))) % 4294967296
def roundS (K W : Nat → Int) (k : Nat) (S : Nat → Int) : Nat → Int :=
  upd (upd (upd (upd (upd (upd (upd (upd S 0 ((roundT K W S k + roundU S) % 4294967296)) 1 (S 0)) 2 (S 1)) 3 (S 2)) 4 ((S 3 + roundT K W S k) % 4294967296)) 5 (S 4)) 6 (S 5)) 7 (S 6)
def S3 (K W H : Nat → Int) (k : Nat) : Nat → Int := loopN (roundS K W) k H
theorem S3_succ (K W H : Nat → Int) (k : Nat) : S3 K W H (k + 1) = roundS K W k (S3 K W H k) := rfl
theorem S3_range {K W H : Nat → Int} (hH : U32 H) (k : Nat) : U32 (S3 K W H k) := by
  induction k with
  | zero => exact hH
  | succ k ih =>
    rw [S3_succ]
    unfold roundS
    refine upd_range (upd_range (upd_range (upd_range (upd_range (upd_range (upd_range (upd_range ih _ _ ?_) _ _ (ih 0)) _ _ (ih 1)) _ _ (ih 2)) _ _ ?_) _ _ (ih 4)) _ _ (ih 5)) _ _ (ih 6)
    · omega
    · omega

def S4 (S H : Nat → Int) (k : Nat) : Nat → Int := loopN (fun j h => upd h j ((h j + S j) % 4294967296)) k H
/-- The block function. -/
def blockF (K B H : Nat → Int) : Nat → Int := S4 (S3 K (W2 B 48) H 64) H 8
set_option maxHeartbeats 1600000 in
set_option maxRecDepth 100000 in
theorem blk (w : World) (bh bb ob c : Nat) (H B : Nat → Int) (hH : ArrAt w bh 107 8 (U H)) (hHr : U32 H) (hB : ∀ i, i < 64 → w.cell? ⟨bb, ob + i, none⟩ = some (.int .u8 (B i)))
    (hB0 : ∀ i, 0 ≤ B i) (hB1 : ∀ i, B i < 256) (K : Nat → Int) (hK : ∀ i, i < 64 → w.cell? ⟨1, i, none⟩ = some (.int .u32 (K i))) (hc : 64 ≤ c) :
    Calls Tryz.prog 43 #[.pointer (some ⟨bh, 0, none⟩), .slice (some ⟨bb, ob, none⟩) 64 c] w fun e w' => e = .returned (.tuple #[]) ∧ w.grownBy w' (some bh) ∧ ArrAt w' bh 107 8 (U (blockF K B H)) := by
  go_enter Tryz.func43, Tryz.ntmps43
  go_wp2
  go_loopw [18] (fun v wr => ∃ k : Nat, k ≤ 16 ∧ v = .int .i64 k ∧ ArrAt wr w.heap.size 149 64 (U (W1 B k)) ∧ Below w.heap.size w wr) (fun v _ => 16 - (intOf v).toNat)
  case atStart => exact ⟨0, by omega, rfl, arr_alloc _ _ _ _ _ rfl, (Below.refl _ _).alloc (Nat.le_refl _) _⟩
  case round =>
    obtain ⟨k, hk, rfl, hA, hb⟩ := hrel
    have HA := Lib.hid hA
    have HB := Lib.hid hB
    have HK := Lib.hid hK
    clear hA hB hB0 hB1 hK
    by_cases hlt : k < 16
    · go_wp2
      obtain ⟨wo, rfl⟩ : ∃ wo : World, wo = wr := ⟨_, rfl⟩
      go_loopw [7, 29] (fun _ v wr => ∃ m : Nat, m ≤ 4 ∧ v = .int .i64 m ∧ ArrAt wr w.heap.size 149 64 (U (loopN (inW B k) m (W1 B k))) ∧ Below w.heap.size w wr) (fun _ v _ => 4 - (intOf v).toNat)
      case atStart => exact ⟨0, by omega, rfl, HA.out, hb⟩
      case round =>
        obtain ⟨m, hm, rfl, hA2, hb2⟩ := hrel
        have HA2 := Lib.hid hA2
        clear hA2
        by_cases hmlt : m < 4
        · have c1 : wr.cell? ⟨bb, ob + 4 * k + m, none⟩ = some (.int .u8 (B (4 * k + m))) := by
            have h1 := HB.out (4 * k + m) (by omega)
            rw [← Nat.add_assoc] at h1
            rw [hb2.cell (show bb < w.heap.size from block_lt_of_cell h1)]
            exact h1
          have c2 : wr.cell? ⟨w.heap.size, k, none⟩ = some (.int .u32 (loopN (inW B k) m (W1 B k) k)) := HA2.out.cell k (by omega)
          have c3 : wr.frozen? ⟨w.heap.size, k, none⟩ = false := HA2.out.free k
          go_wp2
          refine ⟨⟨m + 1, by omega, by go_num, ?_, hb2.setCell (Nat.le_refl _) _⟩, by simp [intOf]; omega⟩
          have := HA2.out.set k (.int .u32 (bits .or .u32 (loopN (inW B k) m (W1 B k) k * 256 % 4294967296) (B (4 * k + m) % 4294967296)))
          rw [U_upd] at this
          exact this
        · obtain rfl : m = 4 := by omega
          go_wp2
          exact ⟨⟨k + 1, by omega, by go_num, HA2.out, hb2⟩, by simp [intOf]; omega⟩
    · obtain rfl : k = 16 := by omega
      rw [show ((16 : Nat) : Int) = 16 from rfl]
      go_wp2
      obtain ⟨wo, rfl⟩ : ∃ wo : World, wo = wr := ⟨_, rfl⟩
      go_loopw [8, 9, 10] (fun v _ _ wr => ∃ k : Nat, k ≤ 48 ∧ v = .int .i64 (16 + k) ∧ ArrAt wr w.heap.size 149 64 (U (W2 B k)) ∧ Below w.heap.size w wr) (fun v _ _ _ => 64 - (intOf v).toNat)
      case atStart => exact ⟨0, by omega, rfl, HA.out, hb⟩
      case round =>
        obtain ⟨k, hk, rfl, hA2, hb2⟩ := hrel
        have HA2 := Lib.hid hA2
        clear hA2
        by_cases hlt2 : k < 48
        · have c1 : ∀ j, j < 16 + k → wr.cell? ⟨w.heap.size, j, none⟩ = some (.int .u32 (W2 B k j)) := fun j hj => HA2.out.cell j (by omega)
          have d1 : wr.cell? ⟨w.heap.size, 16 + k - 15, none⟩ = some (.int .u32 (W2 B k (16 + k - 15))) := c1 _ (by omega)
          have d2 : wr.cell? ⟨w.heap.size, 16 + k - 2, none⟩ = some (.int .u32 (W2 B k (16 + k - 2))) := c1 _ (by omega)
          clear c1
          go_wp2
          go_quiet (fail)
          go_wp2
          refine wp_region_gen (C := fun w1 => w1.cell? ⟨w.heap.size, k, none⟩ = some (.int .u32 (W2 B k k)) ∧ w1.cell? ⟨w.heap.size, 16 + k - 7, none⟩ = some (.int .u32 (W2 B k (16 + k - 7))) ∧ Below w.heap.size w w1)
            (L := fun w w' => w = w') (R := fun _ _ => True) (X0 := fun w1 => ArrAt w1 w.heap.size 149 64 (U (W2 B k)))
            [.q, .q, .q, .q, .q, .q, .c (· = .int .u32 (rotr (W2 B k (16 + k - 15)) 7)) (fun _ w1 => ArrAt w1 w.heap.size 149 64 (U (W2 B k))),
             .q, .c (· = .int .u32 (rotr (W2 B k (16 + k - 15)) 18)) (fun _ w1 => ArrAt w1 w.heap.size 149 64 (U (W2 B k))), .q, .q, .q, .q, .q, .q, .q, .q, .q, .q, .q,
             .c (· = .int .u32 (rotr (W2 B k (16 + k - 2)) 17)) (fun _ w1 => ArrAt w1 w.heap.size 149 64 (U (W2 B k))), .q,
             .c (· = .int .u32 (rotr (W2 B k (16 + k - 2)) 19)) (fun _ w1 => ArrAt w1 w.heap.size 149 64 (U (W2 B k))), .q, .q, .q, .q, .q, .q,
             .c (fun _ => True) (fun _ w1 => ArrAt w1 w.heap.size 149 64 (U (W2 B (k + 1))))]
            (by kernel_rfl) rfl (by kernel_rfl) (fun _ _ _ => trivial) (by rintro w w' h rfl; exact h) ?_ ?_ ?_
          case refine_3 =>
            repeat (apply gen_q rfl; (rintro w1 ⟨e1, e2, e3⟩; apply Same.of_wp rfl rfl (Nat.le_of_ble_eq_true rfl); intro KK QQ hK; simp only [Act.put, List.setIfInBounds_toArray, List.set_cons_succ, List.set_cons_zero] at hK; go_step; exact hK); simp only [Act.put, List.setIfInBounds_toArray, List.set_cons_succ, List.set_cons_zero])
            refine gen_c rfl ⟨_, rfl⟩ (fun v w w' h hL => by subst hL; exact h) ?_ ?_
            · rintro w1 ⟨e1, e2, e3⟩ hX -
              refine Loud.of_wp rfl (Nat.le_of_ble_eq_true rfl) (fun KK QQ hK => ?_)
              go_step
              refine (turn_any _ _ _ (W2_range _ _ _).1 (W2_range _ _ _).2 (by omega) (by omega)).mono ?_
              rintro e w' ⟨rfl, n, rfl⟩
              exact hK _ _ ⟨⟨e1, e2, below_drewN e3 n⟩, trivial, rfl, hX⟩
            rintro v rfl
            simp only [Act.put, List.setIfInBounds_toArray, List.set_cons_succ, List.set_cons_zero]
            repeat (apply gen_q rfl; (rintro w1 ⟨e1, e2, e3⟩; apply Same.of_wp rfl rfl (Nat.le_of_ble_eq_true rfl); intro KK QQ hK; simp only [Act.put, List.setIfInBounds_toArray, List.set_cons_succ, List.set_cons_zero] at hK; go_step; exact hK); simp only [Act.put, List.setIfInBounds_toArray, List.set_cons_succ, List.set_cons_zero])
            refine gen_c rfl ⟨_, rfl⟩ (fun v w w' h hL => by subst hL; exact h) ?_ ?_
            · rintro w1 ⟨e1, e2, e3⟩ hX -
              refine Loud.of_wp rfl (Nat.le_of_ble_eq_true rfl) (fun KK QQ hK => ?_)
              go_step
              refine (turn_any _ _ _ (W2_range _ _ _).1 (W2_range _ _ _).2 (by omega) (by omega)).mono ?_
              rintro e w' ⟨rfl, n, rfl⟩
              exact hK _ _ ⟨⟨e1, e2, below_drewN e3 n⟩, trivial, rfl, hX⟩
            rintro v rfl
            simp only [Act.put, List.setIfInBounds_toArray, List.set_cons_succ, List.set_cons_zero]
            repeat (apply gen_q rfl; (rintro w1 ⟨e1, e2, e3⟩; apply Same.of_wp rfl rfl (Nat.le_of_ble_eq_true rfl); intro KK QQ hK; simp only [Act.put, List.setIfInBounds_toArray, List.set_cons_succ, List.set_cons_zero] at hK; go_step; exact hK); simp only [Act.put, List.setIfInBounds_toArray, List.set_cons_succ, List.set_cons_zero])
            refine gen_c rfl ⟨_, rfl⟩ (fun v w w' h hL => by subst hL; exact h) ?_ ?_
            · rintro w1 ⟨e1, e2, e3⟩ hX -
              refine Loud.of_wp rfl (Nat.le_of_ble_eq_true rfl) (fun KK QQ hK => ?_)
              go_step
              refine (turn_any _ _ _ (W2_range _ _ _).1 (W2_range _ _ _).2 (by omega) (by omega)).mono ?_
              rintro e w' ⟨rfl, n, rfl⟩
              exact hK _ _ ⟨⟨e1, e2, below_drewN e3 n⟩, trivial, rfl, hX⟩
            rintro v rfl
            simp only [Act.put, List.setIfInBounds_toArray, List.set_cons_succ, List.set_cons_zero]
            repeat (apply gen_q rfl; (rintro w1 ⟨e1, e2, e3⟩; apply Same.of_wp rfl rfl (Nat.le_of_ble_eq_true rfl); intro KK QQ hK; simp only [Act.put, List.setIfInBounds_toArray, List.set_cons_succ, List.set_cons_zero] at hK; go_step; exact hK); simp only [Act.put, List.setIfInBounds_toArray, List.set_cons_succ, List.set_cons_zero])
            refine gen_c rfl ⟨_, rfl⟩ (fun v w w' h hL => by subst hL; exact h) ?_ ?_
            · rintro w1 ⟨e1, e2, e3⟩ hX -
              refine Loud.of_wp rfl (Nat.le_of_ble_eq_true rfl) (fun KK QQ hK => ?_)
              go_step
              refine (turn_any _ _ _ (W2_range _ _ _).1 (W2_range _ _ _).2 (by omega) (by omega)).mono ?_
              rintro e w' ⟨rfl, n, rfl⟩
              exact hK _ _ ⟨⟨e1, e2, below_drewN e3 n⟩, trivial, rfl, hX⟩
            rintro v rfl
            simp only [Act.put, List.setIfInBounds_toArray, List.set_cons_succ, List.set_cons_zero]
            repeat (apply gen_q rfl; (rintro w1 ⟨e1, e2, e3⟩; apply Same.of_wp rfl rfl (Nat.le_of_ble_eq_true rfl); intro KK QQ hK; simp only [Act.put, List.setIfInBounds_toArray, List.set_cons_succ, List.set_cons_zero] at hK; go_step; exact hK); simp only [Act.put, List.setIfInBounds_toArray, List.set_cons_succ, List.set_cons_zero])
            refine gen_c rfl ⟨undef, trivial⟩ (fun v w w' h hL => by subst hL; exact h) ?_ ?_
            · rintro w1 ⟨e1, e2, e3⟩ hX -
              refine Loud.of_wp0 rfl (fun KK QQ hK => ?_)
              have x1 : w1.cell? ⟨w.heap.size, 16 + k, none⟩ = some (.int .u32 (W2 B k (16 + k))) := hX.cell _ (by omega)
              have x2 : w1.frozen? ⟨w.heap.size, 16 + k, none⟩ = false := hX.free _
              have x3 := hX.set (16 + k) (.int .u32 (wordS (W2 B k) k))
              rw [U_upd] at x3
              have HX := Lib.hid x3
              clear x3 hX
              go_step
              refine hK _ ⟨⟨?_, ?_, e3.setCell (Nat.le_refl _) _⟩, trivial, trivial, HX.out⟩
              · exact setCell_ne e1 (by omega)
              · exact setCell_ne e2 (by omega)
            rintro v -
            apply gen_nil
            rintro w1 ⟨e1, e2, e3⟩ hX -
            have HX := Lib.hid hX
            clear e1 e2 hX
            go_wp2
            go_roundw
            case rel => exact ⟨k + 1, by omega, by congr 1, HX.out, e3⟩
            case measure => simp [intOf]; omega
          case refine_1 => exact ⟨HA2.out.cell _ (by omega), HA2.out.cell _ (by omega), ⟨hb2.os, hb2.tape, hb2.output, hb2.size, hb2.block⟩⟩
          case refine_2 => exact HA2.out
        · obtain rfl : k = 48 := by omega
          rw [show ((16 : Int) + ((48 : Nat) : Int)) = 64 from rfl]
          have hHw := hH.below hb2 hH.lt
          have h0 : wr.cell? ⟨bh, 0, none⟩ = some (.int .u32 (H 0)) := hHw.cell 0 (by omega)
          have h1 : wr.cell? ⟨bh, 1, none⟩ = some (.int .u32 (H 1)) := hHw.cell 1 (by omega)
          have h2 : wr.cell? ⟨bh, 2, none⟩ = some (.int .u32 (H 2)) := hHw.cell 2 (by omega)
          have h3 : wr.cell? ⟨bh, 3, none⟩ = some (.int .u32 (H 3)) := hHw.cell 3 (by omega)
          have h4 : wr.cell? ⟨bh, 4, none⟩ = some (.int .u32 (H 4)) := hHw.cell 4 (by omega)
          have h5 : wr.cell? ⟨bh, 5, none⟩ = some (.int .u32 (H 5)) := hHw.cell 5 (by omega)
          have h6 : wr.cell? ⟨bh, 6, none⟩ = some (.int .u32 (H 6)) := hHw.cell 6 (by omega)
          have h7 : wr.cell? ⟨bh, 7, none⟩ = some (.int .u32 (H 7)) := hHw.cell 7 (by omega)
          have HHw := Lib.hid hHw
          clear hHw
          go_wp2
          clear h0 h1 h2 h3 h4 h5 h6 h7
          obtain ⟨wo, rfl⟩ : ∃ wo : World, wo = wr := ⟨_, rfl⟩
          go_loopw [12, 13, 14, 15, 16, 88] (fun _ _ _ _ _ v wr => ∃ k : Nat, k ≤ 64 ∧ v = .int .i64 k ∧ ArrAt wr wo.heap.size 107 8 (U (S3 K (W2 B 48) H k)) ∧ Below wo.heap.size wo wr) (fun _ _ _ _ _ v _ => 64 - (intOf v).toNat)
          case atStart => exact ⟨0, by omega, rfl, arr_alloc _ _ _ _ _ rfl, (Below.refl _ _).alloc (Nat.le_refl _) _⟩
          case round =>
            obtain ⟨k, hk, rfl, hS, hb3⟩ := hrel
            have HS := Lib.hid hS
            have hlo : w.heap.size < wo.heap.size := HA2.out.lt
            have s0 := hS.cell 0 (by omega)
            have s4 := hS.cell 4 (by omega)
            simp only [U] at s0 s4
            clear hS
            by_cases hlt3 : k < 64
            · have c8 : wr.cell? ⟨w.heap.size, k, none⟩ = some (.int .u32 (W2 B 48 k)) := (HA2.out.below hb3 hlo).cell k hlt3
              have c9 : wr.cell? ⟨1, k, none⟩ = some (.int .u32 (K k)) := by
                have h1 := HK.out k hlt3
                rw [(hb2.trans (hb3.mono hb2.size)).cell (show 1 < w.heap.size from block_lt_of_cell h1)]
                exact h1
              go_wp2
              go_quiet (fail)
              go_wp2
              refine wp_region_gen (C := fun w1 => w1.cell? ⟨wo.heap.size, 7, none⟩ = some (.int .u32 (S3 K (W2 B 48) H k 7)) ∧ w1.cell? ⟨wo.heap.size, 5, none⟩ = some (.int .u32 (S3 K (W2 B 48) H k 5)) ∧ w1.cell? ⟨wo.heap.size, 6, none⟩ = some (.int .u32 (S3 K (W2 B 48) H k 6)) ∧
                  w1.cell? ⟨w.heap.size, k, none⟩ = some (.int .u32 (W2 B 48 k)) ∧ w1.cell? ⟨1, k, none⟩ = some (.int .u32 (K k)) ∧ Below wo.heap.size wo w1 ∧ ArrAt w1 wo.heap.size 107 8 (U (S3 K (W2 B 48) H k)))
                (L := fun w w' => w = w') (R := fun _ _ => True) (X0 := fun _ => True)
                [.q, .q, .q, .c (· = .int .u32 (rotr (S3 K (W2 B 48) H k 4) 6)) (fun _ _ => True), .q, .c (· = .int .u32 (rotr (S3 K (W2 B 48) H k 4) 11)) (fun _ _ => True), .q, .q, .c (· = .int .u32 (rotr (S3 K (W2 B 48) H k 4) 25)) (fun _ _ => True), .q, .q, .q, .q, .q, .q, .q, .q, .q, .q, .q, .q, .q, .q, .q, .q, .q, .q, .q, .q, .q, .q]
                (by kernel_rfl) rfl (by kernel_rfl) (fun _ _ _ => trivial) (fun _ _ _ _ => trivial) ?_ trivial ?_
              case refine_1 => exact ⟨HS.out.cell 7 (by omega), HS.out.cell 5 (by omega), HS.out.cell 6 (by omega), c8, c9, ⟨hb3.os, hb3.tape, hb3.output, hb3.size, hb3.block⟩, HS.out⟩
              case refine_2 =>
                repeat (apply gen_q rfl; (rintro w1 ⟨e1, e2, e3, e4, e5, e6, e7⟩; apply Same.of_wp rfl rfl (Nat.le_of_ble_eq_true rfl); intro KK QQ hK; simp only [Act.put, List.setIfInBounds_toArray, List.set_cons_succ, List.set_cons_zero] at hK; go_step; exact hK); simp only [Act.put, List.setIfInBounds_toArray, List.set_cons_succ, List.set_cons_zero])
                refine gen_c rfl ⟨_, rfl⟩ (fun v w w' h hL => h) ?_ ?_
                · rintro w1 ⟨e1, e2, e3, e4, e5, e6, e7⟩ - -
                  refine Loud.of_wp rfl (Nat.le_of_ble_eq_true rfl) (fun KK QQ hK => ?_)
                  go_step
                  refine (turn_any _ _ _ (S3_range hHr _ _).1 (S3_range hHr _ _).2 (by omega) (by omega)).mono ?_
                  rintro e w' ⟨rfl, n, rfl⟩
                  exact hK _ _ ⟨⟨e1, e2, e3, e4, e5, below_drewN e6 n, e7⟩, trivial, rfl, trivial⟩
                rintro v rfl
                simp only [Act.put, List.setIfInBounds_toArray, List.set_cons_succ, List.set_cons_zero]
                repeat (apply gen_q rfl; (rintro w1 ⟨e1, e2, e3, e4, e5, e6, e7⟩; apply Same.of_wp rfl rfl (Nat.le_of_ble_eq_true rfl); intro KK QQ hK; simp only [Act.put, List.setIfInBounds_toArray, List.set_cons_succ, List.set_cons_zero] at hK; go_step; exact hK); simp only [Act.put, List.setIfInBounds_toArray, List.set_cons_succ, List.set_cons_zero])
                refine gen_c rfl ⟨_, rfl⟩ (fun v w w' h hL => h) ?_ ?_
                · rintro w1 ⟨e1, e2, e3, e4, e5, e6, e7⟩ - -
                  refine Loud.of_wp rfl (Nat.le_of_ble_eq_true rfl) (fun KK QQ hK => ?_)
                  go_step
                  refine (turn_any _ _ _ (S3_range hHr _ _).1 (S3_range hHr _ _).2 (by omega) (by omega)).mono ?_
                  rintro e w' ⟨rfl, n, rfl⟩
                  exact hK _ _ ⟨⟨e1, e2, e3, e4, e5, below_drewN e6 n, e7⟩, trivial, rfl, trivial⟩
                rintro v rfl
                simp only [Act.put, List.setIfInBounds_toArray, List.set_cons_succ, List.set_cons_zero]
                repeat (apply gen_q rfl; (rintro w1 ⟨e1, e2, e3, e4, e5, e6, e7⟩; apply Same.of_wp rfl rfl (Nat.le_of_ble_eq_true rfl); intro KK QQ hK; simp only [Act.put, List.setIfInBounds_toArray, List.set_cons_succ, List.set_cons_zero] at hK; go_step; exact hK); simp only [Act.put, List.setIfInBounds_toArray, List.set_cons_succ, List.set_cons_zero])
                refine gen_c rfl ⟨_, rfl⟩ (fun v w w' h hL => h) ?_ ?_
                · rintro w1 ⟨e1, e2, e3, e4, e5, e6, e7⟩ - -
                  refine Loud.of_wp rfl (Nat.le_of_ble_eq_true rfl) (fun KK QQ hK => ?_)
                  go_step
                  refine (turn_any _ _ _ (S3_range hHr _ _).1 (S3_range hHr _ _).2 (by omega) (by omega)).mono ?_
                  rintro e w' ⟨rfl, n, rfl⟩
                  exact hK _ _ ⟨⟨e1, e2, e3, e4, e5, below_drewN e6 n, e7⟩, trivial, rfl, trivial⟩
                rintro v rfl
                simp only [Act.put, List.setIfInBounds_toArray, List.set_cons_succ, List.set_cons_zero]
                repeat (apply gen_q rfl; (rintro w1 ⟨e1, e2, e3, e4, e5, e6, e7⟩; apply Same.of_wp rfl rfl (Nat.le_of_ble_eq_true rfl); intro KK QQ hK; simp only [Act.put, List.setIfInBounds_toArray, List.set_cons_succ, List.set_cons_zero] at hK; go_step; exact hK); simp only [Act.put, List.setIfInBounds_toArray, List.set_cons_succ, List.set_cons_zero])

                apply gen_nil
                rintro w1 ⟨-, -, -, -, -, e6, e7⟩ - -
                rw [show (((S3 K (W2 B 48) H k 7 + bits .xor .u32 (bits .xor .u32 (rotr (S3 K (W2 B 48) H k 4) 6) (rotr (S3 K (W2 B 48) H k 4) 11)) (rotr (S3 K (W2 B 48) H k 4) 25) + bits .xor .u32 (bits .and .u32 (S3 K (W2 B 48) H k 4) (S3 K (W2 B 48) H k 5)) (bits .and .u32 (bits .xor .u32 (if IntKind.u32.signed = true then -1 else IntKind.u32.max) (S3 K (W2 B 48) H k 4)) (S3 K (W2 B 48) H k 6)) + K k) % 4294967296 + W2 B 48 k) % 4294967296) = roundT K (W2 B 48) (S3 K (W2 B 48) H k) k from rfl]
                have E7 := Lib.hid e7
                clear s0 s4 c8 c9 e7
                go_wp2
                refine wp_region_gen (C := fun w1 => w1.cell? ⟨wo.heap.size, 1, none⟩ = some (.int .u32 (S3 K (W2 B 48) H k 1)) ∧ w1.cell? ⟨wo.heap.size, 2, none⟩ = some (.int .u32 (S3 K (W2 B 48) H k 2)) ∧ Below wo.heap.size wo w1 ∧ ArrAt w1 wo.heap.size 107 8 (U (S3 K (W2 B 48) H k)))
                  (L := fun w w' => w = w') (R := fun _ _ => True) (X0 := fun _ => True)
                  [.q, .c (· = .int .u32 (rotr (S3 K (W2 B 48) H k 0) 2)) (fun _ _ => True), .q, .c (· = .int .u32 (rotr (S3 K (W2 B 48) H k 0) 13)) (fun _ _ => True), .q, .q, .c (· = .int .u32 (rotr (S3 K (W2 B 48) H k 0) 22)) (fun _ _ => True), .q, .q, .q, .q, .q, .q, .q, .q, .q, .q, .q, .q, .q, .q, .q, .q, .q, .q]
                  (by kernel_rfl) rfl (by kernel_rfl) (fun _ _ _ => trivial) (fun _ _ _ _ => trivial) ⟨E7.out.cell 1 (by omega), E7.out.cell 2 (by omega), ⟨e6.os, e6.tape, e6.output, e6.size, e6.block⟩, E7.out⟩ trivial ?_
                clear e6 E7
                repeat (apply gen_q rfl; (rintro w1 ⟨e1, e2, e6, e7⟩; apply Same.of_wp rfl rfl (Nat.le_of_ble_eq_true rfl); intro KK QQ hK; simp only [Act.put, List.setIfInBounds_toArray, List.set_cons_succ, List.set_cons_zero] at hK; go_step; exact hK); simp only [Act.put, List.setIfInBounds_toArray, List.set_cons_succ, List.set_cons_zero])
                refine gen_c rfl ⟨_, rfl⟩ (fun v w w' h hL => h) ?_ ?_
                · rintro w1 ⟨e1, e2, e6, e7⟩ - -
                  refine Loud.of_wp rfl (Nat.le_of_ble_eq_true rfl) (fun KK QQ hK => ?_)
                  go_step
                  refine (turn_any _ _ _ (S3_range hHr _ _).1 (S3_range hHr _ _).2 (by omega) (by omega)).mono ?_
                  rintro e w' ⟨rfl, n, rfl⟩
                  exact hK _ _ ⟨⟨e1, e2, below_drewN e6 n, e7⟩, trivial, rfl, trivial⟩
                rintro v rfl
                simp only [Act.put, List.setIfInBounds_toArray, List.set_cons_succ, List.set_cons_zero]
                repeat (apply gen_q rfl; (rintro w1 ⟨e1, e2, e6, e7⟩; apply Same.of_wp rfl rfl (Nat.le_of_ble_eq_true rfl); intro KK QQ hK; simp only [Act.put, List.setIfInBounds_toArray, List.set_cons_succ, List.set_cons_zero] at hK; go_step; exact hK); simp only [Act.put, List.setIfInBounds_toArray, List.set_cons_succ, List.set_cons_zero])
                refine gen_c rfl ⟨_, rfl⟩ (fun v w w' h hL => h) ?_ ?_
                · rintro w1 ⟨e1, e2, e6, e7⟩ - -
                  refine Loud.of_wp rfl (Nat.le_of_ble_eq_true rfl) (fun KK QQ hK => ?_)
                  go_step
                  refine (turn_any _ _ _ (S3_range hHr _ _).1 (S3_range hHr _ _).2 (by omega) (by omega)).mono ?_
                  rintro e w' ⟨rfl, n, rfl⟩
                  exact hK _ _ ⟨⟨e1, e2, below_drewN e6 n, e7⟩, trivial, rfl, trivial⟩
                rintro v rfl
                simp only [Act.put, List.setIfInBounds_toArray, List.set_cons_succ, List.set_cons_zero]
                repeat (apply gen_q rfl; (rintro w1 ⟨e1, e2, e6, e7⟩; apply Same.of_wp rfl rfl (Nat.le_of_ble_eq_true rfl); intro KK QQ hK; simp only [Act.put, List.setIfInBounds_toArray, List.set_cons_succ, List.set_cons_zero] at hK; go_step; exact hK); simp only [Act.put, List.setIfInBounds_toArray, List.set_cons_succ, List.set_cons_zero])
                refine gen_c rfl ⟨_, rfl⟩ (fun v w w' h hL => h) ?_ ?_
                · rintro w1 ⟨e1, e2, e6, e7⟩ - -
                  refine Loud.of_wp rfl (Nat.le_of_ble_eq_true rfl) (fun KK QQ hK => ?_)
                  go_step
                  refine (turn_any _ _ _ (S3_range hHr _ _).1 (S3_range hHr _ _).2 (by omega) (by omega)).mono ?_
                  rintro e w' ⟨rfl, n, rfl⟩
                  exact hK _ _ ⟨⟨e1, e2, below_drewN e6 n, e7⟩, trivial, rfl, trivial⟩
                rintro v rfl
                simp only [Act.put, List.setIfInBounds_toArray, List.set_cons_succ, List.set_cons_zero]
                repeat (apply gen_q rfl; (rintro w1 ⟨e1, e2, e6, e7⟩; apply Same.of_wp rfl rfl (Nat.le_of_ble_eq_true rfl); intro KK QQ hK; simp only [Act.put, List.setIfInBounds_toArray, List.set_cons_succ, List.set_cons_zero] at hK; go_step; exact hK); simp only [Act.put, List.setIfInBounds_toArray, List.set_cons_succ, List.set_cons_zero])
                apply gen_nil
                rintro w1 ⟨-, -, e6, e7⟩ - -
                rw [show (bits .xor .u32 (bits .xor .u32 (rotr (S3 K (W2 B 48) H k 0) 2) (rotr (S3 K (W2 B 48) H k 0) 13)) (rotr (S3 K (W2 B 48) H k 0) 22) + bits .xor .u32 (bits .xor .u32 (bits .and .u32 (S3 K (W2 B 48) H k 0) (S3 K (W2 B 48) H k 1)) (bits .and .u32 (S3 K (W2 B 48) H k 0) (S3 K (W2 B 48) H k 2))) (bits .and .u32 (S3 K (W2 B 48) H k 1) (S3 K (W2 B 48) H k 2))) % 4294967296 = roundU (S3 K (W2 B 48) H k) from rfl]
                have f0 : w1.frozen? ⟨wo.heap.size, 0, none⟩ = false := e7.free 0
                have g0 : w1.cell? ⟨wo.heap.size, 0, none⟩ = some (.int .u32 (S3 K (W2 B 48) H k 0)) := e7.cell 0 (by omega)
                have f1 : w1.frozen? ⟨wo.heap.size, 1, none⟩ = false := e7.free 1
                have g1 : w1.cell? ⟨wo.heap.size, 1, none⟩ = some (.int .u32 (S3 K (W2 B 48) H k 1)) := e7.cell 1 (by omega)
                have f2 : w1.frozen? ⟨wo.heap.size, 2, none⟩ = false := e7.free 2
                have g2 : w1.cell? ⟨wo.heap.size, 2, none⟩ = some (.int .u32 (S3 K (W2 B 48) H k 2)) := e7.cell 2 (by omega)
                have f3 : w1.frozen? ⟨wo.heap.size, 3, none⟩ = false := e7.free 3
                have g3 : w1.cell? ⟨wo.heap.size, 3, none⟩ = some (.int .u32 (S3 K (W2 B 48) H k 3)) := e7.cell 3 (by omega)
                have f4 : w1.frozen? ⟨wo.heap.size, 4, none⟩ = false := e7.free 4
                have g4 : w1.cell? ⟨wo.heap.size, 4, none⟩ = some (.int .u32 (S3 K (W2 B 48) H k 4)) := e7.cell 4 (by omega)
                have f5 : w1.frozen? ⟨wo.heap.size, 5, none⟩ = false := e7.free 5
                have g5 : w1.cell? ⟨wo.heap.size, 5, none⟩ = some (.int .u32 (S3 K (W2 B 48) H k 5)) := e7.cell 5 (by omega)
                have f6 : w1.frozen? ⟨wo.heap.size, 6, none⟩ = false := e7.free 6
                have g6 : w1.cell? ⟨wo.heap.size, 6, none⟩ = some (.int .u32 (S3 K (W2 B 48) H k 6)) := e7.cell 6 (by omega)
                have f7 : w1.frozen? ⟨wo.heap.size, 7, none⟩ = false := e7.free 7
                have g7 : w1.cell? ⟨wo.heap.size, 7, none⟩ = some (.int .u32 (S3 K (W2 B 48) H k 7)) := e7.cell 7 (by omega)
                have hk1 : k + 1 ≤ 64 := by omega
                have e8 := ((((((((e7.set 0 (.int .u32 ((roundT K (W2 B 48) (S3 K (W2 B 48) H k) k + roundU (S3 K (W2 B 48) H k)) % 4294967296))).set 1 (.int .u32 (S3 K (W2 B 48) H k 0))).set 2 (.int .u32 (S3 K (W2 B 48) H k 1))).set 3 (.int .u32 (S3 K (W2 B 48) H k 2))).set 4 (.int .u32 ((S3 K (W2 B 48) H k 3 + roundT K (W2 B 48) (S3 K (W2 B 48) H k) k) % 4294967296))).set 5 (.int .u32 (S3 K (W2 B 48) H k 4))).set 6 (.int .u32 (S3 K (W2 B 48) H k 5))).set 7 (.int .u32 (S3 K (W2 B 48) H k 6)))
                rw [U_upd, U_upd, U_upd, U_upd, U_upd, U_upd, U_upd, U_upd] at e8
                have E8 := Lib.hid e8
                clear e7 e8
                go_wp2
                go_roundw
                case rel =>
                  refine ⟨k + 1, hk1, rfl, by rw [S3_succ]; unfold roundS; exact E8.out, ?_⟩
                  exact below_set (below_set (below_set (below_set (below_set (below_set (below_set (below_set e6 _ _) _ _) _ _) _ _) _ _) _ _) _ _) _ _
                case measure => clear E8; simp [intOf]; omega
            · obtain rfl : k = 64 := by omega
              clear s0 s4
              rw [show ((64 : Nat) : Int) = 64 from rfl]
              go_wp2
              obtain ⟨wq, rfl⟩ : ∃ wq : World, wq = wr := ⟨_, rfl⟩
              have hS0 := HS.out
              have hlh : bh < wo.heap.size := HHw.out.lt
              have hne : wo.heap.size ≠ bh := by omega
              go_loopw [17, 168] (fun _ v wr => ∃ j : Nat, j ≤ 8 ∧ v = .int .i64 j ∧ ArrAt wr wo.heap.size 107 8 (U (S3 K (W2 B 48) H 64)) ∧ ArrAt wr bh 107 8 (U (S4 (S3 K (W2 B 48) H 64) H j)) ∧ w.grownBy wr (some bh)) (fun _ v _ => 8 - (intOf v).toNat)
              case atStart => exact ⟨0, by omega, rfl, hS0, HHw.out.below hb3 hlh, grown_of_below (hb2.trans (hb3.mono hb2.size)) _⟩
              case round =>
                obtain ⟨j, hj, rfl, hS, hB4, hg⟩ := hrel
                by_cases hj8 : j < 8
                · have s1 := hS.cell j hj8
                  have s2 := hB4.cell j hj8
                  have s3 := hB4.free j
                  simp only [U] at s1 s2
                  have HS := Lib.hid hS
                  have HB4 := Lib.hid hB4
                  clear hS hB4
                  go_wp2
                  refine wp_region_gen (C := fun w1 => w1.cell? ⟨wo.heap.size, j, none⟩ = some (.int .u32 (S3 K (W2 B 48) H 64 j)) ∧ ArrAt w1 wo.heap.size 107 8 (U (S3 K (W2 B 48) H 64)) ∧ w.grownBy w1 (some bh))
                    (L := fun w w' => w = w') (R := fun _ _ => True) (X0 := fun w1 => ArrAt w1 bh 107 8 (U (S4 (S3 K (W2 B 48) H 64) H j)))
                    [.q, .q, .q, .q, .c (· = .int .u32 (S4 (S3 K (W2 B 48) H 64) H j j)) (fun _ w1 => ArrAt w1 bh 107 8 (U (S4 (S3 K (W2 B 48) H 64) H j))), .q, .q, .q, .q, .q, .q, .c (fun _ => True) (fun _ w1 => ArrAt w1 bh 107 8 (U (S4 (S3 K (W2 B 48) H 64) H (j + 1))))]
                    (by kernel_rfl) rfl (by kernel_rfl) (fun _ _ _ => trivial) (by rintro w w' h rfl; exact h) ⟨HS.out.cell j hj8, HS.out, ⟨hg.os, hg.tape, hg.output, hg.size, hg.block⟩⟩ HB4.out ?_
                  clear s1 s2 s3
                  repeat (apply gen_q rfl; (rintro w1 ⟨e1, e2, e3⟩; apply Same.of_wp rfl rfl (Nat.le_of_ble_eq_true rfl); intro KK QQ hK; simp only [Act.put, List.setIfInBounds_toArray, List.set_cons_succ, List.set_cons_zero] at hK; go_step; exact hK); simp only [Act.put, List.setIfInBounds_toArray, List.set_cons_succ, List.set_cons_zero])
                  refine gen_c rfl ⟨_, rfl⟩ (by rintro v w w' h rfl; exact h) ?_ ?_
                  · rintro w1 ⟨e1, e2, e3⟩ hX -
                    refine Loud.of_wp rfl (Nat.le_of_ble_eq_true rfl) (fun KK QQ hK => ?_)
                    have x1 : w1.cell? ⟨bh, j, none⟩ = some (.int .u32 (S4 (S3 K (W2 B 48) H 64) H j j)) := hX.cell j hj8
                    have HX := Lib.hid hX
                    clear hX
                    go_step
                    exact hK _ _ ⟨⟨e1, e2, e3⟩, trivial, rfl, HX.out⟩
                  rintro v rfl
                  simp only [Act.put, List.setIfInBounds_toArray, List.set_cons_succ, List.set_cons_zero]
                  repeat (apply gen_q rfl; (rintro w1 ⟨e1, e2, e3⟩; apply Same.of_wp rfl rfl (Nat.le_of_ble_eq_true rfl); intro KK QQ hK; simp only [Act.put, List.setIfInBounds_toArray, List.set_cons_succ, List.set_cons_zero] at hK; go_step; exact hK); simp only [Act.put, List.setIfInBounds_toArray, List.set_cons_succ, List.set_cons_zero])
                  refine gen_c rfl ⟨undef, trivial⟩ (by rintro v w w' h rfl; exact h) ?_ ?_
                  · rintro w1 ⟨e1, e2, e3⟩ hX -
                    refine Loud.of_wp0 rfl (fun KK QQ hK => ?_)
                    have x1 : w1.cell? ⟨bh, j, none⟩ = some (.int .u32 (S4 (S3 K (W2 B 48) H 64) H j j)) := hX.cell j hj8
                    have x2 : w1.frozen? ⟨bh, j, none⟩ = false := hX.free j
                    have x3 := hX.set j (.int .u32 ((S4 (S3 K (W2 B 48) H 64) H j j + S3 K (W2 B 48) H 64 j) % 4294967296))
                    rw [U_upd] at x3
                    have HX := Lib.hid x3
                    clear hX x3
                    go_step
                    exact hK _ ⟨⟨setCell_far e1 (Ne.symm hne), e2.far hne _, grown_setCell e3 _⟩, trivial, trivial, HX.out⟩
                  rintro v -
                  apply gen_nil
                  rintro w1 ⟨e1, e2, e3⟩ hX -
                  have HX := Lib.hid hX
                  have HE := Lib.hid e2
                  clear e1 e2 hX
                  go_wp2
                  go_roundw
                  case rel => exact ⟨j + 1, by omega, by go_num, HE.out, HX.out, e3⟩
                  case measure => simp [intOf]; omega
                · obtain rfl : j = 8 := by omega
                  have HB4 := Lib.hid hB4
                  clear hS hB4
                  go_wp2
                  go_end0
                  exact ⟨rfl, hg, HB4.out⟩
theorem blockF_range (K B H : Nat → Int) (hH : U32 H) : U32 (blockF K B H) := by
  have h8 : ∀ k, U32 (S4 (S3 K (W2 B 48) H 64) H k) := fun k => by
    induction k with
    | zero => exact hH
    | succ k ih => exact upd_range ih _ _ (by omega)
  exact h8 8
end Go.Proofs.YtbenjjaofabdcaaGreatDoor
