/-
  history.split: the greatest power of two below a number.
-/
import Derived.Test.YtbenjjaofabdcaaGreatDoorH
import Derived.WalkMore
import Derived.ScopeJumps
namespace Go.Proofs.YtbenjjaofabdcaaGreatDoor
open Go Go.RowKit

/-- The greatest power of two below n (above 1). -/
def splitN (n : Nat) : Nat := 2 ^ Nat.log2 (n - 1)
theorem splitN_lt {n : Nat} (h : 2 ≤ n) : splitN n < n := by
  have := Nat.log2_self_le (n := n - 1) (by omega)
  unfold splitN; omega
theorem splitN_pos (n : Nat) : 0 < splitN n := Nat.pow_pos (by decide)
theorem splitN_of {n e : Nat} (h : 2 ^ e < n) (h' : n ≤ 2 * 2 ^ e) : splitN n = 2 ^ e := by
  unfold splitN
  congr 1
  have hp : 0 < 2 ^ e := Nat.pow_pos (by decide)
  have h1 := Nat.log2_self_le (n := n - 1) (by omega)
  have h2 := Nat.lt_log2_self (n := n - 1)
  have h3 : Nat.log2 (n - 1) < e + 1 := (Nat.pow_lt_pow_iff_right (a := 2) (by decide)).1 (by rw [Nat.pow_succ]; omega)
  have h4 : e < Nat.log2 (n - 1) + 1 := (Nat.pow_lt_pow_iff_right (a := 2) (by decide)).1 (by omega)
  omega
def intOf : Value → Int | .int _ q => q | _ => 0
set_option maxHeartbeats 1600000 in
set_option maxRecDepth 100000 in
theorem split_any (w : World) (n : Nat) (h2 : 2 ≤ n) (hn : n ≤ 1099511627776) :
    Calls Tryz.prog 73 #[.int .i64 n] w fun e w' => e = .returned (.int .i64 (splitN n)) ∧ Below w.heap.size w w' := by
  go_enter Tryz.func73, Tryz.ntmps73
  go_wp2
  refine wp_scope_jumps 0 (fun a' w' => w' = w ∧ ∃ (k e : Nat) (u1 u4 u5 u6 u7 u8 u9 u10 : Value), a' = { tmps := #[.int .i64 n, u1, .int .i64 0, .int .i64 k, u4, u5, u6, u7, u8, u9, u10], defers := [] } ∧ k = 2 ^ e ∧ k < n ∧ 0 < k) (fun a' _ => n - (intOf (a'.tmps.getD 3 undef)).toNat) rfl ?_ ?_
  · go_wp2
    go_step3
    go_wp2
    · rename_i hlt
      go_step3
      refine ⟨rfl, rfl, 2, 1, _, _, _, _, _, _, _, _, rfl, rfl, by omega, by omega⟩
    · rename_i hge
      simp only [Exit.jump]
      go_ret
      exact ⟨by rw [splitN_of (e := 0) (by omega) (by omega)]; rfl, Below.refl _ _⟩
  · rintro a' w' ⟨rfl, k, e, u1, u4, u5, u6, u7, u8, u9, u10, rfl, hke, hk, h0⟩
    have HK := Lib.hid hke
    clear hke
    go_wp2
    · rename_i hlt
      go_step3
      refine ⟨rfl, ⟨rfl, 2 * k, e + 1, _, _, _, _, _, _, _, _, by rw [show (k : Int) * 2 = ((2 * k : Nat) : Int) by omega], by rw [Nat.pow_succ, HK.out]; omega, by omega, by omega⟩, ?_⟩
      show n - ((k : Int) * 2).toNat < n - ((k : Int)).toNat
      omega
    · rename_i hge
      simp only [Exit.jump]
      go_ret
      exact ⟨by rw [splitN_of (n := n) (e := e) (by rw [← HK.out]; omega) (by rw [← HK.out]; omega), ← HK.out]; rfl, Below.refl _ _⟩
end Go.Proofs.YtbenjjaofabdcaaGreatDoor
