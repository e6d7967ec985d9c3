/-
  u128: numbers of 128 bits.
-/
import Derived.Test.YtbenjjaofabdcaaGreatDoorOps
import Derived.Shelf.Spec.BitsCarry
namespace Go.Proofs.YtbenjjaofabdcaaGreatDoor
open Go Go.RowKit

def M64 : Nat := 18446744073709551616
theorem M64_pos : 0 < M64 := by decide
structure Num where
  hi : Nat
  lo : Nat
  hh : hi < M64
  hl : lo < M64
  deriving DecidableEq
def Num.of (hi lo : Nat) : Num := ⟨hi % M64, lo % M64, Nat.mod_lt _ M64_pos, Nat.mod_lt _ M64_pos⟩
def Num.zero : Num := ⟨0, 0, M64_pos, M64_pos⟩
instance : Inhabited Num := ⟨Num.zero⟩
def ncs (n : Num) : List Value := [.int .u64 n.hi, .int .u64 n.lo]
abbrev nv (n : Num) : Value := .agg #[.int .u64 n.hi, .int .u64 n.lo]
def Num.lt (a b : Num) : Bool := a.hi < b.hi || (a.hi == b.hi && a.lo < b.lo)
def Num.cmp (a b : Num) : Int := if a.lt b then -1 else if a = b then 0 else 1
theorem run_add64 (x y c : Nat) (hc : c ≤ 1) (w : World) : (callFunc 26 #[.int .u64 x, .int .u64 y, .int .u64 c]).run Tryz.prog w =
    .ok (.value (.tuple #[.int .u64 (((x + y + c) % 18446744073709551616 : Nat) : Int), .int .u64 (((x + y + c) / 18446744073709551616 : Nat) : Int)])) w := by
  rw [run_callFunc_extern Tryz.func26 (by kernel_rfl) (by kernel_rfl) (by kernel_rfl) (e := add64Entry) (by kernel_rfl)]
  have : c = 0 ∨ c = 1 := by omega
  rcases this with rfl | rfl <;> rfl
theorem run_sub64 (x y c : Nat) (hc : c ≤ 1) (w : World) : (callFunc 118 #[.int .u64 x, .int .u64 y, .int .u64 c]).run Tryz.prog w =
    .ok (.value (.tuple #[.int .u64 (((x + 18446744073709551616 - y - c) % 18446744073709551616 : Nat) : Int), .int .u64 ((if x < y + c then 1 else 0 : Nat) : Int)])) w := by
  rw [run_callFunc_extern Tryz.func118 (by kernel_rfl) (by kernel_rfl) (by kernel_rfl) (e := sub64Entry) (by kernel_rfl)]
  have : c = 0 ∨ c = 1 := by omega
  rcases this with rfl | rfl <;> rfl
set_option maxHeartbeats 1600000 in
set_option maxRecDepth 100000 in
theorem compare_any (w : World) (a b : Num) : Calls Tryz.prog 42 #[nv a, nv b] w fun e w' => e = .returned (.int .i64 (a.cmp b)) ∧ Below w.heap.size w w' := by
  obtain ⟨h, l, hh, hl⟩ := a
  obtain ⟨h', l', hh', hl'⟩ := b
  rcases Nat.lt_trichotomy h h' with h1 | h1 | h1
  · have HC : Hid (Num.cmp ⟨h, l, hh, hl⟩ ⟨h', l', hh', hl'⟩ = -1) := Lib.hid (by simp [Num.cmp, Num.lt, h1])
    go_enter Tryz.func42, Tryz.ntmps42
    go_wp2
    go_ret
    exact ⟨by rw [HC.out]; rfl, (by repeat (first | exact Below.refl _ _ | refine Below.alloc ?_ (by first | (simp; done) | (simp; omega)) _ | refine Below.setCell ?_ (by first | (simp; done) | (simp; omega)) _ | refine Below.drew ?_ | refine below_drewN ?_ _ | refine below_setCells ?_ (by first | (simp; done) | (simp; omega)) _ _))⟩
  · subst h1
    rcases Nat.lt_trichotomy l l' with h2 | h2 | h2
    · have HC : Hid (Num.cmp ⟨h, l, hh, hl⟩ ⟨h, l', hh', hl'⟩ = -1) := Lib.hid (by simp [Num.cmp, Num.lt, h2])
      go_enter Tryz.func42, Tryz.ntmps42
      go_wp2
      go_ret
      exact ⟨by rw [HC.out]; rfl, (by repeat (first | exact Below.refl _ _ | refine Below.alloc ?_ (by first | (simp; done) | (simp; omega)) _ | refine Below.setCell ?_ (by first | (simp; done) | (simp; omega)) _ | refine Below.drew ?_ | refine below_drewN ?_ _ | refine below_setCells ?_ (by first | (simp; done) | (simp; omega)) _ _))⟩
    · subst h2
      have HC : Hid (Num.cmp ⟨h, l, hh, hl⟩ ⟨h, l, hh', hl'⟩ = 0) := Lib.hid (by simp [Num.cmp, Num.lt])
      go_enter Tryz.func42, Tryz.ntmps42
      go_wp2
      go_ret
      exact ⟨by rw [HC.out]; rfl, (by repeat (first | exact Below.refl _ _ | refine Below.alloc ?_ (by first | (simp; done) | (simp; omega)) _ | refine Below.setCell ?_ (by first | (simp; done) | (simp; omega)) _ | refine Below.drew ?_ | refine below_drewN ?_ _ | refine below_setCells ?_ (by first | (simp; done) | (simp; omega)) _ _))⟩
    · have HC : Hid (Num.cmp ⟨h, l, hh, hl⟩ ⟨h, l', hh', hl'⟩ = 1) := Lib.hid (by simp [Num.cmp, Num.lt]; omega)
      go_enter Tryz.func42, Tryz.ntmps42
      go_wp2
      go_ret
      exact ⟨by rw [HC.out]; rfl, (by repeat (first | exact Below.refl _ _ | refine Below.alloc ?_ (by first | (simp; done) | (simp; omega)) _ | refine Below.setCell ?_ (by first | (simp; done) | (simp; omega)) _ | refine Below.drew ?_ | refine below_drewN ?_ _ | refine below_setCells ?_ (by first | (simp; done) | (simp; omega)) _ _))⟩
  · have HC : Hid (Num.cmp ⟨h, l, hh, hl⟩ ⟨h', l', hh', hl'⟩ = 1) := Lib.hid (by simp [Num.cmp, Num.lt]; omega)
    go_enter Tryz.func42, Tryz.ntmps42
    go_wp2
    go_ret
    exact ⟨by rw [HC.out]; rfl, (by repeat (first | exact Below.refl _ _ | refine Below.alloc ?_ (by first | (simp; done) | (simp; omega)) _ | refine Below.setCell ?_ (by first | (simp; done) | (simp; omega)) _ | refine Below.drew ?_ | refine below_drewN ?_ _ | refine below_setCells ?_ (by first | (simp; done) | (simp; omega)) _ _))⟩
def Num.bit (a : Num) (i : Int) : Int := if i < 0 ∨ 128 ≤ i then 0 else if i < 64 then wrap64 (bits .and .u64 ((a.hi : Int) / 2 ^ (63 - i).toNat) 1) else wrap64 (bits .and .u64 ((a.lo : Int) / 2 ^ (127 - i).toNat) 1)
set_option maxHeartbeats 1600000 in
set_option maxRecDepth 100000 in
theorem bit_any (w : World) (a : Num) (i : Int) : Calls Tryz.prog 96 #[nv a, .int .i64 i] w fun e w' => e = .returned (.int .i64 (a.bit i)) ∧ Below w.heap.size w w' := by
  obtain ⟨h, l, hh, hl⟩ := a
  by_cases h1 : i < 0
  · go_enter Tryz.func96, Tryz.ntmps96
    go_wp2
    go_ret
    exact ⟨by simp [Num.bit, h1], (by repeat (first | exact Below.refl _ _ | refine Below.alloc ?_ (by first | (simp; done) | (simp; omega)) _ | refine Below.setCell ?_ (by first | (simp; done) | (simp; omega)) _ | refine Below.drew ?_ | refine below_drewN ?_ _ | refine below_setCells ?_ (by first | (simp; done) | (simp; omega)) _ _))⟩
  · by_cases h2 : 128 ≤ i
    · go_enter Tryz.func96, Tryz.ntmps96
      go_wp2
      go_ret
      exact ⟨by simp [Num.bit, h2], (by repeat (first | exact Below.refl _ _ | refine Below.alloc ?_ (by first | (simp; done) | (simp; omega)) _ | refine Below.setCell ?_ (by first | (simp; done) | (simp; omega)) _ | refine Below.drew ?_ | refine below_drewN ?_ _ | refine below_setCells ?_ (by first | (simp; done) | (simp; omega)) _ _))⟩
    · by_cases h3 : i < 64
      · go_enter Tryz.func96, Tryz.ntmps96
        go_wp2
        go_ret
        exact ⟨by simp only [Num.bit]; rw [if_neg (by omega), if_pos h3]; rfl, (by repeat (first | exact Below.refl _ _ | refine Below.alloc ?_ (by first | (simp; done) | (simp; omega)) _ | refine Below.setCell ?_ (by first | (simp; done) | (simp; omega)) _ | refine Below.drew ?_ | refine below_drewN ?_ _ | refine below_setCells ?_ (by first | (simp; done) | (simp; omega)) _ _))⟩
      · go_enter Tryz.func96, Tryz.ntmps96
        go_wp2
        go_ret
        exact ⟨by simp only [Num.bit]; rw [if_neg (by omega), if_neg (by omega)]; rfl, (by repeat (first | exact Below.refl _ _ | refine Below.alloc ?_ (by first | (simp; done) | (simp; omega)) _ | refine Below.setCell ?_ (by first | (simp; done) | (simp; omega)) _ | refine Below.drew ?_ | refine below_drewN ?_ _ | refine below_setCells ?_ (by first | (simp; done) | (simp; omega)) _ _))⟩
def Num.sub (a b : Num) : Option Num :=
  let br := if a.lo < b.lo + 0 then 1 else 0
  if a.hi < b.hi + br then none else some (Num.of (a.hi + M64 - b.hi - br) (a.lo + M64 - b.lo - 0))
theorem results_nb {fn : Func} {p q : Tmp} (h : fn.results = #[.cell p 35, .tmp q]) (tmps : Array Value) (w : World) (b : Nat) (n : Num) (r : Value)
    (hp : tmps.getD p undef = ptr b 0) (hq : tmps.getD q undef = r) (hr : w.rangeAt b 0 (ncs n)) : (results fn tmps).run Tryz.prog w = .ok (.tuple #[nv n, r]) w := by
  have hp' : tmps[p]?.getD undef = .pointer (some ⟨b, 0, none⟩) := by simpa using hp
  have hq' : tmps[q]?.getD undef = r := by simpa using hq
  have := run_loadVar_mid (P := Tryz.prog) w b 0 35 (ncs n) _ hr Tryz.underlying35 rfl (by kernel_rfl)
  simp [results, h, hp', hq', asAddr, this, ncs]
theorem range2_of {w : World} {b : Nat} {x y : Value} (h0 : w.cell? ⟨b, 0, none⟩ = some x) (h1 : w.cell? ⟨b, 1, none⟩ = some y) : w.rangeAt b 0 [x, y] := fun j v hv => by
  rcases j with _ | _ | j
  · simp at hv; subst hv; exact h0
  · simp at hv; subst hv; exact h1
  · simp at hv
set_option maxHeartbeats 1600000 in
set_option maxRecDepth 100000 in
theorem sub_any (w : World) (a b : Num) : Calls Tryz.prog 113 #[nv a, nv b] w fun e w' => e = .returned (.tuple #[nv ((a.sub b).getD Num.zero), .bool (a.sub b).isSome]) ∧ Below w.heap.size w w' := by
  obtain ⟨br, hbr⟩ : ∃ x, x = if a.lo < b.lo + 0 then 1 else 0 := ⟨_, rfl⟩
  have hbr1 : br ≤ 1 := by rw [hbr]; split <;> omega
  obtain ⟨r, hr⟩ : ∃ r, r = Num.of (a.hi + M64 - b.hi - br) (a.lo + M64 - b.lo - 0) := ⟨_, rfl⟩
  have e1 : ∀ w, (callFunc 118 #[.int .u64 a.lo, .int .u64 b.lo, .int .u64 0]).run Tryz.prog w = .ok (.value (.tuple #[.int .u64 r.lo, .int .u64 br])) w := fun w => by
    have := run_sub64 a.lo b.lo 0 (by omega) w
    rw [← hbr] at this
    rw [hr]
    exact this
  by_cases h1 : a.hi < b.hi + br
  · have HC : Hid (Num.sub a b = none) := Lib.hid (by simp only [Num.sub, ← hbr]; rw [if_pos h1])
    have e2 : ∀ w, (callFunc 118 #[.int .u64 a.hi, .int .u64 b.hi, .int .u64 br]).run Tryz.prog w = .ok (.value (.tuple #[.int .u64 r.hi, .int .u64 1])) w := fun w => by
      have := run_sub64 a.hi b.hi br hbr1 w
      rw [if_pos h1] at this
      rw [hr]
      exact this
    clear hbr h1 hbr1 hr
    go_enter Tryz.func113, Tryz.ntmps113
    go_wp2
    rw [HC.out]
    refine bodyPost_ret (results_nb (n := Num.zero) rfl _ _ _ _ rfl rfl (range2_of ?_ ?_)) rfl ⟨rfl, (by repeat (first | exact Below.refl _ _ | refine Below.alloc ?_ (by first | (simp; done) | (simp; omega)) _ | refine Below.setCell ?_ (by first | (simp; done) | (simp; omega)) _ | refine Below.drew ?_ | refine below_drewN ?_ _ | refine below_setCells ?_ (by first | (simp; done) | (simp; omega)) _ _))⟩
    all_goals (go_simp <;> rfl)
  · have HC : Hid (Num.sub a b = some r) := Lib.hid (by simp only [Num.sub, ← hbr]; rw [if_neg h1, hr])
    have e2 : ∀ w, (callFunc 118 #[.int .u64 a.hi, .int .u64 b.hi, .int .u64 br]).run Tryz.prog w = .ok (.value (.tuple #[.int .u64 r.hi, .int .u64 0])) w := fun w => by
      have := run_sub64 a.hi b.hi br hbr1 w
      rw [if_neg h1] at this
      rw [hr]
      exact this
    clear hbr h1 hbr1 hr
    go_enter Tryz.func113, Tryz.ntmps113
    go_wp2
    rw [HC.out]
    refine bodyPost_ret (results_nb (n := r) rfl _ _ _ _ rfl rfl (range2_of ?_ ?_)) rfl ⟨rfl, (by repeat (first | exact Below.refl _ _ | refine Below.alloc ?_ (by first | (simp; done) | (simp; omega)) _ | refine Below.setCell ?_ (by first | (simp; done) | (simp; omega)) _ | refine Below.drew ?_ | refine below_drewN ?_ _ | refine below_setCells ?_ (by first | (simp; done) | (simp; omega)) _ _))⟩
    all_goals go_simp
theorem results_n {fn : Func} {p : Tmp} (h : fn.results = #[.cell p 35]) (tmps : Array Value) (w : World) (b : Nat) (n : Num)
    (hp : tmps.getD p undef = ptr b 0) (hr : w.rangeAt b 0 (ncs n)) : (results fn tmps).run Tryz.prog w = .ok (nv n) w :=
  results_cell_mid h tmps w b 0 (ncs n) _ hp hr Tryz.underlying35 rfl (by kernel_rfl)
def Num.top : Num := ⟨18446744073709551615, 18446744073709551615, by decide, by decide⟩
set_option maxHeartbeats 1600000 in
set_option maxRecDepth 100000 in
theorem max_any (w : World) : Calls Tryz.prog 106 #[] w fun e w' => e = .returned (nv Num.top) ∧ Below w.heap.size w w' := by
  go_enter Tryz.func106, Tryz.ntmps106
  go_wp2
  refine bodyPost_ret (results_n (n := Num.top) rfl _ _ _ rfl (range2_of ?_ ?_)) rfl ⟨rfl, (by repeat (first | exact Below.refl _ _ | refine Below.alloc ?_ (by first | (simp; done) | (simp; omega)) _ | refine Below.setCell ?_ (by first | (simp; done) | (simp; omega)) _ | refine Below.drew ?_ | refine below_drewN ?_ _ | refine below_setCells ?_ (by first | (simp; done) | (simp; omega)) _ _))⟩
  all_goals (go_simp; rfl)
/-- Numbers, one behind the other. -/
def nums (l : List Num) : List Value := l.flatMap ncs
theorem nums_length (l : List Num) : (nums l).length = l.length * 2 := by
  unfold nums
  induction l with
  | nil => rfl
  | cons n r ih => rw [List.flatMap_cons, List.length_append, ih]; simp [ncs]; omega
theorem nums_get (l : List Num) (k : Nat) (hk : k < l.length) : (nums l)[k * 2]? = some (.int .u64 l[k].hi) ∧ (nums l)[k * 2 + 1]? = some (.int .u64 l[k].lo) := by
  unfold nums
  induction l generalizing k with
  | nil => simp at hk
  | cons n r ih =>
    rw [List.flatMap_cons]
    rcases k with _ | k
    · exact ⟨rfl, rfl⟩
    · have := ih k (by simpa using hk)
      have hl : (ncs n).length = 2 := rfl
      rw [List.getElem?_append_right (by rw [hl]; omega), List.getElem?_append_right (by rw [hl]; omega), hl]
      rw [show (k + 1) * 2 - 2 = k * 2 by omega, show (k + 1) * 2 + 1 - 2 = k * 2 + 1 by omega]
      simpa using this
/-- The sum of some; none: too great. -/
def Num.plus (a b : Num) : Option Num := if 0 < (a.hi + b.hi + (a.lo + b.lo + 0) / M64) / M64 then none else some (Num.of (a.hi + b.hi + (a.lo + b.lo + 0) / M64) (a.lo + b.lo + 0))
def Num.sumFrom (s : Num) : List Num → Option Num
  | [] => some s
  | x :: r => match s.plus x with | none => none | some t => t.sumFrom r
def Num.sum (l : List Num) : Option Num := Num.sumFrom Num.zero l
theorem tyNum : Ty Tryz.prog 35 2 true [.int .u64 0, .int .u64 0] := ⟨Tryz.sizeOf35, Tryz.isAgg35, fun w => ⟨_, Tryz.zeroValue35 w, rfl⟩⟩
theorem tyU64 : Ty Tryz.prog 33 1 false [.int .u64 0] := ⟨Tryz.sizeOf33, Tryz.isAgg33, fun w => ⟨_, Tryz.zeroValue33 w, rfl⟩⟩
abbrev nvar (b : Nat) (n : Num) : Asn := pts b 35 (ncs n)
theorem nums_row {w : World} {b o n c : Nat} {l : List Num} (h : Sl w 2 (.slice (some ⟨b, o, none⟩) n c) l.length (nums l)) (k : Nat) (hk : k < l.length) : w.rangeAt b (o + k * 2) (ncs l[k]) := by
  rcases h with ⟨h, _⟩ | ⟨b', o', c', he, _, _, _, h⟩
  · cases h
  · simp only [Value.slice.injEq, Option.some.injEq, Addr.mk.injEq] at he
    obtain ⟨⟨rfl, rfl, _⟩, _, rfl⟩ := he
    obtain ⟨h1, h2⟩ := nums_get l k hk
    intro j v hv
    rcases j with _ | _ | j
    · simp [ncs] at hv; subst hv
      exact h _ _ h1
    · simp [ncs] at hv; subst hv
      have := h _ _ h2
      rwa [← Nat.add_assoc] at this
    · simp [ncs] at hv
theorem Sl.solid {w : World} {sz n c : Nat} {ao : Option Addr} {cs : List Value} (h : Sl w sz (.slice ao n c) n cs) (hn : 0 < n) : ∃ b o, ao = some ⟨b, o, none⟩ := by
  rcases h with ⟨h1, h2, _⟩ | ⟨b, o, c', h1, _⟩
  · omega
  · simp only [Value.slice.injEq] at h1; exact ⟨b, o, h1.1⟩
theorem Sl.sep {w0 w : World} {L : List Asn} (M : Sep (fun _ => False) w0 w L) {sz n : Nat} {v : Value} {cs : List Value} (h : Sl w0 sz v n cs) : Sl w sz v n cs := h.below M.out
theorem sumFrom_snoc (l : List Num) : ∀ (s : Num) (x : Num), Num.sumFrom s (l ++ [x]) = (Num.sumFrom s l).bind (·.plus x) := by
  induction l with
  | nil => intro s x; simp only [List.nil_append, Num.sumFrom, Option.bind_some]; cases s.plus x <;> rfl
  | cons y r ih =>
    intro s x
    simp only [List.cons_append, Num.sumFrom]
    cases s.plus y with
    | none => rfl
    | some t => exact ih t x
theorem sumFrom_none (l r : List Num) : ∀ (s : Num), Num.sumFrom s l = none → Num.sumFrom s (l ++ r) = none := by
  induction l with
  | nil => intro s h; cases h
  | cons y t ih =>
    intro s h
    simp only [List.cons_append, Num.sumFrom] at *
    cases hp : s.plus y with
    | none => rfl
    | some u => rw [hp] at h; exact ih u h
set_option maxHeartbeats 1600000 in
set_option maxRecDepth 100000 in
theorem add_any (w : World) (v : Value) (l : List Num) (hS : Sl w 2 v l.length (nums l)) (hl : l.length ≤ 1099511627776) : Calls Tryz.prog 13 #[v] w fun e w' => e = .returned (.tuple #[nv ((Num.sum l).getD Num.zero), .bool (Num.sum l).isSome]) ∧ Below w.heap.size w w' := by
  obtain ⟨ao, c, rfl⟩ := hS.form
  have HS := Lib.hid hS
  clear hS
  go_enter Tryz.func13, Tryz.ntmps13
  have M := Sep.start (fun _ => False) w
  go_wp2_with (first | ((with_reducible refine wl_at ⟨some 2, _, _, _, _, _⟩ ?_); refine wl_alloc M rfl rfl tyNum ?_; clear M; intro b2 w2 M; simp only [Act.put, List.setIfInBounds_toArray, List.set_cons_succ, List.set_cons_zero]) | ((with_reducible refine wl_at ⟨some 4, _, _, _, _, _⟩ ?_); refine wl_alloc M rfl rfl tyNum ?_; clear M; intro b4 w4 M; simp only [Act.put, List.setIfInBounds_toArray, List.set_cons_succ, List.set_cons_zero]) | fail)
  go_loopw [13] (fun i wr => ∃ k : Nat, k ≤ l.length ∧ i = .int .i64 k ∧ ∃ s, Hid (Num.sumFrom Num.zero (l.take k) = some s) ∧ Sep (fun _ => False) w wr [nvar b4 s, nvar b2 Num.zero]) (fun i _ => l.length - (intOf i).toNat)
  case atStart => exact ⟨0, Nat.zero_le _, rfl, Num.zero, Lib.hid rfl, M⟩
  case round =>
    clear M
    obtain ⟨k, hk, rfl, s, HSum, M⟩ := hrel
    by_cases hlt : k < l.length
    · obtain ⟨b0, o0, rfl⟩ := HS.out.solid (by omega)
      have hr := nums_row (Sl.sep M HS.out) k hlt
      obtain ⟨x, hx⟩ : ∃ x, x = l[k] := ⟨_, rfl⟩
      rw [← hx] at hr
      have HR := Lib.hid hr
      have hT : l.take (k + 1) = l.take k ++ [x] := by rw [hx, List.take_succ_eq_append_getElem hlt]
      have hN : Num.sumFrom Num.zero (l.take (k + 1)) = s.plus x := by rw [hT, sumFrom_snoc, HSum.out]; rfl
      have HN := Lib.hid hN
      clear hr hx hT hN
      obtain ⟨r, hr⟩ : ∃ r, r = Num.of (s.hi + x.hi + (s.lo + x.lo + 0) / M64) (s.lo + x.lo + 0) := ⟨_, rfl⟩
      obtain ⟨ca, hca⟩ : ∃ y, y = (s.lo + x.lo + 0) / M64 := ⟨_, rfl⟩
      obtain ⟨ov, hov⟩ : ∃ y, y = (s.hi + x.hi + ca) / M64 := ⟨_, rfl⟩
      have hca1 : ca ≤ 1 := by have := s.hl; have := x.hl; rw [hca]; unfold M64 at *; omega
      have e1 : ∀ w, (callFunc 26 #[.int .u64 s.lo, .int .u64 x.lo, .int .u64 0]).run Tryz.prog w = .ok (.value (.tuple #[.int .u64 r.lo, .int .u64 ca])) w := fun w => by
        have := run_add64 s.lo x.lo 0 (by omega) w
        rw [hr, hca]
        exact this
      have e2 : ∀ w, (callFunc 26 #[.int .u64 s.hi, .int .u64 x.hi, .int .u64 ca]).run Tryz.prog w = .ok (.value (.tuple #[.int .u64 r.hi, .int .u64 ov])) w := fun w => by
        have := run_add64 s.hi x.hi ca hca1 w
        rw [hr, hov, hca]
        rw [hca] at this
        exact this
      have hpl : s.plus x = if 0 < ov then none else some r := by unfold Num.plus; rw [hov, hca, hr]
      have HPL := Lib.hid hpl
      clear hr hca hov hca1 hpl
      by_cases h0 : 0 < ov
      · go_wp2_with (first | ((with_reducible refine wl_at ⟨some 16, _, _, _, _, _⟩ ?_); refine wl_plain rfl fun _ hK => wp_loadn rfl rfl tyNum HR.out rfl (hK _ _ ?_); simp only [Act.put, List.setIfInBounds_toArray, List.set_cons_succ, List.set_cons_zero]) | ((with_reducible refine wl_at ⟨some 6, _, _, _, _, _⟩ ?_); refine wl_alloc M rfl rfl tyNum ?_; clear M; intro b6 w6 M; simp only [Act.put, List.setIfInBounds_toArray, List.set_cons_succ, List.set_cons_zero]) | ((with_reducible refine wl_at ⟨_, .store _ (.tmp 6) (.tmp 16), _, _, _, _⟩ ?_); refine wl_storen M (_) rfl rfl rfl rfl tyNum rfl rfl (ones_of rfl) (by first | exact .head | exact (.tail .head) | exact (.tail (.tail .head)) | exact (.tail (.tail (.tail .head))) | exact (.tail (.tail (.tail (.tail .head)))) | exact (.tail (.tail (.tail (.tail (.tail .head))))) | exact (.tail (.tail (.tail (.tail (.tail (.tail .head)))))) | exact (.tail (.tail (.tail (.tail (.tail (.tail (.tail .head))))))) | exact (.tail (.tail (.tail (.tail (.tail (.tail (.tail (.tail .head)))))))) | exact (.tail (.tail (.tail (.tail (.tail (.tail (.tail (.tail (.tail .head)))))))))) rfl ?_; clear M; intro w7 M; simp only [Act.put, List.setIfInBounds_toArray, List.set_cons_succ, List.set_cons_zero]) | ((with_reducible refine wl_at ⟨some 19, _, _, _, _, _⟩ ?_); refine wl_load1 M rfl rfl rfl tyU64 (by first | exact (.head _) | exact (.tail _ (.head _)) | exact (.tail _ (.tail _ (.head _))) | exact (.tail _ (.tail _ (.tail _ (.head _)))) | exact (.tail _ (.tail _ (.tail _ (.tail _ (.head _))))) | exact (.tail _ (.tail _ (.tail _ (.tail _ (.tail _ (.head _)))))) | exact (.tail _ (.tail _ (.tail _ (.tail _ (.tail _ (.tail _ (.head _))))))) | exact (.tail _ (.tail _ (.tail _ (.tail _ (.tail _ (.tail _ (.tail _ (.head _)))))))) | exact (.tail _ (.tail _ (.tail _ (.tail _ (.tail _ (.tail _ (.tail _ (.tail _ (.head _))))))))) | exact (.tail _ (.tail _ (.tail _ (.tail _ (.tail _ (.tail _ (.tail _ (.tail _ (.tail _ (.head _))))))))))) rfl ?_; simp only [Act.put, List.setIfInBounds_toArray, List.set_cons_succ, List.set_cons_zero]) | ((with_reducible refine wl_at ⟨some 21, _, _, _, _, _⟩ ?_); refine wl_load1 M rfl rfl rfl tyU64 (by first | exact (.head _) | exact (.tail _ (.head _)) | exact (.tail _ (.tail _ (.head _))) | exact (.tail _ (.tail _ (.tail _ (.head _)))) | exact (.tail _ (.tail _ (.tail _ (.tail _ (.head _))))) | exact (.tail _ (.tail _ (.tail _ (.tail _ (.tail _ (.head _)))))) | exact (.tail _ (.tail _ (.tail _ (.tail _ (.tail _ (.tail _ (.head _))))))) | exact (.tail _ (.tail _ (.tail _ (.tail _ (.tail _ (.tail _ (.tail _ (.head _)))))))) | exact (.tail _ (.tail _ (.tail _ (.tail _ (.tail _ (.tail _ (.tail _ (.tail _ (.head _))))))))) | exact (.tail _ (.tail _ (.tail _ (.tail _ (.tail _ (.tail _ (.tail _ (.tail _ (.tail _ (.head _))))))))))) rfl ?_; simp only [Act.put, List.setIfInBounds_toArray, List.set_cons_succ, List.set_cons_zero]) | ((with_reducible refine wl_at ⟨some 27, _, _, _, _, _⟩ ?_); refine wl_load1 M rfl rfl rfl tyU64 (by first | exact (.head _) | exact (.tail _ (.head _)) | exact (.tail _ (.tail _ (.head _))) | exact (.tail _ (.tail _ (.tail _ (.head _)))) | exact (.tail _ (.tail _ (.tail _ (.tail _ (.head _))))) | exact (.tail _ (.tail _ (.tail _ (.tail _ (.tail _ (.head _)))))) | exact (.tail _ (.tail _ (.tail _ (.tail _ (.tail _ (.tail _ (.head _))))))) | exact (.tail _ (.tail _ (.tail _ (.tail _ (.tail _ (.tail _ (.tail _ (.head _)))))))) | exact (.tail _ (.tail _ (.tail _ (.tail _ (.tail _ (.tail _ (.tail _ (.tail _ (.head _))))))))) | exact (.tail _ (.tail _ (.tail _ (.tail _ (.tail _ (.tail _ (.tail _ (.tail _ (.tail _ (.head _))))))))))) rfl ?_; simp only [Act.put, List.setIfInBounds_toArray, List.set_cons_succ, List.set_cons_zero]) | ((with_reducible refine wl_at ⟨some 29, _, _, _, _, _⟩ ?_); refine wl_load1 M rfl rfl rfl tyU64 (by first | exact (.head _) | exact (.tail _ (.head _)) | exact (.tail _ (.tail _ (.head _))) | exact (.tail _ (.tail _ (.tail _ (.head _)))) | exact (.tail _ (.tail _ (.tail _ (.tail _ (.head _))))) | exact (.tail _ (.tail _ (.tail _ (.tail _ (.tail _ (.head _)))))) | exact (.tail _ (.tail _ (.tail _ (.tail _ (.tail _ (.tail _ (.head _))))))) | exact (.tail _ (.tail _ (.tail _ (.tail _ (.tail _ (.tail _ (.tail _ (.head _)))))))) | exact (.tail _ (.tail _ (.tail _ (.tail _ (.tail _ (.tail _ (.tail _ (.tail _ (.head _))))))))) | exact (.tail _ (.tail _ (.tail _ (.tail _ (.tail _ (.tail _ (.tail _ (.tail _ (.tail _ (.head _))))))))))) rfl ?_; simp only [Act.put, List.setIfInBounds_toArray, List.set_cons_succ, List.set_cons_zero]) | ((with_reducible refine wl_at ⟨_, .store _ (.tmp 2) (.tmp 36), _, _, _, _⟩ ?_); refine wl_storen M (_) rfl rfl rfl rfl tyNum rfl rfl (ones_of rfl) (by first | exact .head | exact (.tail .head) | exact (.tail (.tail .head)) | exact (.tail (.tail (.tail .head))) | exact (.tail (.tail (.tail (.tail .head)))) | exact (.tail (.tail (.tail (.tail (.tail .head))))) | exact (.tail (.tail (.tail (.tail (.tail (.tail .head)))))) | exact (.tail (.tail (.tail (.tail (.tail (.tail (.tail .head))))))) | exact (.tail (.tail (.tail (.tail (.tail (.tail (.tail (.tail .head)))))))) | exact (.tail (.tail (.tail (.tail (.tail (.tail (.tail (.tail (.tail .head)))))))))) rfl ?_; clear M; intro w8 M; simp only [Act.put, List.setIfInBounds_toArray, List.set_cons_succ, List.set_cons_zero]) | fail)
        have hs : Num.sum l = none := by
          have h1 : l = l.take (k + 1) ++ l.drop (k + 1) := (List.take_append_drop _ _).symm
          unfold Num.sum
          rw [h1]
          exact sumFrom_none _ _ _ (by rw [HN.out, HPL.out, if_pos h0])
        rw [hs]
        exact bodyPost_ret (results_nb (n := Num.zero) rfl _ _ _ _ rfl rfl (range_all (M.holds _ (.tail _ (.tail _ (.head _)))))) rfl ⟨rfl, M.out⟩
      · obtain rfl : ov = 0 := by omega
        go_wp2_with (first | ((with_reducible refine wl_at ⟨some 16, _, _, _, _, _⟩ ?_); refine wl_plain rfl fun _ hK => wp_loadn rfl rfl tyNum HR.out rfl (hK _ _ ?_); simp only [Act.put, List.setIfInBounds_toArray, List.set_cons_succ, List.set_cons_zero]) | ((with_reducible refine wl_at ⟨some 6, _, _, _, _, _⟩ ?_); refine wl_alloc M rfl rfl tyNum ?_; clear M; intro b6 w6 M; simp only [Act.put, List.setIfInBounds_toArray, List.set_cons_succ, List.set_cons_zero]) | ((with_reducible refine wl_at ⟨_, .store _ (.tmp 6) (.tmp 16), _, _, _, _⟩ ?_); refine wl_storen M (_) rfl rfl rfl rfl tyNum rfl rfl (ones_of rfl) (by first | exact .head | exact (.tail .head) | exact (.tail (.tail .head)) | exact (.tail (.tail (.tail .head))) | exact (.tail (.tail (.tail (.tail .head)))) | exact (.tail (.tail (.tail (.tail (.tail .head))))) | exact (.tail (.tail (.tail (.tail (.tail (.tail .head)))))) | exact (.tail (.tail (.tail (.tail (.tail (.tail (.tail .head))))))) | exact (.tail (.tail (.tail (.tail (.tail (.tail (.tail (.tail .head)))))))) | exact (.tail (.tail (.tail (.tail (.tail (.tail (.tail (.tail (.tail .head)))))))))) rfl ?_; clear M; intro w7 M; simp only [Act.put, List.setIfInBounds_toArray, List.set_cons_succ, List.set_cons_zero]) | ((with_reducible refine wl_at ⟨some 19, _, _, _, _, _⟩ ?_); refine wl_load1 M rfl rfl rfl tyU64 (by first | exact (.head _) | exact (.tail _ (.head _)) | exact (.tail _ (.tail _ (.head _))) | exact (.tail _ (.tail _ (.tail _ (.head _)))) | exact (.tail _ (.tail _ (.tail _ (.tail _ (.head _))))) | exact (.tail _ (.tail _ (.tail _ (.tail _ (.tail _ (.head _)))))) | exact (.tail _ (.tail _ (.tail _ (.tail _ (.tail _ (.tail _ (.head _))))))) | exact (.tail _ (.tail _ (.tail _ (.tail _ (.tail _ (.tail _ (.tail _ (.head _)))))))) | exact (.tail _ (.tail _ (.tail _ (.tail _ (.tail _ (.tail _ (.tail _ (.tail _ (.head _))))))))) | exact (.tail _ (.tail _ (.tail _ (.tail _ (.tail _ (.tail _ (.tail _ (.tail _ (.tail _ (.head _))))))))))) rfl ?_; simp only [Act.put, List.setIfInBounds_toArray, List.set_cons_succ, List.set_cons_zero]) | ((with_reducible refine wl_at ⟨some 21, _, _, _, _, _⟩ ?_); refine wl_load1 M rfl rfl rfl tyU64 (by first | exact (.head _) | exact (.tail _ (.head _)) | exact (.tail _ (.tail _ (.head _))) | exact (.tail _ (.tail _ (.tail _ (.head _)))) | exact (.tail _ (.tail _ (.tail _ (.tail _ (.head _))))) | exact (.tail _ (.tail _ (.tail _ (.tail _ (.tail _ (.head _)))))) | exact (.tail _ (.tail _ (.tail _ (.tail _ (.tail _ (.tail _ (.head _))))))) | exact (.tail _ (.tail _ (.tail _ (.tail _ (.tail _ (.tail _ (.tail _ (.head _)))))))) | exact (.tail _ (.tail _ (.tail _ (.tail _ (.tail _ (.tail _ (.tail _ (.tail _ (.head _))))))))) | exact (.tail _ (.tail _ (.tail _ (.tail _ (.tail _ (.tail _ (.tail _ (.tail _ (.tail _ (.head _))))))))))) rfl ?_; simp only [Act.put, List.setIfInBounds_toArray, List.set_cons_succ, List.set_cons_zero]) | ((with_reducible refine wl_at ⟨some 27, _, _, _, _, _⟩ ?_); refine wl_load1 M rfl rfl rfl tyU64 (by first | exact (.head _) | exact (.tail _ (.head _)) | exact (.tail _ (.tail _ (.head _))) | exact (.tail _ (.tail _ (.tail _ (.head _)))) | exact (.tail _ (.tail _ (.tail _ (.tail _ (.head _))))) | exact (.tail _ (.tail _ (.tail _ (.tail _ (.tail _ (.head _)))))) | exact (.tail _ (.tail _ (.tail _ (.tail _ (.tail _ (.tail _ (.head _))))))) | exact (.tail _ (.tail _ (.tail _ (.tail _ (.tail _ (.tail _ (.tail _ (.head _)))))))) | exact (.tail _ (.tail _ (.tail _ (.tail _ (.tail _ (.tail _ (.tail _ (.tail _ (.head _))))))))) | exact (.tail _ (.tail _ (.tail _ (.tail _ (.tail _ (.tail _ (.tail _ (.tail _ (.tail _ (.head _))))))))))) rfl ?_; simp only [Act.put, List.setIfInBounds_toArray, List.set_cons_succ, List.set_cons_zero]) | ((with_reducible refine wl_at ⟨some 29, _, _, _, _, _⟩ ?_); refine wl_load1 M rfl rfl rfl tyU64 (by first | exact (.head _) | exact (.tail _ (.head _)) | exact (.tail _ (.tail _ (.head _))) | exact (.tail _ (.tail _ (.tail _ (.head _)))) | exact (.tail _ (.tail _ (.tail _ (.tail _ (.head _))))) | exact (.tail _ (.tail _ (.tail _ (.tail _ (.tail _ (.head _)))))) | exact (.tail _ (.tail _ (.tail _ (.tail _ (.tail _ (.tail _ (.head _))))))) | exact (.tail _ (.tail _ (.tail _ (.tail _ (.tail _ (.tail _ (.tail _ (.head _)))))))) | exact (.tail _ (.tail _ (.tail _ (.tail _ (.tail _ (.tail _ (.tail _ (.tail _ (.head _))))))))) | exact (.tail _ (.tail _ (.tail _ (.tail _ (.tail _ (.tail _ (.tail _ (.tail _ (.tail _ (.head _))))))))))) rfl ?_; simp only [Act.put, List.setIfInBounds_toArray, List.set_cons_succ, List.set_cons_zero]) | ((with_reducible refine wl_at ⟨_, .store _ (.tmp 4) (.tmp 39), _, _, _, _⟩ ?_); refine wl_storen M ((ncs r)) rfl rfl rfl rfl tyNum rfl rfl (ones_of rfl) (by first | exact .head | exact (.tail .head) | exact (.tail (.tail .head)) | exact (.tail (.tail (.tail .head))) | exact (.tail (.tail (.tail (.tail .head)))) | exact (.tail (.tail (.tail (.tail (.tail .head))))) | exact (.tail (.tail (.tail (.tail (.tail (.tail .head)))))) | exact (.tail (.tail (.tail (.tail (.tail (.tail (.tail .head))))))) | exact (.tail (.tail (.tail (.tail (.tail (.tail (.tail (.tail .head)))))))) | exact (.tail (.tail (.tail (.tail (.tail (.tail (.tail (.tail (.tail .head)))))))))) rfl ?_; clear M; intro w8 M; simp only [Act.put, List.setIfInBounds_toArray, List.set_cons_succ, List.set_cons_zero]) | fail)
        refine ⟨⟨k + 1, by omega, by go_num, r, Lib.hid (by rw [HN.out, HPL.out]; rfl), M.sub (.cons _ (.refl _))⟩, by simp [intOf]; omega⟩
    · obtain rfl : k = l.length := by omega
      go_wp2_with (first | ((with_reducible refine wl_at ⟨some 41, _, _, _, _, _⟩ ?_); refine wl_load2 M rfl rfl rfl tyNum (by first | exact (.head _) | exact (.tail _ (.head _)) | exact (.tail _ (.tail _ (.head _))) | exact (.tail _ (.tail _ (.tail _ (.head _)))) | exact (.tail _ (.tail _ (.tail _ (.tail _ (.head _))))) | exact (.tail _ (.tail _ (.tail _ (.tail _ (.tail _ (.head _)))))) | exact (.tail _ (.tail _ (.tail _ (.tail _ (.tail _ (.tail _ (.head _))))))) | exact (.tail _ (.tail _ (.tail _ (.tail _ (.tail _ (.tail _ (.tail _ (.head _)))))))) | exact (.tail _ (.tail _ (.tail _ (.tail _ (.tail _ (.tail _ (.tail _ (.tail _ (.head _))))))))) | exact (.tail _ (.tail _ (.tail _ (.tail _ (.tail _ (.tail _ (.tail _ (.tail _ (.tail _ (.head _))))))))))) rfl rfl ?_; simp only [Act.put, List.setIfInBounds_toArray, List.set_cons_succ, List.set_cons_zero]) | ((with_reducible refine wl_at ⟨_, .store _ (.tmp 2) (.tmp 41), _, _, _, _⟩ ?_); refine wl_storen M ((ncs s)) rfl rfl rfl rfl tyNum rfl rfl (ones_of rfl) (by first | exact .head | exact (.tail .head) | exact (.tail (.tail .head)) | exact (.tail (.tail (.tail .head))) | exact (.tail (.tail (.tail (.tail .head)))) | exact (.tail (.tail (.tail (.tail (.tail .head))))) | exact (.tail (.tail (.tail (.tail (.tail (.tail .head)))))) | exact (.tail (.tail (.tail (.tail (.tail (.tail (.tail .head))))))) | exact (.tail (.tail (.tail (.tail (.tail (.tail (.tail (.tail .head)))))))) | exact (.tail (.tail (.tail (.tail (.tail (.tail (.tail (.tail (.tail .head)))))))))) rfl ?_; clear M; intro w8 M; simp only [Act.put, List.setIfInBounds_toArray, List.set_cons_succ, List.set_cons_zero]) | fail)
      have hs : Num.sum l = some s := by have := HSum.out; rwa [List.take_length] at this
      rw [hs]
      exact bodyPost_ret (results_nb (n := s) rfl _ _ _ _ rfl rfl (range_all (M.holds _ (.tail _ (.head _))))) rfl ⟨rfl, M.out⟩
end Go.Proofs.YtbenjjaofabdcaaGreatDoor
