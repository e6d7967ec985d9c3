/-
  A reader: Int, Hash, Done, Bad; proof.Hashes.
-/
import Derived.Test.YtbenjjaofabdcaaGreatDoorInt2
import Derived.Test.YtbenjjaofabdcaaGreatDoorRd
namespace Go.Proofs.YtbenjjaofabdcaaGreatDoor
open Go Go.RowKit

instance : TyI 58 2 true [.slice none 0 0, .bool false] := ⟨⟨Tryz.sizeOf58, Tryz.isAgg58, fun w => ⟨_, Tryz.zeroValue58 w, rfl⟩⟩⟩
/-- The number of bytes, the highest first. -/
def beVal (l : List UInt8) : Nat := l.foldl (fun x c => x * 256 + c.toNat) 0
theorem beVal_snoc (l : List UInt8) (c : UInt8) : beVal (l ++ [c]) = beVal l * 256 + c.toNat := by simp [beVal]
theorem beVal_lt (l : List UInt8) : beVal l < 256 ^ l.length := by
  have key : ∀ (l : List UInt8) (x : Nat), l.foldl (fun x c => x * 256 + c.toNat) x < (x + 1) * 256 ^ l.length := by
    intro l
    induction l with
    | nil => intro x; simp
    | cons c r ih =>
      intro x
      have h1 := ih (x * 256 + c.toNat)
      have h2 := c.toNat_lt
      have h3 : (x * 256 + c.toNat + 1) * 256 ^ r.length ≤ ((x + 1) * 256) * 256 ^ r.length := Nat.mul_le_mul_right _ (by omega)
      rw [List.foldl_cons, List.length_cons, Nat.pow_succ]
      calc _ < _ := h1
        _ ≤ _ := h3
        _ = _ := by rw [Nat.mul_assoc, Nat.mul_comm 256]
  simpa [beVal] using key l 0
theorem or_byte (x : Nat) (c : UInt8) (hx : x < 36028797018963968) : bits .or .i64 ((x : Int) * 256) (c.toNat : Int) = ((x * 256 + c.toNat : Nat) : Int) := by
  have hc := c.toNat_lt
  have hw : (x : Int) * 256 = ((x * 256 : Nat) : Int) := by omega
  rw [hw]
  have e1 : (x * 256) ||| c.toNat = x * 256 + c.toNat := by
    have := Nat.shiftLeft_add_eq_or_of_lt (b := c.toNat) (i := 8) (by omega) x
    rw [Nat.shiftLeft_eq] at this
    exact this.symm
  show IntKind.wrap .i64 (((BitVec.ofInt 64 ((x * 256 : Nat) : Int)) ||| (BitVec.ofInt 64 (c.toNat : Int))).toNat : Int) = _
  rw [BitVec.ofInt_natCast, BitVec.ofInt_natCast, BitVec.toNat_or, BitVec.toNat_ofNat, BitVec.toNat_ofNat, Nat.mod_eq_of_lt (by omega), Nat.mod_eq_of_lt (by omega), e1]
  exact IntWalk.i64_in _ ⟨by omega, by omega⟩
theorem Bs.at_ {w : World} {b o n c : Nat} {l : List UInt8} (h : Bs w (.slice (some ⟨b, o, none⟩) n c) l) (k : Nat) (hk : k < l.length) : w.cell? ⟨b, o + k, none⟩ = some (u8c l[k]) := by
  rcases h with ⟨h, _⟩ | ⟨b', o', c', he, _, _, _, hr⟩
  · cases h
  · simp only [Value.slice.injEq, Option.some.injEq, Addr.mk.injEq] at he
    obtain ⟨⟨rfl, rfl, _⟩, _⟩ := he
    exact hr k _ (by simp [bcs, hk])
theorem Bs.solid' {w : World} {ao : Option Addr} {n c : Nat} {l : List UInt8} (h : Bs w (.slice ao n c) l) (hn : 0 < n) : ∃ b o, ao = some ⟨b, o, none⟩ := by
  rcases h with ⟨h, _⟩ | ⟨b', o', c', he, _⟩
  · simp at h; omega
  · simp only [Value.slice.injEq] at he; exact ⟨b', o', he.1⟩
set_option maxHeartbeats 1600000 in
set_option maxRecDepth 100000 in
theorem rint_any (w : World) (br : Nat) (r : Rd) (v : Value) (n : Nat) (h : RdAt w br r v) (h1 : 1 ≤ n) (hn : n ≤ 7) : Calls Tryz.prog 19 #[ptr br 0, .int .i64 n] w fun e w' => e = .returned (.int .i64 (beVal (r.got n))) ∧ ∃ v', RdAt w' br (r.left n) v' ∧ Kp (fun k => k = br) w w' ∧ ∀ k, v'.ownBlock = some k → v.ownBlock = some k := by
  have HH := Lib.hid h
  clear h
  obtain ⟨g, hg⟩ : ∃ g, r.got n = g := ⟨_, rfl⟩
  have hgl : g.length = n := by rw [← hg]; exact r.got_length n
  rw [hg]
  have HG0 := Lib.hid hg
  have HG := Lib.hid hgl
  clear hg hgl
  go_enter Tryz.func19, Tryz.ntmps19
  go_wp2_with (fail)
  refine Calls.mono (take_any w br r v n HH.out h1 (by omega)) ?_
  rintro e w1 ⟨v1, v', rfl, hb, hr, hk, ho, ho'⟩
  rw [HG0.out] at hb
  obtain ⟨ao, c, rfl⟩ := hb.form
  rw [HG.out]
  have M : Sep (fun k => k = br) w w1 [] := ⟨hk, by simp, .nil, by simp⟩
  have HB := Lib.hid hb
  have HR := Lib.hid hr
  have HO := Lib.hid ho
  clear hb hr ho hk ho'
  go_wp2_with (first | ((with_reducible refine wl_at ⟨some _, .load _ _, _, _, _, _⟩ ?_); refine al_ld M rfl rfl rfl (by first | exact .one rfl | exact .two rfl rfl | exact ldH | exact .all rfl | exact ldRoot _) ?_; simp only [p0, p1, p2, p3, p4, Nat.reduceAdd]) | ((with_reducible refine wl_at ⟨some _, .alloc _, _, _, _, _⟩ ?_); refine al_alloc M rfl rfl ?_; clear M; intro bb ww M; simp only [p0, p1, p2, p3, p4, Nat.reduceAdd]) | ((with_reducible refine wl_at ⟨some _, .box _ _, _, _, _, _⟩ ?_); refine al_box M rfl rfl rfl (by first | exact cI | exact cB | exact cS | exact cP | exact cA | rfl) ?_; clear M; intro bb ww M; simp only [p0, p1, p2, p3, p4, Nat.reduceAdd]) | ((with_reducible refine wl_at ⟨_, .store _ _ _, _, _, _, _⟩ ?_); refine al_sh M rfl rfl rfl rfl (by first | rfl | exact Blob.len) ?_; clear M; intro ww M; simp only [p0, p1, p2, p3, p4, Nat.reduceAdd]) | ((with_reducible refine wl_at ⟨_, .store _ _ _, _, _, _, _⟩ ?_); refine al_st M rfl rfl rfl rfl (by first | exact cI | exact cB | exact cS | exact cP | exact cA | rfl) (by rfl) (by exact ones_of rfl) (by exact Nat.le_of_ble_eq_true rfl) (by simp only [splice, List.set_cons_succ, List.set_cons_zero]; rfl) ?_; clear M; intro ww M; simp only [p0, p1, p2, p3, p4, Nat.reduceAdd]) | ((with_reducible refine wl_at ⟨some _, .buildSlice _ _ _, _, _, _, _⟩ ?_); refine al_bsh M rfl rfl rfl (by first | exact h1v | exact h2v | exact h3v | exact h4v) rfl rfl ?_; clear M; intro bb ww M; simp only [p0, p1, p2, p3, p4, Nat.reduceAdd]) | ((with_reducible refine wl_at ⟨some _, .buildSlice _ _ _, _, _, _, _⟩ ?_); refine al_bsl M rfl rfl rfl rfl rfl rfl (by first | exact f1I | exact f2I | exact f1S | exact f2S | exact f3S | exact f1P | exact f1N | exact f2N | exact f4N | exact f5N | exact f2A | exact f1A) ?_; clear M; intro bb ww M; simp only [p0, p1, p2, p3, p4, Nat.reduceAdd]) | fail)
  go_loopw [5, 12] (fun x i wr => ∃ k : Nat, k ≤ n ∧ i = .int .i64 k ∧ x = .int .i64 (beVal (g.take k)) ∧ wr = w1) (fun _ i _ => n - (intOf i).toNat)
  case atStart => exact ⟨0, Nat.zero_le _, rfl, rfl, rfl⟩
  case round =>
    obtain ⟨k, hk, rfl, rfl, rfl⟩ := hrel
    by_cases hlt : k < n
    · obtain ⟨b0, o0, rfl⟩ := HB.out.solid' (by have := HG.out; omega)
      have hc := HB.out.at_ k (by have := HG.out; omega)
      have hs := beVal_snoc (g.take k) (g[k]'(by rw [HG.out]; exact hlt))
      rw [← List.take_succ_eq_append_getElem (by have := HG.out; omega)] at hs
      have hb : beVal (g.take k) < 36028797018963968 := by
        have h1 := beVal_lt (g.take k)
        rw [List.length_take] at h1
        have h2 : 256 ^ min k g.length ≤ 256 ^ 6 := Nat.pow_le_pow_right (by decide) (by omega)
        have h3 : (256 : Nat) ^ 6 = 281474976710656 := by decide
        omega
      generalize g[k]'(by rw [HG.out]; exact hlt) = c0 at *
      have ho := or_byte (beVal (g.take k)) c0 hb
      rw [← hs] at ho
      have hc' := c0.toNat_lt
      have HO := Lib.hid ho
      have HC := Lib.hid (show wr.rangeAt b0 (o0 + k) [.int .u8 c0.toNat] from range1 hc)
      generalize beVal (g.take k) = y at *
      clear hs ho hc
      go_wp2_with (first | ((with_reducible refine wl_at ⟨some 15, .load _ _, _, _, _, _⟩ ?_); refine al_ldr M rfl rfl rfl (HC.out) rfl (.inr ⟨rfl, rfl, rfl⟩) ?_; simp only [p0, p1, p2, p3, p4, Nat.reduceAdd]) | fail)
      refine ⟨⟨k + 1, by omega, by go_num, by first | exact congrArg (Value.int .i64) HO.out | (rw [HO.out]), trivial⟩, by simp [intOf]; omega⟩
    · obtain rfl : k = n := by omega
      rw [List.take_of_length_le (by have := HG.out; omega)]
      go_wp2_with (fail)
      go_ret
      exact ⟨rfl, v', HR.out, M.keep, HO.out⟩
theorem RdAt.kp {w w' : World} {br : Nat} {r : Rd} {v : Value} (h : RdAt w br r v) (hk : Below w.heap.size w w') : RdAt w' br r v :=
  ⟨(pts _ _ _).loc h.var fun k hk' => hk.block k ((pts _ _ _).lt h.var k hk'), h.bytes.below hk, fun k hk' => ⟨Nat.lt_of_lt_of_le (h.off k hk').1 hk.size, (h.off k hk').2⟩⟩
def RdPost (br : Nat) (r : Rd) (v : Value) (u : Value) (w : World) (e : Ending) (w' : World) : Prop :=
  e = .returned u ∧ ∃ v', RdAt w' br r v' ∧ Kp (fun k => k = br) w w' ∧ ∀ k, v'.ownBlock = some k → v.ownBlock = some k
set_option maxHeartbeats 1600000 in
set_option maxRecDepth 100000 in
theorem rhash_any (w : World) (br : Nat) (r : Rd) (v : Value) (h : RdAt w br r v) : Calls Tryz.prog 21 #[ptr br 0] w (RdPost br (r.left 32) v (hv (r.got 32)) w) := by
  have HH := Lib.hid h
  have hbr : br < w.heap.size := (pts _ _ _).lt h.var br rfl
  clear h
  obtain ⟨g, hg⟩ : ∃ g, r.got 32 = g := ⟨_, rfl⟩
  haveI hgl : H32 g := ⟨by rw [← hg]; exact r.got_length 32⟩
  rw [hg]
  have HG0 := Lib.hid hg
  clear hg
  have M := Sep.start (fun _ => False) w
  unfold hv
  go_enter Tryz.func21, Tryz.ntmps21
  go_wp2_with (first | ((with_reducible refine wl_at ⟨some _, .load _ _, _, _, _, _⟩ ?_); refine al_ld M rfl rfl rfl (by first | exact .one rfl | exact .two rfl rfl | exact ldH | exact .all rfl | exact ldRoot _) ?_; simp only [p0, p1, p2, p3, p4, Nat.reduceAdd]) | ((with_reducible refine wl_at ⟨some _, .alloc _, _, _, _, _⟩ ?_); refine al_alloc M rfl rfl ?_; clear M; intro bb ww M; simp only [p0, p1, p2, p3, p4, Nat.reduceAdd]) | ((with_reducible refine wl_at ⟨some _, .box _ _, _, _, _, _⟩ ?_); refine al_box M rfl rfl rfl (by first | exact cI | exact cB | exact cS | exact cP | exact cA | rfl) ?_; clear M; intro bb ww M; simp only [p0, p1, p2, p3, p4, Nat.reduceAdd]) | ((with_reducible refine wl_at ⟨_, .store _ _ _, _, _, _, _⟩ ?_); refine al_sh M rfl rfl rfl rfl (by first | rfl | exact Blob.len) ?_; clear M; intro ww M; simp only [p0, p1, p2, p3, p4, Nat.reduceAdd]) | ((with_reducible refine wl_at ⟨_, .store _ _ _, _, _, _, _⟩ ?_); refine al_st M rfl rfl rfl rfl (by first | exact cI | exact cB | exact cS | exact cP | exact cA | rfl) (by rfl) (by exact ones_of rfl) (by exact Nat.le_of_ble_eq_true rfl) (by simp only [splice, List.set_cons_succ, List.set_cons_zero]; rfl) ?_; clear M; intro ww M; simp only [p0, p1, p2, p3, p4, Nat.reduceAdd]) | ((with_reducible refine wl_at ⟨some _, .buildSlice _ _ _, _, _, _, _⟩ ?_); refine al_bsh M rfl rfl rfl (by first | exact h1v | exact h2v | exact h3v | exact h4v) rfl rfl ?_; clear M; intro bb ww M; simp only [p0, p1, p2, p3, p4, Nat.reduceAdd]) | ((with_reducible refine wl_at ⟨some _, .buildSlice _ _ _, _, _, _, _⟩ ?_); refine al_bsl M rfl rfl rfl rfl rfl rfl (by first | exact f1I | exact f2I | exact f1S | exact f2S | exact f3S | exact f1P | exact f1N | exact f2N | exact f4N | exact f5N | exact f2A | exact f1A) ?_; clear M; intro bb ww M; simp only [p0, p1, p2, p3, p4, Nat.reduceAdd]) | fail)
  refine Calls.mono (take_any ww br r v 32 (HH.out.kp M.out) (by omega) (by omega)) ?_
  rintro e w1 ⟨v1, v', rfl, hb, hr, hk, ho, ho'⟩
  rw [HG0.out] at hb
  obtain ⟨ao, c, rfl⟩ := hb.form
  rw [hgl.len] at hb ⊢
  obtain ⟨b0, o0, rfl⟩ := hb.solid' (by omega)
  have hbb : bb ≠ br := fun e => by have := (M.own _ (.head _) bb rfl).resolve_left id; omega
  have hrg : w1.rangeAt b0 o0 (bcs g) := (show Sl w1 1 (.slice (some ⟨b0, o0, none⟩) 32 c) 32 (bcs g) from by have h := hb; unfold Bs at h; rwa [hgl.len] at h).range
  have M0 := M
  have hk1 : Kp (fun k => k = br) w w1 := (M0.keep.mono fun _ h => h.elim).trans hk
  replace M : Sep (fun k => k = br) w w1 [pts bb 30 (List.replicate 32 (.int .u8 0)), pts br 58 [v', .bool (r.left 32).bad]] := by
    refine ⟨hk1, fun A hA => ?_, ?_, fun A hA k hk' => ?_⟩
    · simp at hA
      rcases hA with rfl | rfl
      · exact (pts _ _ _).loc (M0.get 0 rfl) fun k hk' => hk.block k ((pts _ _ _).lt (M0.get 0 rfl) k hk') (by rw [show k = bb from hk']; exact hbb)
      · exact hr.var
    · simp [pts]; exact hbb
    · simp at hA
      rcases hA with rfl | rfl
      · exact .inr ((M0.own _ (.head _) k hk').resolve_left id)
      · exact .inl hk'
  have HK1 := Lib.hid hk1
  have HRG := Lib.hid hrg
  have HR := Lib.hid hr
  have HO := Lib.hid ho
  have harr : ∀ w : World, (Instr.arrayAt 30 (.slice (some ⟨b0, o0, none⟩) 32 c)).run Tryz.prog w = .ok (.pointer (some ⟨b0, o0, none⟩)) w := fun _ => by kernel_rfl
  clear hb hrg hr ho ho' hk M0 hk1
  go_wp2_with (first | ((with_reducible refine wl_at ⟨some 6, .load _ _, _, _, _, _⟩ ?_); refine al_ldr M rfl rfl rfl HRG.out Blob.len (.inl ⟨rfl, rfl⟩) ?_; simp only [p0, p1, p2, p3, p4, Nat.reduceAdd]) | ((with_reducible refine wl_at ⟨some _, .load _ _, _, _, _, _⟩ ?_); refine al_ld M rfl rfl rfl (by first | exact .one rfl | exact .two rfl rfl | exact ldH | exact .all rfl | exact ldRoot _) ?_; simp only [p0, p1, p2, p3, p4, Nat.reduceAdd]) | ((with_reducible refine wl_at ⟨some _, .alloc _, _, _, _, _⟩ ?_); refine al_alloc M rfl rfl ?_; clear M; intro bb ww M; simp only [p0, p1, p2, p3, p4, Nat.reduceAdd]) | ((with_reducible refine wl_at ⟨some _, .box _ _, _, _, _, _⟩ ?_); refine al_box M rfl rfl rfl (by first | exact cI | exact cB | exact cS | exact cP | exact cA | rfl) ?_; clear M; intro bb ww M; simp only [p0, p1, p2, p3, p4, Nat.reduceAdd]) | ((with_reducible refine wl_at ⟨_, .store _ _ _, _, _, _, _⟩ ?_); refine al_sh M rfl rfl rfl rfl (by first | rfl | exact Blob.len) ?_; clear M; intro ww M; simp only [p0, p1, p2, p3, p4, Nat.reduceAdd]) | ((with_reducible refine wl_at ⟨_, .store _ _ _, _, _, _, _⟩ ?_); refine al_st M rfl rfl rfl rfl (by first | exact cI | exact cB | exact cS | exact cP | exact cA | rfl) (by rfl) (by exact ones_of rfl) (by exact Nat.le_of_ble_eq_true rfl) (by simp only [splice, List.set_cons_succ, List.set_cons_zero]; rfl) ?_; clear M; intro ww M; simp only [p0, p1, p2, p3, p4, Nat.reduceAdd]) | ((with_reducible refine wl_at ⟨some _, .buildSlice _ _ _, _, _, _, _⟩ ?_); refine al_bsh M rfl rfl rfl (by first | exact h1v | exact h2v | exact h3v | exact h4v) rfl rfl ?_; clear M; intro bb ww M; simp only [p0, p1, p2, p3, p4, Nat.reduceAdd]) | ((with_reducible refine wl_at ⟨some _, .buildSlice _ _ _, _, _, _, _⟩ ?_); refine al_bsl M rfl rfl rfl rfl rfl rfl (by first | exact f1I | exact f2I | exact f1S | exact f2S | exact f3S | exact f1P | exact f1N | exact f2N | exact f4N | exact f5N | exact f2A | exact f1A) ?_; clear M; intro bb ww M; simp only [p0, p1, p2, p3, p4, Nat.reduceAdd]) | fail)
  have hR : RdAt ww br (r.left 32) v' := ⟨M.get 1 rfl, HR.out.bytes.move fun k hk hlt => by
      have h1 := HH.out.off k (HO.out k hk)
      rw [M.keep.block k h1.1 h1.2, HK1.out.block k h1.1 h1.2], fun k hk => ⟨Nat.lt_of_lt_of_le (HH.out.off k (HO.out k hk)).1 M.keep.size, (HH.out.off k (HO.out k hk)).2⟩⟩
  exact ret_hvar rfl rfl (M.get 0 rfl) hgl.len rfl ⟨rfl, v', hR, M.keep, HO.out⟩
set_option maxHeartbeats 1600000 in
set_option maxRecDepth 100000 in
theorem rbad_any (w : World) (br : Nat) (r : Rd) (v : Value) (h : RdAt w br r v) : Calls Tryz.prog 20 #[ptr br 0] w fun e w' => e = .returned (.bool r.bad) ∧ w = w' := by
  have M := Sep.start (fun _ => False) w
  have HV := Lib.hid h.var
  clear h
  go_enter Tryz.func20, Tryz.ntmps20
  go_wp2_with (first | ((with_reducible refine wl_at ⟨some _, .load _ _, _, _, _, _⟩ ?_); refine al_ldo M HV.out id rfl rfl rfl (by first | exact .one rfl | exact .two rfl rfl | exact ldH | exact .all rfl | exact ldRoot _) ?_; simp only [p0, p1, p2, p3, p4, Nat.reduceAdd]) | fail)
  go_ret
  exact ⟨rfl, rfl⟩
set_option maxHeartbeats 1600000 in
set_option maxRecDepth 100000 in
theorem rdone_any (w : World) (br : Nat) (r : Rd) (v : Value) (h : RdAt w br r v) : Calls Tryz.prog 9 #[ptr br 0] w fun e w' => e = .returned (.bool (!r.bad && r.l.isEmpty)) ∧ w = w' := by
  have M := Sep.start (fun _ => False) w
  obtain ⟨ao, c, rfl⟩ := h.bytes.form
  have HV := Lib.hid h.var
  clear h
  obtain ⟨l, bad⟩ := r
  cases bad with
  | true =>
    go_enter Tryz.func9, Tryz.ntmps9
    go_wp2_with (first | ((with_reducible refine wl_at ⟨some _, .load _ _, _, _, _, _⟩ ?_); refine al_ldo M HV.out id rfl rfl rfl (by first | exact .one rfl | exact .two rfl rfl | exact ldH | exact .all rfl | exact ldRoot _) ?_; simp only [p0, p1, p2, p3, p4, Nat.reduceAdd]) | fail)
    go_ret
    exact ⟨rfl, rfl⟩
  | false =>
    rcases l with _ | ⟨x, l⟩
    · go_enter Tryz.func9, Tryz.ntmps9
      go_wp2_with (first | ((with_reducible refine wl_at ⟨some _, .load _ _, _, _, _, _⟩ ?_); refine al_ldo M HV.out id rfl rfl rfl (by first | exact .one rfl | exact .two rfl rfl | exact ldH | exact .all rfl | exact ldRoot _) ?_; simp only [p0, p1, p2, p3, p4, Nat.reduceAdd]) | fail)
      go_ret
      exact ⟨rfl, rfl⟩
    · have hz : ¬ ((l.length + 1 : Nat) : Int) = 0 := by omega
      go_enter Tryz.func9, Tryz.ntmps9
      go_wp2_with (first | ((with_reducible refine wl_at ⟨some _, .load _ _, _, _, _, _⟩ ?_); refine al_ldo M HV.out id rfl rfl rfl (by first | exact .one rfl | exact .two rfl rfl | exact ldH | exact .all rfl | exact ldRoot _) ?_; simp only [p0, p1, p2, p3, p4, Nat.reduceAdd]) | fail)
      go_ret
      exact ⟨by simp; omega, rfl⟩
/-! ### A reader as a piece; its bytes lie in memory that was there, and stay -/
def rdA (w0 : World) (W : Nat → Prop) (br : Nat) (r : Rd) : Asn where
  fp k := k = br
  holds w := ∃ v, (pts br 58 [v, .bool r.bad]).holds w ∧ Bs w0 v r.l ∧ ∀ k, v.ownBlock = some k → k < w0.heap.size ∧ ¬ W k
  loc {w w'} h hk := by
    obtain ⟨v, h1, h2⟩ := h
    exact ⟨v, (pts _ _ _).loc h1 hk, h2⟩
  lt h k hk := by
    obtain ⟨v, h1, h2⟩ := h
    exact (pts _ _ _).lt h1 k hk
section
variable {W : Nat → Prop} {w0 w : World} {L : List Asn} {br : Nat} {r : Rd}
theorem rd_at (M : Sep W w0 w L) (hm : rdA w0 W br r ∈ L) : ∃ v, RdAt w br r v ∧ Bs w0 v r.l ∧ ∀ k, v.ownBlock = some k → k < w0.heap.size ∧ ¬ W k := by
  obtain ⟨v, h1, h2, h3⟩ := M.holds _ hm
  have hb := M.own _ hm br rfl
  refine ⟨v, ⟨h1, h2.kp M.keep fun k hk => (h3 k hk).2, fun k hk => ⟨Nat.lt_of_lt_of_le (h3 k hk).1 M.keep.size, fun e => ?_⟩⟩, h2, h3⟩
  obtain ⟨h4, h5⟩ := h3 k hk
  subst e
  rcases hb with h | h
  · exact h5 h
  · omega
theorem rd_post {r' : Rd} {v u : Value} {e : Ending} {w' : World} (M : Sep W w0 w L) (hm : rdA w0 W br r ∈ L) (h3 : ∀ k, v.ownBlock = some k → k < w0.heap.size ∧ ¬ W k) (h : RdPost br r' v u w e w') : CPost (fun _ => rdA w0 W br r') (fun k => k = br) u w e w' := by
  obtain ⟨rfl, v', h1, h2, h4⟩ := h
  have hb := M.own _ hm br rfl
  refine ⟨rfl, fun k => k = br, h2, ⟨v', h1.var, ?_, fun k hk => h3 k (h4 k hk)⟩, fun k hk => .inl hk⟩
  refine h1.bytes.move fun k hk _ => ?_
  obtain ⟨h5, h6⟩ := h3 k (h4 k hk)
  have hne : k ≠ br := fun e => by subst e; exact hb.elim h6 fun h => by omega
  rw [h2.block k (Nat.lt_of_lt_of_le h5 M.keep.size) hne, M.keep.block k h5 h6]
theorem rd_int (M : Sep W w0 w L) (hm : rdA w0 W br r ∈ L) (n : Nat) (h1 : 1 ≤ n) (hn : n ≤ 7) : Calls Tryz.prog 19 #[ptr br 0, .int .i64 n] w (CPost (fun _ => rdA w0 W br (r.left n)) (fun k => k = br) (.int .i64 (beVal (r.got n))) w) := by
  obtain ⟨v, h, _, h3⟩ := rd_at M hm
  exact (rint_any w br r v n h h1 hn).mono fun _ _ hp => rd_post M hm h3 hp
theorem rd_hash (M : Sep W w0 w L) (hm : rdA w0 W br r ∈ L) : Calls Tryz.prog 21 #[ptr br 0] w (CPost (fun _ => rdA w0 W br (r.left 32)) (fun k => k = br) (hv (r.got 32)) w) := by
  obtain ⟨v, h, _, h3⟩ := rd_at M hm
  exact (rhash_any w br r v h).mono fun _ _ hp => rd_post M hm h3 hp
theorem rd_bad (M : Sep W w0 w L) (hm : rdA w0 W br r ∈ L) : Calls Tryz.prog 20 #[ptr br 0] w fun e w' => e = .returned (.bool r.bad) ∧ w = w' := by
  obtain ⟨v, h, _, h3⟩ := rd_at M hm
  exact rbad_any w br r v h
theorem rd_done (M : Sep W w0 w L) (hm : rdA w0 W br r ∈ L) : Calls Tryz.prog 9 #[ptr br 0] w fun e w' => e = .returned (.bool (!r.bad && r.l.isEmpty)) ∧ w = w' := by
  obtain ⟨v, h, _, h3⟩ := rd_at M hm
  exact rdone_any w br r v h
end
/-- The hashes that are read. -/
def rdHs : Nat → Rd → List (List UInt8) → List (List UInt8) × Rd
  | 0, r, out => (out, r)
  | k + 1, r, out => if r.bad then ([], r) else rdHs k (r.left 32) (out ++ [r.got 32])
instance (r : Rd) : H32 (r.got 32) := ⟨r.got_length 32⟩
theorem sep_of_rd {W : Nat → Prop} {w0 w : World} {br : Nat} {r : Rd} (hk : Kp W w0 w) (h : (rdA w0 W br r).holds w) (hb : W br ∨ w0.heap.size ≤ br) : Sep W w0 w [rdA w0 W br r] :=
  ⟨hk, by simpa using h, by simp, fun A hA k hk => by obtain rfl := List.mem_singleton.1 hA; rw [show k = br from hk]; exact hb⟩
def HsPost (w0 : World) (W : Nat → Prop) (br : Nat) (r : Rd) (w : World) (e : Ending) (w' : World) : Prop :=
  ∃ v, e = .returned v ∧ (rowA 30 32 v (rdHs (beVal (r.got 1)) (r.left 1) []).1.length (hcs (rdHs (beVal (r.got 1)) (r.left 1) []).1)).holds w' ∧ (∀ k, v.ownBlock = some k → w.heap.size ≤ k) ∧ Kp (fun k => k = br) w w' ∧ (rdA w0 W br (rdHs (beVal (r.got 1)) (r.left 1) []).2).holds w'
set_option maxHeartbeats 1600000 in
set_option maxRecDepth 100000 in
theorem rhashes_any {W : Nat → Prop} {w0 : World} {br : Nat} {r : Rd} (w : World) (hk0 : Kp W w0 w) (hR : (rdA w0 W br r).holds w) (hbr : W br ∨ w0.heap.size ≤ br) : Calls Tryz.prog 8 #[ptr br 0] w (HsPost w0 W br r w) := by
  have M : Sep (fun k => k = br) w w [rdA w0 W br r] := ⟨Kp.refl _ _, by simpa using hR, by simp, fun A hA k hk => by obtain rfl := List.mem_singleton.1 hA; exact .inl hk⟩
  have HK0 := Lib.hid hk0
  have HBR := Lib.hid hbr
  have hS : ∀ (w1 : World) (L : List Asn), Sep (fun k => k = br) w w1 L → ∀ r' : Rd, rdA w0 W br r' ∈ L → Sep W w0 w1 [rdA w0 W br r'] := fun w1 L M1 r' hm => by
    refine sep_of_rd ⟨M1.keep.os.trans hk0.os, M1.keep.tape.trans hk0.tape, M1.keep.output.trans hk0.output, Nat.le_trans hk0.size M1.keep.size, fun k hk hn => ?_⟩ (M1.holds _ hm) hbr
    rw [M1.keep.block k (Nat.lt_of_lt_of_le hk hk0.size) fun e => by subst e; exact hbr.elim hn fun h => by omega, hk0.block k hk hn]
  have HS := Lib.hid hS
  clear hk0 hbr hS hR
  have hn256 : beVal (r.got 1) < 256 := by have := beVal_lt (r.got 1); rwa [r.got_length] at this
  unfold HsPost
  obtain ⟨n, hn⟩ : ∃ n, beVal (r.got 1) = n := ⟨_, rfl⟩
  rw [hn] at hn256 ⊢
  have HN := Lib.hid hn
  clear hn
  obtain ⟨res, hres⟩ : ∃ res, rdHs n (r.left 1) [] = res := ⟨_, rfl⟩
  rw [hres]
  have HRES := Lib.hid hres
  clear hres
  go_enter Tryz.func8, Tryz.ntmps8
  go_wp2_with (fail)
  refine Calls.mono (rd_int (HS.out _ _ M _ (.head _)) (.head _) 1 (by omega) (by omega)) ?_
  rw [HN.out]
  rintro e w1 ⟨rfl, F1, hk, hT, hf⟩
  replace M := M.repl .head hk hT (fun k hk => .inl hk)
  clear hk hT hf
  go_wp2_with (fail)
  replace M := M.add (Below.refl _ _) (rowA 30 32 (.slice none 0 0) 0 []) (rowA_nil _ _ _) rowA_nofp
  go_loopw [3, 6] (fun v i wr => ∃ k : Nat, k ≤ n ∧ i = .int .i64 k ∧ ∃ out r1 ao c, v = .slice ao k c ∧ out.length = k ∧ H32s out ∧ rdHs (n - k) r1 out = res ∧ Sep (fun k => k = br) w wr [rowA 30 32 (.slice ao k c) k (hcs out), rdA w0 W br r1]) (fun _ i _ => n - (intOf i).toNat)
  case atStart => exact ⟨0, Nat.zero_le _, rfl, [], r.left 1, _, _, rfl, rfl, ⟨by simp⟩, HRES.out, M⟩
  case round =>
    clear M
    obtain ⟨k, hk, rfl, out, r1, ao, c, rfl, hol, h32, hrs, M⟩ := hrel
    have HOL := Lib.hid hol
    clear hol
    by_cases hlt : k < n
    · rw [show n - k = (n - (k + 1)) + 1 by omega, rdHs] at hrs
      obtain ⟨bad, hbad⟩ : ∃ bad, r1.bad = bad := ⟨_, rfl⟩
      have hb := rd_bad (HS.out _ _ M _ (.tail _ (.head _))) (.head _)
      rw [hbad] at hb hrs
      have HB := Lib.hid hb
      have HRS := Lib.hid hrs
      have HBAD := Lib.hid hbad
      clear hb hrs hbad
      cases bad with
      | true =>
        go_wp2_with (first | ((with_reducible refine Calls.mono HB.out ?_); rintro e ww ⟨rfl, rfl⟩) | fail)
        go_ret
        refine ⟨.slice none 0 0, rfl, ?_⟩
        have hre : res = ([], r1) := by have := HRS.out; simpa using this.symm
        rw [hre]
        exact ⟨rowA_nil _ _ _, (fun k hk => by cases hk), M.keep, M.get 1 rfl⟩
      | false =>
        go_wp2_with (first | ((with_reducible refine Calls.mono HB.out ?_); rintro e ww ⟨rfl, rfl⟩) | fail)
        refine Calls.mono (rd_hash (HS.out _ _ M _ (.tail _ (.head _))) (.head _)) ?_
        rintro e w2 ⟨rfl, F1, hk2, hT, hf⟩
        replace M := M.repl (.tail .head) hk2 hT (fun k hk => .inl hk)
        clear hk2 hT hf
        unfold hv
        go_wp2_with (first | ((with_reducible refine wl_at ⟨some _, .load _ _, _, _, _, _⟩ ?_); refine al_ld M rfl rfl rfl (by first | exact .one rfl | exact .two rfl rfl | exact ldH | exact .all rfl | exact ldRoot _) ?_; simp only [p0, p1, p2, p3, p4, Nat.reduceAdd]) | ((with_reducible refine wl_at ⟨some _, .alloc _, _, _, _, _⟩ ?_); refine al_alloc M rfl rfl ?_; clear M; intro bb ww M; simp only [p0, p1, p2, p3, p4, Nat.reduceAdd]) | ((with_reducible refine wl_at ⟨some _, .box _ _, _, _, _, _⟩ ?_); refine al_box M rfl rfl rfl (by first | exact cI | exact cB | exact cS | exact cP | exact cA | rfl) ?_; clear M; intro bb ww M; simp only [p0, p1, p2, p3, p4, Nat.reduceAdd]) | ((with_reducible refine wl_at ⟨_, .store _ _ _, _, _, _, _⟩ ?_); refine al_sh M rfl rfl rfl rfl (by first | rfl | exact Blob.len) ?_; clear M; intro ww M; simp only [p0, p1, p2, p3, p4, Nat.reduceAdd]) | ((with_reducible refine wl_at ⟨_, .store _ _ _, _, _, _, _⟩ ?_); refine al_st M rfl rfl rfl rfl (by first | exact cI | exact cB | exact cS | exact cP | exact cA | rfl) (by rfl) (by exact ones_of rfl) (by exact Nat.le_of_ble_eq_true rfl) (by simp only [splice, List.set_cons_succ, List.set_cons_zero]; rfl) ?_; clear M; intro ww M; simp only [p0, p1, p2, p3, p4, Nat.reduceAdd]) | ((with_reducible refine wl_at ⟨some _, .buildSlice _ _ _, _, _, _, _⟩ ?_); refine al_bsh M rfl rfl rfl (by first | exact h1v | exact h2v | exact h3v | exact h4v) rfl rfl ?_; clear M; intro bb ww M; simp only [p0, p1, p2, p3, p4, Nat.reduceAdd]) | ((with_reducible refine wl_at ⟨some _, .buildSlice _ _ _, _, _, _, _⟩ ?_); refine al_bsl M rfl rfl rfl rfl rfl rfl (by first | exact f1I | exact f2I | exact f1S | exact f2S | exact f3S | exact f1P | exact f1N | exact f2N | exact f4N | exact f5N | exact f2A | exact f1A) ?_; clear M; intro bb ww M; simp only [p0, p1, p2, p3, p4, Nat.reduceAdd]) | ((with_reducible refine wl_at ⟨some _, .call _, _, _, _, _⟩ ?_); refine al_app M rfl rfl rfl rfl rfl rfl (by first | rfl | exact Blob.len | exact hcs_length _ H32s.all) rfl rfl (by first | exact ones_of rfl | exact ones_bcs _ | exact ones_hcs _ | exact Blob.one) (by first | decide | omega) ?_; clear M; intro ao cc ww M; simp only [p0, p1, p2, p3, p4, Nat.reduceAdd]) | fail)
        have hrs : rdHs (n - (k + 1)) (r1.left 32) (out ++ [r1.got 32]) = res := by have := HRS.out; simpa using this
        refine ⟨⟨k + 1, by omega, by go_num, out ++ [r1.got 32], r1.left 32, _, _, rfl, by rw [List.length_append, HOL.out]; rfl, inferInstance, hrs, ?_⟩, by simp [intOf]; omega⟩
        exact (M.sub (.cons _ (.refl _))).as (by simp [hcs])
    · obtain rfl : k = n := by omega
      rw [Nat.sub_self] at hrs
      go_wp2_with (fail)
      go_ret
      refine ⟨.slice ao k c, rfl, ?_⟩
      have : res = (out, r1) := hrs.symm
      rw [this]
      refine ⟨by rw [HOL.out]; exact M.get 0 rfl, fun j hj => ?_, M.keep, M.get 1 rfl⟩
      rcases M.own _ (.head _) j hj with h | h
      · exact absurd h fun e => (List.pairwise_cons.1 M.disj).1 _ (.head _) j hj e
      · exact h
end Go.Proofs.YtbenjjaofabdcaaGreatDoor
