/-
  paciolilaw13.list; paciolilaw13.ProofHashes.
-/
import Derived.Test.YtbenjjaofabdcaaGreatDoorRd2
import Derived.Test.YtbenjjaofabdcaaGreatDoorFit13
namespace Go.Proofs.YtbenjjaofabdcaaGreatDoor
open Go Go.RowKit

def ListPost (v : Value) (l : List UInt8) (w : World) (e : Ending) (w' : World) : Prop :=
  ∃ v', e = .returned v' ∧ (rowA 5 1 v' l.length (bcs l)).holds w' ∧ Kp (fun k => v.ownBlock = some k) w w' ∧ ∀ k, v'.ownBlock = some k → v.ownBlock = some k ∨ w.heap.size ≤ k
set_option maxHeartbeats 1600000 in
set_option maxRecDepth 100000 in
theorem list_any (w : World) (v0 : Value) (l : List UInt8) (h0 : (rowA 5 1 v0 l.length (bcs l)).holds w) (hl : l.length ≤ 1073741824) (v : Value) (hs : List (List UInt8)) (hx : Sl w 32 v hs.length (hcs hs)) [h32 : H32s hs] (hn : hs.length ≤ 1048576) (hv : ∀ k, v.ownBlock = some k → v0.ownBlock ≠ some k) :
    Calls Tryz.prog 7 #[v0, v] w (ListPost v0 (l ++ [UInt8.ofNat (hs.length % 256)] ++ hs.flatten) w) := by
  obtain ⟨a0, c0, rfl⟩ := rowA.form h0
  obtain ⟨ao, c, rfl⟩ := hx.form
  have M : Sep (fun k => (Value.slice a0 l.length c0).ownBlock = some k) w w _ := Sep.one h0
  have HX := Lib.hid hx
  have HV := Lib.hid hv
  clear hx hv h0
  have hlen : (hs.length : Int) % 256 = ((hs.length % 256 : Nat) : Int) := by omega
  go_enter Tryz.func7, Tryz.ntmps7
  go_wp2_with (first | ((with_reducible refine wl_at ⟨some _, .load _ _, _, _, _, _⟩ ?_); refine al_ld M rfl rfl rfl (by first | exact .one rfl | exact .two rfl rfl | exact ldH | exact .all rfl | exact ldRoot _) ?_; simp only [p0, p1, p2, p3, p4, Nat.reduceAdd]) | ((with_reducible refine wl_at ⟨some _, .alloc _, _, _, _, _⟩ ?_); refine al_alloc M rfl rfl ?_; clear M; intro bb ww M; simp only [p0, p1, p2, p3, p4, Nat.reduceAdd]) | ((with_reducible refine wl_at ⟨some _, .box _ _, _, _, _, _⟩ ?_); refine al_box M rfl rfl rfl (by first | exact cI | exact cB | exact cS | exact cP | exact cA | rfl) ?_; clear M; intro bb ww M; simp only [p0, p1, p2, p3, p4, Nat.reduceAdd]) | ((with_reducible refine wl_at ⟨_, .store _ _ _, _, _, _, _⟩ ?_); refine al_sh M rfl rfl rfl rfl (by first | rfl | exact Blob.len) ?_; clear M; intro ww M; simp only [p0, p1, p2, p3, p4, Nat.reduceAdd]) | ((with_reducible refine wl_at ⟨_, .store _ _ _, _, _, _, _⟩ ?_); refine al_st M rfl rfl rfl rfl (by first | exact cI | exact cB | exact cS | exact cP | exact cA | rfl) (by rfl) (by exact ones_of rfl) (by exact Nat.le_of_ble_eq_true rfl) (by simp only [splice, List.set_cons_succ, List.set_cons_zero]; rfl) ?_; clear M; intro ww M; simp only [p0, p1, p2, p3, p4, Nat.reduceAdd]) | ((with_reducible refine wl_at ⟨some _, .buildSlice _ _ _, _, _, _, _⟩ ?_); refine al_bsh M rfl rfl rfl (by first | exact h1v | exact h2v | exact h3v | exact h4v) rfl rfl ?_; clear M; intro bb ww M; simp only [p0, p1, p2, p3, p4, Nat.reduceAdd]) | ((with_reducible refine wl_at ⟨some _, .buildSlice _ _ _, _, _, _, _⟩ ?_); refine al_bsl M rfl rfl rfl rfl rfl rfl (by first | exact f1I | exact f2I | exact f1S | exact f2S | exact f3S | exact f1P | exact f1N | exact f2N | exact f4N | exact f5N | exact f2A | exact f1A) ?_; clear M; intro bb ww M; simp only [p0, p1, p2, p3, p4, Nat.reduceAdd]) | ((with_reducible refine wl_at ⟨some _, .call _, _, _, _, _⟩ ?_); refine al_app M rfl rfl rfl rfl rfl rfl (by first | rfl | exact Blob.len | exact hcs_length _ H32s.all) rfl rfl (by first | exact ones_of rfl | exact ones_bcs _ | exact ones_hcs _ | exact Blob.one) (by first | decide | omega) ?_; clear M; intro ao cc ww M; simp only [p0, p1, p2, p3, p4, Nat.reduceAdd]) | fail)
  have e0 : bcs l ++ [Value.int .u8 ((hs.length : Int) % 256)] = bcs (l ++ [UInt8.ofNat (hs.length % 256)] ++ (hs.take 0).flatten) := by
    rw [u8c_mod]; simp [bcs]
  go_loopw [0, 15] (fun v i wr => ∃ k : Nat, k ≤ hs.length ∧ i = .int .i64 k ∧ ∃ a1 c1 n1, v = .slice a1 n1 c1 ∧ n1 = l.length + 1 + 32 * k ∧ Sep (fun k => (Value.slice a0 l.length c0).ownBlock = some k) w wr [rowA 5 1 (.slice a1 n1 c1) n1 (bcs (l ++ [UInt8.ofNat (hs.length % 256)] ++ (hs.take k).flatten))]) (fun _ i _ => hs.length - (intOf i).toNat)
  case atStart => exact ⟨0, Nat.zero_le _, rfl, _, _, _, rfl, rfl, (M.sel [1] rfl (by decide)).as (by rw [← e0])⟩
  case round =>
    clear M e0
    obtain ⟨k, hk, rfl, a1, c1, n1, rfl, hn1, M⟩ := hrel
    have HN1 := Lib.hid hn1
    have hb : (n1 + 32) * 1 ≤ 140737488355328 := by omega
    clear hn1
    by_cases hlt : k < hs.length
    · obtain ⟨b0, o0, rfl⟩ := HX.out.solid (by omega)
      have hr := range_kp (hcs_row HX.out h32.all k hlt) M.keep (fun h => HV.out b0 rfl h)
      have hfl : (hs.take (k + 1)).flatten = (hs.take k).flatten ++ hs[k] := by
        rw [List.take_succ_eq_append_getElem hlt, List.flatten_append]; simp
      haveI hx32 : H32 hs[k] := ⟨h32.all _ (List.getElem_mem hlt)⟩
      generalize hs[k] = x at *
      have HR := Lib.hid hr
      have HFL := Lib.hid hfl
      clear hr hfl
      go_wp2_with (first | ((with_reducible refine wl_at ⟨some 18, .load _ _, _, _, _, _⟩ ?_); refine al_ldr M rfl rfl rfl HR.out Blob.len (.inl ⟨rfl, rfl⟩) ?_; simp only [p0, p1, p2, p3, p4, Nat.reduceAdd]) | ((with_reducible refine wl_at ⟨some _, .load _ _, _, _, _, _⟩ ?_); refine al_ld M rfl rfl rfl (by first | exact .one rfl | exact .two rfl rfl | exact ldH | exact .all rfl | exact ldRoot _) ?_; simp only [p0, p1, p2, p3, p4, Nat.reduceAdd]) | ((with_reducible refine wl_at ⟨some _, .alloc _, _, _, _, _⟩ ?_); refine al_alloc M rfl rfl ?_; clear M; intro bb ww M; simp only [p0, p1, p2, p3, p4, Nat.reduceAdd]) | ((with_reducible refine wl_at ⟨some _, .box _ _, _, _, _, _⟩ ?_); refine al_box M rfl rfl rfl (by first | exact cI | exact cB | exact cS | exact cP | exact cA | rfl) ?_; clear M; intro bb ww M; simp only [p0, p1, p2, p3, p4, Nat.reduceAdd]) | ((with_reducible refine wl_at ⟨_, .store _ _ _, _, _, _, _⟩ ?_); refine al_sh M rfl rfl rfl rfl (by first | rfl | exact Blob.len) ?_; clear M; intro ww M; simp only [p0, p1, p2, p3, p4, Nat.reduceAdd]) | ((with_reducible refine wl_at ⟨_, .store _ _ _, _, _, _, _⟩ ?_); refine al_st M rfl rfl rfl rfl (by first | exact cI | exact cB | exact cS | exact cP | exact cA | rfl) (by rfl) (by exact ones_of rfl) (by exact Nat.le_of_ble_eq_true rfl) (by simp only [splice, List.set_cons_succ, List.set_cons_zero]; rfl) ?_; clear M; intro ww M; simp only [p0, p1, p2, p3, p4, Nat.reduceAdd]) | ((with_reducible refine wl_at ⟨some _, .buildSlice _ _ _, _, _, _, _⟩ ?_); refine al_bsh M rfl rfl rfl (by first | exact h1v | exact h2v | exact h3v | exact h4v) rfl rfl ?_; clear M; intro bb ww M; simp only [p0, p1, p2, p3, p4, Nat.reduceAdd]) | ((with_reducible refine wl_at ⟨some _, .buildSlice _ _ _, _, _, _, _⟩ ?_); refine al_bsl M rfl rfl rfl rfl rfl rfl (by first | exact f1I | exact f2I | exact f1S | exact f2S | exact f3S | exact f1P | exact f1N | exact f2N | exact f4N | exact f5N | exact f2A | exact f1A) ?_; clear M; intro bb ww M; simp only [p0, p1, p2, p3, p4, Nat.reduceAdd]) | ((with_reducible refine wl_at ⟨some _, .call _, _, _, _, _⟩ ?_); refine al_app M rfl rfl rfl rfl rfl rfl (by first | rfl | exact Blob.len | exact hcs_length _ H32s.all) rfl rfl (by first | exact ones_of rfl | exact ones_bcs _ | exact ones_hcs _ | exact Blob.one) (by first | decide | omega) ?_; clear M; intro ao cc ww M; simp only [p0, p1, p2, p3, p4, Nat.reduceAdd]) | fail)
      refine ⟨⟨k + 1, by omega, by go_num, _, _, n1 + 32, rfl, by have := HN1.out; omega, ?_⟩, by simp [intOf]; omega⟩
      exact (M.sel [1] rfl (by decide)).as (by simp only [HFL.out, bcs_append, List.append_assoc])
    · obtain rfl : k = hs.length := by omega
      rw [List.take_length] at M
      go_wp2_with (fail)
      go_ret
      refine ⟨.slice a1 n1 c1, rfl, ?_, M.keep, M.own _ (.head _)⟩
      have h := M.get 0 rfl
      have hl : (l ++ [UInt8.ofNat (hs.length % 256)] ++ hs.flatten).length = n1 := by have := h.1; rw [bcs_length] at this; omega
      rw [hl]
      exact h
/-- A piece is turned where it lies, and another one is made. -/
theorem Sep.replAdd {W : Nat → Prop} {w0 w w' : World} {L L' : List Asn} {A A' B : Asn} (M : Sep W w0 w L) (hr : Repl A A' L L') (hk : Kp A.fp w w') (hA : A'.holds w') (hf : ∀ k, A'.fp k → A.fp k) (hB : B.holds w') (hb : ∀ k, B.fp k → w.heap.size ≤ k) : Sep W w0 w' (B :: L') := by
  have M' := M.repl hr hk hA fun k hk => .inl (hf k hk)
  have hlt : ∀ C ∈ L', ∀ k, C.fp k → k < w.heap.size := by
    obtain ⟨i, h1, h2⟩ := hr.spec
    intro C hC k hkC
    subst h2
    rcases List.mem_or_eq_of_mem_set hC with h | h
    · exact C.lt (M.holds C h) k hkC
    · subst h; exact A.lt (M.holds A (List.mem_of_getElem? h1)) k (hf k hkC)
  refine ⟨M'.keep, fun C hC => ?_, List.pairwise_cons.2 ⟨fun C hC k h1 h2 => ?_, M'.disj⟩, fun C hC k hkC => ?_⟩
  · rcases List.mem_cons.1 hC with rfl | hC
    · exact hB
    · exact M'.holds C hC
  · have := hlt C hC k h2; have := hb k h1; omega
  · rcases List.mem_cons.1 hC with rfl | hC
    · exact .inr (Nat.le_trans M.keep.size (hb k hkC))
    · exact M'.own C hC k hkC
theorem rdHs_all (hs out : List (List UInt8)) (h32 : ∀ h ∈ hs, h.length = 32) : rdHs hs.length ⟨hs.flatten, false⟩ out = (out ++ hs, ⟨[], false⟩) := by
  induction hs generalizing out with
  | nil => simp [rdHs]
  | cons x r ih =>
    have hx : x.length = 32 := h32 x (by simp)
    have hs1 : (⟨(x :: r).flatten, false⟩ : Rd).short 32 = false := by simp [Rd.short, hx]
    have hg : (⟨(x :: r).flatten, false⟩ : Rd).got 32 = x := by unfold Rd.got; rw [if_neg (by rw [hs1]; simp)]; simp [← hx]
    have hl : (⟨(x :: r).flatten, false⟩ : Rd).left 32 = ⟨r.flatten, false⟩ := by unfold Rd.left; rw [if_neg (by rw [hs1]; simp)]; simp [← hx]
    rw [List.length_cons, rdHs, hg, hl, ih _ (fun h hm => h32 h (by simp [hm]))]
    simp
theorem rd_head (n : Nat) (hn : n < 256) (l : List UInt8) : beVal ((⟨UInt8.ofNat n :: l, false⟩ : Rd).got 1) = n ∧ (⟨UInt8.ofNat n :: l, false⟩ : Rd).left 1 = ⟨l, false⟩ := by
  have hs1 : (⟨UInt8.ofNat n :: l, false⟩ : Rd).short 1 = false := by simp [Rd.short]
  refine ⟨?_, ?_⟩
  · unfold Rd.got; rw [if_neg (by rw [hs1]; simp)]
    simp [beVal, UInt8.toNat_ofNat_of_lt' (show n < UInt8.size from hn)]
  · unfold Rd.left; rw [if_neg (by rw [hs1]; simp)]; rfl
set_option maxHeartbeats 1600000 in
set_option maxRecDepth 100000 in
theorem phashes_big (w : World) (E : Nat) (hE : EnvS w E) (v : Value) (hs : List (List UInt8)) (hx : Sl w 32 v hs.length (hcs hs)) (hn : 200 < hs.length) (hm : hs.length ≤ 9223372036854775807) : Calls Tryz.prog 3 #[v] w fun e w' => e = .returned (.bool true) ∧ Below w.heap.size w w' := by
  obtain ⟨ao, c, rfl⟩ := hx.form
  have hgt : (200 : Int) < (hs.length : Int) := by omega
  go_enter Tryz.func3, Tryz.ntmps3
  go_wp2_with (fail)
  refine Calls.mono (fit13 w E hE) ?_
  rintro e w1 ⟨rfl, hb⟩
  have HB := Lib.hid hb
  clear hb
  go_wp2_with (fail)
  go_ret
  exact ⟨rfl, HB.out⟩
set_option maxHeartbeats 1600000 in
set_option maxRecDepth 100000 in
theorem phashes_any (w : World) (E : Nat) (hE : EnvS w E) (v : Value) (hs : List (List UInt8)) (hx : Sl w 32 v hs.length (hcs hs)) (h32 : ∀ h ∈ hs, h.length = 32) (hn : hs.length ≤ 200) : Calls Tryz.prog 3 #[v] w fun e w' => e = .returned (.bool true) ∧ Below w.heap.size w w' := by
  obtain ⟨ao, c, rfl⟩ := hx.form
  have M : Sep (fun _ => False) w w [] := Sep.start _ w
  haveI H3 : H32s hs := ⟨h32⟩
  have hgt : ¬ (200 : Int) < (hs.length : Int) := by omega
  obtain ⟨n, hnn⟩ : ∃ n, hs.length = n := ⟨_, rfl⟩
  have HN := Lib.hid hnn
  rw [hnn] at hn hgt hx ⊢
  have HX := Lib.hid hx
  have hE' := Lib.hid hE
  clear hx hE hnn
  go_enter Tryz.func3, Tryz.ntmps3
  go_wp2_with (fail)
  refine Calls.mono (fit13 w E hE'.out) ?_
  rintro e w1 ⟨rfl, hb⟩
  replace M := M.below hb
  clear hb
  go_wp2_with (fail)
  refine Calls.mono (list_any w1 (.slice none 0 0) [] (rowA_nil _ _ _) (by simp) _ hs (by rw [HN.out]; exact HX.out.below M.out) (by rw [HN.out]; omega) (fun k _ h => by cases h)) ?_
  rintro e w2 ⟨v2, rfl, h2, hk2, ho2⟩
  have hbs : Bs w2 v2 ([] ++ [UInt8.ofNat (hs.length % 256)] ++ hs.flatten) := rowA.sl h2
  obtain ⟨a2, c2, rfl⟩ := rowA.form h2
  have hb2 : Below w1.heap.size w1 w2 := hk2.below (Nat.le_refl _) fun k h => by cases h
  have hn2 : ∀ k, (rowA 5 1 (.slice a2 ([] ++ [UInt8.ofNat (hs.length % 256)] ++ hs.flatten).length c2) ([] ++ [UInt8.ofNat (hs.length % 256)] ++ hs.flatten).length (bcs ([] ++ [UInt8.ofNat (hs.length % 256)] ++ hs.flatten))).fp k → w1.heap.size ≤ k := fun k hk => (ho2 k hk).resolve_left fun h => by cases h
  have hlt2 := (rowA _ _ _ _ _).lt h2
  replace M := M.add hb2 _ h2 hn2
  have hBB : [] ++ [UInt8.ofNat (hs.length % 256)] ++ hs.flatten = UInt8.ofNat n :: hs.flatten := by rw [HN.out, Nat.mod_eq_of_lt (by omega)]; rfl
  rw [hBB] at M hbs hlt2 ⊢
  generalize hBl : (UInt8.ofNat n :: hs.flatten).length = m at *
  have HBS := Lib.hid hbs
  have HLT2 := Lib.hid hlt2
  have HBL := Lib.hid hBl
  clear h2 hk2 ho2 hbs hb2 hn2 hBB hlt2 hBl
  go_wp2_with (fail)
  refine Calls.mono (rnew_any w2 _ (UInt8.ofNat n :: hs.flatten) HBS.out HLT2.out) ?_
  rintro e w3 ⟨br, rfl, hrd, hb3, hle⟩
  have hR : (rdA w2 (fun _ => False) br ⟨UInt8.ofNat n :: hs.flatten, false⟩).holds w3 := ⟨_, hrd.var, HBS.out, fun k hk => ⟨HLT2.out k hk, id⟩⟩
  replace M := M.add hb3 _ hR fun k hk => by rw [show k = br from hk]; exact hle
  have hk3 : Kp (fun _ => False) w2 w3 := Kp.of_below hb3
  have HK3 := Lib.hid hk3
  have HR := Lib.hid hR
  have HLE := Lib.hid hle
  clear hrd hb3 hR hk3 hle
  go_wp2_with (fail)
  refine Calls.mono (rhashes_any w3 HK3.out HR.out (.inr HLE.out)) ?_
  rintro e w4 ⟨v4, rfl, h4⟩
  obtain ⟨e1, e2⟩ := rd_head n (by omega) hs.flatten
  rw [e1, e2, ← HN.out, rdHs_all hs [] h32, List.nil_append, HN.out] at h4
  obtain ⟨h5, h6, h7, h8⟩ := h4
  replace M := M.replAdd .head h7 h8 (fun _ h => h) h5 h6
  obtain ⟨a4, c4, rfl⟩ := rowA.form h5
  have HK4 := Lib.hid h7
  clear h5 h6 h7 h8 e1 e2 HR
  have hdone := rd_done (W := fun _ => False) (w0 := w2) (w := w4) (L := [rdA w2 (fun _ => False) br ⟨[], false⟩]) (br := br) (r := ⟨[], false⟩) ⟨⟨HK4.out.os.trans HK3.out.os, HK4.out.tape.trans HK3.out.tape, HK4.out.output.trans HK3.out.output, Nat.le_trans HK3.out.size HK4.out.size, fun k hk _ => by rw [HK4.out.block k (Nat.lt_of_lt_of_le hk HK3.out.size) (by have := HLE.out; omega), HK3.out.block k hk id]⟩, by simpa using M.get 1 rfl, by simp, fun A hA k hk => by obtain rfl := List.mem_singleton.1 hA; exact .inr (by rw [show k = br from hk]; exact HLE.out)⟩ (.head _)
  simp only [Bool.not_false, List.isEmpty_nil, Bool.and_self] at hdone
  have HD := Lib.hid hdone
  clear hdone
  go_wp2_with (first | ((with_reducible refine Calls.mono HD.out ?_); rintro e ww ⟨rfl, rfl⟩) | fail)
  clear HD HK4 HK3 HBS HLT2
  obtain ⟨R1, hR1⟩ : ∃ R1, R1 = rdA w2 (fun _ => False) br ⟨[], false⟩ := ⟨_, rfl⟩
  rw [← hR1] at M
  clear hR1
  go_loopw [28] (fun i wr => ∃ k : Nat, k ≤ n ∧ i = .int .i64 k ∧ Sep (fun _ => False) w wr [rowA 30 32 (.slice a4 n c4) n (hcs hs), R1, rowA 5 1 (.slice a2 m c2) m (bcs (UInt8.ofNat n :: hs.flatten))]) (fun i _ => n - (intOf i).toNat)
  case atStart => exact ⟨0, Nat.zero_le _, rfl, M⟩
  case round =>
    clear M
    obtain ⟨k, hk, rfl, M⟩ := hrel
    by_cases hlt : k < n
    · have hx' : Sl w 32 (.slice ao n c) hs.length (hcs hs) := by rw [HN.out]; exact HX.out
      obtain ⟨b0, o0, rfl⟩ := HX.out.solid (by omega)
      have hg := rowA.sl (M.get 0 rfl)
      obtain ⟨b1, o1, rfl⟩ := hg.solid (by omega)
      have hr0 : ∀ w1, Kp (fun _ => False) w w1 → w1.rangeAt b0 (o0 + k * 32) (bcs (hs[k]'(by rw [HN.out]; exact hlt))) := fun w1 h => range_kp (hcs_row hx' h32 k (by rw [HN.out]; exact hlt)) h id
      have hr1 : ∀ w1, (rowA 30 32 (.slice (some ⟨b1, o1, none⟩) n c4) n (hcs hs)).holds w1 → w1.rangeAt b1 (o1 + k * 32) (bcs (hs[k]'(by rw [HN.out]; exact hlt))) := fun w1 h => hcs_row (by rw [HN.out]; exact rowA.sl h) h32 k (by rw [HN.out]; exact hlt)
      haveI hx32 : H32 (hs[k]'(by rw [HN.out]; exact hlt)) := ⟨h32 _ (List.getElem_mem _)⟩
      generalize hs[k]'(by rw [HN.out]; exact hlt) = x at *
      have HR0 := Lib.hid hr0
      have HR1 := Lib.hid hr1
      clear hr0 hr1 hg hx'
      go_wp2_with (fail)
      apply wp_drawS M [⟨none, none, [3], []⟩, ⟨none, none, [], []⟩, ⟨none, none, [], []⟩] [pK _, pK _, pK _] [] [.q, .q, .q, .q, .q, .q, .q, .q, .q] (by kernel_rfl) (.t (.t (.t .z))) rfl
      repeat (refine wk_q rfl rfl rfl rfl (by intro w1 hI KK QQ hK; simp only [p0, p1, p2, p3, p4, Nat.reduceAdd] at hK; go_step; exact hK) ?_; simp only [p0, p1, p2, p3, p4, Nat.reduceAdd])
      refine wk_ldr rfl rfl rfl (fun w1 hI => HR1.out w1 (ins_get hI 0 rfl rfl)) Blob.len (.inl ⟨rfl, rfl⟩) ?_; simp only [p0, p1, p2, p3, p4, Nat.reduceAdd]
      repeat (refine wk_q rfl rfl rfl rfl (by intro w1 hI KK QQ hK; simp only [p0, p1, p2, p3, p4, Nat.reduceAdd] at hK; go_step; exact hK) ?_; simp only [p0, p1, p2, p3, p4, Nat.reduceAdd])
      refine wk_ldr rfl rfl rfl (fun w1 hI => HR0.out w1 hI.frame) Blob.len (.inl ⟨rfl, rfl⟩) ?_; simp only [p0, p1, p2, p3, p4, Nat.reduceAdd]
      
      refine walk_neH rfl rfl rfl hx32.len hx32.len (by simp : (!decide (x = x)) = false) rfl rfl rfl ?_; simp only [p0, p1, p2, p3, p4, Nat.reduceAdd]
      refine walk_nil fun w5 M => ?_
      simp only [mkToks, List.filter_cons, List.filter_nil, Option.isNone_none, Option.isNone_some, if_true, Bool.false_eq_true, if_false, List.map_cons, List.map_nil, Tok.at_, pK, pN, pR, pW, pT, pM, pB, Cl.val, List.getD_cons_zero, List.getD_cons_succ, upd, List.headD_cons, blkOf, gq, reduceIte, Nat.reduceEqDiff] at M
      go_wp2_with (fail)
      exact ⟨⟨k + 1, by omega, by go_num, M⟩, by simp [intOf]; omega⟩
    · obtain rfl : k = n := by omega
      go_wp2_with (fail)
      go_ret
      exact ⟨rfl, M.out⟩
end Go.Proofs.YtbenjjaofabdcaaGreatDoor
