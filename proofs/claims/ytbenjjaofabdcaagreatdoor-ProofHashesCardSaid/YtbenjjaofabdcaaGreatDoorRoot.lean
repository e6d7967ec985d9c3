/-
  history.Root: of leaves' hashes, noting what is hashed.
-/
import Derived.Test.YtbenjjaofabdcaaGreatDoorSplit
namespace Go.Proofs.YtbenjjaofabdcaaGreatDoor
open Go Go.RowKit

def hroot (hs : List (List UInt8)) : List UInt8 :=
  if hs.length ≤ 1 then hs.headD (sha []) else sha (hnode (hroot (hs.take (splitN hs.length))) (hroot (hs.drop (splitN hs.length))))
termination_by hs.length
decreasing_by
  · have := splitN_lt (n := hs.length) (by omega); simp; omega
  · have := splitN_pos hs.length; simp; omega
/-- What is hashed on the way. -/
def hnotes (hs : List (List UInt8)) : List (List UInt8) :=
  if hs.length = 0 then [[]] else if hs.length = 1 then [] else hnotes (hs.take (splitN hs.length)) ++ (hnotes (hs.drop (splitN hs.length)) ++ [hnode (hroot (hs.take (splitN hs.length))) (hroot (hs.drop (splitN hs.length)))])
termination_by hs.length
decreasing_by
  · have := splitN_lt (n := hs.length) (by omega); simp; omega
  · have := splitN_pos hs.length; simp; omega
theorem hroot_nil : hroot [] = sha [] := by rw [hroot]; rfl
theorem hroot_one (x : List UInt8) : hroot [x] = x := by rw [hroot]; rfl
theorem hroot_len (hs : List (List UInt8)) (h : ∀ x ∈ hs, x.length = 32) : (hroot hs).length = 32 := by
  rw [hroot]
  split
  · match hs, h with
    | [], _ => exact sha_length _
    | x :: _, h => exact h x (by simp)
  · exact sha_length _
theorem hnotes_len (hs : List (List UInt8)) : (hnotes hs).length ≤ hs.length + 1 := by
  suffices H : ∀ n (hs : List (List UInt8)), hs.length = n → (hnotes hs).length = if n = 0 then 1 else n - 1 by rw [H _ hs rfl]; split <;> omega
  intro n
  induction n using Nat.strongRecOn with
  | _ n ih =>
    intro hs hn
    rw [hnotes]
    by_cases h0 : hs.length = 0
    · rw [if_pos h0, if_pos (by omega)]; rfl
    · rw [if_neg h0]
      by_cases h1 : hs.length = 1
      · rw [if_pos h1, if_neg (by omega)]; simp; omega
      · rw [if_neg h1, if_neg (by omega)]
        have hlt := splitN_lt (n := hs.length) (by omega)
        have hp := splitN_pos hs.length
        simp only [List.length_append, List.length_cons, List.length_nil]
        rw [ih (splitN hs.length) (by omega) _ (by simp; omega), ih (hs.length - splitN hs.length) (by omega) _ (by simp), if_neg (by omega), if_neg (by omega)]
        omega
theorem parts_none (w : World) : Parts w (.slice none 0 0) [] := ⟨[], Sl.nil w 1, by simp⟩
theorem hcs_take (hs : List (List UInt8)) (h32 : ∀ h ∈ hs, h.length = 32) (k : Nat) : (hcs hs).take (k * 32) = hcs (hs.take k) ∧ (hcs hs).drop (k * 32) = hcs (hs.drop k) := by
  induction hs generalizing k with
  | nil => simp [hcs]
  | cons x r ih =>
    cases k with
    | zero => simp [hcs]
    | succ k =>
      have hx : (bcs x).length = 32 := by rw [bcs_length]; exact h32 x (by simp)
      have h1 := ih (fun h hm => h32 h (by simp [hm])) k
      have e : hcs (x :: r) = bcs x ++ hcs r := rfl
      have e2 : (k + 1) * 32 = (bcs x).length + k * 32 := by rw [hx]; omega
      rw [e, e2, List.take_length_add_append, List.drop_length_add_append, h1.1, h1.2]
      exact ⟨rfl, rfl⟩
/-- The first part of a slice, and the rest. -/
theorem Sl.take {w : World} {sz n b o c k : Nat} {cs : List Value} (h : Sl w sz (.slice (some ⟨b, o, none⟩) n c) n cs) (hk : k ≤ n) : Sl w sz (.slice (some ⟨b, o, none⟩) k c) k (cs.take (k * sz)) := by
  rcases h with ⟨h, _⟩ | ⟨b', o', c', he, h1, h2, h3, h4⟩
  · cases h
  · simp only [Value.slice.injEq, Option.some.injEq, Addr.mk.injEq] at he
    obtain ⟨⟨rfl, rfl, _⟩, _, rfl⟩ := he
    refine .inr ⟨b, o, c, rfl, by omega, h2, ?_, fun j v hv => h4 j v ?_⟩
    · rw [List.length_take, h3]; exact Nat.min_eq_left (Nat.mul_le_mul_right sz hk)
    · rw [List.getElem?_take] at hv
      by_cases hlt : j < k * sz
      · rwa [if_pos hlt] at hv
      · rw [if_neg hlt] at hv; cases hv
theorem Sl.range {w : World} {sz n b o c : Nat} {cs : List Value} (h : Sl w sz (.slice (some ⟨b, o, none⟩) n c) n cs) : w.rangeAt b o cs := by
  rcases h with ⟨h, _⟩ | ⟨b', o', c', he, h1, h2, h3, h4⟩
  · cases h
  · simp only [Value.slice.injEq, Option.some.injEq, Addr.mk.injEq] at he
    obtain ⟨⟨rfl, rfl, _⟩, _, rfl⟩ := he
    exact h4
theorem Sl.capge {w : World} {sz n k c b o m : Nat} {cs : List Value} (h : Sl w sz (.slice (some ⟨b, o, none⟩) (m - k) (c - k)) n cs) (hk : k < m) (hn : n = m - k) : m ≤ c := by
  rcases h with ⟨h, _⟩ | ⟨b', o', c', he, h1, h2, h3, h4⟩
  · cases h
  · simp only [Value.slice.injEq] at he
    omega
theorem range_kp {S : Nat → Prop} {w w' : World} {b o : Nat} {cs : List Value} (h : w.rangeAt b o cs) (hk : Kp S w w') (hn : ¬ S b) : w'.rangeAt b o cs :=
  rangeAt_move h fun hne => hk.block b (rangeAt_lt h hne) hn
theorem Sl.drop {w : World} {sz n b o c k : Nat} {cs : List Value} (h : Sl w sz (.slice (some ⟨b, o, none⟩) n c) n cs) (hk : k ≤ n) : Sl w sz (.slice (some ⟨b, o + k * sz, none⟩) (n - k) (c - k)) (n - k) (cs.drop (k * sz)) := by
  rcases h with ⟨h, _⟩ | ⟨b', o', c', he, h1, h2, h3, h4⟩
  · cases h
  · simp only [Value.slice.injEq, Option.some.injEq, Addr.mk.injEq] at he
    obtain ⟨⟨rfl, rfl, _⟩, _, rfl⟩ := he
    refine .inr ⟨b, o + k * sz, c - k, rfl, by omega, by omega, ?_, fun j v hv => ?_⟩
    · rw [List.length_drop, h3, Nat.sub_mul]
    · rw [List.getElem?_drop] at hv
      rw [Nat.add_assoc]
      exact h4 _ v hv
def ospTS (S : Nat → Prop) (v : Value) : OSp := .v [] fun _ g => g.1 = v ∧ ∀ k, g.2 k → S k
section
variable {P : Program} {C : World → Prop} {S : Nat → Prop} {ops : Array Oper} {toks : List Tok} {Q : Act → (Nat → GV) → Prop} {i : Nat} {o : Oper} {rest : List Oper} {ss : List OSp} {val : Nat → GV} {a : Act}
/-- A call that may note something, in a region that draws; where the tape lies is told by S. -/
theorem walk_tapeS {F : Nat → Prop} {t v : Value} {bl bl' : List (List UInt8)} {d : Tmp} (y x : Nat) {u s : Tok} (hF : ∀ k, F k → S k) (hC : ∀ w k, C w → w.heap.size ≤ k → S k)
    (hy : toks[y]? = some u) (hx : toks[x]? = some s) (hB : (prodB toks i x && (u.cons == some i)) = true) (hd : o.dst = some d) (hlt : Nat.ble (d + 1) a.tmps.size = true) (hw : Region.wanted o (yielded ops a.tmps) = true)
    (hu : u.at_ val = tpA F t bl) (hu' : ∀ g, u.at_ (upd val i g) = tpA F t bl) (hs : ∀ g, s.at_ (upd val i g) = tpA g.2 t bl')
    (hcall : ∀ w, Ins C toks i val w → (tpA F t bl).holds w → ∀ (K : Act → World → Prop) (Q : Exit → Act → World → Prop), (∀ e w', TPost F t bl' v w e w' → K (a.put o.dst v) w') → o.wp P a w K Q)
    (h : ∀ F', (∀ k, F' k → S k) → Walk P ops toks C Q (i + 1) rest ss (upd val i (v, F')) (a.put o.dst v)) : Walk P ops toks C Q i (o :: rest) (ospTS S v :: ss) val a := by
  refine walk_v hw ⟨(_, F), rfl, hF⟩ (fun w hI => ?_) (by rintro ⟨v, F'⟩ ⟨rfl, h1⟩; exact h F' h1)
  have hc : (u.cons == some i) = true := (Bool.and_eq_true _ _ ▸ hB).2
  have hT := ins_get hI y hy (by rw [hc]; simp)
  rw [hu] at hT
  refine Loud.of_wp hd (Nat.le_of_ble_eq_true hlt) fun K Q' hK => hcall w hI hT K Q' ?_
  rintro e w' ⟨-, F', hk, hT', hf⟩
  refine hK _ _ ⟨(_, F'), rfl, ⟨rfl, fun k hk => ?_⟩, outs_set y hy x hx hB ?_ ?_ ?_⟩
  · rcases hf k hk with h1 | h1
    · exact hF k h1
    · exact hC w k hI.frame h1
  · rw [hu']; exact hk
  · rw [hs]; exact hT'
  · rw [hs, hu']; exact hf
end
set_option maxHeartbeats 1600000 in
set_option maxRecDepth 100000 in
theorem hroot_any (E : Nat) : ∀ (n : Nat) (hs : List (List UInt8)), hs.length = n → ∀ (w : World) (F : Nat → Prop) (t : Value) (bl : List (List UInt8)), (tpA F t bl).holds w → (∀ k, F k → E ≤ k) → bl.length + 2 * hs.length ≤ 1099511627776 → EnvB w E →
    ∀ (v : Value), Sl w 32 v hs.length (hcs hs) → (∀ h ∈ hs, h.length = 32) → (∀ k, v.ownBlock = some k → ¬ F k) →
    Calls Tryz.prog 44 #[t, v] w (TPost F t (bl ++ hnotes hs) (hv (hroot hs)) w) := by
  intro n
  induction n using Nat.strongRecOn with
  | _ n ih =>
  intro hs hn w F t bl hT hF hbl hE v hS h32 hvF
  have M := Sep.one hT
  obtain ⟨ao, c, rfl⟩ := hS.form
  have hb0 : bl.length ≤ 1099511627776 := by omega
  have HE := Lib.hid hE
  have HF := Lib.hid hF
  have HVF := Lib.hid hvF
  have HS := Lib.hid hS
  have H32 := Lib.hid h32
  clear hE hF hvF hS h32
  match hs, hn, hbl, HS, H32 with
  | [], hn, hbl, HS, H32 =>
    obtain ⟨x, hx⟩ : ∃ x, sha [] = x := ⟨_, rfl⟩
    have hx32 := sha_length []
    rw [hroot_nil, show hnotes [] = [[]] by rw [hnotes]; rfl]
    rw [hx] at hx32 ⊢
    have HX := Lib.hid hx
    clear hx
    go_enter Tryz.func44, Tryz.ntmps44
    go_wp2_with (first | ((with_reducible refine wl_at ⟨some 4, _, _, _, _, _⟩ ?_); refine wl_alloc M rfl rfl tyHash ?_; clear M; intro b4 w4 M; simp only [Act.put, List.setIfInBounds_toArray, List.set_cons_succ, List.set_cons_zero]) | fail)
    refine Calls.mono (of_tpx w4 E F t bl (M.get 1 rfl) HF.out hb0 (HE.out.a.kp M.keep HF.out) _ [] (parts_none _) (m := []) rfl HX.out (by simp) (by simp)) ?_
    rintro e w5 ⟨rfl, F1, hk, hT, hf⟩
    replace M := M.repl (.tail .head) hk hT hf
    clear hk hT hf
    unfold hv
    go_wp2_with (first | ((with_reducible refine wl_at ⟨_, .store _ (.tmp 4) (.tmp 11), _, _, _, _⟩ ?_); refine wl_storen M (bcs x) rfl rfl rfl rfl tyHash rfl (by rw [bcs_length, hx32]) (ones_bcs x) (by first | exact .head | exact (.tail .head) | exact (.tail (.tail .head)) | exact (.tail (.tail (.tail .head))) | exact (.tail (.tail (.tail (.tail .head)))) | exact (.tail (.tail (.tail (.tail (.tail .head))))) | exact (.tail (.tail (.tail (.tail (.tail (.tail .head)))))) | exact (.tail (.tail (.tail (.tail (.tail (.tail (.tail .head))))))) | exact (.tail (.tail (.tail (.tail (.tail (.tail (.tail (.tail .head)))))))) | exact (.tail (.tail (.tail (.tail (.tail (.tail (.tail (.tail (.tail .head)))))))))) rfl ?_; clear M; intro w6 M; simp only [Act.put, List.setIfInBounds_toArray, List.set_cons_succ, List.set_cons_zero]) | fail)
    exact ret_hvar rfl rfl (M.get 0 rfl) hx32 rfl ⟨rfl, tpost_of M (.tail _ (.head _))⟩
  | [x], hn, hbl, HS, H32 =>
    have hx32 := H32.out x (by simp)
    obtain ⟨b, o, rfl⟩ := HS.out.solid (by simp)
    have hr := Lib.hid (hcs_one x ▸ HS.out.range : w.rangeAt b o (bcs x))
    have hbF := Lib.hid (HVF.out b rfl)
    rw [hroot_one, show hnotes [x] = [] by rw [hnotes]; rfl, List.append_nil]
    go_enter Tryz.func44, Tryz.ntmps44
    go_wp2_with (first | ((with_reducible refine wl_at ⟨some 4, _, _, _, _, _⟩ ?_); refine wl_alloc M rfl rfl tyHash ?_; clear M; intro b4 w4 M; simp only [Act.put, List.setIfInBounds_toArray, List.set_cons_succ, List.set_cons_zero]) | ((with_reducible refine wl_at ⟨some 16, _, _, _, _, _⟩ ?_); refine wl_plain rfl fun _ hK => wp_loadn rfl rfl tyHash (range_kp hr.out M.keep hbF.out) (by rw [bcs_length, hx32]) (hK _ _ ?_); simp only [Act.put, List.setIfInBounds_toArray, List.set_cons_succ, List.set_cons_zero]) | ((with_reducible refine wl_at ⟨_, .store _ (.tmp 4) (.tmp 16), _, _, _, _⟩ ?_); refine wl_storen M (bcs x) rfl rfl rfl rfl tyHash rfl (by rw [bcs_length, hx32]) (ones_bcs x) (by first | exact .head | exact (.tail .head) | exact (.tail (.tail .head)) | exact (.tail (.tail (.tail .head))) | exact (.tail (.tail (.tail (.tail .head)))) | exact (.tail (.tail (.tail (.tail (.tail .head))))) | exact (.tail (.tail (.tail (.tail (.tail (.tail .head)))))) | exact (.tail (.tail (.tail (.tail (.tail (.tail (.tail .head))))))) | exact (.tail (.tail (.tail (.tail (.tail (.tail (.tail (.tail .head)))))))) | exact (.tail (.tail (.tail (.tail (.tail (.tail (.tail (.tail (.tail .head)))))))))) rfl ?_; clear M; intro w6 M; simp only [Act.put, List.setIfInBounds_toArray, List.set_cons_succ, List.set_cons_zero]) | fail)
    exact ret_hvar rfl rfl (M.get 0 rfl) hx32 rfl ⟨rfl, tpost_of M (.tail _ (.head _))⟩
  | x :: y :: r, hn, hbl, HS, H32 =>
    revert hn hbl HS H32
    obtain ⟨hs, hhs⟩ : ∃ hs, x :: y :: r = hs := ⟨_, rfl⟩
    have h2 : 2 ≤ hs.length := by rw [← hhs]; simp
    rw [hhs]
    intro hn hbl HS H32
    clear hhs
    obtain ⟨b, o, rfl⟩ := HS.out.solid (by omega)
    have hbF := Lib.hid (HVF.out b rfl)
    obtain ⟨k, hk⟩ : ∃ k, splitN hs.length = k := ⟨_, rfl⟩
    have hk1 := splitN_lt h2
    have hk0 := splitN_pos hs.length
    obtain ⟨A, hA⟩ : ∃ A, hs.take k = A := ⟨_, rfl⟩
    obtain ⟨B, hB⟩ : ∃ B, hs.drop k = B := ⟨_, rfl⟩
    rw [hk] at hk1 hk0
    have hlA : A.length = k := by rw [← hA, List.length_take]; omega
    have hlB : B.length = hs.length - k := by rw [← hB, List.length_drop]
    have h32A : ∀ h ∈ A, h.length = 32 := fun h hm => H32.out h (by rw [← hA] at hm; exact List.mem_of_mem_take hm)
    have h32B : ∀ h ∈ B, h.length = 32 := fun h hm => H32.out h (by rw [← hB] at hm; exact List.mem_of_mem_drop hm)
    have hSA := HS.out.take (k := k) (by omega)
    have hSB := HS.out.drop (k := k) (by omega)
    rw [(hcs_take hs H32.out k).1, hA] at hSA
    rw [(hcs_take hs H32.out k).2, hB] at hSB
    have hnA := hnotes_len A
    have hnB := hnotes_len B
    obtain ⟨X, hX⟩ : ∃ X, sha (hnode (hroot A) (hroot B)) = X := ⟨_, rfl⟩
    have hx32 : X.length = 32 := by rw [← hX]; exact sha_length _
    rw [show hroot hs = X by rw [hroot, if_neg (by omega), hk, hA, hB, hX], show hnotes hs = hnotes A ++ (hnotes B ++ [hnode (hroot A) (hroot B)]) by rw [hnotes, if_neg (by omega), if_neg (by omega), hk, hA, hB], ← List.append_assoc, ← List.append_assoc]
    have RA := hroot_len A h32A
    have RB := hroot_len B h32B
    have ihA := ih k (by omega) A hlA
    have ihB := ih (hs.length - k) (by omega) B hlB
    rw [hlA] at ihA hnA
    rw [hlB] at ihB hnB
    have IA := Lib.hid ihA
    have IB := Lib.hid ihB
    have SA := Lib.hid hSA
    have SB := Lib.hid hSB
    have HX := Lib.hid hX
    have HK := Lib.hid hk
    have HA := Lib.hid h32A
    have HB := Lib.hid h32B
    clear ihA ihB hSA hSB hX hk ih hlA hlB hA hB h32A h32B
    obtain ⟨m, hm⟩ : ∃ m, hs.length = m := ⟨_, rfl⟩
    rw [hm] at hn hk1 hbl HK IB SB h2 hnB HS ⊢
    have hm0 : ¬ (m : Int) = 0 := by omega
    have hm1 : ¬ (m : Int) = 1 := by omega
    clear hm hn H32 HS
    go_enter Tryz.func44, Tryz.ntmps44
    go_wp2_with (first | ((with_reducible refine wl_at ⟨some 4, _, _, _, _, _⟩ ?_); refine wl_alloc M rfl rfl tyHash ?_; clear M; intro b4 w4 M; simp only [Act.put, List.setIfInBounds_toArray, List.set_cons_succ, List.set_cons_zero]) | ((with_reducible refine Calls.mono ((HK.out ▸ split_any _ m h2 (by omega))) ?_); rintro e w5 ⟨rfl, hb⟩; replace M := M.below hb; clear hb) | fail)
    have hmc : m ≤ c := SB.out.capge (by omega) (by omega)
    have hkc : k ≤ c := by omega
    have hkc' : ¬ c = k := by omega
    have hkc'' : k ≤ m := by omega
    have hSF : Hid (∀ k, F k → F k ∨ w.heap.size ≤ k) := Lib.hid fun k hk => .inl hk
    have hb1 : b < w.heap.size := rangeAt_lt SA.out.range fun h => by have := SA.out.len; rw [h] at this; simp at this; omega
    have hS1 : Hid (∀ G : Nat → Prop, (∀ k, G k → F k ∨ w.heap.size ≤ k) → (∀ k, G k → E ≤ k) ∧ ¬ G b) := Lib.hid fun G hG => ⟨fun k hk => (hG k hk).elim (HF.out k) fun h => Nat.le_trans HE.out.le h, fun hk => (hG b hk).elim hbF.out fun h => by omega⟩
    refine wp_draw M [told (some 12) [] _, told (some 5) [] (tpA F t bl), ⟨some 5, some 10, [], [5], fun gs => tpA (gs.headD (gq undef)).2 t (bl ++ hnotes A)⟩, ⟨some 10, some 11, [], [10], fun gs => tpA (gs.headD (gq undef)).2 t (bl ++ hnotes A ++ hnotes B)⟩,
        ⟨some 11, none, [], [11], fun gs => tpA (gs.headD (gq undef)).2 t (bl ++ hnotes A ++ hnotes B ++ [hnode (hroot A) (hroot B)])⟩, ⟨some 12, none, [], [], fun _ => hvar b4 X⟩]
      [.q, .q, .q, .q, .q, ospTS (fun k => F k ∨ w.heap.size ≤ k) (hv (hroot A)), .q, .q, .q, .q, ospTS (fun k => F k ∨ w.heap.size ≤ k) (hv (hroot B)), ospTS (fun k => F k ∨ w.heap.size ≤ k) (.agg (bcs X).toArray), ospU] (by kernel_rfl) rfl (by kernel_rfl) ?_
    iterate 5 (apply walk_q rfl; (intro w1 hI; apply Same.of_wp rfl rfl (Nat.le_of_ble_eq_true rfl); intro KK QQ hK; simp only [Act.put, List.setIfInBounds_toArray, List.set_cons_succ, List.set_cons_zero] at hK; go_step; exact hK); simp only [Act.put, List.setIfInBounds_toArray, List.set_cons_succ, List.set_cons_zero])
    refine walk_tapeS 1 2 hSF.out (fun w1 k hc h => .inr (Nat.le_trans hc.size h)) rfl rfl rfl rfl rfl rfl rfl (fun _ => rfl) (fun _ => rfl) (fun w1 hI hT K Q hK => ?_) (fun F1 HF1 => ?_)
    · go_step
      exact Calls.mono (IA.out w1 F t bl hT HF.out (by omega) (HE.out.kp hI.frame HF.out) _ (SA.out.kp hI.frame (by rintro k ⟨⟩; exact hbF.out)) HA.out (by rintro k ⟨⟩; exact hbF.out)) (by rintro e w' h; have h' := h; obtain ⟨rfl, -⟩ := h; exact hK _ _ h')
    simp only [Act.put, List.setIfInBounds_toArray, List.set_cons_succ, List.set_cons_zero]
    replace HF1 := Lib.hid HF1
    iterate 4 (apply walk_q rfl; (intro w1 hI; apply Same.of_wp rfl rfl (Nat.le_of_ble_eq_true rfl); intro KK QQ hK; simp only [Act.put, List.setIfInBounds_toArray, List.set_cons_succ, List.set_cons_zero] at hK; go_step; exact hK); simp only [Act.put, List.setIfInBounds_toArray, List.set_cons_succ, List.set_cons_zero])
    refine walk_tapeS 2 3 HF1.out (fun w1 k hc h => .inr (Nat.le_trans hc.size h)) rfl rfl rfl rfl rfl rfl rfl (fun _ => rfl) (fun _ => rfl) (fun w1 hI hT K Q hK => ?_) (fun F2 HF2 => ?_)
    · go_step
      exact Calls.mono (IB.out w1 F1 t (bl ++ hnotes A) hT (hS1.out F1 HF1.out).1 (by rw [List.length_append]; omega) (HE.out.kp hI.frame HF.out) _ (SB.out.kp hI.frame (by rintro k ⟨⟩; exact hbF.out)) HB.out (by rintro k ⟨⟩; exact (hS1.out F1 HF1.out).2)) (by rintro e w' h; have h' := h; obtain ⟨rfl, -⟩ := h; exact hK _ _ h')
    simp only [Act.put, List.setIfInBounds_toArray, List.set_cons_succ, List.set_cons_zero]
    replace HF2 := Lib.hid HF2
    refine walk_tapeS 3 4 HF2.out (fun w1 k hc h => .inr (Nat.le_trans hc.size h)) rfl rfl rfl rfl rfl rfl rfl (fun _ => rfl) (fun _ => rfl) (fun w1 hI hT K Q hK => ?_) (fun F3 HF3 => ?_)
    · go_step
      exact Calls.mono (HX.out ▸ hnode_any w1 E F2 t (bl ++ hnotes A ++ hnotes B) hT (hS1.out F2 HF2.out).1 (by rw [List.length_append, List.length_append]; omega) (HE.out.kp hI.frame HF.out) _ _ RA RB) (by rintro e w' h; have h' := h; obtain ⟨rfl, -⟩ := h; exact hK _ _ h')
    simp only [Act.put, List.setIfInBounds_toArray, List.set_cons_succ, List.set_cons_zero]
    refine walk_store 0 5 (bcs X) rfl rfl rfl rfl tyHash rfl (by rw [bcs_length, hx32]) (ones_bcs X) (by simp) rfl rfl rfl rfl rfl rfl ?_ ?_
    · rw [splice_all _ _ (by rw [bcs_length, hx32]; rfl)]; rfl
    refine walk_nil fun w7 M => ?_
    replace M : Sep F w w7 [tpA F3 t (bl ++ hnotes A ++ hnotes B ++ [hnode (hroot A) (hroot B)]), hvar b4 X] := M
    go_wp2
    exact ret_hvar rfl rfl (M.get 1 rfl) hx32 rfl ⟨rfl, tpost_of M (.head _)⟩
end Go.Proofs.YtbenjjaofabdcaaGreatDoor
