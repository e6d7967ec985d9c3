/-
  proof.begin, proof.OfAccount of an empty database.
-/
import Derived.Test.YtbenjjaofabdcaaGreatDoorPr0
namespace Go.Proofs.YtbenjjaofabdcaaGreatDoor
open Go Go.RowKit

theorem ins_apart {C : World → Prop} {toks : List Tok} {j : Nat} {val : Nat → GV} {w : World} (h : Ins C toks j val w) (x y : Nat) {t u : Tok} (hx : toks[x]? = some t) (hy : toks[y]? = some u) (hxy : (x != y) = true) (ht : (t.rds.contains j || t.cons == some j) = true) (hu : (u.rds.contains j || u.cons == some j) = true) : ∀ k, (t.at_ val).fp k → ¬ (u.at_ val).fp k :=
  h.apart x y t u hx hy (by simpa using hxy) (by simp only [Bool.or_eq_true, List.contains_iff_mem, beq_iff_eq] at ht; exact ht) (by simp only [Bool.or_eq_true, List.contains_iff_mem, beq_iff_eq] at hu; exact hu)
theorem tyHashes : Ty Tryz.prog 22 1 false [.slice none 0 0] := ⟨Tryz.sizeOf22, Tryz.isAgg22, fun w => ⟨_, Tryz.zeroValue22 w, rfl⟩⟩
set_option maxHeartbeats 1600000 in
set_option maxRecDepth 100000 in
theorem begin0 (w0 w : World) (E : Nat) (hE : EnvS w0 E) (hb : Below w0.heap.size w0 w) (F : Nat → Prop) (hF : ∀ k, F k → w0.heap.size ≤ k) (bw : Nat) (l : List UInt8) (hW : (wrA F bw l).holds w) (hl : l.length ≤ 1000) (bc be : Nat) (hC : Chain0 w0 bc) (hG : Eng0 w0 be) (id : Num) :
    Calls Tryz.prog 37 #[ptr bw 0, ptr bc 0, ptr be 0, nv id] w (CPost (fun F => wrA F bw (l ++ sha [] ++ sha [4] ++ [0] ++ [0])) F (.tuple #[]) w) := by
  have M := Sep.one hW
  have HC := Lib.hid hC
  have HG := Lib.hid hG
  have HB := Lib.hid hb
  have HF := Lib.hid hF
  have hbw : Hid (∀ w1, Kp F w w1 → Below w0.heap.size w0 w1) := Lib.hid fun w1 hk => hb.trans (hk.below hb.size hF)
  clear hC hG hb hF hW
  go_enter Tryz.func37, Tryz.ntmps37
  go_wp2_with (first | ((with_reducible refine wl_at ⟨some 7, _, _, _, _, _⟩ ?_); refine wl_box M (_) rfl rfl rfl rfl ?_; clear M; intro b7 w7 M; simp only [Act.put, List.setIfInBounds_toArray, List.set_cons_succ, List.set_cons_zero]) | fail)
  refine Calls.mono (dlen w7 bc (HC.out.below (hbw.out w7 M.keep))) ?_
  rintro e w8 ⟨rfl, rfl⟩
  go_wp2_with (fail)
  refine Calls.mono (droots w8 bc (HC.out.below (hbw.out w8 M.keep))) ?_
  rintro e w9 ⟨rfl, hb1⟩
  replace M := M.below hb1
  clear hb1
  have hx32 := sha_length []
  have hy32 := sha_length [4]
  obtain ⟨x, hx⟩ : ∃ x, sha [] = x := ⟨_, rfl⟩
  obtain ⟨y, hy⟩ : ∃ y, sha [4] = y := ⟨_, rfl⟩
  rw [hx] at hx32 ⊢
  rw [hy] at hy32 ⊢
  have HXE := Lib.hid hx
  have HYE := Lib.hid hy
  clear hx hy
  unfold hv
  go_wp2_with (first | ((with_reducible refine wl_at ⟨some 8, _, _, _, _, _⟩ ?_); refine wl_alloc M rfl rfl tyHash ?_; clear M; intro b8 w10 M; simp only [Act.put, List.setIfInBounds_toArray, List.set_cons_succ, List.set_cons_zero]) | ((with_reducible refine wl_at ⟨some 9, _, _, _, _, _⟩ ?_); refine wl_alloc M rfl rfl tyHash ?_; clear M; intro b9 w11 M; simp only [Act.put, List.setIfInBounds_toArray, List.set_cons_succ, List.set_cons_zero]) | ((with_reducible refine wl_at ⟨_, .store _ (.tmp 8) (.tmp 17), _, _, _, _⟩ ?_); refine wl_storen M (bcs x) rfl rfl rfl rfl tyHash rfl (by rw [bcs_length, hx32]) (ones_bcs x) (by first | exact .head | exact (.tail .head) | exact (.tail (.tail .head)) | exact (.tail (.tail (.tail .head))) | exact (.tail (.tail (.tail (.tail .head)))) | exact (.tail (.tail (.tail (.tail (.tail .head))))) | exact (.tail (.tail (.tail (.tail (.tail (.tail .head)))))) | exact (.tail (.tail (.tail (.tail (.tail (.tail (.tail .head))))))) | exact (.tail (.tail (.tail (.tail (.tail (.tail (.tail (.tail .head)))))))) | exact (.tail (.tail (.tail (.tail (.tail (.tail (.tail (.tail (.tail .head)))))))))) rfl ?_; clear M; intro w12 M; simp only [Act.put, List.setIfInBounds_toArray, List.set_cons_succ, List.set_cons_zero]) | ((with_reducible refine wl_at ⟨_, .store _ (.tmp 9) (.tmp 18), _, _, _, _⟩ ?_); refine wl_storen M (bcs y) rfl rfl rfl rfl tyHash rfl (by rw [bcs_length, hy32]) (ones_bcs y) (by first | exact .head | exact (.tail .head) | exact (.tail (.tail .head)) | exact (.tail (.tail (.tail .head))) | exact (.tail (.tail (.tail (.tail .head)))) | exact (.tail (.tail (.tail (.tail (.tail .head))))) | exact (.tail (.tail (.tail (.tail (.tail (.tail .head)))))) | exact (.tail (.tail (.tail (.tail (.tail (.tail (.tail .head))))))) | exact (.tail (.tail (.tail (.tail (.tail (.tail (.tail (.tail .head)))))))) | exact (.tail (.tail (.tail (.tail (.tail (.tail (.tail (.tail (.tail .head)))))))))) rfl ?_; clear M; intro w13 M; simp only [Act.put, List.setIfInBounds_toArray, List.set_cons_succ, List.set_cons_zero]) | fail)
  obtain ⟨cs, hcs⟩ : ∃ cs, pcells false Acct.zero (.slice none 0 0) = cs := ⟨_, rfl⟩
  have hl' := pcells_length false Acct.zero (.slice none 0 0)
  have ho := ones_pcells false Acct.zero none 0 0
  have hT := tyProof
  have hp := fun w => prove0 w id (.pointer none)
  have h0 : (pcells false Acct.zero (.slice none 0 0))[0]? = some (.bool false) := rfl
  have h47 : (pcells false Acct.zero (.slice none 0 0))[47]? = some (.slice none 0 0) := rfl
  have hth := fun w => there_any w false Acct.zero (.slice none 0 0)
  unfold pv at hp hth
  rw [hcs] at hl' ho hT hp h0 h47 hth
  simp only [Bool.false_eq_true, if_false] at hth
  have HL := Lib.hid hl'
  have HP := Lib.hid hp
  have H0 := Lib.hid h0
  have H47 := Lib.hid h47
  have HTH := Lib.hid hth
  clear hl' hp h0 h47 hth hcs
  refine wp_draw M [told none [] (hvar b9 y), told none [] (hvar b8 x), told none [0] (pts b7 35 (ncs id)), told none [] (wrA F bw l), tnew 4 (some 5) [] 102 cs, ⟨some 5, none, [], [4], fun gs => pts (blkOf (gs.headD (gq undef)).1) 102 cs⟩]
    [.q, .q, ospV (.slice none 0 0), ospV (.agg cs.toArray), ospP, ospU] (by kernel_rfl) rfl (by kernel_rfl) ?_
  (refine walk_loadn rfl rfl tyNum rfl rfl (fun w hI => range2 (ins_get hI 2 rfl rfl) rfl rfl) ?_; simp only [Act.put, List.setIfInBounds_toArray, List.set_cons_succ, List.set_cons_zero])
  (apply walk_q rfl; (intro w1 hI; apply Same.of_wp rfl rfl (Nat.le_of_ble_eq_true rfl); intro KK QQ hK; simp only [Act.put, List.setIfInBounds_toArray, List.set_cons_succ, List.set_cons_zero] at hK; go_step; exact hK); simp only [Act.put, List.setIfInBounds_toArray, List.set_cons_succ, List.set_cons_zero])
  (refine walk_pure rfl rfl rfl rfl (fun w hI K Q hK => by go_step; exact Calls.mono (eaccs0 w be (HG.out.below (hbw.out w hI.frame))) (by rintro e w' ⟨rfl, hb⟩; exact hK _ hb)) ?_; simp only [Act.put, List.setIfInBounds_toArray, List.set_cons_succ, List.set_cons_zero])
  (refine walk_pure rfl rfl rfl rfl (fun w hI K Q hK => by go_step; exact Calls.mono (HP.out w) (by rintro e w' ⟨rfl, hb⟩; exact hK _ hb)) ?_; simp only [Act.put, List.setIfInBounds_toArray, List.set_cons_succ, List.set_cons_zero])
  (refine walk_alloc 4 rfl rfl rfl hT rfl rfl rfl (fun _ => rfl) fun b11 => ?_; simp only [Act.put, List.setIfInBounds_toArray, List.set_cons_succ, List.set_cons_zero])
  refine walk_store 4 5 cs rfl rfl rfl rfl hT rfl HL.out ho (by rw [HL.out]; exact Nat.le_of_ble_eq_true rfl) rfl rfl rfl rfl rfl rfl (by rw [splice_all _ _ rfl]; rfl) ?_
  refine walk_nil fun w14 M => ?_
  replace M : Sep F w w14 [hvar b9 y, hvar b8 x, pts b7 35 (ncs id), wrA F bw l, pts b11 102 cs] := M
  go_wp2_with (fail)
  refine wp_draw M [told none [2] (hvar b9 y), told none [1] (hvar b8 x), told none [] (pts b7 35 (ncs id)), told (some 4) [] (wrA F bw l), told none [5] (pts b11 102 cs), tnew 3 none [4] 30 (hcs [x, y]),
      ⟨some 4, some 8, [], [4], fun gs => wrA (gs.headD (gq undef)).2 bw (l ++ [x, y].flatten)⟩, tnew 7 none [8] 3 [.int .i64 0], ⟨some 8, none, [], [8], fun gs => wrA (gs.headD (gq undef)).2 bw (l ++ [x, y].flatten ++ [0].flatMap (beN 1))⟩]
    [.q, .q, .q, ospB 2, ospTS (fun k => F k ∨ w.heap.size ≤ k) (ptr bw 0), .q, ospV (.int .i64 0), ospB 1, ospTS (fun k => F k ∨ w.heap.size ≤ k) (ptr bw 0)] (by kernel_rfl) rfl (by kernel_rfl) ?_
  (apply walk_q rfl; (intro w1 hI; apply Same.of_wp rfl rfl (Nat.le_of_ble_eq_true rfl); intro KK QQ hK; simp only [Act.put, List.setIfInBounds_toArray, List.set_cons_succ, List.set_cons_zero] at hK; go_step; exact hK); simp only [Act.put, List.setIfInBounds_toArray, List.set_cons_succ, List.set_cons_zero])
  (refine walk_loadn rfl rfl tyHash (by rw [bcs_length, hx32]) rfl (hvar_load 1 rfl rfl rfl) ?_; simp only [Act.put, List.setIfInBounds_toArray, List.set_cons_succ, List.set_cons_zero])
  (refine walk_loadn rfl rfl tyHash (by rw [bcs_length, hy32]) rfl (hvar_load 0 rfl rfl rfl) ?_; simp only [Act.put, List.setIfInBounds_toArray, List.set_cons_succ, List.set_cons_zero])
  (refine walk_bslice elem_hash 5 [.agg (bcs x).toArray, .agg (bcs y).toArray] rfl rfl rfl rfl (by intro v hv; simp at hv; rcases hv with rfl | rfl <;> simp [Value.cells, bcs_length, hx32, hy32]) rfl (by decide) (by decide) rfl rfl rfl (fun _ => rfl) fun b27 => ?_; simp only [Act.put, List.setIfInBounds_toArray, List.set_cons_succ, List.set_cons_zero])
  refine walk_turn (U := wrA F bw l) (N := fun F => wrA F bw (l ++ [x, y].flatten)) 3 6 (F := F) (fun k hk => .inl hk) (fun w1 k hc h => .inr (Nat.le_trans hc.size h)) rfl (fun _ _ h => h) rfl rfl rfl rfl rfl rfl rfl (fun _ => rfl) (fun _ => rfl) (fun w1 hI hT K Q hK => ?_) (fun F1 HF1 => ?_)
  · have hS := ins_get hI 5 rfl rfl
    have hA := ins_apart hI 5 3 rfl rfl rfl rfl rfl b27 rfl
    go_step
    exact Calls.mono (whash_wr w1 F bw l hT _ [x, y] (pts.sl (b := b27) (e := 30) (cs := hcs [x, y]) hS (hcs_length [x, y] (by intro h hm; simp at hm; rcases hm with rfl | rfl <;> assumption)) (Nat.le_of_ble_eq_true rfl)) (by simp; omega) (by intro h hm; simp at hm; rcases hm with rfl | rfl <;> assumption) (by rintro k ⟨⟩; exact hA) (by simp)) (by rintro e w' h; have h' := h; obtain ⟨rfl, -⟩ := h; exact hK _ _ h')
  simp only [Act.put, List.setIfInBounds_toArray, List.set_cons_succ, List.set_cons_zero]
  have HF1' := Lib.hid HF1
  clear HF1
  (refine walk_loadn rfl rfl hT HL.out rfl (fun w hI => range_all (ins_get hI 4 rfl rfl)) ?_; simp only [Act.put, List.setIfInBounds_toArray, List.set_cons_succ, List.set_cons_zero])
  (refine walk_pure rfl rfl rfl rfl (fun w hI K Q hK => by go_step; exact Calls.mono (HTH.out w) (by rintro e w' ⟨rfl, hb⟩; exact hK _ hb)) ?_; simp only [Act.put, List.setIfInBounds_toArray, List.set_cons_succ, List.set_cons_zero])
  (refine walk_bslice elemInt 7 [.int .i64 0] rfl rfl rfl rfl (by intro v hv; obtain rfl := List.mem_singleton.1 hv; rfl) rfl (by decide) (by decide) rfl rfl rfl (fun _ => rfl) fun b31 => ?_; simp only [Act.put, List.setIfInBounds_toArray, List.set_cons_succ, List.set_cons_zero])
  refine walk_turn (U := wrA F1 bw (l ++ [x, y].flatten)) (N := fun F => wrA F bw (l ++ [x, y].flatten ++ [0].flatMap (beN 1))) 6 8 (F := F1) HF1'.out (fun w1 k hc h => .inr (Nat.le_trans hc.size h)) rfl (fun _ _ h => h) rfl rfl rfl rfl rfl rfl rfl (fun _ => rfl) (fun _ => rfl) (fun w1 hI hT K Q hK => ?_) (fun F2 HF2 => ?_)
  · have hS := ins_get hI 7 rfl rfl
    have hA := ins_apart hI 7 6 rfl rfl rfl rfl rfl b31 rfl
    go_step
    exact Calls.mono (int_wr w1 F1 bw _ hT 1 _ [0] (by decide) (pts.sl (b := b31) (e := 3) (cs := [.int .i64 0]) hS rfl (Nat.le_of_ble_eq_true rfl)) (by simp [hx32, hy32]; omega) (by simp) (by rintro k ⟨⟩; exact hA) (by simp)) (by rintro e w' h; have h' := h; obtain ⟨rfl, -⟩ := h; exact hK _ _ h')
  simp only [Act.put, List.setIfInBounds_toArray, List.set_cons_succ, List.set_cons_zero]
  refine walk_nil fun w15 M => ?_
  replace M : Sep F w w15 [hvar b9 y, hvar b8 x, pts b7 35 (ncs id), pts b11 102 cs, pts b27 30 (hcs [x, y]), pts b31 3 [.int .i64 0], wrA F2 bw (l ++ [x, y].flatten ++ [0].flatMap (beN 1))] := M
  go_wp2_with (first | ((with_reducible refine wl_at ⟨some 34, _, _, _, _, _⟩ ?_); refine wl_load1 M rfl rfl rfl tyBool (by first | exact (.head _) | exact (.tail _ (.head _)) | exact (.tail _ (.tail _ (.head _))) | exact (.tail _ (.tail _ (.tail _ (.head _)))) | exact (.tail _ (.tail _ (.tail _ (.tail _ (.head _))))) | exact (.tail _ (.tail _ (.tail _ (.tail _ (.tail _ (.head _)))))) | exact (.tail _ (.tail _ (.tail _ (.tail _ (.tail _ (.tail _ (.head _))))))) | exact (.tail _ (.tail _ (.tail _ (.tail _ (.tail _ (.tail _ (.tail _ (.head _)))))))) | exact (.tail _ (.tail _ (.tail _ (.tail _ (.tail _ (.tail _ (.tail _ (.tail _ (.head _))))))))) | exact (.tail _ (.tail _ (.tail _ (.tail _ (.tail _ (.tail _ (.tail _ (.tail _ (.tail _ (.head _))))))))))) H0.out ?_; simp only [Act.put, List.setIfInBounds_toArray, List.set_cons_succ, List.set_cons_zero]) | ((with_reducible refine wl_at ⟨some 43, _, _, _, _, _⟩ ?_); refine wl_plain rfl fun _ hK => wp_load1 rfl rfl tyHashes (pts.cell (M.get 3 rfl) _ H47.out) (hK _ _ ?_); simp only [Act.put, List.setIfInBounds_toArray, List.set_cons_succ, List.set_cons_zero]) | fail)
  have hF2 : ∀ k, F2 k → F k ∨ w.heap.size ≤ k := M.own _ (.tail _ (.tail _ (.tail _ (.tail _ (.tail _ (.tail _ (.head _)))))))
  refine Calls.mono (hashes_any w15 F2 bw _ (M.get 6 rfl) (.slice none 0 0) [] (Sl.nil _ _) (by simp [hx32, hy32, beN_length]; omega) (by simp) (by simp [Value.ownBlock]) (by simp [Value.ownBlock])) ?_
  rintro e w16 ⟨rfl, F3, hk, hT3, hf⟩
  replace M := M.repl (.tail (.tail (.tail (.tail (.tail (.tail .head)))))) hk hT3 hf
  go_wp2_with (fail)
  go_end0
  refine ⟨rfl, F3, M.keep, ?_, M.own _ (.tail _ (.tail _ (.tail _ (.tail _ (.tail _ (.tail _ (.head _)))))))⟩
  have h := M.get 6 rfl
  simpa [beN, HXE.out, HYE.out] using h
theorem tyWriter : Ty Tryz.prog 92 1 true [.slice none 0 0] := ⟨Tryz.sizeOf92, Tryz.isAgg92, fun w => ⟨_, Tryz.zeroValue92 w, rfl⟩⟩
theorem OwnB.lower {w : World} {base base' : Nat} {e : TypeId} {v : Value} {l : List UInt8} (h : OwnB w base e v l) (hb : base' ≤ base) : OwnB w base' e v l := by
  obtain ⟨hl, h5 | ⟨g, cap, cur, rfl, h5, h6⟩⟩ := h
  · exact ⟨hl, .inl h5⟩
  · exact ⟨hl, .inr ⟨g, cap, cur, rfl, Nat.le_trans hb h5, h6⟩⟩
/-- What shows that there is no account. -/
def none0 : List UInt8 := [1] ++ sha [] ++ sha [4] ++ [0] ++ [0]
theorem none0_length : none0.length = 67 := by simp [none0, sha_length]
set_option maxHeartbeats 1600000 in
set_option maxRecDepth 100000 in
theorem ofacc0 (w : World) (E : Nat) (hE : EnvS w E) (bc be : Nat) (hC : Chain0 w bc) (hG : Eng0 w be) (id : Num) :
    Calls Tryz.prog 16 #[ptr bc 0, ptr be 0, nv id] w fun e w' => ∃ v, e = .returned v ∧ OwnB w' w.heap.size 5 v none0 ∧ Below w.heap.size w w' := by
  have M := Sep.start (fun _ => False) w
  have HC := Lib.hid hC
  have HG := Lib.hid hG
  have HE := Lib.hid hE
  clear hC hG hE
  go_enter Tryz.func16, Tryz.ntmps16
  go_wp2_with (first | ((with_reducible refine wl_at ⟨some 5, _, _, _, _, _⟩ ?_); refine wl_box M (_) rfl rfl rfl rfl ?_; clear M; intro b5 w5 M; simp only [Act.put, List.setIfInBounds_toArray, List.set_cons_succ, List.set_cons_zero]) | (((with_reducible refine wl_at ⟨some 7, _, _, _, _, _⟩ ?_); refine wl_alloc M rfl rfl tyWriter ?_; clear M; intro b7 w7 M; simp only [Act.put, List.setIfInBounds_toArray, List.set_cons_succ, List.set_cons_zero]); have M := M.conv .head wrA_new (fun _ h => h)) | ((with_reducible refine wl_at ⟨some 8, _, _, _, _, _⟩ ?_); refine wl_bslice M elemInt [(.int .i64 1)] rfl rfl rfl (by intro v hv; obtain rfl := List.mem_singleton.1 hv; exact rfl) rfl (by decide) (by decide) ?_; clear M; intro b8 w8 M; simp only [Act.put, List.setIfInBounds_toArray, List.set_cons_succ, List.set_cons_zero]) | fail)
  have hd8 : ∀ k, k = b8 → ¬ k = b7 := fun k h => by have := M.disj; simp [pts, wrA] at this; rw [h]; exact this.1.1
  refine Calls.mono (int_wr w8 _ b7 [] (M.get 1 rfl) 1 _ [1] (by decide) (pts.sl (M.get 0 rfl) rfl (Nat.le_of_ble_eq_true rfl)) (by simp) (by simp) (by rintro k ⟨⟩; exact hd8 _ rfl) (by simp)) ?_
  rintro e w9 ⟨rfl, F1, hk, hT, hf⟩
  replace M := M.repl (.tail .head) hk hT hf
  clear hk hT hf hd8
  go_wp2_with (first | ((with_reducible refine wl_at ⟨some 12, _, _, _, _, _⟩ ?_); refine wl_load2 M rfl rfl rfl tyNum (by first | exact (.head _) | exact (.tail _ (.head _)) | exact (.tail _ (.tail _ (.head _))) | exact (.tail _ (.tail _ (.tail _ (.head _)))) | exact (.tail _ (.tail _ (.tail _ (.tail _ (.head _))))) | exact (.tail _ (.tail _ (.tail _ (.tail _ (.tail _ (.head _)))))) | exact (.tail _ (.tail _ (.tail _ (.tail _ (.tail _ (.tail _ (.head _))))))) | exact (.tail _ (.tail _ (.tail _ (.tail _ (.tail _ (.tail _ (.tail _ (.head _)))))))) | exact (.tail _ (.tail _ (.tail _ (.tail _ (.tail _ (.tail _ (.tail _ (.tail _ (.head _))))))))) | exact (.tail _ (.tail _ (.tail _ (.tail _ (.tail _ (.tail _ (.tail _ (.tail _ (.tail _ (.head _))))))))))) rfl rfl ?_; simp only [Act.put, List.setIfInBounds_toArray, List.set_cons_succ, List.set_cons_zero]) | fail)
  have hF1 : ∀ k, F1 k → w.heap.size ≤ k := fun k hk => (M.own _ (.tail _ (.head _)) k hk).resolve_left (fun h => h)
  refine Calls.mono (begin0 w w9 E HE.out M.out F1 hF1 b7 _ (M.get 1 rfl) (by simp [beN_length]) bc be HC.out HG.out id) ?_
  rintro e w10 ⟨rfl, F2, hk, hT, hf⟩
  replace M := M.repl (.tail .head) hk hT hf
  clear hk hT hf hF1
  go_wp2_with (fail)
  have hsz := M.out.size
  refine Calls.mono (bytes_wr w10 F2 b7 _ (M.get 1 rfl) (by simp [beN_length, sha_length])) ?_
  rintro e w11 ⟨v, rfl, ho, hb⟩
  replace M := M.below hb
  clear hb
  go_wp2_with (fail)
  go_ret
  refine ⟨v, rfl, ?_, M.out⟩
  have ho' := OwnB.lower ho hsz
  simpa [none0, beN] using ho'
end Go.Proofs.YtbenjjaofabdcaaGreatDoor
