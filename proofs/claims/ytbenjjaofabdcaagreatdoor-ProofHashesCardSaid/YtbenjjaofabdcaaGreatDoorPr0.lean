/-
  Proofs of an empty database: state.Prove, proof.begin, proof.OfAccount.
-/
import Derived.Test.YtbenjjaofabdcaaGreatDoorWr
import Derived.Test.YtbenjjaofabdcaaGreatDoorR3
namespace Go.Proofs.YtbenjjaofabdcaaGreatDoor
open Go Go.RowKit

def Acct.zero : Acct := ⟨Num.zero, 0, 0, Num.zero, Num.zero, Num.zero, Num.zero, 0, 0, List.replicate 32 0, rfl⟩
def pcells (there : Bool) (a : Acct) (path : Value) : List Value := .bool there :: (acells a ++ [path])
theorem tyProof : Ty Tryz.prog 102 48 true (pcells false Acct.zero (.slice none 0 0)) := ⟨Tryz.sizeOf102, Tryz.isAgg102, fun w => ⟨_, Tryz.zeroValue102 w, rfl⟩⟩
theorem pcells_length (there : Bool) (a : Acct) (path : Value) : (pcells there a path).length = 48 := by simp [pcells, acells_length]
theorem ones_pcells (there : Bool) (a : Acct) (ao : Option Addr) (n c : Nat) : ones (pcells there a (.slice ao n c)) := by
  have : pcells there a (.slice ao n c) = [.bool there] ++ (acells a ++ [.slice ao n c]) := rfl
  rw [this]
  exact ones_append (ones_of rfl) (ones_append (ones_acells a) (ones_of rfl))
abbrev pv (there : Bool) (a : Acct) (path : Value) : Value := .agg (pcells there a path).toArray
set_option maxHeartbeats 1600000 in
set_option maxRecDepth 100000 in
theorem prove0 (w : World) (id : Num) (t : Value) : Calls Tryz.prog 63 #[t, nv id, .slice none 0 0] w fun e w' => e = .returned (pv false Acct.zero (.slice none 0 0)) ∧ Below w.heap.size w w' := by
  have M := Sep.start (fun _ => False) w
  obtain ⟨cs, hcs⟩ : ∃ cs, pcells false Acct.zero (.slice none 0 0) = cs := ⟨_, rfl⟩
  have hl := pcells_length false Acct.zero (.slice none 0 0)
  have ho := ones_pcells false Acct.zero none 0 0
  have hT := tyProof
  unfold pv
  rw [hcs] at hl ho hT ⊢
  have HL := Lib.hid hl
  clear hl hcs
  go_enter Tryz.func63, Tryz.ntmps63
  go_wp2_with (first | ((with_reducible refine wl_at ⟨some 4, _, _, _, _, _⟩ ?_); refine wl_box M (_) rfl rfl rfl rfl ?_; clear M; intro b4 w4 M; simp only [Act.put, List.setIfInBounds_toArray, List.set_cons_succ, List.set_cons_zero]) | ((with_reducible refine wl_at ⟨some 6, _, _, _, _, _⟩ ?_); refine wl_alloc M rfl rfl hT ?_; clear M; intro b6 w6 M; simp only [Act.put, List.setIfInBounds_toArray, List.set_cons_succ, List.set_cons_zero]) | ((with_reducible refine wl_at ⟨some 7, _, _, _, _, _⟩ ?_); refine wl_alloc M rfl rfl hT ?_; clear M; intro b7 w7 M; simp only [Act.put, List.setIfInBounds_toArray, List.set_cons_succ, List.set_cons_zero]) | fail)
  go_loopw [2, 8] (fun l i wr => l = .slice none 0 0 ∧ i = .int .i64 0 ∧ wr = w7) (fun _ _ _ => 0)
  case atStart => exact ⟨rfl, rfl, rfl⟩
  case round =>
    obtain ⟨rfl, rfl, rfl⟩ := hrel
    go_wp2_with (first | ((with_reducible refine wl_at ⟨some 44, _, _, _, _, _⟩ ?_); refine wl_loadn M rfl rfl rfl hT (by first | exact (.head _) | exact (.tail _ (.head _)) | exact (.tail _ (.tail _ (.head _))) | exact (.tail _ (.tail _ (.tail _ (.head _)))) | exact (.tail _ (.tail _ (.tail _ (.tail _ (.head _))))) | exact (.tail _ (.tail _ (.tail _ (.tail _ (.tail _ (.head _)))))) | exact (.tail _ (.tail _ (.tail _ (.tail _ (.tail _ (.tail _ (.head _))))))) | exact (.tail _ (.tail _ (.tail _ (.tail _ (.tail _ (.tail _ (.tail _ (.head _)))))))) | exact (.tail _ (.tail _ (.tail _ (.tail _ (.tail _ (.tail _ (.tail _ (.tail _ (.head _))))))))) | exact (.tail _ (.tail _ (.tail _ (.tail _ (.tail _ (.tail _ (.tail _ (.tail _ (.tail _ (.head _))))))))))) HL.out ?_; simp only [Act.put, List.setIfInBounds_toArray, List.set_cons_succ, List.set_cons_zero]) | ((with_reducible refine wl_at ⟨_, .store _ (.tmp 6) (.tmp 44), _, _, _, _⟩ ?_); refine wl_storen M (cs) rfl rfl rfl rfl hT rfl HL.out ho (by first | exact .head | exact (.tail .head) | exact (.tail (.tail .head)) | exact (.tail (.tail (.tail .head))) | exact (.tail (.tail (.tail (.tail .head)))) | exact (.tail (.tail (.tail (.tail (.tail .head))))) | exact (.tail (.tail (.tail (.tail (.tail (.tail .head)))))) | exact (.tail (.tail (.tail (.tail (.tail (.tail (.tail .head))))))) | exact (.tail (.tail (.tail (.tail (.tail (.tail (.tail (.tail .head)))))))) | exact (.tail (.tail (.tail (.tail (.tail (.tail (.tail (.tail (.tail .head)))))))))) HL.out ?_; clear M; intro w8 M; simp only [Act.put, List.setIfInBounds_toArray, List.set_cons_succ, List.set_cons_zero]) | fail)
    refine bodyPost_ret (results_cell_mid rfl _ _ b6 0 cs _ rfl (range_all (M.get 1 rfl)) Tryz.underlying102 rfl ?_) rfl ⟨rfl, M.out⟩
    rw [HL.out]
    kernel_rfl
theorem there_any (w : World) (th : Bool) (a : Acct) (path : Value) : Calls Tryz.prog 65 #[pv th a path] w fun e w' => e = .returned (.int .i64 (if th then 1 else 0)) ∧ Below w.heap.size w w' := by
  have M := Sep.start (fun _ => False) w
  obtain ⟨cs, hcs, h0⟩ : ∃ cs, pcells th a path = cs ∧ cs[0]? = some (.bool th) := ⟨_, rfl, rfl⟩
  unfold pv
  rw [hcs]
  have H0 := Lib.hid h0
  clear hcs h0
  go_enter Tryz.func65, Tryz.ntmps65
  cases th with
  | false =>
    go_wp2_with (first | ((with_reducible refine wl_at ⟨some 1, _, _, _, _, _⟩ ?_); refine wl_box M (_) rfl rfl rfl rfl ?_; clear M; intro b1 w1 M; simp only [Act.put, List.setIfInBounds_toArray, List.set_cons_succ, List.set_cons_zero]) | ((with_reducible refine wl_at ⟨some 4, _, _, _, _, _⟩ ?_); refine wl_load1 M rfl rfl rfl tyBool (by first | exact (.head _) | exact (.tail _ (.head _)) | exact (.tail _ (.tail _ (.head _))) | exact (.tail _ (.tail _ (.tail _ (.head _)))) | exact (.tail _ (.tail _ (.tail _ (.tail _ (.head _))))) | exact (.tail _ (.tail _ (.tail _ (.tail _ (.tail _ (.head _)))))) | exact (.tail _ (.tail _ (.tail _ (.tail _ (.tail _ (.tail _ (.head _))))))) | exact (.tail _ (.tail _ (.tail _ (.tail _ (.tail _ (.tail _ (.tail _ (.head _)))))))) | exact (.tail _ (.tail _ (.tail _ (.tail _ (.tail _ (.tail _ (.tail _ (.tail _ (.head _))))))))) | exact (.tail _ (.tail _ (.tail _ (.tail _ (.tail _ (.tail _ (.tail _ (.tail _ (.tail _ (.head _))))))))))) H0.out ?_; simp only [Act.put, List.setIfInBounds_toArray, List.set_cons_succ, List.set_cons_zero]) | fail)
    go_ret
    exact ⟨rfl, M.out⟩
  | true =>
    go_wp2_with (first | ((with_reducible refine wl_at ⟨some 1, _, _, _, _, _⟩ ?_); refine wl_box M (_) rfl rfl rfl rfl ?_; clear M; intro b1 w1 M; simp only [Act.put, List.setIfInBounds_toArray, List.set_cons_succ, List.set_cons_zero]) | ((with_reducible refine wl_at ⟨some 4, _, _, _, _, _⟩ ?_); refine wl_load1 M rfl rfl rfl tyBool (by first | exact (.head _) | exact (.tail _ (.head _)) | exact (.tail _ (.tail _ (.head _))) | exact (.tail _ (.tail _ (.tail _ (.head _)))) | exact (.tail _ (.tail _ (.tail _ (.tail _ (.head _))))) | exact (.tail _ (.tail _ (.tail _ (.tail _ (.tail _ (.head _)))))) | exact (.tail _ (.tail _ (.tail _ (.tail _ (.tail _ (.tail _ (.head _))))))) | exact (.tail _ (.tail _ (.tail _ (.tail _ (.tail _ (.tail _ (.tail _ (.head _)))))))) | exact (.tail _ (.tail _ (.tail _ (.tail _ (.tail _ (.tail _ (.tail _ (.tail _ (.head _))))))))) | exact (.tail _ (.tail _ (.tail _ (.tail _ (.tail _ (.tail _ (.tail _ (.tail _ (.tail _ (.head _))))))))))) H0.out ?_; simp only [Act.put, List.setIfInBounds_toArray, List.set_cons_succ, List.set_cons_zero]) | fail)
    go_ret
    exact ⟨rfl, M.out⟩
set_option maxHeartbeats 1600000 in
set_option maxRecDepth 100000 in
theorem hashes_any (w : World) (F : Nat → Prop) (bw : Nat) (l : List UInt8) (hW : (wrA F bw l).holds w) (v : Value) (hs : List (List UInt8)) (hx : Sl w 32 v hs.length (hcs hs)) (hlen : l.length + hs.length * 32 ≤ 549755813888)
    (h32 : ∀ h ∈ hs, h.length = 32) (hv : ∀ k, v.ownBlock = some k → ¬ F k) (hvl : ∀ k, v.ownBlock = some k → k < w.heap.size) :
    Calls Tryz.prog 68 #[ptr bw 0, v] w (CPost (fun F => wrA F bw (l ++ beN 1 hs.length ++ hs.flatten)) F (.tuple #[]) w) := by
  have M := Sep.one hW
  obtain ⟨ao, c, rfl⟩ := hx.form
  obtain ⟨n, hn⟩ : ∃ n, hs.length = n := ⟨_, rfl⟩
  have HX := Lib.hid hx
  have HV := Lib.hid hv
  have H32 := Lib.hid h32
  have HN := Lib.hid hn
  rw [hn] at hlen ⊢
  have HVL := Lib.hid hvl
  clear hvl
  clear hx hv h32
  have hlt : ∀ k, F k → k < w.heap.size := hW.2.2
  have HLT := Lib.hid hlt
  clear hlt hW hn
  go_enter Tryz.func68, Tryz.ntmps68
  go_wp2_with (first | ((with_reducible refine wl_at ⟨some 7, _, _, _, _, _⟩ ?_); refine wl_bslice M elemInt [(.int .i64 n)] rfl rfl rfl (by intro v hv; obtain rfl := List.mem_singleton.1 hv; exact rfl) rfl (by decide) (by decide) ?_; clear M; intro b7 w7 M; simp only [Act.put, List.setIfInBounds_toArray, List.set_cons_succ, List.set_cons_zero]) | fail)
  refine Calls.mono (int_wr w7 F bw l (M.get 1 rfl) 1 _ [n] (by decide) (pts.sl (M.get 0 rfl) rfl (Nat.le_of_ble_eq_true rfl)) (by simp; omega) (by simp; omega) (by rintro k ⟨⟩ hF; have := M.disj; simp at this; exact this _ rfl hF) (by simp)) ?_
  rintro e w8 ⟨rfl, F1, hk, hT, hf⟩
  replace M := M.repl (.tail .head) hk hT hf
  clear hk hT hf
  go_wp2_with (fail)
  have hF1 : ∀ k, F1 k → F k ∨ w.heap.size ≤ k := M.own _ (.tail _ (.head _))
  refine Calls.mono (whash_wr w8 F1 bw _ (M.get 1 rfl) _ hs (HN.out ▸ HX.out.kp M.keep HV.out) (by rw [HN.out]; simp [beN_length]; omega) H32.out (fun k hk hF => (hF1 k hF).elim (HV.out k (by rw [HN.out]; exact hk)) fun h => by have := HVL.out k (by rw [HN.out]; exact hk); omega) (by rw [HN.out]; omega)) ?_
  rintro e w9 ⟨rfl, F2, hk, hT, hf⟩
  replace M := M.repl (.tail .head) hk hT hf
  clear hk hT hf hF1
  go_wp2_with (fail)
  go_end0
  refine ⟨rfl, F2, M.keep, ?_, M.own _ (.tail _ (.head _))⟩
  have h := M.get 1 rfl
  simpa using h
end Go.Proofs.YtbenjjaofabdcaaGreatDoor
