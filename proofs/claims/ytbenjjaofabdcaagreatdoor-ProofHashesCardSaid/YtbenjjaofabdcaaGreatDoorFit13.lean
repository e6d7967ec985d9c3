/-
  paciolilaw13.fit; paciolilaw11.Light of nothing.
-/
import Derived.Test.YtbenjjaofabdcaaGreatDoorBeg0
namespace Go.Proofs.YtbenjjaofabdcaaGreatDoor
open Go Go.RowKit

set_option maxHeartbeats 1600000 in
set_option maxRecDepth 100000 in
theorem light0 (w : World) : Calls Tryz.prog 18 #[.slice none 0 0] w fun e w' => e = .returned (.bool true) ∧ Below w.heap.size w w' := by
  go_enter Tryz.func18, Tryz.ntmps18
  go_wp2_with (fail)
  go_loopw [10] (fun i wr => i = .int .i64 0 ∧ wr = w) (fun _ _ => 0)
  case atStart => exact ⟨rfl, rfl⟩
  case round =>
    obtain ⟨rfl, rfl⟩ := hrel
    go_wp2_with (fail)
    go_ret
    exact ⟨rfl, Below.refl _ _⟩
theorem u128of_any (w : World) (n : Nat) (hn : n < M64) : Calls Tryz.prog 17 #[.int .u64 n] w fun e w' => e = .returned (nv ⟨0, n, by decide, hn⟩) ∧ Below w.heap.size w w' := by
  have M := Sep.start (fun _ => False) w
  go_enter Tryz.func17, Tryz.ntmps17
  go_wp2_with (first | ((with_reducible refine wl_at ⟨some 2, _, _, _, _, _⟩ ?_); refine wl_alloc M rfl rfl tyNum ?_; clear M; intro b2 w2 M; simp only [Act.put, List.setIfInBounds_toArray, List.set_cons_succ, List.set_cons_zero]) | ((with_reducible refine wl_at ⟨_, .store _ (.tmp 2) (.tmp 4), _, _, _, _⟩ ?_); refine wl_storen M ([.int .u64 0, .int .u64 n]) rfl rfl rfl rfl tyNum rfl rfl (ones_of rfl) (by first | exact .head | exact (.tail .head) | exact (.tail (.tail .head)) | exact (.tail (.tail (.tail .head))) | exact (.tail (.tail (.tail (.tail .head)))) | exact (.tail (.tail (.tail (.tail (.tail .head))))) | exact (.tail (.tail (.tail (.tail (.tail (.tail .head)))))) | exact (.tail (.tail (.tail (.tail (.tail (.tail (.tail .head))))))) | exact (.tail (.tail (.tail (.tail (.tail (.tail (.tail (.tail .head)))))))) | exact (.tail (.tail (.tail (.tail (.tail (.tail (.tail (.tail (.tail .head)))))))))) rfl ?_; clear M; intro w3 M; simp only [Act.put, List.setIfInBounds_toArray, List.set_cons_succ, List.set_cons_zero]) | fail)
  exact bodyPost_ret (results_n rfl _ _ b2 ⟨0, n, by decide, hn⟩ rfl (range_all (M.get 0 rfl))) rfl ⟨rfl, M.out⟩
theorem tyChainP : Ty Tryz.prog 51 1 false [.pointer none] := ⟨Tryz.sizeOf51, Tryz.isAgg51, fun w => ⟨_, Tryz.zeroValue51 w, rfl⟩⟩
set_option maxHeartbeats 1600000 in
set_option maxRecDepth 100000 in
theorem fit13 (w : World) (E : Nat) (hE : EnvS w E) : Calls Tryz.prog 5 #[] w fun e w' => e = .returned (.bool true) ∧ Below w.heap.size w w' := by
  have HE := Lib.hid hE
  clear hE
  go_enter Tryz.func5, Tryz.ntmps5
  go_wp2_with (fail)
  refine Calls.mono (wnew0 w E HE.out) ?_
  rintro e w1 ⟨b, rfl, hw, hb1⟩
  obtain ⟨be, bc, ao, c, h1, h2, h3⟩ := hw.ex
  have E1 := Lib.hid (HE.out.below hb1 HE.out.le)
  have HB1 := Lib.hid hb1
  have HW := Lib.hid h1
  have HG := Lib.hid h2
  have HC := Lib.hid h3
  clear hw hb1 h1 h2 h3
  have M := Sep.start (fun _ => False) w1
  go_wp2_with (fail)
  refine wp_draw M [⟨some 9, none, [], [9], fun gs => rowA 5 1 (gs.headD (gq undef)).1 67 (bcs none0)⟩]
    [.q, .q, .q, .q, .q, .q, .q, .q, ospV (nv ⟨0, 1, by decide, by decide⟩), ospS 67, .q] (by kernel_rfl) rfl (by kernel_rfl) ?_
  iterate 3 (apply walk_q rfl; (intro w1 hI; apply Same.of_wp rfl rfl (Nat.le_of_ble_eq_true rfl); intro KK QQ hK; simp only [Act.put, List.setIfInBounds_toArray, List.set_cons_succ, List.set_cons_zero] at hK; go_step; exact hK); simp only [Act.put, List.setIfInBounds_toArray, List.set_cons_succ, List.set_cons_zero])
  refine walk_load1 rfl rfl tyChainP rfl (fun w2 hI => pts.cell ((pts _ _ _).loc HW.out fun k hk => hI.frame.block k ((pts _ _ _).lt HW.out k hk) (fun h => h)) _ rfl) ?_
  simp only [Act.put, List.setIfInBounds_toArray, List.set_cons_succ, List.set_cons_zero]
  iterate 3 (apply walk_q rfl; (intro w1 hI; apply Same.of_wp rfl rfl (Nat.le_of_ble_eq_true rfl); intro KK QQ hK; simp only [Act.put, List.setIfInBounds_toArray, List.set_cons_succ, List.set_cons_zero] at hK; go_step; exact hK); simp only [Act.put, List.setIfInBounds_toArray, List.set_cons_succ, List.set_cons_zero])
  refine walk_load1 rfl rfl tyEngP rfl (fun w2 hI => pts.cell ((pts _ _ _).loc HW.out fun k hk => hI.frame.block k ((pts _ _ _).lt HW.out k hk) (fun h => h)) _ rfl) ?_
  simp only [Act.put, List.setIfInBounds_toArray, List.set_cons_succ, List.set_cons_zero]
  (refine walk_pure rfl rfl rfl rfl (fun w hI K Q hK => by go_step; exact Calls.mono (u128of_any w 1 (by decide)) (by rintro e w' ⟨rfl, hb⟩; exact hK _ hb)) ?_; simp only [Act.put, List.setIfInBounds_toArray, List.set_cons_succ, List.set_cons_zero])
  refine walk_new 0 rfl rfl rfl rfl rfl ⟨_, none, 0, rfl⟩ (fun w2 hI K Q hK => ?_) ?_
  · go_step
    have hfr := hI.frame.below (Nat.le_refl _) (fun _ h => h.elim)
    refine Calls.mono (ofacc0 w2 E (E1.out.below hfr E1.out.le) bc be (HC.out.below hfr) (HG.out.below hfr) _) ?_
    rintro e w' ⟨v, rfl, ho, hb⟩
    have hbase := ho.base
    obtain ⟨ao, c, rfl⟩ := ho.form
    have h0 := OwnB.lower ho (Nat.zero_le _)
    unfold OwnB at h0
    rw [none0_length] at h0 hbase ⊢
    exact hK (gq (.slice ao 67 c)) w' ⟨ao, c, rfl⟩ hb h0 hbase
  rintro g ⟨ao', c', rfl⟩
  simp only [Act.put, List.setIfInBounds_toArray, List.set_cons_succ, List.set_cons_zero]
  (apply walk_q rfl; (intro w1 hI; apply Same.of_wp rfl rfl (Nat.le_of_ble_eq_true rfl); intro KK QQ hK; simp only [Act.put, List.setIfInBounds_toArray, List.set_cons_succ, List.set_cons_zero] at hK; go_step; exact hK); simp only [Act.put, List.setIfInBounds_toArray, List.set_cons_succ, List.set_cons_zero])
  refine walk_nil fun w3 M => ?_
  replace M : Sep (fun _ => False) w1 w3 [rowA 5 1 (.slice ao' 67 c') 67 (bcs none0)] := M
  have hO : OwnB w3 0 5 (.slice ao' none0.length c') none0 := by unfold OwnB; rw [none0_length]; exact M.get 0 rfl
  obtain ⟨g, c2, he, -, hg, -⟩ := hO.solid (by rw [none0_length]; decide)
  simp only [Value.slice.injEq] at he
  obtain ⟨rfl, -, rfl⟩ := he
  have k0 := hO.at_ 0 (by rw [none0_length]; decide)
  have k65 := hO.at_ 65 (by rw [none0_length]; decide)
  have hB13 : Below w.heap.size w w3 := HB1.out.trans (M.out.mono HB1.out.size)
  have B13 := Lib.hid hB13
  clear hO hB13 M
  have e0 : none0[0]? = some 1 := rfl
  have e65 : none0[65]? = some 0 := by simp [none0, sha_length]
  rw [show u8c none0[0] = .int .u8 1 from rfl] at k0
  have e65' : u8c (none0[65]'(by rw [none0_length]; decide)) = .int .u8 0 := by rw [(List.getElem?_eq_some_iff.1 e65).2]; rfl
  rw [e65'] at k65
  dsimp only [gq]
  clear e0 e65 e65'
  go_wp2_with (fail)
  refine Calls.mono (wnew0 w3 E (HE.out.below B13.out HE.out.le)) ?_
  rintro e w4 ⟨b4, rfl, hw4, hb4⟩
  obtain ⟨be4, bc4, ao4, c4, q1, -, -⟩ := hw4.ex
  have k2 : w4.cell? ⟨b4, 2, none⟩ = some (.slice none 0 0) := pts.cell q1 2 rfl
  have B14 := Lib.hid (B13.out.trans (hb4.mono B13.out.size))
  clear hw4 hb4 q1 k0 k65
  go_wp2_with (fail)
  refine Calls.mono (light0 w4) ?_
  rintro e w5 ⟨rfl, hb5⟩
  have B15 := Lib.hid (B14.out.trans (hb5.mono B14.out.size))
  clear hb5
  go_wp2_with (fail)
  go_ret
  exact ⟨rfl, B15.out⟩
end Go.Proofs.YtbenjjaofabdcaaGreatDoor
