/-
  paciolilaw12.New of no requests.
-/
import Derived.Test.YtbenjjaofabdcaaGreatDoorEmp
namespace Go.Proofs.YtbenjjaofabdcaaGreatDoor
open Go Go.RowKit

structure World0 (w : World) (b : Nat) : Prop where
  ex : ∃ be bc ao c, (pts b 54 [ptr be 0, ptr bc 0, .slice none 0 0, .slice ao 1 c]).holds w ∧ Eng0 w be ∧ Chain0 w bc
theorem World0.below {w w' : World} {b : Nat} (h : World0 w b) (hb : Below w.heap.size w w') : World0 w' b := by
  obtain ⟨be, bc, ao, c, h1, h2, h3⟩ := h.ex
  exact ⟨be, bc, ao, c, (pts _ _ _).loc h1 fun k hk => hb.block k ((pts _ _ _).lt h1 k hk), h2.below hb, h3.below hb⟩
theorem elemEng : ElemOk Tryz.prog 52 50 1 8 := elemOk_mk (by kernel_rfl) (by kernel_rfl) (by decide) (by decide)
theorem tyEngP : Ty Tryz.prog 50 1 false [.pointer none] := ⟨Tryz.sizeOf50, Tryz.isAgg50, fun w => ⟨_, Tryz.zeroValue50 w, rfl⟩⟩
theorem tyEngs : Ty Tryz.prog 52 1 false [.slice none 0 0] := ⟨Tryz.sizeOf52, Tryz.isAgg52, fun w => ⟨_, Tryz.zeroValue52 w, rfl⟩⟩
theorem rowA_nofp {e : TypeId} {sz : Nat} {P : Nat → Prop} : ∀ k, (rowA e sz (.slice none 0 0) 0 []).fp k → P k := fun k hk => by simp [rowA, Value.ownBlock] at hk
set_option maxHeartbeats 1600000 in
set_option maxRecDepth 100000 in
theorem wnew0 (w : World) (E : Nat) (hE : EnvS w E) : Calls Tryz.prog 15 #[.slice none 0 0] w fun e w' => ∃ b, e = .returned (ptr b 0) ∧ World0 w' b ∧ Below w.heap.size w w' := by
  have M := Sep.start (fun _ => False) w
  have HE := Lib.hid hE
  clear hE
  go_enter Tryz.func15, Tryz.ntmps15
  go_wp2_with (fail)
  refine (enew0 _).mono ?_
  rintro e w1 ⟨be, rfl, he, hb1⟩
  replace M := M.below hb1
  have HG := Lib.hid he
  clear he hb1
  go_wp2_with (fail)
  refine (dnew w1 E (HE.out.below M.out HE.out.le)).mono ?_
  rintro e w2 ⟨bc, rfl, hc, hb2⟩
  replace M := M.below hb2
  replace HG := Lib.hid (HG.out.below hb2)
  have HC := Lib.hid hc
  have B2 := Lib.hid M.out
  clear hc hb2 M
  have M := Sep.start (fun _ => False) w2
  go_wp2_with (first | ((with_reducible refine wl_at ⟨some 12, _, _, _, _, _⟩ ?_); refine wl_box M (_) rfl rfl rfl rfl ?_; clear M; intro b12 w12 M; simp only [Act.put, List.setIfInBounds_toArray, List.set_cons_succ, List.set_cons_zero]) | fail)
  replace M := M.add (Below.refl _ _) (rowA 50 1 (.slice none 0 0) 0 []) (rowA_nil _ _ _) rowA_nofp
  refine wp_draw M [told (some 11) [] (rowA 50 1 (.slice none 0 0) 0 []), told (some 14) [4, 8] (pts b12 54 [ptr be 0, ptr bc 0, .slice none 0 0, .slice none 0 0]),
      ⟨some 10, none, [11], [9, 10], fun gs => pts (blkOf (gs.getD 1 (gq undef)).1) 50 [(gs.headD (gq undef)).1]⟩, ⟨some 11, none, [], [9, 11], fun gs => rowA 50 1 (gs.getD 1 (gq undef)).1 1 [(gs.headD (gq undef)).1]⟩,
      ⟨some 14, none, [], [11], fun gs => pts b12 54 [ptr be 0, ptr bc 0, .slice none 0 0, (gs.headD (gq undef)).1]⟩]
    [.q, .q, .q, .q, .q, .q, .q, .q, .q, ospP, ospB 1, ospS 1, .q, .q, ospU] (by kernel_rfl) rfl (by kernel_rfl) ?_
  iterate 4 (apply walk_q rfl; (intro w1 hI; apply Same.of_wp rfl rfl (Nat.le_of_ble_eq_true rfl); intro KK QQ hK; simp only [Act.put, List.setIfInBounds_toArray, List.set_cons_succ, List.set_cons_zero] at hK; go_step; exact hK); simp only [Act.put, List.setIfInBounds_toArray, List.set_cons_succ, List.set_cons_zero])
  (refine walk_load1 rfl rfl tyEngs rfl (fun w hI => pts.cell (ins_get hI 1 rfl rfl) _ rfl) ?_; simp only [Act.put, List.setIfInBounds_toArray, List.set_cons_succ, List.set_cons_zero])
  iterate 3 (apply walk_q rfl; (intro w1 hI; apply Same.of_wp rfl rfl (Nat.le_of_ble_eq_true rfl); intro KK QQ hK; simp only [Act.put, List.setIfInBounds_toArray, List.set_cons_succ, List.set_cons_zero] at hK; go_step; exact hK); simp only [Act.put, List.setIfInBounds_toArray, List.set_cons_succ, List.set_cons_zero])
  (refine walk_load1 rfl rfl tyEngP rfl (fun w hI => pts.cell (ins_get hI 1 rfl rfl) _ rfl) ?_; simp only [Act.put, List.setIfInBounds_toArray, List.set_cons_succ, List.set_cons_zero])
  refine walk_newq rfl rfl rfl rfl ⟨_, 0, rfl⟩ (fun w1 hI K Q hK => ?_) ?_
  · go_step
    refine Calls.mono (ecopy0 w1 be (HG.out.below (hI.frame.below (Nat.le_refl _) fun _ h => h.elim))) ?_
    rintro e w' ⟨b', rfl, -, h2⟩
    exact hK (gq (ptr b' 0)) w' ⟨b', rfl⟩ h2
  rintro g ⟨c9, rfl⟩
  simp only [Act.put, List.setIfInBounds_toArray, List.set_cons_succ, List.set_cons_zero]
  (refine walk_bslice elemEng 2 [ptr c9 0] rfl rfl rfl rfl (by intro v hv; obtain rfl := List.mem_singleton.1 hv; rfl) rfl (by decide) (by decide) rfl rfl rfl (fun _ => rfl) fun b10 => ?_; simp only [Act.put, List.setIfInBounds_toArray, List.set_cons_succ, List.set_cons_zero])
  refine walk_app elemEng 0 3 (news := [ptr c9 0]) rfl rfl rfl rfl rfl (fun w1 hI => by
      have h := ins_get hI 2 rfl rfl
      exact pts.sl (b := b10) (e := 50) (cs := [ptr c9 0]) h rfl (Nat.le_of_ble_eq_true rfl)) (ones_of rfl) (by decide) rfl rfl rfl rfl rfl (fun _ => rfl) (fun _ => rfl) rfl fun ao c => ?_
  simp only [Act.put, List.setIfInBounds_toArray, List.set_cons_succ, List.set_cons_zero]
  iterate 2 (apply walk_q rfl; (intro w1 hI; apply Same.of_wp rfl rfl (Nat.le_of_ble_eq_true rfl); intro KK QQ hK; simp only [Act.put, List.setIfInBounds_toArray, List.set_cons_succ, List.set_cons_zero] at hK; go_step; exact hK); simp only [Act.put, List.setIfInBounds_toArray, List.set_cons_succ, List.set_cons_zero])
  refine walk_store 1 4 [.slice ao 1 c] rfl rfl rfl rfl tyEngs rfl rfl (ones_of rfl) (Nat.le_of_ble_eq_true rfl) rfl rfl rfl rfl rfl rfl rfl ?_
  refine walk_nil fun w9 M => ?_
  have hw : (pts b12 54 [ptr be 0, ptr bc 0, .slice none 0 0, .slice ao 1 c]).holds w9 := Sep.get M 2 rfl
  have HW := Lib.hid hw
  have hB : Below w2.heap.size w2 w9 := M.out
  have HB := Lib.hid hB
  clear M hw hB
  go_wp2_with (fail)
  go_loopw [29] (fun i wr => i = .int .i64 0 ∧ wr = w9) (fun _ _ => 0)
  case atStart => exact ⟨rfl, rfl⟩
  case round =>
    obtain ⟨rfl, rfl⟩ := hrel
    go_wp2_with (fail)
    go_ret
    exact ⟨b12, rfl, ⟨be, bc, ao, c, HW.out, HG.out.below HB.out, HC.out.below HB.out⟩, B2.out.trans (HB.out.mono B2.out.size)⟩
end Go.Proofs.YtbenjjaofabdcaaGreatDoor
