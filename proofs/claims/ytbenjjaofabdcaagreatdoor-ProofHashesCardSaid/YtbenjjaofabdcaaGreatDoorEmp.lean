/-
  The empty engine: New, Copy, Accounts; a range over an index without keys.
-/
import Derived.Test.YtbenjjaofabdcaaGreatDoorRange
import Derived.Test.YtbenjjaofabdcaaGreatDoorRoot
namespace Go.Proofs.YtbenjjaofabdcaaGreatDoor
open Go Go.RowKit
attribute [local go_sem] Oper.semAt_some

theorem walk0 (w : World) (y : Value) : Calls Tryz.prog 95 #[.pointer none, y] w fun e w' => e = .returned (.bool true) ∧ w' = w := by
  go_enter Tryz.func95, Tryz.ntmps95
  go_wp2
  go_ret
  exact ⟨rfl, rfl⟩
theorem all0 (w : World) (b : Nat) (y : Value) (h : w.cell? ⟨b, 0, none⟩ = some (.pointer none)) : Calls Tryz.prog 60 #[ptr b 0, y] w fun e w' => (∃ v, e = .returned v) ∧ w' = w := by
  go_enter Tryz.func60, Tryz.ntmps60
  go_wp2
  go_end0
  exact ⟨⟨_, rfl⟩, rfl⟩
theorem seq0 {n n₀ N : Nat} {w : World} {b : Nat} (h : w.cell? ⟨b, 0, none⟩ = some (.pointer none)) : SeqM Fence.wide n Tryz.prog 60 #[ptr b 0] (fun x : Empty => x.elim) n₀ N (fun _ => True) (fun _ => False) w := by
  intro l J Jx W hW _ h0
  refine (callsIn_wide.2 (all0 W b _ ((hW.cell (p := ⟨b, 0, none⟩) (block_lt_of_cell h)).trans h))).mono ?_
  rintro e W' ⟨⟨v, rfl⟩, rfl⟩
  exact ⟨⟨_, rfl⟩, .inl ⟨[], trivial, h0⟩⟩
abbrev index0 (w : World) (b : Nat) : Prop := w.heap[b]? = some (.cells #[.pointer none, .int .i64 0] 113 (0, 0))
theorem icopy0 (w : World) (b : Nat) (h : index0 w b) : Calls Tryz.prog 47 #[ptr b 0] w fun e w' => ∃ b', e = .returned (ptr b' 0) ∧ index0 w' b' ∧ Below w.heap.size w w' ∧ w.heap.size ≤ b' := by
  refine (callsIn_wide (n := 3)).1 ?_
  refine callsIn_of_wp_marks Tryz.func47 rfl trivial ?_ rfl
  simp only [Tryz.ntmps47, List.size_toArray, List.length_cons, List.length_nil, Nat.reduceAdd, Nat.reduceSub, Array.replicate_succ, Array.replicate_zero, List.push_toArray, List.append_toArray, List.nil_append, List.cons_append]
  gi_wp2
  have b2 : Below w.heap.size w ((w.alloc (.cells #[.pointer none, .int .i64 0] 113)).alloc (.cells #[ptr w.heap.size 0] 110)) := ((Below.refl _ w).alloc (Nat.le_refl _) _).alloc (by simp) _
  have i2 : index0 ((w.alloc (.cells #[.pointer none, .int .i64 0] 113)).alloc (.cells #[ptr w.heap.size 0] 110)) w.heap.size := (Below.heap_alloc _ _ _ (by simp)).trans (World.alloc_heap_new w _)
  have k2 := World.alloc_heap_new (w.alloc (.cells #[.pointer none, .int .i64 0] 113)) (.cells #[ptr w.heap.size 0] 110)
  rw [show (w.alloc (.cells #[.pointer none, .int .i64 0] 113)).heap.size = w.heap.size + 1 by simp] at k2
  have s2 : ((w.alloc (.cells #[.pointer none, .int .i64 0] 113)).alloc (.cells #[ptr w.heap.size 0] 110)).heap.size = w.heap.size + 1 + 1 := by simp
  generalize (w.alloc (.cells #[.pointer none, .int .i64 0] 113)).alloc (.cells #[ptr w.heap.size 0] 110) = wl at *
  have hb := (Array.getElem?_eq_some_iff.1 h).1
  have c2 : wl.cell? ⟨b, 0, none⟩ = some (.pointer none) := cell_blk ((b2.block b hb).trans h) 0
  refine wpIn_rangeMethod rfl (by decide) (gf := 60) (fa := #[ptr b 0]) rfl trivial (enters_of Tryz.func60 (by kernel_rfl) rfl) (Nat.le_refl _) (seq0 c2 (N := 0)) (fun x => x.elim)
    (fun _ W => index0 W w.heap.size ∧ W.heap[w.heap.size + 1]? = some (.cells #[ptr w.heap.size 0] 110 (0, 0)) ∧ Below w.heap.size w W) (fun _ _ _ => False) ?hI ?hIx ⟨i2, k2, b2⟩ (fun x => x.elim) (fun l x => x.elim) (fun l pre x => x.elim) ?done (fun D c pre W _ h => h.elim)
  case hI =>
    rintro pre A B' row ⟨q1, q2, q4⟩ hg' hr
    have hne : ∀ k, k < wl.heap.size → some k ≠ row := fun k hk e => by have := (hr k e.symm).1; omega
    refine ⟨(hg'.block _ (Array.getElem?_eq_some_iff.1 q1).1 (hne _ (by omega))).trans q1, (hg'.block _ (Array.getElem?_eq_some_iff.1 q2).1 (hne _ (by omega))).trans q2, q4.grown hg' q4.size (fun k e => ?_)⟩
    have := (hr k e).1
    omega
  case hIx => exact fun c pre A B' row h => h.elim
  case done =>
    rintro D ys W hD - ⟨q1, q2, q4⟩ hK
    have cT : W.cell? ⟨w.heap.size + 1, 0, none⟩ = some (ptr w.heap.size 0) := cell_blk q2 0
    have Q1 := Lib.hid q1
    have Q4 := Lib.hid q4
    have HK := Lib.hid hK
    clear q1 q2 q4 hK
    gi_wp2
    refine ⟨by simp, .inl ⟨_, _, rfl, run_takeDeferred HK.out, ?_⟩⟩
    refine ⟨_, results_tmp rfl _ _ _, w.heap.size, rfl, (World.putObj_heap_other (by omega)).trans Q1.out, Q4.out.trans (belowK_b (w := wl) (by omega) _ D _ _ (by omega) HK.out rfl rfl), Nat.le_refl _⟩
/-- An engine without accounts. -/
structure Eng0 (w : World) (b : Nat) : Prop where
  ex : ∃ b1 b2, w.heap[b]? = some (.cells #[.slice none 0 0, .slice none 0 0, .slice none 0 0, ptr b1 0, ptr b2 0, .int .i64 0, .int .i64 0] 118 (0, 0)) ∧ index0 w b1 ∧ index0 w b2
theorem index0.below {w w' : World} {b : Nat} (h : index0 w b) (hb : Below w.heap.size w w') : index0 w' b := (hb.block b (Array.getElem?_eq_some_iff.1 h).1).trans h
theorem Eng0.below {w w' : World} {b : Nat} (h : Eng0 w b) (hb : Below w.heap.size w w') : Eng0 w' b := by
  obtain ⟨b1, b2, h1, h2, h3⟩ := h.ex
  exact ⟨b1, b2, (hb.block b (Array.getElem?_eq_some_iff.1 h1).1).trans h1, h2.below hb, h3.below hb⟩
theorem enew0 (w : World) : Calls Tryz.prog 27 #[] w fun e w' => ∃ b, e = .returned (ptr b 0) ∧ Eng0 w' b ∧ Below w.heap.size w w' := by
  have M := Sep.start (fun _ => False) w
  go_enter Tryz.func27, Tryz.ntmps27
  go_wp2_with (first | ((with_reducible refine wl_at ⟨some 2, _, _, _, _, _⟩ ?_); refine wl_box M (_) rfl rfl rfl rfl ?_; clear M; intro b2 w2 M; simp only [Act.put, List.setIfInBounds_toArray, List.set_cons_succ, List.set_cons_zero]) | ((with_reducible refine wl_at ⟨some 4, _, _, _, _, _⟩ ?_); refine wl_box M (_) rfl rfl rfl rfl ?_; clear M; intro b4 w4 M; simp only [Act.put, List.setIfInBounds_toArray, List.set_cons_succ, List.set_cons_zero]) | ((with_reducible refine wl_at ⟨some 7, _, _, _, _, _⟩ ?_); refine wl_box M (_) rfl rfl rfl rfl ?_; clear M; intro b7 w7 M; simp only [Act.put, List.setIfInBounds_toArray, List.set_cons_succ, List.set_cons_zero]) | fail)
  go_ret
  exact ⟨b7, rfl, ⟨b2, b4, M.get 0 rfl, M.get 2 rfl, M.get 1 rfl⟩, M.out⟩
section
variable {P : Program} {C : World → Prop} {ops : Array Oper} {toks : List Tok} {Q : Act → (Nat → GV) → Prop} {i : Nat} {o : Oper} {rest : List Oper} {ss : List OSp} {val : Nat → GV} {a : Act}
/-- A call that makes new memory, in a region that draws. -/
theorem walk_new {d : Tmp} {p : GV → Prop} (x : Nat) {t : Tok} (hx : toks[x]? = some t) (hB : (prodB toks i x && freeB toks i) = true) (hd : o.dst = some d) (hlt : Nat.ble (d + 1) a.tmps.size = true) (hw : Region.wanted o (yielded ops a.tmps) = true) (he : ∃ g, p g)
    (hcall : ∀ w, Ins C toks i val w → ∀ (K : Act → World → Prop) (Q : Exit → Act → World → Prop), (∀ g w', p g → Below w.heap.size w w' → (t.at_ (upd val i g)).holds w' → (∀ k, (t.at_ (upd val i g)).fp k → w.heap.size ≤ k) → K (a.put o.dst g.1) w') → o.wp P a w K Q)
    (h : ∀ g, p g → Walk P ops toks C Q (i + 1) rest ss (upd val i g) (a.put o.dst g.1)) : Walk P ops toks C Q i (o :: rest) ((.v [] fun _ g => p g) :: ss) val a :=
  walk_v hw he (fun w hI => Loud.of_wp hd (Nat.le_of_ble_eq_true hlt) fun K Q' hK => hcall w hI K Q' fun g w' h1 h2 h3 h4 => hK _ _ ⟨g, rfl, h1, outs_new x hx hB h2 h3 h4⟩) h
/-- The same, where nothing is to be told of that memory. -/
theorem walk_newq {d : Tmp} {p : GV → Prop} (hB : (toks.all fun t => t.prod != some i) = true) (hd : o.dst = some d) (hlt : Nat.ble (d + 1) a.tmps.size = true) (hw : Region.wanted o (yielded ops a.tmps) = true) (he : ∃ g, p g)
    (hcall : ∀ w, Ins C toks i val w → ∀ (K : Act → World → Prop) (Q : Exit → Act → World → Prop), (∀ g w', p g → Below w.heap.size w w' → K (a.put o.dst g.1) w') → o.wp P a w K Q)
    (h : ∀ g, p g → Walk P ops toks C Q (i + 1) rest ss (upd val i g) (a.put o.dst g.1)) : Walk P ops toks C Q i (o :: rest) ((.v [] fun _ g => p g) :: ss) val a :=
  walk_v hw he (fun w hI => Loud.of_wp hd (Nat.le_of_ble_eq_true hlt) fun K Q' hK => hcall w hI K Q' fun g w' h1 h2 => hK _ _ ⟨g, rfl, h1, outs_quiet hB h2⟩) h
end
theorem tyEng : Ty Tryz.prog 118 7 true [.slice none 0 0, .slice none 0 0, .slice none 0 0, .pointer none, .pointer none, .int .i64 0, .int .i64 0] := ⟨Tryz.sizeOf118, Tryz.isAgg118, fun w => ⟨_, Tryz.zeroValue118 w, rfl⟩⟩
theorem tyAccs : Ty Tryz.prog 67 1 false [.slice none 0 0] := ⟨Tryz.sizeOf67, Tryz.isAgg67, fun w => ⟨_, Tryz.zeroValue67 w, rfl⟩⟩
theorem tyTrfs : Ty Tryz.prog 80 1 false [.slice none 0 0] := ⟨Tryz.sizeOf80, Tryz.isAgg80, fun w => ⟨_, Tryz.zeroValue80 w, rfl⟩⟩
theorem tyLists : Ty Tryz.prog 114 1 false [.slice none 0 0] := ⟨Tryz.sizeOf114, Tryz.isAgg114, fun w => ⟨_, Tryz.zeroValue114 w, rfl⟩⟩
theorem tyIndexP : Ty Tryz.prog 110 1 false [.pointer none] := ⟨Tryz.sizeOf110, Tryz.isAgg110, fun w => ⟨_, Tryz.zeroValue110 w, rfl⟩⟩
abbrev eng0 (b1 b2 : Nat) : List Value := [.slice none 0 0, .slice none 0 0, .slice none 0 0, ptr b1 0, ptr b2 0, .int .i64 0, .int .i64 0]
set_option maxHeartbeats 1600000 in
set_option maxRecDepth 100000 in
theorem ecopy0 (w : World) (b : Nat) (hE : Eng0 w b) : Calls Tryz.prog 29 #[ptr b 0] w fun e w' => ∃ b', e = .returned (ptr b' 0) ∧ Eng0 w' b' ∧ Below w.heap.size w w' := by
  have M := Sep.start (fun _ => False) w
  obtain ⟨b1, b2, h0, h1, h2⟩ := hE.ex
  have P0 : (pts b 118 (eng0 b1 b2)).holds w := h0
  have HP := Lib.hid P0
  have H1 := Lib.hid h1
  have H2 := Lib.hid h2
  clear h0 h1 h2 P0 hE
  go_enter Tryz.func29, Tryz.ntmps29
  go_wp2_with (first | ((with_reducible refine wl_at ⟨some 8, _, _, _, _, _⟩ ?_); refine wl_plain rfl fun _ hK => wp_loadn rfl rfl tyEng (range_all (M.old _ HP.out (fun _ _ h => h))) rfl (hK _ _ ?_); simp only [Act.put, List.setIfInBounds_toArray, List.set_cons_succ, List.set_cons_zero]) | ((with_reducible refine wl_at ⟨some 3, _, _, _, _, _⟩ ?_); refine wl_alloc M rfl rfl tyEng ?_; clear M; intro b3 w3 M; simp only [Act.put, List.setIfInBounds_toArray, List.set_cons_succ, List.set_cons_zero]) | ((with_reducible refine wl_at ⟨_, .store _ (.tmp 3) (.tmp 8), _, _, _, _⟩ ?_); refine wl_storen M ((eng0 b1 b2)) rfl rfl rfl rfl tyEng rfl rfl (ones_of rfl) (by first | exact .head | exact (.tail .head) | exact (.tail (.tail .head)) | exact (.tail (.tail (.tail .head))) | exact (.tail (.tail (.tail (.tail .head)))) | exact (.tail (.tail (.tail (.tail (.tail .head))))) | exact (.tail (.tail (.tail (.tail (.tail (.tail .head)))))) | exact (.tail (.tail (.tail (.tail (.tail (.tail (.tail .head))))))) | exact (.tail (.tail (.tail (.tail (.tail (.tail (.tail (.tail .head)))))))) | exact (.tail (.tail (.tail (.tail (.tail (.tail (.tail (.tail (.tail .head)))))))))) rfl ?_; clear M; intro w4 M; simp only [Act.put, List.setIfInBounds_toArray, List.set_cons_succ, List.set_cons_zero]) | ((with_reducible refine wl_at ⟨some 13, _, _, _, _, _⟩ ?_); refine wl_plain rfl fun _ hK => wp_load1 rfl rfl tyAccs (pts.cell (M.old _ HP.out (fun _ _ h => h)) _ rfl) (hK _ _ ?_); simp only [Act.put, List.setIfInBounds_toArray, List.set_cons_succ, List.set_cons_zero]) | ((with_reducible refine wl_at ⟨some 21, _, _, _, _, _⟩ ?_); refine wl_plain rfl fun _ hK => wp_load1 rfl rfl tyTrfs (pts.cell (M.old _ HP.out (fun _ _ h => h)) _ rfl) (hK _ _ ?_); simp only [Act.put, List.setIfInBounds_toArray, List.set_cons_succ, List.set_cons_zero]) | ((with_reducible refine wl_at ⟨some 31, _, _, _, _, _⟩ ?_); refine wl_plain rfl fun _ hK => wp_load1 rfl rfl tyLists (pts.cell (M.old _ HP.out (fun _ _ h => h)) _ rfl) (hK _ _ ?_); simp only [Act.put, List.setIfInBounds_toArray, List.set_cons_succ, List.set_cons_zero]) | ((with_reducible refine wl_at ⟨_, .store _ (.tmp 16) (.tmp 14), _, _, _, _⟩ ?_); refine wl_store M ([.slice none 0 0]) rfl rfl rfl rfl tyAccs rfl rfl (ones_of rfl) (by first | exact .head | exact (.tail .head) | exact (.tail (.tail .head)) | exact (.tail (.tail (.tail .head))) | exact (.tail (.tail (.tail (.tail .head)))) | exact (.tail (.tail (.tail (.tail (.tail .head))))) | exact (.tail (.tail (.tail (.tail (.tail (.tail .head)))))) | exact (.tail (.tail (.tail (.tail (.tail (.tail (.tail .head))))))) | exact (.tail (.tail (.tail (.tail (.tail (.tail (.tail (.tail .head)))))))) | exact (.tail (.tail (.tail (.tail (.tail (.tail (.tail (.tail (.tail .head)))))))))) (Nat.le_of_ble_eq_true rfl) ?_; clear M; intro w5 M; simp only [splice] at M; simp only [Act.put, List.setIfInBounds_toArray, List.set_cons_succ, List.set_cons_zero]) | ((with_reducible refine wl_at ⟨_, .store _ (.tmp 24) (.tmp 22), _, _, _, _⟩ ?_); refine wl_store M ([.slice none 0 0]) rfl rfl rfl rfl tyTrfs rfl rfl (ones_of rfl) (by first | exact .head | exact (.tail .head) | exact (.tail (.tail .head)) | exact (.tail (.tail (.tail .head))) | exact (.tail (.tail (.tail (.tail .head)))) | exact (.tail (.tail (.tail (.tail (.tail .head))))) | exact (.tail (.tail (.tail (.tail (.tail (.tail .head)))))) | exact (.tail (.tail (.tail (.tail (.tail (.tail (.tail .head))))))) | exact (.tail (.tail (.tail (.tail (.tail (.tail (.tail (.tail .head)))))))) | exact (.tail (.tail (.tail (.tail (.tail (.tail (.tail (.tail (.tail .head)))))))))) (Nat.le_of_ble_eq_true rfl) ?_; clear M; intro w6 M; simp only [splice] at M; simp only [Act.put, List.setIfInBounds_toArray, List.set_cons_succ, List.set_cons_zero]) | ((with_reducible refine wl_at ⟨_, .store _ (.tmp 26) _, _, _, _, _⟩ ?_); refine wl_store M ([.slice none 0 0]) rfl rfl rfl rfl tyLists rfl rfl (ones_of rfl) (by first | exact .head | exact (.tail .head) | exact (.tail (.tail .head)) | exact (.tail (.tail (.tail .head))) | exact (.tail (.tail (.tail (.tail .head)))) | exact (.tail (.tail (.tail (.tail (.tail .head))))) | exact (.tail (.tail (.tail (.tail (.tail (.tail .head)))))) | exact (.tail (.tail (.tail (.tail (.tail (.tail (.tail .head))))))) | exact (.tail (.tail (.tail (.tail (.tail (.tail (.tail (.tail .head)))))))) | exact (.tail (.tail (.tail (.tail (.tail (.tail (.tail (.tail (.tail .head)))))))))) (Nat.le_of_ble_eq_true rfl) ?_; clear M; intro w7 M; simp only [splice] at M; simp only [Act.put, List.setIfInBounds_toArray, List.set_cons_succ, List.set_cons_zero]) | fail)
  replace M : Sep (fun _ => False) w w7 [pts b3 118 (eng0 b1 b2)] := M
  go_loopw [33] (fun i wr => i = .int .i64 0 ∧ Sep (fun _ => False) w wr [pts b3 118 (eng0 b1 b2)]) (fun _ _ => 0)
  case atStart => exact ⟨rfl, M⟩
  case round =>
    clear M
    obtain ⟨rfl, M⟩ := hrel
    go_wp2_with (fail)
    refine wp_draw M [told (some 14) [] (pts b3 118 (eng0 b1 b2)), tnew 5 none [] 113 [.pointer none, .int .i64 0], tnew 11 none [] 113 [.pointer none, .int .i64 0],
        ⟨some 14, some 17, [], [5], fun gs => pts b3 118 (eng0 (blkOf (gs.headD (gq undef)).1) b2)⟩, ⟨some 17, none, [], [5, 11], fun gs => pts b3 118 (eng0 (blkOf (gs.headD (gq undef)).1) (blkOf (gs.getD 1 (gq undef)).1))⟩]
      [.q, .q, .q, .q, .q, ospP, .q, .q, .q, .q, .q, ospP, .q, .q, ospU, .q, .q, ospU] (by kernel_rfl) rfl (by kernel_rfl) ?_
    iterate 4 (apply walk_q rfl; (intro w1 hI; apply Same.of_wp rfl rfl (Nat.le_of_ble_eq_true rfl); intro KK QQ hK; simp only [Act.put, List.setIfInBounds_toArray, List.set_cons_succ, List.set_cons_zero] at hK; go_step; exact hK); simp only [Act.put, List.setIfInBounds_toArray, List.set_cons_succ, List.set_cons_zero])
    refine walk_load1 rfl rfl tyIndexP rfl (fun w1 hI => pts.cell ((pts _ _ _).loc HP.out fun k hk => hI.frame.block k ((pts _ _ _).lt HP.out k hk) (fun h => h)) _ rfl) ?_
    simp only [Act.put, List.setIfInBounds_toArray, List.set_cons_succ, List.set_cons_zero]
    refine walk_new 1 rfl rfl rfl rfl rfl ⟨_, 0, rfl⟩ (fun w1 hI K Q hK => ?_) ?_
    · go_step
      refine Calls.mono (icopy0 w1 b1 (H1.out.below (hI.frame.below (Nat.le_refl _) fun _ h => h.elim))) ?_
      rintro e w' ⟨b', rfl, h1, h2, h3⟩
      exact hK (gq (ptr b' 0)) w' ⟨b', rfl⟩ h2 h1 (fun k hk => by rw [show k = b' from hk]; exact h3)
    rintro g ⟨c1, rfl⟩
    simp only [Act.put, List.setIfInBounds_toArray, List.set_cons_succ, List.set_cons_zero]
    iterate 4 (apply walk_q rfl; (intro w1 hI; apply Same.of_wp rfl rfl (Nat.le_of_ble_eq_true rfl); intro KK QQ hK; simp only [Act.put, List.setIfInBounds_toArray, List.set_cons_succ, List.set_cons_zero] at hK; go_step; exact hK); simp only [Act.put, List.setIfInBounds_toArray, List.set_cons_succ, List.set_cons_zero])
    refine walk_load1 rfl rfl tyIndexP rfl (fun w1 hI => pts.cell ((pts _ _ _).loc HP.out fun k hk => hI.frame.block k ((pts _ _ _).lt HP.out k hk) (fun h => h)) _ rfl) ?_
    simp only [Act.put, List.setIfInBounds_toArray, List.set_cons_succ, List.set_cons_zero]
    refine walk_new 2 rfl rfl rfl rfl rfl ⟨_, 0, rfl⟩ (fun w1 hI K Q hK => ?_) ?_
    · go_step
      refine Calls.mono (icopy0 w1 b2 (H2.out.below (hI.frame.below (Nat.le_refl _) fun _ h => h.elim))) ?_
      rintro e w' ⟨b', rfl, h1, h2, h3⟩
      exact hK (gq (ptr b' 0)) w' ⟨b', rfl⟩ h2 h1 (fun k hk => by rw [show k = b' from hk]; exact h3)
    rintro g ⟨c2, rfl⟩
    simp only [Act.put, List.setIfInBounds_toArray, List.set_cons_succ, List.set_cons_zero]
    iterate 2 (apply walk_q rfl; (intro w1 hI; apply Same.of_wp rfl rfl (Nat.le_of_ble_eq_true rfl); intro KK QQ hK; simp only [Act.put, List.setIfInBounds_toArray, List.set_cons_succ, List.set_cons_zero] at hK; go_step; exact hK); simp only [Act.put, List.setIfInBounds_toArray, List.set_cons_succ, List.set_cons_zero])
    refine walk_store 0 3 [ptr c1 0] rfl rfl rfl rfl tyIndexP rfl rfl (ones_of rfl) (Nat.le_of_ble_eq_true rfl) rfl rfl rfl rfl rfl rfl rfl ?_
    iterate 2 (apply walk_q rfl; (intro w1 hI; apply Same.of_wp rfl rfl (Nat.le_of_ble_eq_true rfl); intro KK QQ hK; simp only [Act.put, List.setIfInBounds_toArray, List.set_cons_succ, List.set_cons_zero] at hK; go_step; exact hK); simp only [Act.put, List.setIfInBounds_toArray, List.set_cons_succ, List.set_cons_zero])
    refine walk_store 3 4 [ptr c2 0] rfl rfl rfl rfl tyIndexP rfl rfl (ones_of rfl) (Nat.le_of_ble_eq_true rfl) rfl rfl rfl rfl rfl rfl rfl ?_
    refine walk_nil fun w9 M => ?_
    replace M : Sep (fun _ => False) w w9 [pts c1 113 [.pointer none, .int .i64 0], pts c2 113 [.pointer none, .int .i64 0], pts b3 118 (eng0 c1 c2)] := M
    go_wp2
    go_ret
    exact ⟨b3, rfl, ⟨c1, c2, M.get 2 rfl, M.get 0 rfl, M.get 1 rfl⟩, M.out⟩
theorem eaccs0 (w : World) (b : Nat) (hE : Eng0 w b) : Calls Tryz.prog 35 #[ptr b 0] w fun e w' => e = .returned (.slice none 0 0) ∧ Below w.heap.size w w' := by
  obtain ⟨b1, b2, h0, h1, h2⟩ := hE.ex
  have b2' : Below w.heap.size w ((w.alloc (.cells #[ptr b 0] 50)).alloc (.cells #[.slice none 0 0] 67)) := ((Below.refl _ w).alloc (Nat.le_refl _) _).alloc (by simp) _
  have k2 := World.alloc_heap_new (w.alloc (.cells #[ptr b 0] 50)) (.cells #[.slice none 0 0] 67)
  rw [show (w.alloc (.cells #[ptr b 0] 50)).heap.size = w.heap.size + 1 by simp] at k2
  have s2 : ((w.alloc (.cells #[ptr b 0] 50)).alloc (.cells #[.slice none 0 0] 67)).heap.size = w.heap.size + 1 + 1 := by simp
  have hb1 := (Array.getElem?_eq_some_iff.1 h1).1
  have c1 : ((w.alloc (.cells #[ptr b 0] 50)).alloc (.cells #[.slice none 0 0] 67)).cell? ⟨b1, 0, none⟩ = some (.pointer none) := cell_blk ((b2'.block b1 hb1).trans h1) 0
  have c3 : ((w.alloc (.cells #[ptr b 0] 50)).alloc (.cells #[.slice none 0 0] 67)).cell? ⟨b, 3, none⟩ = some (ptr b1 0) := cell_blk ((b2'.block b (Array.getElem?_eq_some_iff.1 h0).1).trans h0) 3
  have B2 := Lib.hid b2'
  have K2 := Lib.hid k2
  have S2 := Lib.hid s2
  have C1 := Lib.hid c1
  clear h0 h1 h2 hE b2' k2 s2 c1
  refine (callsIn_wide (n := 3)).1 ?_
  refine callsIn_of_wp_marks Tryz.func35 rfl trivial ?_ rfl
  simp only [Tryz.ntmps35, List.size_toArray, List.length_cons, List.length_nil, Nat.reduceAdd, Nat.reduceSub, Array.replicate_succ, Array.replicate_zero, List.push_toArray, List.append_toArray, List.nil_append, List.cons_append]
  gi_wp2
  have b2 := B2.out
  have k2 := K2.out
  have s2 := S2.out
  have c1 := C1.out
  clear c3
  generalize (w.alloc (.cells #[ptr b 0] 50)).alloc (.cells #[.slice none 0 0] 67) = wl at *
  refine wpIn_rangeMethod rfl (by decide) (gf := 60) (fa := #[ptr b1 0]) rfl trivial (enters_of Tryz.func60 (by kernel_rfl) rfl) (Nat.le_refl _) (seq0 c1 (N := 0)) (fun x => x.elim)
    (fun _ W => W.heap[w.heap.size + 1]? = some (.cells #[.slice none 0 0] 67 (0, 0)) ∧ Below w.heap.size w W) (fun _ _ _ => False) ?hI ?hIx ⟨k2, b2⟩ (fun x => x.elim) (fun l x => x.elim) (fun l pre x => x.elim) ?done (fun D c pre W _ h => h.elim)
  case hI =>
    rintro pre A B' row ⟨q2, q4⟩ hg' hr
    have hne : ∀ k, k < wl.heap.size → some k ≠ row := fun k hk e => by have := (hr k e.symm).1; omega
    refine ⟨(hg'.block _ (Array.getElem?_eq_some_iff.1 q2).1 (hne _ (by omega))).trans q2, q4.grown hg' q4.size (fun k e => ?_)⟩
    have := (hr k e).1
    omega
  case hIx => exact fun c pre A B' row h => h.elim
  case done =>
    rintro D ys W hD - ⟨q2, q4⟩ hK
    have cT : W.cell? ⟨w.heap.size + 1, 0, none⟩ = some (.slice none 0 0) := cell_blk q2 0
    have Q4 := Lib.hid q4
    have HK := Lib.hid hK
    clear q2 q4 hK
    gi_wp2
    refine ⟨by simp, .inl ⟨_, _, rfl, run_takeDeferred HK.out, ?_⟩⟩
    refine ⟨_, results_tmp rfl _ _ _, rfl, Q4.out.trans (belowK_b (w := wl) (by omega) _ D _ _ (by omega) HK.out rfl rfl)⟩
end Go.Proofs.YtbenjjaofabdcaaGreatDoor
