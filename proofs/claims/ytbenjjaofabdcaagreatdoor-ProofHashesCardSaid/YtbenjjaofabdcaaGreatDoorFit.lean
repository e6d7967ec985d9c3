/-
  A database without batches: its roots and its digest.
-/
import Derived.Test.YtbenjjaofabdcaaGreatDoorEq
namespace Go.Proofs.YtbenjjaofabdcaaGreatDoor
open Go Go.RowKit

theorem parts_three (w : World) (t : TypeId) (v1 v2 v3 : Value) (l1 l2 l3 : List UInt8) (h1 : Bs w v1 l1) (h2 : Bs w v2 l2) (h3 : Bs w v3 l3) : Parts (w.alloc (.cells #[v1, v2, v3] t)) (.slice (some ⟨w.heap.size, 0, none⟩) 3 3) [l1, l2, l3] := by
  have hb : Below w.heap.size w (w.alloc (.cells #[v1, v2, v3] t)) := (Below.refl _ _).alloc (Nat.le_refl _) _
  refine ⟨[v1, v2, v3], sl_new w t 1 3 #[v1, v2, v3] rfl (by unfold maxLen; omega), fun i h l h4 h5 => ?_⟩
  rcases i with _ | _ | _ | i
  · simp at h4 h5; subst h4; subst h5; exact h1.below hb
  · simp at h4 h5; subst h4; subst h5; exact h2.below hb
  · simp at h4 h5; subst h4; subst h5; exact h3.below hb
  · simp at h4
set_option maxHeartbeats 1600000 in
set_option maxRecDepth 100000 in
theorem hroot0 (w : World) (E : Nat) (hE : EnvS w E) : Calls Tryz.prog 44 #[.pointer none, .slice none 0 0] w fun e w' => e = .returned (hv (sha [])) ∧ Below w.heap.size w w' := by
  have HE := Lib.hid hE
  clear hE
  go_enter Tryz.func44, Tryz.ntmps44
  go_wp2_with (fail)
  refine (of_nil _ _ [] (HE.out.below ((Below.refl w.heap.size w).alloc (Nat.le_refl _) _) HE.out.le).sha (parts_nil _) (by simp) (by simp)).mono ?_
  rintro e w2 ⟨rfl, hb⟩
  obtain ⟨b1, b2⟩ := alloc_hash hb
  have B2 := Lib.hid b2
  have B1 := Lib.hid b1
  clear b1 b2 hb
  rw [List.flatten_nil]
  have hx32 := sha_length []
  obtain ⟨x, hx⟩ : ∃ x, x = sha [] := ⟨_, rfl⟩
  rw [← hx] at hx32 ⊢
  have HX := Lib.hid hx
  clear hx
  unfold hv
  go_wp2_with (refine wpList_store_mid rfl _ _ _ rfl w.heap.size 0 (bcs x).toArray rfl rfl (there_of B2.out hx32) (hsize' _ hx32) (bcs_all _) ?_)
  exact ret_hash' rfl rfl (store_hash hx32 B2.out) rfl ⟨by rw [HX.out], below_setCells B1.out (Nat.le_refl _) _ _⟩
set_option maxHeartbeats 1600000 in
set_option maxRecDepth 100000 in
theorem snone (w : World) (E : Nat) (hE : EnvS w E) : Calls Tryz.prog 75 #[.pointer none] w fun e w' => e = .returned (hv (sha [4])) ∧ Below w.heap.size w w' := by
  obtain ⟨v, h1, h2, h3⟩ := hE.none_.ex
  obtain ⟨am, cm, hf⟩ := h2.form
  rw [show ([4] : List UInt8).length = 1 from rfl] at hf
  subst hf
  have hlt : 5 < w.heap.size := Nat.lt_of_lt_of_le hE.none_.lt hE.le
  have HE := Lib.hid hE
  have H2 := Lib.hid h2
  clear hE h2 h3
  go_enter Tryz.func75, Tryz.ntmps75
  go_wp2_with (fail)
  have ha := (Below.refl w.heap.size w).alloc (Nat.le_refl _) (Obj.cells (Array.replicate 32 (.int .u8 0)) 30)
  rw [show Array.replicate 32 (Value.int .u8 0) = #[.int .u8 0, .int .u8 0, .int .u8 0, .int .u8 0, .int .u8 0, .int .u8 0, .int .u8 0, .int .u8 0, .int .u8 0, .int .u8 0, .int .u8 0, .int .u8 0, .int .u8 0, .int .u8 0, .int .u8 0, .int .u8 0, .int .u8 0, .int .u8 0, .int .u8 0, .int .u8 0, .int .u8 0, .int .u8 0, .int .u8 0, .int .u8 0, .int .u8 0, .int .u8 0, .int .u8 0, .int .u8 0, .int .u8 0, .int .u8 0, .int .u8 0, .int .u8 0] from rfl] at ha
  have hp := parts_one _ 26 _ _ (H2.out.below ha)
  rw [show ∀ o, (w.alloc o).heap.size = w.heap.size + 1 from fun o => by simp] at hp
  refine (of_nil _ _ [[4]] ((HE.out.below ha HE.out.le).below ((Below.refl _ _).alloc (Nat.le_refl _) _) (by have := HE.out.le; simp; omega)).sha hp (by simp) (by simp)).mono ?_
  rintro e w2 ⟨rfl, hb⟩
  obtain ⟨b1, b2⟩ := alloc_hash (((Below.refl _ _).alloc (Nat.le_refl _) _).trans (hb.mono (by simp)))
  have B2 := Lib.hid b2
  have B1 := Lib.hid b1
  clear b1 b2 hb ha hp
  rw [show ([[4]] : List (List UInt8)).flatten = [4] from rfl]
  have hx32 := sha_length [4]
  obtain ⟨x, hx⟩ : ∃ x, x = sha [4] := ⟨_, rfl⟩
  rw [← hx] at hx32 ⊢
  have HX := Lib.hid hx
  clear hx
  unfold hv
  go_wp2_with (refine wpList_store_mid rfl _ _ _ rfl w.heap.size 0 (bcs x).toArray rfl rfl (there_of B2.out hx32) (hsize' _ hx32) (bcs_all _) ?_)
  exact ret_hash' rfl rfl (store_hash hx32 B2.out) rfl ⟨by rw [HX.out], below_setCells B1.out (Nat.le_refl _) _ _⟩
set_option maxHeartbeats 1600000 in
set_option maxRecDepth 100000 in
theorem sroot0 (w : World) (E : Nat) (hE : EnvS w E) : Calls Tryz.prog 45 #[.pointer none, .int .i64 0, .slice none 0 0] w fun e w' => e = .returned (hv (sha [4])) ∧ Below w.heap.size w w' := by
  have HE := Lib.hid hE
  clear hE
  go_enter Tryz.func45, Tryz.ntmps45
  go_wp2_with (fail)
  have ha := (Below.refl w.heap.size w).alloc (Nat.le_refl _) (Obj.cells (Array.replicate 32 (.int .u8 0)) 30)
  rw [show Array.replicate 32 (Value.int .u8 0) = #[.int .u8 0, .int .u8 0, .int .u8 0, .int .u8 0, .int .u8 0, .int .u8 0, .int .u8 0, .int .u8 0, .int .u8 0, .int .u8 0, .int .u8 0, .int .u8 0, .int .u8 0, .int .u8 0, .int .u8 0, .int .u8 0, .int .u8 0, .int .u8 0, .int .u8 0, .int .u8 0, .int .u8 0, .int .u8 0, .int .u8 0, .int .u8 0, .int .u8 0, .int .u8 0, .int .u8 0, .int .u8 0, .int .u8 0, .int .u8 0, .int .u8 0, .int .u8 0] from rfl] at ha
  refine (snone _ E (HE.out.below ha HE.out.le)).mono ?_
  rintro e w2 ⟨rfl, hb⟩
  obtain ⟨b1, b2⟩ := alloc_hash hb
  have B2 := Lib.hid b2
  have B1 := Lib.hid b1
  clear b1 b2 hb ha
  have hx32 := sha_length [4]
  obtain ⟨x, hx⟩ : ∃ x, x = sha [4] := ⟨_, rfl⟩
  rw [← hx] at hx32 ⊢
  have HX := Lib.hid hx
  clear hx
  unfold hv
  go_wp2_with (refine wpList_store_mid rfl _ _ _ rfl w.heap.size 0 (bcs x).toArray rfl rfl (there_of B2.out hx32) (hsize' _ hx32) (bcs_all _) ?_)
  exact ret_hash' rfl rfl (store_hash hx32 B2.out) rfl ⟨by rw [HX.out], below_setCells B1.out (Nat.le_refl _) _ _⟩
/-- A chain of no batches at block b. -/
structure Chain0 (w : World) (b : Nat) : Prop where
  ex : ∃ bl bs, w.heap[b]? = some (.cells #[.slice none 0 0, .slice (some ⟨bl, 0, none⟩) 1 1, .slice (some ⟨bs, 0, none⟩) 1 1] 122 (0, 0)) ∧ HAt w bl (sha []) ∧ HAt w bs (sha [4])
theorem Chain0.below {w w' : World} {b : Nat} (h : Chain0 w b) (hb : Below w.heap.size w w') : Chain0 w' b := by
  obtain ⟨bl, bs, h1, h2, h3⟩ := h.ex
  exact ⟨bl, bs, (hb.block b (Array.getElem?_eq_some_iff.1 h1).1).trans h1, h2.below hb h2.lt, h3.below hb h3.lt⟩
set_option maxHeartbeats 1600000 in
set_option maxRecDepth 100000 in
theorem dnew (w : World) (E : Nat) (hE : EnvS w E) : Calls Tryz.prog 28 #[] w fun e w' => ∃ b, e = .returned (.pointer (some ⟨b, 0, none⟩)) ∧ Chain0 w' b ∧ Below w.heap.size w w' := by
  have HE := Lib.hid hE
  clear hE
  go_enter Tryz.func28, Tryz.ntmps28
  go_wp2_with (fail)
  refine (hroot0 _ E HE.out).mono ?_
  rintro e w1 ⟨rfl, hb1⟩
  have hx32 := sha_length []
  obtain ⟨x, hx⟩ : ∃ x, x = sha [] := ⟨_, rfl⟩
  rw [← hx] at hx32 ⊢
  have HX := Lib.hid hx
  clear hx
  go_wp2_with (refine wpList_plain rfl fun _ hK => wp_buildH 1 _ rfl [x] (by simpa using hx32) rfl (by decide) (by decide) rfl (hK _ _ ?_))
  have k2 := hash_box' w1 30 x hx32
  have K2 := Lib.hid k2
  have HB1 := Lib.hid hb1
  clear k2 hb1
  generalize w1.alloc (Obj.cells (hcs [x]).toArray 30) = w2 at *
  have en2 : EnvS w2 E := (HE.out.below HB1.out HE.out.le).below K2.out.1 (Nat.le_trans HE.out.le HB1.out.size)
  refine (sroot0 w2 E en2).mono ?_
  rintro e w3 ⟨rfl, hb3⟩
  have hy32 := sha_length [4]
  obtain ⟨y, hy⟩ : ∃ y, y = sha [4] := ⟨_, rfl⟩
  rw [← hy] at hy32 ⊢
  have HY := Lib.hid hy
  have HB3 := Lib.hid hb3
  have EN2 := Lib.hid en2
  clear hy hb3 en2
  go_wp2_with (refine wpList_plain rfl fun _ hK => wp_buildH 1 _ rfl [y] (by simpa using hy32) rfl (by decide) (by decide) rfl (hK _ _ ?_))
  have k4 := hash_box' w3 30 y hy32
  have s4 : (w3.alloc (Obj.cells (hcs [y]).toArray 30)).heap.size = w3.heap.size + 1 := by simp
  generalize w3.alloc (Obj.cells (hcs [y]).toArray 30) = w4 at *
  have h5 := heap_alloc_new w4 (Obj.cells #[Value.slice none 0 0, Value.slice (some ⟨w1.heap.size, 0, none⟩) 1 1, Value.slice (some ⟨w3.heap.size, 0, none⟩) 1 1] 122)
  have b5 : Below w4.heap.size w4 (w4.alloc (Obj.cells #[Value.slice none 0 0, Value.slice (some ⟨w1.heap.size, 0, none⟩) 1 1, Value.slice (some ⟨w3.heap.size, 0, none⟩) 1 1] 122)) := (Below.refl _ _).alloc (Nat.le_refl _) _
  go_ret
  refine ⟨w3.heap.size + 1, rfl, ⟨w1.heap.size, w3.heap.size, ?_, ?_, ?_⟩, ?_⟩
  · rw [← s4]; exact h5
  · rw [← HX.out]
    exact (((K2.out.2.below HB3.out K2.out.2.lt).below k4.1 (by have := K2.out.2.lt; have := HB3.out.size; omega)).below b5 (by have := K2.out.2.lt; have := HB3.out.size; omega))
  · rw [← HY.out]
    exact k4.2.below b5 k4.2.lt
  · have q1 := HB1.out.size
    have q2 := K2.out.1.size
    have q3 := HB3.out.size
    exact HB1.out.trans ((K2.out.1.mono q1).trans ((HB3.out.mono (by omega)).trans ((k4.1.mono (by omega)).trans (b5.mono (by omega)))))
set_option maxHeartbeats 1600000 in
set_option maxRecDepth 100000 in
theorem dlen (w : World) (b : Nat) (hC : Chain0 w b) : Calls Tryz.prog 62 #[.pointer (some ⟨b, 0, none⟩)] w fun e w' => e = .returned (.int .i64 0) ∧ w' = w := by
  obtain ⟨bl, bs, h1, h2, h3⟩ := hC.ex
  have c0 : w.cell? ⟨b, 0, none⟩ = some (.slice none 0 0) := by simp [World.cell?, h1]
  clear hC h1 h2 h3
  go_enter Tryz.func62, Tryz.ntmps62
  go_wp2
  go_ret
  exact ⟨rfl, rfl⟩
set_option maxHeartbeats 1600000 in
set_option maxRecDepth 100000 in
theorem droots (w : World) (b : Nat) (hC : Chain0 w b) : Calls Tryz.prog 61 #[.pointer (some ⟨b, 0, none⟩), .int .i64 0] w fun e w' => e = .returned (.tuple #[hv (sha []), hv (sha [4]), .bool true]) ∧ Below w.heap.size w w' := by
  obtain ⟨bl, bs, h1, h2, h3⟩ := hC.ex
  have c0 : w.cell? ⟨b, 0, none⟩ = some (.slice none 0 0) := by simp [World.cell?, h1]
  have c1 : w.cell? ⟨b, 1, none⟩ = some (.slice (some ⟨bl, 0, none⟩) 1 1) := by simp [World.cell?, h1]
  have c2 : w.cell? ⟨b, 2, none⟩ = some (.slice (some ⟨bs, 0, none⟩) 1 1) := by simp [World.cell?, h1]
  have hlt := (Array.getElem?_eq_some_iff.1 h1).1
  have H2 := Lib.hid h2
  have H3 := Lib.hid h3
  clear hC h1 h2 h3
  go_enter Tryz.func61, Tryz.ntmps61
  have hx32 := sha_length []
  have hy32 := sha_length [4]
  obtain ⟨x, hx⟩ : ∃ x, x = sha [] := ⟨_, rfl⟩
  obtain ⟨y, hy⟩ : ∃ y, y = sha [4] := ⟨_, rfl⟩
  rw [← hx] at hx32 H2
  rw [← hy] at hy32 H3
  have HX := Lib.hid hx
  have HY := Lib.hid hy
  clear hx hy
  go_wp2_with (fail)
  have t1 := there_new w 30 #[.int .u8 0, .int .u8 0, .int .u8 0, .int .u8 0, .int .u8 0, .int .u8 0, .int .u8 0, .int .u8 0, .int .u8 0, .int .u8 0, .int .u8 0, .int .u8 0, .int .u8 0, .int .u8 0, .int .u8 0, .int .u8 0, .int .u8 0, .int .u8 0, .int .u8 0, .int .u8 0, .int .u8 0, .int .u8 0, .int .u8 0, .int .u8 0, .int .u8 0, .int .u8 0, .int .u8 0, .int .u8 0, .int .u8 0, .int .u8 0, .int .u8 0, .int .u8 0] 32 (Nat.le_refl _)
  have u1 : Below w.heap.size w (w.alloc (.cells #[.int .u8 0, .int .u8 0, .int .u8 0, .int .u8 0, .int .u8 0, .int .u8 0, .int .u8 0, .int .u8 0, .int .u8 0, .int .u8 0, .int .u8 0, .int .u8 0, .int .u8 0, .int .u8 0, .int .u8 0, .int .u8 0, .int .u8 0, .int .u8 0, .int .u8 0, .int .u8 0, .int .u8 0, .int .u8 0, .int .u8 0, .int .u8 0, .int .u8 0, .int .u8 0, .int .u8 0, .int .u8 0, .int .u8 0, .int .u8 0, .int .u8 0, .int .u8 0] 30)) := (Below.refl _ _).alloc (Nat.le_refl _) _
  have s1 : (w.alloc (.cells #[.int .u8 0, .int .u8 0, .int .u8 0, .int .u8 0, .int .u8 0, .int .u8 0, .int .u8 0, .int .u8 0, .int .u8 0, .int .u8 0, .int .u8 0, .int .u8 0, .int .u8 0, .int .u8 0, .int .u8 0, .int .u8 0, .int .u8 0, .int .u8 0, .int .u8 0, .int .u8 0, .int .u8 0, .int .u8 0, .int .u8 0, .int .u8 0, .int .u8 0, .int .u8 0, .int .u8 0, .int .u8 0, .int .u8 0, .int .u8 0, .int .u8 0, .int .u8 0] 30)).heap.size = w.heap.size + 1 := by simp
  generalize w.alloc (.cells #[.int .u8 0, .int .u8 0, .int .u8 0, .int .u8 0, .int .u8 0, .int .u8 0, .int .u8 0, .int .u8 0, .int .u8 0, .int .u8 0, .int .u8 0, .int .u8 0, .int .u8 0, .int .u8 0, .int .u8 0, .int .u8 0, .int .u8 0, .int .u8 0, .int .u8 0, .int .u8 0, .int .u8 0, .int .u8 0, .int .u8 0, .int .u8 0, .int .u8 0, .int .u8 0, .int .u8 0, .int .u8 0, .int .u8 0, .int .u8 0, .int .u8 0, .int .u8 0] 30) = wa at *
  have t2 := there_new wa 30 #[.int .u8 0, .int .u8 0, .int .u8 0, .int .u8 0, .int .u8 0, .int .u8 0, .int .u8 0, .int .u8 0, .int .u8 0, .int .u8 0, .int .u8 0, .int .u8 0, .int .u8 0, .int .u8 0, .int .u8 0, .int .u8 0, .int .u8 0, .int .u8 0, .int .u8 0, .int .u8 0, .int .u8 0, .int .u8 0, .int .u8 0, .int .u8 0, .int .u8 0, .int .u8 0, .int .u8 0, .int .u8 0, .int .u8 0, .int .u8 0, .int .u8 0, .int .u8 0] 32 (Nat.le_refl _)
  have u2 : Below wa.heap.size wa (wa.alloc (.cells #[.int .u8 0, .int .u8 0, .int .u8 0, .int .u8 0, .int .u8 0, .int .u8 0, .int .u8 0, .int .u8 0, .int .u8 0, .int .u8 0, .int .u8 0, .int .u8 0, .int .u8 0, .int .u8 0, .int .u8 0, .int .u8 0, .int .u8 0, .int .u8 0, .int .u8 0, .int .u8 0, .int .u8 0, .int .u8 0, .int .u8 0, .int .u8 0, .int .u8 0, .int .u8 0, .int .u8 0, .int .u8 0, .int .u8 0, .int .u8 0, .int .u8 0, .int .u8 0] 30)) := (Below.refl _ _).alloc (Nat.le_refl _) _
  have t3 := there_below t1 u2 (by omega)
  have hbb := u1.trans (u2.mono u1.size)
  rw [s1] at t2
  generalize wa.alloc (.cells #[.int .u8 0, .int .u8 0, .int .u8 0, .int .u8 0, .int .u8 0, .int .u8 0, .int .u8 0, .int .u8 0, .int .u8 0, .int .u8 0, .int .u8 0, .int .u8 0, .int .u8 0, .int .u8 0, .int .u8 0, .int .u8 0, .int .u8 0, .int .u8 0, .int .u8 0, .int .u8 0, .int .u8 0, .int .u8 0, .int .u8 0, .int .u8 0, .int .u8 0, .int .u8 0, .int .u8 0, .int .u8 0, .int .u8 0, .int .u8 0, .int .u8 0, .int .u8 0] 30) = wb at *
  clear t1 u1 u2
  refine wp_region_gen
    (C := fun w1 => Below w.heap.size w w1 ∧ w1.cell? ⟨b, 1, none⟩ = some (.slice (some ⟨bl, 0, none⟩) 1 1) ∧ w1.cell? ⟨b, 2, none⟩ = some (.slice (some ⟨bs, 0, none⟩) 1 1) ∧ w1.there w.heap.size 0 32 ∧ w1.there (w.heap.size + 1) 0 32)
    (L := fun w w' => w = w') (R := fun _ _ => True) (X0 := fun _ => True)
    [.q, .q, .q, .q, .q, .q, .q, .q, .q, .q, .q, .q, .q, .q, .c (fun _ => True) (fun _ w1 => HAt w1 w.heap.size x), .c (fun _ => True) (fun _ w1 => HAt w1 w.heap.size x ∧ HAt w1 (w.heap.size + 1) y), .q]
    (by kernel_rfl) rfl (by kernel_rfl) (fun _ _ _ => trivial) (fun _ _ _ _ => trivial) ?C trivial ?Gen
  case C =>
    have hbd := bel_dr hbb
    exact ⟨hbd, (hbd.cell hlt).trans c1, (hbd.cell hlt).trans c2, t3, t2⟩
  case Gen =>
  iterate 6 (apply gen_q rfl; (rintro w1 ⟨e1, e2, e3, e4⟩; apply Same.of_wp rfl rfl (Nat.le_of_ble_eq_true rfl); intro KK QQ hK; simp only [Act.put, List.setIfInBounds_toArray, List.set_cons_succ, List.set_cons_zero] at hK; go_step; exact hK); simp only [Act.put, List.setIfInBounds_toArray, List.set_cons_succ, List.set_cons_zero])
  refine gen_q (v := .agg (bcs x).toArray) rfl ?_ ?_
  · rintro w1 ⟨e1, -⟩
    apply Same.of_wp rfl rfl (Nat.le_of_ble_eq_true rfl)
    intro KK QQ hK
    exact wp_load_mid _ _ rfl bl 0 rfl (bcs x) _ (H2.out.below e1 H2.out.lt).range Tryz.underlying30 rfl (hsize x hx32) hK
  simp only [Act.put, List.setIfInBounds_toArray, List.set_cons_succ, List.set_cons_zero]
  iterate 6 (apply gen_q rfl; (rintro w1 ⟨e1, e2, e3, e4⟩; apply Same.of_wp rfl rfl (Nat.le_of_ble_eq_true rfl); intro KK QQ hK; simp only [Act.put, List.setIfInBounds_toArray, List.set_cons_succ, List.set_cons_zero] at hK; go_step; exact hK); simp only [Act.put, List.setIfInBounds_toArray, List.set_cons_succ, List.set_cons_zero])
  refine gen_q (v := .agg (bcs y).toArray) rfl ?_ ?_
  · rintro w1 ⟨e1, -⟩
    apply Same.of_wp rfl rfl (Nat.le_of_ble_eq_true rfl)
    intro KK QQ hK
    exact wp_load_mid _ _ rfl bs 0 rfl (bcs y) _ (H3.out.below e1 H3.out.lt).range Tryz.underlying30 rfl (hsize y hy32) hK
  simp only [Act.put, List.setIfInBounds_toArray, List.set_cons_succ, List.set_cons_zero]
  refine gen_c rfl ⟨undef, trivial⟩ (by rintro v w1 w2 h rfl; exact h) ?_ ?_
  · rintro w1 ⟨e1, e2, e3, e4, e5⟩ - -
    refine Loud.of_wp0 rfl (fun KK QQ hK => ?_)
    refine wp_store_mid _ _ _ rfl w.heap.size 0 (bcs x).toArray rfl rfl (there_of e4 hx32) (hsize' _ hx32) (bcs_all _) ?_
    have hbs := below_setCells e1 (Nat.le_refl _) 0 (bcs x).toArray.toList
    exact hK _ ⟨⟨hbs, (hbs.cell hlt).trans c1, (hbs.cell hlt).trans c2, World.there_setCells e4 _ _ _, World.there_setCells e5 _ _ _⟩, trivial, trivial, store_hash hx32 e4⟩
  rintro v -
  refine gen_c rfl ⟨undef, trivial⟩ (by rintro v w1 w2 h rfl; exact h) ?_ ?_
  · rintro w1 ⟨e1, e2, e3, e4, e5⟩ hX -
    refine Loud.of_wp0 rfl (fun KK QQ hK => ?_)
    refine wp_store_mid _ _ _ rfl (w.heap.size + 1) 0 (bcs y).toArray rfl rfl (there_of e5 hy32) (hsize' _ hy32) (bcs_all _) ?_
    have hbs := below_setCells e1 (Nat.le_succ _) 0 (bcs y).toArray.toList
    exact hK _ ⟨⟨hbs, (hbs.cell hlt).trans c1, (hbs.cell hlt).trans c2, World.there_setCells e4 _ _ _, World.there_setCells e5 _ _ _⟩, trivial, trivial, ⟨hx32, rangeAt_move hX.range fun _ => heap_setCells_ne _ _ _ _ hX.lt (by omega)⟩, store_hash hy32 e5⟩
  rintro v -
  (apply gen_q rfl; (rintro w1 ⟨e1, e2, e3, e4⟩; apply Same.of_wp rfl rfl (Nat.le_of_ble_eq_true rfl); intro KK QQ hK; simp only [Act.put, List.setIfInBounds_toArray, List.set_cons_succ, List.set_cons_zero] at hK; go_step; exact hK); simp only [Act.put, List.setIfInBounds_toArray, List.set_cons_succ, List.set_cons_zero])
  refine gen_nil ?_
  rintro w1 ⟨e1, -⟩ ⟨hX, hY⟩ -
  clear c0 c1 c2 t2 t3 hbb H2 H3
  go_wp2
  refine bodyPost_ret (results_hh rfl _ _ w.heap.size (w.heap.size + 1) x y rfl rfl hX hY) rfl ⟨?_, e1⟩
  rw [HX.out, HY.out]
  rfl
set_option maxHeartbeats 1600000 in
set_option maxRecDepth 100000 in
theorem dat (w : World) (E : Nat) (hE : EnvAt w E) (b : Nat) (hC : Chain0 w b) : Calls Tryz.prog 40 #[.pointer (some ⟨b, 0, none⟩), .int .i64 0] w fun e w' => e = .returned (.tuple #[hv (dg 0 (sha []) (sha [4])), .bool true]) ∧ Below w.heap.size w w' := by
  have hlt := (Array.getElem?_eq_some_iff.1 hC.ex.choose_spec.choose_spec.1).1
  have HC := Lib.hid hC
  have HE := Lib.hid hE
  clear hC hE
  go_enter Tryz.func40, Tryz.ntmps40
  have hx32 := sha_length []
  have hy32 := sha_length [4]
  obtain ⟨x, hx⟩ : ∃ x, x = sha [] := ⟨_, rfl⟩
  obtain ⟨y, hy⟩ : ∃ y, y = sha [4] := ⟨_, rfl⟩
  have hd32 : (dg 0 x y).length = 32 := sha_length _
  obtain ⟨d, hd⟩ : ∃ d, d = dg 0 x y := ⟨_, rfl⟩
  rw [← hx] at hx32
  rw [← hy] at hy32
  rw [← hd] at hd32
  have HX := Lib.hid hx
  have HY := Lib.hid hy
  have HD := Lib.hid hd
  clear hx hy hd
  go_wp2_with (fail)
  obtain ⟨n1, n2, n3⟩ := new_hash w
  generalize w.alloc (Obj.cells _ 30) = w1 at *
  refine (droots w1 b (HC.out.below n2)).mono ?_
  rintro e w2 ⟨rfl, hb2⟩
  rw [← HX.out, ← HY.out]
  have th2 := there_below n1 hb2 (by omega)
  have bb2 := n2.trans (hb2.mono n2.size)
  have hs2 := bb2.size
  have hs3 := hb2.size
  clear n1 n2 hb2
  unfold hv
  have hn2 := Lib.hid (new_hash2 w2)
  go_wp2_with (refine wpList_setH rfl rfl w2.heap.size x rfl rfl hx32 hn2.out.1 ?_)
  intro w5 d1 d2 d3 d4
  obtain ⟨-, b2, b3, b4⟩ := hn2.out
  clear hn2
  have th4 := there_below th2 b3 (by omega)
  have bb4 := bb2.trans (b3.mono hs2)
  generalize (w2.alloc (Obj.cells _ 30)).alloc (Obj.cells _ 30) = w4 at *
  go_wp2_with (refine wpList_setH rfl rfl (w2.heap.size + 1) y rfl rfl hy32 (d4 _ b2) ?_)
  intro w6 e1 e2 e3 e4
  have hx6 : HAt w6 w2.heap.size x := d3.kp e1 (by omega)
  have bb6 : Below w.heap.size w w6 := e1.ex (d1.ex bb4 (by rintro k rfl; omega)) (by rintro k rfl; omega)
  have th6 := e4 _ (d4 _ th4)
  have s6 : w6.heap.size = w2.heap.size + 2 := by omega
  clear b2 b3 th2 th4 bb4 d1 d3 d4 e1 e4
  go_wp2_with (first | refine wpList_getH rfl rfl w2.heap.size x rfl hx6 ?_ | refine wpList_getH rfl rfl (w2.heap.size + 1) y rfl e3 ?_ | fail)
  have hE6 := HE.out.below bb6 HE.out.le
  refine (dig_nil w6 E hE6 0 (by decide) x y hx32 hy32).mono ?_
  rintro e w7 ⟨rfl, hb7⟩
  rw [← HD.out]
  have th7 := there_below th6 hb7 (by omega)
  have bb7 := bb6.trans (hb7.mono bb6.size)
  clear hE6 hb7 th6 bb6 hx6 e3
  go_wp2_with (refine wpList_setH rfl rfl w.heap.size d rfl rfl hd32 th7 ?_)
  intro w8 f1 f2 f3 f4
  go_wp2
  refine bodyPost_ret (results_ht rfl _ _ w.heap.size d rfl f3) rfl ⟨?_, f1.ex bb7 (by rintro k rfl; omega)⟩
  rw [HD.out, HX.out, HY.out]
  rfl
set_option maxHeartbeats 1600000 in
set_option maxRecDepth 100000 in
theorem wnew (w : World) : Calls Tryz.prog 6 #[.slice none 0 0] w fun e w' => ∃ b, e = .returned (.pointer (some ⟨b, 0, none⟩)) ∧ w'.cell? ⟨b, 0, none⟩ = some (.slice none 0 0) ∧ w'.cell? ⟨b, 1, none⟩ = some (.bool false) ∧ Below w.heap.size w w' := by
  go_enter Tryz.func6, Tryz.ntmps6
  go_wp2
  go_ret
  have h1 := heap_alloc_new w (Obj.cells #[.slice none 0 0, .bool false] 58)
  exact ⟨_, rfl, cell_blk h1 0, cell_blk h1 1, (Below.refl _ _).alloc (Nat.le_refl _) _⟩
set_option maxHeartbeats 1600000 in
set_option maxRecDepth 100000 in
theorem wdone (w : World) (b : Nat) (h0 : w.cell? ⟨b, 0, none⟩ = some (.slice none 0 0)) (h1 : w.cell? ⟨b, 1, none⟩ = some (.bool false)) :
    Calls Tryz.prog 9 #[.pointer (some ⟨b, 0, none⟩)] w fun e w' => e = .returned (.bool true) ∧ w' = w := by
  go_enter Tryz.func9, Tryz.ntmps9
  go_wp2
  go_ret
  exact ⟨rfl, rfl⟩
end Go.Proofs.YtbenjjaofabdcaaGreatDoor
