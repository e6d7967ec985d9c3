/-
  sha.Of: the hash of its parts together; with a tape, what was hashed is noted behind what was noted before.
-/
import Derived.Test.YtbenjjaofabdcaaGreatDoorShaB
namespace Go.Proofs.YtbenjjaofabdcaaGreatDoor
open Go Go.RowKit

/-- v reads as parts of bytes. -/
def Parts (w : World) (v : Value) (ps : List (List UInt8)) : Prop := ∃ hs : List Value, Sl w 1 v ps.length hs ∧ ∀ (i : Nat) (h : Value) (l : List UInt8), hs[i]? = some h → ps[i]? = some l → Bs w h l
theorem Parts.below {w w' : World} {v : Value} {ps : List (List UInt8)} (h : Parts w v ps) (hb : Below w.heap.size w w') : Parts w' v ps := by
  obtain ⟨hs, h1, h2⟩ := h
  exact ⟨hs, h1.below hb, fun i a l h3 h4 => (h2 i a l h3 h4).below hb⟩
theorem elem_bytes : ElemOk Tryz.prog 32 26 1 24 := elemOk_mk (by kernel_rfl) (by kernel_rfl) (by decide) (by decide)

theorem hash_size' (b : List UInt8) : (Tryz.prog.info? 30).map (·.size) = some (bcs (sha b)).length := by
  rw [bcs_length, sha_length]; kernel_rfl
theorem hash_size (b : List UInt8) : (Tryz.prog.info? 30).map (·.size) = some (bcs (sha b)).toArray.size := by
  simpa using hash_size' b
/-- A function whose one result is a hash in a cell of its own, just stored. -/
theorem ret_hash {fn : Func} {R : Ending → World → Prop} {a : Act} {w : World} {p : Tmp} {g : Nat} {b : List UInt8} (h : fn.results = #[.cell p 30]) (hp : a.tmps.getD p undef = .pointer (some ⟨g, 0, none⟩))
    (ht : w.there g 0 (bcs (sha b)).toArray.size) (hd : a.defers = []) (hR : R (.returned (hv (sha b))) (w.setCells g 0 (bcs (sha b)).toArray.toList)) :
    bodyPost Tryz.prog fn R .ret a (w.setCells g 0 (bcs (sha b)).toArray.toList) := by
  refine bodyPost_ret (results_cell_mid h _ _ g 0 (bcs (sha b)) _ hp ?_ Tryz.underlying30 rfl (hash_size' b)) hd hR
  have := World.rangeAt_setCells_same w g 0 (bcs (sha b)) (by simpa using ht)
  simpa using this
/-- What may be changed: the blocks of S. -/
structure Kp (S : Nat → Prop) (w w' : World) : Prop where
  os : w'.os = w.os
  tape : w'.tape = w.tape
  output : w'.output = w.output
  size : w.heap.size ≤ w'.heap.size
  block : ∀ k, k < w.heap.size → ¬ S k → w'.heap[k]? = w.heap[k]?
theorem Kp.refl (S : Nat → Prop) (w : World) : Kp S w w := ⟨rfl, rfl, rfl, Nat.le_refl _, fun _ _ _ => rfl⟩
theorem Kp.trans {S : Nat → Prop} {a b c : World} (h : Kp S a b) (k : Kp S b c) : Kp S a c :=
  ⟨k.os.trans h.os, k.tape.trans h.tape, k.output.trans h.output, Nat.le_trans h.size k.size, fun i hi hn => (k.block i (by have := h.size; omega) hn).trans (h.block i hi hn)⟩
theorem Kp.of_below {S : Nat → Prop} {w w' : World} (h : Below w.heap.size w w') : Kp S w w' := ⟨h.os, h.tape, h.output, h.size, fun k hk _ => h.block k hk⟩
theorem Kp.grown {S : Nat → Prop} {a w w' : World} {row : Option Nat} (h : Kp S a w) (hg : w.grownBy w' row) (hr : ∀ k, row = some k → k < a.heap.size → S k) : Kp S a w' :=
  ⟨hg.os.trans h.os, hg.tape.trans h.tape, hg.output.trans h.output, Nat.le_trans h.size hg.size, fun k hk hn => (hg.block k (by have := h.size; omega) (fun e => hn (hr k e.symm hk))).trans (h.block k hk hn)⟩
theorem Kp.mono {S T : Nat → Prop} {w w' : World} (h : Kp S w w') (hST : ∀ k, S k → T k) : Kp T w w' := ⟨h.os, h.tape, h.output, h.size, fun k hk hn => h.block k hk fun hs => hn (hST k hs)⟩
theorem grown_set (w : World) (b o : Nat) (v : Value) : w.grownBy (w.setCell ⟨b, o, none⟩ v) (some b) := grown_setCell ⟨rfl, rfl, rfl, Nat.le_refl _, fun _ _ _ => rfl⟩ v
theorem Kp.below {S : Nat → Prop} {B : Nat} {w w' : World} (h : Kp S w w') (hB : B ≤ w.heap.size) (hS : ∀ k, S k → B ≤ k) : Below B w w' :=
  ⟨h.os, h.tape, h.output, h.size, fun k hk => h.block k (by omega) (fun hs => by have := hS k hs; omega)⟩

theorem cell_of_block {w w' : World} {b o : Nat} (h : w'.heap[b]? = w.heap[b]?) : w'.cell? ⟨b, o, none⟩ = w.cell? ⟨b, o, none⟩ := World.cell?_of_block h
theorem ShaEnv.keep {S : Nat → Prop} {w w' : World} (h : ShaEnv w) (hb : Kp S w w') (hG : ¬ S 1 ∧ ¬ S 0) : ShaEnv w' :=
  ⟨fun i hi => (World.cell?_of_block (hb.block _ (block_lt_of_cell (h.rounds i hi)) hG.1)).trans (h.rounds i hi), fun i hi => (World.cell?_of_block (hb.block _ (block_lt_of_cell (h.start i hi)) hG.2)).trans (h.start i hi)⟩

/-- A tape at block bt: what is noted; its own blocks. -/
structure TapeAt (w : World) (F : Nat → Prop) (bt : Nat) (bl : List (List UInt8)) : Prop where
  mem : ∀ k, F k → k < w.heap.size
  self : F bt
  ex : ∃ vl hs, w.heap[bt]? = some (.cells #[vl] 70 (0, 0)) ∧ w.ownsRow 0 26 1 vl bl.length hs ∧ (∀ k, vl.ownBlock = some k → F k ∧ k ≠ bt) ∧
    ∀ (i : Nat) (h : Value) (l : List UInt8), hs[i]? = some h → bl[i]? = some l → Bs w h l ∧ ∀ k, h.ownBlock = some k → F k ∧ k ≠ bt ∧ vl.ownBlock ≠ some k

theorem heap_setCells_ne (w : World) (g o : Nat) (vs : List Value) {i : Nat} (hi : i < w.heap.size) (hne : i ≠ g) : (w.setCells g o vs).heap[i]? = w.heap[i]? := by
  induction vs generalizing o w with
  | nil => rfl
  | cons v r ih =>
    refine (ih (w.setCell ⟨g, o, none⟩ v) (o + 1) (by simpa [World.setCell] using hi)).trans ?_
    exact Below.heap_setCell w ⟨g, o, none⟩ v i hne
theorem tape_end {w w1 w8 : World} {F : Nat → Prop} {bt : Nat} {vl : Value} {th : List Value} {bl : List (List UInt8)} {l : List UInt8} {v8 v6 : Value}
    (tb : w.heap[bt]? = some (.cells #[vl] 70 (0, 0))) (town : w.ownsRow 0 26 1 vl bl.length th) (tne : ∀ k, vl.ownBlock = some k → F k ∧ k ≠ bt)
    (tall : ∀ (i : Nat) (h : Value) (l : List UInt8), th[i]? = some h → bl[i]? = some l → Bs w h l ∧ ∀ k, h.ownBlock = some k → F k ∧ k ≠ bt ∧ vl.ownBlock ≠ some k)
    (tmem : ∀ k, F k → k < w.heap.size) (tself : F bt) (e3 : Kp (fun k => vl.ownBlock = some k ∨ k = bt) w w1)
    (hX1 : w1.heap[bt]? = some (.cells #[v8] 70 (0, 0))) (hX : w1.ownsRow 0 26 1 v8 (bl.length + 1) (th ++ [v6])) (hX2 : OwnB w1 (w.heap.size + 1) 5 v6 l)
    (hX3 : v8.ownBlock = vl.ownBlock ∨ ∃ k, v8.ownBlock = some k ∧ w.heap.size < k) (hX4 : ∀ k, v6.ownBlock = some k → v8.ownBlock ≠ some k) (hlt : w.heap.size < w1.heap.size)
    (hg : w1.grownBy w8 (some w.heap.size)) : Kp F w w8 ∧ TapeAt w8 (fun k => F k ∨ w.heap.size ≤ k ∧ k < w8.heap.size) bt (bl ++ [l]) := by
  have hbt := tmem bt tself
  have hth : th.length = bl.length := by have := town.1; omega
  have hF : ∀ k, vl.ownBlock = some k ∨ k = bt → F k := by
    rintro k (h | rfl)
    · exact (tne k h).1
    · exact tself
  have k1 : Kp F w w8 := (e3.mono hF).grown hg (by rintro k hk h; cases hk; omega)
  have h8 : ∀ k, v8.ownBlock = some k → k ≠ w.heap.size ∧ k ≠ bt ∧ (F k ∨ w.heap.size ≤ k ∧ k < w8.heap.size) := fun k hk => by
    have h1 := (own_base hX k hk).2
    have h2 := hg.size
    rcases hX3 with h | ⟨k', h, h'⟩
    · rw [h] at hk
      have := tne k hk
      have := tmem k this.1
      exact ⟨by omega, (tne k hk).2, .inl (tne k hk).1⟩
    · rw [h] at hk
      cases hk
      exact ⟨by omega, by omega, .inr ⟨by omega, by omega⟩⟩
  refine ⟨k1, fun k hk => ?_, .inl tself, v8, th ++ [v6], ?_, ?_, fun k hk => ⟨(h8 k hk).2.2, (h8 k hk).2.1⟩, ?_⟩
  · rcases hk with h | h
    · exact Nat.lt_of_lt_of_le (tmem k h) k1.size
    · exact h.2
  · exact (hg.block bt (by omega) (by intro e; cases e; omega)).trans hX1
  · rw [List.length_append]
    refine World.ownsRow.kept hX hg ?_
    cases hv : v8.ownBlock with
    | none => exact .inl rfl
    | some k => exact .inr fun e => (h8 k hv).1 (by cases e; rfl)
  · intro i h l' h1 h2
    by_cases hi : i < bl.length
    · rw [List.getElem?_append_left (by omega)] at h1 h2
      obtain ⟨h3, h4⟩ := tall i h l' h1 h2
      refine ⟨Sl.move h3 fun b hb hlt' => ?_, fun k hk => ?_⟩
      · have h5 := h4 b hb
        have h6 := tmem b h5.1
        exact (hg.block b (by omega) (by intro e; cases e; omega)).trans (e3.block b h6 (by rintro (h | h); exact h5.2.2 h; exact h5.2.1 h))
      · have h5 := h4 k hk
        have h6 := tmem k h5.1
        refine ⟨.inl h5.1, h5.2.1, fun h => ?_⟩
        rcases hX3 with h7 | ⟨k', h7, h8⟩
        · rw [h7] at h; exact h5.2.2 h
        · rw [h7] at h; cases h; omega
    · have hi2 : i < (bl ++ [l]).length := (List.getElem?_eq_some_iff.1 h2).1
      rw [List.length_append, List.length_singleton] at hi2
      obtain rfl : i = bl.length := by omega
      rw [List.getElem?_append_right (by omega)] at h1 h2
      simp [hth] at h1 h2
      subst h1; subst h2
      refine ⟨(hX2.keep hg fun k hk => ?_).bs, fun k hk => ?_⟩
      · have := hX2.base k hk
        intro e; cases e; omega
      · have h3 := hX2.base k hk
        have h4 := (own_base hX2 k hk).2
        have h5 := hg.size
        exact ⟨.inr ⟨by omega, by omega⟩, by omega, hX4 k hk⟩
set_option maxHeartbeats 1600000 in
set_option maxRecDepth 100000 in
theorem of_nil (w : World) (v : Value) (ps : List (List UInt8)) (hE : ShaEnv w) (hp : Parts w v ps) (hlen : ps.flatten.length ≤ 1099511627776) (hn : ps.length ≤ 1099511627776) :
    Calls Tryz.prog 11 #[.pointer none, v] w fun e w' => e = .returned (hv (sha ps.flatten)) ∧ Below w.heap.size w w' := by
  obtain ⟨hs, hS, hH⟩ := hp
  obtain ⟨ao, c, rfl⟩ := hS.form
  have HS := Lib.hid hS
  have HE := Lib.hid hE
  have HH := Lib.hid hH
  clear hS hE hH
  go_enter Tryz.func11, Tryz.ntmps11
  go_wp2
  go_loopw [5, 7, 10] (fun v _ i wr => ∃ k : Nat, k ≤ ps.length ∧ i = .int .i64 k ∧ OwnB wr (w.heap.size + 1) 5 v (ps.take k).flatten ∧ ArrAt wr w.heap.size 30 32 (fun _ => .int .u8 0) ∧ Below w.heap.size w wr) (fun _ _ i _ => ps.length - (intOf i).toNat)
  case atStart => exact ⟨0, Nat.zero_le _, rfl, OwnB.nil _ _ _, arr_alloc _ _ _ _ _ rfl, (Below.refl _ _).alloc (Nat.le_refl _) _⟩
  case round =>
    obtain ⟨k, hk, rfl, hO, hA, hb⟩ := hrel
    have hs4 := hA.lt
    have HO := Lib.hid hO
    have HA := Lib.hid hA
    clear hO hA
    by_cases hlt : k < ps.length
    · have hkl : k < hs.length := by rw [HS.out.len]; omega
      have hSw := HS.out.below hb
      obtain ⟨b0, o0, rfl⟩ : ∃ b0 o0, ao = some ⟨b0, o0, none⟩ := by
        rcases HS.out with ⟨h1, h2, _⟩ | ⟨b, o, c', h1, _⟩
        · omega
        · simp only [Value.slice.injEq] at h1; exact ⟨b, o, h1.1⟩
      have c1 : wr.cell? ⟨b0, o0 + k, none⟩ = some hs[k] := hSw.cell k hkl
      have hbk : Bs wr hs[k] ps[k] := (HH.out k _ _ (by simp [hkl]) (by simp [hlt])).below hb
      obtain ⟨ak, ck, hkv⟩ := hbk.form
      rw [hkv] at c1 hbk
      have hfl : (ps.take (k + 1)).flatten = (ps.take k).flatten ++ ps[k] := by
        rw [List.take_succ_eq_append_getElem hlt, List.flatten_append, List.flatten_cons, List.flatten_nil, List.append_nil]
      have hle : (ps.take (k + 1)).flatten.length ≤ ps.flatten.length := by
        conv => rhs; rw [← List.take_append_drop (k + 1) ps, List.flatten_append]
        simp
      rw [hfl] at hle
      have HF := Lib.hid hfl
      have HB := Lib.hid hbk
      clear hfl hbk hkv hSw
      go_wp2_with (at_builtin; refine wpList_appB (base := w.heap.size + 1) elem_u8 rfl _ _ rfl (xs := (ps.take k).flatten) (news := ps[k]) rfl HO.out rfl HB.out ?p3 ?p4 ?_)
      case p3 => rw [List.length_append] at hle; omega
      case p4 => omega
      intro v5 w5 hown5 hgr5
      have hb5 : Below w.heap.size w w5 := hb.grown hgr5 hb.size (fun k hk => by have := HO.out.base k hk; omega)
      have hA5 := HA.out.grown hgr5 (fun e => by have := HO.out.base _ e.symm; omega)
      have HO5 := Lib.hid hown5
      have HA5 := Lib.hid hA5
      clear hown5 hA5 hgr5
      go_wp2
      refine ⟨⟨k + 1, by omega, by go_num, by rw [HF.out]; exact HO5.out, HA5.out, hb5⟩, by simp [intOf]; omega⟩
    · obtain rfl : k = ps.length := by omega
      rw [List.take_length] at HO
      have hE2 := HE.out.below hb
      obtain ⟨a4, c4, rfl⟩ := HO.out.form
      have HE2 := Lib.hid hE2
      clear hE2
      have hAl := HA.out
      clear HA HS
      go_wp2_with (fail)
      rw [← List.length_flatten]
      refine (sum_any wr _ ps.flatten HE2.out HO.out.bs hlen).mono ?_
      rintro e w7 ⟨rfl, hb7⟩
      have ht : w7.there w.heap.size 0 (bcs (sha ps.flatten)).toArray.size := by
        have := (hAl.below hb7 hs4).there
        simpa [bcs, sha_length] using this
      have hbw : Below w.heap.size w w7 := hb.trans (hb7.mono hb.size)
      have HT := Lib.hid ht
      clear ht hAl
      unfold hv
      go_wp2_with (refine wpList_store_mid rfl _ _ _ rfl w.heap.size 0 (bcs (sha ps.flatten)).toArray rfl rfl HT.out (hash_size _) (bcs_all _) ?_)
      exact ret_hash rfl rfl HT.out rfl ⟨rfl, below_setCells hbw (Nat.le_refl _) _ _⟩
set_option maxHeartbeats 1600000 in
set_option maxRecDepth 100000 in
theorem of_tape (w : World) (F : Nat → Prop) (bt : Nat) (bl : List (List UInt8)) (hT : TapeAt w F bt bl) (hG : ¬ F 1 ∧ ¬ F 0) (hbl : bl.length ≤ 1099511627776) (v : Value) (ps : List (List UInt8)) (hE : ShaEnv w) (hp : Parts w v ps) (hlen : ps.flatten.length ≤ 1099511627776) (hn : ps.length ≤ 1099511627776) :
    Calls Tryz.prog 11 #[.pointer (some ⟨bt, 0, none⟩), v] w fun e w' => e = .returned (hv (sha ps.flatten)) ∧ Kp F w w' ∧ TapeAt w' (fun k => F k ∨ w.heap.size ≤ k ∧ k < w'.heap.size) bt (bl ++ [ps.flatten]) := by
  obtain ⟨hs, hS, hH⟩ := hp
  obtain ⟨ao, c, rfl⟩ := hS.form
  obtain ⟨tmem, tself, vl, th, tb, town, tne, tall⟩ := hT
  have TB := Lib.hid tb
  have TOWN := Lib.hid town
  have TNE := Lib.hid tne
  have TALL := Lib.hid tall
  have TMEM := Lib.hid tmem
  have hbt : bt < w.heap.size := tmem bt tself
  clear tb town tne tall tmem
  have HS := Lib.hid hS
  have HE := Lib.hid hE
  have HH := Lib.hid hH
  clear hS hE hH
  go_enter Tryz.func11, Tryz.ntmps11
  go_wp2
  go_loopw [5, 7, 10] (fun v _ i wr => ∃ k : Nat, k ≤ ps.length ∧ i = .int .i64 k ∧ OwnB wr (w.heap.size + 1) 5 v (ps.take k).flatten ∧ ArrAt wr w.heap.size 30 32 (fun _ => .int .u8 0) ∧ Below w.heap.size w wr) (fun _ _ i _ => ps.length - (intOf i).toNat)
  case atStart => exact ⟨0, Nat.zero_le _, rfl, OwnB.nil _ _ _, arr_alloc _ _ _ _ _ rfl, (Below.refl _ _).alloc (Nat.le_refl _) _⟩
  case round =>
    obtain ⟨k, hk, rfl, hO, hA, hb⟩ := hrel
    have hs4 := hA.lt
    have HO := Lib.hid hO
    have HA := Lib.hid hA
    clear hO hA
    by_cases hlt : k < ps.length
    · have hkl : k < hs.length := by rw [HS.out.len]; omega
      have hSw := HS.out.below hb
      obtain ⟨b0, o0, rfl⟩ : ∃ b0 o0, ao = some ⟨b0, o0, none⟩ := by
        rcases HS.out with ⟨h1, h2, _⟩ | ⟨b, o, c', h1, _⟩
        · omega
        · simp only [Value.slice.injEq] at h1; exact ⟨b, o, h1.1⟩
      have c1 : wr.cell? ⟨b0, o0 + k, none⟩ = some hs[k] := hSw.cell k hkl
      have hbk : Bs wr hs[k] ps[k] := (HH.out k _ _ (by simp [hkl]) (by simp [hlt])).below hb
      obtain ⟨ak, ck, hkv⟩ := hbk.form
      rw [hkv] at c1 hbk
      have hfl : (ps.take (k + 1)).flatten = (ps.take k).flatten ++ ps[k] := by
        rw [List.take_succ_eq_append_getElem hlt, List.flatten_append, List.flatten_cons, List.flatten_nil, List.append_nil]
      have hle : (ps.take (k + 1)).flatten.length ≤ ps.flatten.length := by
        conv => rhs; rw [← List.take_append_drop (k + 1) ps, List.flatten_append]
        simp
      rw [hfl] at hle
      have HF := Lib.hid hfl
      have HB := Lib.hid hbk
      clear hfl hbk hkv hSw
      go_wp2_with (at_builtin; refine wpList_appB (base := w.heap.size + 1) elem_u8 rfl _ _ rfl (xs := (ps.take k).flatten) (news := ps[k]) rfl HO.out rfl HB.out ?p3 ?p4 ?_)
      case p3 => rw [List.length_append] at hle; omega
      case p4 => omega
      intro v5 w5 hown5 hgr5
      have hb5 : Below w.heap.size w w5 := hb.grown hgr5 hb.size (fun k hk => by have := HO.out.base k hk; omega)
      have hA5 := HA.out.grown hgr5 (fun e => by have := HO.out.base _ e.symm; omega)
      have HO5 := Lib.hid hown5
      have HA5 := Lib.hid hA5
      clear hown5 hA5 hgr5
      go_wp2
      refine ⟨⟨k + 1, by omega, by go_num, by rw [HF.out]; exact HO5.out, HA5.out, hb5⟩, by simp [intOf]; omega⟩
    · obtain rfl : k = ps.length := by omega
      rw [List.take_length] at HO
      have hE2 := HE.out.below hb
      obtain ⟨a4, c4, rfl⟩ := HO.out.form
      have HE2 := Lib.hid hE2
      clear hE2
      have hAl := HA.out
      have hgen : ∀ k, vl.ownBlock = some k → k < w.heap.size := fun k hk => TMEM.out k (TNE.out k hk).1
      have hvb : ∀ {w1 : World} {v6 : Value}, OwnB w1 (w.heap.size + 1) 5 v6 ps.flatten → ∀ k, v6.ownBlock = some k → w.heap.size + 1 ≤ k := fun h k hk => h.base k hk
      obtain ⟨v5, hv5⟩ : ∃ v5 : Value, v5 = Value.slice a4 ps.flatten.length c4 := ⟨_, rfl⟩
      rw [← hv5] at HO ⊢
      clear HA HS hv5
      go_wp2_with (fail)
      refine wp_region_tail
        (C := fun w1 => w1.cell? ⟨bt, 0, none⟩ = some vl ∧ w1.heap[bt]? = some (.cells #[vl] 70 (0, 0)) ∧ Kp (fun k => vl.ownBlock = some k) w w1 ∧ OwnB w1 (w.heap.size + 1) 5 v5 ps.flatten ∧ ArrAt w1 w.heap.size 30 32 (fun _ => .int .u8 0))
        (D := fun w1 => Kp (fun k => vl.ownBlock = some k ∨ k = bt) w w1 ∧ OwnB w1 (w.heap.size + 1) 5 v5 ps.flatten ∧ ArrAt w1 w.heap.size 30 32 (fun _ => .int .u8 0))
        (L := fun w w' => w = w') (R := fun _ _ => True) (X0 := fun w1 => w1.ownsRow 0 26 1 vl bl.length th)
        [.q, .q, .q, .q, .q, .q,
          .c (fun v => ∃ ao c, v = .slice ao ps.flatten.length c) (fun v w1 => w1.ownsRow 0 26 1 vl bl.length th ∧ OwnB w1 (w.heap.size + 1) 5 v ps.flatten),
          .c (fun v => ∃ b, v = .slice (some ⟨b, 0, none⟩) 1 1) (fun v w1 => ∃ v6, w1.ownsRow 0 26 1 vl bl.length th ∧ OwnB w1 (w.heap.size + 1) 5 v6 ps.flatten ∧ Sl w1 1 v 1 [v6]),
          .c (fun v => ∃ ao c, v = .slice ao (bl.length + 1) c) (fun v w1 => ∃ v6, w1.ownsRow 0 26 1 v (bl.length + 1) (th ++ [v6]) ∧ OwnB w1 (w.heap.size + 1) 5 v6 ps.flatten ∧ (v.ownBlock = vl.ownBlock ∨ ∃ k, v.ownBlock = some k ∧ w.heap.size < k) ∧ ∀ k, v6.ownBlock = some k → v.ownBlock ≠ some k),
          .q, .q, .c (fun _ => True) (fun _ w1 => ∃ v v6, w1.heap[bt]? = some (.cells #[v] 70 (0, 0)) ∧ w1.ownsRow 0 26 1 v (bl.length + 1) (th ++ [v6]) ∧ OwnB w1 (w.heap.size + 1) 5 v6 ps.flatten ∧ (v.ownBlock = vl.ownBlock ∨ ∃ k, v.ownBlock = some k ∧ w.heap.size < k) ∧ ∀ k, v6.ownBlock = some k → v.ownBlock ≠ some k)]
        (by kernel_rfl) rfl (by kernel_rfl) (fun _ _ _ => trivial) (by rintro w w' h rfl; exact h) ?c1 ?c2 ?c3
      case c1 =>
        have hbk : wr.heap[bt]? = some (.cells #[vl] 70 (0, 0)) := (hb.block bt hbt).trans TB.out
        exact ⟨by simp [World.cell?, hbk], hbk, ⟨hb.os, hb.tape, hb.output, hb.size, fun k hk _ => hb.block k hk⟩, HO.out, hAl⟩
      case c2 =>
        refine World.ownsRow.kept (w' := wr) TOWN.out (grown_of_below hb none) ?_
        cases hvo : vl.ownBlock <;> simp
      case c3 =>
      repeat (apply gent_q rfl rfl; (rintro w1 ⟨e1, e2, e3, e4⟩; apply Same.of_wp rfl rfl (Nat.le_of_ble_eq_true rfl); intro KK QQ hK; simp only [Act.put, List.setIfInBounds_toArray, List.set_cons_succ, List.set_cons_zero] at hK; go_step; exact hK); simp only [Act.put, List.setIfInBounds_toArray, List.set_cons_succ, List.set_cons_zero])
      refine gent_c rfl rfl ⟨_, none, 0, rfl⟩ (by rintro v w1 w2 h rfl; exact h) ?_ ?_
      · rintro w1 ⟨e1, e2, e3, e4, e5⟩ hX -
        refine Loud.of_wp rfl (Nat.le_of_ble_eq_true rfl) (fun KK QQ hK => ?_)
        refine wp_appB (base := w.heap.size + 1) elem_u8 _ _ rfl rfl (xs := []) (news := ps.flatten) (OwnB.nil _ _ _) rfl e4.bs ?_ ?_ ?_
        · simp only [List.length_nil]; omega
        · exact Nat.succ_le_of_lt e5.lt
        · rintro v6 w6 ho hg
          rw [List.nil_append] at ho
          have hg' : w1.grownBy w6 none := hg
          obtain ⟨ao6, c6, hf6⟩ := ho.form
          have hbt6 : w6.heap[bt]? = some (.cells #[vl] 70 (0, 0)) := (hg'.block bt (Nat.lt_of_lt_of_le hbt e3.size) (by simp)).trans e2
          exact hK _ _ ⟨⟨by simp [World.cell?, hbt6], hbt6, e3.grown hg' (by simp), e4.keep hg' (by simp), e5.grown hg' (by simp)⟩, trivial, ⟨_, _, hf6⟩, World.ownsRow.kept hX hg' (by cases vl.ownBlock <;> simp), ho⟩
      · rintro v ⟨ao6, c6, rfl⟩
        simp only [Act.put, List.setIfInBounds_toArray, List.set_cons_succ, List.set_cons_zero]
        refine gent_c rfl rfl ⟨_, 0, rfl⟩ (by rintro v w1 w2 h rfl; exact h) ?_ ?_
        · rintro w1 ⟨e1, e2, e3, e4, e5⟩ ⟨hX, hX2⟩ -
          refine Loud.of_wp rfl (Nat.le_of_ble_eq_true rfl) (fun KK QQ hK => ?_)
          obtain ⟨n6, hn6⟩ : ∃ n6 : Nat, n6 = ps.flatten.length := ⟨_, rfl⟩
          rw [← hn6] at hX2 hK ⊢
          clear hn6
          go_step
          obtain ⟨v6, hv6⟩ : ∃ v6 : Value, v6 = Value.slice ao6 n6 c6 := ⟨_, rfl⟩
          rw [← hv6] at hX2 hK ⊢
          clear hv6
          obtain ⟨w7, hw7⟩ : ∃ w7, w7 = w1.alloc (Obj.cells #[v6] 26) := ⟨_, rfl⟩
          have hg : Below w1.heap.size w1 w7 := by rw [hw7]; exact (Below.refl _ _).alloc (Nat.le_refl _) _
          have hs7 : w7.heap[w1.heap.size]? = some (.cells #[v6] 26 (0, 0)) := by rw [hw7]; exact heap_alloc_new w1 _
          rw [← hw7]
          have hbt7 : w7.heap[bt]? = some (.cells #[vl] 70 (0, 0)) := (hg.block bt (Nat.lt_of_lt_of_le hbt e3.size)).trans e2
          have hg' : w1.grownBy w7 none := grown_of_below hg none
          refine hK _ _ ⟨⟨by simp [World.cell?, hbt7], hbt7, e3.grown hg' (by simp), e4.keep hg' (by simp), e5.grown hg' (by simp)⟩, trivial, ⟨_, rfl⟩, v6, World.ownsRow.kept hX hg' (by cases vl.ownBlock <;> simp), hX2.keep hg' (by simp), ?_⟩
          refine .inr ⟨_, _, _, rfl, Nat.le_refl _, by unfold maxLen; omega, rfl, fun j u hu => ?_⟩
          have hj : j = 0 := by have := (List.getElem?_eq_some_iff.1 hu).1; simp at this; omega
          subst hj
          simp at hu
          subst hu
          simp [World.cell?, hs7]
        · rintro v ⟨b7, rfl⟩
          simp only [Act.put, List.setIfInBounds_toArray, List.set_cons_succ, List.set_cons_zero]
          refine gent_c rfl rfl ⟨_, none, 0, rfl⟩ (by rintro v w1 w2 h rfl; exact h) ?_ ?_
          · rintro w1 ⟨e1, e2, e3, e4, e5⟩ ⟨v6, hX, hX2, hX3⟩ -
            refine Loud.of_wp rfl (Nat.le_of_ble_eq_true rfl) (fun KK QQ hK => ?_)
            obtain ⟨ao6', c6', hf6⟩ := hX2.form
            refine wp_app2 elem_bytes _ _ rfl rfl hX rfl hX3 (by rw [hf6]; simp [Value.oneCell']) (by omega) (Nat.zero_le _) ?_
            rintro v8 w8 ho hg hw
            have hne : ∀ k, w.heap.size ≤ k → some k ≠ vl.ownBlock := fun k hk e => by have := hgen k e.symm; omega
            have hbt8 : w8.heap[bt]? = some (.cells #[vl] 70 (0, 0)) := (hg.block bt (Nat.lt_of_lt_of_le hbt e3.size) (fun e => (TNE.out bt e.symm).2 rfl)).trans e2
            obtain ⟨ao8, c8, hf8⟩ : ∃ ao c, v8 = .slice ao (bl.length + 1) c := by
              rcases ho with ⟨_, ⟨rfl, h⟩ | ⟨g, cap, cur, rfl, _⟩⟩
              · omega
              · exact ⟨_, _, rfl⟩
            refine hK _ _ ⟨⟨by simp [World.cell?, hbt8], hbt8, e3.grown hg (fun k hk _ => hk), e4.keep hg (fun k hk => hne k (by have := e4.base k hk; omega)), e5.grown hg (hne _ (Nat.le_refl _))⟩, trivial, ⟨_, _, hf8⟩, v6, ho, hX2.keep hg (fun k hk => hne k (by have := hX2.base k hk; omega)), ?_⟩
            have h68 : ∀ k, v6.ownBlock = some k → v8.ownBlock ≠ some k := fun k hk h => by
              have h1 := own_base hX2 k hk
              rcases hw with h2 | h2
              · rw [h2] at h; have := hgen k h; omega
              · rw [h2] at h; cases h; omega
            refine ⟨?_, h68⟩
            rcases hw with h | h
            · exact .inl h
            · exact .inr ⟨_, h, e5.lt⟩
          · rintro v ⟨ao8, c8, rfl⟩
            simp only [Act.put, List.setIfInBounds_toArray, List.set_cons_succ, List.set_cons_zero]
            repeat (apply gent_q rfl rfl; (rintro w1 ⟨e1, e2, e3, e4⟩; apply Same.of_wp rfl rfl (Nat.le_of_ble_eq_true rfl); intro KK QQ hK; simp only [Act.put, List.setIfInBounds_toArray, List.set_cons_succ, List.set_cons_zero] at hK; go_step; exact hK); simp only [Act.put, List.setIfInBounds_toArray, List.set_cons_succ, List.set_cons_zero])
            obtain ⟨n8, hn8⟩ : ∃ n8 : Nat, n8 = bl.length + 1 := ⟨_, rfl⟩
            rw [← hn8]
            have HN8 := Lib.hid hn8
            clear hn8
            refine gent_last rfl rfl ⟨undef, trivial⟩ (by rintro v w1 w2 h rfl; exact h) ?_ ?_
            · rintro w1 ⟨e1, e2, e3, e4, e5⟩ ⟨v6, hX, hX2, hX3, hX4⟩ -
              refine Loud.of_wp0 rfl (fun KK QQ hK => ?_)
              have hfr : w1.frozen? ⟨bt, 0, none⟩ = false := by simp [World.frozen?, e2]
              go_step
              have hne : ∀ k, (Value.slice ao8 n8 c8).ownBlock = some k → some k ≠ some bt := by
                rintro k hk h
                cases h
                rcases hX3 with h | ⟨k', h, h'⟩
                · rw [h] at hk; exact (TNE.out _ hk).2 rfl
                · rw [h] at hk; cases hk; omega
              generalize Value.slice ao8 n8 c8 = v8 at *
              have hg := grown_set w1 bt 0 v8
              have hne2 : ∀ k, w.heap.size ≤ k → some k ≠ some bt := fun k hk e => by cases e; omega
              refine hK _ ⟨⟨(e3.mono (fun k hk => Or.inl hk)).grown hg (by rintro k hk -; cases hk; exact .inr rfl), e4.keep hg (fun k hk => hne2 k (by have := e4.base k hk; omega)), e5.grown hg (hne2 _ (Nat.le_refl _))⟩, trivial, trivial, v8, v6, ?_, ?_, hX2.keep hg (fun k hk => hne2 k (by have := hX2.base k hk; omega)), hX3, hX4⟩
              · exact heap_setCell_same w1 bt 0 _ _ v8 e2
              · refine World.ownsRow.kept hX hg ?_
                cases hv : v8.ownBlock with
                | none => exact .inl rfl
                | some k => exact .inr (hne k hv)
            · rintro v -
              refine gen_nil ?_
              rintro w1 ⟨e3, e4, e5⟩ ⟨v8, v6, hX1, hX, hX2, hX3, hX4⟩ -
              have hSF : ∀ k, (vl.ownBlock = some k ∨ k = bt) → F k := by
                rintro k (h | rfl)
                · exact (TNE.out k h).1
                · exact tself
              have hE1 : ShaEnv w1 := HE.out.keep (e3.mono hSF) hG
              have E3 := Lib.hid e3
              have X1 := Lib.hid hX1
              have X := Lib.hid hX
              have X2 := Lib.hid hX2
              have X3 := Lib.hid hX3
              have X4 := Lib.hid hX4
              have e5lt := e5.lt
              have HE1 := Lib.hid hE1
              clear e3 hX1 hX hX2 hX3 hX4 hE1 HE HE2
              go_wp2_with (fail)
              refine (sum_any w1 _ ps.flatten HE1.out e4.bs hlen).mono ?_
              rintro e w7 ⟨rfl, hb7⟩
              have ht : w7.there w.heap.size 0 (bcs (sha ps.flatten)).toArray.size := by
                have := (e5.below hb7 e5.lt).there
                simpa [bcs, sha_length] using this
              have HT := Lib.hid ht
              clear ht e5 e4
              unfold hv
              go_wp2_with (refine wpList_store_mid rfl _ _ _ rfl w.heap.size 0 (bcs (sha ps.flatten)).toArray rfl rfl HT.out (hash_size _) (bcs_all _) ?_)
              have hgo : w1.grownBy (w7.setCells w.heap.size 0 (bcs (sha ps.flatten)).toArray.toList) (some w.heap.size) := by
                have hb8 : Below w.heap.size w7 (w7.setCells w.heap.size 0 (bcs (sha ps.flatten)).toArray.toList) := below_setCells (Below.refl _ _) (Nat.le_refl _) _ _
                refine ⟨hb8.os.trans hb7.os, hb8.tape.trans hb7.tape, hb8.output.trans hb7.output, Nat.le_trans hb7.size hb8.size, fun k hk hne => ?_⟩
                exact (heap_setCells_ne _ _ _ _ (Nat.lt_of_lt_of_le hk hb7.size) (fun e => hne (by rw [e]))).trans (hb7.block k hk)
              have hall : Kp F w (w7.setCells w.heap.size 0 (bcs (sha ps.flatten)).toArray.toList) ∧ TapeAt (w7.setCells w.heap.size 0 (bcs (sha ps.flatten)).toArray.toList) (fun k => F k ∨ w.heap.size ≤ k ∧ k < (w7.setCells w.heap.size 0 (bcs (sha ps.flatten)).toArray.toList).heap.size) bt (bl ++ [ps.flatten]) :=
                tape_end TB.out TOWN.out TNE.out TALL.out TMEM.out tself E3.out X1.out (HN8.out ▸ X.out) X2.out X3.out X4.out e5lt hgo
              exact ret_hash rfl rfl HT.out rfl ⟨rfl, hall⟩
end Go.Proofs.YtbenjjaofabdcaaGreatDoor
