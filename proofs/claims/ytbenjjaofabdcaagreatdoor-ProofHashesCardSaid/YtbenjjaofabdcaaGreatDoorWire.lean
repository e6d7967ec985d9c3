/-
  wire.Writer: what is written, in order: numbers, the highest byte first, and hashes.
-/
import Derived.Test.YtbenjjaofabdcaaGreatDoorShaC
namespace Go.Proofs.YtbenjjaofabdcaaGreatDoor
open Go Go.RowKit

/-- A number in n bytes, the highest first. -/
def beN (n x : Nat) : List UInt8 := (List.range n).reverse.map fun k => UInt8.ofNat ((x / 256 ^ k) % 256)
theorem beN_length (n x : Nat) : (beN n x).length = n := by simp [beN]
/-- A writer: its block, then its row. -/
structure WAt (w : World) (bw : Nat) (l : List UInt8) : Prop where
  ex : ∃ vb, w.heap[bw]? = some (.cells #[vb] 92 (0, 0)) ∧ OwnB w (bw + 1) 5 vb l
/-- What a writer's words may change: its block, its row. -/
def WFp (w : World) (bw k : Nat) : Prop := k = bw ∨ ∃ vb, w.heap[bw]? = some (.cells #[vb] 92 (0, 0)) ∧ vb.ownBlock = some k
structure Rw (bw : Nat) (w w' : World) : Prop where
  keep : Kp (WFp w bw) w w'
  new : ∀ k, WFp w' bw k → WFp w bw k ∨ w.heap.size ≤ k
theorem Rw.refl (bw : Nat) (w : World) : Rw bw w w := ⟨Kp.refl _ _, fun _ h => .inl h⟩
theorem Rw.trans {bw : Nat} {a b c : World} (h : Rw bw a b) (k : Rw bw b c) : Rw bw a c :=
  ⟨⟨k.keep.os.trans h.keep.os, k.keep.tape.trans h.keep.tape, k.keep.output.trans h.keep.output, Nat.le_trans h.keep.size k.keep.size, fun i hi hn =>
      (k.keep.block i (Nat.lt_of_lt_of_le hi h.keep.size) fun hf => (h.new i hf).elim hn fun hs => by omega).trans (h.keep.block i hi hn)⟩,
    fun i hi => (k.new i hi).elim (h.new i) fun hs => .inr (Nat.le_trans h.keep.size hs)⟩
theorem Rw.of_below {bw : Nat} {w w' : World} (hb : Below w.heap.size w w') (hlt : bw < w.heap.size) : Rw bw w w' :=
  ⟨Kp.of_below hb, fun k hk => .inl (by unfold WFp at *; rw [hb.block bw hlt] at hk; exact hk)⟩
theorem Rw.app {bw : Nat} {w w' : World} {vb : Value} (hc : w.heap[bw]? = some (.cells #[vb] 92 (0, 0))) (hne : vb.ownBlock ≠ some bw) (hg : w.grownBy w' vb.ownBlock) : Rw bw w w' := by
  have h1 : w'.heap[bw]? = w.heap[bw]? := hg.block bw (Array.getElem?_eq_some_iff.1 hc).1 fun e => hne e.symm
  exact ⟨(Kp.refl _ w).grown hg fun k hk _ => .inr ⟨vb, hc, hk⟩, fun k hk => .inl (by unfold WFp at *; rw [h1] at hk; exact hk)⟩
theorem Rw.store {bw : Nat} {w0 w : World} {vb v8 : Value} (h : Rw bw w0 w) (hc : w.heap[bw]? = some (.cells #[vb] 92 (0, 0))) (h8 : ∀ k, v8.ownBlock = some k → WFp w0 bw k ∨ w0.heap.size ≤ k) : Rw bw w0 (w.setCell ⟨bw, 0, none⟩ v8) := by
  refine ⟨h.keep.grown (grown_set w bw 0 v8) (fun k hk _ => by cases hk; exact .inl rfl), fun k hk => ?_⟩
  rcases hk with rfl | ⟨vb', h1, h2⟩
  · exact .inl (.inl rfl)
  · rw [heap_setCell_same w bw 0 _ _ v8 hc] at h1
    simp at h1
    subst h1
    exact h8 k h2
theorem Rw.dr {bw : Nat} {a w : World} (h : Rw bw a w) : Rw bw a { w with drawn := w.drawn + 1 } := ⟨⟨h.keep.os, h.keep.tape, h.keep.output, h.keep.size, h.keep.block⟩, h.new⟩
theorem Rw.below {bw : Nat} {w w' : World} (h : Rw bw w w') (hW : ∀ vb, w.heap[bw]? = some (.cells #[vb] 92 (0, 0)) → ∀ k, vb.ownBlock = some k → bw ≤ k) (hlt : bw ≤ w.heap.size) : Below bw w w' :=
  h.keep.below hlt fun k hk => by
    rcases hk with rfl | ⟨vb, h1, h2⟩
    · exact Nat.le_refl _
    · exact hW vb h1 k h2
theorem WAt.low {w : World} {bw : Nat} {l : List UInt8} (h : WAt w bw l) : ∀ vb, w.heap[bw]? = some (.cells #[vb] 92 (0, 0)) → ∀ k, vb.ownBlock = some k → bw ≤ k := fun vb h1 k h2 => by
  obtain ⟨vb', h3, h4⟩ := h.ex
  rw [h3] at h1
  simp at h1
  subst h1
  have := h4.base k h2
  omega
theorem WAt.rel {w : World} {bw : Nat} {l : List UInt8} (h : WAt w bw l) {w' : World} (hr : Rw bw w w') : Below bw w w' := hr.below h.low (Nat.le_of_lt (by obtain ⟨vb, h3, _⟩ := h.ex; exact (Array.getElem?_eq_some_iff.1 h3).1))
theorem wp_appB2 {P : Program} {o : Oper} {a : Act} {w : World} {K : Act → World → Prop} {Q : Exit → Act → World → Prop} {t e : TypeId} (hE : ElemOk P t e 1 1) (s x : Operand)
    (ho : o.op = .call { callee := .builtin .append, args := #[s, x], argTypes := #[t, t] })
    {base : Nat} {v : Value} {xs : List UInt8} (hs : a.eval s = v) (hown : OwnB w base e v xs)
    {xv : Value} {news : List UInt8} (hx : a.eval x = xv) (hsrc : Bs w xv news) (hbytes : xs.length + news.length ≤ 140737488355328) (hbase : base ≤ w.heap.size)
    (h : ∀ v' w', OwnB w' base e v' (xs ++ news) → w.grownBy w' v.ownBlock → (v'.ownBlock = v.ownBlock ∨ v'.ownBlock = some w.heap.size) → K (a.put o.dst v') w') : o.wp P a w K Q :=
  wp_app2 hE s x ho hs hown hx hsrc (bcs_one _) (by omega) hbase fun v' w' h1 h2 => h v' w' (by unfold OwnB; rw [bcs_append, List.length_append]; exact h1) h2
theorem beN_take (n x j : Nat) (h : j < n) : (beN n x).take (n - j) = (beN n x).take (n - (j + 1)) ++ [UInt8.ofNat ((x / 256 ^ j) % 256)] := by
  have h1 : n - (j + 1) < (beN n x).length := by rw [beN_length]; omega
  rw [show n - j = (n - (j + 1)) + 1 by omega, List.take_succ_eq_append_getElem h1]
  congr 2
  simp only [beN, List.getElem_map, List.getElem_reverse, List.getElem_range, List.length_range]
  rw [show n - 1 - (n - (j + 1)) = j by omega]

set_option maxHeartbeats 1600000 in
set_option maxRecDepth 100000 in
theorem int_any (w : World) (bw : Nat) (l : List UInt8) (n : Nat) (v : Value) (xs : List Nat) (hW : WAt w bw l) (hn : n ≤ 8) (hx : Sl w 1 v xs.length (xs.map fun x : Nat => Value.int .i64 (x : Int))) (hlen : l.length + xs.length * n ≤ 1099511627776)
    (hb : ∀ x ∈ xs, x < 9223372036854775808) (hv : ∀ k, v.ownBlock = some k → ¬ WFp w bw k) (hxl : xs.length ≤ 1099511627776) :
    Calls Tryz.prog 36 #[.pointer (some ⟨bw, 0, none⟩), .int .i64 n, v] w fun e w' => e = .returned (.pointer (some ⟨bw, 0, none⟩)) ∧ WAt w' bw (l ++ xs.flatMap (beN n)) ∧ Rw bw w w' := by
  obtain ⟨ao, c, rfl⟩ := hx.form
  have HX := Lib.hid hx
  have HV := Lib.hid hv
  clear hx hv
  go_enter Tryz.func36, Tryz.ntmps36
  go_wp2
  go_loopw [12] (fun i wr => ∃ k : Nat, k ≤ xs.length ∧ i = .int .i64 k ∧ WAt wr bw (l ++ (xs.take k).flatMap (beN n)) ∧ Rw bw w wr) (fun i _ => xs.length - (intOf i).toNat)
  case atStart => exact ⟨0, Nat.zero_le _, rfl, by simpa using hW, Rw.refl _ _⟩
  case round =>
    obtain ⟨k, hk, rfl, hO, hbw⟩ := hrel
    have HO := Lib.hid hO
    clear hO
    by_cases hlt : k < xs.length
    · have hkl : k < (xs.map fun x : Nat => Value.int .i64 (x : Int)).length := by simpa using hlt
      have hSw := HX.out.move (w' := wr) fun b hb' hlt' => hbw.keep.block b hlt' (HV.out b hb')
      obtain ⟨b0, o0, rfl⟩ : ∃ b0 o0, ao = some ⟨b0, o0, none⟩ := by
        rcases HX.out with ⟨h1, h2, _⟩ | ⟨b, o, c', h1, _⟩
        · omega
        · simp only [Value.slice.injEq] at h1; exact ⟨b, o, h1.1⟩
      have c1 : wr.cell? ⟨b0, o0 + k, none⟩ = some (Value.int .i64 (xs[k] : Nat)) := by have := hSw.cell k hkl; simpa using this
      have hxk : xs[k] < 9223372036854775808 := hb _ (List.getElem_mem _)
      generalize hx : xs[k] = x at *
      go_wp2
      go_loopw [9] (fun v wr2 => ∃ j : Nat, j ≤ n ∧ v = .int .i64 ((j : Int) - 1) ∧ WAt wr2 bw (l ++ (xs.take k).flatMap (beN n) ++ (beN n x).take (n - j)) ∧ Rw bw w wr2) (fun v _ => (intOf v + 1).toNat)
      case atStart => exact ⟨n, Nat.le_refl _, rfl, by simpa using HO.out, hbw⟩
      case round =>
        obtain ⟨j, hj, rfl, hW2, hb2⟩ := hrel
        rcases j with _ | j
        · rw [show (((0 : Nat) : Int) - 1) = -1 by rfl]
          have HW2 := Lib.hid hW2
          clear hW2
          go_wp2
          have hfl : xs.take (k + 1) = xs.take k ++ [x] := by rw [List.take_succ_eq_append_getElem hlt, hx]
          refine ⟨⟨k + 1, by omega, by go_num, ?_, hb2⟩, by simp [intOf]; omega⟩
          have h1 := HW2.out
          rw [hfl, List.flatMap_append, ← List.append_assoc]
          simpa [List.take_of_length_le, beN_length] using h1
        · obtain ⟨vb, hc1, hown⟩ := hW2.ex
          rw [show (((j + 1 : Nat) : Int) - 1) = (j : Int) by omega]
          have hbl : (l ++ (xs.take k).flatMap (beN n) ++ (beN n x).take (n - (j + 1))).length ≤ 1099511627776 := by
            have h1 : ∀ ys : List Nat, (ys.flatMap (beN n)).length = ys.length * n := fun ys => by
              induction ys with
              | nil => simp
              | cons y r ih => simp [ih, beN_length, Nat.succ_mul]; omega
            have h2 : (k + 1) * n ≤ xs.length * n := Nat.mul_le_mul_right _ hlt
            rw [Nat.succ_mul] at h2
            simp only [List.length_append, h1, List.length_take, beN_length]
            rw [Nat.min_eq_left (by omega : k ≤ xs.length)]
            omega
          rw [show n - (j + 1) = n - (j + 1) from rfl] at hown
          generalize hL : l ++ (xs.take k).flatMap (beN n) ++ (beN n x).take (n - (j + 1)) = L at *
          have HL := Lib.hid hL
          clear hL
          obtain ⟨av, cv, rfl⟩ := hown.form
          obtain ⟨nv, hnv⟩ : ∃ nv, nv = L.length := ⟨_, rfl⟩
          rw [← hnv] at hown hc1
          have HNV := Lib.hid hnv
          clear hnv
          have HOWN := Lib.hid hown
          have hbs := hb2.keep.size
          have hblt : bw < wr.heap.size := (Array.getElem?_eq_some_iff.1 hc1).1
          clear hown hW2
          go_wp2_with (fail)
          refine wp_region_tail
            (C := fun w1 => w1.cell? ⟨bw, 0, none⟩ = some (.slice av nv cv) ∧ w1.heap[bw]? = some (.cells #[.slice av nv cv] 92 (0, 0)) ∧ Rw bw w w1 ∧ bw < w1.heap.size)
            (D := fun w1 => Rw bw w w1)
            (L := fun w w' => w = w') (R := fun _ _ => True) (X0 := fun w1 => OwnB w1 (bw + 1) 5 (.slice av nv cv) L)
            [.q, .q, .q, .q, .q, .q, .q, .q, .q, .q,
              .c (fun v => ∃ b, v = .slice (some ⟨b, 0, none⟩) 1 1) (fun v w1 => OwnB w1 (bw + 1) 5 (.slice av nv cv) L ∧ Bs w1 v [UInt8.ofNat ((x / 256 ^ j) % 256)]),
              .c (fun v => ∃ ao c, v = .slice ao (L.length + 1) c) (fun v w1 => OwnB w1 (bw + 1) 5 v (L ++ [UInt8.ofNat ((x / 256 ^ j) % 256)]) ∧ ∀ k, v.ownBlock = some k → WFp w bw k ∨ w.heap.size ≤ k),
              .q, .q, .c (fun _ => True) (fun _ w1 => WAt w1 bw (L ++ [UInt8.ofNat ((x / 256 ^ j) % 256)]))]
            (by kernel_rfl) rfl (by kernel_rfl) (fun _ _ _ => trivial) (by rintro w w' h rfl; exact h) ?c1 ?c2 ?c3
          case c1 => exact ⟨by simp [World.cell?, hc1], hc1, hb2.dr, hblt⟩
          case c2 => exact HOWN.out
          case c3 =>
          repeat (apply gent_q rfl rfl; (rintro w1 ⟨e1, e2, e3⟩; apply Same.of_wp rfl rfl (Nat.le_of_ble_eq_true rfl); intro KK QQ hK; simp only [Act.put, List.setIfInBounds_toArray, List.set_cons_succ, List.set_cons_zero] at hK; go_step; exact hK); simp only [Act.put, List.setIfInBounds_toArray, List.set_cons_succ, List.set_cons_zero])
          have hq : Value.int .u8 ((x : Int) / 2 ^ (8 * j) % 256) = u8c (UInt8.ofNat ((x / 256 ^ j) % 256)) := by
            rw [← u8c_mod, show (256 : Nat) ^ j = 2 ^ (8 * j) by rw [Nat.pow_mul]]
            simp
          rw [hq]
          generalize hy : UInt8.ofNat ((x / 256 ^ j) % 256) = y at *
          have HY := Lib.hid hy
          clear hy
          refine gent_c rfl rfl ⟨_, 0, rfl⟩ (by rintro v w1 w2 h rfl; exact h) ?_ ?_
          · rintro w1 ⟨e1, e2, e3, e4⟩ hX -
            refine Loud.of_wp rfl (Nat.le_of_ble_eq_true rfl) (fun KK QQ hK => ?_)
            unfold u8c
            go_step
            obtain ⟨w7, hw7⟩ : ∃ w7, w7 = w1.alloc (Obj.cells #[Value.int .u8 y.toNat] 5) := ⟨_, rfl⟩
            have hg : Below w1.heap.size w1 w7 := by rw [hw7]; exact (Below.refl _ _).alloc (Nat.le_refl _) _
            have hbs : Bs w7 (.slice (some ⟨w1.heap.size, 0, none⟩) 1 1) [y] := by rw [hw7]; exact bs_lit _ _ _ _ rfl
            rw [← hw7]
            have hc7 : w7.heap[bw]? = some (.cells #[.slice av nv cv] 92 (0, 0)) := (hg.block bw e4).trans e2
            exact hK _ _ ⟨⟨by simp [World.cell?, hc7], hc7, e3.trans (Rw.of_below hg e4), Nat.lt_of_lt_of_le e4 hg.size⟩, trivial, ⟨_, rfl⟩, hX.below hg, hbs⟩
          · rintro v ⟨b7, rfl⟩
            simp only [Act.put, List.setIfInBounds_toArray, List.set_cons_succ, List.set_cons_zero]
            refine gent_c rfl rfl ⟨_, none, 0, rfl⟩ (by rintro v w1 w2 h rfl; exact h) ?_ ?_
            · rintro w1 ⟨e1, e2, e3, e4⟩ ⟨hX, hX2⟩ -
              refine Loud.of_wp rfl (Nat.le_of_ble_eq_true rfl) (fun KK QQ hK => ?_)
              refine wp_appB2 elem_u8 _ _ rfl rfl hX rfl hX2 (by simp only [List.length_singleton]; omega) (Nat.succ_le_of_lt e4) ?_
              rintro v8 w8 ho hg hw
              have hne : ∀ k, (Value.slice av nv cv).ownBlock = some k → bw + 1 ≤ k := hX.base
              have hc8 : w8.heap[bw]? = some (.cells #[.slice av nv cv] 92 (0, 0)) := (hg.block bw e4 (fun e => by have := hne bw e.symm; omega)).trans e2
              obtain ⟨ao8, c8, hf8⟩ := ho.form
              refine hK _ _ ⟨⟨by simp [World.cell?, hc8], hc8, e3.trans (Rw.app e2 (fun e => by have := hne bw e; omega) hg), Nat.lt_of_lt_of_le e4 hg.size⟩, trivial, ⟨_, _, by simpa using hf8⟩, ho, fun k hk => ?_⟩
              rcases hw with h | h
              · rw [h] at hk; exact e3.new k (.inr ⟨_, e2, hk⟩)
              · rw [h] at hk; cases hk; exact .inr e3.keep.size
            · rintro v ⟨ao8, c8, rfl⟩
              simp only [Act.put, List.setIfInBounds_toArray, List.set_cons_succ, List.set_cons_zero]
              repeat (apply gent_q rfl rfl; (rintro w1 ⟨e1, e2, e3⟩; apply Same.of_wp rfl rfl (Nat.le_of_ble_eq_true rfl); intro KK QQ hK; simp only [Act.put, List.setIfInBounds_toArray, List.set_cons_succ, List.set_cons_zero] at hK; go_step; exact hK); simp only [Act.put, List.setIfInBounds_toArray, List.set_cons_succ, List.set_cons_zero])
              obtain ⟨n8, hn8⟩ : ∃ n8 : Nat, n8 = L.length + 1 := ⟨_, rfl⟩
              rw [← hn8]
              clear hn8
              refine gent_last rfl rfl ⟨undef, trivial⟩ (by rintro v w1 w2 h rfl; exact h) ?_ ?_
              · rintro w1 ⟨e1, e2, e3, e4⟩ ⟨hX, hX8⟩ -
                refine Loud.of_wp0 rfl (fun KK QQ hK => ?_)
                have hfr : w1.frozen? ⟨bw, 0, none⟩ = false := by simp [World.frozen?, e2]
                go_step
                exact hK _ ⟨e3.store e2 hX8, trivial, trivial, _, heap_setCell_same w1 bw 0 _ _ _ e2, hX.keep (grown_set w1 bw 0 _) (fun k hk e => by have := hX.base k hk; cases e; omega)⟩
              · rintro v -
                refine gen_nil ?_
                rintro w1 e3 hX -
                clear HOWN hc1
                have HX1 := Lib.hid hX
                clear hX hq
                go_wp2
                refine ⟨⟨j, by omega, rfl, ?_, e3⟩, by simp [intOf]⟩
                rw [beN_take n x j (by omega), ← List.append_assoc, HY.out, HL.out]
                exact HX1.out
    · obtain rfl : k = xs.length := by omega
      go_wp2
      rw [List.take_length] at HO
      go_ret
      exact ⟨rfl, HO.out, hbw⟩
theorem bel_dr {B : Nat} {a w : World} (h : Below B a w) : Below B a { w with drawn := w.drawn + 1 } := ⟨h.os, h.tape, h.output, h.size, h.block⟩
/-- A hash lies at block g. -/
structure HAt (w : World) (g : Nat) (x : List UInt8) : Prop where
  len : x.length = 32
  range : w.rangeAt g 0 (bcs x)
theorem HAt.lt {w : World} {g : Nat} {x : List UInt8} (h : HAt w g x) : g < w.heap.size := rangeAt_lt h.range fun e => by have h1 := congrArg List.length e; rw [bcs_length, h.len] at h1; cases h1
theorem HAt.below {w w' : World} {g : Nat} {x : List UInt8} {B : Nat} (h : HAt w g x) (hb : Below B w w') (hg : g < B) : HAt w' g x := ⟨h.len, rangeAt_move h.range fun _ => hb.block g hg⟩
theorem HAt.grown {w w' : World} {g : Nat} {x : List UInt8} {row : Option Nat} (h : HAt w g x) (hb : w.grownBy w' row) (hg : some g ≠ row) : HAt w' g x := ⟨h.len, rangeAt_move h.range fun _ => hb.block g h.lt hg⟩
theorem HAt.bs {w : World} {g : Nat} {x : List UInt8} (h : HAt w g x) : Bs w (.slice (some ⟨g, 0, none⟩) 32 32) x :=
  .inr ⟨g, 0, 32, by rw [h.len], by rw [h.len]; exact Nat.le_refl _, by unfold maxLen; omega, by rw [bcs_length, Nat.mul_one], h.range⟩
theorem there_new (w : World) (t : TypeId) (cs : Array Value) (n : Nat) (h : n ≤ cs.size) : (w.alloc (.cells cs t)).there w.heap.size 0 n := fun j hj => by
  have h1 : (w.alloc (.cells cs t)).heap[w.heap.size]? = some (.cells cs t (0, 0)) := heap_alloc_new w _
  have h2 : j < cs.size := by omega
  unfold World.cell? World.frozen?
  simp only [Nat.zero_add]
  rw [h1]
  simp [h2]
/-- A variable of hashes, new and set. -/
theorem hash_var (w : World) (t : TypeId) (cs : Array Value) (hc : cs.size = 32) (x : List UInt8) (hx : x.length = 32) :
    Below w.heap.size w ((w.alloc (.cells cs t)).setCells w.heap.size 0 (bcs x).toArray.toList) ∧ HAt ((w.alloc (.cells cs t)).setCells w.heap.size 0 (bcs x).toArray.toList) w.heap.size x ∧
      w.heap.size < ((w.alloc (.cells cs t)).setCells w.heap.size 0 (bcs x).toArray.toList).heap.size := by
  have h1 : HAt ((w.alloc (.cells cs t)).setCells w.heap.size 0 (bcs x).toArray.toList) w.heap.size x := ⟨hx, by
    have := World.rangeAt_setCells_same (w.alloc (.cells cs t)) w.heap.size 0 (bcs x) (there_new w t cs _ (by rw [bcs_length, hx, hc]; exact Nat.le_refl _))
    simpa using this⟩
  exact ⟨below_setCells ((Below.refl _ _).alloc (Nat.le_refl _) _) (Nat.le_refl _) _ _, h1, h1.lt⟩
theorem hash_box (w : World) (t : TypeId) (x : List UInt8) (hx : x.length = 32) : Below w.heap.size w (w.alloc (.cells (bcs x).toArray t)) ∧ HAt (w.alloc (.cells (bcs x).toArray t)) w.heap.size x ∧ w.heap.size < (w.alloc (.cells (bcs x).toArray t)).heap.size := by
  have h0 : (w.alloc (.cells (bcs x).toArray t)).heap[w.heap.size]? = some (.cells (bcs x).toArray t (0, 0)) := heap_alloc_new w _
  have h1 : HAt (w.alloc (.cells (bcs x).toArray t)) w.heap.size x := ⟨hx, fun j v hv => by
    rw [Nat.zero_add]
    unfold World.cell?
    simp only []
    rw [h0]
    simpa using hv⟩
  exact ⟨(Below.refl _ _).alloc (Nat.le_refl _) _, h1, h1.lt⟩
theorem hsize (x : List UInt8) (h : x.length = 32) : (Tryz.prog.info? 30).map (·.size) = some (bcs x).length := by rw [bcs_length, h]; kernel_rfl
theorem hsize' (x : List UInt8) (h : x.length = 32) : (Tryz.prog.info? 30).map (·.size) = some (bcs x).toArray.size := by simpa using hsize x h
/-- Hashes, one behind the other. -/
def hcs (hs : List (List UInt8)) : List Value := hs.flatMap bcs
set_option maxHeartbeats 1600000 in
set_option maxRecDepth 100000 in
theorem bytes_any (w : World) (bw : Nat) (l : List UInt8) (hW : WAt w bw l) (hlen : l.length ≤ 1099511627776) :
    Calls Tryz.prog 38 #[.pointer (some ⟨bw, 0, none⟩)] w fun e w' => ∃ v, e = .returned v ∧ OwnB w' w.heap.size 5 v l ∧ Below w.heap.size w w' := by
  obtain ⟨vb, hc, ho⟩ := hW.ex
  have hcell : w.cell? ⟨bw, 0, none⟩ = some vb := by simp [World.cell?, hc]
  have HO := Lib.hid ho
  clear ho hW hc
  go_enter Tryz.func38, Tryz.ntmps38
  go_wp2_with (at_builtin; refine wpList_appB (base := w.heap.size) elem_u8 rfl _ _ rfl (xs := []) (news := l) rfl (OwnB.nil _ _ _) rfl HO.out.bs ?_ ?_ ?_)
  · rw [List.length_nil]; omega
  · exact Nat.le_refl _
  · intro v' w' h1 h2
    have H1 := Lib.hid h1
    clear h1
    go_wp2
    go_ret
    exact ⟨v', rfl, H1.out, Below.grown (Below.refl _ _) h2 (Nat.le_refl _) (fun k hk => by cases hk)⟩
theorem hcs_get (hs : List (List UInt8)) (h32 : ∀ h ∈ hs, h.length = 32) (k : Nat) (hk : k < hs.length) (j : Nat) (hj : j < 32) : (hcs hs)[k * 32 + j]? = (bcs hs[k])[j]? := by
  induction hs generalizing k with
  | nil => simp at hk
  | cons h r ih =>
    have hl : (bcs h).length = 32 := by rw [bcs_length]; exact h32 h (by simp)
    unfold hcs
    rw [List.flatMap_cons]
    rcases k with _ | k
    · rw [List.getElem?_append_left (by omega)]; simp
    · rw [List.getElem?_append_right (by rw [hl]; omega), hl]
      have := ih (fun x hx => h32 x (by simp [hx])) k (by simpa using hk)
      rw [show (k + 1) * 32 + j - 32 = k * 32 + j by omega]
      simpa [hcs] using this
theorem hcs_row {w : World} {b o n c : Nat} {hs : List (List UInt8)} (h : Sl w 32 (.slice (some ⟨b, o, none⟩) n c) hs.length (hcs hs)) (h32 : ∀ h ∈ hs, h.length = 32) (k : Nat) (hk : k < hs.length) : w.rangeAt b (o + k * 32) (bcs hs[k]) := fun j v hv => by
  have hj : j < 32 := by have := (List.getElem?_eq_some_iff.1 hv).1; rwa [bcs_length, h32 _ (List.getElem_mem _)] at this
  rcases h with ⟨h, _⟩ | ⟨b', o', c', he, _, _, _, h⟩
  · cases h
  · simp only [Value.slice.injEq, Option.some.injEq, Addr.mk.injEq] at he
    obtain ⟨⟨rfl, rfl, _⟩, _, rfl⟩ := he
    rw [Nat.add_assoc]
    exact h _ _ ((hcs_get hs h32 k hk j hj).trans hv)
set_option maxHeartbeats 1600000 in
set_option maxRecDepth 100000 in
theorem whash_any (w : World) (bw : Nat) (l : List UInt8) (v : Value) (hs : List (List UInt8)) (hW : WAt w bw l) (hx : Sl w 32 v hs.length (hcs hs)) (hlen : l.length + hs.length * 32 ≤ 1099511627776)
    (h32 : ∀ h ∈ hs, h.length = 32) (hv : ∀ k, v.ownBlock = some k → ¬ WFp w bw k) (hhl : hs.length ≤ 1099511627776) :
    Calls Tryz.prog 64 #[.pointer (some ⟨bw, 0, none⟩), v] w fun e w' => e = .returned (.pointer (some ⟨bw, 0, none⟩)) ∧ WAt w' bw (l ++ hs.flatten) ∧ Rw bw w w' := by
  obtain ⟨ao, c, rfl⟩ := hx.form
  have HX := Lib.hid hx
  have HV := Lib.hid hv
  clear hx hv
  go_enter Tryz.func64, Tryz.ntmps64
  go_wp2
  go_loopw [9] (fun i wr => ∃ k : Nat, k ≤ hs.length ∧ i = .int .i64 k ∧ WAt wr bw (l ++ (hs.take k).flatten) ∧ Rw bw w wr) (fun i _ => hs.length - (intOf i).toNat)
  case atStart => exact ⟨0, Nat.zero_le _, rfl, by simpa using hW, Rw.refl _ _⟩
  case round =>
    obtain ⟨k, hk, rfl, hO, hbw⟩ := hrel
    by_cases hlt : k < hs.length
    · have hSw := HX.out.move (w' := wr) fun b hb' hlt' => hbw.keep.block b hlt' (HV.out b hb')
      obtain ⟨b0, o0, rfl⟩ : ∃ b0 o0, ao = some ⟨b0, o0, none⟩ := by
        rcases HX.out with ⟨h1, h2, _⟩ | ⟨b, o, c', h1, _⟩
        · omega
        · simp only [Value.slice.injEq] at h1; exact ⟨b, o, h1.1⟩
      have hr := hcs_row hSw h32 k hlt
      have hk32 : hs[k].length = 32 := h32 _ (List.getElem_mem _)
      have hfl : (hs.take (k + 1)).flatten = (hs.take k).flatten ++ hs[k] := by
        rw [List.take_succ_eq_append_getElem hlt, List.flatten_append, List.flatten_cons, List.flatten_nil, List.append_nil]
      generalize hs[k] = x at *
      have HR := Lib.hid hr
      have HFL := Lib.hid hfl
      clear hr hSw hfl
      obtain ⟨vb, hc1, hown⟩ := hO.ex
      generalize hL : l ++ (hs.take k).flatten = L at *
      have HL := Lib.hid hL
      have HOWN := Lib.hid hown
      clear hL hown hO
      have hal : ∀ cs : Array Value, cs.size = 32 → (wr.alloc (.cells cs 30)).there wr.heap.size 0 (bcs x).toArray.size := fun cs hcs =>
        there_new wr _ cs _ (by rw [hcs, ← hk32]; simp [bcs])
      have HAL := Lib.hid hal
      have HS := Lib.hid (hsize x hk32)
      have HS2 := Lib.hid (hsize' x hk32)
      clear hal
      go_wp2_with (first | refine wpList_load_mid rfl _ _ rfl _ _ rfl (bcs x) _ HR.out Tryz.underlying30 rfl HS.out ?_ | refine wpList_store_mid rfl _ _ _ rfl wr.heap.size 0 (bcs x).toArray rfl rfl (HAL.out _ rfl) HS2.out (bcs_all _) ?_ | fail)
      simp only [Act.put]
      have hvar := hash_var wr 30 (Array.replicate 32 (.int .u8 0)) (by simp) x hk32
      rw [show Array.replicate 32 (Value.int .u8 0) = #[.int .u8 0, .int .u8 0, .int .u8 0, .int .u8 0, .int .u8 0, .int .u8 0, .int .u8 0, .int .u8 0, .int .u8 0, .int .u8 0, .int .u8 0, .int .u8 0, .int .u8 0, .int .u8 0, .int .u8 0, .int .u8 0, .int .u8 0, .int .u8 0, .int .u8 0, .int .u8 0, .int .u8 0, .int .u8 0, .int .u8 0, .int .u8 0, .int .u8 0, .int .u8 0, .int .u8 0, .int .u8 0, .int .u8 0, .int .u8 0, .int .u8 0, .int .u8 0] from rfl] at hvar
      generalize (wr.alloc (Obj.cells #[.int .u8 0, .int .u8 0, .int .u8 0, .int .u8 0, .int .u8 0, .int .u8 0, .int .u8 0, .int .u8 0, .int .u8 0, .int .u8 0, .int .u8 0, .int .u8 0, .int .u8 0, .int .u8 0, .int .u8 0, .int .u8 0, .int .u8 0, .int .u8 0, .int .u8 0, .int .u8 0, .int .u8 0, .int .u8 0, .int .u8 0, .int .u8 0, .int .u8 0, .int .u8 0, .int .u8 0, .int .u8 0, .int .u8 0, .int .u8 0, .int .u8 0, .int .u8 0] 30)).setCells wr.heap.size 0 (bcs x).toArray.toList = w4 at *
      clear HAL
      obtain ⟨hv1, hv2, hv3⟩ := hvar
      have hbs := hbw.keep.size
      have hblt : bw < wr.heap.size := (Array.getElem?_eq_some_iff.1 hc1).1
      have hgb : w4.heap[bw]? = some (.cells #[vb] 92 (0, 0)) := (hv1.block bw hblt).trans hc1
      have hlb : L.length + 32 ≤ 1099511627776 := by
        rw [← HL.out]
        have h1 : ∀ ys : List (List UInt8), (∀ y ∈ ys, y.length = 32) → ys.flatten.length = ys.length * 32 := fun ys => by
          induction ys with
          | nil => simp
          | cons y r ih => intro hy; simp [ih fun z hz => hy z (by simp [hz]), hy y (by simp)]; omega
        rw [List.length_append, h1 _ fun y hy => h32 y (List.mem_of_mem_take hy), List.length_take]
        omega
      obtain ⟨av, cv, rfl⟩ := HOWN.out.form
      obtain ⟨nv, hnv⟩ : ∃ nv, nv = L.length := ⟨_, rfl⟩
      rw [← hnv] at HOWN hgb hc1
      have HNV := Lib.hid hnv
      have G0 : wr.heap.size = wr.heap.size := rfl
      generalize hg : wr.heap.size = g at *
      clear hnv G0
      refine wp_region_tail
        (C := fun w1 => w1.cell? ⟨bw, 0, none⟩ = some (.slice av nv cv) ∧ w1.heap[bw]? = some (.cells #[.slice av nv cv] 92 (0, 0)) ∧ Rw bw w w1 ∧ bw < w1.heap.size)
        (D := fun w1 => Rw bw w w1)
        (L := fun w w' => w = w') (R := fun _ _ => True) (X0 := fun w1 => OwnB w1 (bw + 1) 5 (.slice av nv cv) L ∧ HAt w1 g x)
        [.q, .q, .q, .q, .q, .q,
          .c (fun v => ∃ ao c, v = .slice ao (L.length + 32) c) (fun v w1 => OwnB w1 (bw + 1) 5 v (L ++ x) ∧ ∀ k, v.ownBlock = some k → WFp w bw k ∨ w.heap.size ≤ k),
          .q, .q, .c (fun _ => True) (fun _ w1 => WAt w1 bw (L ++ x))]
        (by kernel_rfl) rfl (by kernel_rfl) (fun _ _ _ => trivial) (by rintro w w' h rfl; exact h) ?c1 ?c2 ?c3
      case c1 => exact ⟨by simp [World.cell?, hgb], hgb, (hbw.trans (Rw.of_below (by rw [hg]; exact hv1) (by rw [hg]; exact hblt))).dr, Nat.lt_trans hblt hv3⟩
      case c2 => exact ⟨HOWN.out.below (by rw [hg]; exact bel_dr hv1), hv2.below (bel_dr (Below.refl _ w4)) hv3⟩
      case c3 =>
      repeat (apply gent_q rfl rfl; (rintro w1 ⟨e1, e2, e3⟩; apply Same.of_wp rfl rfl (Nat.le_of_ble_eq_true rfl); intro KK QQ hK; simp only [Act.put, List.setIfInBounds_toArray, List.set_cons_succ, List.set_cons_zero] at hK; go_step; exact hK); simp only [Act.put, List.setIfInBounds_toArray, List.set_cons_succ, List.set_cons_zero])
      refine gent_c rfl rfl ⟨_, none, 0, rfl⟩ (by rintro v w1 w2 h rfl; exact h) ?_ ?_
      · rintro w1 ⟨e1, e2, e3, e4⟩ ⟨hX, hX2⟩ -
        refine Loud.of_wp rfl (Nat.le_of_ble_eq_true rfl) (fun KK QQ hK => ?_)
        refine wp_appB2 elem_u8 _ _ rfl rfl hX rfl hX2.bs (by rw [hk32]; omega) (Nat.succ_le_of_lt e4) ?_
        rintro v8 w8 ho hg hw
        have hne : ∀ k, (Value.slice av nv cv).ownBlock = some k → bw + 1 ≤ k := hX.base
        have hc8 : w8.heap[bw]? = some (.cells #[.slice av nv cv] 92 (0, 0)) := (hg.block bw e4 (fun e => by have := hne bw e.symm; omega)).trans e2
        obtain ⟨ao8, c8, hf8⟩ := ho.form
        refine hK _ _ ⟨⟨by simp [World.cell?, hc8], hc8, e3.trans (Rw.app e2 (fun e => by have := hne bw e; omega) hg), Nat.lt_of_lt_of_le e4 hg.size⟩, trivial, ⟨_, _, by simpa [hk32] using hf8⟩, ho, fun k hk => ?_⟩
        rcases hw with h | h
        · rw [h] at hk; exact e3.new k (.inr ⟨_, e2, hk⟩)
        · rw [h] at hk; cases hk; exact .inr e3.keep.size
      · rintro v ⟨ao8, c8, rfl⟩
        simp only [Act.put, List.setIfInBounds_toArray, List.set_cons_succ, List.set_cons_zero]
        repeat (apply gent_q rfl rfl; (rintro w1 ⟨e1, e2, e3⟩; apply Same.of_wp rfl rfl (Nat.le_of_ble_eq_true rfl); intro KK QQ hK; simp only [Act.put, List.setIfInBounds_toArray, List.set_cons_succ, List.set_cons_zero] at hK; go_step; exact hK); simp only [Act.put, List.setIfInBounds_toArray, List.set_cons_succ, List.set_cons_zero])
        obtain ⟨n8, hn8⟩ : ∃ n8 : Nat, n8 = L.length + 32 := ⟨_, rfl⟩
        rw [← hn8]
        clear hn8
        refine gent_last rfl rfl ⟨undef, trivial⟩ (by rintro v w1 w2 h rfl; exact h) ?_ ?_
        · rintro w1 ⟨e1, e2, e3, e4⟩ ⟨hX, hX8⟩ -
          refine Loud.of_wp0 rfl (fun KK QQ hK => ?_)
          have hfr : w1.frozen? ⟨bw, 0, none⟩ = false := by simp [World.frozen?, e2]
          go_step
          exact hK _ ⟨e3.store e2 hX8, trivial, trivial, _, heap_setCell_same w1 bw 0 _ _ _ e2, hX.keep (grown_set w1 bw 0 _) (fun k hk e => by have := hX.base k hk; cases e; omega)⟩
        · rintro v -
          refine gen_nil ?_
          rintro w1 e3 hX -
          clear HOWN hc1
          have HX1 := Lib.hid hX
          clear hX
          go_wp2
          refine ⟨⟨k + 1, by omega, by go_num, ?_, e3⟩, by simp [intOf]; omega⟩
          rw [HFL.out, ← List.append_assoc, HL.out]
          exact HX1.out
    · obtain rfl : k = hs.length := by omega
      have HO := Lib.hid hO
      clear hO
      go_wp2
      rw [List.take_length] at HO
      go_ret
      exact ⟨rfl, HO.out, hbw⟩
end Go.Proofs.YtbenjjaofabdcaaGreatDoor
