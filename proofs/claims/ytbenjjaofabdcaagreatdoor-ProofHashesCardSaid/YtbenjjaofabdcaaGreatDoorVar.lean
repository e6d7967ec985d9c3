/-
  Variables of hashes: laws for new ones, stores and loads; results.
-/
import Derived.Test.YtbenjjaofabdcaaGreatDoorDig
namespace Go.Proofs.YtbenjjaofabdcaaGreatDoor
open Go Go.RowKit

theorem parts_nil (w : World) : Parts w (.slice none 0 0) [] := ⟨[], Sl.nil _ _, fun i h l h1 _ => by simp at h1⟩
theorem parts_one (w : World) (t : TypeId) (v1 : Value) (l1 : List UInt8) (h1 : Bs w v1 l1) : Parts (w.alloc (.cells #[v1] t)) (.slice (some ⟨w.heap.size, 0, none⟩) 1 1) [l1] := by
  have hb : Below w.heap.size w (w.alloc (.cells #[v1] t)) := (Below.refl _ _).alloc (Nat.le_refl _) _
  refine ⟨[v1], sl_new w t 1 1 #[v1] rfl (by unfold maxLen; omega), fun i h l h3 h4 => ?_⟩
  rcases i with _ | i
  · simp at h3 h4; subst h3; subst h4; exact h1.below hb
  · simp at h3
/-- A hash stored in a variable. -/
theorem store_hash {w : World} {g : Nat} {x : List UInt8} (hx : x.length = 32) (ht : w.there g 0 32) : HAt (w.setCells g 0 (bcs x).toArray.toList) g x := ⟨hx, by
  have := World.rangeAt_setCells_same w g 0 (bcs x) (by rw [bcs_length, hx]; exact ht)
  simpa using this⟩
theorem there_below {w w' : World} {g n B : Nat} (h : w.there g 0 n) (hb : Below B w w') (hg : g < B) : w'.there g 0 n := fun j hj => by
  have h1 := hb.block g hg
  obtain ⟨h2, h3⟩ := h j hj
  exact ⟨by rw [World.cell?_of_block h1]; exact h2, by unfold World.frozen? at *; rw [h1]; exact h3⟩

theorem there_of {w : World} {g : Nat} {x : List UInt8} (h : w.there g 0 32) (hx : x.length = 32) : w.there g 0 (bcs x).toArray.size := by
  simpa [bcs, hx] using h
/-- A new variable, then something that leaves what was. -/
theorem alloc_hash {w w2 : World} {c0 c1 c2 c3 c4 c5 c6 c7 c8 c9 d0 d1 d2 d3 d4 d5 d6 d7 d8 d9 e0 e1 e2 e3 e4 e5 e6 e7 e8 e9 f0 f1 : Value} {t : TypeId}
    (hb : Below (w.alloc (.cells #[c0, c1, c2, c3, c4, c5, c6, c7, c8, c9, d0, d1, d2, d3, d4, d5, d6, d7, d8, d9, e0, e1, e2, e3, e4, e5, e6, e7, e8, e9, f0, f1] t)).heap.size (w.alloc (.cells #[c0, c1, c2, c3, c4, c5, c6, c7, c8, c9, d0, d1, d2, d3, d4, d5, d6, d7, d8, d9, e0, e1, e2, e3, e4, e5, e6, e7, e8, e9, f0, f1] t)) w2) :
    Below w.heap.size w w2 ∧ w2.there w.heap.size 0 32 :=
  ⟨((Below.refl w.heap.size w).alloc (Nat.le_refl _) _).trans (hb.mono (by simp)), there_below (there_new w t _ 32 (Nat.le_refl _)) hb (by simp)⟩
theorem hcs_one (x : List UInt8) : hcs [x] = bcs x := by simp [hcs]
theorem hash_box' (w : World) (t : TypeId) (x : List UInt8) (hx : x.length = 32) : Below w.heap.size w (w.alloc (.cells (hcs [x]).toArray t)) ∧ HAt (w.alloc (.cells (hcs [x]).toArray t)) w.heap.size x := by
  rw [hcs_one]
  exact ⟨(hash_box w t x hx).1, (hash_box w t x hx).2.1⟩
theorem results_hh {fn : Func} {p q t : Tmp} (h : fn.results = #[.cell p 30, .cell q 30, .tmp t]) (tmps : Array Value) (w : World) (g1 g2 : Nat) (x y : List UInt8)
    (hp : tmps.getD p undef = .pointer (some ⟨g1, 0, none⟩)) (hq : tmps.getD q undef = .pointer (some ⟨g2, 0, none⟩)) (h1 : HAt w g1 x) (h2 : HAt w g2 y) :
    (results fn tmps).run Tryz.prog w = .ok (.tuple #[hv x, hv y, tmps.getD t undef]) w := by
  have hp' : tmps[p]?.getD undef = .pointer (some ⟨g1, 0, none⟩) := by simpa using hp
  have hq' : tmps[q]?.getD undef = .pointer (some ⟨g2, 0, none⟩) := by simpa using hq
  have l1 := run_loadVar_mid (P := Tryz.prog) w g1 0 30 (bcs x) _ h1.range Tryz.underlying30 rfl (hsize x h1.len)
  have l2 := run_loadVar_mid (P := Tryz.prog) w g2 0 30 (bcs y) _ h2.range Tryz.underlying30 rfl (hsize y h2.len)
  simp [results, h, hp', hq', asAddr, l1, l2, hv]
theorem results_ht {fn : Func} {p t : Tmp} (h : fn.results = #[.cell p 30, .tmp t]) (tmps : Array Value) (w : World) (g1 : Nat) (x : List UInt8)
    (hp : tmps.getD p undef = .pointer (some ⟨g1, 0, none⟩)) (h1 : HAt w g1 x) :
    (results fn tmps).run Tryz.prog w = .ok (.tuple #[hv x, tmps.getD t undef]) w := by
  have hp' : tmps[p]?.getD undef = .pointer (some ⟨g1, 0, none⟩) := by simpa using hp
  have l1 := run_loadVar_mid (P := Tryz.prog) w g1 0 30 (bcs x) _ h1.range Tryz.underlying30 rfl (hsize x h1.len)
  simp [results, h, hp', asAddr, l1, hv]
theorem new_hash (w : World) : (w.alloc (.cells #[.int .u8 0, .int .u8 0, .int .u8 0, .int .u8 0, .int .u8 0, .int .u8 0, .int .u8 0, .int .u8 0, .int .u8 0, .int .u8 0, .int .u8 0, .int .u8 0, .int .u8 0, .int .u8 0, .int .u8 0, .int .u8 0, .int .u8 0, .int .u8 0, .int .u8 0, .int .u8 0, .int .u8 0, .int .u8 0, .int .u8 0, .int .u8 0, .int .u8 0, .int .u8 0, .int .u8 0, .int .u8 0, .int .u8 0, .int .u8 0, .int .u8 0, .int .u8 0] 30)).there w.heap.size 0 32 ∧ Below w.heap.size w (w.alloc (.cells #[.int .u8 0, .int .u8 0, .int .u8 0, .int .u8 0, .int .u8 0, .int .u8 0, .int .u8 0, .int .u8 0, .int .u8 0, .int .u8 0, .int .u8 0, .int .u8 0, .int .u8 0, .int .u8 0, .int .u8 0, .int .u8 0, .int .u8 0, .int .u8 0, .int .u8 0, .int .u8 0, .int .u8 0, .int .u8 0, .int .u8 0, .int .u8 0, .int .u8 0, .int .u8 0, .int .u8 0, .int .u8 0, .int .u8 0, .int .u8 0, .int .u8 0, .int .u8 0] 30)) ∧ (w.alloc (.cells #[.int .u8 0, .int .u8 0, .int .u8 0, .int .u8 0, .int .u8 0, .int .u8 0, .int .u8 0, .int .u8 0, .int .u8 0, .int .u8 0, .int .u8 0, .int .u8 0, .int .u8 0, .int .u8 0, .int .u8 0, .int .u8 0, .int .u8 0, .int .u8 0, .int .u8 0, .int .u8 0, .int .u8 0, .int .u8 0, .int .u8 0, .int .u8 0, .int .u8 0, .int .u8 0, .int .u8 0, .int .u8 0, .int .u8 0, .int .u8 0, .int .u8 0, .int .u8 0] 30)).heap.size = w.heap.size + 1 :=
  ⟨there_new w _ _ 32 (Nat.le_refl _), (Below.refl _ _).alloc (Nat.le_refl _) _, by simp⟩
theorem new_hash2 (w : World) : ((w.alloc (.cells #[.int .u8 0, .int .u8 0, .int .u8 0, .int .u8 0, .int .u8 0, .int .u8 0, .int .u8 0, .int .u8 0, .int .u8 0, .int .u8 0, .int .u8 0, .int .u8 0, .int .u8 0, .int .u8 0, .int .u8 0, .int .u8 0, .int .u8 0, .int .u8 0, .int .u8 0, .int .u8 0, .int .u8 0, .int .u8 0, .int .u8 0, .int .u8 0, .int .u8 0, .int .u8 0, .int .u8 0, .int .u8 0, .int .u8 0, .int .u8 0, .int .u8 0, .int .u8 0] 30)).alloc (.cells #[.int .u8 0, .int .u8 0, .int .u8 0, .int .u8 0, .int .u8 0, .int .u8 0, .int .u8 0, .int .u8 0, .int .u8 0, .int .u8 0, .int .u8 0, .int .u8 0, .int .u8 0, .int .u8 0, .int .u8 0, .int .u8 0, .int .u8 0, .int .u8 0, .int .u8 0, .int .u8 0, .int .u8 0, .int .u8 0, .int .u8 0, .int .u8 0, .int .u8 0, .int .u8 0, .int .u8 0, .int .u8 0, .int .u8 0, .int .u8 0, .int .u8 0, .int .u8 0] 30)).there w.heap.size 0 32 ∧ ((w.alloc (.cells #[.int .u8 0, .int .u8 0, .int .u8 0, .int .u8 0, .int .u8 0, .int .u8 0, .int .u8 0, .int .u8 0, .int .u8 0, .int .u8 0, .int .u8 0, .int .u8 0, .int .u8 0, .int .u8 0, .int .u8 0, .int .u8 0, .int .u8 0, .int .u8 0, .int .u8 0, .int .u8 0, .int .u8 0, .int .u8 0, .int .u8 0, .int .u8 0, .int .u8 0, .int .u8 0, .int .u8 0, .int .u8 0, .int .u8 0, .int .u8 0, .int .u8 0, .int .u8 0] 30)).alloc (.cells #[.int .u8 0, .int .u8 0, .int .u8 0, .int .u8 0, .int .u8 0, .int .u8 0, .int .u8 0, .int .u8 0, .int .u8 0, .int .u8 0, .int .u8 0, .int .u8 0, .int .u8 0, .int .u8 0, .int .u8 0, .int .u8 0, .int .u8 0, .int .u8 0, .int .u8 0, .int .u8 0, .int .u8 0, .int .u8 0, .int .u8 0, .int .u8 0, .int .u8 0, .int .u8 0, .int .u8 0, .int .u8 0, .int .u8 0, .int .u8 0, .int .u8 0, .int .u8 0] 30)).there (w.heap.size + 1) 0 32 ∧
    Below w.heap.size w ((w.alloc (.cells #[.int .u8 0, .int .u8 0, .int .u8 0, .int .u8 0, .int .u8 0, .int .u8 0, .int .u8 0, .int .u8 0, .int .u8 0, .int .u8 0, .int .u8 0, .int .u8 0, .int .u8 0, .int .u8 0, .int .u8 0, .int .u8 0, .int .u8 0, .int .u8 0, .int .u8 0, .int .u8 0, .int .u8 0, .int .u8 0, .int .u8 0, .int .u8 0, .int .u8 0, .int .u8 0, .int .u8 0, .int .u8 0, .int .u8 0, .int .u8 0, .int .u8 0, .int .u8 0] 30)).alloc (.cells #[.int .u8 0, .int .u8 0, .int .u8 0, .int .u8 0, .int .u8 0, .int .u8 0, .int .u8 0, .int .u8 0, .int .u8 0, .int .u8 0, .int .u8 0, .int .u8 0, .int .u8 0, .int .u8 0, .int .u8 0, .int .u8 0, .int .u8 0, .int .u8 0, .int .u8 0, .int .u8 0, .int .u8 0, .int .u8 0, .int .u8 0, .int .u8 0, .int .u8 0, .int .u8 0, .int .u8 0, .int .u8 0, .int .u8 0, .int .u8 0, .int .u8 0, .int .u8 0] 30)) ∧ ((w.alloc (.cells #[.int .u8 0, .int .u8 0, .int .u8 0, .int .u8 0, .int .u8 0, .int .u8 0, .int .u8 0, .int .u8 0, .int .u8 0, .int .u8 0, .int .u8 0, .int .u8 0, .int .u8 0, .int .u8 0, .int .u8 0, .int .u8 0, .int .u8 0, .int .u8 0, .int .u8 0, .int .u8 0, .int .u8 0, .int .u8 0, .int .u8 0, .int .u8 0, .int .u8 0, .int .u8 0, .int .u8 0, .int .u8 0, .int .u8 0, .int .u8 0, .int .u8 0, .int .u8 0] 30)).alloc (.cells #[.int .u8 0, .int .u8 0, .int .u8 0, .int .u8 0, .int .u8 0, .int .u8 0, .int .u8 0, .int .u8 0, .int .u8 0, .int .u8 0, .int .u8 0, .int .u8 0, .int .u8 0, .int .u8 0, .int .u8 0, .int .u8 0, .int .u8 0, .int .u8 0, .int .u8 0, .int .u8 0, .int .u8 0, .int .u8 0, .int .u8 0, .int .u8 0, .int .u8 0, .int .u8 0, .int .u8 0, .int .u8 0, .int .u8 0, .int .u8 0, .int .u8 0, .int .u8 0] 30)).heap.size = w.heap.size + 2 := by
  obtain ⟨h1, h2, h3⟩ := new_hash w
  obtain ⟨k1, k2, k3⟩ := new_hash (w.alloc (.cells #[.int .u8 0, .int .u8 0, .int .u8 0, .int .u8 0, .int .u8 0, .int .u8 0, .int .u8 0, .int .u8 0, .int .u8 0, .int .u8 0, .int .u8 0, .int .u8 0, .int .u8 0, .int .u8 0, .int .u8 0, .int .u8 0, .int .u8 0, .int .u8 0, .int .u8 0, .int .u8 0, .int .u8 0, .int .u8 0, .int .u8 0, .int .u8 0, .int .u8 0, .int .u8 0, .int .u8 0, .int .u8 0, .int .u8 0, .int .u8 0, .int .u8 0, .int .u8 0] 30))
  rw [h3] at k1 k3
  exact ⟨there_below h1 k2 (by omega), k1, h2.trans (k2.mono h2.size), k3⟩
/-- A new variable of a hash. -/
theorem wp_newH {o : Oper} {a : Act} {w : World} {K : Act → World → Prop} {Q : Exit → Act → World → Prop} (ho : o.op = .alloc 30)
    (h : ∀ w', Below w.heap.size w w' → w'.there w.heap.size 0 32 → w'.heap.size = w.heap.size + 1 → K (a.put o.dst (.pointer (some ⟨w.heap.size, 0, none⟩))) w') : o.wp Tryz.prog a w K Q := by
  obtain ⟨i, z, hi, hz, hsz, _, hzs⟩ := elem_hash.info
  have := h (w.alloc (.cells z.cells 30)) ((Below.refl _ _).alloc (Nat.le_refl _) _) (there_new w _ _ 32 (Nat.le_of_eq hzs.symm)) (by simp)
  unfold Oper.wp execOp
  simp [ho, Instr.alloc, zeroValue, typeInfo, hi, hz, newVar, newRow, World.alloc_eq]
  exact this
theorem size_setCells (w : World) (g o : Nat) (vs : List Value) : (w.setCells g o vs).heap.size = w.heap.size := by
  induction vs generalizing o w with
  | nil => rfl
  | cons v r ih => exact (ih (w.setCell ⟨g, o, none⟩ v) (o + 1)).trans (by simp [World.setCell])
/-- A hash is set. -/
theorem wp_setH {o : Oper} {a : Act} {w : World} {K : Act → World → Prop} {Q : Exit → Act → World → Prop} {x y : Operand} (ho : o.op = .store 30 x y) {g : Nat} {b : List UInt8}
    (hx : a.eval x = .pointer (some ⟨g, 0, none⟩)) (hy : a.eval y = .agg (bcs b).toArray) (hb : b.length = 32) (ht : w.there g 0 32)
    (h : ∀ w', Kp (fun k => k = g) w w' → w'.heap.size = w.heap.size → HAt w' g b → (∀ g', w.there g' 0 32 → w'.there g' 0 32) → K (a.put o.dst undef) w') : o.wp Tryz.prog a w K Q := by
  refine wp_store_mid _ x y ho g 0 (bcs b).toArray hx hy (there_of ht hb) (hsize' b hb) (bcs_all b) (h _ ?_ (size_setCells ..) (store_hash hb ht) fun g' h' => World.there_setCells h' _ _ _)
  have hbs : Below g w (w.setCells g 0 (bcs b).toArray.toList) := below_setCells (Below.refl _ _) (Nat.le_refl _) _ _
  exact ⟨hbs.os, hbs.tape, hbs.output, hbs.size, fun k hk hn => heap_setCells_ne _ _ _ _ hk hn⟩
theorem wp_getH {o : Oper} {a : Act} {w : World} {K : Act → World → Prop} {Q : Exit → Act → World → Prop} {x : Operand} (ho : o.op = .load 30 x) {g : Nat} {b : List UInt8}
    (hx : a.eval x = .pointer (some ⟨g, 0, none⟩)) (hb : HAt w g b) (h : K (a.put o.dst (.agg (bcs b).toArray)) w) : o.wp Tryz.prog a w K Q :=
  wp_load_mid _ x ho g 0 hx (bcs b) _ hb.range Tryz.underlying30 rfl (hsize b hb.len) h
theorem wpList_newH {ops : Array Oper} {rest : List Oper} {o : Oper} {a : Act} {w : World} {Q : Exit → Act → World → Prop} (hg : o.guard = none) (ho : o.op = .alloc 30)
    (h : ∀ w', Below w.heap.size w w' → w'.there w.heap.size 0 32 → w'.heap.size = w.heap.size + 1 → wpList Tryz.prog ops Q rest (a.put o.dst (.pointer (some ⟨w.heap.size, 0, none⟩))) w') : wpList Tryz.prog ops Q (o :: rest) a w :=
  wpList_plain hg fun _ hK => wp_newH ho fun w' h1 h2 h3 => hK _ _ (h w' h1 h2 h3)
theorem wpList_setH {ops : Array Oper} {rest : List Oper} {o : Oper} {a : Act} {w : World} {Q : Exit → Act → World → Prop} (hgd : o.guard = none) {x y : Operand} (ho : o.op = .store 30 x y) (g : Nat) (b : List UInt8)
    (hx : a.eval x = .pointer (some ⟨g, 0, none⟩)) (hy : a.eval y = .agg (bcs b).toArray) (hb : b.length = 32) (ht : w.there g 0 32)
    (h : ∀ w', Kp (fun k => k = g) w w' → w'.heap.size = w.heap.size → HAt w' g b → (∀ g', w.there g' 0 32 → w'.there g' 0 32) → wpList Tryz.prog ops Q rest (a.put o.dst undef) w') : wpList Tryz.prog ops Q (o :: rest) a w :=
  wpList_plain hgd fun _ hK => wp_setH ho hx hy hb ht fun w' h1 h2 h3 h4 => hK _ _ (h w' h1 h2 h3 h4)
theorem wpList_getH {ops : Array Oper} {rest : List Oper} {o : Oper} {a : Act} {w : World} {Q : Exit → Act → World → Prop} (hgd : o.guard = none) {x : Operand} (ho : o.op = .load 30 x) (g : Nat) (b : List UInt8)
    (hx : a.eval x = .pointer (some ⟨g, 0, none⟩)) (hb : HAt w g b) (h : wpList Tryz.prog ops Q rest (a.put o.dst (.agg (bcs b).toArray)) w) : wpList Tryz.prog ops Q (o :: rest) a w :=
  wpList_plain hgd fun _ hK => wp_getH ho hx hb (hK _ _ h)
theorem Kp.ex {S : Nat → Prop} {a w w' : World} (h : Kp S w w') (hb : Below a.heap.size a w) (hS : ∀ k, S k → a.heap.size ≤ k) : Below a.heap.size a w' :=
  hb.trans (h.below hb.size hS)
theorem HAt.kp {S : Nat → Prop} {w w' : World} {g : Nat} {x : List UInt8} (h : HAt w g x) (hk : Kp S w w') (hn : ¬ S g) : HAt w' g x := ⟨h.len, rangeAt_move h.range fun _ => hk.block g h.lt hn⟩
theorem cell_blk {w : World} {b : Nat} {cs : Array Value} {t : TypeId} (h : w.heap[b]? = some (.cells cs t (0, 0))) (i : Nat) : w.cell? ⟨b, i, none⟩ = cs[i]? := by
  unfold World.cell?
  simp only []
  rw [h]
  rfl
theorem dig_nil (w : World) (E : Nat) (hE : EnvAt w E) (n : Nat) (hn : n < 9223372036854775808) (log st : List UInt8) (hl : log.length = 32) (hs : st.length = 32) :
    Calls Tryz.prog 69 #[.pointer none, .int .i64 n, .agg (bcs log).toArray, .agg (bcs st).toArray] w fun e w' => e = .returned (.agg (bcs (dg n log st)).toArray) ∧ Below w.heap.size w w' :=
  (dig_any w E (fun _ => False) (.pointer none) [] (.inl rfl) (fun _ h => h.elim) (fun _ h => h.elim) (by simp) hE n hn log st hl hs).mono fun e w' ⟨h1, h2, _⟩ => ⟨h1, h2.below (Nat.le_refl _) fun _ h => h.elim⟩
end Go.Proofs.YtbenjjaofabdcaaGreatDoor
