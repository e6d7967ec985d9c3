/-
  Operations on variables, told by pieces of memory: in a region in the order of the text, and in one that draws its order.
-/
import Derived.Test.YtbenjjaofabdcaaGreatDoorSep
import Derived.Great.BuildSlice
namespace Go.Proofs.YtbenjjaofabdcaaGreatDoor
open Go Go.RowKit

/-- A type's measures: how many cells, whether it is a row of them, its zero. -/
structure Ty (P : Program) (t : TypeId) (n : Nat) (row : Bool) (zs : List Value) : Prop where
  size : ∀ w, (sizeOf t).run P w = .ok n w
  agg : ∀ w, (isAgg t).run P w = .ok row w
  zero : ∀ w, ∃ z, (zeroValue t).run P w = .ok z w ∧ z.cells = zs.toArray
abbrev ptr (b off : Nat) : Value := .pointer (some ⟨b, off, none⟩)
def ones (cs : List Value) : Prop := ∀ u ∈ cs, u.oneCell' = true
def onesB (cs : List Value) : Bool := cs.all (·.oneCell')
theorem ones_of {cs : List Value} (h : onesB cs = true) : ones cs := fun u hu => List.all_eq_true.1 h u hu
theorem cells_one {v : Value} (h : v.oneCell' = true) : v.cells = #[v] := by cases v <;> first | rfl | cases h
theorem ones_append {a b : List Value} (ha : ones a) (hb : ones b) : ones (a ++ b) := fun u hu => (List.mem_append.1 hu).elim (ha u) (hb u)
theorem ones_bcs (l : List UInt8) : ones (bcs l) := bcs_one l

section
variable {P : Program}
theorem run_loadn {t : TypeId} {n : Nat} {zs cs : List Value} {w : World} {b o : Nat} (hT : Ty P t n true zs) (hr : w.rangeAt b o cs) (hl : cs.length = n) :
    (Instr.loadAt t (ptr b o)).run P w = .ok (.agg cs.toArray) w := by
  have hl' : (loadCells ⟨b, o, none⟩ n).run P w = .ok cs.toArray w := by
    rw [← hl]; exact run_loadCells_list (P := P) w ⟨b, o, none⟩ cs (fun j v hv => by rw [Addr.add_mid]; exact hr j v hv)
  simp only [Instr.loadAt, Instr.sureAddr, Sem.run_bind, Sem.run_pure, Result.andThen_ok, loadVar, hT.agg, hT.size, hl', if_true]
theorem run_load1 {t : TypeId} {n : Nat} {zs : List Value} {w : World} {b o : Nat} {v : Value} (hT : Ty P t n false zs) (hr : w.cell? ⟨b, o, none⟩ = some v) :
    (Instr.loadAt t (ptr b o)).run P w = .ok v w := by
  have : (load ⟨b, o, none⟩).run P w = .ok v w := by simp [go_sem, hr]
  simp only [Instr.loadAt, Instr.sureAddr, Sem.run_bind, Sem.run_pure, Result.andThen_ok, loadVar, hT.agg, this, Bool.false_eq_true, if_false]
theorem run_storen {t : TypeId} {n : Nat} {row : Bool} {zs ds : List Value} {w : World} {b o : Nat} {v : Value} (hT : Ty P t n row zs) (hv : v.cells = ds.toArray) (hl : ds.length = n) (ht : w.there b o n) (h1 : ones ds) :
    (Instr.storeAt t (ptr b o) v).run P w = .ok () (w.setCells b o ds) := by
  have hs := run_storeCells_cells (P := P) b o ds 0 w (fun j hj => by simpa using (ht j (by omega)).1) (fun j hj => by simpa using (ht j (by omega)).2) h1
  simp only [Nat.add_zero] at hs
  simp only [Instr.storeAt, Instr.sureAddr, Sem.run_bind, Sem.run_pure, Result.andThen_ok, storeVar, hT.size, hv, List.size_toArray, hl, ne_eq, not_true_eq_false, if_false, hs]

variable {o : Oper} {a : Act} {w : World} {K : Act → World → Prop} {Q : Exit → Act → World → Prop}
theorem wp_alloc {e : TypeId} {n : Nat} {row : Bool} {zs : List Value} (ho : o.op = .alloc e) (hT : Ty P e n row zs)
    (h : ∀ b w', Below w.heap.size w w' → w.heap.size ≤ b → (pts b e zs).holds w' → K (a.put o.dst (ptr b 0)) w') : o.wp P a w K Q := by
  obtain ⟨z, hz, hzc⟩ := hT.zero w
  have := h w.heap.size (w.alloc (.cells z.cells e)) ((Below.refl _ _).alloc (Nat.le_refl _) _) (Nat.le_refl _) (by rw [hzc]; exact pts_alloc w e zs.toArray)
  unfold Oper.wp execOp
  simp only [ho, Instr.alloc, Sem.run_bind, hz, Result.andThen_ok, newVar, newRow, run_newObj, Sem.run_pure]
  exact this
theorem wp_box {e : TypeId} {x : Operand} {v : Value} {cs : List Value} (ho : o.op = .box e x) (hx : a.eval x = v) (hv : v.cells = cs.toArray)
    (h : ∀ b w', Below w.heap.size w w' → w.heap.size ≤ b → (pts b e cs).holds w' → K (a.put o.dst (ptr b 0)) w') : o.wp P a w K Q := by
  have := h w.heap.size (w.alloc (.cells v.cells e)) ((Below.refl _ _).alloc (Nat.le_refl _) _) (Nat.le_refl _) (by rw [hv]; exact pts_alloc w e cs.toArray)
  unfold Oper.wp execOp
  simp only [ho, hx, Instr.box, Sem.run_bind, newVar, newRow, run_newObj, Sem.run_pure, Result.andThen_ok]
  exact this
theorem wp_loadn {t : TypeId} {n : Nat} {zs cs : List Value} {x : Operand} {b off : Nat} (ho : o.op = .load t x) (hx : a.eval x = ptr b off) (hT : Ty P t n true zs) (hr : w.rangeAt b off cs) (hl : cs.length = n)
    (h : K (a.put o.dst (.agg cs.toArray)) w) : o.wp P a w K Q := by
  unfold Oper.wp execOp
  simp only [ho, hx, Sem.run_bind, run_loadn hT hr hl, Result.andThen_ok, Sem.run_pure]
  exact h
theorem wp_load1 {t : TypeId} {n : Nat} {zs : List Value} {x : Operand} {b off : Nat} {v : Value} (ho : o.op = .load t x) (hx : a.eval x = ptr b off) (hT : Ty P t n false zs) (hr : w.cell? ⟨b, off, none⟩ = some v)
    (h : K (a.put o.dst v) w) : o.wp P a w K Q := by
  unfold Oper.wp execOp
  simp only [ho, hx, Sem.run_bind, run_load1 hT hr, Result.andThen_ok, Sem.run_pure]
  exact h
theorem wp_storen {t : TypeId} {n : Nat} {row : Bool} {zs ds : List Value} {x y : Operand} {b off : Nat} {v : Value} (ho : o.op = .store t x y) (hx : a.eval x = ptr b off) (hy : a.eval y = v) (hT : Ty P t n row zs) (hv : v.cells = ds.toArray) (hl : ds.length = n) (ht : w.there b off n) (h1 : ones ds)
    (h : K (a.put o.dst undef) (w.setCells b off ds)) : o.wp P a w K Q := by
  unfold Oper.wp execOp
  simp only [ho, hx, hy, Sem.run_bind, run_storen hT hv hl ht h1, Result.andThen_ok, Sem.run_pure]
  exact h
theorem Same.loadn {t : TypeId} {n : Nat} {zs cs : List Value} {x : Operand} {b off : Nat} (ho : o.op = .load t x) (hx : a.eval x = ptr b off) (hT : Ty P t n true zs) (hr : w.rangeAt b off cs) (hl : cs.length = n) : Same P o a w (.agg cs.toArray) := by
  unfold Same execOp
  simp only [ho, hx, Sem.run_bind, run_loadn hT hr hl, Result.andThen_ok, Sem.run_pure]
  trivial
theorem Same.load1 {t : TypeId} {n : Nat} {zs : List Value} {x : Operand} {b off : Nat} {v : Value} (ho : o.op = .load t x) (hx : a.eval x = ptr b off) (hT : Ty P t n false zs) (hr : w.cell? ⟨b, off, none⟩ = some v) : Same P o a w v := by
  unfold Same execOp
  simp only [ho, hx, Sem.run_bind, run_load1 hT hr, Result.andThen_ok, Sem.run_pure]
  trivial
theorem Loud.storen {t : TypeId} {n : Nat} {row : Bool} {zs ds : List Value} {x y : Operand} {b off : Nat} {v : Value} {post : Value → World → Prop} (ho : o.op = .store t x y) (hx : a.eval x = ptr b off) (hy : a.eval y = v) (hT : Ty P t n row zs) (hv : v.cells = ds.toArray) (hl : ds.length = n) (ht : w.there b off n) (h1 : ones ds)
    (h : post undef (w.setCells b off ds)) : Loud P o a w post := by
  unfold Loud execOp
  simp only [ho, hx, hy, Sem.run_bind, run_storen hT hv hl ht h1, Result.andThen_ok, Sem.run_pure]
  exact h

/-! ### In the order of the text -/
variable {W : Nat → Prop} {w0 : World} {L L' : List Asn} {ops : Array Oper} {rest : List Oper}
/-- L' is L with A' in A's place. -/
inductive Repl (A A' : Asn) : List Asn → List Asn → Prop
  | head {L : List Asn} : Repl A A' (A :: L) (A' :: L)
  | tail {B : Asn} {L L' : List Asn} : Repl A A' L L' → Repl A A' (B :: L) (B :: L')
theorem Repl.spec {A A' : Asn} (h : Repl A A' L L') : ∃ i : Nat, L[i]? = some A ∧ L' = L.set i A' := by
  induction h with
  | head => exact ⟨0, rfl, rfl⟩
  | tail _ ih => obtain ⟨i, h1, h2⟩ := ih; exact ⟨i + 1, h1, by rw [h2]; rfl⟩
theorem Sep.repl {A A' : Asn} {w' : World} (M : Sep W w0 w L) (hr : Repl A A' L L') (hk : Kp A.fp w w') (hA : A'.holds w') (hf : ∀ k, A'.fp k → A.fp k ∨ w.heap.size ≤ k) : Sep W w0 w' L' := by
  obtain ⟨i, h1, rfl⟩ := hr.spec
  exact M.set i h1 hk A' hA hf
theorem Sep.newv {b : Nat} {t : TypeId} {cs : List Value} {w' : World} (M : Sep W w0 w L) (hb : Below w.heap.size w w') (hle : w.heap.size ≤ b) (hp : (pts b t cs).holds w') : Sep W w0 w' (pts b t cs :: L) :=
  M.add hb _ hp fun k hk => by rw [hk]; exact hle
theorem wl_plain (hgd : Region.wanted o (yielded ops a.tmps) = true) (h : ∀ K : Act → World → Prop, (∀ a w, wpList P ops Q rest a w → K a w) → o.wp P a w K Q) : wpList P ops Q (o :: rest) a w :=
  wpList_step fun K hK => by rw [if_pos hgd]; exact h K hK
/-- At this operation. -/
theorem wl_at (o : Oper) (h : wpList P ops Q (o :: rest) a w) : wpList P ops Q (o :: rest) a w := h
theorem wl_alloc (M : Sep W w0 w L) {e : TypeId} {n : Nat} {row : Bool} {zs : List Value} (hgd : Region.wanted o (yielded ops a.tmps) = true) (ho : o.op = .alloc e) (hT : Ty P e n row zs)
    (h : ∀ b w', Sep W w0 w' (pts b e zs :: L) → wpList P ops Q rest (a.put o.dst (ptr b 0)) w') : wpList P ops Q (o :: rest) a w :=
  wl_plain hgd fun _ hK => wp_alloc ho hT fun b w' h1 h2 h3 => hK _ _ (h b w' (M.newv h1 h2 h3))
theorem wl_box (M : Sep W w0 w L) {e : TypeId} {x : Operand} {v : Value} (cs : List Value) (hgd : Region.wanted o (yielded ops a.tmps) = true) (ho : o.op = .box e x) (hx : a.eval x = v) (hv : v.cells = cs.toArray)
    (h : ∀ b w', Sep W w0 w' (pts b e cs :: L) → wpList P ops Q rest (a.put o.dst (ptr b 0)) w') : wpList P ops Q (o :: rest) a w :=
  wl_plain hgd fun _ hK => wp_box ho hx hv fun b w' h1 h2 h3 => hK _ _ (h b w' (M.newv h1 h2 h3))
theorem wl_load1 (M : Sep W w0 w L) {t e : TypeId} {n : Nat} {zs cs : List Value} {x : Operand} {b off : Nat} {v : Value} (hgd : Region.wanted o (yielded ops a.tmps) = true) (ho : o.op = .load t x) (hx : a.eval x = ptr b off) (hT : Ty P t n false zs) (hm : pts b e cs ∈ L) (hv : cs[off]? = some v)
    (h : wpList P ops Q rest (a.put o.dst v) w) : wpList P ops Q (o :: rest) a w :=
  wl_plain hgd fun _ hK => wp_load1 ho hx hT (pts.cell (M.holds _ hm) off hv) (hK _ _ h)
theorem range2 {b off : Nat} {e : TypeId} {cs : List Value} {v u : Value} (h : (pts b e cs).holds w) (hv : cs[off]? = some v) (hu : cs[off + 1]? = some u) : w.rangeAt b off [v, u] := fun j x hx => by
  rcases j with _ | _ | j
  · simp at hx; subst hx; exact pts.cell h off hv
  · simp at hx; subst hx; exact pts.cell h (off + 1) hu
  · simp at hx
theorem wl_load2 (M : Sep W w0 w L) {t e : TypeId} {zs cs : List Value} {x : Operand} {b off : Nat} {v u : Value} (hgd : Region.wanted o (yielded ops a.tmps) = true) (ho : o.op = .load t x) (hx : a.eval x = ptr b off) (hT : Ty P t 2 true zs) (hm : pts b e cs ∈ L) (hv : cs[off]? = some v) (hu : cs[off + 1]? = some u)
    (h : wpList P ops Q rest (a.put o.dst (.agg #[v, u])) w) : wpList P ops Q (o :: rest) a w :=
  wl_plain hgd fun _ hK => wp_loadn ho hx hT (range2 (M.holds _ hm) hv hu) rfl (hK _ _ h)
theorem range_all {b : Nat} {e : TypeId} {cs : List Value} (h : (pts b e cs).holds w) : w.rangeAt b 0 cs := pts.range h 0 (by simp)
theorem wl_loadn (M : Sep W w0 w L) {t e : TypeId} {n : Nat} {zs cs : List Value} {x : Operand} {b : Nat} (hgd : Region.wanted o (yielded ops a.tmps) = true) (ho : o.op = .load t x) (hx : a.eval x = ptr b 0) (hT : Ty P t n true zs) (hm : pts b e cs ∈ L) (hl : cs.length = n)
    (h : wpList P ops Q rest (a.put o.dst (.agg cs.toArray)) w) : wpList P ops Q (o :: rest) a w :=
  wl_plain hgd fun _ hK => wp_loadn ho hx hT (range_all (M.holds _ hm)) hl (hK _ _ h)
theorem wl_store (M : Sep W w0 w L) {t e : TypeId} {n : Nat} {row : Bool} {zs cs : List Value} {x y : Operand} {b off : Nat} {v : Value} (ds : List Value) (hgd : Region.wanted o (yielded ops a.tmps) = true) (ho : o.op = .store t x y) (hx : a.eval x = ptr b off) (hy : a.eval y = v) (hT : Ty P t n row zs)
    (hv : v.cells = ds.toArray) (hl : ds.length = n) (h1 : ones ds) (hr : Repl (pts b e cs) (pts b e (splice cs off ds)) L L') (hn : off + n ≤ cs.length)
    (h : ∀ w', Sep W w0 w' L' → wpList P ops Q rest (a.put o.dst undef) w') : wpList P ops Q (o :: rest) a w :=
  wl_plain hgd fun _ hK => by
    have hp := M.holds (pts b e cs) (by obtain ⟨i, h, _⟩ := hr.spec; exact List.mem_of_getElem? h)
    exact wp_storen ho hx hy hT hv hl (pts.there hp off n hn) h1 (hK _ _ (h _ (M.repl hr (kp_setCells w b off ds _ rfl) (pts_setCells hp off ds) fun k hk => .inl hk)))
theorem splice_set (cs : List Value) (off : Nat) (v : Value) : splice cs off [v] = cs.set off v := rfl
theorem splice_all (cs ds : List Value) (h : cs.length = ds.length) : splice cs 0 ds = ds := by
  have key : ∀ (ds pre cs : List Value), cs.length = ds.length → splice (pre ++ cs) pre.length ds = pre ++ ds := by
    intro ds
    induction ds with
    | nil => intro pre cs hl; obtain rfl : cs = [] := List.eq_nil_of_length_eq_zero hl; rfl
    | cons d r ih =>
      intro pre cs hl
      cases cs with
      | nil => simp at hl
      | cons c cs =>
        have := ih (pre ++ [d]) cs (by simpa using hl)
        simp only [List.length_append, List.length_cons, List.length_nil, Nat.zero_add, List.append_assoc, List.cons_append, List.nil_append] at this
        simp only [splice]
        rw [show (pre ++ c :: cs).set pre.length d = pre ++ d :: cs by simp]
        exact this
  simpa using key ds [] cs h
/-- A whole variable is set. -/
theorem wl_storen (M : Sep W w0 w L) {t e : TypeId} {n : Nat} {row : Bool} {zs cs : List Value} {x y : Operand} {b : Nat} {v : Value} (ds : List Value) (hgd : Region.wanted o (yielded ops a.tmps) = true) (ho : o.op = .store t x y) (hx : a.eval x = ptr b 0) (hy : a.eval y = v) (hT : Ty P t n row zs)
    (hv : v.cells = ds.toArray) (hl : ds.length = n) (h1 : ones ds) (hr : Repl (pts b e cs) (pts b e ds) L L') (hn : cs.length = n)
    (h : ∀ w', Sep W w0 w' L' → wpList P ops Q rest (a.put o.dst undef) w') : wpList P ops Q (o :: rest) a w :=
  wl_store M ds hgd ho hx hy hT hv hl h1 (by rw [splice_all cs ds (by omega)]; exact hr) (by omega) h
end

/-! ### Slices -/
section
variable {P : Program} {o : Oper} {a : Act} {w : World} {K : Act → World → Prop} {Q : Exit → Act → World → Prop} {W : Nat → Prop} {w0 : World} {L : List Asn} {ops : Array Oper} {rest : List Oper}
def flatC (vs : List Value) : List Value := vs.flatMap (·.cells.toList)
theorem wp_bslice {t e : TypeId} {sz bytes : Nat} (hE : ElemOk P t e sz bytes) {len : Nat} {parts : Array (Nat × Operand)} (vs : List Value) (ho : o.op = .buildSlice t len parts)
    (hp : parts.toList.map (fun x => (x.1, a.eval x.2)) = (vs.zipIdx 0).map fun x => (x.2, x.1)) (hsz : ∀ v ∈ vs, v.cells.size = sz) (hlen : len = vs.length) (hpos : 0 < len) (hm : len * sz ≤ 16777216)
    (h : ∀ b w', Below w.heap.size w w' → w.heap.size ≤ b → (pts b e (flatC vs)).holds w' → K (a.put o.dst (.slice (some ⟨b, 0, none⟩) len len)) w') : o.wp P a w K Q := by
  obtain ⟨i, z, hi, hz, hsi, _, hzs⟩ := hE.info
  have hs0 := hE.pos
  refine wp_buildSlice t e len parts ho (flatC vs).toArray i z hE.slice hi hz (by rw [hsi]; omega) (by rw [hsi]; exact Nat.ne_of_gt (Nat.mul_pos hpos hs0)) ?_ ?_
  · rw [Array.toList_map]
    have hp' : parts.toList.map (fun x => match x with | (i, x) => (i, a.eval x)) = (vs.zipIdx 0).map fun x => (x.2, x.1) := by rw [← hp]
    rw [hp', hsi]
    have h1 := Great.fill_whole (s := sz) hs0 vs ((Array.range (len * sz)).map (z.cells[· % z.cells.size]!)) hsz (by simp [hlen])
    rw [h1]
    rfl
  · exact h _ _ ((Below.refl _ _).alloc (Nat.le_refl _) _) (Nat.le_refl _) (pts_alloc w e (flatC vs).toArray)
theorem wl_bslice (M : Sep W w0 w L) {t e : TypeId} {sz bytes : Nat} (hE : ElemOk P t e sz bytes) {len : Nat} {parts : Array (Nat × Operand)} (vs : List Value) (hgd : Region.wanted o (yielded ops a.tmps) = true) (ho : o.op = .buildSlice t len parts)
    (hp : parts.toList.map (fun x => (x.1, a.eval x.2)) = (vs.zipIdx 0).map fun x => (x.2, x.1)) (hsz : ∀ v ∈ vs, v.cells.size = sz) (hlen : len = vs.length) (hpos : 0 < len) (hm : len * sz ≤ 16777216)
    (h : ∀ b w', Sep W w0 w' (pts b e (flatC vs) :: L) → wpList P ops Q rest (a.put o.dst (.slice (some ⟨b, 0, none⟩) len len)) w') : wpList P ops Q (o :: rest) a w :=
  wl_plain hgd fun _ hK => wp_bslice hE vs ho hp hsz hlen hpos hm fun b w' h1 h2 h3 => hK _ _ (h b w' (M.newv h1 h2 h3))
theorem pts.sl {b : Nat} {e : TypeId} {cs : List Value} (h : (pts b e cs).holds w) {sz n : Nat} (hl : cs.length = n * sz) (hn : n ≤ maxLen) : Sl w sz (.slice (some ⟨b, 0, none⟩) n n) n cs :=
  .inr ⟨b, 0, n, rfl, Nat.le_refl _, hn, hl, range_all h⟩
theorem pts.row {b : Nat} {e : TypeId} {cs : List Value} (h : (pts b e cs).holds w) {sz n : Nat} (hl : cs.length = n * sz) (hn : n ≤ maxLen) : (rowA e sz (.slice (some ⟨b, 0, none⟩) n n) n cs).holds w :=
  ⟨hl, .inr ⟨b, n, cs.toArray, rfl, Nat.zero_le _, h, Nat.le_refl _, hn, by simpa using hl, by simp [← hl]⟩⟩
theorem rowA.form {e : TypeId} {sz n : Nat} {v : Value} {xs : List Value} (h : (rowA e sz v n xs).holds w) : ∃ ao c, v = .slice ao n c := by
  obtain ⟨_, ⟨rfl, rfl⟩ | ⟨g, cap, cur, rfl, _⟩⟩ := h
  · exact ⟨none, 0, rfl⟩
  · exact ⟨_, cap, rfl⟩
theorem rowA.sl {e : TypeId} {sz n : Nat} {v : Value} {xs : List Value} (h : (rowA e sz v n xs).holds w) : Sl w sz v n xs := Sl.of_own h
theorem kp_grown {w w' : World} {row : Option Nat} (h : w.grownBy w' row) : Kp (fun k => row = some k) w w' := ⟨h.os, h.tape, h.output, h.size, fun k hk hn => h.block k hk fun e => hn e.symm⟩
/-- APPEND to a row of one's own. -/
theorem wp_appR {t e : TypeId} {sz bytes : Nat} (hE : ElemOk P t e sz bytes) {s x : Operand} (ho : o.op = .call { callee := .builtin .append, args := #[s, x], argTypes := #[t, t] })
    {v : Value} {n : Nat} {xs : List Value} (hs : a.eval s = v) (hown : (rowA e sz v n xs).holds w) {xv : Value} {m : Nat} {news : List Value} (hx : a.eval x = xv) (hsrc : Sl w sz xv m news) (h1 : ones news) (hb : (n + m) * bytes ≤ 140737488355328)
    (h : ∀ v' w', (rowA e sz v' (n + m) (xs ++ news)).holds w' → Kp (rowA e sz v n xs).fp w w' → (∀ k, (rowA e sz v' (n + m) (xs ++ news)).fp k → (rowA e sz v n xs).fp k ∨ w.heap.size ≤ k) → K (a.put o.dst v') w') : o.wp P a w K Q :=
  wp_app2 hE s x ho hs hown hx hsrc h1 hb (Nat.zero_le _) fun v' w' h2 h3 h4 => h v' w' h2 (kp_grown h3) fun k hk => by
    rcases h4 with h4 | h4
    · exact .inl (h4.symm.trans hk)
    · have : v'.ownBlock = some k := hk
      rw [h4] at this
      cases this
      exact .inr (Nat.le_refl _)
theorem wl_app (M : Sep W w0 w L) {t e : TypeId} {sz bytes : Nat} (hE : ElemOk P t e sz bytes) {s x : Operand} {L' : Value → List Asn} (hgd : Region.wanted o (yielded ops a.tmps) = true) (ho : o.op = .call { callee := .builtin .append, args := #[s, x], argTypes := #[t, t] })
    {v : Value} {n : Nat} {xs : List Value} (hs : a.eval s = v) {xv : Value} {m : Nat} {news : List Value} (hx : a.eval x = xv) (hr : ∀ v', Repl (rowA e sz v n xs) (rowA e sz v' (n + m) (xs ++ news)) L (L' v')) (hsrc : Sl w sz xv m news) (h1 : ones news) (hb : (n + m) * bytes ≤ 140737488355328)
    (h : ∀ ao c w', Sep W w0 w' (L' (.slice ao (n + m) c)) → wpList P ops Q rest (a.put o.dst (.slice ao (n + m) c)) w') : wpList P ops Q (o :: rest) a w :=
  wl_plain hgd fun _ hK => wp_appR hE ho hs (M.holds _ (by obtain ⟨i, h, _⟩ := (hr v).spec; exact List.mem_of_getElem? h)) hx hsrc h1 hb fun v' w' h2 h3 h4 => by
    obtain ⟨ao, c, rfl⟩ := rowA.form h2
    exact hK _ _ (h ao c w' (M.repl (hr _) h3 h2 h4))
theorem rowA_nil (e : TypeId) (sz : Nat) (w : World) : (rowA e sz (.slice none 0 0) 0 []).holds w := World.ownsRow_nil _ _ _ _
/-- APPEND to nil. -/
theorem wl_app0 (M : Sep W w0 w L) {t e : TypeId} {sz bytes : Nat} (hE : ElemOk P t e sz bytes) {s x : Operand} (hgd : Region.wanted o (yielded ops a.tmps) = true) (ho : o.op = .call { callee := .builtin .append, args := #[s, x], argTypes := #[t, t] })
    (hs : a.eval s = .slice none 0 0) {xv : Value} {m : Nat} {news : List Value} (hx : a.eval x = xv) (hsrc : Sl w sz xv m news) (h1 : ones news) (hb : m * bytes ≤ 140737488355328)
    (h : ∀ ao c w', Sep W w0 w' (rowA e sz (.slice ao m c) m news :: L) → wpList P ops Q rest (a.put o.dst (.slice ao m c)) w') : wpList P ops Q (o :: rest) a w :=
  wl_plain hgd fun _ hK => wp_appR hE ho hs (rowA_nil e sz w) hx hsrc h1 (by rw [Nat.zero_add]; exact hb) fun v' w' h2 h3 h4 => by
    rw [Nat.zero_add, List.nil_append] at h2 h4
    obtain ⟨ao, c, rfl⟩ := rowA.form h2
    refine hK _ _ (h ao c w' (M.add (h3.below (Nat.le_refl _) fun k hk => by cases hk) _ h2 fun k hk => ?_))
    rcases h4 k hk with h5 | h5
    · cases h5
    · exact h5
end
/-! ### In a region that draws its order -/
def blkOf : Value → Nat
  | .pointer (some a) => a.block
  | .slice (some a) _ _ => a.block
  | _ => 0
/-- A new variable of operation i; what it holds. -/
abbrev tnew (i : Nat) (cons : Option Nat) (rds : List Nat) (e : TypeId) (cs : List Value) : Tok := ⟨some i, cons, rds, [i], fun | [g] => pts (blkOf g.1) e cs | _ => pts 0 e cs⟩
abbrev told (cons : Option Nat) (rds : List Nat) (A : Asn) : Tok := ⟨none, cons, rds, [], fun _ => A⟩
abbrev ospP : OSp := .v [] fun _ g => ∃ b, g = gq (ptr b 0)
abbrev ospS (n : Nat) : OSp := .v [] fun _ g => ∃ ao c, g = gq (.slice ao n c)
abbrev ospB (n : Nat) : OSp := .v [] fun _ g => ∃ b, g = gq (.slice (some ⟨b, 0, none⟩) n n)
abbrev ospV (v : Value) : OSp := .v [] fun _ g => g = gq v
abbrev ospU : OSp := .v [] fun _ g => g = gq undef
section
variable {P : Program} {C : World → Prop} {ops : Array Oper} {toks : List Tok} {Q : Act → (Nat → GV) → Prop} {i : Nat} {o : Oper} {rest : List Oper} {ss : List OSp} {val : Nat → GV} {a : Act}
theorem loud_mk {post : Value → World → Prop} {w : World} {d : Tmp} (hd : o.dst = some d) (hlt : d < a.tmps.size) (h : ∀ (K : Act → World → Prop) (Q : Exit → Act → World → Prop), (∀ v w', post v w' → K (a.put o.dst v) w') → o.wp P a w K Q) : Loud P o a w post := Loud.of_wp hd hlt h
theorem walk_alloc {e : TypeId} {n : Nat} {row : Bool} {zs : List Value} {d : Tmp} (x : Nat) (ho : o.op = .alloc e) (hd : o.dst = some d) (hlt : Nat.ble (d + 1) a.tmps.size = true) (hT : Ty P e n row zs) {t : Tok} (hx : toks[x]? = some t) (hB : (prodB toks i x && freeB toks i) = true)
    (hw : Region.wanted o (yielded ops a.tmps) = true) (ht : ∀ b, t.at_ (upd val i (gq (ptr b 0))) = pts b e zs)
    (h : ∀ b, Walk P ops toks C Q (i + 1) rest ss (upd val i (gq (ptr b 0))) (a.put o.dst (ptr b 0))) : Walk P ops toks C Q i (o :: rest) (ospP :: ss) val a := by
  refine walk_v hw ⟨_, 0, rfl⟩ (fun w _ => Loud.of_wp hd (Nat.le_of_ble_eq_true hlt) fun K Q' hK => wp_alloc ho hT fun b w' h1 h2 h3 => hK _ _ ⟨gq (ptr b 0), rfl, ⟨b, rfl⟩, outs_new x hx hB h1 (by rw [ht]; exact h3) fun k hk => ?_⟩) (by rintro g ⟨b, rfl⟩; exact h b)
  rw [ht] at hk
  rw [hk]; exact h2
theorem walk_loadn {t : TypeId} {n : Nat} {zs cs : List Value} {x : Operand} {b off : Nat} (ho : o.op = .load t x) (hx : a.eval x = ptr b off) (hT : Ty P t n true zs) (hl : cs.length = n) (hw : Region.wanted o (yielded ops a.tmps) = true)
    (hr : ∀ w, Ins C toks i val w → w.rangeAt b off cs) (h : Walk P ops toks C Q (i + 1) rest ss (upd val i (gq (.agg cs.toArray))) (a.put o.dst (.agg cs.toArray))) : Walk P ops toks C Q i (o :: rest) (.q :: ss) val a :=
  walk_q hw (fun w hI => Same.loadn ho hx hT (hr w hI) hl) h
theorem walk_load1 {t : TypeId} {n : Nat} {zs : List Value} {x : Operand} {b off : Nat} {v : Value} (ho : o.op = .load t x) (hx : a.eval x = ptr b off) (hT : Ty P t n false zs) (hw : Region.wanted o (yielded ops a.tmps) = true)
    (hr : ∀ w, Ins C toks i val w → w.cell? ⟨b, off, none⟩ = some v) (h : Walk P ops toks C Q (i + 1) rest ss (upd val i (gq v)) (a.put o.dst v)) : Walk P ops toks C Q i (o :: rest) (.q :: ss) val a :=
  walk_q hw (fun w hI => Same.load1 ho hx hT (hr w hI)) h
/-- A store into piece y, which becomes piece x. -/
theorem walk_store {t e : TypeId} {n : Nat} {row : Bool} {zs cs : List Value} {p q : Operand} {b off : Nat} {v : Value} (y x : Nat) (ds : List Value) (ho : o.op = .store t p q) (hd : o.dst = none) (hp : a.eval p = ptr b off) (hq : a.eval q = v) (hT : Ty P t n row zs)
    (hv : v.cells = ds.toArray) (hl : ds.length = n) (h1 : ones ds) (hn : off + n ≤ cs.length) {u : Tok} (hy : toks[y]? = some u) {s : Tok} (hx : toks[x]? = some s) (hB : (prodB toks i x && (u.cons == some i)) = true)
    (hw : Region.wanted o (yielded ops a.tmps) = true) (hu : u.at_ (upd val i (gq undef)) = pts b e cs) (hu' : u.at_ val = pts b e cs) (hs : s.at_ (upd val i (gq undef)) = pts b e (splice cs off ds))
    (h : Walk P ops toks C Q (i + 1) rest ss (upd val i (gq undef)) a) : Walk P ops toks C Q i (o :: rest) (ospU :: ss) val a := by
  refine walk_v hw ⟨_, rfl⟩ (fun w hI => ?_) (by rintro g rfl; unfold Act.put; rw [hd]; exact h)
  have hc : (u.cons == some i) = true := (Bool.and_eq_true _ _ ▸ hB).2
  have hp' := ins_get hI y hy (by rw [hc]; simp)
  rw [hu'] at hp'
  refine Loud.storen ho hp hq hT hv hl (pts.there hp' off n hn) h1 ⟨gq undef, rfl, rfl, outs_set y hy x hx hB ?_ ?_ ?_⟩
  · rw [hu]; exact kp_setCells w b off ds _ rfl
  · rw [hs]; exact pts_setCells hp' off ds
  · rw [hs, hu]; exact fun k hk => .inl hk
/-- A call that only makes memory, and comes to a value that is known. -/
theorem walk_pure {v : Value} {d : Tmp} (hB : (toks.all fun t => t.prod != some i) = true) (hd : o.dst = some d) (hlt : Nat.ble (d + 1) a.tmps.size = true) (hw : Region.wanted o (yielded ops a.tmps) = true)
    (hcall : ∀ w, Ins C toks i val w → ∀ (K : Act → World → Prop) (Q : Exit → Act → World → Prop), (∀ w', Below w.heap.size w w' → K (a.put o.dst v) w') → o.wp P a w K Q)
    (h : Walk P ops toks C Q (i + 1) rest ss (upd val i (gq v)) (a.put o.dst v)) : Walk P ops toks C Q i (o :: rest) (ospV v :: ss) val a :=
  walk_v hw ⟨_, rfl⟩ (fun w hI => Loud.of_wp hd (Nat.le_of_ble_eq_true hlt) fun K Q' hK => hcall w hI K Q' fun w' hb => hK _ _ ⟨gq v, rfl, rfl, outs_quiet hB hb⟩) (by rintro g rfl; exact h)
/-- A slice literal. -/
theorem walk_bslice {t e : TypeId} {sz bytes : Nat} (hE : ElemOk P t e sz bytes) {len : Nat} {parts : Array (Nat × Operand)} {d : Tmp} (x : Nat) (vs : List Value) (ho : o.op = .buildSlice t len parts) (hd : o.dst = some d) (hlt : Nat.ble (d + 1) a.tmps.size = true)
    (hp : parts.toList.map (fun x => (x.1, a.eval x.2)) = (vs.zipIdx 0).map fun x => (x.2, x.1)) (hsz : ∀ v ∈ vs, v.cells.size = sz) (hlen : len = vs.length) (hpos : 0 < len) (hm : len * sz ≤ 16777216)
    {tk : Tok} (hx : toks[x]? = some tk) (hB : (prodB toks i x && freeB toks i) = true) (hw : Region.wanted o (yielded ops a.tmps) = true) (ht : ∀ b, tk.at_ (upd val i (gq (.slice (some ⟨b, 0, none⟩) len len))) = pts b e (flatC vs))
    (h : ∀ b, Walk P ops toks C Q (i + 1) rest ss (upd val i (gq (.slice (some ⟨b, 0, none⟩) len len))) (a.put o.dst (.slice (some ⟨b, 0, none⟩) len len))) :
    Walk P ops toks C Q i (o :: rest) (ospB len :: ss) val a := by
  refine walk_v hw ⟨_, 0, rfl⟩ (fun w _ => Loud.of_wp hd (Nat.le_of_ble_eq_true hlt) fun K Q' hK => wp_bslice hE vs ho hp hsz hlen hpos hm fun b w' h1 h2 h3 => hK _ _ ⟨gq _, rfl, ⟨b, rfl⟩, outs_new x hx hB h1 (by rw [ht]; exact h3) fun k hk => ?_⟩) (by rintro g ⟨b, rfl⟩; exact h b)
  rw [ht] at hk
  rw [hk]; exact h2
/-- A box. -/
theorem walk_box {e : TypeId} {p : Operand} {v : Value} {cs : List Value} {d : Tmp} (x : Nat) (ho : o.op = .box e p) (hd : o.dst = some d) (hlt : Nat.ble (d + 1) a.tmps.size = true) (hp : a.eval p = v) (hv : v.cells = cs.toArray)
    {tk : Tok} (hx : toks[x]? = some tk) (hB : (prodB toks i x && freeB toks i) = true) (hw : Region.wanted o (yielded ops a.tmps) = true) (ht : ∀ b, tk.at_ (upd val i (gq (ptr b 0))) = pts b e cs)
    (h : ∀ b, Walk P ops toks C Q (i + 1) rest ss (upd val i (gq (ptr b 0))) (a.put o.dst (ptr b 0))) : Walk P ops toks C Q i (o :: rest) (ospP :: ss) val a := by
  refine walk_v hw ⟨_, 0, rfl⟩ (fun w _ => Loud.of_wp hd (Nat.le_of_ble_eq_true hlt) fun K Q' hK => wp_box ho hp hv fun b w' h1 h2 h3 => hK _ _ ⟨gq (ptr b 0), rfl, ⟨b, rfl⟩, outs_new x hx hB h1 (by rw [ht]; exact h3) fun k hk => ?_⟩) (by rintro g ⟨b, rfl⟩; exact h b)
  rw [ht] at hk
  rw [hk]; exact h2
/-- APPEND: to piece y, a row, which becomes piece x. -/
theorem walk_app {t e : TypeId} {sz bytes : Nat} (hE : ElemOk P t e sz bytes) {p q : Operand} {d : Tmp} (y x : Nat) {v xv : Value} {n m : Nat} {xs news : List Value} (ho : o.op = .call { callee := .builtin .append, args := #[p, q], argTypes := #[t, t] }) (hd : o.dst = some d) (hlt : Nat.ble (d + 1) a.tmps.size = true)
    (hp : a.eval p = v) (hq : a.eval q = xv) (hsrc : ∀ w, Ins C toks i val w → Sl w sz xv m news) (h1 : ones news) (hb : (n + m) * bytes ≤ 140737488355328) {u s : Tok} (hy : toks[y]? = some u) (hx : toks[x]? = some s) (hB : (prodB toks i x && (u.cons == some i)) = true)
    (hw : Region.wanted o (yielded ops a.tmps) = true) (hu : u.at_ val = rowA e sz v n xs) (hu' : ∀ g, u.at_ (upd val i g) = rowA e sz v n xs) (hs : ∀ v', s.at_ (upd val i (gq v')) = rowA e sz v' (n + m) (xs ++ news)) {k : Nat} (hk : n + m = k)
    (h : ∀ ao c, Walk P ops toks C Q (i + 1) rest ss (upd val i (gq (.slice ao k c))) (a.put o.dst (.slice ao k c))) : Walk P ops toks C Q i (o :: rest) (ospS k :: ss) val a := by
  subst hk
  refine walk_v hw ⟨_, none, 0, rfl⟩ (fun w hI => ?_) (by rintro g ⟨ao, c, rfl⟩; exact h ao c)
  have hc : (u.cons == some i) = true := (Bool.and_eq_true _ _ ▸ hB).2
  have hp' := ins_get hI y hy (by rw [hc]; simp)
  rw [hu] at hp'
  refine Loud.of_wp hd (Nat.le_of_ble_eq_true hlt) fun K Q' hK => wp_appR hE ho hp hp' hq (hsrc w hI) h1 hb fun v' w' h2 h3 h4 => hK _ _ ⟨gq v', rfl, by obtain ⟨ao, c, rfl⟩ := rowA.form h2; exact ⟨ao, c, rfl⟩, outs_set y hy x hx hB ?_ ?_ ?_⟩
  · rw [hu']; exact h3
  · rw [hs]; exact h2
  · rw [hs, hu']; exact h4
end
end Go.Proofs.YtbenjjaofabdcaaGreatDoor
