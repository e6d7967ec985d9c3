/-
  Slices: what is read (Sl), what is owned (the kit's ownsRow), append as one law for whatever source; bytes and hashes as values.
-/
import Derived.Test.YtbenjjaofabdcaaGreatDoorBase
import Derived.Deep.MidRow
import Derived.Deep.AppendSrc
namespace Go.Proofs.YtbenjjaofabdcaaGreatDoor
open Go Go.RowKit

/-- v reads as n elements of sz cells each, cs in all. -/
def Sl (w : World) (sz : Nat) (v : Value) (n : Nat) (cs : List Value) : Prop :=
  (v = .slice none 0 0 ∧ n = 0 ∧ cs = []) ∨
  ∃ b o c, v = .slice (some ⟨b, o, none⟩) n c ∧ n ≤ c ∧ c ≤ maxLen ∧ cs.length = n * sz ∧ w.rangeAt b o cs

theorem Sl.nil (w : World) (sz : Nat) : Sl w sz (.slice none 0 0) 0 [] := .inl ⟨rfl, rfl, rfl⟩
theorem Sl.len {w : World} {sz n : Nat} {v : Value} {cs : List Value} (h : Sl w sz v n cs) : cs.length = n * sz := by
  rcases h with ⟨_, rfl, rfl⟩ | ⟨b, o, c, _, _, _, h, _⟩
  · simp
  · exact h
theorem rangeAt_move {w w' : World} {b o : Nat} {cs : List Value} (h : w.rangeAt b o cs) (hb : cs ≠ [] → w'.heap[b]? = w.heap[b]?) : w'.rangeAt b o cs := fun j v hv => by
  have := h j v hv
  rw [World.cell?_of_block (w := w) (hb (by rintro rfl; simp at hv))]
  exact this
theorem rangeAt_lt {w : World} {b o : Nat} {cs : List Value} (h : w.rangeAt b o cs) (hne : cs ≠ []) : b < w.heap.size := by
  cases cs with
  | nil => exact absurd rfl hne
  | cons v r => exact block_lt_of_cell (h 0 v (by simp))
/-- What is read stays, where its block does. -/
theorem Sl.move {w w' : World} {sz n : Nat} {v : Value} {cs : List Value} (h : Sl w sz v n cs) (hb : ∀ b, v.ownBlock = some b → b < w.heap.size → w'.heap[b]? = w.heap[b]?) : Sl w' sz v n cs := by
  rcases h with h | ⟨b, o, c, rfl, h1, h2, h3, h4⟩
  · exact .inl h
  · exact .inr ⟨b, o, c, rfl, h1, h2, h3, rangeAt_move h4 fun hne => hb b rfl (rangeAt_lt h4 hne)⟩
theorem Sl.below {w w' : World} {sz n : Nat} {v : Value} {cs : List Value} (h : Sl w sz v n cs) (hb : Below w.heap.size w w') : Sl w' sz v n cs := h.move fun b _ hlt => hb.block b hlt
theorem Sl.grown {w w' : World} {sz n : Nat} {v : Value} {cs : List Value} {row : Option Nat} (h : Sl w sz v n cs) (hb : w.grownBy w' row) (hne : ∀ b, v.ownBlock = some b → some b ≠ row) : Sl w' sz v n cs := h.move fun b he hlt => hb.block b hlt (hne b he)
theorem Sl.cell {w : World} {sz n c b o : Nat} {cs : List Value} (h : Sl w sz (.slice (some ⟨b, o, none⟩) n c) n cs) (j : Nat) (hj : j < cs.length) : w.cell? ⟨b, o + j, none⟩ = some cs[j] := by
  rcases h with ⟨h, _⟩ | ⟨b', o', c', he, _, _, _, h⟩
  · cases h
  · simp only [Value.slice.injEq, Option.some.injEq, Addr.mk.injEq] at he
    obtain ⟨⟨rfl, rfl, _⟩, _, rfl⟩ := he
    exact h j _ (by simp [hj])
/-- An owned row is read. -/
theorem Sl.of_own {w : World} {base sz n : Nat} {e : TypeId} {v : Value} {xs : List Value} (h : w.ownsRow base e sz v n xs) : Sl w sz v n xs := by
  obtain ⟨hl, ⟨rfl, rfl⟩ | ⟨g, cap, cur, rfl, hg, hb, hn, hm, hs, ht⟩⟩ := h
  · exact .inl ⟨rfl, rfl, by simpa using hl⟩
  · refine .inr ⟨g, 0, cap, rfl, hn, hm, hl, fun j u hu => ?_⟩
    have hj : j < n * sz := by rw [← hl]; exact (List.getElem?_eq_some_iff.1 hu).1
    rw [← ht, List.getElem?_take_of_lt hj] at hu
    simpa [World.cell?, hb] using hu

/-- An element type: the slice's number, the element's; its cells, its bytes. -/
structure ElemOk (P : Program) (t e : TypeId) (sz bytes : Nat) : Prop where
  slice : P.underlying t = some (.slice e)
  info : ∃ i z, P.info? e = some i ∧ i.zero = some z ∧ i.size = sz ∧ i.bytes = bytes ∧ z.cells.size = sz
  pos : 0 < sz
  posB : 0 < bytes
theorem elemOk_mk {P : Program} {t e : TypeId} {sz bytes : Nat} (h1 : P.underlying t = some (.slice e))
    (h2 : ((P.info? e).map fun i => (i.size == sz && i.bytes == bytes && (match i.zero with | some z => z.cells.size == sz | none => false))) = some true) (h3 : 0 < sz) (h4 : 0 < bytes) : ElemOk P t e sz bytes := by
  refine ⟨h1, ?_, h3, h4⟩
  cases hi : P.info? e with
  | none => rw [hi] at h2; cases h2
  | some i =>
    rw [hi] at h2
    simp only [Option.map_some, Option.some.injEq, Bool.and_eq_true, beq_iff_eq] at h2
    cases hz : i.zero with
    | none => rw [hz] at h2; simp at h2
    | some z => rw [hz] at h2; exact ⟨i, z, rfl, hz, h2.1.1, h2.1.2, by simpa using h2.2⟩

theorem grow_le (newLen : Nat) : ∀ (r c : Nat), 256 ≤ c → c < newLen → Builtin.growBy newLen r c ≤ 2 * newLen
  | 0, c, _, h => by unfold Builtin.growBy; omega
  | r + 1, c, h0, h => by
    unfold Builtin.growBy
    split
    · omega
    · by_cases h2 : c + (c + 768) / 4 < newLen
      · exact grow_le newLen r _ (by omega) h2
      · cases r with
        | zero => unfold Builtin.growBy; omega
        | succ r => unfold Builtin.growBy; rw [if_pos (by omega)]; omega
theorem next_le (newLen oldCap : Nat) (h : oldCap < newLen) : Builtin.nextslicecap newLen oldCap ≤ 2 * newLen := by
  unfold Builtin.nextslicecap
  split
  · omega
  · split
    · omega
    · exact grow_le _ _ _ (by omega) h
section
variable {P : Program}
/-- Where an append's row lies: where it lay, or in a new block. -/
theorem app_where {w w' : World} {t e ty : TypeId} {sz bytes : Nat} (hE : ElemOk P t e sz bytes) {base : Nat} {v v' : Value} {n : Nat} {xs : List Value} (hown : w.ownsRow base e sz v n xs)
    {b o c m : Nat} {news : List Value} (hl : news.length = m * sz) (hnews : w.rangeAt b o news) (h1 : ∀ u ∈ news, u.oneCell' = true) (hbytes : (n + m) * bytes ≤ 140737488355328)
    (hrun : (Builtin.append_ #[t, t] ty #[v, .slice (some ⟨b, o, none⟩) m c]).run P w = .ok v' w') : v'.ownBlock = v.ownBlock ∨ v'.ownBlock = some w.heap.size := by
  obtain ⟨i, z, hi, hz, hsz, hby, hzs⟩ := hE.info
  subst hsz; subst hby
  have hsrc : Src P i.size t (.slice (some ⟨b, o, none⟩) m c) m news w := Src.ofSlice w hE.slice ⟨b, o, none⟩ m c news hl (fun j u hu => by rw [Addr.add_mid]; exact hnews j u hu) h1
  have h63 : ((n + m : Nat) : Int) ≤ 9223372036854775807 := by
    have := Nat.le_mul_of_pos_right (n + m) hE.posB
    omega
  have hcap : ∀ old, old < n + m → Builtin.nextslicecap (n + m) old * i.bytes ≤ 281474976710656 := fun old ho => by
    have h2 : Builtin.nextslicecap (n + m) old ≤ 2 * (n + m) := next_le _ _ ho
    calc Builtin.nextslicecap (n + m) old * i.bytes ≤ 2 * (n + m) * i.bytes := Nat.mul_le_mul_right _ h2
      _ = 2 * ((n + m) * i.bytes) := by rw [Nat.mul_assoc]
      _ ≤ 281474976710656 := by omega
  obtain ⟨hxl, ⟨rfl, rfl⟩ | ⟨g, cap, cur, rfl, _, hg, hnc, _, hcs, htk⟩⟩ := hown
  · by_cases hm : m = 0
    · subst hm
      have : (Builtin.append_ #[t, t] ty #[.slice none 0 0, .slice (some ⟨b, o, none⟩) 0 c]).run P w = .ok (.slice none 0 0) w := by
        simp [Builtin.append_, run_underlying hE.slice, sizeOf, typeInfo, hi, Builtin.lenOf, Builtin.firstCells, loadCells, loadCellsFrom]
      rw [this] at hrun
      cases hrun
      exact .inl rfl
    · rw [run_append_grow_src w t t ty e i z hE.slice hi hz none 0 0 [] (by simp [Builtin.firstCells]) _ m news hsrc (by omega) (by simpa using h63) (by have := hcap 0 (by omega); simpa using this)] at hrun
      cases hrun
      exact .inr rfl
  · by_cases hroom : n + m ≤ cap
    · have hin : ∀ j, j < news.length → n * i.size + j < cur.size := fun j hj => by
        rw [hcs]
        have : n * i.size + m * i.size ≤ cap * i.size := by rw [← Nat.add_mul]; exact Nat.mul_le_mul_right _ hroom
        omega
      rw [run_append_room_src w t t ty e i hE.slice hi g 0 n cap _ m news hsrc hroom (fun j hj => by
        have := hin j hj
        simp [World.cell?, hg, this]) (fun j hj => by simp [World.frozen?, hg])] at hrun
      cases hrun
      exact .inl rfl
    · rw [run_append_grow_src w t t ty e i z hE.slice hi hz (some ⟨g, 0, none⟩) n cap xs ?_ _ m news hsrc (by omega) h63 (hcap cap (by omega))] at hrun
      · cases hrun
        exact .inr rfl
      · have := run_loadCells_list (P := P) w.drew ⟨g, 0, none⟩ xs (fun j u hu => by
          rw [Addr.add_mid, Nat.zero_add]
          have hj : j < n * i.size := by rw [← hxl]; exact (List.getElem?_eq_some_iff.1 hu).1
          rw [← htk, List.getElem?_take_of_lt hj] at hu
          have hg' : w.drew.heap[g]? = some (.cells cur e (0, 0)) := hg
          simpa [World.cell?, hg'] using hu)
        rw [hxl] at this
        exact this
/-- APPEND, to a row of our own, from whatever slice. -/
theorem wp_app {o : Oper} {a : Act} {w : World} {K : Act → World → Prop} {Q : Exit → Act → World → Prop} {t e : TypeId} {sz bytes : Nat} (hE : ElemOk P t e sz bytes) (s x : Operand)
    (ho : o.op = .call { callee := .builtin .append, args := #[s, x], argTypes := #[t, t] })
    {base : Nat} {v : Value} {n : Nat} {xs : List Value} (hs : a.eval s = v) (hown : w.ownsRow base e sz v n xs)
    {xv : Value} {m : Nat} {news : List Value} (hx : a.eval x = xv) (hsrc : Sl w sz xv m news) (h1 : ∀ u ∈ news, u.oneCell' = true)
    (hbytes : (n + m) * bytes ≤ 140737488355328) (hbase : base ≤ w.heap.size)
    (h : ∀ v' w', w'.ownsRow base e sz v' (n + m) (xs ++ news) → w.grownBy w' v.ownBlock → K (a.put o.dst v') w') : o.wp P a w K Q := by
  obtain ⟨i, z, hi, hz, hsz, hby, hzs⟩ := hE.info
  have h63 : n + m ≤ maxLen := by
    have := Nat.le_mul_of_pos_right (n + m) hE.posB
    unfold maxLen; omega
  rcases hsrc with ⟨rfl, rfl, rfl⟩ | ⟨b, o', c, rfl, hmc, hcm, hl, hr⟩
  · have hrun := run_append_owned_none (P := P) (w := w) base t o.type e i sz hE.slice hi v n xs hown
    unfold Oper.wp
    simp [execOp, ho, resolve, invoke, builtin, hs, hx, hrun, Result.andThen]
    exact h v w (by simpa using hown) ⟨rfl, rfl, rfl, Nat.le_refl _, fun _ _ _ => rfl⟩
  · refine wp_append_own w s x t ho base e i z sz bytes hE.slice hi hz hsz hby hzs hE.pos v n xs hs hown ⟨b, o', none⟩ m c news hx hl (fun j u hu => ?_) h1 h63 hbytes hbase fun v' w' h2 h3 _ => h v' w' h2 h3
    rw [Addr.add_mid]
    exact hr j u hu
theorem wp_app2 {o : Oper} {a : Act} {w : World} {K : Act → World → Prop} {Q : Exit → Act → World → Prop} {t e : TypeId} {sz bytes : Nat} (hE : ElemOk P t e sz bytes) (s x : Operand)
    (ho : o.op = .call { callee := .builtin .append, args := #[s, x], argTypes := #[t, t] })
    {base : Nat} {v : Value} {n : Nat} {xs : List Value} (hs : a.eval s = v) (hown : w.ownsRow base e sz v n xs)
    {xv : Value} {m : Nat} {news : List Value} (hx : a.eval x = xv) (hsrc : Sl w sz xv m news) (h1 : ∀ u ∈ news, u.oneCell' = true)
    (hbytes : (n + m) * bytes ≤ 140737488355328) (hbase : base ≤ w.heap.size)
    (h : ∀ v' w', w'.ownsRow base e sz v' (n + m) (xs ++ news) → w.grownBy w' v.ownBlock → (v'.ownBlock = v.ownBlock ∨ v'.ownBlock = some w.heap.size) → K (a.put o.dst v') w') : o.wp P a w K Q := by
  obtain ⟨i, z, hi, hz, hsz, hby, hzs⟩ := hE.info
  have h63 : n + m ≤ maxLen := by
    have := Nat.le_mul_of_pos_right (n + m) hE.posB
    unfold maxLen; omega
  rcases hsrc with ⟨rfl, rfl, rfl⟩ | ⟨b, o', c, rfl, hmc, hcm, hl, hr⟩
  · have hrun := run_append_owned_none (P := P) (w := w) base t o.type e i sz hE.slice hi v n xs hown
    unfold Oper.wp
    simp [execOp, ho, resolve, invoke, builtin, hs, hx, hrun, Result.andThen]
    exact h v w (by simpa using hown) ⟨rfl, rfl, rfl, Nat.le_refl _, fun _ _ _ => rfl⟩ (.inl rfl)
  · obtain ⟨v', w', hrun, h2, h3, _⟩ := run_append_own (P := P) w base t o.type e i z sz bytes hE.slice hi hz hsz hby hzs hE.pos v n xs hown ⟨b, o', none⟩ m c news hl (fun j u hu => by rw [Addr.add_mid]; exact hr j u hu) h1 h63 hbytes hbase
    have hw := app_where hE hown hl hr h1 hbytes hrun
    unfold Oper.wp execOp
    simp only [ho, resolve, invoke, builtin, Sem.run_bind, Sem.run_pure, Result.andThen_ok, List.map_toArray, List.map_cons, List.map_nil, hs, hx, hrun]
    exact h v' w' h2 h3 hw
theorem wpList_app {ops : Array Oper} {rest : List Oper} {o : Oper} {a : Act} {w : World} {Q : Exit → Act → World → Prop} {t e : TypeId} {sz bytes : Nat} (hE : ElemOk P t e sz bytes) (hgd : o.guard = none) (s x : Operand)
    (ho : o.op = .call { callee := .builtin .append, args := #[s, x], argTypes := #[t, t] })
    {base : Nat} {v : Value} {n : Nat} {xs : List Value} (hs : a.eval s = v) (hown : w.ownsRow base e sz v n xs)
    {xv : Value} {m : Nat} {news : List Value} (hx : a.eval x = xv) (hsrc : Sl w sz xv m news) (h1 : ∀ u ∈ news, u.oneCell' = true)
    (hbytes : (n + m) * bytes ≤ 140737488355328) (hbase : base ≤ w.heap.size)
    (h : ∀ v' w', w'.ownsRow base e sz v' (n + m) (xs ++ news) → w.grownBy w' v.ownBlock → wpList P ops Q rest (a.put o.dst v') w') : wpList P ops Q (o :: rest) a w :=
  wpList_plain hgd fun _ hK => wp_app hE s x ho hs hown hx hsrc h1 hbytes hbase fun v' w' h2 h3 => hK _ _ (h v' w' h2 h3)
end

/-! ### Bytes -/
def u8c (x : UInt8) : Value := .int .u8 x.toNat
def bcs (l : List UInt8) : List Value := l.map u8c
theorem bcs_append (a b : List UInt8) : bcs (a ++ b) = bcs a ++ bcs b := by simp [bcs]
theorem bcs_length (l : List UInt8) : (bcs l).length = l.length := by simp [bcs]
theorem bcs_one (l : List UInt8) : ∀ u ∈ bcs l, u.oneCell' = true := by
  intro u hu
  obtain ⟨x, _, rfl⟩ := List.mem_map.1 hu
  rfl
/-- A hash as a value. -/
def hv (h : List UInt8) : Value := .agg (bcs h).toArray
/-- v reads as these bytes. -/
def Bs (w : World) (v : Value) (l : List UInt8) : Prop := Sl w 1 v l.length (bcs l)
/-- v owns these bytes. -/
def OwnB (w : World) (base : Nat) (e : TypeId) (v : Value) (l : List UInt8) : Prop := w.ownsRow base e 1 v l.length (bcs l)
theorem OwnB.bs {w : World} {base : Nat} {e : TypeId} {v : Value} {l : List UInt8} (h : OwnB w base e v l) : Bs w v l := Sl.of_own h
theorem OwnB.nil (w : World) (base : Nat) (e : TypeId) : OwnB w base e (.slice none 0 0) [] := World.ownsRow_nil w base e 1
theorem OwnB.alloc {w : World} {base : Nat} {e : TypeId} {v : Value} {l : List UInt8} (h : OwnB w base e v l) (o : Obj) : OwnB (w.alloc o) base e v l := World.ownsRow.alloc h o
theorem OwnB.below {w w' : World} {base : Nat} {e : TypeId} {v : Value} {l : List UInt8} (h : OwnB w base e v l) (hb : Below w.heap.size w w') : OwnB w' base e v l := by
  refine World.ownsRow.kept h (grown_of_below hb none) ?_
  cases hv : v.ownBlock <;> simp
theorem Bs.below {w w' : World} {v : Value} {l : List UInt8} (h : Bs w v l) (hb : Below w.heap.size w w') : Bs w' v l := Sl.below h hb
theorem bs_lit (w : World) (t : TypeId) (x : UInt8) (v : Value) (h : v = u8c x) : Bs (w.alloc (.cells #[v] t)) (.slice (some ⟨w.heap.size, 0, none⟩) 1 1) [x] := by
  subst h
  refine .inr ⟨_, _, _, rfl, Nat.le_refl _, by unfold maxLen; omega, rfl, fun j u hu => ?_⟩
  have hj : j = 0 := by have := (List.getElem?_eq_some_iff.1 hu).1; simp [bcs] at this; omega
  subst hj
  simp [bcs] at hu
  subst hu
  show (w.alloc (.cells #[u8c x] t)).cell? ⟨w.heap.size, 0, none⟩ = _
  unfold World.cell?
  rw [show (w.alloc (.cells #[u8c x] t)).heap[(⟨w.heap.size, 0, none⟩ : Addr).block]? = some (.cells #[u8c x] t) from heap_alloc_new w _]
  rfl
section
variable {P : Program}
theorem wp_appB {o : Oper} {a : Act} {w : World} {K : Act → World → Prop} {Q : Exit → Act → World → Prop} {t e : TypeId} (hE : ElemOk P t e 1 1) (s x : Operand)
    (ho : o.op = .call { callee := .builtin .append, args := #[s, x], argTypes := #[t, t] })
    {base : Nat} {v : Value} {xs : List UInt8} (hs : a.eval s = v) (hown : OwnB w base e v xs)
    {xv : Value} {news : List UInt8} (hx : a.eval x = xv) (hsrc : Bs w xv news) (hbytes : xs.length + news.length ≤ 140737488355328) (hbase : base ≤ w.heap.size)
    (h : ∀ v' w', OwnB w' base e v' (xs ++ news) → w.grownBy w' v.ownBlock → K (a.put o.dst v') w') : o.wp P a w K Q :=
  wp_app hE s x ho hs hown hx hsrc (bcs_one _) (by omega) hbase fun v' w' h1 h2 => h v' w' (by unfold OwnB; rw [bcs_append, List.length_append]; exact h1) h2
theorem wpList_appB {ops : Array Oper} {rest : List Oper} {o : Oper} {a : Act} {w : World} {Q : Exit → Act → World → Prop} {t e : TypeId} (hE : ElemOk P t e 1 1) (hgd : o.guard = none) (s x : Operand)
    (ho : o.op = .call { callee := .builtin .append, args := #[s, x], argTypes := #[t, t] })
    {base : Nat} {v : Value} {xs : List UInt8} (hs : a.eval s = v) (hown : OwnB w base e v xs)
    {xv : Value} {news : List UInt8} (hx : a.eval x = xv) (hsrc : Bs w xv news) (hbytes : xs.length + news.length ≤ 140737488355328) (hbase : base ≤ w.heap.size)
    (h : ∀ v' w', OwnB w' base e v' (xs ++ news) → w.grownBy w' v.ownBlock → wpList P ops Q rest (a.put o.dst v') w') : wpList P ops Q (o :: rest) a w :=
  wpList_plain hgd fun _ hK => wp_appB hE s x ho hs hown hx hsrc hbytes hbase fun v' w' h2 h3 => hK _ _ (h v' w' h2 h3)
end
/-- What is owned lies beyond its base. -/
theorem own_base {w : World} {base sz n : Nat} {e : TypeId} {v : Value} {xs : List Value} (h : w.ownsRow base e sz v n xs) : ∀ k, v.ownBlock = some k → base ≤ k ∧ k < w.heap.size := h.lt
theorem OwnB.base {w : World} {base : Nat} {e : TypeId} {v : Value} {l : List UInt8} (h : OwnB w base e v l) : ∀ k, v.ownBlock = some k → base ≤ k := fun k hk => (own_base h k hk).1
theorem OwnB.form {w : World} {base : Nat} {e : TypeId} {v : Value} {l : List UInt8} (h : OwnB w base e v l) : ∃ ao c, v = .slice ao l.length c := by
  obtain ⟨_, ⟨rfl, hn⟩ | ⟨g, cap, cur, rfl, _⟩⟩ := h
  · exact ⟨none, 0, by rw [hn]⟩
  · exact ⟨_, cap, rfl⟩
theorem u8c_mod (n : Nat) : Value.int .u8 ((n : Int) % 256) = u8c (UInt8.ofNat (n % 256)) := by
  unfold u8c
  congr 1 <;> simp
theorem u8c_ofNat (n : Nat) : u8c (UInt8.ofNat n) = .int .u8 ((n : Int) % 256) := by
  unfold u8c
  congr 1 <;> simp
theorem OwnB.solid {w : World} {base : Nat} {e : TypeId} {v : Value} {l : List UInt8} (h : OwnB w base e v l) (hp : 0 < l.length) : ∃ g c, v = .slice (some ⟨g, 0, none⟩) l.length c ∧ base ≤ g ∧ g < w.heap.size ∧ l.length ≤ c ∧ c ≤ maxLen := by
  have hlt := World.ownsRow.lt h
  obtain ⟨_, ⟨rfl, hn⟩ | ⟨g, cap, cur, rfl, h1, _, h3, h4, _⟩⟩ := h
  · omega
  · exact ⟨g, cap, rfl, h1, (hlt g rfl).2, h3, h4⟩
theorem OwnB.at_ {w : World} {base g n c : Nat} {e : TypeId} {l : List UInt8} (h : OwnB w base e (.slice (some ⟨g, 0, none⟩) n c) l) (i : Nat) (hi : i < l.length) : w.cell? ⟨g, i, none⟩ = some (u8c l[i]) := by
  have h1 := h.bs
  obtain ⟨_, ⟨h2, _⟩ | ⟨g', cap, cur, h2, _⟩⟩ := h
  · cases h2
  · simp only [Value.slice.injEq] at h2
    obtain ⟨_, rfl, _⟩ := h2
    have := Sl.cell h1 i (by simpa [bcs] using hi)
    simpa [bcs] using this
theorem OwnB.keep {w w' : World} {row : Option Nat} {base : Nat} {e : TypeId} {v : Value} {l : List UInt8} (h : OwnB w base e v l) (hg : w.grownBy w' row) (hne : ∀ k, v.ownBlock = some k → some k ≠ row) : OwnB w' base e v l := by
  refine World.ownsRow.kept h hg ?_
  cases hv : v.ownBlock with
  | none => exact .inl rfl
  | some k => exact .inr (hne k hv)
theorem results_cell_mid {P : Program} {fn : Func} {p : Tmp} {ty : TypeId} (h : fn.results = #[.cell p ty]) (tmps : Array Value) (w : World) (b o : Nat) (cs : List Value) (d : TypeDesc)
    (hp : tmps.getD p undef = .pointer (some ⟨b, o, none⟩)) (hr : w.rangeAt b o cs) (hu : P.underlying ty = some d) (hd : d.isRow = true) (hi : (P.info? ty).map (·.size) = some cs.length) :
    (results fn tmps).run P w = .ok (.agg cs.toArray) w := by
  have hp' : tmps[p]?.getD undef = .pointer (some ⟨b, o, none⟩) := by simpa using hp
  simp [results, h, hp', asAddr, run_loadVar_mid w b o ty cs d hr hu hd hi]
theorem ArrAt.rangeAt {w : World} {b n : Nat} {t : TypeId} {f : Nat → Value} (h : ArrAt w b t n f) : w.rangeAt b 0 ((List.range n).map f) := fun j v hv => by
  have hj : j < n := by have := (List.getElem?_eq_some_iff.1 hv).1; simpa using this
  simp [hj] at hv
  subst hv
  rw [Nat.zero_add]
  exact h.cell j hj
theorem ArrAt.there {w : World} {b n : Nat} {t : TypeId} {f : Nat → Value} (h : ArrAt w b t n f) : w.there b 0 n := fun j hj => by
  rw [Nat.zero_add]
  exact ⟨by rw [h.cell j hj]; rfl, h.free j⟩
theorem below_setCells {B b : Nat} {a w : World} (h : Below B a w) (hb : B ≤ b) (o : Nat) (vs : List Value) : Below B a (w.setCells b o vs) := by
  induction vs generalizing o w with
  | nil => exact h
  | cons v r ih => exact ih (h.setCell hb v) (o + 1)
theorem bcs_all (l : List UInt8) : ((bcs l).toArray.all (·.oneCell')) = true := all_oneCell_toArray (bcs_one l)
end Go.Proofs.YtbenjjaofabdcaaGreatDoor
