/-
  digest.Of, with a tape and without; what the tables hold.
-/
import Derived.Test.YtbenjjaofabdcaaGreatDoorWire
import Derived.Great.BuildSlice
namespace Go.Proofs.YtbenjjaofabdcaaGreatDoor
open Go Go.RowKit

/-- A mark: the variable at block g holds a slice that reads as one byte; all of it below E. -/
structure MarkAt (w : World) (E g : Nat) (x : UInt8) : Prop where
  ex : ∃ v, w.cell? ⟨g, 0, none⟩ = some v ∧ Bs w v [x] ∧ ∀ k, v.ownBlock = some k → k < E
  lt : g < E
/-- What the tables hold, all of it below E; and the mark of digests. -/
structure EnvS (w : World) (E : Nat) : Prop where
  sha : ShaEnv w
  le : E ≤ w.heap.size
  rounds : 1 < E
  start : 0 < E
  none_ : MarkAt w E 5 4
structure EnvAt (w : World) (E : Nat) : Prop extends EnvS w E where
  digest : MarkAt w E 3 5
theorem MarkAt.keep {w w' : World} {E g : Nat} {x : UInt8} (h : MarkAt w E g x) (hb : ∀ k, k < E → w'.heap[k]? = w.heap[k]?) : MarkAt w' E g x := by
  obtain ⟨v, h1, h2, h3⟩ := h.ex
  exact ⟨⟨v, (World.cell?_of_block (hb g h.lt)).trans h1, h2.move fun b hv _ => hb b (h3 b hv), h3⟩, h.lt⟩
theorem EnvS.keep {w w' : World} {E : Nat} (h : EnvS w E) (hs : w.heap.size ≤ w'.heap.size) (hb : ∀ k, k < E → w'.heap[k]? = w.heap[k]?) : EnvS w' E :=
  ⟨⟨fun i hi => (World.cell?_of_block (hb _ h.rounds)).trans (h.sha.rounds i hi), fun i hi => (World.cell?_of_block (hb _ h.start)).trans (h.sha.start i hi)⟩, Nat.le_trans h.le hs, h.rounds, h.start, h.none_.keep hb⟩
theorem EnvS.below {w w' : World} {E B : Nat} (h : EnvS w E) (hb : Below B w w') (hE : E ≤ B) : EnvS w' E := h.keep hb.size fun k hk => hb.block k (by omega)
theorem EnvS.kp {S : Nat → Prop} {w w' : World} {E : Nat} (h : EnvS w E) (hb : Kp S w w') (hE : ∀ k, S k → E ≤ k) : EnvS w' E := h.keep hb.size fun k hk => hb.block k (by have := h.le; omega) fun hs => by have := hE k hs; omega
theorem EnvAt.keep {w w' : World} {E : Nat} (h : EnvAt w E) (hs : w.heap.size ≤ w'.heap.size) (hb : ∀ k, k < E → w'.heap[k]? = w.heap[k]?) : EnvAt w' E := ⟨h.toEnvS.keep hs hb, h.digest.keep hb⟩
theorem EnvAt.below {w w' : World} {E B : Nat} (h : EnvAt w E) (hb : Below B w w') (hE : E ≤ B) : EnvAt w' E := h.keep hb.size fun k hk => hb.block k (by omega)
theorem EnvAt.kp {S : Nat → Prop} {w w' : World} {E : Nat} (h : EnvAt w E) (hb : Kp S w w') (hE : ∀ k, S k → E ≤ k) : EnvAt w' E := h.keep hb.size fun k hk => hb.block k (by have := h.le; omega) fun hs => by have := hE k hs; omega

/-- A tape, or none. -/
def Tp (w : World) (F : Nat → Prop) (t : Value) (bl : List (List UInt8)) : Prop := t = .pointer none ∨ ∃ bt, t = .pointer (some ⟨bt, 0, none⟩) ∧ TapeAt w F bt bl
theorem TapeAt.keep {w w' : World} {F : Nat → Prop} {bt : Nat} {bl : List (List UInt8)} (h : TapeAt w F bt bl) (hs : w.heap.size ≤ w'.heap.size) (hb : ∀ k, F k → w'.heap[k]? = w.heap[k]?) : TapeAt w' F bt bl := by
  obtain ⟨vl, hs', h1, h2, h3, h4⟩ := h.ex
  refine ⟨fun k hk => Nat.lt_of_lt_of_le (h.mem k hk) hs, h.self, vl, hs', (hb bt h.self).trans h1, ?_, h3, fun i a l h5 h6 => ⟨(h4 i a l h5 h6).1.move fun b hv _ => hb b ((h4 i a l h5 h6).2 b hv).1, (h4 i a l h5 h6).2⟩⟩
  obtain ⟨hl, h5 | ⟨g, cap, cur, h5, h6, h7, h8⟩⟩ := h2
  · exact ⟨hl, .inl h5⟩
  · exact ⟨hl, .inr ⟨g, cap, cur, h5, h6, (hb g (h3 g (by rw [h5]; rfl)).1).trans h7, h8⟩⟩
theorem Tp.keep {w w' : World} {F : Nat → Prop} {t : Value} {bl : List (List UInt8)} (h : Tp w F t bl) (hs : w.heap.size ≤ w'.heap.size) (hb : ∀ k, F k → w'.heap[k]? = w.heap[k]?) : Tp w' F t bl := by
  rcases h with h | ⟨bt, h1, h2⟩
  · exact .inl h
  · exact .inr ⟨bt, h1, h2.keep hs hb⟩
/-- What F may have become. -/
def Fw (F F' : Nat → Prop) (n : Nat) : Prop := ∀ k, F' k → F k ∨ n ≤ k
theorem of_any (w : World) (E : Nat) (F : Nat → Prop) (t : Value) (bl : List (List UInt8)) (hT : Tp w F t bl) (hF : ∀ k, F k → E ≤ k) (hbl : bl.length ≤ 1099511627776) (v : Value) (ps : List (List UInt8)) (hE : EnvS w E) (hp : Parts w v ps)
    (hlen : ps.flatten.length ≤ 1099511627776) (hn : ps.length ≤ 1099511627776) :
    Calls Tryz.prog 11 #[t, v] w fun e w' => e = .returned (hv (sha ps.flatten)) ∧ Kp F w w' ∧ ∃ F', Tp w' F' t (bl ++ [ps.flatten]) ∧ Fw F F' w.heap.size ∧ ∀ k, F k → F' k := by
  rcases hT with rfl | ⟨bt, rfl, h⟩
  · exact (of_nil w v ps hE.sha hp hlen hn).mono fun e w' ⟨h1, h2⟩ => ⟨h1, Kp.of_below h2, F, .inl rfl, fun k hk => .inl hk, fun k hk => hk⟩
  · exact (of_tape w F bt bl h ⟨fun h1 => by have := hF _ h1; have := hE.rounds; omega, fun h1 => by have := hF _ h1; have := hE.start; omega⟩ hbl v ps hE.sha hp hlen hn).mono
      fun e w' ⟨h1, h2, h3⟩ => ⟨h1, h2, _, .inr ⟨bt, rfl, h3⟩, fun k hk => hk.elim .inl fun hk => .inr hk.1, fun k hk => .inl hk⟩

theorem alloc4 (w : World) (o1 o2 o3 o4 : Obj) : Below w.heap.size w ((((w.alloc o1).alloc o2).alloc o3).alloc o4) ∧ ((((w.alloc o1).alloc o2).alloc o3).alloc o4).heap.size = w.heap.size + 4 ∧
    ((((w.alloc o1).alloc o2).alloc o3).alloc o4).heap[w.heap.size]? = some o1 ∧ ((((w.alloc o1).alloc o2).alloc o3).alloc o4).heap[w.heap.size + 1]? = some o2 ∧
    ((((w.alloc o1).alloc o2).alloc o3).alloc o4).heap[w.heap.size + 1 + 1]? = some o3 ∧ ((((w.alloc o1).alloc o2).alloc o3).alloc o4).heap[w.heap.size + 1 + 1 + 1]? = some o4 := by
  have s1 : (w.alloc o1).heap.size = w.heap.size + 1 := by simp
  have s2 : ((w.alloc o1).alloc o2).heap.size = w.heap.size + 1 + 1 := by simp
  have s3 : (((w.alloc o1).alloc o2).alloc o3).heap.size = w.heap.size + 1 + 1 + 1 := by simp
  have s4 : ((((w.alloc o1).alloc o2).alloc o3).alloc o4).heap.size = w.heap.size + 4 := by simp
  have n1 : (w.alloc o1).heap[w.heap.size]? = some o1 := heap_alloc_new w o1
  have n2 : ((w.alloc o1).alloc o2).heap[w.heap.size + 1]? = some o2 := by rw [← s1]; exact heap_alloc_new _ o2
  have n3 : (((w.alloc o1).alloc o2).alloc o3).heap[w.heap.size + 1 + 1]? = some o3 := by rw [← s2]; exact heap_alloc_new _ o3
  have n4 : ((((w.alloc o1).alloc o2).alloc o3).alloc o4).heap[w.heap.size + 1 + 1 + 1]? = some o4 := by rw [← s3]; exact heap_alloc_new _ o4
  have p2 : ((w.alloc o1).alloc o2).heap[w.heap.size]? = some o1 := (heap_alloc_old _ _ (by omega)).trans n1
  have p3 : (((w.alloc o1).alloc o2).alloc o3).heap[w.heap.size + 1]? = some o2 := (heap_alloc_old _ _ (by omega)).trans n2
  exact ⟨((((Below.refl _ _).alloc (Nat.le_refl _) _).alloc (by omega) _).alloc (by omega) _).alloc (by omega) _, s4,
    (heap_alloc_old _ _ (by omega)).trans ((heap_alloc_old _ _ (by omega)).trans p2), (heap_alloc_old _ _ (by omega)).trans p3, (heap_alloc_old _ _ (by omega)).trans n3, n4⟩
theorem hat_of {w : World} {g : Nat} {t : TypeId} {x : List UInt8} (h : w.heap[g]? = some (.cells (bcs x).toArray t (0, 0))) (hx : x.length = 32) : HAt w g x := ⟨hx, fun j v hv => by
  rw [Nat.zero_add]
  unfold World.cell?
  simp only []
  rw [h]
  simpa using hv⟩
theorem WAt.below {w w' : World} {bw : Nat} {l : List UInt8} (h : WAt w bw l) (hb : Below w.heap.size w w') : WAt w' bw l := by
  obtain ⟨vb, h1, h2⟩ := h.ex
  exact ⟨vb, (hb.block bw (Array.getElem?_eq_some_iff.1 h1).1).trans h1, h2.below hb⟩
theorem WAt.dr {w : World} {bw : Nat} {l : List UInt8} (h : WAt w bw l) : WAt { w with drawn := w.drawn + 1 } bw l := ⟨h.ex⟩
theorem WAt.lt {w : World} {bw : Nat} {l : List UInt8} (h : WAt w bw l) : bw < w.heap.size := by
  obtain ⟨vb, h1, _⟩ := h.ex
  exact (Array.getElem?_eq_some_iff.1 h1).1
theorem WAt.fp {w : World} {bw : Nat} {l : List UInt8} (h : WAt w bw l) (k : Nat) (hk : WFp w bw k) : bw ≤ k ∧ k < w.heap.size := by
  obtain ⟨vb, h1, h2⟩ := h.ex
  rcases hk with rfl | ⟨vb', h3, h4⟩
  · exact ⟨Nat.le_refl _, h.lt⟩
  · rw [h1] at h3
    simp at h3
    subst h3
    have := own_base h2 k h4
    exact ⟨by omega, this.2⟩
/-- A slice out of a writer's reach. -/
def SlF (w : World) (bw sz : Nat) (v : Value) (n : Nat) (cs : List Value) : Prop := Sl w sz v n cs ∧ ∀ k, v.ownBlock = some k → ¬ WFp w bw k ∧ k < w.heap.size
theorem SlF.rw {w w' : World} {bw sz n : Nat} {v : Value} {cs : List Value} (h : SlF w bw sz v n cs) (hR : Rw bw w w') : SlF w' bw sz v n cs :=
  ⟨h.1.move fun b hb hlt => hR.keep.block b hlt (h.2 b hb).1, fun k hk => ⟨fun hf => (hR.new k hf).elim (h.2 k hk).1 fun hs => by have := (h.2 k hk).2; omega, Nat.lt_of_lt_of_le (h.2 k hk).2 hR.keep.size⟩⟩
theorem sl_new (w : World) (t : TypeId) (sz n : Nat) (cs : Array Value) (hn : cs.size = n * sz) (hm : n ≤ maxLen) : Sl (w.alloc (.cells cs t)) sz (.slice (some ⟨w.heap.size, 0, none⟩) n n) n cs.toList :=
  .inr ⟨_, _, _, rfl, Nat.le_refl _, hm, by simpa using hn, fun j v hv => by
    have h1 : (w.alloc (.cells cs t)).heap[w.heap.size]? = some (.cells cs t (0, 0)) := heap_alloc_new w _
    unfold World.cell?
    simp only [Nat.zero_add]
    rw [h1]
    simpa using hv⟩
theorem slF_new {w : World} {bw : Nat} {l : List UInt8} (h : WAt w bw l) (t : TypeId) (sz n : Nat) (cs : Array Value) (hn : cs.size = n * sz) (hm : n ≤ maxLen) : SlF (w.alloc (.cells cs t)) bw sz (.slice (some ⟨w.heap.size, 0, none⟩) n n) n cs.toList :=
  ⟨sl_new w t sz n cs hn hm, fun k hk => by
    have h1 : WAt (w.alloc (.cells cs t)) bw l := h.below ((Below.refl _ _).alloc (Nat.le_refl _) _)
    cases hk
    refine ⟨fun hf => ?_, by simp⟩
    have h2 : WFp w bw w.heap.size := by
      have h3 := ((Below.refl w.heap.size w).alloc (Nat.le_refl _) (.cells cs t)).block bw h.lt
      unfold WFp at *
      rw [h3] at hf
      exact hf
    have := (h.fp _ h2).2
    omega⟩
theorem elem_hash : ElemOk Tryz.prog 22 30 32 32 := elemOk_mk (by kernel_rfl) (by kernel_rfl) (by decide) (by decide)
theorem hcs_length (hs : List (List UInt8)) (h32 : ∀ h ∈ hs, h.length = 32) : (hcs hs).length = hs.length * 32 := by
  induction hs with
  | nil => rfl
  | cons h r ih =>
    have := ih fun x hx => h32 x (by simp [hx])
    unfold hcs at *
    rw [List.flatMap_cons, List.length_append, this, bcs_length, h32 h (by simp), List.length_cons]
    omega
set_option maxRecDepth 100000 in
/-- A literal of hashes. -/
theorem wp_buildH {o : Oper} {a : Act} {w : World} {K : Act → World → Prop} {Q : Exit → Act → World → Prop} (len : Nat) (parts : Array (Nat × Operand)) (ho : o.op = .buildSlice 22 len parts)
    (hs : List (List UInt8)) (h32 : ∀ h ∈ hs, h.length = 32) (hlen : len = hs.length) (hpos : 0 < len) (hm : len ≤ 1000)
    (hp : parts.toList.map (fun (i, x) => (i, a.eval x)) = ((hs.map hv).zipIdx 0).map fun x => (x.2, x.1))
    (h : K (a.put o.dst (.slice (some ⟨w.heap.size, 0, none⟩) len len)) (w.alloc (.cells (hcs hs).toArray 30))) : o.wp Tryz.prog a w K Q := by
  obtain ⟨i, z, hi, hz, hsz, _, hzs⟩ := elem_hash.info
  refine wp_buildSlice _ _ len parts ho _ i z elem_hash.slice hi hz (by rw [hsz]; omega) (by rw [hsz]; omega) ?_ h
  rw [Array.toList_map, hp, hsz]
  have h1 := Great.fill_whole (s := 32) (by decide) (hs.map hv) ((Array.range (len * 32)).map (z.cells[· % z.cells.size]!)) (fun v hv' => by
    obtain ⟨x, hx, rfl⟩ := List.mem_map.1 hv'
    show (bcs x).toArray.size = 32
    have := h32 x hx
    simpa [bcs] using this) (by simp [hlen])
  rw [h1]
  congr 2
  rw [List.flatMap_map]
  rfl
theorem ret_hash' {fn : Func} {R : Ending → World → Prop} {a : Act} {w : World} {p : Tmp} {g : Nat} {x : List UInt8} (h : fn.results = #[.cell p 30]) (hp : a.tmps.getD p undef = .pointer (some ⟨g, 0, none⟩))
    (ht : HAt w g x) (hd : a.defers = []) (hR : R (.returned (hv x)) w) : bodyPost Tryz.prog fn R .ret a w :=
  bodyPost_ret (results_cell_mid h _ _ g 0 (bcs x) _ hp ht.range Tryz.underlying30 rfl (hsize x ht.len)) hd hR
theorem keepC {S : Nat → Prop} {E g : Nat} {mv : Value} {w3 w1 w2 : World} (h : Kp S w3 w1 ∧ EnvAt w1 E ∧ w1.cell? ⟨g, 0, none⟩ = some mv) (hb : Below w1.heap.size w1 w2) : Kp S w3 w2 ∧ EnvAt w2 E ∧ w2.cell? ⟨g, 0, none⟩ = some mv :=
  ⟨h.1.trans (Kp.of_below hb), h.2.1.below hb h.2.1.le, (hb.cell (block_lt_of_cell h.2.2)).trans h.2.2⟩
theorem Tp.below {w w' : World} {F : Nat → Prop} {t : Value} {bl : List (List UInt8)} (h : Tp w F t bl) (hb : Below w.heap.size w w') : Tp w' F t bl := by
  rcases h with h | ⟨bt, h1, h2⟩
  · exact .inl h
  · exact .inr ⟨bt, h1, h2.keep hb.size fun k hk => hb.block k (h2.mem k hk)⟩
theorem parts_two (w : World) (t : TypeId) (v1 v2 : Value) (l1 l2 : List UInt8) (h1 : Bs w v1 l1) (h2 : Bs w v2 l2) : Parts (w.alloc (.cells #[v1, v2] t)) (.slice (some ⟨w.heap.size, 0, none⟩) 2 2) [l1, l2] := by
  have hb : Below w.heap.size w (w.alloc (.cells #[v1, v2] t)) := (Below.refl _ _).alloc (Nat.le_refl _) _
  refine ⟨[v1, v2], sl_new w t 1 2 #[v1, v2] rfl (by unfold maxLen; omega), fun i h l h3 h4 => ?_⟩
  rcases i with _ | _ | i
  · simp at h3 h4; subst h3; subst h4; exact h1.below hb
  · simp at h3 h4; subst h3; subst h4; exact h2.below hb
  · simp at h3
/-- A digest. -/
def dg (n : Nat) (log st : List UInt8) : List UInt8 := sha (5 :: (beN 4 n ++ log ++ st))

set_option maxHeartbeats 1600000 in
set_option maxRecDepth 100000 in
theorem dig_any (w : World) (E : Nat) (F : Nat → Prop) (t : Value) (bl : List (List UInt8)) (hT : Tp w F t bl) (hF : ∀ k, F k → E ≤ k) (hFm : ∀ k, F k → k < w.heap.size) (hbl : bl.length ≤ 1099511627776) (hE : EnvAt w E) (n : Nat) (hn : n < 9223372036854775808) (log st : List UInt8) (hl : log.length = 32) (hs : st.length = 32) :
    Calls Tryz.prog 69 #[t, .int .i64 n, hv log, hv st] w fun e w' => e = .returned (hv (dg n log st)) ∧ Kp F w w' ∧ ∃ F', Tp w' F' t (bl ++ [5 :: (beN 4 n ++ log ++ st)]) ∧ Fw F F' w.heap.size ∧ ∀ k, F k → F' k := by
  have HT := Lib.hid hT
  have HE := Lib.hid hE
  have HF := Lib.hid hF
  have HFM := Lib.hid hFm
  clear hT hE hF hFm
  unfold hv
  go_enter Tryz.func69, Tryz.ntmps69
  go_wp2_with (fail)
  obtain ⟨a1, a2, a3, a4, a5, a6⟩ := alloc4 w (Obj.cells (bcs log).toArray 30) (Obj.cells (bcs st).toArray 30) (Obj.cells (Array.replicate 32 (.int .u8 0)) 30) (Obj.cells #[Value.slice none 0 0] 92)
  rw [show Array.replicate 32 (Value.int .u8 0) = #[.int .u8 0, .int .u8 0, .int .u8 0, .int .u8 0, .int .u8 0, .int .u8 0, .int .u8 0, .int .u8 0, .int .u8 0, .int .u8 0, .int .u8 0, .int .u8 0, .int .u8 0, .int .u8 0, .int .u8 0, .int .u8 0, .int .u8 0, .int .u8 0, .int .u8 0, .int .u8 0, .int .u8 0, .int .u8 0, .int .u8 0, .int .u8 0, .int .u8 0, .int .u8 0, .int .u8 0, .int .u8 0, .int .u8 0, .int .u8 0, .int .u8 0, .int .u8 0] from rfl] at a1 a2 a3 a4 a5 a6
  generalize ((((w.alloc (Obj.cells (bcs log).toArray 30)).alloc (Obj.cells (bcs st).toArray 30)).alloc _).alloc (Obj.cells #[Value.slice none 0 0] 92)) = w3 at *
  have h6 : HAt w3 w.heap.size log := hat_of a3 hl
  have h7 : HAt w3 (w.heap.size + 1) st := hat_of a4 hs
  have h8 : ArrAt w3 (w.heap.size + 1 + 1) 30 32 (fun _ => .int .u8 0) := a5
  have h9 : WAt w3 (w.heap.size + 1 + 1 + 1) [] := ⟨_, a6, OwnB.nil _ _ _⟩
  have H6 := Lib.hid h6
  have H7 := Lib.hid h7
  have H8 := Lib.hid h8
  have H9 := Lib.hid h9
  have A1 := Lib.hid a1
  clear h6 h7 h8 h9 a1 a3 a4 a5 a6
  obtain ⟨g, hg⟩ : ∃ g, g = w.heap.size := ⟨_, rfl⟩
  rw [← hg] at H6 H7 H8 H9 a2 ⊢
  have HG := Lib.hid hg
  clear hg
  refine wp_region_gen
    (C := fun w1 => Below (g + 1 + 1 + 1) w3 w1 ∧ ∃ l, WAt w1 (g + 1 + 1 + 1) l)
    (L := fun w w' => Below w.heap.size w w' ∧ g + 1 + 1 + 1 < w.heap.size) (R := fun w w' => Rw (g + 1 + 1 + 1) w w') (X0 := fun w1 => WAt w1 (g + 1 + 1 + 1) [])
    [.q, .l (fun v => ∃ b, v = .slice (some ⟨b, 0, none⟩) 1 1) (fun v w1 => SlF w1 (g + 1 + 1 + 1) 1 v 1 [.int .i64 n]),
      .c (fun v => v = .pointer (some ⟨g + 1 + 1 + 1, 0, none⟩)) (fun _ w1 => WAt w1 (g + 1 + 1 + 1) (beN 4 n)),
      .q, .q, .l (fun v => ∃ b, v = .slice (some ⟨b, 0, none⟩) 2 2) (fun v w1 => SlF w1 (g + 1 + 1 + 1) 32 v 2 (hcs [log, st])),
      .c (fun v => v = .pointer (some ⟨g + 1 + 1 + 1, 0, none⟩)) (fun _ w1 => WAt w1 (g + 1 + 1 + 1) (beN 4 n ++ log ++ st))]
    (by kernel_rfl) rfl (by kernel_rfl) (fun w w' h => Rw.of_below h.1 h.2) ?x0 ?C ?X ?Gen
  case x0 => rintro w1 w2 h ⟨h1, -⟩; exact h.below h1
  case C => exact ⟨bel_dr (Below.refl _ w3), [], H9.out.dr⟩
  case X => exact H9.out.dr
  case Gen =>
  repeat (apply gen_q rfl; (rintro w1 ⟨e1, e2⟩; apply Same.of_wp rfl rfl (Nat.le_of_ble_eq_true rfl); intro KK QQ hK; simp only [Act.put, List.setIfInBounds_toArray, List.set_cons_succ, List.set_cons_zero] at hK; go_step; exact hK); simp only [Act.put, List.setIfInBounds_toArray, List.set_cons_succ, List.set_cons_zero])
  refine gen_l rfl ⟨_, 0, rfl⟩ (fun v w1 w2 h hR => h.rw hR) ?_ ?_
  · rintro w1 ⟨e1, l1, e2⟩ -
    refine Loud.of_wp rfl (Nat.le_of_ble_eq_true rfl) (fun KK QQ hK => ?_)
    go_step
    have hb : Below w1.heap.size w1 (w1.alloc (Obj.cells #[Value.int IntKind.i64 ↑n] 3)) := (Below.refl _ _).alloc (Nat.le_refl _) _
    exact hK _ _ ⟨⟨e1.trans (hb.mono (Nat.le_of_lt e2.lt)), l1, e2.below hb⟩, ⟨hb, e2.lt⟩, ⟨_, rfl⟩, slF_new e2 _ 1 1 _ rfl (by unfold maxLen; omega)⟩
  · rintro v ⟨b, rfl⟩
    simp only [Act.put, List.setIfInBounds_toArray, List.set_cons_succ, List.set_cons_zero]
    refine gen_c rfl ⟨_, rfl⟩ (fun v w1 w2 h hL => h.below hL.1) ?_ ?_
    · rintro w1 ⟨e1, l1, e2⟩ hX hF
      refine Loud.of_wp rfl (Nat.le_of_ble_eq_true rfl) (fun KK QQ hK => ?_)
      have hf := hF _ (List.mem_cons_self ..) (by kernel_rfl)
      go_step
      refine (int_any w1 _ [] 4 _ [n] hX (by decide) hf.1 (by simp) (by simpa using hn) (fun k hk => (hf.2 k hk).1) (by simp)).mono ?_
      rintro e w2 ⟨rfl, h1, h2⟩
      refine hK _ _ ⟨⟨e1.trans (hX.rel h2), _, h1⟩, h2, rfl, by simpa using h1⟩
    · rintro v rfl
      simp only [Act.put, List.setIfInBounds_toArray, List.set_cons_succ, List.set_cons_zero]
      refine gen_q (v := .agg (bcs log).toArray) rfl ?_ ?_
      · rintro w1 ⟨e1, e2⟩
        apply Same.of_wp rfl rfl (Nat.le_of_ble_eq_true rfl)
        intro KK QQ hK
        exact wp_load_mid _ _ rfl g 0 rfl (bcs log) _ (H6.out.below e1 (by omega)).range Tryz.underlying30 rfl (hsize log hl) hK
      simp only [Act.put, List.setIfInBounds_toArray, List.set_cons_succ, List.set_cons_zero]
      refine gen_q (v := .agg (bcs st).toArray) rfl ?_ ?_
      · rintro w1 ⟨e1, e2⟩
        apply Same.of_wp rfl rfl (Nat.le_of_ble_eq_true rfl)
        intro KK QQ hK
        exact wp_load_mid _ _ rfl (g + 1) 0 rfl (bcs st) _ (H7.out.below e1 (by omega)).range Tryz.underlying30 rfl (hsize st hs) hK
      simp only [Act.put, List.setIfInBounds_toArray, List.set_cons_succ, List.set_cons_zero]
      have h32 : ∀ h ∈ [log, st], h.length = 32 := by simp [hl, hs]
      refine gen_l rfl ⟨_, 0, rfl⟩ (fun v w1 w2 h hR => h.rw hR) ?_ ?_
      · rintro w1 ⟨e1, l1, e2⟩ -
        refine Loud.of_wp rfl (Nat.le_of_ble_eq_true rfl) (fun KK QQ hK => ?_)
        refine wp_buildH 2 _ rfl [log, st] h32 rfl (by decide) (by decide) rfl ?_
        have hb : Below w1.heap.size w1 (w1.alloc (Obj.cells (hcs [log, st]).toArray 30)) := (Below.refl _ _).alloc (Nat.le_refl _) _
        exact hK _ _ ⟨⟨e1.trans (hb.mono (Nat.le_of_lt e2.lt)), l1, e2.below hb⟩, ⟨hb, e2.lt⟩, ⟨_, rfl⟩, slF_new e2 _ 32 2 _ (by simpa using hcs_length _ h32) (by unfold maxLen; omega)⟩
      · rintro v ⟨b2, rfl⟩
        simp only [Act.put, List.setIfInBounds_toArray, List.set_cons_succ, List.set_cons_zero]
        refine gen_c rfl ⟨_, rfl⟩ (fun v w1 w2 h hL => h.below hL.1) ?_ ?_
        · rintro w1 ⟨e1, l1, e2⟩ hX hF
          refine Loud.of_wp rfl (Nat.le_of_ble_eq_true rfl) (fun KK QQ hK => ?_)
          have hf := hF _ (List.mem_cons_self ..) (by kernel_rfl)
          go_step
          refine (whash_any w1 _ (beN 4 n) _ [log, st] hX hf.1 (by rw [beN_length]; simp) h32 (fun k hk => (hf.2 k hk).1) (by simp)).mono ?_
          rintro e w2 ⟨rfl, h1, h2⟩
          refine hK _ _ ⟨⟨e1.trans (hX.rel h2), _, h1⟩, h2, rfl, by simpa using h1⟩
        · rintro v rfl
          simp only [Act.put, List.setIfInBounds_toArray, List.set_cons_succ, List.set_cons_zero]
          refine gen_nil ?_
          rintro w1 ⟨e1, -⟩ hX -
          obtain ⟨mv, m1, m2, m3⟩ := HE.out.digest.ex
          obtain ⟨am, cm, rfl⟩ := m2.form
          have hgt : ∀ k, F k → k < g := fun k hk => by rw [HG.out]; exact HFM.out k hk
          have hEg : E ≤ g := by rw [HG.out]; exact HE.out.le
          have k13 : Kp (fun k => F k ∨ g + 1 + 1 + 1 ≤ k) w3 w1 := ⟨e1.os, e1.tape, e1.output, e1.size, fun k _ hn => e1.block k (by omega)⟩
          have hblw : ∀ k, k < g → w1.heap[k]? = w.heap[k]? := fun k hk => (e1.block k (by omega)).trans (A1.out.block k (by rw [← HG.out]; exact hk))
          have t1 : Tp w1 F t bl := HT.out.keep (Nat.le_trans A1.out.size e1.size) fun k hk => hblw k (hgt k hk)
          have en1 : EnvAt w1 E := HE.out.keep (Nat.le_trans A1.out.size e1.size) fun k hk => hblw k (by omega)
          have mk1 : w1.cell? ⟨3, 0, none⟩ = some (.slice am 1 cm) := (World.cell?_of_block (hblw _ (Nat.lt_of_lt_of_le HE.out.digest.lt hEg))).trans m1
          have T1 := Lib.hid t1
          have M3 := Lib.hid m3
          have MK := Lib.hid m2
          have HX := Lib.hid hX
          have A1' := A1
          clear t1 m3 m2 hX m1 H9
          go_wp2_with (fail)
          refine wp_region_tail
            (C := fun w1 => Kp (fun k => F k ∨ g + 1 + 1 + 1 ≤ k) w3 w1 ∧ EnvAt w1 E ∧ w1.cell? ⟨3, 0, none⟩ = some (.slice am 1 cm))
            (D := fun w1 => Kp (fun k => F k ∨ g + 1 + 1 ≤ k) w3 w1)
            (L := fun w w' => w = w') (R := fun _ _ => True) (X0 := fun w1 => WAt w1 (g + 1 + 1 + 1) (beN 4 n ++ log ++ st) ∧ Tp w1 F t bl)
            [.q, .q, .c (fun v => ∃ ao c, v = .slice ao (beN 4 n ++ log ++ st).length c) (fun v w1 => Bs w1 v (beN 4 n ++ log ++ st) ∧ Tp w1 F t bl),
              .c (fun v => ∃ b, v = .slice (some ⟨b, 0, none⟩) 2 2) (fun v w1 => Parts w1 v [[5], beN 4 n ++ log ++ st] ∧ Tp w1 F t bl),
              .c (fun v => v = hv (dg n log st)) (fun _ w1 => ∃ F', Tp w1 F' t (bl ++ [5 :: (beN 4 n ++ log ++ st)]) ∧ Fw F F' (g + 4) ∧ ∀ k, F k → F' k),
              .c (fun _ => True) (fun _ w1 => HAt w1 (g + 1 + 1) (dg n log st) ∧ ∃ F', Tp w1 F' t (bl ++ [5 :: (beN 4 n ++ log ++ st)]) ∧ Fw F F' (g + 4) ∧ ∀ k, F k → F' k)]
            (by kernel_rfl) rfl (by kernel_rfl) (fun _ _ _ => trivial) (by rintro w w' h rfl; exact h) ?c1 ?c2 ?c3
          case c1 => exact ⟨⟨k13.os, k13.tape, k13.output, k13.size, k13.block⟩, en1.keep (Nat.le_refl _) (fun _ _ => rfl), mk1⟩
          case c2 => exact ⟨HX.out.dr, T1.out.keep (Nat.le_refl _) (fun _ _ => rfl)⟩
          case c3 =>
          repeat (apply gent_q rfl rfl; (rintro w1 ⟨e1, e2, e3⟩; apply Same.of_wp rfl rfl (Nat.le_of_ble_eq_true rfl); intro KK QQ hK; simp only [Act.put, List.setIfInBounds_toArray, List.set_cons_succ, List.set_cons_zero] at hK; go_step; exact hK); simp only [Act.put, List.setIfInBounds_toArray, List.set_cons_succ, List.set_cons_zero])
          refine gent_c rfl rfl ⟨_, none, 0, rfl⟩ (by rintro v w1 w2 h rfl; exact h) ?_ ?_
          · rintro w1 hC ⟨hX, hT⟩ -
            refine Loud.of_wp rfl (Nat.le_of_ble_eq_true rfl) (fun KK QQ hK => ?_)
            go_step
            refine (bytes_any w1 _ (beN 4 n ++ log ++ st) hX (by simp [beN_length, hl, hs])).mono ?_
            rintro e w2 ⟨v, rfl, h1, h2⟩
            obtain ⟨a2, c2, h3⟩ := h1.form
            exact hK _ _ ⟨keepC hC h2, trivial, ⟨a2, c2, h3⟩, h1.bs, hT.below h2⟩
          · rintro v ⟨a2, c2, rfl⟩
            simp only [Act.put, List.setIfInBounds_toArray, List.set_cons_succ, List.set_cons_zero]
            obtain ⟨n2, hn2⟩ : ∃ n2 : Nat, n2 = (beN 4 n ++ log ++ st).length := ⟨_, rfl⟩
            rw [← hn2]
            have HN2 := Lib.hid hn2
            clear hn2
            refine gent_c rfl rfl ⟨_, 0, rfl⟩ (by rintro v w1 w2 h rfl; exact h) ?_ ?_
            · rintro w1 hC ⟨hX, hT⟩ -
              refine Loud.of_wp rfl (Nat.le_of_ble_eq_true rfl) (fun KK QQ hK => ?_)
              go_step
              have hb := (Below.refl w1.heap.size w1).alloc (Nat.le_refl _) (Obj.cells #[Value.slice am 1 cm, Value.slice a2 n2 c2] 26)
              obtain ⟨v, q1, q2, q3⟩ := hC.2.1.digest.ex
              rw [hC.2.2] at q1
              cases q1
              exact hK _ _ ⟨keepC hC hb, trivial, ⟨_, rfl⟩, parts_two w1 _ _ _ _ _ q2 hX, hT.below hb⟩
            · rintro v ⟨b3, rfl⟩
              simp only [Act.put, List.setIfInBounds_toArray, List.set_cons_succ, List.set_cons_zero]
              refine gent_c rfl rfl ⟨_, rfl⟩ (by rintro v w1 w2 h rfl; exact h) ?_ ?_
              · rintro w1 hC ⟨hX, hT⟩ -
                refine Loud.of_wp rfl (Nat.le_of_ble_eq_true rfl) (fun KK QQ hK => ?_)
                go_step
                refine (of_any w1 E F t bl hT HF.out hbl _ [[5], beN 4 n ++ log ++ st] hC.2.1.toEnvS hX ?_ (by simp)).mono ?_
                · simp [beN_length, hl, hs]
                have hfl : [[5], beN 4 n ++ log ++ st].flatten = 5 :: (beN 4 n ++ log ++ st) := by simp
                rw [hfl]
                rintro e w2 ⟨rfl, h2, F', h3, h4, h5⟩
                have hsz := hC.1.size
                refine hK _ _ ⟨⟨hC.1.trans (h2.mono fun k hk => Or.inl hk), hC.2.1.kp h2 HF.out, ?_⟩, trivial, rfl, F', h3, fun k hk => (h4 k hk).imp id (fun h => by omega), h5⟩
                exact (World.cell?_of_block (h2.block _ (block_lt_of_cell hC.2.2) fun hf => absurd hC.2.1.digest.lt (Nat.not_lt.2 (HF.out _ hf)))).trans hC.2.2
              · rintro v rfl
                simp only [Act.put, List.setIfInBounds_toArray, List.set_cons_succ, List.set_cons_zero]
                refine gent_last rfl rfl ⟨undef, trivial⟩ (by rintro v w1 w2 h rfl; exact h) ?_ ?_
                · rintro w1 ⟨hC1, hC2, hC3⟩ ⟨F', hT, hFw, hFF⟩ -
                  refine Loud.of_wp0 rfl (fun KK QQ hK => ?_)
                  have hdl : (dg n log st).length = 32 := sha_length _
                  have har : ArrAt w1 (g + 1 + 1) 30 32 (fun _ => .int .u8 0) := by
                    unfold ArrAt
                    rw [hC1.block (g + 1 + 1) (by omega) (by rintro (h | h); exact absurd (hgt _ h) (by omega); omega)]
                    exact H8.out
                  have ht : w1.there (g + 1 + 1) 0 (bcs (dg n log st)).toArray.size := by
                    have := har.there
                    simpa [bcs, hdl] using this
                  refine wp_store_mid _ _ _ rfl (g + 1 + 1) 0 (bcs (dg n log st)).toArray rfl rfl ht (hsize' _ hdl) (bcs_all _) ?_
                  have hbs : Below (g + 1 + 1) w1 (w1.setCells (g + 1 + 1) 0 (bcs (dg n log st)).toArray.toList) := below_setCells (Below.refl _ _) (Nat.le_refl _) _ _
                  have hne : ∀ k, k < w1.heap.size → k ≠ g + 1 + 1 → (w1.setCells (g + 1 + 1) 0 (bcs (dg n log st)).toArray.toList).heap[k]? = w1.heap[k]? := fun k hk hne => heap_setCells_ne _ _ _ _ hk hne
                  refine hK _ ⟨⟨hbs.os.trans hC1.os, hbs.tape.trans hC1.tape, hbs.output.trans hC1.output, Nat.le_trans hC1.size hbs.size, fun k hk hn => ?_⟩, trivial, trivial, ⟨hdl, ?_⟩, F', ?_, hFw, hFF⟩
                  · rw [hne k (Nat.lt_of_lt_of_le hk hC1.size) (fun e => hn (.inr (by omega)))]
                    exact hC1.block k hk (fun h => hn (h.imp id (fun h => by omega)))
                  · have := World.rangeAt_setCells_same w1 (g + 1 + 1) 0 (bcs (dg n log st)) (by simpa using ht)
                    simpa using this
                  · rcases hT with h | ⟨bt, h1, h2⟩
                    · exact .inl h
                    · exact .inr ⟨bt, h1, h2.keep hbs.size fun k hk => hne k (h2.mem k hk) (by rcases hFw k hk with h | h; have := hgt k h; omega; omega)⟩
                · rintro v -
                  refine gen_nil ?_
                  rintro w1 e3 ⟨h1, F', h2, h3, h4⟩ -
                  go_wp2
                  refine ret_hash' rfl rfl h1 rfl ⟨rfl, ⟨e3.os.trans A1.out.os, e3.tape.trans A1.out.tape, e3.output.trans A1.out.output, Nat.le_trans A1.out.size e3.size, fun k hk hn => ?_⟩, F', h2, fun k hk => (h3 k hk).imp id (fun h => by rw [← HG.out]; omega), h4⟩
                  have hg' := HG.out
                  exact (e3.block k (by omega) (by rintro (h | h); exact hn h; omega)).trans (A1.out.block k hk)
end Go.Proofs.YtbenjjaofabdcaaGreatDoor
