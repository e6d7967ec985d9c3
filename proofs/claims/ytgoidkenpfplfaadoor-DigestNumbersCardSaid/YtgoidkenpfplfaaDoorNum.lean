/-
  paciolilaw12.DigestNumbers.
-/
import Derived.Test.YtgoidkenpfplfaaDoorClash
import Derived.Test.YtgoidkenpfplfaaDoorFit
import Derived.Test.YtgoidkenpfplfaaDoorOps
namespace Go.Proofs.YtgoidkenpfplfaaDoor
open Go Go.RowKit

theorem items {w : World} {n₀ : Nat} : ∀ (th : List Value) (bl : List (List UInt8)), th.length = bl.length →
    (∀ (i : Nat) (h : Value) (l : List UInt8), th[i]? = some h → bl[i]? = some l → Bs w h l ∧ (∀ k, h.ownBlock = some k → k < n₀) ∧ l.length ≤ 1099511627776) →
    ∃ xs : List (It w n₀), xs.map (·.1.1) = th ∧ xs.map (·.1.2) = bl
  | [], [], _, _ => ⟨[], rfl, rfl⟩
  | h :: th, l :: bl, hl, hp => by
    obtain ⟨xs, h1, h2⟩ := items th bl (by simpa using hl) fun i a b ha hb => hp (i + 1) a b (by simpa using ha) (by simpa using hb)
    exact ⟨⟨(h, l), hp 0 h l rfl rfl⟩ :: xs, by simp [h1], by simp [h2]⟩
theorem clash_tape (w : World) (E : Nat) (F : Nat → Prop) (bt : Nat) (bl : List (List UInt8)) (hT : TapeAt w F bt bl) (hE : EnvAt w E) (hl : ∀ l ∈ bl, l.length ≤ 1099511627776) (hn : bl.length ≤ 1099511627776) :
    Calls Tryd.prog 10 #[.pointer (some ⟨bt, 0, none⟩)] w fun e w' => (∃ r : Bool, e = .returned (.bool r) ∧ (r = true ↔ Clash bl)) ∧ Below w.heap.size w w' := by
  obtain ⟨tmem, tself, vl, th, tb, town, tne, tall⟩ := hT
  have hlen : th.length = bl.length := by have := town.1; omega
  obtain ⟨xs, h1, h2⟩ := items (w := w) (n₀ := w.heap.size) th bl hlen fun i h l ha hb => ⟨(tall i h l ha hb).1, fun k hk => tmem k ((tall i h l ha hb).2 k hk).1, hl l (List.mem_of_getElem? hb)⟩
  have hx : xs.length = bl.length := by rw [← h2]; simp
  have := clash_in (w0 := w) (n₀ := w.heap.size) E bt xs vl hE rfl (cell_blk tb 0) (tmem bt tself) (by rw [h1, hx]; exact Sl.of_own town) (fun k hk => tmem k (tne k hk).1) (by omega)
  rw [h2] at this
  exact callsIn_wide.1 this
theorem and_mask (x : Int) : ∃ N : Nat, bits .and .i64 x 16777215 = (N : Int) ∧ N < 16777216 := by
  refine ⟨(BitVec.ofInt 64 x &&& BitVec.ofInt 64 16777215).toNat, ?_, ?_⟩
  · have h : (BitVec.ofInt 64 x &&& BitVec.ofInt 64 16777215).toNat < 16777216 := by
      rw [BitVec.toNat_and]
      exact Nat.lt_of_le_of_lt Nat.and_le_right (by decide)
    show IntKind.wrap .i64 ((BitVec.ofInt 64 x &&& BitVec.ofInt 64 16777215).toNat : Int) = _
    generalize (BitVec.ofInt 64 x &&& BitVec.ofInt 64 16777215).toNat = r at *
    simp only [IntKind.wrap, show IntKind.i64.bits = 64 from rfl, show IntKind.i64.signed = true from rfl]
    simp
    omega
  · rw [BitVec.toNat_and]
    exact Nat.lt_of_le_of_lt Nat.and_le_right (by decide)
theorem tyHash : Ty Tryd.prog 23 32 true (List.replicate 32 (.int .u8 0)) := ⟨Tryd.sizeOf23, Tryd.isAgg23, fun w => ⟨_, Tryd.zeroValue23 w, rfl⟩⟩
/-- A variable of hashes. -/
abbrev hvar (b : Nat) (x : List UInt8) : Asn := pts b 23 (bcs x)
theorem hcs2_fst {a b : List UInt8} (ha : a.length = 32) : ((hcs [a, b]).drop 0).take (bcs a).length = bcs a := by simp [hcs]
theorem hcs2_snd {a b : List UInt8} (ha : a.length = 32) (hb : b.length = 32) : ((hcs [a, b]).drop 32).take (bcs b).length = bcs b := by
  have h1 : (bcs a).length = 32 := by rw [bcs_length, ha]
  simp only [hcs, List.flatMap_cons, List.flatMap_nil, List.append_nil]
  rw [List.drop_append_of_le_length (by omega), List.drop_eq_nil_of_le (by omega)]
  simp
theorem TapeAt.loc {w w' : World} {F : Nat → Prop} {bt : Nat} {bl : List (List UInt8)} (h : TapeAt w F bt bl) (hb : ∀ k, F k → w'.heap[k]? = w.heap[k]?) : TapeAt w' F bt bl := by
  obtain ⟨vl, hs', h1, h2, h3, h4⟩ := h.ex
  refine ⟨fun k hk => ?_, h.self, vl, hs', (hb bt h.self).trans h1, ?_, h3, fun i a l h5 h6 => ⟨(h4 i a l h5 h6).1.move fun b hv _ => hb b ((h4 i a l h5 h6).2 b hv).1, (h4 i a l h5 h6).2⟩⟩
  · have h5 := h.mem k hk
    have h6 := hb k hk
    rw [Array.getElem?_eq_getElem h5] at h6
    exact (Array.getElem?_eq_some_iff.1 h6).1
  · obtain ⟨hl, h5 | ⟨g, cap, cur, h5, h6, h7, h8⟩⟩ := h2
    · exact ⟨hl, .inl h5⟩
    · exact ⟨hl, .inr ⟨g, cap, cur, h5, h6, (hb g (h3 g (by rw [h5]; rfl)).1).trans h7, h8⟩⟩
/-- A tape, as a piece of memory. -/
def tapeA (F : Nat → Prop) (bt : Nat) (bl : List (List UInt8)) : Asn where
  fp := F
  holds w := TapeAt w F bt bl
  loc h hk := h.loc hk
  lt h k hk := h.mem k hk
theorem tape_new {b : Nat} {w : World} (h : (pts b 29 [.slice none 0 0]).holds w) : (tapeA (fun k => k = b) b []).holds w :=
  ⟨fun k hk => by rw [hk]; exact (Array.getElem?_eq_some_iff.1 h).1, rfl, .slice none 0 0, [], h, World.ownsRow_nil _ _ _ _, fun k hk => by simp [Value.ownBlock] at hk, fun i h l h1 => by simp at h1⟩
theorem Sep.conv {W : Nat → Prop} {w0 w : World} {L L' : List Asn} {A A' : Asn} (M : Sep W w0 w L) (hr : Repl A A' L L') (hA : A.holds w → A'.holds w) (hf : ∀ k, A'.fp k → A.fp k) : Sep W w0 w L' :=
  M.repl hr (Kp.refl _ _) (hA (M.holds _ (by obtain ⟨i, h, _⟩ := hr.spec; exact List.mem_of_getElem? h))) fun k hk => .inl (hf k hk)
theorem tyU8 : Ty Tryd.prog 5 1 false [.int .u8 0] := ⟨Tryd.sizeOf5, Tryd.isAgg5, fun w => ⟨_, Tryd.zeroValue5 w, rfl⟩⟩
theorem xor_u8 (x : UInt8) : bits .xor .u8 x.toNat 1 = (x ^^^ 1).toNat := by
  have h : ∀ n : Fin 256, bits .xor .u8 ((n.val : Nat) : Int) 1 = ((UInt8.ofNat n.val ^^^ 1).toNat : Int) := of_decide_eq_true (by kernel_rfl)
  have := h ⟨x.toNat, x.toNat_lt⟩
  simpa using this
theorem xor_ne (x : UInt8) : x ^^^ 1 ≠ x := by
  have h : ∀ n : Fin 256, UInt8.ofNat n.val ^^^ 1 ≠ UInt8.ofNat n.val := of_decide_eq_true (by kernel_rfl)
  have := h ⟨x.toNat, x.toNat_lt⟩
  simpa using this
/-- A hash of which one bit is turned. -/
theorem flip7 (a : List UInt8) (ha : a.length = 32) : ∃ (x y : Int) (c : List UInt8), (bcs a)[7]? = some (.int .u8 x) ∧ bits .xor .u8 x 1 = y ∧ (bcs a).set 7 (.int .u8 y) = bcs c ∧ c ≠ a ∧ c.length = 32 := by
  have h7 : a[7]? = some (a[7]'(by omega)) := List.getElem?_eq_getElem (by omega)
  refine ⟨_, _, a.set 7 (a[7]'(by omega) ^^^ 1), ?_, xor_u8 (a[7]'(by omega)), ?_, fun e => ?_, by simp [ha]⟩
  · simp [bcs, h7, u8c]
  · simp [bcs, List.map_set, u8c]
  · have h : (a.set 7 (a[7]'(by omega) ^^^ 1))[7]? = a[7]? := by rw [e]
    rw [List.getElem?_set_self (by omega), h7] at h
    exact xor_ne _ (Option.some.inj h)
/-- What a digest hashes. -/
def dgIn (n : Nat) (log st : List UInt8) : List UInt8 := 5 :: (beN 4 n ++ log ++ st)
theorem dg_eq (n : Nat) (log st : List UInt8) : dg n log st = sha (dgIn n log st) := rfl
theorem dig_tape (w : World) (E : Nat) (F : Nat → Prop) (bt : Nat) (bl : List (List UInt8)) (hT : (tapeA F bt bl).holds w) (hF : ∀ k, F k → E ≤ k) (hbl : bl.length ≤ 1099511627776) (hE : EnvAt w E) (n : Nat) (hn : n < 9223372036854775808) (log st : List UInt8) (hl : log.length = 32) (hs : st.length = 32) :
    Calls Tryd.prog 9 #[ptr bt 0, .int .i64 n, hv log, hv st] w fun e w' => e = .returned (hv (dg n log st)) ∧ ∃ F', Kp F w w' ∧ (tapeA F' bt (bl ++ [dgIn n log st])).holds w' ∧ ∀ k, F' k → F k ∨ w.heap.size ≤ k := by
  refine (dig_any w E F _ bl (.inr ⟨bt, rfl, hT⟩) hF hT.mem hbl hE n hn log st hl hs).mono ?_
  rintro e w' ⟨h1, h2, F', h3, h4, -⟩
  rcases h3 with h3 | ⟨bt', h5, h6⟩
  · cases h3
  · cases h5; exact ⟨h1, F', h2, h6, h4⟩
theorem dig_none (w : World) (E : Nat) (hE : EnvAt w E) (n : Nat) (hn : n < 9223372036854775808) (log st : List UInt8) (hl : log.length = 32) (hs : st.length = 32) :
    Calls Tryd.prog 9 #[.pointer none, .int .i64 n, hv log, hv st] w fun e w' => e = .returned (hv (dg n log st)) ∧ Below w.heap.size w w' := by
  refine (dig_any w E (fun _ => False) _ [] (.inl rfl) (fun _ h => h.elim) (fun _ h => h.elim) (by simp) hE n hn log st hl hs).mono ?_
  rintro e w' ⟨h1, h2, -⟩
  exact ⟨h1, h2.below (Nat.le_refl _) fun k h => h.elim⟩
theorem beN_len (k x : Nat) : (beN k x).length = k := beN_length k x
theorem beN4 (x : Nat) : beN 4 x = [UInt8.ofNat (x / 16777216 % 256), UInt8.ofNat (x / 65536 % 256), UInt8.ofNat (x / 256 % 256), UInt8.ofNat (x % 256)] := by
  simp [beN, List.range, List.range.loop]
theorem ofNat_inj {x y : Nat} (hx : x < 256) (hy : y < 256) (h : UInt8.ofNat x = UInt8.ofNat y) : x = y := by
  have := congrArg UInt8.toNat h
  rw [UInt8.toNat_ofNat_of_lt' (by simpa using hx), UInt8.toNat_ofNat_of_lt' (by simpa using hy)] at this
  exact this
theorem beN4_inj {x y : Nat} (hx : x < 4294967296) (hy : y < 4294967296) (h : beN 4 x = beN 4 y) : x = y := by
  rw [beN4, beN4] at h
  simp only [List.cons.injEq, and_true] at h
  obtain ⟨h1, h2, h3, h4⟩ := h
  have h1 := ofNat_inj (by omega) (by omega) h1
  have h2 := ofNat_inj (by omega) (by omega) h2
  have h3 := ofNat_inj (by omega) (by omega) h3
  have h4 := ofNat_inj (by omega) (by omega) h4
  omega
theorem dgIn_len {n : Nat} {log st : List UInt8} (hl : log.length = 32) (hs : st.length = 32) : (dgIn n log st).length = 69 := by
  simp [dgIn, beN_length, hl, hs]
theorem dgIn_num {n m : Nat} {log st : List UInt8} (hn : n < 4294967296) (hm : m < 4294967296) (hne : ¬ n = m) : dgIn n log st ≠ dgIn m log st := fun e => by
  unfold dgIn at e
  simp only [List.cons.injEq, true_and, List.append_assoc, List.append_cancel_right_eq] at e
  exact hne (beN4_inj hn hm (List.append_cancel_right e))
theorem dgIn_log {n : Nat} {a b c d : List UInt8} (ha : a.length = 32) (hc : c.length = 32) (e : dgIn n a b = dgIn n c d) : a = c := by
  unfold dgIn at e
  simp only [List.cons.injEq, true_and, List.append_assoc] at e
  have e := List.append_cancel_left e
  exact (List.append_inj e (by rw [ha, hc])).1
theorem clash_of {bl : List (List UInt8)} (x y : List UInt8) (hx : x ∈ bl) (hy : y ∈ bl) (hne : x ≠ y) (h : sha x = sha y) : Clash bl := ⟨x, hx, y, hy, hne, h⟩
abbrev ospT (E : Nat) (v : Value) : OSp := .v [] fun _ g => g.1 = v ∧ ∀ k, g.2 k → E ≤ k
section
variable {w0 : World} {E : Nat} {ops : Array Oper} {toks : List Tok} {Q : Act → (Nat → GV) → Prop} {i : Nat} {o : Oper} {rest : List Oper} {ss : List OSp} {val : Nat → GV} {a : Act}
/-- A digest made with a tape, in a region that draws. -/
theorem walk_dig (HE : EnvAt w0 E) {F : Nat → Prop} {bt n : Nat} {bl : List (List UInt8)} {log st X : List UInt8} {d : Tmp} (y x : Nat) {u s : Tok} (hX : dg n log st = X) (hn : n < 9223372036854775808) (hl : log.length = 32) (hs : st.length = 32) (hF : ∀ k, F k → E ≤ k) (hbl : bl.length ≤ 1099511627776)
    (hy : toks[y]? = some u) (hx : toks[x]? = some s) (hB : (prodB toks i x && (u.cons == some i)) = true) (hd : o.dst = some d) (hlt : Nat.ble (d + 1) a.tmps.size = true) (hw : Region.wanted o (yielded ops a.tmps) = true)
    (hu : u.at_ val = tapeA F bt bl) (hu' : ∀ g, u.at_ (upd val i g) = tapeA F bt bl) (hs' : ∀ g, s.at_ (upd val i g) = tapeA g.2 bt (bl ++ [dgIn n log st])) (hev : E ≤ w0.heap.size)
    (hcall : ∀ (w : World) (K : Act → World → Prop) (Q : Exit → Act → World → Prop), Calls Tryd.prog 9 #[ptr bt 0, .int .i64 n, hv log, hv st] w (fun e w'' => ∃ v, e = .returned v ∧ K (a.put o.dst v) w'') → o.wp Tryd.prog a w K Q)
    (h : ∀ F', (∀ k, F' k → E ≤ k) → Walk Tryd.prog ops toks (Kp (fun _ => False) w0) Q (i + 1) rest ss (upd val i (hv X, F')) (a.put o.dst (hv X))) :
    Walk Tryd.prog ops toks (Kp (fun _ => False) w0) Q i (o :: rest) (ospT E (hv X) :: ss) val a := by
  subst hX
  refine walk_v hw ⟨(_, F), rfl, hF⟩ (fun w hI => ?_) (by rintro ⟨v, F'⟩ ⟨rfl, h1⟩; exact h F' h1)
  have hc : (u.cons == some i) = true := (Bool.and_eq_true _ _ ▸ hB).2
  have hT := ins_get hI y hy (by rw [hc]; simp)
  rw [hu] at hT
  refine Loud.of_wp hd (Nat.le_of_ble_eq_true hlt) fun K Q' hK => hcall w K Q' ?_
  have hfr : Below w0.heap.size w0 w := hI.frame.below (Nat.le_refl _) fun _ h => h.elim
  refine (dig_tape w E F bt bl hT hF hbl (HE.below hfr hev) n hn log st hl hs).mono ?_
  rintro e w' ⟨rfl, F', hk, hT', hf⟩
  refine ⟨_, rfl, hK _ _ ⟨(_, F'), rfl, ⟨rfl, fun k hk => ?_⟩, outs_set y hy x hx hB ?_ ?_ ?_⟩⟩
  · rcases hf k hk with h1 | h1
    · exact hF k h1
    · exact Nat.le_trans hev (Nat.le_trans hfr.size h1)
  · rw [hu']; exact hk
  · rw [hs']; exact hT'
  · rw [hs', hu']; exact hf
theorem walk_dig0 (HE : EnvAt w0 E) {n : Nat} {log st X : List UInt8} {d : Tmp} (hX : dg n log st = X) (hn : n < 9223372036854775808) (hl : log.length = 32) (hs : st.length = 32)
    (hB : (toks.all fun t => t.prod != some i) = true) (hd : o.dst = some d) (hlt : Nat.ble (d + 1) a.tmps.size = true) (hw : Region.wanted o (yielded ops a.tmps) = true) (hev : E ≤ w0.heap.size)
    (hcall : ∀ (w : World) (K : Act → World → Prop) (Q : Exit → Act → World → Prop), Calls Tryd.prog 9 #[.pointer none, .int .i64 n, hv log, hv st] w (fun e w'' => ∃ v, e = .returned v ∧ K (a.put o.dst v) w'') → o.wp Tryd.prog a w K Q)
    (h : Walk Tryd.prog ops toks (Kp (fun _ => False) w0) Q (i + 1) rest ss (upd val i (gq (hv X))) (a.put o.dst (hv X))) :
    Walk Tryd.prog ops toks (Kp (fun _ => False) w0) Q i (o :: rest) ((.v [] fun _ g => g = gq (hv X)) :: ss) val a := by
  subst hX
  refine walk_v hw ⟨_, rfl⟩ (fun w hI => ?_) (by rintro g rfl; exact h)
  refine Loud.of_wp hd (Nat.le_of_ble_eq_true hlt) fun K Q' hK => hcall w K Q' ?_
  have hfr : Below w0.heap.size w0 w := hI.frame.below (Nat.le_refl _) fun _ h => h.elim
  refine (dig_none w E (HE.below hfr hev) n hn log st hl hs).mono ?_
  rintro e w' ⟨rfl, hb⟩
  exact ⟨_, rfl, hK _ _ ⟨gq _, rfl, rfl, outs_quiet hB hb⟩⟩
theorem walk_clash (HE : EnvAt w0 E) {F : Nat → Prop} {bt : Nat} {bl : List (List UInt8)} {d : Tmp} (y : Nat) {u : Tok} (hcl : Clash bl) (hl : ∀ l ∈ bl, l.length ≤ 1099511627776) (hn : bl.length ≤ 1099511627776)
    (hy : toks[y]? = some u) (hr : (u.rds.contains i || u.cons == some i) = true) (hu : u.at_ val = tapeA F bt bl)
    (hB : (toks.all fun t => t.prod != some i) = true) (hd : o.dst = some d) (hlt : Nat.ble (d + 1) a.tmps.size = true) (hw : Region.wanted o (yielded ops a.tmps) = true) (hev : E ≤ w0.heap.size)
    (hcall : ∀ (w : World) (K : Act → World → Prop) (Q : Exit → Act → World → Prop), Calls Tryd.prog 10 #[ptr bt 0] w (fun e w'' => ∃ v, e = .returned v ∧ K (a.put o.dst v) w'') → o.wp Tryd.prog a w K Q)
    (h : Walk Tryd.prog ops toks (Kp (fun _ => False) w0) Q (i + 1) rest ss (upd val i (gq (.bool true))) (a.put o.dst (.bool true))) :
    Walk Tryd.prog ops toks (Kp (fun _ => False) w0) Q i (o :: rest) ((.v [] fun _ g => g = gq (.bool true)) :: ss) val a := by
  refine walk_v hw ⟨_, rfl⟩ (fun w hI => ?_) (by rintro g rfl; exact h)
  have hT := ins_get hI y hy hr
  rw [hu] at hT
  refine Loud.of_wp hd (Nat.le_of_ble_eq_true hlt) fun K Q' hK => hcall w K Q' ?_
  have hfr : Below w0.heap.size w0 w := hI.frame.below (Nat.le_refl _) fun _ h => h.elim
  refine (clash_tape w E F bt bl hT (HE.below hfr hev) hl hn).mono ?_
  rintro e w' ⟨⟨r, rfl, hr⟩, hb⟩
  obtain rfl : r = true := hr.2 hcl
  exact ⟨_, rfl, hK _ _ ⟨gq _, rfl, rfl, outs_quiet hB hb⟩⟩
theorem walk_eqH {C : World → Prop} {p q : Operand} {t : TypeId} {b c : List UInt8} {d : Tmp} (ho : o.op = .binOp .eql 23 p q t)
    (hp : a.eval p = .agg (bcs b).toArray) (hq : a.eval q = .agg (bcs c).toArray) (hb : b.length = 32) (hc : c.length = 32) {r : Bool} (hr : decide (b = c) = r) (hd : o.dst = some d) (hlt : Nat.ble (d + 1) a.tmps.size = true) (hw : Region.wanted o (yielded ops a.tmps) = true)
    (h : Walk Tryd.prog ops toks C Q (i + 1) rest ss (upd val i (gq (.bool r))) (a.put o.dst (.bool r))) : Walk Tryd.prog ops toks C Q i (o :: rest) (.q :: ss) val a :=
  walk_q hw (fun _ _ => Same.of_wp (by rw [ho]; rfl) hd (Nat.le_of_ble_eq_true hlt) fun K Q' hK => wp_eqH ho hp hq hb hc (by rw [hr]; exact hK)) h
theorem walk_neH {C : World → Prop} {p q : Operand} {t : TypeId} {b c : List UInt8} {d : Tmp} (ho : o.op = .binOp .neq 23 p q t)
    (hp : a.eval p = .agg (bcs b).toArray) (hq : a.eval q = .agg (bcs c).toArray) (hb : b.length = 32) (hc : c.length = 32) {r : Bool} (hr : (!decide (b = c)) = r) (hd : o.dst = some d) (hlt : Nat.ble (d + 1) a.tmps.size = true) (hw : Region.wanted o (yielded ops a.tmps) = true)
    (h : Walk Tryd.prog ops toks C Q (i + 1) rest ss (upd val i (gq (.bool r))) (a.put o.dst (.bool r))) : Walk Tryd.prog ops toks C Q i (o :: rest) (.q :: ss) val a :=
  walk_q hw (fun _ _ => Same.of_wp (by rw [ho]; rfl) hd (Nat.le_of_ble_eq_true hlt) fun K Q' hK => wp_neH ho hp hq hb hc (by rw [hr]; exact hK)) h
end
theorem hvar_load {toks : List Tok} {i : Nat} {val : Nat → GV} {C : World → Prop} {b : Nat} {x : List UInt8} (y : Nat) {t : Tok} (hy : toks[y]? = some t) (hr : (t.rds.contains i || t.cons == some i) = true) (ht : t.at_ val = hvar b x) : ∀ w, Ins C toks i val w → w.rangeAt b 0 (bcs x) :=
  fun w hI => range_all (by have := ins_get hI y hy hr; rw [ht] at this; exact this)
set_option maxHeartbeats 32000000 in
set_option maxRecDepth 100000 in
theorem numbers (w : World) (E : Nat) (hE : EnvAt w E) (hEw : E = w.heap.size) (n m : Int) (a b : List UInt8) (ha : a.length = 32) (hb : b.length = 32) :
    Calls Tryd.prog 3 #[.int .i64 n, .int .i64 m, .agg (hcs [a, b]).toArray] w fun e w' => e = .returned (.bool true) ∧ Below w.heap.size w w' := by
  have HE := Lib.hid hE
  clear hE
  go_enter Tryd.func3, Tryd.ntmps3
  have M := Sep.start (fun _ => False) w
  go_wp2_with (first | (refine wl_box M (hcs [a, b]) rfl rfl rfl rfl ?_; clear M; intro b5 w5 M) | fail)
  refine (fit12 w5 E (HE.out.below M.out HE.out.le)).mono ?_
  rintro e w6 ⟨rfl, hb6⟩
  have M := M.below hb6
  clear hb6
  obtain ⟨N, hN, hN2⟩ := and_mask n
  obtain ⟨MM, hM, hM2⟩ := and_mask m
  go_wp2_with (fail)
  refine wp_draw M [told none [1, 3] _, tnew 4 (some 6) [] 23 (List.replicate 32 (.int .u8 0)), tnew 5 (some 7) [] 23 (List.replicate 32 (.int .u8 0)), ⟨some 6, none, [], [4], fun | [g] => hvar (blkOf g.1) a | _ => hvar 0 a⟩, ⟨some 7, none, [], [5], fun | [g] => hvar (blkOf g.1) b | _ => hvar 0 b⟩]
    [.q, .q, .q, .q, ospP, ospP, ospU, ospU] (by kernel_rfl) rfl (by kernel_rfl) ?_
  (apply walk_q rfl; (intro w1 hI; apply Same.of_wp rfl rfl (Nat.le_of_ble_eq_true rfl); intro KK QQ hK; simp only [Act.put, List.setIfInBounds_toArray, List.set_cons_succ, List.set_cons_zero] at hK; go_step; exact hK); simp only [Act.put, List.setIfInBounds_toArray, List.set_cons_succ, List.set_cons_zero])
  refine walk_loadn (cs := bcs a) rfl rfl tyHash (by rw [bcs_length, ha]) rfl (fun w hI => pts.range (ins_get hI 0 rfl rfl) 0 (hcs2_fst ha)) ?_
  simp only [Act.put, List.setIfInBounds_toArray, List.set_cons_succ, List.set_cons_zero]
  (apply walk_q rfl; (intro w1 hI; apply Same.of_wp rfl rfl (Nat.le_of_ble_eq_true rfl); intro KK QQ hK; simp only [Act.put, List.setIfInBounds_toArray, List.set_cons_succ, List.set_cons_zero] at hK; go_step; exact hK); simp only [Act.put, List.setIfInBounds_toArray, List.set_cons_succ, List.set_cons_zero])
  refine walk_loadn (cs := bcs b) rfl rfl tyHash (by rw [bcs_length, hb]) rfl (fun w hI => pts.range (ins_get hI 0 rfl rfl) 32 (hcs2_snd ha hb)) ?_
  simp only [Act.put, List.setIfInBounds_toArray, List.set_cons_succ, List.set_cons_zero]
  refine walk_alloc 1 rfl rfl rfl tyHash rfl rfl rfl (fun _ => rfl) fun b7 => ?_
  simp only [Act.put, List.setIfInBounds_toArray, List.set_cons_succ, List.set_cons_zero]
  refine walk_alloc 2 rfl rfl rfl tyHash rfl rfl rfl (fun _ => rfl) fun b8 => ?_
  simp only [Act.put, List.setIfInBounds_toArray, List.set_cons_succ, List.set_cons_zero]
  refine walk_store 1 3 (bcs a) rfl rfl rfl rfl tyHash rfl (by rw [bcs_length, ha]) (ones_bcs a) (by simp) rfl rfl rfl rfl rfl rfl ?_ ?_
  · rw [splice_all _ _ (by rw [bcs_length, ha]; rfl)]; rfl
  refine walk_store 2 4 (bcs b) rfl rfl rfl rfl tyHash rfl (by rw [bcs_length, hb]) (ones_bcs b) (by simp) rfl rfl rfl rfl rfl rfl ?_ ?_
  · rw [splice_all _ _ (by rw [bcs_length, hb]; rfl)]; rfl
  refine walk_nil fun w7 M => ?_
  have M : Sep (fun _ => False) w w7 [pts b5 24 (hcs [a, b]), hvar b7 a, hvar b8 b] := M
  obtain ⟨x7, y7, c, h7, hx7, hc, hca, hc32⟩ := flip7 a ha
  have l32 : (bcs a).length = 32 := by rw [bcs_length, ha]
  have H7 := Lib.hid h7
  have L32 := Lib.hid l32
  have HC := Lib.hid hc
  clear h7 l32 hc
  go_wp2_with (first | ((with_reducible refine wl_at ⟨some 23, _, _, _, _, _⟩ ?_); refine wl_loadn M rfl rfl rfl tyHash (by first | exact (.head _) | exact (.tail _ (.head _)) | exact (.tail _ (.tail _ (.head _))) | exact (.tail _ (.tail _ (.tail _ (.head _)))) | exact (.tail _ (.tail _ (.tail _ (.tail _ (.head _))))) | exact (.tail _ (.tail _ (.tail _ (.tail _ (.tail _ (.head _)))))) | exact (.tail _ (.tail _ (.tail _ (.tail _ (.tail _ (.tail _ (.head _))))))) | exact (.tail _ (.tail _ (.tail _ (.tail _ (.tail _ (.tail _ (.tail _ (.head _)))))))) | exact (.tail _ (.tail _ (.tail _ (.tail _ (.tail _ (.tail _ (.tail _ (.tail _ (.head _))))))))) | exact (.tail _ (.tail _ (.tail _ (.tail _ (.tail _ (.tail _ (.tail _ (.tail _ (.tail _ (.head _))))))))))) L32.out ?_; simp only [Act.put, List.setIfInBounds_toArray, List.set_cons_succ, List.set_cons_zero]) | ((with_reducible refine wl_at ⟨some 9, _, _, _, _, _⟩ ?_); refine wl_alloc M rfl rfl tyHash ?_; clear M; intro b9 w8 M; simp only [Act.put, List.setIfInBounds_toArray, List.set_cons_succ, List.set_cons_zero]) | ((with_reducible refine wl_at ⟨_, .store _ (.tmp 9) (.tmp 23), _, _, _, _⟩ ?_); refine wl_storen M (bcs a) rfl rfl rfl rfl tyHash rfl L32.out (ones_bcs a) (by first | exact .head | exact (.tail .head) | exact (.tail (.tail .head)) | exact (.tail (.tail (.tail .head))) | exact (.tail (.tail (.tail (.tail .head)))) | exact (.tail (.tail (.tail (.tail (.tail .head))))) | exact (.tail (.tail (.tail (.tail (.tail (.tail .head)))))) | exact (.tail (.tail (.tail (.tail (.tail (.tail (.tail .head))))))) | exact (.tail (.tail (.tail (.tail (.tail (.tail (.tail (.tail .head)))))))) | exact (.tail (.tail (.tail (.tail (.tail (.tail (.tail (.tail (.tail .head)))))))))) rfl ?_; clear M; intro w9 M; simp only [Act.put, List.setIfInBounds_toArray, List.set_cons_succ, List.set_cons_zero]) | ((with_reducible refine wl_at ⟨some 25, _, _, _, _, _⟩ ?_); refine wl_load1 M rfl rfl rfl tyU8 (by first | exact (.head _) | exact (.tail _ (.head _)) | exact (.tail _ (.tail _ (.head _))) | exact (.tail _ (.tail _ (.tail _ (.head _)))) | exact (.tail _ (.tail _ (.tail _ (.tail _ (.head _))))) | exact (.tail _ (.tail _ (.tail _ (.tail _ (.tail _ (.head _)))))) | exact (.tail _ (.tail _ (.tail _ (.tail _ (.tail _ (.tail _ (.head _))))))) | exact (.tail _ (.tail _ (.tail _ (.tail _ (.tail _ (.tail _ (.tail _ (.head _)))))))) | exact (.tail _ (.tail _ (.tail _ (.tail _ (.tail _ (.tail _ (.tail _ (.tail _ (.head _))))))))) | exact (.tail _ (.tail _ (.tail _ (.tail _ (.tail _ (.tail _ (.tail _ (.tail _ (.tail _ (.head _))))))))))) H7.out ?_; simp only [Act.put, List.setIfInBounds_toArray, List.set_cons_succ, List.set_cons_zero]) | (((with_reducible refine wl_at ⟨_, .store _ (.tmp 27) (.tmp 26), _, _, _, _⟩ ?_); refine wl_store M ([.int .u8 y7]) rfl rfl rfl rfl tyU8 rfl rfl (by intro u hu; simp at hu; subst hu; rfl) (by first | exact .head | exact (.tail .head) | exact (.tail (.tail .head)) | exact (.tail (.tail (.tail .head))) | exact (.tail (.tail (.tail (.tail .head)))) | exact (.tail (.tail (.tail (.tail (.tail .head))))) | exact (.tail (.tail (.tail (.tail (.tail (.tail .head)))))) | exact (.tail (.tail (.tail (.tail (.tail (.tail (.tail .head))))))) | exact (.tail (.tail (.tail (.tail (.tail (.tail (.tail (.tail .head)))))))) | exact (.tail (.tail (.tail (.tail (.tail (.tail (.tail (.tail (.tail .head)))))))))) (by rw [L32.out]; decide) ?_; clear M; intro w10 M; simp only [splice] at M; simp only [Act.put, List.setIfInBounds_toArray, List.set_cons_succ, List.set_cons_zero]); rw [HC.out] at M) | (((with_reducible refine wl_at ⟨some 29, _, _, _, _, _⟩ ?_); refine wl_box M ([.slice none 0 0]) rfl rfl rfl rfl ?_; clear M; intro b10 w11 M; simp only [Act.put, List.setIfInBounds_toArray, List.set_cons_succ, List.set_cons_zero]); have M := M.conv .head tape_new (fun _ h => h)) | ((with_reducible refine wl_at ⟨some 32, _, _, _, _, _⟩ ?_); refine wl_loadn M rfl rfl rfl tyHash (by first | exact (.head _) | exact (.tail _ (.head _)) | exact (.tail _ (.tail _ (.head _))) | exact (.tail _ (.tail _ (.tail _ (.head _)))) | exact (.tail _ (.tail _ (.tail _ (.tail _ (.head _))))) | exact (.tail _ (.tail _ (.tail _ (.tail _ (.tail _ (.head _)))))) | exact (.tail _ (.tail _ (.tail _ (.tail _ (.tail _ (.tail _ (.head _))))))) | exact (.tail _ (.tail _ (.tail _ (.tail _ (.tail _ (.tail _ (.tail _ (.head _)))))))) | exact (.tail _ (.tail _ (.tail _ (.tail _ (.tail _ (.tail _ (.tail _ (.tail _ (.head _))))))))) | exact (.tail _ (.tail _ (.tail _ (.tail _ (.tail _ (.tail _ (.tail _ (.tail _ (.tail _ (.head _))))))))))) L32.out ?_; simp only [Act.put, List.setIfInBounds_toArray, List.set_cons_succ, List.set_cons_zero]) | ((with_reducible refine wl_at ⟨some 33, _, _, _, _, _⟩ ?_); refine wl_loadn M rfl rfl rfl tyHash (by first | exact (.head _) | exact (.tail _ (.head _)) | exact (.tail _ (.tail _ (.head _))) | exact (.tail _ (.tail _ (.tail _ (.head _)))) | exact (.tail _ (.tail _ (.tail _ (.tail _ (.head _))))) | exact (.tail _ (.tail _ (.tail _ (.tail _ (.tail _ (.head _)))))) | exact (.tail _ (.tail _ (.tail _ (.tail _ (.tail _ (.tail _ (.head _))))))) | exact (.tail _ (.tail _ (.tail _ (.tail _ (.tail _ (.tail _ (.tail _ (.head _)))))))) | exact (.tail _ (.tail _ (.tail _ (.tail _ (.tail _ (.tail _ (.tail _ (.tail _ (.head _))))))))) | exact (.tail _ (.tail _ (.tail _ (.tail _ (.tail _ (.tail _ (.tail _ (.tail _ (.tail _ (.head _))))))))))) (by rw [bcs_length, hb]) ?_; simp only [Act.put, List.setIfInBounds_toArray, List.set_cons_succ, List.set_cons_zero]) | fail)
  have hfr := M.out
  have HF10 : ∀ k, (fun k => k = b10) k → E ≤ k := fun k hk => by
    rcases M.own _ (.head _) k hk with h | h
    · exact h.elim
    · exact Nat.le_trans HE.out.le h
  refine (dig_tape w11 E (fun k => k = b10) b10 [] (M.get 0 rfl) HF10 (by simp) (HE.out.below hfr HE.out.le) N (by omega) a b ha hb).mono ?_
  rintro e w12 ⟨rfl, F12, hk, hT, hf⟩
  have HF12 : ∀ k, F12 k → E ≤ k := fun k hk => by
    rcases hf k hk with h | h
    · exact HF10 k h
    · exact Nat.le_trans HE.out.le (Nat.le_trans hfr.size h)
  have M := M.repl .head hk hT hf
  clear hk hT hf hfr HF10
  have HF12 := Lib.hid HF12
  have hX32 : (dg N a b).length = 32 := sha_length _
  have hY1 : (dg MM a b).length = 32 := sha_length _
  have hY2 : (dg N c b).length = 32 := sha_length _
  have hY3 : (dg N b a).length = 32 := sha_length _
  obtain ⟨X, hX⟩ : ∃ X, dg N a b = X := ⟨_, rfl⟩
  obtain ⟨Y1, eY1⟩ : ∃ X, dg MM a b = X := ⟨_, rfl⟩
  obtain ⟨Y2, eY2⟩ : ∃ X, dg N c b = X := ⟨_, rfl⟩
  obtain ⟨Y3, eY3⟩ : ∃ X, dg N b a = X := ⟨_, rfl⟩
  rw [hX] at hX32 ⊢
  rw [eY1] at hY1
  rw [eY2] at hY2
  rw [eY3] at hY3
  have HX := Lib.hid hX
  have EY1 := Lib.hid eY1
  have EY2 := Lib.hid eY2
  have EY3 := Lib.hid eY3
  clear hX eY1 eY2 eY3 hx7 hN hM
  have lX : (bcs X).length = 32 := by rw [bcs_length, hX32]
  have LX := Lib.hid lX
  clear lX
  unfold hv
  go_wp2_with (first | ((with_reducible refine wl_at ⟨some 11, _, _, _, _, _⟩ ?_); refine wl_alloc M rfl rfl tyHash ?_; clear M; intro b11 w13 M; simp only [Act.put, List.setIfInBounds_toArray, List.set_cons_succ, List.set_cons_zero]) | ((with_reducible refine wl_at ⟨_, .store _ (.tmp 11) (.tmp 34), _, _, _, _⟩ ?_); refine wl_storen M (bcs X) rfl rfl rfl rfl tyHash rfl LX.out (ones_bcs X) (by first | exact .head | exact (.tail .head) | exact (.tail (.tail .head)) | exact (.tail (.tail (.tail .head))) | exact (.tail (.tail (.tail (.tail .head)))) | exact (.tail (.tail (.tail (.tail (.tail .head))))) | exact (.tail (.tail (.tail (.tail (.tail (.tail .head)))))) | exact (.tail (.tail (.tail (.tail (.tail (.tail (.tail .head))))))) | exact (.tail (.tail (.tail (.tail (.tail (.tail (.tail (.tail .head)))))))) | exact (.tail (.tail (.tail (.tail (.tail (.tail (.tail (.tail (.tail .head)))))))))) rfl ?_; clear M; intro w14 M; simp only [Act.put, List.setIfInBounds_toArray, List.set_cons_succ, List.set_cons_zero]) | fail)
  by_cases hnm : N = MM
  · subst hnm
    have P1 : Hid (Y1 = X) := Lib.hid (EY1.out.symm.trans HX.out)
    by_cases p3 : Y2 = X
    · have P3 := Lib.hid p3
      clear p3
      refine wp_draw M [told none [5, 18, 27] (hvar b11 X), told (some 4) [] (tapeA F12 b10 [dgIn N a b]), told none [15] (hvar b9 c), told none [] (pts b5 24 (hcs [a, b])), told none [2, 25, 30] (hvar b7 a), told none [3, 16, 24, 31] (hvar b8 b), ⟨some 4, some 17, [], [4], fun | [g] => tapeA g.2 b10 [dgIn N a b, dgIn N a b] | _ => tapeA (fun _ => False) b10 []⟩, ⟨some 17, none, [], [17], fun | [g] => tapeA g.2 b10 [dgIn N a b, dgIn N a b, dgIn N c b] | _ => tapeA (fun _ => False) b10 []⟩]
          [.q, .q, .q, .q, ospT E (.agg (bcs Y1).toArray), .q, .q, .q, .q, .q, .q, .q, .q, .q, .q, .q, .q, ospT E (.agg (bcs Y2).toArray), .q, .q, .q, .q, .q, .q, .q, .q, ospT E (.agg (bcs Y3).toArray), .q, .q, .q, .q, .q, .q, .q, .q, .q] (by kernel_rfl) rfl (by kernel_rfl) ?_
      (apply walk_q rfl; (intro w1 hI; apply Same.of_wp rfl rfl (Nat.le_of_ble_eq_true rfl); intro KK QQ hK; simp only [Act.put, List.setIfInBounds_toArray, List.set_cons_succ, List.set_cons_zero] at hK; go_step; exact hK); simp only [Act.put, List.setIfInBounds_toArray, List.set_cons_succ, List.set_cons_zero])
      (apply walk_q rfl; (intro w1 hI; apply Same.of_wp rfl rfl (Nat.le_of_ble_eq_true rfl); intro KK QQ hK; simp only [Act.put, List.setIfInBounds_toArray, List.set_cons_succ, List.set_cons_zero] at hK; go_step; exact hK); simp only [Act.put, List.setIfInBounds_toArray, List.set_cons_succ, List.set_cons_zero])
      (refine walk_loadn rfl rfl tyHash L32.out rfl (hvar_load 4 rfl rfl rfl) ?_; simp only [Act.put, List.setIfInBounds_toArray, List.set_cons_succ, List.set_cons_zero])
      (refine walk_loadn rfl rfl tyHash (by rw [bcs_length, hb]) rfl (hvar_load 5 rfl rfl rfl) ?_; simp only [Act.put, List.setIfInBounds_toArray, List.set_cons_succ, List.set_cons_zero])
      (refine walk_dig HE.out 1 6 EY1.out (by omega) ha hb (HF12.out) (by simp) rfl rfl rfl rfl rfl rfl rfl (fun _ => rfl) (fun _ => rfl) HE.out.le (by intro w K Q h; go_step; exact Calls.mono h (by rintro e w' ⟨v, rfl, h⟩; exact h)) fun F4 HF4 => ?_; replace HF4 := Lib.hid HF4; simp only [Act.put, List.setIfInBounds_toArray, List.set_cons_succ, List.set_cons_zero])
      (refine walk_loadn rfl rfl tyHash LX.out rfl (hvar_load 0 rfl rfl rfl) ?_; simp only [Act.put, List.setIfInBounds_toArray, List.set_cons_succ, List.set_cons_zero])
      (refine walk_eqH rfl rfl rfl hY1 hX32 (decide_eq_true P1.out) rfl rfl rfl ?_; simp only [Act.put, List.setIfInBounds_toArray, List.set_cons_succ, List.set_cons_zero])
      (apply walk_q rfl; (intro w1 hI; apply Same.of_wp rfl rfl (Nat.le_of_ble_eq_true rfl); intro KK QQ hK; simp only [Act.put, List.setIfInBounds_toArray, List.set_cons_succ, List.set_cons_zero] at hK; go_step; exact hK); simp only [Act.put, List.setIfInBounds_toArray, List.set_cons_succ, List.set_cons_zero])
      (apply walk_q rfl; (intro w1 hI; apply Same.of_wp rfl rfl (Nat.le_of_ble_eq_true rfl); intro KK QQ hK; simp only [Act.put, List.setIfInBounds_toArray, List.set_cons_succ, List.set_cons_zero] at hK; go_step; exact hK); simp only [Act.put, List.setIfInBounds_toArray, List.set_cons_succ, List.set_cons_zero])
      (apply walk_q rfl; (intro w1 hI; apply Same.of_wp rfl rfl (Nat.le_of_ble_eq_true rfl); intro KK QQ hK; simp only [Act.put, List.setIfInBounds_toArray, List.set_cons_succ, List.set_cons_zero] at hK; go_step; exact hK); simp only [Act.put, List.setIfInBounds_toArray, List.set_cons_succ, List.set_cons_zero])
      (apply walk_q rfl; (intro w1 hI; apply Same.of_wp rfl rfl (Nat.le_of_ble_eq_true rfl); intro KK QQ hK; simp only [Act.put, List.setIfInBounds_toArray, List.set_cons_succ, List.set_cons_zero] at hK; go_step; exact hK); simp only [Act.put, List.setIfInBounds_toArray, List.set_cons_succ, List.set_cons_zero])
      (apply walk_q rfl; (intro w1 hI; apply Same.of_wp rfl rfl (Nat.le_of_ble_eq_true rfl); intro KK QQ hK; simp only [Act.put, List.setIfInBounds_toArray, List.set_cons_succ, List.set_cons_zero] at hK; go_step; exact hK); simp only [Act.put, List.setIfInBounds_toArray, List.set_cons_succ, List.set_cons_zero])
      (apply walk_q rfl; (intro w1 hI; apply Same.of_wp rfl rfl (Nat.le_of_ble_eq_true rfl); intro KK QQ hK; simp only [Act.put, List.setIfInBounds_toArray, List.set_cons_succ, List.set_cons_zero] at hK; go_step; exact hK); simp only [Act.put, List.setIfInBounds_toArray, List.set_cons_succ, List.set_cons_zero])
      (apply walk_q rfl; (intro w1 hI; apply Same.of_wp rfl rfl (Nat.le_of_ble_eq_true rfl); intro KK QQ hK; simp only [Act.put, List.setIfInBounds_toArray, List.set_cons_succ, List.set_cons_zero] at hK; go_step; exact hK); simp only [Act.put, List.setIfInBounds_toArray, List.set_cons_succ, List.set_cons_zero])
      (apply walk_q rfl; (intro w1 hI; apply Same.of_wp rfl rfl (Nat.le_of_ble_eq_true rfl); intro KK QQ hK; simp only [Act.put, List.setIfInBounds_toArray, List.set_cons_succ, List.set_cons_zero] at hK; go_step; exact hK); simp only [Act.put, List.setIfInBounds_toArray, List.set_cons_succ, List.set_cons_zero])
      (refine walk_loadn rfl rfl tyHash (by rw [bcs_length, hc32]) rfl (hvar_load 2 rfl rfl rfl) ?_; simp only [Act.put, List.setIfInBounds_toArray, List.set_cons_succ, List.set_cons_zero])
      (refine walk_loadn rfl rfl tyHash (by rw [bcs_length, hb]) rfl (hvar_load 5 rfl rfl rfl) ?_; simp only [Act.put, List.setIfInBounds_toArray, List.set_cons_succ, List.set_cons_zero])
      (refine walk_dig HE.out 6 7 EY2.out (by omega) hc32 hb (HF4.out) (by simp) rfl rfl rfl rfl rfl rfl rfl (fun _ => rfl) (fun _ => rfl) HE.out.le (by intro w K Q h; go_step; exact Calls.mono h (by rintro e w' ⟨v, rfl, h⟩; exact h)) fun F17 HF17 => ?_; replace HF17 := Lib.hid HF17; simp only [Act.put, List.setIfInBounds_toArray, List.set_cons_succ, List.set_cons_zero])
      (refine walk_loadn rfl rfl tyHash LX.out rfl (hvar_load 0 rfl rfl rfl) ?_; simp only [Act.put, List.setIfInBounds_toArray, List.set_cons_succ, List.set_cons_zero])
      (refine walk_eqH rfl rfl rfl hY2 hX32 (decide_eq_true P3.out) rfl rfl rfl ?_; simp only [Act.put, List.setIfInBounds_toArray, List.set_cons_succ, List.set_cons_zero])
      (apply walk_q rfl; (intro w1 hI; apply Same.of_wp rfl rfl (Nat.le_of_ble_eq_true rfl); intro KK QQ hK; simp only [Act.put, List.setIfInBounds_toArray, List.set_cons_succ, List.set_cons_zero] at hK; go_step; exact hK); simp only [Act.put, List.setIfInBounds_toArray, List.set_cons_succ, List.set_cons_zero])
      (apply walk_q rfl; (intro w1 hI; apply Same.of_wp rfl rfl (Nat.le_of_ble_eq_true rfl); intro KK QQ hK; simp only [Act.put, List.setIfInBounds_toArray, List.set_cons_succ, List.set_cons_zero] at hK; go_step; exact hK); simp only [Act.put, List.setIfInBounds_toArray, List.set_cons_succ, List.set_cons_zero])
      (refine walk_skip rfl (by kernel_rfl) ?_; simp only [Act.put, List.setIfInBounds_toArray, List.set_cons_succ, List.set_cons_zero])
      (refine walk_skip rfl (by kernel_rfl) ?_; simp only [Act.put, List.setIfInBounds_toArray, List.set_cons_succ, List.set_cons_zero])
      (refine walk_skip rfl (by kernel_rfl) ?_; simp only [Act.put, List.setIfInBounds_toArray, List.set_cons_succ, List.set_cons_zero])
      (refine walk_skip rfl (by kernel_rfl) ?_; simp only [Act.put, List.setIfInBounds_toArray, List.set_cons_succ, List.set_cons_zero])
      (refine walk_skip rfl (by kernel_rfl) ?_; simp only [Act.put, List.setIfInBounds_toArray, List.set_cons_succ, List.set_cons_zero])
      (refine walk_skip rfl (by kernel_rfl) ?_; simp only [Act.put, List.setIfInBounds_toArray, List.set_cons_succ, List.set_cons_zero])
      (refine walk_skip rfl (by kernel_rfl) ?_; simp only [Act.put, List.setIfInBounds_toArray, List.set_cons_succ, List.set_cons_zero])
      (refine walk_skip rfl (by kernel_rfl) ?_; simp only [Act.put, List.setIfInBounds_toArray, List.set_cons_succ, List.set_cons_zero])
      (refine walk_skip rfl (by kernel_rfl) ?_; simp only [Act.put, List.setIfInBounds_toArray, List.set_cons_succ, List.set_cons_zero])
      (refine walk_skip rfl (by kernel_rfl) ?_; simp only [Act.put, List.setIfInBounds_toArray, List.set_cons_succ, List.set_cons_zero])
      (refine walk_skip rfl (by kernel_rfl) ?_; simp only [Act.put, List.setIfInBounds_toArray, List.set_cons_succ, List.set_cons_zero])
      (refine walk_skip rfl (by kernel_rfl) ?_; simp only [Act.put, List.setIfInBounds_toArray, List.set_cons_succ, List.set_cons_zero])
      (apply walk_q rfl; (intro w1 hI; apply Same.of_wp rfl rfl (Nat.le_of_ble_eq_true rfl); intro KK QQ hK; simp only [Act.put, List.setIfInBounds_toArray, List.set_cons_succ, List.set_cons_zero] at hK; go_step; exact hK); simp only [Act.put, List.setIfInBounds_toArray, List.set_cons_succ, List.set_cons_zero])
      (apply walk_q rfl; (intro w1 hI; apply Same.of_wp rfl rfl (Nat.le_of_ble_eq_true rfl); intro KK QQ hK; simp only [Act.put, List.setIfInBounds_toArray, List.set_cons_succ, List.set_cons_zero] at hK; go_step; exact hK); simp only [Act.put, List.setIfInBounds_toArray, List.set_cons_succ, List.set_cons_zero])
      refine walk_nil fun w20 M => ?_
      have M : Sep (fun _ => False) w w20 [hvar b11 X, hvar b9 c, pts b5 24 (hcs [a, b]), hvar b7 a, hvar b8 b, tapeA F17 b10 [dgIn N a b, dgIn N a b, dgIn N c b]] := M
      go_wp2_with (fail)
      refine wp_draw M [told none [4, 15] (hvar b11 X), told none [] (hvar b9 c), told none [] (pts b5 24 (hcs [a, b])), told none [1, 12] (hvar b7 a), told none [2, 13] (hvar b8 b), told none [24] (tapeA F17 b10 [dgIn N a b, dgIn N a b, dgIn N c b])]
          [.q, .q, .q, .v [] fun _ g => g = gq (.agg (bcs X).toArray), .q, .q, .q, .q, .q, .q, .q, .q, .q, .q, .v [] fun _ g => g = gq (.agg (bcs Y1).toArray), .q, .q, .q, .q, .q, .q, .q, .q, .q, .v [] fun _ g => g = gq (.bool true), .q, .q, .q] (by kernel_rfl) rfl (by kernel_rfl) ?_
      (apply walk_q rfl; (intro w1 hI; apply Same.of_wp rfl rfl (Nat.le_of_ble_eq_true rfl); intro KK QQ hK; simp only [Act.put, List.setIfInBounds_toArray, List.set_cons_succ, List.set_cons_zero] at hK; go_step; exact hK); simp only [Act.put, List.setIfInBounds_toArray, List.set_cons_succ, List.set_cons_zero])
      (refine walk_loadn rfl rfl tyHash L32.out rfl (hvar_load 3 rfl rfl rfl) ?_; simp only [Act.put, List.setIfInBounds_toArray, List.set_cons_succ, List.set_cons_zero])
      (refine walk_loadn rfl rfl tyHash (by rw [bcs_length, hb]) rfl (hvar_load 4 rfl rfl rfl) ?_; simp only [Act.put, List.setIfInBounds_toArray, List.set_cons_succ, List.set_cons_zero])
      (refine walk_dig0 HE.out HX.out (by omega) ha hb rfl rfl rfl rfl HE.out.le (by intro w K Q h; go_step; exact Calls.mono h (by rintro e w' ⟨v, rfl, h⟩; exact h)) ?_; simp only [Act.put, List.setIfInBounds_toArray, List.set_cons_succ, List.set_cons_zero])
      (refine walk_loadn rfl rfl tyHash LX.out rfl (hvar_load 0 rfl rfl rfl) ?_; simp only [Act.put, List.setIfInBounds_toArray, List.set_cons_succ, List.set_cons_zero])
      (refine walk_eqH rfl rfl rfl hX32 hX32 (decide_eq_true rfl) rfl rfl rfl ?_; simp only [Act.put, List.setIfInBounds_toArray, List.set_cons_succ, List.set_cons_zero])
      (apply walk_q rfl; (intro w1 hI; apply Same.of_wp rfl rfl (Nat.le_of_ble_eq_true rfl); intro KK QQ hK; simp only [Act.put, List.setIfInBounds_toArray, List.set_cons_succ, List.set_cons_zero] at hK; go_step; exact hK); simp only [Act.put, List.setIfInBounds_toArray, List.set_cons_succ, List.set_cons_zero])
      (apply walk_q rfl; (intro w1 hI; apply Same.of_wp rfl rfl (Nat.le_of_ble_eq_true rfl); intro KK QQ hK; simp only [Act.put, List.setIfInBounds_toArray, List.set_cons_succ, List.set_cons_zero] at hK; go_step; exact hK); simp only [Act.put, List.setIfInBounds_toArray, List.set_cons_succ, List.set_cons_zero])
      (apply walk_q rfl; (intro w1 hI; apply Same.of_wp rfl rfl (Nat.le_of_ble_eq_true rfl); intro KK QQ hK; simp only [Act.put, List.setIfInBounds_toArray, List.set_cons_succ, List.set_cons_zero] at hK; go_step; exact hK); simp only [Act.put, List.setIfInBounds_toArray, List.set_cons_succ, List.set_cons_zero])
      (apply walk_q rfl; (intro w1 hI; apply Same.of_wp rfl rfl (Nat.le_of_ble_eq_true rfl); intro KK QQ hK; simp only [Act.put, List.setIfInBounds_toArray, List.set_cons_succ, List.set_cons_zero] at hK; go_step; exact hK); simp only [Act.put, List.setIfInBounds_toArray, List.set_cons_succ, List.set_cons_zero])
      (apply walk_q rfl; (intro w1 hI; apply Same.of_wp rfl rfl (Nat.le_of_ble_eq_true rfl); intro KK QQ hK; simp only [Act.put, List.setIfInBounds_toArray, List.set_cons_succ, List.set_cons_zero] at hK; go_step; exact hK); simp only [Act.put, List.setIfInBounds_toArray, List.set_cons_succ, List.set_cons_zero])
      (apply walk_q rfl; (intro w1 hI; apply Same.of_wp rfl rfl (Nat.le_of_ble_eq_true rfl); intro KK QQ hK; simp only [Act.put, List.setIfInBounds_toArray, List.set_cons_succ, List.set_cons_zero] at hK; go_step; exact hK); simp only [Act.put, List.setIfInBounds_toArray, List.set_cons_succ, List.set_cons_zero])
      (refine walk_loadn rfl rfl tyHash L32.out rfl (hvar_load 3 rfl rfl rfl) ?_; simp only [Act.put, List.setIfInBounds_toArray, List.set_cons_succ, List.set_cons_zero])
      (refine walk_loadn rfl rfl tyHash (by rw [bcs_length, hb]) rfl (hvar_load 4 rfl rfl rfl) ?_; simp only [Act.put, List.setIfInBounds_toArray, List.set_cons_succ, List.set_cons_zero])
      (refine walk_dig0 HE.out EY1.out (by omega) ha hb rfl rfl rfl rfl HE.out.le (by intro w K Q h; go_step; exact Calls.mono h (by rintro e w' ⟨v, rfl, h⟩; exact h)) ?_; simp only [Act.put, List.setIfInBounds_toArray, List.set_cons_succ, List.set_cons_zero])
      (refine walk_loadn rfl rfl tyHash LX.out rfl (hvar_load 0 rfl rfl rfl) ?_; simp only [Act.put, List.setIfInBounds_toArray, List.set_cons_succ, List.set_cons_zero])
      (refine walk_eqH rfl rfl rfl hY1 hX32 (decide_eq_true P1.out) rfl rfl rfl ?_; simp only [Act.put, List.setIfInBounds_toArray, List.set_cons_succ, List.set_cons_zero])
      (apply walk_q rfl; (intro w1 hI; apply Same.of_wp rfl rfl (Nat.le_of_ble_eq_true rfl); intro KK QQ hK; simp only [Act.put, List.setIfInBounds_toArray, List.set_cons_succ, List.set_cons_zero] at hK; go_step; exact hK); simp only [Act.put, List.setIfInBounds_toArray, List.set_cons_succ, List.set_cons_zero])
      (apply walk_q rfl; (intro w1 hI; apply Same.of_wp rfl rfl (Nat.le_of_ble_eq_true rfl); intro KK QQ hK; simp only [Act.put, List.setIfInBounds_toArray, List.set_cons_succ, List.set_cons_zero] at hK; go_step; exact hK); simp only [Act.put, List.setIfInBounds_toArray, List.set_cons_succ, List.set_cons_zero])
      (apply walk_q rfl; (intro w1 hI; apply Same.of_wp rfl rfl (Nat.le_of_ble_eq_true rfl); intro KK QQ hK; simp only [Act.put, List.setIfInBounds_toArray, List.set_cons_succ, List.set_cons_zero] at hK; go_step; exact hK); simp only [Act.put, List.setIfInBounds_toArray, List.set_cons_succ, List.set_cons_zero])
      (apply walk_q rfl; (intro w1 hI; apply Same.of_wp rfl rfl (Nat.le_of_ble_eq_true rfl); intro KK QQ hK; simp only [Act.put, List.setIfInBounds_toArray, List.set_cons_succ, List.set_cons_zero] at hK; go_step; exact hK); simp only [Act.put, List.setIfInBounds_toArray, List.set_cons_succ, List.set_cons_zero])
      (apply walk_q rfl; (intro w1 hI; apply Same.of_wp rfl rfl (Nat.le_of_ble_eq_true rfl); intro KK QQ hK; simp only [Act.put, List.setIfInBounds_toArray, List.set_cons_succ, List.set_cons_zero] at hK; go_step; exact hK); simp only [Act.put, List.setIfInBounds_toArray, List.set_cons_succ, List.set_cons_zero])
      (apply walk_q rfl; (intro w1 hI; apply Same.of_wp rfl rfl (Nat.le_of_ble_eq_true rfl); intro KK QQ hK; simp only [Act.put, List.setIfInBounds_toArray, List.set_cons_succ, List.set_cons_zero] at hK; go_step; exact hK); simp only [Act.put, List.setIfInBounds_toArray, List.set_cons_succ, List.set_cons_zero])
      (apply walk_q rfl; (intro w1 hI; apply Same.of_wp rfl rfl (Nat.le_of_ble_eq_true rfl); intro KK QQ hK; simp only [Act.put, List.setIfInBounds_toArray, List.set_cons_succ, List.set_cons_zero] at hK; go_step; exact hK); simp only [Act.put, List.setIfInBounds_toArray, List.set_cons_succ, List.set_cons_zero])
      (refine walk_clash HE.out 5 (clash_of (dgIn N a b) (dgIn N c b) (by simp) (by simp) (fun e => hca (dgIn_log ha hc32 e).symm) (HX.out.trans (P3.out.symm.trans EY2.out.symm))) (by intro l hl; simp at hl; rcases hl with rfl | rfl | rfl <;> (rw [dgIn_len ‹_› ‹_›]; omega)) (by simp) rfl rfl rfl rfl rfl rfl rfl HE.out.le (by intro w K Q h; go_step; exact Calls.mono h (by rintro e w' ⟨v, rfl, h⟩; exact h)) ?_; simp only [Act.put, List.setIfInBounds_toArray, List.set_cons_succ, List.set_cons_zero])
      (apply walk_q rfl; (intro w1 hI; apply Same.of_wp rfl rfl (Nat.le_of_ble_eq_true rfl); intro KK QQ hK; simp only [Act.put, List.setIfInBounds_toArray, List.set_cons_succ, List.set_cons_zero] at hK; go_step; exact hK); simp only [Act.put, List.setIfInBounds_toArray, List.set_cons_succ, List.set_cons_zero])
      (apply walk_q rfl; (intro w1 hI; apply Same.of_wp rfl rfl (Nat.le_of_ble_eq_true rfl); intro KK QQ hK; simp only [Act.put, List.setIfInBounds_toArray, List.set_cons_succ, List.set_cons_zero] at hK; go_step; exact hK); simp only [Act.put, List.setIfInBounds_toArray, List.set_cons_succ, List.set_cons_zero])
      (apply walk_q rfl; (intro w1 hI; apply Same.of_wp rfl rfl (Nat.le_of_ble_eq_true rfl); intro KK QQ hK; simp only [Act.put, List.setIfInBounds_toArray, List.set_cons_succ, List.set_cons_zero] at hK; go_step; exact hK); simp only [Act.put, List.setIfInBounds_toArray, List.set_cons_succ, List.set_cons_zero])
      refine walk_nil fun w21 M => ?_
      go_wp2_with (fail)
      go_ret
      exact ⟨rfl, M.out⟩
    · by_cases p4 : Y3 = X
      · have P4 := Lib.hid p4
        clear p4
        by_cases p5 : a = b
        · have P5 := Lib.hid p5
          clear p5
          refine wp_draw M [told none [5, 18, 27] (hvar b11 X), told (some 4) [] (tapeA F12 b10 [dgIn N a b]), told none [15] (hvar b9 c), told none [] (pts b5 24 (hcs [a, b])), told none [2, 25, 30] (hvar b7 a), told none [3, 16, 24, 31] (hvar b8 b), ⟨some 4, some 17, [], [4], fun | [g] => tapeA g.2 b10 [dgIn N a b, dgIn N a b] | _ => tapeA (fun _ => False) b10 []⟩, ⟨some 17, some 26, [], [17], fun | [g] => tapeA g.2 b10 [dgIn N a b, dgIn N a b, dgIn N c b] | _ => tapeA (fun _ => False) b10 []⟩, ⟨some 26, none, [], [26], fun | [g] => tapeA g.2 b10 [dgIn N a b, dgIn N a b, dgIn N c b, dgIn N b a] | _ => tapeA (fun _ => False) b10 []⟩]
              [.q, .q, .q, .q, ospT E (.agg (bcs Y1).toArray), .q, .q, .q, .q, .q, .q, .q, .q, .q, .q, .q, .q, ospT E (.agg (bcs Y2).toArray), .q, .q, .q, .q, .q, .q, .q, .q, ospT E (.agg (bcs Y3).toArray), .q, .q, .q, .q, .q, .q, .q, .q, .q] (by kernel_rfl) rfl (by kernel_rfl) ?_
          (apply walk_q rfl; (intro w1 hI; apply Same.of_wp rfl rfl (Nat.le_of_ble_eq_true rfl); intro KK QQ hK; simp only [Act.put, List.setIfInBounds_toArray, List.set_cons_succ, List.set_cons_zero] at hK; go_step; exact hK); simp only [Act.put, List.setIfInBounds_toArray, List.set_cons_succ, List.set_cons_zero])
          (apply walk_q rfl; (intro w1 hI; apply Same.of_wp rfl rfl (Nat.le_of_ble_eq_true rfl); intro KK QQ hK; simp only [Act.put, List.setIfInBounds_toArray, List.set_cons_succ, List.set_cons_zero] at hK; go_step; exact hK); simp only [Act.put, List.setIfInBounds_toArray, List.set_cons_succ, List.set_cons_zero])
          (refine walk_loadn rfl rfl tyHash L32.out rfl (hvar_load 4 rfl rfl rfl) ?_; simp only [Act.put, List.setIfInBounds_toArray, List.set_cons_succ, List.set_cons_zero])
          (refine walk_loadn rfl rfl tyHash (by rw [bcs_length, hb]) rfl (hvar_load 5 rfl rfl rfl) ?_; simp only [Act.put, List.setIfInBounds_toArray, List.set_cons_succ, List.set_cons_zero])
          (refine walk_dig HE.out 1 6 EY1.out (by omega) ha hb (HF12.out) (by simp) rfl rfl rfl rfl rfl rfl rfl (fun _ => rfl) (fun _ => rfl) HE.out.le (by intro w K Q h; go_step; exact Calls.mono h (by rintro e w' ⟨v, rfl, h⟩; exact h)) fun F4 HF4 => ?_; replace HF4 := Lib.hid HF4; simp only [Act.put, List.setIfInBounds_toArray, List.set_cons_succ, List.set_cons_zero])
          (refine walk_loadn rfl rfl tyHash LX.out rfl (hvar_load 0 rfl rfl rfl) ?_; simp only [Act.put, List.setIfInBounds_toArray, List.set_cons_succ, List.set_cons_zero])
          (refine walk_eqH rfl rfl rfl hY1 hX32 (decide_eq_true P1.out) rfl rfl rfl ?_; simp only [Act.put, List.setIfInBounds_toArray, List.set_cons_succ, List.set_cons_zero])
          (apply walk_q rfl; (intro w1 hI; apply Same.of_wp rfl rfl (Nat.le_of_ble_eq_true rfl); intro KK QQ hK; simp only [Act.put, List.setIfInBounds_toArray, List.set_cons_succ, List.set_cons_zero] at hK; go_step; exact hK); simp only [Act.put, List.setIfInBounds_toArray, List.set_cons_succ, List.set_cons_zero])
          (apply walk_q rfl; (intro w1 hI; apply Same.of_wp rfl rfl (Nat.le_of_ble_eq_true rfl); intro KK QQ hK; simp only [Act.put, List.setIfInBounds_toArray, List.set_cons_succ, List.set_cons_zero] at hK; go_step; exact hK); simp only [Act.put, List.setIfInBounds_toArray, List.set_cons_succ, List.set_cons_zero])
          (apply walk_q rfl; (intro w1 hI; apply Same.of_wp rfl rfl (Nat.le_of_ble_eq_true rfl); intro KK QQ hK; simp only [Act.put, List.setIfInBounds_toArray, List.set_cons_succ, List.set_cons_zero] at hK; go_step; exact hK); simp only [Act.put, List.setIfInBounds_toArray, List.set_cons_succ, List.set_cons_zero])
          (apply walk_q rfl; (intro w1 hI; apply Same.of_wp rfl rfl (Nat.le_of_ble_eq_true rfl); intro KK QQ hK; simp only [Act.put, List.setIfInBounds_toArray, List.set_cons_succ, List.set_cons_zero] at hK; go_step; exact hK); simp only [Act.put, List.setIfInBounds_toArray, List.set_cons_succ, List.set_cons_zero])
          (apply walk_q rfl; (intro w1 hI; apply Same.of_wp rfl rfl (Nat.le_of_ble_eq_true rfl); intro KK QQ hK; simp only [Act.put, List.setIfInBounds_toArray, List.set_cons_succ, List.set_cons_zero] at hK; go_step; exact hK); simp only [Act.put, List.setIfInBounds_toArray, List.set_cons_succ, List.set_cons_zero])
          (apply walk_q rfl; (intro w1 hI; apply Same.of_wp rfl rfl (Nat.le_of_ble_eq_true rfl); intro KK QQ hK; simp only [Act.put, List.setIfInBounds_toArray, List.set_cons_succ, List.set_cons_zero] at hK; go_step; exact hK); simp only [Act.put, List.setIfInBounds_toArray, List.set_cons_succ, List.set_cons_zero])
          (apply walk_q rfl; (intro w1 hI; apply Same.of_wp rfl rfl (Nat.le_of_ble_eq_true rfl); intro KK QQ hK; simp only [Act.put, List.setIfInBounds_toArray, List.set_cons_succ, List.set_cons_zero] at hK; go_step; exact hK); simp only [Act.put, List.setIfInBounds_toArray, List.set_cons_succ, List.set_cons_zero])
          (apply walk_q rfl; (intro w1 hI; apply Same.of_wp rfl rfl (Nat.le_of_ble_eq_true rfl); intro KK QQ hK; simp only [Act.put, List.setIfInBounds_toArray, List.set_cons_succ, List.set_cons_zero] at hK; go_step; exact hK); simp only [Act.put, List.setIfInBounds_toArray, List.set_cons_succ, List.set_cons_zero])
          (refine walk_loadn rfl rfl tyHash (by rw [bcs_length, hc32]) rfl (hvar_load 2 rfl rfl rfl) ?_; simp only [Act.put, List.setIfInBounds_toArray, List.set_cons_succ, List.set_cons_zero])
          (refine walk_loadn rfl rfl tyHash (by rw [bcs_length, hb]) rfl (hvar_load 5 rfl rfl rfl) ?_; simp only [Act.put, List.setIfInBounds_toArray, List.set_cons_succ, List.set_cons_zero])
          (refine walk_dig HE.out 6 7 EY2.out (by omega) hc32 hb (HF4.out) (by simp) rfl rfl rfl rfl rfl rfl rfl (fun _ => rfl) (fun _ => rfl) HE.out.le (by intro w K Q h; go_step; exact Calls.mono h (by rintro e w' ⟨v, rfl, h⟩; exact h)) fun F17 HF17 => ?_; replace HF17 := Lib.hid HF17; simp only [Act.put, List.setIfInBounds_toArray, List.set_cons_succ, List.set_cons_zero])
          (refine walk_loadn rfl rfl tyHash LX.out rfl (hvar_load 0 rfl rfl rfl) ?_; simp only [Act.put, List.setIfInBounds_toArray, List.set_cons_succ, List.set_cons_zero])
          (refine walk_eqH rfl rfl rfl hY2 hX32 (decide_eq_false p3) rfl rfl rfl ?_; simp only [Act.put, List.setIfInBounds_toArray, List.set_cons_succ, List.set_cons_zero])
          (apply walk_q rfl; (intro w1 hI; apply Same.of_wp rfl rfl (Nat.le_of_ble_eq_true rfl); intro KK QQ hK; simp only [Act.put, List.setIfInBounds_toArray, List.set_cons_succ, List.set_cons_zero] at hK; go_step; exact hK); simp only [Act.put, List.setIfInBounds_toArray, List.set_cons_succ, List.set_cons_zero])
          (apply walk_q rfl; (intro w1 hI; apply Same.of_wp rfl rfl (Nat.le_of_ble_eq_true rfl); intro KK QQ hK; simp only [Act.put, List.setIfInBounds_toArray, List.set_cons_succ, List.set_cons_zero] at hK; go_step; exact hK); simp only [Act.put, List.setIfInBounds_toArray, List.set_cons_succ, List.set_cons_zero])
          (apply walk_q rfl; (intro w1 hI; apply Same.of_wp rfl rfl (Nat.le_of_ble_eq_true rfl); intro KK QQ hK; simp only [Act.put, List.setIfInBounds_toArray, List.set_cons_succ, List.set_cons_zero] at hK; go_step; exact hK); simp only [Act.put, List.setIfInBounds_toArray, List.set_cons_succ, List.set_cons_zero])
          (apply walk_q rfl; (intro w1 hI; apply Same.of_wp rfl rfl (Nat.le_of_ble_eq_true rfl); intro KK QQ hK; simp only [Act.put, List.setIfInBounds_toArray, List.set_cons_succ, List.set_cons_zero] at hK; go_step; exact hK); simp only [Act.put, List.setIfInBounds_toArray, List.set_cons_succ, List.set_cons_zero])
          (refine walk_loadn rfl rfl tyHash (by rw [bcs_length, hb]) rfl (hvar_load 5 rfl rfl rfl) ?_; simp only [Act.put, List.setIfInBounds_toArray, List.set_cons_succ, List.set_cons_zero])
          (refine walk_loadn rfl rfl tyHash L32.out rfl (hvar_load 4 rfl rfl rfl) ?_; simp only [Act.put, List.setIfInBounds_toArray, List.set_cons_succ, List.set_cons_zero])
          (refine walk_dig HE.out 7 8 EY3.out (by omega) hb ha (HF17.out) (by simp) rfl rfl rfl rfl rfl rfl rfl (fun _ => rfl) (fun _ => rfl) HE.out.le (by intro w K Q h; go_step; exact Calls.mono h (by rintro e w' ⟨v, rfl, h⟩; exact h)) fun F26 HF26 => ?_; replace HF26 := Lib.hid HF26; simp only [Act.put, List.setIfInBounds_toArray, List.set_cons_succ, List.set_cons_zero])
          (refine walk_loadn rfl rfl tyHash LX.out rfl (hvar_load 0 rfl rfl rfl) ?_; simp only [Act.put, List.setIfInBounds_toArray, List.set_cons_succ, List.set_cons_zero])
          (refine walk_eqH rfl rfl rfl hY3 hX32 (decide_eq_true P4.out) rfl rfl rfl ?_; simp only [Act.put, List.setIfInBounds_toArray, List.set_cons_succ, List.set_cons_zero])
          (apply walk_q rfl; (intro w1 hI; apply Same.of_wp rfl rfl (Nat.le_of_ble_eq_true rfl); intro KK QQ hK; simp only [Act.put, List.setIfInBounds_toArray, List.set_cons_succ, List.set_cons_zero] at hK; go_step; exact hK); simp only [Act.put, List.setIfInBounds_toArray, List.set_cons_succ, List.set_cons_zero])
          (refine walk_loadn rfl rfl tyHash L32.out rfl (hvar_load 4 rfl rfl rfl) ?_; simp only [Act.put, List.setIfInBounds_toArray, List.set_cons_succ, List.set_cons_zero])
          (refine walk_loadn rfl rfl tyHash (by rw [bcs_length, hb]) rfl (hvar_load 5 rfl rfl rfl) ?_; simp only [Act.put, List.setIfInBounds_toArray, List.set_cons_succ, List.set_cons_zero])
          (refine walk_neH rfl rfl rfl ha hb (by rw [decide_eq_true P5.out, Bool.not_true]) rfl rfl rfl ?_; simp only [Act.put, List.setIfInBounds_toArray, List.set_cons_succ, List.set_cons_zero])
          (apply walk_q rfl; (intro w1 hI; apply Same.of_wp rfl rfl (Nat.le_of_ble_eq_true rfl); intro KK QQ hK; simp only [Act.put, List.setIfInBounds_toArray, List.set_cons_succ, List.set_cons_zero] at hK; go_step; exact hK); simp only [Act.put, List.setIfInBounds_toArray, List.set_cons_succ, List.set_cons_zero])
          (apply walk_q rfl; (intro w1 hI; apply Same.of_wp rfl rfl (Nat.le_of_ble_eq_true rfl); intro KK QQ hK; simp only [Act.put, List.setIfInBounds_toArray, List.set_cons_succ, List.set_cons_zero] at hK; go_step; exact hK); simp only [Act.put, List.setIfInBounds_toArray, List.set_cons_succ, List.set_cons_zero])
          (apply walk_q rfl; (intro w1 hI; apply Same.of_wp rfl rfl (Nat.le_of_ble_eq_true rfl); intro KK QQ hK; simp only [Act.put, List.setIfInBounds_toArray, List.set_cons_succ, List.set_cons_zero] at hK; go_step; exact hK); simp only [Act.put, List.setIfInBounds_toArray, List.set_cons_succ, List.set_cons_zero])
          refine walk_nil fun w20 M => ?_
          have M : Sep (fun _ => False) w w20 [hvar b11 X, hvar b9 c, pts b5 24 (hcs [a, b]), hvar b7 a, hvar b8 b, tapeA F26 b10 [dgIn N a b, dgIn N a b, dgIn N c b, dgIn N b a]] := M
          go_wp2_with (fail)
          refine wp_draw M [told none [4, 15] (hvar b11 X), told none [] (hvar b9 c), told none [] (pts b5 24 (hcs [a, b])), told none [1, 12] (hvar b7 a), told none [2, 13] (hvar b8 b), told none [24] (tapeA F26 b10 [dgIn N a b, dgIn N a b, dgIn N c b, dgIn N b a])]
              [.q, .q, .q, .v [] fun _ g => g = gq (.agg (bcs X).toArray), .q, .q, .q, .q, .q, .q, .q, .q, .q, .q, .v [] fun _ g => g = gq (.agg (bcs Y1).toArray), .q, .q, .q, .q, .q, .q, .q, .q, .q, .v [] fun _ g => g = gq (.bool true), .q, .q, .q] (by kernel_rfl) rfl (by kernel_rfl) ?_
          (apply walk_q rfl; (intro w1 hI; apply Same.of_wp rfl rfl (Nat.le_of_ble_eq_true rfl); intro KK QQ hK; simp only [Act.put, List.setIfInBounds_toArray, List.set_cons_succ, List.set_cons_zero] at hK; go_step; exact hK); simp only [Act.put, List.setIfInBounds_toArray, List.set_cons_succ, List.set_cons_zero])
          (refine walk_loadn rfl rfl tyHash L32.out rfl (hvar_load 3 rfl rfl rfl) ?_; simp only [Act.put, List.setIfInBounds_toArray, List.set_cons_succ, List.set_cons_zero])
          (refine walk_loadn rfl rfl tyHash (by rw [bcs_length, hb]) rfl (hvar_load 4 rfl rfl rfl) ?_; simp only [Act.put, List.setIfInBounds_toArray, List.set_cons_succ, List.set_cons_zero])
          (refine walk_dig0 HE.out HX.out (by omega) ha hb rfl rfl rfl rfl HE.out.le (by intro w K Q h; go_step; exact Calls.mono h (by rintro e w' ⟨v, rfl, h⟩; exact h)) ?_; simp only [Act.put, List.setIfInBounds_toArray, List.set_cons_succ, List.set_cons_zero])
          (refine walk_loadn rfl rfl tyHash LX.out rfl (hvar_load 0 rfl rfl rfl) ?_; simp only [Act.put, List.setIfInBounds_toArray, List.set_cons_succ, List.set_cons_zero])
          (refine walk_eqH rfl rfl rfl hX32 hX32 (decide_eq_true rfl) rfl rfl rfl ?_; simp only [Act.put, List.setIfInBounds_toArray, List.set_cons_succ, List.set_cons_zero])
          (apply walk_q rfl; (intro w1 hI; apply Same.of_wp rfl rfl (Nat.le_of_ble_eq_true rfl); intro KK QQ hK; simp only [Act.put, List.setIfInBounds_toArray, List.set_cons_succ, List.set_cons_zero] at hK; go_step; exact hK); simp only [Act.put, List.setIfInBounds_toArray, List.set_cons_succ, List.set_cons_zero])
          (apply walk_q rfl; (intro w1 hI; apply Same.of_wp rfl rfl (Nat.le_of_ble_eq_true rfl); intro KK QQ hK; simp only [Act.put, List.setIfInBounds_toArray, List.set_cons_succ, List.set_cons_zero] at hK; go_step; exact hK); simp only [Act.put, List.setIfInBounds_toArray, List.set_cons_succ, List.set_cons_zero])
          (apply walk_q rfl; (intro w1 hI; apply Same.of_wp rfl rfl (Nat.le_of_ble_eq_true rfl); intro KK QQ hK; simp only [Act.put, List.setIfInBounds_toArray, List.set_cons_succ, List.set_cons_zero] at hK; go_step; exact hK); simp only [Act.put, List.setIfInBounds_toArray, List.set_cons_succ, List.set_cons_zero])
          (apply walk_q rfl; (intro w1 hI; apply Same.of_wp rfl rfl (Nat.le_of_ble_eq_true rfl); intro KK QQ hK; simp only [Act.put, List.setIfInBounds_toArray, List.set_cons_succ, List.set_cons_zero] at hK; go_step; exact hK); simp only [Act.put, List.setIfInBounds_toArray, List.set_cons_succ, List.set_cons_zero])
          (apply walk_q rfl; (intro w1 hI; apply Same.of_wp rfl rfl (Nat.le_of_ble_eq_true rfl); intro KK QQ hK; simp only [Act.put, List.setIfInBounds_toArray, List.set_cons_succ, List.set_cons_zero] at hK; go_step; exact hK); simp only [Act.put, List.setIfInBounds_toArray, List.set_cons_succ, List.set_cons_zero])
          (apply walk_q rfl; (intro w1 hI; apply Same.of_wp rfl rfl (Nat.le_of_ble_eq_true rfl); intro KK QQ hK; simp only [Act.put, List.setIfInBounds_toArray, List.set_cons_succ, List.set_cons_zero] at hK; go_step; exact hK); simp only [Act.put, List.setIfInBounds_toArray, List.set_cons_succ, List.set_cons_zero])
          (refine walk_loadn rfl rfl tyHash L32.out rfl (hvar_load 3 rfl rfl rfl) ?_; simp only [Act.put, List.setIfInBounds_toArray, List.set_cons_succ, List.set_cons_zero])
          (refine walk_loadn rfl rfl tyHash (by rw [bcs_length, hb]) rfl (hvar_load 4 rfl rfl rfl) ?_; simp only [Act.put, List.setIfInBounds_toArray, List.set_cons_succ, List.set_cons_zero])
          (refine walk_dig0 HE.out EY1.out (by omega) ha hb rfl rfl rfl rfl HE.out.le (by intro w K Q h; go_step; exact Calls.mono h (by rintro e w' ⟨v, rfl, h⟩; exact h)) ?_; simp only [Act.put, List.setIfInBounds_toArray, List.set_cons_succ, List.set_cons_zero])
          (refine walk_loadn rfl rfl tyHash LX.out rfl (hvar_load 0 rfl rfl rfl) ?_; simp only [Act.put, List.setIfInBounds_toArray, List.set_cons_succ, List.set_cons_zero])
          (refine walk_eqH rfl rfl rfl hY1 hX32 (decide_eq_true P1.out) rfl rfl rfl ?_; simp only [Act.put, List.setIfInBounds_toArray, List.set_cons_succ, List.set_cons_zero])
          (apply walk_q rfl; (intro w1 hI; apply Same.of_wp rfl rfl (Nat.le_of_ble_eq_true rfl); intro KK QQ hK; simp only [Act.put, List.setIfInBounds_toArray, List.set_cons_succ, List.set_cons_zero] at hK; go_step; exact hK); simp only [Act.put, List.setIfInBounds_toArray, List.set_cons_succ, List.set_cons_zero])
          (apply walk_q rfl; (intro w1 hI; apply Same.of_wp rfl rfl (Nat.le_of_ble_eq_true rfl); intro KK QQ hK; simp only [Act.put, List.setIfInBounds_toArray, List.set_cons_succ, List.set_cons_zero] at hK; go_step; exact hK); simp only [Act.put, List.setIfInBounds_toArray, List.set_cons_succ, List.set_cons_zero])
          (apply walk_q rfl; (intro w1 hI; apply Same.of_wp rfl rfl (Nat.le_of_ble_eq_true rfl); intro KK QQ hK; simp only [Act.put, List.setIfInBounds_toArray, List.set_cons_succ, List.set_cons_zero] at hK; go_step; exact hK); simp only [Act.put, List.setIfInBounds_toArray, List.set_cons_succ, List.set_cons_zero])
          (apply walk_q rfl; (intro w1 hI; apply Same.of_wp rfl rfl (Nat.le_of_ble_eq_true rfl); intro KK QQ hK; simp only [Act.put, List.setIfInBounds_toArray, List.set_cons_succ, List.set_cons_zero] at hK; go_step; exact hK); simp only [Act.put, List.setIfInBounds_toArray, List.set_cons_succ, List.set_cons_zero])
          (apply walk_q rfl; (intro w1 hI; apply Same.of_wp rfl rfl (Nat.le_of_ble_eq_true rfl); intro KK QQ hK; simp only [Act.put, List.setIfInBounds_toArray, List.set_cons_succ, List.set_cons_zero] at hK; go_step; exact hK); simp only [Act.put, List.setIfInBounds_toArray, List.set_cons_succ, List.set_cons_zero])
          (apply walk_q rfl; (intro w1 hI; apply Same.of_wp rfl rfl (Nat.le_of_ble_eq_true rfl); intro KK QQ hK; simp only [Act.put, List.setIfInBounds_toArray, List.set_cons_succ, List.set_cons_zero] at hK; go_step; exact hK); simp only [Act.put, List.setIfInBounds_toArray, List.set_cons_succ, List.set_cons_zero])
          (refine walk_skip rfl (by kernel_rfl) ?_; simp only [Act.put, List.setIfInBounds_toArray, List.set_cons_succ, List.set_cons_zero])
          (refine walk_skip rfl (by kernel_rfl) ?_; simp only [Act.put, List.setIfInBounds_toArray, List.set_cons_succ, List.set_cons_zero])
          (apply walk_q rfl; (intro w1 hI; apply Same.of_wp rfl rfl (Nat.le_of_ble_eq_true rfl); intro KK QQ hK; simp only [Act.put, List.setIfInBounds_toArray, List.set_cons_succ, List.set_cons_zero] at hK; go_step; exact hK); simp only [Act.put, List.setIfInBounds_toArray, List.set_cons_succ, List.set_cons_zero])
          (apply walk_q rfl; (intro w1 hI; apply Same.of_wp rfl rfl (Nat.le_of_ble_eq_true rfl); intro KK QQ hK; simp only [Act.put, List.setIfInBounds_toArray, List.set_cons_succ, List.set_cons_zero] at hK; go_step; exact hK); simp only [Act.put, List.setIfInBounds_toArray, List.set_cons_succ, List.set_cons_zero])
          (apply walk_q rfl; (intro w1 hI; apply Same.of_wp rfl rfl (Nat.le_of_ble_eq_true rfl); intro KK QQ hK; simp only [Act.put, List.setIfInBounds_toArray, List.set_cons_succ, List.set_cons_zero] at hK; go_step; exact hK); simp only [Act.put, List.setIfInBounds_toArray, List.set_cons_succ, List.set_cons_zero])
          refine walk_nil fun w21 M => ?_
          go_wp2_with (fail)
          go_ret
          exact ⟨rfl, M.out⟩
        · refine wp_draw M [told none [5, 18, 27] (hvar b11 X), told (some 4) [] (tapeA F12 b10 [dgIn N a b]), told none [15] (hvar b9 c), told none [] (pts b5 24 (hcs [a, b])), told none [2, 25, 30] (hvar b7 a), told none [3, 16, 24, 31] (hvar b8 b), ⟨some 4, some 17, [], [4], fun | [g] => tapeA g.2 b10 [dgIn N a b, dgIn N a b] | _ => tapeA (fun _ => False) b10 []⟩, ⟨some 17, some 26, [], [17], fun | [g] => tapeA g.2 b10 [dgIn N a b, dgIn N a b, dgIn N c b] | _ => tapeA (fun _ => False) b10 []⟩, ⟨some 26, none, [], [26], fun | [g] => tapeA g.2 b10 [dgIn N a b, dgIn N a b, dgIn N c b, dgIn N b a] | _ => tapeA (fun _ => False) b10 []⟩]
              [.q, .q, .q, .q, ospT E (.agg (bcs Y1).toArray), .q, .q, .q, .q, .q, .q, .q, .q, .q, .q, .q, .q, ospT E (.agg (bcs Y2).toArray), .q, .q, .q, .q, .q, .q, .q, .q, ospT E (.agg (bcs Y3).toArray), .q, .q, .q, .q, .q, .q, .q, .q, .q] (by kernel_rfl) rfl (by kernel_rfl) ?_
          (apply walk_q rfl; (intro w1 hI; apply Same.of_wp rfl rfl (Nat.le_of_ble_eq_true rfl); intro KK QQ hK; simp only [Act.put, List.setIfInBounds_toArray, List.set_cons_succ, List.set_cons_zero] at hK; go_step; exact hK); simp only [Act.put, List.setIfInBounds_toArray, List.set_cons_succ, List.set_cons_zero])
          (apply walk_q rfl; (intro w1 hI; apply Same.of_wp rfl rfl (Nat.le_of_ble_eq_true rfl); intro KK QQ hK; simp only [Act.put, List.setIfInBounds_toArray, List.set_cons_succ, List.set_cons_zero] at hK; go_step; exact hK); simp only [Act.put, List.setIfInBounds_toArray, List.set_cons_succ, List.set_cons_zero])
          (refine walk_loadn rfl rfl tyHash L32.out rfl (hvar_load 4 rfl rfl rfl) ?_; simp only [Act.put, List.setIfInBounds_toArray, List.set_cons_succ, List.set_cons_zero])
          (refine walk_loadn rfl rfl tyHash (by rw [bcs_length, hb]) rfl (hvar_load 5 rfl rfl rfl) ?_; simp only [Act.put, List.setIfInBounds_toArray, List.set_cons_succ, List.set_cons_zero])
          (refine walk_dig HE.out 1 6 EY1.out (by omega) ha hb (HF12.out) (by simp) rfl rfl rfl rfl rfl rfl rfl (fun _ => rfl) (fun _ => rfl) HE.out.le (by intro w K Q h; go_step; exact Calls.mono h (by rintro e w' ⟨v, rfl, h⟩; exact h)) fun F4 HF4 => ?_; replace HF4 := Lib.hid HF4; simp only [Act.put, List.setIfInBounds_toArray, List.set_cons_succ, List.set_cons_zero])
          (refine walk_loadn rfl rfl tyHash LX.out rfl (hvar_load 0 rfl rfl rfl) ?_; simp only [Act.put, List.setIfInBounds_toArray, List.set_cons_succ, List.set_cons_zero])
          (refine walk_eqH rfl rfl rfl hY1 hX32 (decide_eq_true P1.out) rfl rfl rfl ?_; simp only [Act.put, List.setIfInBounds_toArray, List.set_cons_succ, List.set_cons_zero])
          (apply walk_q rfl; (intro w1 hI; apply Same.of_wp rfl rfl (Nat.le_of_ble_eq_true rfl); intro KK QQ hK; simp only [Act.put, List.setIfInBounds_toArray, List.set_cons_succ, List.set_cons_zero] at hK; go_step; exact hK); simp only [Act.put, List.setIfInBounds_toArray, List.set_cons_succ, List.set_cons_zero])
          (apply walk_q rfl; (intro w1 hI; apply Same.of_wp rfl rfl (Nat.le_of_ble_eq_true rfl); intro KK QQ hK; simp only [Act.put, List.setIfInBounds_toArray, List.set_cons_succ, List.set_cons_zero] at hK; go_step; exact hK); simp only [Act.put, List.setIfInBounds_toArray, List.set_cons_succ, List.set_cons_zero])
          (apply walk_q rfl; (intro w1 hI; apply Same.of_wp rfl rfl (Nat.le_of_ble_eq_true rfl); intro KK QQ hK; simp only [Act.put, List.setIfInBounds_toArray, List.set_cons_succ, List.set_cons_zero] at hK; go_step; exact hK); simp only [Act.put, List.setIfInBounds_toArray, List.set_cons_succ, List.set_cons_zero])
          (apply walk_q rfl; (intro w1 hI; apply Same.of_wp rfl rfl (Nat.le_of_ble_eq_true rfl); intro KK QQ hK; simp only [Act.put, List.setIfInBounds_toArray, List.set_cons_succ, List.set_cons_zero] at hK; go_step; exact hK); simp only [Act.put, List.setIfInBounds_toArray, List.set_cons_succ, List.set_cons_zero])
          (apply walk_q rfl; (intro w1 hI; apply Same.of_wp rfl rfl (Nat.le_of_ble_eq_true rfl); intro KK QQ hK; simp only [Act.put, List.setIfInBounds_toArray, List.set_cons_succ, List.set_cons_zero] at hK; go_step; exact hK); simp only [Act.put, List.setIfInBounds_toArray, List.set_cons_succ, List.set_cons_zero])
          (apply walk_q rfl; (intro w1 hI; apply Same.of_wp rfl rfl (Nat.le_of_ble_eq_true rfl); intro KK QQ hK; simp only [Act.put, List.setIfInBounds_toArray, List.set_cons_succ, List.set_cons_zero] at hK; go_step; exact hK); simp only [Act.put, List.setIfInBounds_toArray, List.set_cons_succ, List.set_cons_zero])
          (apply walk_q rfl; (intro w1 hI; apply Same.of_wp rfl rfl (Nat.le_of_ble_eq_true rfl); intro KK QQ hK; simp only [Act.put, List.setIfInBounds_toArray, List.set_cons_succ, List.set_cons_zero] at hK; go_step; exact hK); simp only [Act.put, List.setIfInBounds_toArray, List.set_cons_succ, List.set_cons_zero])
          (apply walk_q rfl; (intro w1 hI; apply Same.of_wp rfl rfl (Nat.le_of_ble_eq_true rfl); intro KK QQ hK; simp only [Act.put, List.setIfInBounds_toArray, List.set_cons_succ, List.set_cons_zero] at hK; go_step; exact hK); simp only [Act.put, List.setIfInBounds_toArray, List.set_cons_succ, List.set_cons_zero])
          (refine walk_loadn rfl rfl tyHash (by rw [bcs_length, hc32]) rfl (hvar_load 2 rfl rfl rfl) ?_; simp only [Act.put, List.setIfInBounds_toArray, List.set_cons_succ, List.set_cons_zero])
          (refine walk_loadn rfl rfl tyHash (by rw [bcs_length, hb]) rfl (hvar_load 5 rfl rfl rfl) ?_; simp only [Act.put, List.setIfInBounds_toArray, List.set_cons_succ, List.set_cons_zero])
          (refine walk_dig HE.out 6 7 EY2.out (by omega) hc32 hb (HF4.out) (by simp) rfl rfl rfl rfl rfl rfl rfl (fun _ => rfl) (fun _ => rfl) HE.out.le (by intro w K Q h; go_step; exact Calls.mono h (by rintro e w' ⟨v, rfl, h⟩; exact h)) fun F17 HF17 => ?_; replace HF17 := Lib.hid HF17; simp only [Act.put, List.setIfInBounds_toArray, List.set_cons_succ, List.set_cons_zero])
          (refine walk_loadn rfl rfl tyHash LX.out rfl (hvar_load 0 rfl rfl rfl) ?_; simp only [Act.put, List.setIfInBounds_toArray, List.set_cons_succ, List.set_cons_zero])
          (refine walk_eqH rfl rfl rfl hY2 hX32 (decide_eq_false p3) rfl rfl rfl ?_; simp only [Act.put, List.setIfInBounds_toArray, List.set_cons_succ, List.set_cons_zero])
          (apply walk_q rfl; (intro w1 hI; apply Same.of_wp rfl rfl (Nat.le_of_ble_eq_true rfl); intro KK QQ hK; simp only [Act.put, List.setIfInBounds_toArray, List.set_cons_succ, List.set_cons_zero] at hK; go_step; exact hK); simp only [Act.put, List.setIfInBounds_toArray, List.set_cons_succ, List.set_cons_zero])
          (apply walk_q rfl; (intro w1 hI; apply Same.of_wp rfl rfl (Nat.le_of_ble_eq_true rfl); intro KK QQ hK; simp only [Act.put, List.setIfInBounds_toArray, List.set_cons_succ, List.set_cons_zero] at hK; go_step; exact hK); simp only [Act.put, List.setIfInBounds_toArray, List.set_cons_succ, List.set_cons_zero])
          (apply walk_q rfl; (intro w1 hI; apply Same.of_wp rfl rfl (Nat.le_of_ble_eq_true rfl); intro KK QQ hK; simp only [Act.put, List.setIfInBounds_toArray, List.set_cons_succ, List.set_cons_zero] at hK; go_step; exact hK); simp only [Act.put, List.setIfInBounds_toArray, List.set_cons_succ, List.set_cons_zero])
          (apply walk_q rfl; (intro w1 hI; apply Same.of_wp rfl rfl (Nat.le_of_ble_eq_true rfl); intro KK QQ hK; simp only [Act.put, List.setIfInBounds_toArray, List.set_cons_succ, List.set_cons_zero] at hK; go_step; exact hK); simp only [Act.put, List.setIfInBounds_toArray, List.set_cons_succ, List.set_cons_zero])
          (refine walk_loadn rfl rfl tyHash (by rw [bcs_length, hb]) rfl (hvar_load 5 rfl rfl rfl) ?_; simp only [Act.put, List.setIfInBounds_toArray, List.set_cons_succ, List.set_cons_zero])
          (refine walk_loadn rfl rfl tyHash L32.out rfl (hvar_load 4 rfl rfl rfl) ?_; simp only [Act.put, List.setIfInBounds_toArray, List.set_cons_succ, List.set_cons_zero])
          (refine walk_dig HE.out 7 8 EY3.out (by omega) hb ha (HF17.out) (by simp) rfl rfl rfl rfl rfl rfl rfl (fun _ => rfl) (fun _ => rfl) HE.out.le (by intro w K Q h; go_step; exact Calls.mono h (by rintro e w' ⟨v, rfl, h⟩; exact h)) fun F26 HF26 => ?_; replace HF26 := Lib.hid HF26; simp only [Act.put, List.setIfInBounds_toArray, List.set_cons_succ, List.set_cons_zero])
          (refine walk_loadn rfl rfl tyHash LX.out rfl (hvar_load 0 rfl rfl rfl) ?_; simp only [Act.put, List.setIfInBounds_toArray, List.set_cons_succ, List.set_cons_zero])
          (refine walk_eqH rfl rfl rfl hY3 hX32 (decide_eq_true P4.out) rfl rfl rfl ?_; simp only [Act.put, List.setIfInBounds_toArray, List.set_cons_succ, List.set_cons_zero])
          (apply walk_q rfl; (intro w1 hI; apply Same.of_wp rfl rfl (Nat.le_of_ble_eq_true rfl); intro KK QQ hK; simp only [Act.put, List.setIfInBounds_toArray, List.set_cons_succ, List.set_cons_zero] at hK; go_step; exact hK); simp only [Act.put, List.setIfInBounds_toArray, List.set_cons_succ, List.set_cons_zero])
          (refine walk_loadn rfl rfl tyHash L32.out rfl (hvar_load 4 rfl rfl rfl) ?_; simp only [Act.put, List.setIfInBounds_toArray, List.set_cons_succ, List.set_cons_zero])
          (refine walk_loadn rfl rfl tyHash (by rw [bcs_length, hb]) rfl (hvar_load 5 rfl rfl rfl) ?_; simp only [Act.put, List.setIfInBounds_toArray, List.set_cons_succ, List.set_cons_zero])
          (refine walk_neH rfl rfl rfl ha hb (by rw [decide_eq_false p5, Bool.not_false]) rfl rfl rfl ?_; simp only [Act.put, List.setIfInBounds_toArray, List.set_cons_succ, List.set_cons_zero])
          (apply walk_q rfl; (intro w1 hI; apply Same.of_wp rfl rfl (Nat.le_of_ble_eq_true rfl); intro KK QQ hK; simp only [Act.put, List.setIfInBounds_toArray, List.set_cons_succ, List.set_cons_zero] at hK; go_step; exact hK); simp only [Act.put, List.setIfInBounds_toArray, List.set_cons_succ, List.set_cons_zero])
          (apply walk_q rfl; (intro w1 hI; apply Same.of_wp rfl rfl (Nat.le_of_ble_eq_true rfl); intro KK QQ hK; simp only [Act.put, List.setIfInBounds_toArray, List.set_cons_succ, List.set_cons_zero] at hK; go_step; exact hK); simp only [Act.put, List.setIfInBounds_toArray, List.set_cons_succ, List.set_cons_zero])
          (apply walk_q rfl; (intro w1 hI; apply Same.of_wp rfl rfl (Nat.le_of_ble_eq_true rfl); intro KK QQ hK; simp only [Act.put, List.setIfInBounds_toArray, List.set_cons_succ, List.set_cons_zero] at hK; go_step; exact hK); simp only [Act.put, List.setIfInBounds_toArray, List.set_cons_succ, List.set_cons_zero])
          refine walk_nil fun w20 M => ?_
          have M : Sep (fun _ => False) w w20 [hvar b11 X, hvar b9 c, pts b5 24 (hcs [a, b]), hvar b7 a, hvar b8 b, tapeA F26 b10 [dgIn N a b, dgIn N a b, dgIn N c b, dgIn N b a]] := M
          go_wp2_with (fail)
          refine wp_draw M [told none [4, 15] (hvar b11 X), told none [] (hvar b9 c), told none [] (pts b5 24 (hcs [a, b])), told none [1, 12] (hvar b7 a), told none [2, 13] (hvar b8 b), told none [24] (tapeA F26 b10 [dgIn N a b, dgIn N a b, dgIn N c b, dgIn N b a])]
              [.q, .q, .q, .v [] fun _ g => g = gq (.agg (bcs X).toArray), .q, .q, .q, .q, .q, .q, .q, .q, .q, .q, .v [] fun _ g => g = gq (.agg (bcs Y1).toArray), .q, .q, .q, .q, .q, .q, .q, .q, .q, .v [] fun _ g => g = gq (.bool true), .q, .q, .q] (by kernel_rfl) rfl (by kernel_rfl) ?_
          (apply walk_q rfl; (intro w1 hI; apply Same.of_wp rfl rfl (Nat.le_of_ble_eq_true rfl); intro KK QQ hK; simp only [Act.put, List.setIfInBounds_toArray, List.set_cons_succ, List.set_cons_zero] at hK; go_step; exact hK); simp only [Act.put, List.setIfInBounds_toArray, List.set_cons_succ, List.set_cons_zero])
          (refine walk_loadn rfl rfl tyHash L32.out rfl (hvar_load 3 rfl rfl rfl) ?_; simp only [Act.put, List.setIfInBounds_toArray, List.set_cons_succ, List.set_cons_zero])
          (refine walk_loadn rfl rfl tyHash (by rw [bcs_length, hb]) rfl (hvar_load 4 rfl rfl rfl) ?_; simp only [Act.put, List.setIfInBounds_toArray, List.set_cons_succ, List.set_cons_zero])
          (refine walk_dig0 HE.out HX.out (by omega) ha hb rfl rfl rfl rfl HE.out.le (by intro w K Q h; go_step; exact Calls.mono h (by rintro e w' ⟨v, rfl, h⟩; exact h)) ?_; simp only [Act.put, List.setIfInBounds_toArray, List.set_cons_succ, List.set_cons_zero])
          (refine walk_loadn rfl rfl tyHash LX.out rfl (hvar_load 0 rfl rfl rfl) ?_; simp only [Act.put, List.setIfInBounds_toArray, List.set_cons_succ, List.set_cons_zero])
          (refine walk_eqH rfl rfl rfl hX32 hX32 (decide_eq_true rfl) rfl rfl rfl ?_; simp only [Act.put, List.setIfInBounds_toArray, List.set_cons_succ, List.set_cons_zero])
          (apply walk_q rfl; (intro w1 hI; apply Same.of_wp rfl rfl (Nat.le_of_ble_eq_true rfl); intro KK QQ hK; simp only [Act.put, List.setIfInBounds_toArray, List.set_cons_succ, List.set_cons_zero] at hK; go_step; exact hK); simp only [Act.put, List.setIfInBounds_toArray, List.set_cons_succ, List.set_cons_zero])
          (apply walk_q rfl; (intro w1 hI; apply Same.of_wp rfl rfl (Nat.le_of_ble_eq_true rfl); intro KK QQ hK; simp only [Act.put, List.setIfInBounds_toArray, List.set_cons_succ, List.set_cons_zero] at hK; go_step; exact hK); simp only [Act.put, List.setIfInBounds_toArray, List.set_cons_succ, List.set_cons_zero])
          (apply walk_q rfl; (intro w1 hI; apply Same.of_wp rfl rfl (Nat.le_of_ble_eq_true rfl); intro KK QQ hK; simp only [Act.put, List.setIfInBounds_toArray, List.set_cons_succ, List.set_cons_zero] at hK; go_step; exact hK); simp only [Act.put, List.setIfInBounds_toArray, List.set_cons_succ, List.set_cons_zero])
          (apply walk_q rfl; (intro w1 hI; apply Same.of_wp rfl rfl (Nat.le_of_ble_eq_true rfl); intro KK QQ hK; simp only [Act.put, List.setIfInBounds_toArray, List.set_cons_succ, List.set_cons_zero] at hK; go_step; exact hK); simp only [Act.put, List.setIfInBounds_toArray, List.set_cons_succ, List.set_cons_zero])
          (apply walk_q rfl; (intro w1 hI; apply Same.of_wp rfl rfl (Nat.le_of_ble_eq_true rfl); intro KK QQ hK; simp only [Act.put, List.setIfInBounds_toArray, List.set_cons_succ, List.set_cons_zero] at hK; go_step; exact hK); simp only [Act.put, List.setIfInBounds_toArray, List.set_cons_succ, List.set_cons_zero])
          (apply walk_q rfl; (intro w1 hI; apply Same.of_wp rfl rfl (Nat.le_of_ble_eq_true rfl); intro KK QQ hK; simp only [Act.put, List.setIfInBounds_toArray, List.set_cons_succ, List.set_cons_zero] at hK; go_step; exact hK); simp only [Act.put, List.setIfInBounds_toArray, List.set_cons_succ, List.set_cons_zero])
          (refine walk_loadn rfl rfl tyHash L32.out rfl (hvar_load 3 rfl rfl rfl) ?_; simp only [Act.put, List.setIfInBounds_toArray, List.set_cons_succ, List.set_cons_zero])
          (refine walk_loadn rfl rfl tyHash (by rw [bcs_length, hb]) rfl (hvar_load 4 rfl rfl rfl) ?_; simp only [Act.put, List.setIfInBounds_toArray, List.set_cons_succ, List.set_cons_zero])
          (refine walk_dig0 HE.out EY1.out (by omega) ha hb rfl rfl rfl rfl HE.out.le (by intro w K Q h; go_step; exact Calls.mono h (by rintro e w' ⟨v, rfl, h⟩; exact h)) ?_; simp only [Act.put, List.setIfInBounds_toArray, List.set_cons_succ, List.set_cons_zero])
          (refine walk_loadn rfl rfl tyHash LX.out rfl (hvar_load 0 rfl rfl rfl) ?_; simp only [Act.put, List.setIfInBounds_toArray, List.set_cons_succ, List.set_cons_zero])
          (refine walk_eqH rfl rfl rfl hY1 hX32 (decide_eq_true P1.out) rfl rfl rfl ?_; simp only [Act.put, List.setIfInBounds_toArray, List.set_cons_succ, List.set_cons_zero])
          (apply walk_q rfl; (intro w1 hI; apply Same.of_wp rfl rfl (Nat.le_of_ble_eq_true rfl); intro KK QQ hK; simp only [Act.put, List.setIfInBounds_toArray, List.set_cons_succ, List.set_cons_zero] at hK; go_step; exact hK); simp only [Act.put, List.setIfInBounds_toArray, List.set_cons_succ, List.set_cons_zero])
          (apply walk_q rfl; (intro w1 hI; apply Same.of_wp rfl rfl (Nat.le_of_ble_eq_true rfl); intro KK QQ hK; simp only [Act.put, List.setIfInBounds_toArray, List.set_cons_succ, List.set_cons_zero] at hK; go_step; exact hK); simp only [Act.put, List.setIfInBounds_toArray, List.set_cons_succ, List.set_cons_zero])
          (apply walk_q rfl; (intro w1 hI; apply Same.of_wp rfl rfl (Nat.le_of_ble_eq_true rfl); intro KK QQ hK; simp only [Act.put, List.setIfInBounds_toArray, List.set_cons_succ, List.set_cons_zero] at hK; go_step; exact hK); simp only [Act.put, List.setIfInBounds_toArray, List.set_cons_succ, List.set_cons_zero])
          (apply walk_q rfl; (intro w1 hI; apply Same.of_wp rfl rfl (Nat.le_of_ble_eq_true rfl); intro KK QQ hK; simp only [Act.put, List.setIfInBounds_toArray, List.set_cons_succ, List.set_cons_zero] at hK; go_step; exact hK); simp only [Act.put, List.setIfInBounds_toArray, List.set_cons_succ, List.set_cons_zero])
          (apply walk_q rfl; (intro w1 hI; apply Same.of_wp rfl rfl (Nat.le_of_ble_eq_true rfl); intro KK QQ hK; simp only [Act.put, List.setIfInBounds_toArray, List.set_cons_succ, List.set_cons_zero] at hK; go_step; exact hK); simp only [Act.put, List.setIfInBounds_toArray, List.set_cons_succ, List.set_cons_zero])
          (apply walk_q rfl; (intro w1 hI; apply Same.of_wp rfl rfl (Nat.le_of_ble_eq_true rfl); intro KK QQ hK; simp only [Act.put, List.setIfInBounds_toArray, List.set_cons_succ, List.set_cons_zero] at hK; go_step; exact hK); simp only [Act.put, List.setIfInBounds_toArray, List.set_cons_succ, List.set_cons_zero])
          (apply walk_q rfl; (intro w1 hI; apply Same.of_wp rfl rfl (Nat.le_of_ble_eq_true rfl); intro KK QQ hK; simp only [Act.put, List.setIfInBounds_toArray, List.set_cons_succ, List.set_cons_zero] at hK; go_step; exact hK); simp only [Act.put, List.setIfInBounds_toArray, List.set_cons_succ, List.set_cons_zero])
          (refine walk_clash HE.out 5 (clash_of (dgIn N a b) (dgIn N b a) (by simp) (by simp) (fun e => p5 (dgIn_log ha hb e)) (HX.out.trans (P4.out.symm.trans EY3.out.symm))) (by intro l hl; simp at hl; rcases hl with rfl | rfl | rfl | rfl <;> (rw [dgIn_len ‹_› ‹_›]; omega)) (by simp) rfl rfl rfl rfl rfl rfl rfl HE.out.le (by intro w K Q h; go_step; exact Calls.mono h (by rintro e w' ⟨v, rfl, h⟩; exact h)) ?_; simp only [Act.put, List.setIfInBounds_toArray, List.set_cons_succ, List.set_cons_zero])
          (apply walk_q rfl; (intro w1 hI; apply Same.of_wp rfl rfl (Nat.le_of_ble_eq_true rfl); intro KK QQ hK; simp only [Act.put, List.setIfInBounds_toArray, List.set_cons_succ, List.set_cons_zero] at hK; go_step; exact hK); simp only [Act.put, List.setIfInBounds_toArray, List.set_cons_succ, List.set_cons_zero])
          (apply walk_q rfl; (intro w1 hI; apply Same.of_wp rfl rfl (Nat.le_of_ble_eq_true rfl); intro KK QQ hK; simp only [Act.put, List.setIfInBounds_toArray, List.set_cons_succ, List.set_cons_zero] at hK; go_step; exact hK); simp only [Act.put, List.setIfInBounds_toArray, List.set_cons_succ, List.set_cons_zero])
          (apply walk_q rfl; (intro w1 hI; apply Same.of_wp rfl rfl (Nat.le_of_ble_eq_true rfl); intro KK QQ hK; simp only [Act.put, List.setIfInBounds_toArray, List.set_cons_succ, List.set_cons_zero] at hK; go_step; exact hK); simp only [Act.put, List.setIfInBounds_toArray, List.set_cons_succ, List.set_cons_zero])
          refine walk_nil fun w21 M => ?_
          go_wp2_with (fail)
          go_ret
          exact ⟨rfl, M.out⟩
      · refine wp_draw M [told none [5, 18, 27] (hvar b11 X), told (some 4) [] (tapeA F12 b10 [dgIn N a b]), told none [15] (hvar b9 c), told none [] (pts b5 24 (hcs [a, b])), told none [2, 25, 30] (hvar b7 a), told none [3, 16, 24, 31] (hvar b8 b), ⟨some 4, some 17, [], [4], fun | [g] => tapeA g.2 b10 [dgIn N a b, dgIn N a b] | _ => tapeA (fun _ => False) b10 []⟩, ⟨some 17, some 26, [], [17], fun | [g] => tapeA g.2 b10 [dgIn N a b, dgIn N a b, dgIn N c b] | _ => tapeA (fun _ => False) b10 []⟩, ⟨some 26, none, [], [26], fun | [g] => tapeA g.2 b10 [dgIn N a b, dgIn N a b, dgIn N c b, dgIn N b a] | _ => tapeA (fun _ => False) b10 []⟩]
            [.q, .q, .q, .q, ospT E (.agg (bcs Y1).toArray), .q, .q, .q, .q, .q, .q, .q, .q, .q, .q, .q, .q, ospT E (.agg (bcs Y2).toArray), .q, .q, .q, .q, .q, .q, .q, .q, ospT E (.agg (bcs Y3).toArray), .q, .q, .q, .q, .q, .q, .q, .q, .q] (by kernel_rfl) rfl (by kernel_rfl) ?_
        (apply walk_q rfl; (intro w1 hI; apply Same.of_wp rfl rfl (Nat.le_of_ble_eq_true rfl); intro KK QQ hK; simp only [Act.put, List.setIfInBounds_toArray, List.set_cons_succ, List.set_cons_zero] at hK; go_step; exact hK); simp only [Act.put, List.setIfInBounds_toArray, List.set_cons_succ, List.set_cons_zero])
        (apply walk_q rfl; (intro w1 hI; apply Same.of_wp rfl rfl (Nat.le_of_ble_eq_true rfl); intro KK QQ hK; simp only [Act.put, List.setIfInBounds_toArray, List.set_cons_succ, List.set_cons_zero] at hK; go_step; exact hK); simp only [Act.put, List.setIfInBounds_toArray, List.set_cons_succ, List.set_cons_zero])
        (refine walk_loadn rfl rfl tyHash L32.out rfl (hvar_load 4 rfl rfl rfl) ?_; simp only [Act.put, List.setIfInBounds_toArray, List.set_cons_succ, List.set_cons_zero])
        (refine walk_loadn rfl rfl tyHash (by rw [bcs_length, hb]) rfl (hvar_load 5 rfl rfl rfl) ?_; simp only [Act.put, List.setIfInBounds_toArray, List.set_cons_succ, List.set_cons_zero])
        (refine walk_dig HE.out 1 6 EY1.out (by omega) ha hb (HF12.out) (by simp) rfl rfl rfl rfl rfl rfl rfl (fun _ => rfl) (fun _ => rfl) HE.out.le (by intro w K Q h; go_step; exact Calls.mono h (by rintro e w' ⟨v, rfl, h⟩; exact h)) fun F4 HF4 => ?_; replace HF4 := Lib.hid HF4; simp only [Act.put, List.setIfInBounds_toArray, List.set_cons_succ, List.set_cons_zero])
        (refine walk_loadn rfl rfl tyHash LX.out rfl (hvar_load 0 rfl rfl rfl) ?_; simp only [Act.put, List.setIfInBounds_toArray, List.set_cons_succ, List.set_cons_zero])
        (refine walk_eqH rfl rfl rfl hY1 hX32 (decide_eq_true P1.out) rfl rfl rfl ?_; simp only [Act.put, List.setIfInBounds_toArray, List.set_cons_succ, List.set_cons_zero])
        (apply walk_q rfl; (intro w1 hI; apply Same.of_wp rfl rfl (Nat.le_of_ble_eq_true rfl); intro KK QQ hK; simp only [Act.put, List.setIfInBounds_toArray, List.set_cons_succ, List.set_cons_zero] at hK; go_step; exact hK); simp only [Act.put, List.setIfInBounds_toArray, List.set_cons_succ, List.set_cons_zero])
        (apply walk_q rfl; (intro w1 hI; apply Same.of_wp rfl rfl (Nat.le_of_ble_eq_true rfl); intro KK QQ hK; simp only [Act.put, List.setIfInBounds_toArray, List.set_cons_succ, List.set_cons_zero] at hK; go_step; exact hK); simp only [Act.put, List.setIfInBounds_toArray, List.set_cons_succ, List.set_cons_zero])
        (apply walk_q rfl; (intro w1 hI; apply Same.of_wp rfl rfl (Nat.le_of_ble_eq_true rfl); intro KK QQ hK; simp only [Act.put, List.setIfInBounds_toArray, List.set_cons_succ, List.set_cons_zero] at hK; go_step; exact hK); simp only [Act.put, List.setIfInBounds_toArray, List.set_cons_succ, List.set_cons_zero])
        (apply walk_q rfl; (intro w1 hI; apply Same.of_wp rfl rfl (Nat.le_of_ble_eq_true rfl); intro KK QQ hK; simp only [Act.put, List.setIfInBounds_toArray, List.set_cons_succ, List.set_cons_zero] at hK; go_step; exact hK); simp only [Act.put, List.setIfInBounds_toArray, List.set_cons_succ, List.set_cons_zero])
        (apply walk_q rfl; (intro w1 hI; apply Same.of_wp rfl rfl (Nat.le_of_ble_eq_true rfl); intro KK QQ hK; simp only [Act.put, List.setIfInBounds_toArray, List.set_cons_succ, List.set_cons_zero] at hK; go_step; exact hK); simp only [Act.put, List.setIfInBounds_toArray, List.set_cons_succ, List.set_cons_zero])
        (apply walk_q rfl; (intro w1 hI; apply Same.of_wp rfl rfl (Nat.le_of_ble_eq_true rfl); intro KK QQ hK; simp only [Act.put, List.setIfInBounds_toArray, List.set_cons_succ, List.set_cons_zero] at hK; go_step; exact hK); simp only [Act.put, List.setIfInBounds_toArray, List.set_cons_succ, List.set_cons_zero])
        (apply walk_q rfl; (intro w1 hI; apply Same.of_wp rfl rfl (Nat.le_of_ble_eq_true rfl); intro KK QQ hK; simp only [Act.put, List.setIfInBounds_toArray, List.set_cons_succ, List.set_cons_zero] at hK; go_step; exact hK); simp only [Act.put, List.setIfInBounds_toArray, List.set_cons_succ, List.set_cons_zero])
        (apply walk_q rfl; (intro w1 hI; apply Same.of_wp rfl rfl (Nat.le_of_ble_eq_true rfl); intro KK QQ hK; simp only [Act.put, List.setIfInBounds_toArray, List.set_cons_succ, List.set_cons_zero] at hK; go_step; exact hK); simp only [Act.put, List.setIfInBounds_toArray, List.set_cons_succ, List.set_cons_zero])
        (refine walk_loadn rfl rfl tyHash (by rw [bcs_length, hc32]) rfl (hvar_load 2 rfl rfl rfl) ?_; simp only [Act.put, List.setIfInBounds_toArray, List.set_cons_succ, List.set_cons_zero])
        (refine walk_loadn rfl rfl tyHash (by rw [bcs_length, hb]) rfl (hvar_load 5 rfl rfl rfl) ?_; simp only [Act.put, List.setIfInBounds_toArray, List.set_cons_succ, List.set_cons_zero])
        (refine walk_dig HE.out 6 7 EY2.out (by omega) hc32 hb (HF4.out) (by simp) rfl rfl rfl rfl rfl rfl rfl (fun _ => rfl) (fun _ => rfl) HE.out.le (by intro w K Q h; go_step; exact Calls.mono h (by rintro e w' ⟨v, rfl, h⟩; exact h)) fun F17 HF17 => ?_; replace HF17 := Lib.hid HF17; simp only [Act.put, List.setIfInBounds_toArray, List.set_cons_succ, List.set_cons_zero])
        (refine walk_loadn rfl rfl tyHash LX.out rfl (hvar_load 0 rfl rfl rfl) ?_; simp only [Act.put, List.setIfInBounds_toArray, List.set_cons_succ, List.set_cons_zero])
        (refine walk_eqH rfl rfl rfl hY2 hX32 (decide_eq_false p3) rfl rfl rfl ?_; simp only [Act.put, List.setIfInBounds_toArray, List.set_cons_succ, List.set_cons_zero])
        (apply walk_q rfl; (intro w1 hI; apply Same.of_wp rfl rfl (Nat.le_of_ble_eq_true rfl); intro KK QQ hK; simp only [Act.put, List.setIfInBounds_toArray, List.set_cons_succ, List.set_cons_zero] at hK; go_step; exact hK); simp only [Act.put, List.setIfInBounds_toArray, List.set_cons_succ, List.set_cons_zero])
        (apply walk_q rfl; (intro w1 hI; apply Same.of_wp rfl rfl (Nat.le_of_ble_eq_true rfl); intro KK QQ hK; simp only [Act.put, List.setIfInBounds_toArray, List.set_cons_succ, List.set_cons_zero] at hK; go_step; exact hK); simp only [Act.put, List.setIfInBounds_toArray, List.set_cons_succ, List.set_cons_zero])
        (apply walk_q rfl; (intro w1 hI; apply Same.of_wp rfl rfl (Nat.le_of_ble_eq_true rfl); intro KK QQ hK; simp only [Act.put, List.setIfInBounds_toArray, List.set_cons_succ, List.set_cons_zero] at hK; go_step; exact hK); simp only [Act.put, List.setIfInBounds_toArray, List.set_cons_succ, List.set_cons_zero])
        (apply walk_q rfl; (intro w1 hI; apply Same.of_wp rfl rfl (Nat.le_of_ble_eq_true rfl); intro KK QQ hK; simp only [Act.put, List.setIfInBounds_toArray, List.set_cons_succ, List.set_cons_zero] at hK; go_step; exact hK); simp only [Act.put, List.setIfInBounds_toArray, List.set_cons_succ, List.set_cons_zero])
        (refine walk_loadn rfl rfl tyHash (by rw [bcs_length, hb]) rfl (hvar_load 5 rfl rfl rfl) ?_; simp only [Act.put, List.setIfInBounds_toArray, List.set_cons_succ, List.set_cons_zero])
        (refine walk_loadn rfl rfl tyHash L32.out rfl (hvar_load 4 rfl rfl rfl) ?_; simp only [Act.put, List.setIfInBounds_toArray, List.set_cons_succ, List.set_cons_zero])
        (refine walk_dig HE.out 7 8 EY3.out (by omega) hb ha (HF17.out) (by simp) rfl rfl rfl rfl rfl rfl rfl (fun _ => rfl) (fun _ => rfl) HE.out.le (by intro w K Q h; go_step; exact Calls.mono h (by rintro e w' ⟨v, rfl, h⟩; exact h)) fun F26 HF26 => ?_; replace HF26 := Lib.hid HF26; simp only [Act.put, List.setIfInBounds_toArray, List.set_cons_succ, List.set_cons_zero])
        (refine walk_loadn rfl rfl tyHash LX.out rfl (hvar_load 0 rfl rfl rfl) ?_; simp only [Act.put, List.setIfInBounds_toArray, List.set_cons_succ, List.set_cons_zero])
        (refine walk_eqH rfl rfl rfl hY3 hX32 (decide_eq_false p4) rfl rfl rfl ?_; simp only [Act.put, List.setIfInBounds_toArray, List.set_cons_succ, List.set_cons_zero])
        (apply walk_q rfl; (intro w1 hI; apply Same.of_wp rfl rfl (Nat.le_of_ble_eq_true rfl); intro KK QQ hK; simp only [Act.put, List.setIfInBounds_toArray, List.set_cons_succ, List.set_cons_zero] at hK; go_step; exact hK); simp only [Act.put, List.setIfInBounds_toArray, List.set_cons_succ, List.set_cons_zero])
        (refine walk_skip rfl (by kernel_rfl) ?_; simp only [Act.put, List.setIfInBounds_toArray, List.set_cons_succ, List.set_cons_zero])
        (refine walk_skip rfl (by kernel_rfl) ?_; simp only [Act.put, List.setIfInBounds_toArray, List.set_cons_succ, List.set_cons_zero])
        (refine walk_skip rfl (by kernel_rfl) ?_; simp only [Act.put, List.setIfInBounds_toArray, List.set_cons_succ, List.set_cons_zero])
        (apply walk_q rfl; (intro w1 hI; apply Same.of_wp rfl rfl (Nat.le_of_ble_eq_true rfl); intro KK QQ hK; simp only [Act.put, List.setIfInBounds_toArray, List.set_cons_succ, List.set_cons_zero] at hK; go_step; exact hK); simp only [Act.put, List.setIfInBounds_toArray, List.set_cons_succ, List.set_cons_zero])
        (apply walk_q rfl; (intro w1 hI; apply Same.of_wp rfl rfl (Nat.le_of_ble_eq_true rfl); intro KK QQ hK; simp only [Act.put, List.setIfInBounds_toArray, List.set_cons_succ, List.set_cons_zero] at hK; go_step; exact hK); simp only [Act.put, List.setIfInBounds_toArray, List.set_cons_succ, List.set_cons_zero])
        (apply walk_q rfl; (intro w1 hI; apply Same.of_wp rfl rfl (Nat.le_of_ble_eq_true rfl); intro KK QQ hK; simp only [Act.put, List.setIfInBounds_toArray, List.set_cons_succ, List.set_cons_zero] at hK; go_step; exact hK); simp only [Act.put, List.setIfInBounds_toArray, List.set_cons_succ, List.set_cons_zero])
        refine walk_nil fun w20 M => ?_
        have M : Sep (fun _ => False) w w20 [hvar b11 X, hvar b9 c, pts b5 24 (hcs [a, b]), hvar b7 a, hvar b8 b, tapeA F26 b10 [dgIn N a b, dgIn N a b, dgIn N c b, dgIn N b a]] := M
        go_wp2_with (fail)
        refine wp_draw M [told none [4, 15] (hvar b11 X), told none [] (hvar b9 c), told none [] (pts b5 24 (hcs [a, b])), told none [1, 12] (hvar b7 a), told none [2, 13] (hvar b8 b), told none [24] (tapeA F26 b10 [dgIn N a b, dgIn N a b, dgIn N c b, dgIn N b a])]
            [.q, .q, .q, .v [] fun _ g => g = gq (.agg (bcs X).toArray), .q, .q, .q, .q, .q, .q, .q, .q, .q, .q, .v [] fun _ g => g = gq (.agg (bcs Y1).toArray), .q, .q, .q, .q, .q, .q, .q, .q, .q, .v [] fun _ g => g = gq (.bool true), .q, .q, .q] (by kernel_rfl) rfl (by kernel_rfl) ?_
        (apply walk_q rfl; (intro w1 hI; apply Same.of_wp rfl rfl (Nat.le_of_ble_eq_true rfl); intro KK QQ hK; simp only [Act.put, List.setIfInBounds_toArray, List.set_cons_succ, List.set_cons_zero] at hK; go_step; exact hK); simp only [Act.put, List.setIfInBounds_toArray, List.set_cons_succ, List.set_cons_zero])
        (refine walk_loadn rfl rfl tyHash L32.out rfl (hvar_load 3 rfl rfl rfl) ?_; simp only [Act.put, List.setIfInBounds_toArray, List.set_cons_succ, List.set_cons_zero])
        (refine walk_loadn rfl rfl tyHash (by rw [bcs_length, hb]) rfl (hvar_load 4 rfl rfl rfl) ?_; simp only [Act.put, List.setIfInBounds_toArray, List.set_cons_succ, List.set_cons_zero])
        (refine walk_dig0 HE.out HX.out (by omega) ha hb rfl rfl rfl rfl HE.out.le (by intro w K Q h; go_step; exact Calls.mono h (by rintro e w' ⟨v, rfl, h⟩; exact h)) ?_; simp only [Act.put, List.setIfInBounds_toArray, List.set_cons_succ, List.set_cons_zero])
        (refine walk_loadn rfl rfl tyHash LX.out rfl (hvar_load 0 rfl rfl rfl) ?_; simp only [Act.put, List.setIfInBounds_toArray, List.set_cons_succ, List.set_cons_zero])
        (refine walk_eqH rfl rfl rfl hX32 hX32 (decide_eq_true rfl) rfl rfl rfl ?_; simp only [Act.put, List.setIfInBounds_toArray, List.set_cons_succ, List.set_cons_zero])
        (apply walk_q rfl; (intro w1 hI; apply Same.of_wp rfl rfl (Nat.le_of_ble_eq_true rfl); intro KK QQ hK; simp only [Act.put, List.setIfInBounds_toArray, List.set_cons_succ, List.set_cons_zero] at hK; go_step; exact hK); simp only [Act.put, List.setIfInBounds_toArray, List.set_cons_succ, List.set_cons_zero])
        (apply walk_q rfl; (intro w1 hI; apply Same.of_wp rfl rfl (Nat.le_of_ble_eq_true rfl); intro KK QQ hK; simp only [Act.put, List.setIfInBounds_toArray, List.set_cons_succ, List.set_cons_zero] at hK; go_step; exact hK); simp only [Act.put, List.setIfInBounds_toArray, List.set_cons_succ, List.set_cons_zero])
        (apply walk_q rfl; (intro w1 hI; apply Same.of_wp rfl rfl (Nat.le_of_ble_eq_true rfl); intro KK QQ hK; simp only [Act.put, List.setIfInBounds_toArray, List.set_cons_succ, List.set_cons_zero] at hK; go_step; exact hK); simp only [Act.put, List.setIfInBounds_toArray, List.set_cons_succ, List.set_cons_zero])
        (apply walk_q rfl; (intro w1 hI; apply Same.of_wp rfl rfl (Nat.le_of_ble_eq_true rfl); intro KK QQ hK; simp only [Act.put, List.setIfInBounds_toArray, List.set_cons_succ, List.set_cons_zero] at hK; go_step; exact hK); simp only [Act.put, List.setIfInBounds_toArray, List.set_cons_succ, List.set_cons_zero])
        (apply walk_q rfl; (intro w1 hI; apply Same.of_wp rfl rfl (Nat.le_of_ble_eq_true rfl); intro KK QQ hK; simp only [Act.put, List.setIfInBounds_toArray, List.set_cons_succ, List.set_cons_zero] at hK; go_step; exact hK); simp only [Act.put, List.setIfInBounds_toArray, List.set_cons_succ, List.set_cons_zero])
        (apply walk_q rfl; (intro w1 hI; apply Same.of_wp rfl rfl (Nat.le_of_ble_eq_true rfl); intro KK QQ hK; simp only [Act.put, List.setIfInBounds_toArray, List.set_cons_succ, List.set_cons_zero] at hK; go_step; exact hK); simp only [Act.put, List.setIfInBounds_toArray, List.set_cons_succ, List.set_cons_zero])
        (refine walk_loadn rfl rfl tyHash L32.out rfl (hvar_load 3 rfl rfl rfl) ?_; simp only [Act.put, List.setIfInBounds_toArray, List.set_cons_succ, List.set_cons_zero])
        (refine walk_loadn rfl rfl tyHash (by rw [bcs_length, hb]) rfl (hvar_load 4 rfl rfl rfl) ?_; simp only [Act.put, List.setIfInBounds_toArray, List.set_cons_succ, List.set_cons_zero])
        (refine walk_dig0 HE.out EY1.out (by omega) ha hb rfl rfl rfl rfl HE.out.le (by intro w K Q h; go_step; exact Calls.mono h (by rintro e w' ⟨v, rfl, h⟩; exact h)) ?_; simp only [Act.put, List.setIfInBounds_toArray, List.set_cons_succ, List.set_cons_zero])
        (refine walk_loadn rfl rfl tyHash LX.out rfl (hvar_load 0 rfl rfl rfl) ?_; simp only [Act.put, List.setIfInBounds_toArray, List.set_cons_succ, List.set_cons_zero])
        (refine walk_eqH rfl rfl rfl hY1 hX32 (decide_eq_true P1.out) rfl rfl rfl ?_; simp only [Act.put, List.setIfInBounds_toArray, List.set_cons_succ, List.set_cons_zero])
        (apply walk_q rfl; (intro w1 hI; apply Same.of_wp rfl rfl (Nat.le_of_ble_eq_true rfl); intro KK QQ hK; simp only [Act.put, List.setIfInBounds_toArray, List.set_cons_succ, List.set_cons_zero] at hK; go_step; exact hK); simp only [Act.put, List.setIfInBounds_toArray, List.set_cons_succ, List.set_cons_zero])
        (apply walk_q rfl; (intro w1 hI; apply Same.of_wp rfl rfl (Nat.le_of_ble_eq_true rfl); intro KK QQ hK; simp only [Act.put, List.setIfInBounds_toArray, List.set_cons_succ, List.set_cons_zero] at hK; go_step; exact hK); simp only [Act.put, List.setIfInBounds_toArray, List.set_cons_succ, List.set_cons_zero])
        (apply walk_q rfl; (intro w1 hI; apply Same.of_wp rfl rfl (Nat.le_of_ble_eq_true rfl); intro KK QQ hK; simp only [Act.put, List.setIfInBounds_toArray, List.set_cons_succ, List.set_cons_zero] at hK; go_step; exact hK); simp only [Act.put, List.setIfInBounds_toArray, List.set_cons_succ, List.set_cons_zero])
        (apply walk_q rfl; (intro w1 hI; apply Same.of_wp rfl rfl (Nat.le_of_ble_eq_true rfl); intro KK QQ hK; simp only [Act.put, List.setIfInBounds_toArray, List.set_cons_succ, List.set_cons_zero] at hK; go_step; exact hK); simp only [Act.put, List.setIfInBounds_toArray, List.set_cons_succ, List.set_cons_zero])
        (apply walk_q rfl; (intro w1 hI; apply Same.of_wp rfl rfl (Nat.le_of_ble_eq_true rfl); intro KK QQ hK; simp only [Act.put, List.setIfInBounds_toArray, List.set_cons_succ, List.set_cons_zero] at hK; go_step; exact hK); simp only [Act.put, List.setIfInBounds_toArray, List.set_cons_succ, List.set_cons_zero])
        (apply walk_q rfl; (intro w1 hI; apply Same.of_wp rfl rfl (Nat.le_of_ble_eq_true rfl); intro KK QQ hK; simp only [Act.put, List.setIfInBounds_toArray, List.set_cons_succ, List.set_cons_zero] at hK; go_step; exact hK); simp only [Act.put, List.setIfInBounds_toArray, List.set_cons_succ, List.set_cons_zero])
        (refine walk_skip rfl (by kernel_rfl) ?_; simp only [Act.put, List.setIfInBounds_toArray, List.set_cons_succ, List.set_cons_zero])
        (refine walk_skip rfl (by kernel_rfl) ?_; simp only [Act.put, List.setIfInBounds_toArray, List.set_cons_succ, List.set_cons_zero])
        (apply walk_q rfl; (intro w1 hI; apply Same.of_wp rfl rfl (Nat.le_of_ble_eq_true rfl); intro KK QQ hK; simp only [Act.put, List.setIfInBounds_toArray, List.set_cons_succ, List.set_cons_zero] at hK; go_step; exact hK); simp only [Act.put, List.setIfInBounds_toArray, List.set_cons_succ, List.set_cons_zero])
        (apply walk_q rfl; (intro w1 hI; apply Same.of_wp rfl rfl (Nat.le_of_ble_eq_true rfl); intro KK QQ hK; simp only [Act.put, List.setIfInBounds_toArray, List.set_cons_succ, List.set_cons_zero] at hK; go_step; exact hK); simp only [Act.put, List.setIfInBounds_toArray, List.set_cons_succ, List.set_cons_zero])
        (apply walk_q rfl; (intro w1 hI; apply Same.of_wp rfl rfl (Nat.le_of_ble_eq_true rfl); intro KK QQ hK; simp only [Act.put, List.setIfInBounds_toArray, List.set_cons_succ, List.set_cons_zero] at hK; go_step; exact hK); simp only [Act.put, List.setIfInBounds_toArray, List.set_cons_succ, List.set_cons_zero])
        refine walk_nil fun w21 M => ?_
        go_wp2_with (fail)
        go_ret
        exact ⟨rfl, M.out⟩
  · have hnmb : ((N : Int) != (MM : Int)) = true := by simp; omega
    by_cases p1 : Y1 = X
    · have P1 := Lib.hid p1
      clear p1
      refine wp_draw M [told none [5, 18, 27] (hvar b11 X), told (some 4) [] (tapeA F12 b10 [dgIn N a b]), told none [15] (hvar b9 c), told none [] (pts b5 24 (hcs [a, b])), told none [2, 25, 30] (hvar b7 a), told none [3, 16, 24, 31] (hvar b8 b), ⟨some 4, none, [], [4], fun | [g] => tapeA g.2 b10 [dgIn N a b, dgIn MM a b] | _ => tapeA (fun _ => False) b10 []⟩]
          [.q, .q, .q, .q, ospT E (.agg (bcs Y1).toArray), .q, .q, .q, .q, .q, .q, .q, .q, .q, .q, .q, .q, ospT E (.agg (bcs Y2).toArray), .q, .q, .q, .q, .q, .q, .q, .q, ospT E (.agg (bcs Y3).toArray), .q, .q, .q, .q, .q, .q, .q, .q, .q] (by kernel_rfl) rfl (by kernel_rfl) ?_
      (apply walk_q rfl; (intro w1 hI; apply Same.of_wp rfl rfl (Nat.le_of_ble_eq_true rfl); intro KK QQ hK; simp only [Act.put, List.setIfInBounds_toArray, List.set_cons_succ, List.set_cons_zero] at hK; go_step; exact hK); simp only [Act.put, List.setIfInBounds_toArray, List.set_cons_succ, List.set_cons_zero])
      (apply walk_q rfl; (intro w1 hI; apply Same.of_wp rfl rfl (Nat.le_of_ble_eq_true rfl); intro KK QQ hK; simp only [Act.put, List.setIfInBounds_toArray, List.set_cons_succ, List.set_cons_zero] at hK; go_step; exact hK); simp only [Act.put, List.setIfInBounds_toArray, List.set_cons_succ, List.set_cons_zero])
      (refine walk_loadn rfl rfl tyHash L32.out rfl (hvar_load 4 rfl rfl rfl) ?_; simp only [Act.put, List.setIfInBounds_toArray, List.set_cons_succ, List.set_cons_zero])
      (refine walk_loadn rfl rfl tyHash (by rw [bcs_length, hb]) rfl (hvar_load 5 rfl rfl rfl) ?_; simp only [Act.put, List.setIfInBounds_toArray, List.set_cons_succ, List.set_cons_zero])
      (refine walk_dig HE.out 1 6 EY1.out (by omega) ha hb (HF12.out) (by simp) rfl rfl rfl rfl rfl rfl rfl (fun _ => rfl) (fun _ => rfl) HE.out.le (by intro w K Q h; go_step; exact Calls.mono h (by rintro e w' ⟨v, rfl, h⟩; exact h)) fun F4 HF4 => ?_; replace HF4 := Lib.hid HF4; simp only [Act.put, List.setIfInBounds_toArray, List.set_cons_succ, List.set_cons_zero])
      (refine walk_loadn rfl rfl tyHash LX.out rfl (hvar_load 0 rfl rfl rfl) ?_; simp only [Act.put, List.setIfInBounds_toArray, List.set_cons_succ, List.set_cons_zero])
      (refine walk_eqH rfl rfl rfl hY1 hX32 (decide_eq_true P1.out) rfl rfl rfl ?_; simp only [Act.put, List.setIfInBounds_toArray, List.set_cons_succ, List.set_cons_zero])
      (apply walk_q rfl; (intro w1 hI; apply Same.of_wp rfl rfl (Nat.le_of_ble_eq_true rfl); intro KK QQ hK; simp only [Act.put, List.setIfInBounds_toArray, List.set_cons_succ, List.set_cons_zero] at hK; go_step; exact hK); simp only [Act.put, List.setIfInBounds_toArray, List.set_cons_succ, List.set_cons_zero])
      (apply walk_q rfl; (intro w1 hI; apply Same.of_wp rfl rfl (Nat.le_of_ble_eq_true rfl); intro KK QQ hK; simp only [Act.put, List.setIfInBounds_toArray, List.set_cons_succ, List.set_cons_zero] at hK; go_step; exact hK); simp only [Act.put, List.setIfInBounds_toArray, List.set_cons_succ, List.set_cons_zero])
      (apply walk_q rfl; (intro w1 hI; apply Same.of_wp rfl rfl (Nat.le_of_ble_eq_true rfl); intro KK QQ hK; simp only [Act.put, List.setIfInBounds_toArray, List.set_cons_succ, List.set_cons_zero] at hK; go_step; exact hK); simp only [Act.put, List.setIfInBounds_toArray, List.set_cons_succ, List.set_cons_zero])
      (apply walk_q rfl; (intro w1 hI; apply Same.of_wp rfl rfl (Nat.le_of_ble_eq_true rfl); intro KK QQ hK; simp only [Act.put, List.setIfInBounds_toArray, List.set_cons_succ, List.set_cons_zero] at hK; go_step; exact hK); simp only [Act.put, List.setIfInBounds_toArray, List.set_cons_succ, List.set_cons_zero])
      (apply walk_q rfl; (intro w1 hI; apply Same.of_wp rfl rfl (Nat.le_of_ble_eq_true rfl); intro KK QQ hK; simp only [Act.put, List.setIfInBounds_toArray, List.set_cons_succ, List.set_cons_zero] at hK; go_step; exact hK); simp only [Act.put, List.setIfInBounds_toArray, List.set_cons_succ, List.set_cons_zero])
      (apply walk_q rfl; (intro w1 hI; apply Same.of_wp rfl rfl (Nat.le_of_ble_eq_true rfl); intro KK QQ hK; simp only [Act.put, List.setIfInBounds_toArray, List.set_cons_succ, List.set_cons_zero] at hK; go_step; exact hK); simp only [Act.put, List.setIfInBounds_toArray, List.set_cons_succ, List.set_cons_zero])
      (refine walk_skip rfl (by kernel_rfl) ?_; simp only [Act.put, List.setIfInBounds_toArray, List.set_cons_succ, List.set_cons_zero])
      (refine walk_skip rfl (by kernel_rfl) ?_; simp only [Act.put, List.setIfInBounds_toArray, List.set_cons_succ, List.set_cons_zero])
      (refine walk_skip rfl (by kernel_rfl) ?_; simp only [Act.put, List.setIfInBounds_toArray, List.set_cons_succ, List.set_cons_zero])
      (refine walk_skip rfl (by kernel_rfl) ?_; simp only [Act.put, List.setIfInBounds_toArray, List.set_cons_succ, List.set_cons_zero])
      (refine walk_skip rfl (by kernel_rfl) ?_; simp only [Act.put, List.setIfInBounds_toArray, List.set_cons_succ, List.set_cons_zero])
      (refine walk_skip rfl (by kernel_rfl) ?_; simp only [Act.put, List.setIfInBounds_toArray, List.set_cons_succ, List.set_cons_zero])
      (refine walk_skip rfl (by kernel_rfl) ?_; simp only [Act.put, List.setIfInBounds_toArray, List.set_cons_succ, List.set_cons_zero])
      (apply walk_q rfl; (intro w1 hI; apply Same.of_wp rfl rfl (Nat.le_of_ble_eq_true rfl); intro KK QQ hK; simp only [Act.put, List.setIfInBounds_toArray, List.set_cons_succ, List.set_cons_zero] at hK; go_step; exact hK); simp only [Act.put, List.setIfInBounds_toArray, List.set_cons_succ, List.set_cons_zero])
      (apply walk_q rfl; (intro w1 hI; apply Same.of_wp rfl rfl (Nat.le_of_ble_eq_true rfl); intro KK QQ hK; simp only [Act.put, List.setIfInBounds_toArray, List.set_cons_succ, List.set_cons_zero] at hK; go_step; exact hK); simp only [Act.put, List.setIfInBounds_toArray, List.set_cons_succ, List.set_cons_zero])
      (refine walk_skip rfl (by kernel_rfl) ?_; simp only [Act.put, List.setIfInBounds_toArray, List.set_cons_succ, List.set_cons_zero])
      (refine walk_skip rfl (by kernel_rfl) ?_; simp only [Act.put, List.setIfInBounds_toArray, List.set_cons_succ, List.set_cons_zero])
      (refine walk_skip rfl (by kernel_rfl) ?_; simp only [Act.put, List.setIfInBounds_toArray, List.set_cons_succ, List.set_cons_zero])
      (refine walk_skip rfl (by kernel_rfl) ?_; simp only [Act.put, List.setIfInBounds_toArray, List.set_cons_succ, List.set_cons_zero])
      (refine walk_skip rfl (by kernel_rfl) ?_; simp only [Act.put, List.setIfInBounds_toArray, List.set_cons_succ, List.set_cons_zero])
      (refine walk_skip rfl (by kernel_rfl) ?_; simp only [Act.put, List.setIfInBounds_toArray, List.set_cons_succ, List.set_cons_zero])
      (refine walk_skip rfl (by kernel_rfl) ?_; simp only [Act.put, List.setIfInBounds_toArray, List.set_cons_succ, List.set_cons_zero])
      (refine walk_skip rfl (by kernel_rfl) ?_; simp only [Act.put, List.setIfInBounds_toArray, List.set_cons_succ, List.set_cons_zero])
      (refine walk_skip rfl (by kernel_rfl) ?_; simp only [Act.put, List.setIfInBounds_toArray, List.set_cons_succ, List.set_cons_zero])
      (refine walk_skip rfl (by kernel_rfl) ?_; simp only [Act.put, List.setIfInBounds_toArray, List.set_cons_succ, List.set_cons_zero])
      (refine walk_skip rfl (by kernel_rfl) ?_; simp only [Act.put, List.setIfInBounds_toArray, List.set_cons_succ, List.set_cons_zero])
      (refine walk_skip rfl (by kernel_rfl) ?_; simp only [Act.put, List.setIfInBounds_toArray, List.set_cons_succ, List.set_cons_zero])
      (apply walk_q rfl; (intro w1 hI; apply Same.of_wp rfl rfl (Nat.le_of_ble_eq_true rfl); intro KK QQ hK; simp only [Act.put, List.setIfInBounds_toArray, List.set_cons_succ, List.set_cons_zero] at hK; go_step; exact hK); simp only [Act.put, List.setIfInBounds_toArray, List.set_cons_succ, List.set_cons_zero])
      (apply walk_q rfl; (intro w1 hI; apply Same.of_wp rfl rfl (Nat.le_of_ble_eq_true rfl); intro KK QQ hK; simp only [Act.put, List.setIfInBounds_toArray, List.set_cons_succ, List.set_cons_zero] at hK; go_step; exact hK); simp only [Act.put, List.setIfInBounds_toArray, List.set_cons_succ, List.set_cons_zero])
      refine walk_nil fun w20 M => ?_
      have M : Sep (fun _ => False) w w20 [hvar b11 X, hvar b9 c, pts b5 24 (hcs [a, b]), hvar b7 a, hvar b8 b, tapeA F4 b10 [dgIn N a b, dgIn MM a b]] := M
      go_wp2_with (fail)
      refine wp_draw M [told none [4, 15] (hvar b11 X), told none [] (hvar b9 c), told none [] (pts b5 24 (hcs [a, b])), told none [1, 12] (hvar b7 a), told none [2, 13] (hvar b8 b), told none [24] (tapeA F4 b10 [dgIn N a b, dgIn MM a b])]
          [.q, .q, .q, .v [] fun _ g => g = gq (.agg (bcs X).toArray), .q, .q, .q, .q, .q, .q, .q, .q, .q, .q, .v [] fun _ g => g = gq (.agg (bcs Y1).toArray), .q, .q, .q, .q, .q, .q, .q, .q, .q, .v [] fun _ g => g = gq (.bool true), .q, .q, .q] (by kernel_rfl) rfl (by kernel_rfl) ?_
      (apply walk_q rfl; (intro w1 hI; apply Same.of_wp rfl rfl (Nat.le_of_ble_eq_true rfl); intro KK QQ hK; simp only [Act.put, List.setIfInBounds_toArray, List.set_cons_succ, List.set_cons_zero] at hK; go_step; exact hK); simp only [Act.put, List.setIfInBounds_toArray, List.set_cons_succ, List.set_cons_zero])
      (refine walk_loadn rfl rfl tyHash L32.out rfl (hvar_load 3 rfl rfl rfl) ?_; simp only [Act.put, List.setIfInBounds_toArray, List.set_cons_succ, List.set_cons_zero])
      (refine walk_loadn rfl rfl tyHash (by rw [bcs_length, hb]) rfl (hvar_load 4 rfl rfl rfl) ?_; simp only [Act.put, List.setIfInBounds_toArray, List.set_cons_succ, List.set_cons_zero])
      (refine walk_dig0 HE.out HX.out (by omega) ha hb rfl rfl rfl rfl HE.out.le (by intro w K Q h; go_step; exact Calls.mono h (by rintro e w' ⟨v, rfl, h⟩; exact h)) ?_; simp only [Act.put, List.setIfInBounds_toArray, List.set_cons_succ, List.set_cons_zero])
      (refine walk_loadn rfl rfl tyHash LX.out rfl (hvar_load 0 rfl rfl rfl) ?_; simp only [Act.put, List.setIfInBounds_toArray, List.set_cons_succ, List.set_cons_zero])
      (refine walk_eqH rfl rfl rfl hX32 hX32 (decide_eq_true rfl) rfl rfl rfl ?_; simp only [Act.put, List.setIfInBounds_toArray, List.set_cons_succ, List.set_cons_zero])
      (apply walk_q rfl; (intro w1 hI; apply Same.of_wp rfl rfl (Nat.le_of_ble_eq_true rfl); intro KK QQ hK; simp only [Act.put, List.setIfInBounds_toArray, List.set_cons_succ, List.set_cons_zero] at hK; go_step; exact hK); simp only [Act.put, List.setIfInBounds_toArray, List.set_cons_succ, List.set_cons_zero])
      (apply walk_q rfl; (intro w1 hI; apply Same.of_wp rfl rfl (Nat.le_of_ble_eq_true rfl); intro KK QQ hK; simp only [Act.put, List.setIfInBounds_toArray, List.set_cons_succ, List.set_cons_zero] at hK; go_step; exact hK); simp only [Act.put, List.setIfInBounds_toArray, List.set_cons_succ, List.set_cons_zero])
      (apply walk_q rfl; (intro w1 hI; apply Same.of_wp rfl rfl (Nat.le_of_ble_eq_true rfl); intro KK QQ hK; simp only [Act.put, List.setIfInBounds_toArray, List.set_cons_succ, List.set_cons_zero] at hK; go_step; exact hK); simp only [Act.put, List.setIfInBounds_toArray, List.set_cons_succ, List.set_cons_zero])
      (apply walk_q rfl; (intro w1 hI; apply Same.of_wp rfl rfl (Nat.le_of_ble_eq_true rfl); intro KK QQ hK; simp only [Act.put, List.setIfInBounds_toArray, List.set_cons_succ, List.set_cons_zero] at hK; go_step; exact hK); simp only [Act.put, List.setIfInBounds_toArray, List.set_cons_succ, List.set_cons_zero])
      (apply walk_q rfl; (intro w1 hI; apply Same.of_wp rfl rfl (Nat.le_of_ble_eq_true rfl); intro KK QQ hK; simp only [Act.put, List.setIfInBounds_toArray, List.set_cons_succ, List.set_cons_zero] at hK; go_step; exact hK); simp only [Act.put, List.setIfInBounds_toArray, List.set_cons_succ, List.set_cons_zero])
      (refine walk_skip rfl (by kernel_rfl) ?_; simp only [Act.put, List.setIfInBounds_toArray, List.set_cons_succ, List.set_cons_zero])
      (refine walk_skip rfl (by kernel_rfl) ?_; simp only [Act.put, List.setIfInBounds_toArray, List.set_cons_succ, List.set_cons_zero])
      (refine walk_skip rfl (by kernel_rfl) ?_; simp only [Act.put, List.setIfInBounds_toArray, List.set_cons_succ, List.set_cons_zero])
      (refine walk_skip rfl (by kernel_rfl) ?_; simp only [Act.put, List.setIfInBounds_toArray, List.set_cons_succ, List.set_cons_zero])
      (refine walk_skip rfl (by kernel_rfl) ?_; simp only [Act.put, List.setIfInBounds_toArray, List.set_cons_succ, List.set_cons_zero])
      (refine walk_skip rfl (by kernel_rfl) ?_; simp only [Act.put, List.setIfInBounds_toArray, List.set_cons_succ, List.set_cons_zero])
      (apply walk_q rfl; (intro w1 hI; apply Same.of_wp rfl rfl (Nat.le_of_ble_eq_true rfl); intro KK QQ hK; simp only [Act.put, List.setIfInBounds_toArray, List.set_cons_succ, List.set_cons_zero] at hK; go_step; exact hK); simp only [Act.put, List.setIfInBounds_toArray, List.set_cons_succ, List.set_cons_zero])
      (apply walk_q rfl; (intro w1 hI; apply Same.of_wp rfl rfl (Nat.le_of_ble_eq_true rfl); intro KK QQ hK; simp only [Act.put, List.setIfInBounds_toArray, List.set_cons_succ, List.set_cons_zero] at hK; go_step; exact hK); simp only [Act.put, List.setIfInBounds_toArray, List.set_cons_succ, List.set_cons_zero])
      (apply walk_q rfl; (intro w1 hI; apply Same.of_wp rfl rfl (Nat.le_of_ble_eq_true rfl); intro KK QQ hK; simp only [Act.put, List.setIfInBounds_toArray, List.set_cons_succ, List.set_cons_zero] at hK; go_step; exact hK); simp only [Act.put, List.setIfInBounds_toArray, List.set_cons_succ, List.set_cons_zero])
      (apply walk_q rfl; (intro w1 hI; apply Same.of_wp rfl rfl (Nat.le_of_ble_eq_true rfl); intro KK QQ hK; simp only [Act.put, List.setIfInBounds_toArray, List.set_cons_succ, List.set_cons_zero] at hK; go_step; exact hK); simp only [Act.put, List.setIfInBounds_toArray, List.set_cons_succ, List.set_cons_zero])
      (apply walk_q rfl; (intro w1 hI; apply Same.of_wp rfl rfl (Nat.le_of_ble_eq_true rfl); intro KK QQ hK; simp only [Act.put, List.setIfInBounds_toArray, List.set_cons_succ, List.set_cons_zero] at hK; go_step; exact hK); simp only [Act.put, List.setIfInBounds_toArray, List.set_cons_succ, List.set_cons_zero])
      (apply walk_q rfl; (intro w1 hI; apply Same.of_wp rfl rfl (Nat.le_of_ble_eq_true rfl); intro KK QQ hK; simp only [Act.put, List.setIfInBounds_toArray, List.set_cons_succ, List.set_cons_zero] at hK; go_step; exact hK); simp only [Act.put, List.setIfInBounds_toArray, List.set_cons_succ, List.set_cons_zero])
      (apply walk_q rfl; (intro w1 hI; apply Same.of_wp rfl rfl (Nat.le_of_ble_eq_true rfl); intro KK QQ hK; simp only [Act.put, List.setIfInBounds_toArray, List.set_cons_succ, List.set_cons_zero] at hK; go_step; exact hK); simp only [Act.put, List.setIfInBounds_toArray, List.set_cons_succ, List.set_cons_zero])
      (refine walk_clash HE.out 5 (clash_of (dgIn N a b) (dgIn MM a b) (by simp) (by simp) (dgIn_num (by omega) (by omega) hnm) (HX.out.trans (P1.out.symm.trans EY1.out.symm))) (by intro l hl; simp at hl; rcases hl with rfl | rfl <;> (rw [dgIn_len ‹_› ‹_›]; omega)) (by simp) rfl rfl rfl rfl rfl rfl rfl HE.out.le (by intro w K Q h; go_step; exact Calls.mono h (by rintro e w' ⟨v, rfl, h⟩; exact h)) ?_; simp only [Act.put, List.setIfInBounds_toArray, List.set_cons_succ, List.set_cons_zero])
      (apply walk_q rfl; (intro w1 hI; apply Same.of_wp rfl rfl (Nat.le_of_ble_eq_true rfl); intro KK QQ hK; simp only [Act.put, List.setIfInBounds_toArray, List.set_cons_succ, List.set_cons_zero] at hK; go_step; exact hK); simp only [Act.put, List.setIfInBounds_toArray, List.set_cons_succ, List.set_cons_zero])
      (apply walk_q rfl; (intro w1 hI; apply Same.of_wp rfl rfl (Nat.le_of_ble_eq_true rfl); intro KK QQ hK; simp only [Act.put, List.setIfInBounds_toArray, List.set_cons_succ, List.set_cons_zero] at hK; go_step; exact hK); simp only [Act.put, List.setIfInBounds_toArray, List.set_cons_succ, List.set_cons_zero])
      (apply walk_q rfl; (intro w1 hI; apply Same.of_wp rfl rfl (Nat.le_of_ble_eq_true rfl); intro KK QQ hK; simp only [Act.put, List.setIfInBounds_toArray, List.set_cons_succ, List.set_cons_zero] at hK; go_step; exact hK); simp only [Act.put, List.setIfInBounds_toArray, List.set_cons_succ, List.set_cons_zero])
      refine walk_nil fun w21 M => ?_
      go_wp2_with (fail)
      go_ret
      exact ⟨rfl, M.out⟩
    · by_cases p3 : Y2 = X
      · have P3 := Lib.hid p3
        clear p3
        refine wp_draw M [told none [5, 18, 27] (hvar b11 X), told (some 4) [] (tapeA F12 b10 [dgIn N a b]), told none [15] (hvar b9 c), told none [] (pts b5 24 (hcs [a, b])), told none [2, 25, 30] (hvar b7 a), told none [3, 16, 24, 31] (hvar b8 b), ⟨some 4, some 17, [], [4], fun | [g] => tapeA g.2 b10 [dgIn N a b, dgIn MM a b] | _ => tapeA (fun _ => False) b10 []⟩, ⟨some 17, none, [], [17], fun | [g] => tapeA g.2 b10 [dgIn N a b, dgIn MM a b, dgIn N c b] | _ => tapeA (fun _ => False) b10 []⟩]
            [.q, .q, .q, .q, ospT E (.agg (bcs Y1).toArray), .q, .q, .q, .q, .q, .q, .q, .q, .q, .q, .q, .q, ospT E (.agg (bcs Y2).toArray), .q, .q, .q, .q, .q, .q, .q, .q, ospT E (.agg (bcs Y3).toArray), .q, .q, .q, .q, .q, .q, .q, .q, .q] (by kernel_rfl) rfl (by kernel_rfl) ?_
        (apply walk_q rfl; (intro w1 hI; apply Same.of_wp rfl rfl (Nat.le_of_ble_eq_true rfl); intro KK QQ hK; simp only [Act.put, List.setIfInBounds_toArray, List.set_cons_succ, List.set_cons_zero] at hK; go_step; exact hK); simp only [Act.put, List.setIfInBounds_toArray, List.set_cons_succ, List.set_cons_zero])
        (apply walk_q rfl; (intro w1 hI; apply Same.of_wp rfl rfl (Nat.le_of_ble_eq_true rfl); intro KK QQ hK; simp only [Act.put, List.setIfInBounds_toArray, List.set_cons_succ, List.set_cons_zero] at hK; go_step; exact hK); simp only [Act.put, List.setIfInBounds_toArray, List.set_cons_succ, List.set_cons_zero])
        (refine walk_loadn rfl rfl tyHash L32.out rfl (hvar_load 4 rfl rfl rfl) ?_; simp only [Act.put, List.setIfInBounds_toArray, List.set_cons_succ, List.set_cons_zero])
        (refine walk_loadn rfl rfl tyHash (by rw [bcs_length, hb]) rfl (hvar_load 5 rfl rfl rfl) ?_; simp only [Act.put, List.setIfInBounds_toArray, List.set_cons_succ, List.set_cons_zero])
        (refine walk_dig HE.out 1 6 EY1.out (by omega) ha hb (HF12.out) (by simp) rfl rfl rfl rfl rfl rfl rfl (fun _ => rfl) (fun _ => rfl) HE.out.le (by intro w K Q h; go_step; exact Calls.mono h (by rintro e w' ⟨v, rfl, h⟩; exact h)) fun F4 HF4 => ?_; replace HF4 := Lib.hid HF4; simp only [Act.put, List.setIfInBounds_toArray, List.set_cons_succ, List.set_cons_zero])
        (refine walk_loadn rfl rfl tyHash LX.out rfl (hvar_load 0 rfl rfl rfl) ?_; simp only [Act.put, List.setIfInBounds_toArray, List.set_cons_succ, List.set_cons_zero])
        (refine walk_eqH rfl rfl rfl hY1 hX32 (decide_eq_false p1) rfl rfl rfl ?_; simp only [Act.put, List.setIfInBounds_toArray, List.set_cons_succ, List.set_cons_zero])
        (apply walk_q rfl; (intro w1 hI; apply Same.of_wp rfl rfl (Nat.le_of_ble_eq_true rfl); intro KK QQ hK; simp only [Act.put, List.setIfInBounds_toArray, List.set_cons_succ, List.set_cons_zero] at hK; go_step; exact hK); simp only [Act.put, List.setIfInBounds_toArray, List.set_cons_succ, List.set_cons_zero])
        (refine walk_skip rfl (by kernel_rfl) ?_; simp only [Act.put, List.setIfInBounds_toArray, List.set_cons_succ, List.set_cons_zero])
        (refine walk_skip rfl (by kernel_rfl) ?_; simp only [Act.put, List.setIfInBounds_toArray, List.set_cons_succ, List.set_cons_zero])
        (refine walk_skip rfl (by kernel_rfl) ?_; simp only [Act.put, List.setIfInBounds_toArray, List.set_cons_succ, List.set_cons_zero])
        (apply walk_q rfl; (intro w1 hI; apply Same.of_wp rfl rfl (Nat.le_of_ble_eq_true rfl); intro KK QQ hK; simp only [Act.put, List.setIfInBounds_toArray, List.set_cons_succ, List.set_cons_zero] at hK; go_step; exact hK); simp only [Act.put, List.setIfInBounds_toArray, List.set_cons_succ, List.set_cons_zero])
        (apply walk_q rfl; (intro w1 hI; apply Same.of_wp rfl rfl (Nat.le_of_ble_eq_true rfl); intro KK QQ hK; simp only [Act.put, List.setIfInBounds_toArray, List.set_cons_succ, List.set_cons_zero] at hK; go_step; exact hK); simp only [Act.put, List.setIfInBounds_toArray, List.set_cons_succ, List.set_cons_zero])
        (apply walk_q rfl; (intro w1 hI; apply Same.of_wp rfl rfl (Nat.le_of_ble_eq_true rfl); intro KK QQ hK; simp only [Act.put, List.setIfInBounds_toArray, List.set_cons_succ, List.set_cons_zero] at hK; go_step; exact hK); simp only [Act.put, List.setIfInBounds_toArray, List.set_cons_succ, List.set_cons_zero])
        (apply walk_q rfl; (intro w1 hI; apply Same.of_wp rfl rfl (Nat.le_of_ble_eq_true rfl); intro KK QQ hK; simp only [Act.put, List.setIfInBounds_toArray, List.set_cons_succ, List.set_cons_zero] at hK; go_step; exact hK); simp only [Act.put, List.setIfInBounds_toArray, List.set_cons_succ, List.set_cons_zero])
        (refine walk_loadn rfl rfl tyHash (by rw [bcs_length, hc32]) rfl (hvar_load 2 rfl rfl rfl) ?_; simp only [Act.put, List.setIfInBounds_toArray, List.set_cons_succ, List.set_cons_zero])
        (refine walk_loadn rfl rfl tyHash (by rw [bcs_length, hb]) rfl (hvar_load 5 rfl rfl rfl) ?_; simp only [Act.put, List.setIfInBounds_toArray, List.set_cons_succ, List.set_cons_zero])
        (refine walk_dig HE.out 6 7 EY2.out (by omega) hc32 hb (HF4.out) (by simp) rfl rfl rfl rfl rfl rfl rfl (fun _ => rfl) (fun _ => rfl) HE.out.le (by intro w K Q h; go_step; exact Calls.mono h (by rintro e w' ⟨v, rfl, h⟩; exact h)) fun F17 HF17 => ?_; replace HF17 := Lib.hid HF17; simp only [Act.put, List.setIfInBounds_toArray, List.set_cons_succ, List.set_cons_zero])
        (refine walk_loadn rfl rfl tyHash LX.out rfl (hvar_load 0 rfl rfl rfl) ?_; simp only [Act.put, List.setIfInBounds_toArray, List.set_cons_succ, List.set_cons_zero])
        (refine walk_eqH rfl rfl rfl hY2 hX32 (decide_eq_true P3.out) rfl rfl rfl ?_; simp only [Act.put, List.setIfInBounds_toArray, List.set_cons_succ, List.set_cons_zero])
        (apply walk_q rfl; (intro w1 hI; apply Same.of_wp rfl rfl (Nat.le_of_ble_eq_true rfl); intro KK QQ hK; simp only [Act.put, List.setIfInBounds_toArray, List.set_cons_succ, List.set_cons_zero] at hK; go_step; exact hK); simp only [Act.put, List.setIfInBounds_toArray, List.set_cons_succ, List.set_cons_zero])
        (apply walk_q rfl; (intro w1 hI; apply Same.of_wp rfl rfl (Nat.le_of_ble_eq_true rfl); intro KK QQ hK; simp only [Act.put, List.setIfInBounds_toArray, List.set_cons_succ, List.set_cons_zero] at hK; go_step; exact hK); simp only [Act.put, List.setIfInBounds_toArray, List.set_cons_succ, List.set_cons_zero])
        (refine walk_skip rfl (by kernel_rfl) ?_; simp only [Act.put, List.setIfInBounds_toArray, List.set_cons_succ, List.set_cons_zero])
        (refine walk_skip rfl (by kernel_rfl) ?_; simp only [Act.put, List.setIfInBounds_toArray, List.set_cons_succ, List.set_cons_zero])
        (refine walk_skip rfl (by kernel_rfl) ?_; simp only [Act.put, List.setIfInBounds_toArray, List.set_cons_succ, List.set_cons_zero])
        (refine walk_skip rfl (by kernel_rfl) ?_; simp only [Act.put, List.setIfInBounds_toArray, List.set_cons_succ, List.set_cons_zero])
        (refine walk_skip rfl (by kernel_rfl) ?_; simp only [Act.put, List.setIfInBounds_toArray, List.set_cons_succ, List.set_cons_zero])
        (refine walk_skip rfl (by kernel_rfl) ?_; simp only [Act.put, List.setIfInBounds_toArray, List.set_cons_succ, List.set_cons_zero])
        (refine walk_skip rfl (by kernel_rfl) ?_; simp only [Act.put, List.setIfInBounds_toArray, List.set_cons_succ, List.set_cons_zero])
        (refine walk_skip rfl (by kernel_rfl) ?_; simp only [Act.put, List.setIfInBounds_toArray, List.set_cons_succ, List.set_cons_zero])
        (refine walk_skip rfl (by kernel_rfl) ?_; simp only [Act.put, List.setIfInBounds_toArray, List.set_cons_succ, List.set_cons_zero])
        (refine walk_skip rfl (by kernel_rfl) ?_; simp only [Act.put, List.setIfInBounds_toArray, List.set_cons_succ, List.set_cons_zero])
        (refine walk_skip rfl (by kernel_rfl) ?_; simp only [Act.put, List.setIfInBounds_toArray, List.set_cons_succ, List.set_cons_zero])
        (refine walk_skip rfl (by kernel_rfl) ?_; simp only [Act.put, List.setIfInBounds_toArray, List.set_cons_succ, List.set_cons_zero])
        (apply walk_q rfl; (intro w1 hI; apply Same.of_wp rfl rfl (Nat.le_of_ble_eq_true rfl); intro KK QQ hK; simp only [Act.put, List.setIfInBounds_toArray, List.set_cons_succ, List.set_cons_zero] at hK; go_step; exact hK); simp only [Act.put, List.setIfInBounds_toArray, List.set_cons_succ, List.set_cons_zero])
        (apply walk_q rfl; (intro w1 hI; apply Same.of_wp rfl rfl (Nat.le_of_ble_eq_true rfl); intro KK QQ hK; simp only [Act.put, List.setIfInBounds_toArray, List.set_cons_succ, List.set_cons_zero] at hK; go_step; exact hK); simp only [Act.put, List.setIfInBounds_toArray, List.set_cons_succ, List.set_cons_zero])
        refine walk_nil fun w20 M => ?_
        have M : Sep (fun _ => False) w w20 [hvar b11 X, hvar b9 c, pts b5 24 (hcs [a, b]), hvar b7 a, hvar b8 b, tapeA F17 b10 [dgIn N a b, dgIn MM a b, dgIn N c b]] := M
        go_wp2_with (fail)
        refine wp_draw M [told none [4, 15] (hvar b11 X), told none [] (hvar b9 c), told none [] (pts b5 24 (hcs [a, b])), told none [1, 12] (hvar b7 a), told none [2, 13] (hvar b8 b), told none [24] (tapeA F17 b10 [dgIn N a b, dgIn MM a b, dgIn N c b])]
            [.q, .q, .q, .v [] fun _ g => g = gq (.agg (bcs X).toArray), .q, .q, .q, .q, .q, .q, .q, .q, .q, .q, .v [] fun _ g => g = gq (.agg (bcs Y1).toArray), .q, .q, .q, .q, .q, .q, .q, .q, .q, .v [] fun _ g => g = gq (.bool true), .q, .q, .q] (by kernel_rfl) rfl (by kernel_rfl) ?_
        (apply walk_q rfl; (intro w1 hI; apply Same.of_wp rfl rfl (Nat.le_of_ble_eq_true rfl); intro KK QQ hK; simp only [Act.put, List.setIfInBounds_toArray, List.set_cons_succ, List.set_cons_zero] at hK; go_step; exact hK); simp only [Act.put, List.setIfInBounds_toArray, List.set_cons_succ, List.set_cons_zero])
        (refine walk_loadn rfl rfl tyHash L32.out rfl (hvar_load 3 rfl rfl rfl) ?_; simp only [Act.put, List.setIfInBounds_toArray, List.set_cons_succ, List.set_cons_zero])
        (refine walk_loadn rfl rfl tyHash (by rw [bcs_length, hb]) rfl (hvar_load 4 rfl rfl rfl) ?_; simp only [Act.put, List.setIfInBounds_toArray, List.set_cons_succ, List.set_cons_zero])
        (refine walk_dig0 HE.out HX.out (by omega) ha hb rfl rfl rfl rfl HE.out.le (by intro w K Q h; go_step; exact Calls.mono h (by rintro e w' ⟨v, rfl, h⟩; exact h)) ?_; simp only [Act.put, List.setIfInBounds_toArray, List.set_cons_succ, List.set_cons_zero])
        (refine walk_loadn rfl rfl tyHash LX.out rfl (hvar_load 0 rfl rfl rfl) ?_; simp only [Act.put, List.setIfInBounds_toArray, List.set_cons_succ, List.set_cons_zero])
        (refine walk_eqH rfl rfl rfl hX32 hX32 (decide_eq_true rfl) rfl rfl rfl ?_; simp only [Act.put, List.setIfInBounds_toArray, List.set_cons_succ, List.set_cons_zero])
        (apply walk_q rfl; (intro w1 hI; apply Same.of_wp rfl rfl (Nat.le_of_ble_eq_true rfl); intro KK QQ hK; simp only [Act.put, List.setIfInBounds_toArray, List.set_cons_succ, List.set_cons_zero] at hK; go_step; exact hK); simp only [Act.put, List.setIfInBounds_toArray, List.set_cons_succ, List.set_cons_zero])
        (apply walk_q rfl; (intro w1 hI; apply Same.of_wp rfl rfl (Nat.le_of_ble_eq_true rfl); intro KK QQ hK; simp only [Act.put, List.setIfInBounds_toArray, List.set_cons_succ, List.set_cons_zero] at hK; go_step; exact hK); simp only [Act.put, List.setIfInBounds_toArray, List.set_cons_succ, List.set_cons_zero])
        (apply walk_q rfl; (intro w1 hI; apply Same.of_wp rfl rfl (Nat.le_of_ble_eq_true rfl); intro KK QQ hK; simp only [Act.put, List.setIfInBounds_toArray, List.set_cons_succ, List.set_cons_zero] at hK; go_step; exact hK); simp only [Act.put, List.setIfInBounds_toArray, List.set_cons_succ, List.set_cons_zero])
        (apply walk_q rfl; (intro w1 hI; apply Same.of_wp rfl rfl (Nat.le_of_ble_eq_true rfl); intro KK QQ hK; simp only [Act.put, List.setIfInBounds_toArray, List.set_cons_succ, List.set_cons_zero] at hK; go_step; exact hK); simp only [Act.put, List.setIfInBounds_toArray, List.set_cons_succ, List.set_cons_zero])
        (apply walk_q rfl; (intro w1 hI; apply Same.of_wp rfl rfl (Nat.le_of_ble_eq_true rfl); intro KK QQ hK; simp only [Act.put, List.setIfInBounds_toArray, List.set_cons_succ, List.set_cons_zero] at hK; go_step; exact hK); simp only [Act.put, List.setIfInBounds_toArray, List.set_cons_succ, List.set_cons_zero])
        (refine walk_skip rfl (by kernel_rfl) ?_; simp only [Act.put, List.setIfInBounds_toArray, List.set_cons_succ, List.set_cons_zero])
        (refine walk_skip rfl (by kernel_rfl) ?_; simp only [Act.put, List.setIfInBounds_toArray, List.set_cons_succ, List.set_cons_zero])
        (refine walk_skip rfl (by kernel_rfl) ?_; simp only [Act.put, List.setIfInBounds_toArray, List.set_cons_succ, List.set_cons_zero])
        (refine walk_skip rfl (by kernel_rfl) ?_; simp only [Act.put, List.setIfInBounds_toArray, List.set_cons_succ, List.set_cons_zero])
        (refine walk_skip rfl (by kernel_rfl) ?_; simp only [Act.put, List.setIfInBounds_toArray, List.set_cons_succ, List.set_cons_zero])
        (refine walk_skip rfl (by kernel_rfl) ?_; simp only [Act.put, List.setIfInBounds_toArray, List.set_cons_succ, List.set_cons_zero])
        (apply walk_q rfl; (intro w1 hI; apply Same.of_wp rfl rfl (Nat.le_of_ble_eq_true rfl); intro KK QQ hK; simp only [Act.put, List.setIfInBounds_toArray, List.set_cons_succ, List.set_cons_zero] at hK; go_step; exact hK); simp only [Act.put, List.setIfInBounds_toArray, List.set_cons_succ, List.set_cons_zero])
        (apply walk_q rfl; (intro w1 hI; apply Same.of_wp rfl rfl (Nat.le_of_ble_eq_true rfl); intro KK QQ hK; simp only [Act.put, List.setIfInBounds_toArray, List.set_cons_succ, List.set_cons_zero] at hK; go_step; exact hK); simp only [Act.put, List.setIfInBounds_toArray, List.set_cons_succ, List.set_cons_zero])
        (apply walk_q rfl; (intro w1 hI; apply Same.of_wp rfl rfl (Nat.le_of_ble_eq_true rfl); intro KK QQ hK; simp only [Act.put, List.setIfInBounds_toArray, List.set_cons_succ, List.set_cons_zero] at hK; go_step; exact hK); simp only [Act.put, List.setIfInBounds_toArray, List.set_cons_succ, List.set_cons_zero])
        (apply walk_q rfl; (intro w1 hI; apply Same.of_wp rfl rfl (Nat.le_of_ble_eq_true rfl); intro KK QQ hK; simp only [Act.put, List.setIfInBounds_toArray, List.set_cons_succ, List.set_cons_zero] at hK; go_step; exact hK); simp only [Act.put, List.setIfInBounds_toArray, List.set_cons_succ, List.set_cons_zero])
        (apply walk_q rfl; (intro w1 hI; apply Same.of_wp rfl rfl (Nat.le_of_ble_eq_true rfl); intro KK QQ hK; simp only [Act.put, List.setIfInBounds_toArray, List.set_cons_succ, List.set_cons_zero] at hK; go_step; exact hK); simp only [Act.put, List.setIfInBounds_toArray, List.set_cons_succ, List.set_cons_zero])
        (apply walk_q rfl; (intro w1 hI; apply Same.of_wp rfl rfl (Nat.le_of_ble_eq_true rfl); intro KK QQ hK; simp only [Act.put, List.setIfInBounds_toArray, List.set_cons_succ, List.set_cons_zero] at hK; go_step; exact hK); simp only [Act.put, List.setIfInBounds_toArray, List.set_cons_succ, List.set_cons_zero])
        (apply walk_q rfl; (intro w1 hI; apply Same.of_wp rfl rfl (Nat.le_of_ble_eq_true rfl); intro KK QQ hK; simp only [Act.put, List.setIfInBounds_toArray, List.set_cons_succ, List.set_cons_zero] at hK; go_step; exact hK); simp only [Act.put, List.setIfInBounds_toArray, List.set_cons_succ, List.set_cons_zero])
        (refine walk_clash HE.out 5 (clash_of (dgIn N a b) (dgIn N c b) (by simp) (by simp) (fun e => hca (dgIn_log ha hc32 e).symm) (HX.out.trans (P3.out.symm.trans EY2.out.symm))) (by intro l hl; simp at hl; rcases hl with rfl | rfl | rfl <;> (rw [dgIn_len ‹_› ‹_›]; omega)) (by simp) rfl rfl rfl rfl rfl rfl rfl HE.out.le (by intro w K Q h; go_step; exact Calls.mono h (by rintro e w' ⟨v, rfl, h⟩; exact h)) ?_; simp only [Act.put, List.setIfInBounds_toArray, List.set_cons_succ, List.set_cons_zero])
        (apply walk_q rfl; (intro w1 hI; apply Same.of_wp rfl rfl (Nat.le_of_ble_eq_true rfl); intro KK QQ hK; simp only [Act.put, List.setIfInBounds_toArray, List.set_cons_succ, List.set_cons_zero] at hK; go_step; exact hK); simp only [Act.put, List.setIfInBounds_toArray, List.set_cons_succ, List.set_cons_zero])
        (apply walk_q rfl; (intro w1 hI; apply Same.of_wp rfl rfl (Nat.le_of_ble_eq_true rfl); intro KK QQ hK; simp only [Act.put, List.setIfInBounds_toArray, List.set_cons_succ, List.set_cons_zero] at hK; go_step; exact hK); simp only [Act.put, List.setIfInBounds_toArray, List.set_cons_succ, List.set_cons_zero])
        (apply walk_q rfl; (intro w1 hI; apply Same.of_wp rfl rfl (Nat.le_of_ble_eq_true rfl); intro KK QQ hK; simp only [Act.put, List.setIfInBounds_toArray, List.set_cons_succ, List.set_cons_zero] at hK; go_step; exact hK); simp only [Act.put, List.setIfInBounds_toArray, List.set_cons_succ, List.set_cons_zero])
        refine walk_nil fun w21 M => ?_
        go_wp2_with (fail)
        go_ret
        exact ⟨rfl, M.out⟩
      · by_cases p4 : Y3 = X
        · have P4 := Lib.hid p4
          clear p4
          by_cases p5 : a = b
          · have P5 := Lib.hid p5
            clear p5
            refine wp_draw M [told none [5, 18, 27] (hvar b11 X), told (some 4) [] (tapeA F12 b10 [dgIn N a b]), told none [15] (hvar b9 c), told none [] (pts b5 24 (hcs [a, b])), told none [2, 25, 30] (hvar b7 a), told none [3, 16, 24, 31] (hvar b8 b), ⟨some 4, some 17, [], [4], fun | [g] => tapeA g.2 b10 [dgIn N a b, dgIn MM a b] | _ => tapeA (fun _ => False) b10 []⟩, ⟨some 17, some 26, [], [17], fun | [g] => tapeA g.2 b10 [dgIn N a b, dgIn MM a b, dgIn N c b] | _ => tapeA (fun _ => False) b10 []⟩, ⟨some 26, none, [], [26], fun | [g] => tapeA g.2 b10 [dgIn N a b, dgIn MM a b, dgIn N c b, dgIn N b a] | _ => tapeA (fun _ => False) b10 []⟩]
                [.q, .q, .q, .q, ospT E (.agg (bcs Y1).toArray), .q, .q, .q, .q, .q, .q, .q, .q, .q, .q, .q, .q, ospT E (.agg (bcs Y2).toArray), .q, .q, .q, .q, .q, .q, .q, .q, ospT E (.agg (bcs Y3).toArray), .q, .q, .q, .q, .q, .q, .q, .q, .q] (by kernel_rfl) rfl (by kernel_rfl) ?_
            (apply walk_q rfl; (intro w1 hI; apply Same.of_wp rfl rfl (Nat.le_of_ble_eq_true rfl); intro KK QQ hK; simp only [Act.put, List.setIfInBounds_toArray, List.set_cons_succ, List.set_cons_zero] at hK; go_step; exact hK); simp only [Act.put, List.setIfInBounds_toArray, List.set_cons_succ, List.set_cons_zero])
            (apply walk_q rfl; (intro w1 hI; apply Same.of_wp rfl rfl (Nat.le_of_ble_eq_true rfl); intro KK QQ hK; simp only [Act.put, List.setIfInBounds_toArray, List.set_cons_succ, List.set_cons_zero] at hK; go_step; exact hK); simp only [Act.put, List.setIfInBounds_toArray, List.set_cons_succ, List.set_cons_zero])
            (refine walk_loadn rfl rfl tyHash L32.out rfl (hvar_load 4 rfl rfl rfl) ?_; simp only [Act.put, List.setIfInBounds_toArray, List.set_cons_succ, List.set_cons_zero])
            (refine walk_loadn rfl rfl tyHash (by rw [bcs_length, hb]) rfl (hvar_load 5 rfl rfl rfl) ?_; simp only [Act.put, List.setIfInBounds_toArray, List.set_cons_succ, List.set_cons_zero])
            (refine walk_dig HE.out 1 6 EY1.out (by omega) ha hb (HF12.out) (by simp) rfl rfl rfl rfl rfl rfl rfl (fun _ => rfl) (fun _ => rfl) HE.out.le (by intro w K Q h; go_step; exact Calls.mono h (by rintro e w' ⟨v, rfl, h⟩; exact h)) fun F4 HF4 => ?_; replace HF4 := Lib.hid HF4; simp only [Act.put, List.setIfInBounds_toArray, List.set_cons_succ, List.set_cons_zero])
            (refine walk_loadn rfl rfl tyHash LX.out rfl (hvar_load 0 rfl rfl rfl) ?_; simp only [Act.put, List.setIfInBounds_toArray, List.set_cons_succ, List.set_cons_zero])
            (refine walk_eqH rfl rfl rfl hY1 hX32 (decide_eq_false p1) rfl rfl rfl ?_; simp only [Act.put, List.setIfInBounds_toArray, List.set_cons_succ, List.set_cons_zero])
            (apply walk_q rfl; (intro w1 hI; apply Same.of_wp rfl rfl (Nat.le_of_ble_eq_true rfl); intro KK QQ hK; simp only [Act.put, List.setIfInBounds_toArray, List.set_cons_succ, List.set_cons_zero] at hK; go_step; exact hK); simp only [Act.put, List.setIfInBounds_toArray, List.set_cons_succ, List.set_cons_zero])
            (refine walk_skip rfl (by kernel_rfl) ?_; simp only [Act.put, List.setIfInBounds_toArray, List.set_cons_succ, List.set_cons_zero])
            (refine walk_skip rfl (by kernel_rfl) ?_; simp only [Act.put, List.setIfInBounds_toArray, List.set_cons_succ, List.set_cons_zero])
            (refine walk_skip rfl (by kernel_rfl) ?_; simp only [Act.put, List.setIfInBounds_toArray, List.set_cons_succ, List.set_cons_zero])
            (apply walk_q rfl; (intro w1 hI; apply Same.of_wp rfl rfl (Nat.le_of_ble_eq_true rfl); intro KK QQ hK; simp only [Act.put, List.setIfInBounds_toArray, List.set_cons_succ, List.set_cons_zero] at hK; go_step; exact hK); simp only [Act.put, List.setIfInBounds_toArray, List.set_cons_succ, List.set_cons_zero])
            (apply walk_q rfl; (intro w1 hI; apply Same.of_wp rfl rfl (Nat.le_of_ble_eq_true rfl); intro KK QQ hK; simp only [Act.put, List.setIfInBounds_toArray, List.set_cons_succ, List.set_cons_zero] at hK; go_step; exact hK); simp only [Act.put, List.setIfInBounds_toArray, List.set_cons_succ, List.set_cons_zero])
            (apply walk_q rfl; (intro w1 hI; apply Same.of_wp rfl rfl (Nat.le_of_ble_eq_true rfl); intro KK QQ hK; simp only [Act.put, List.setIfInBounds_toArray, List.set_cons_succ, List.set_cons_zero] at hK; go_step; exact hK); simp only [Act.put, List.setIfInBounds_toArray, List.set_cons_succ, List.set_cons_zero])
            (apply walk_q rfl; (intro w1 hI; apply Same.of_wp rfl rfl (Nat.le_of_ble_eq_true rfl); intro KK QQ hK; simp only [Act.put, List.setIfInBounds_toArray, List.set_cons_succ, List.set_cons_zero] at hK; go_step; exact hK); simp only [Act.put, List.setIfInBounds_toArray, List.set_cons_succ, List.set_cons_zero])
            (refine walk_loadn rfl rfl tyHash (by rw [bcs_length, hc32]) rfl (hvar_load 2 rfl rfl rfl) ?_; simp only [Act.put, List.setIfInBounds_toArray, List.set_cons_succ, List.set_cons_zero])
            (refine walk_loadn rfl rfl tyHash (by rw [bcs_length, hb]) rfl (hvar_load 5 rfl rfl rfl) ?_; simp only [Act.put, List.setIfInBounds_toArray, List.set_cons_succ, List.set_cons_zero])
            (refine walk_dig HE.out 6 7 EY2.out (by omega) hc32 hb (HF4.out) (by simp) rfl rfl rfl rfl rfl rfl rfl (fun _ => rfl) (fun _ => rfl) HE.out.le (by intro w K Q h; go_step; exact Calls.mono h (by rintro e w' ⟨v, rfl, h⟩; exact h)) fun F17 HF17 => ?_; replace HF17 := Lib.hid HF17; simp only [Act.put, List.setIfInBounds_toArray, List.set_cons_succ, List.set_cons_zero])
            (refine walk_loadn rfl rfl tyHash LX.out rfl (hvar_load 0 rfl rfl rfl) ?_; simp only [Act.put, List.setIfInBounds_toArray, List.set_cons_succ, List.set_cons_zero])
            (refine walk_eqH rfl rfl rfl hY2 hX32 (decide_eq_false p3) rfl rfl rfl ?_; simp only [Act.put, List.setIfInBounds_toArray, List.set_cons_succ, List.set_cons_zero])
            (apply walk_q rfl; (intro w1 hI; apply Same.of_wp rfl rfl (Nat.le_of_ble_eq_true rfl); intro KK QQ hK; simp only [Act.put, List.setIfInBounds_toArray, List.set_cons_succ, List.set_cons_zero] at hK; go_step; exact hK); simp only [Act.put, List.setIfInBounds_toArray, List.set_cons_succ, List.set_cons_zero])
            (apply walk_q rfl; (intro w1 hI; apply Same.of_wp rfl rfl (Nat.le_of_ble_eq_true rfl); intro KK QQ hK; simp only [Act.put, List.setIfInBounds_toArray, List.set_cons_succ, List.set_cons_zero] at hK; go_step; exact hK); simp only [Act.put, List.setIfInBounds_toArray, List.set_cons_succ, List.set_cons_zero])
            (apply walk_q rfl; (intro w1 hI; apply Same.of_wp rfl rfl (Nat.le_of_ble_eq_true rfl); intro KK QQ hK; simp only [Act.put, List.setIfInBounds_toArray, List.set_cons_succ, List.set_cons_zero] at hK; go_step; exact hK); simp only [Act.put, List.setIfInBounds_toArray, List.set_cons_succ, List.set_cons_zero])
            (apply walk_q rfl; (intro w1 hI; apply Same.of_wp rfl rfl (Nat.le_of_ble_eq_true rfl); intro KK QQ hK; simp only [Act.put, List.setIfInBounds_toArray, List.set_cons_succ, List.set_cons_zero] at hK; go_step; exact hK); simp only [Act.put, List.setIfInBounds_toArray, List.set_cons_succ, List.set_cons_zero])
            (refine walk_loadn rfl rfl tyHash (by rw [bcs_length, hb]) rfl (hvar_load 5 rfl rfl rfl) ?_; simp only [Act.put, List.setIfInBounds_toArray, List.set_cons_succ, List.set_cons_zero])
            (refine walk_loadn rfl rfl tyHash L32.out rfl (hvar_load 4 rfl rfl rfl) ?_; simp only [Act.put, List.setIfInBounds_toArray, List.set_cons_succ, List.set_cons_zero])
            (refine walk_dig HE.out 7 8 EY3.out (by omega) hb ha (HF17.out) (by simp) rfl rfl rfl rfl rfl rfl rfl (fun _ => rfl) (fun _ => rfl) HE.out.le (by intro w K Q h; go_step; exact Calls.mono h (by rintro e w' ⟨v, rfl, h⟩; exact h)) fun F26 HF26 => ?_; replace HF26 := Lib.hid HF26; simp only [Act.put, List.setIfInBounds_toArray, List.set_cons_succ, List.set_cons_zero])
            (refine walk_loadn rfl rfl tyHash LX.out rfl (hvar_load 0 rfl rfl rfl) ?_; simp only [Act.put, List.setIfInBounds_toArray, List.set_cons_succ, List.set_cons_zero])
            (refine walk_eqH rfl rfl rfl hY3 hX32 (decide_eq_true P4.out) rfl rfl rfl ?_; simp only [Act.put, List.setIfInBounds_toArray, List.set_cons_succ, List.set_cons_zero])
            (apply walk_q rfl; (intro w1 hI; apply Same.of_wp rfl rfl (Nat.le_of_ble_eq_true rfl); intro KK QQ hK; simp only [Act.put, List.setIfInBounds_toArray, List.set_cons_succ, List.set_cons_zero] at hK; go_step; exact hK); simp only [Act.put, List.setIfInBounds_toArray, List.set_cons_succ, List.set_cons_zero])
            (refine walk_loadn rfl rfl tyHash L32.out rfl (hvar_load 4 rfl rfl rfl) ?_; simp only [Act.put, List.setIfInBounds_toArray, List.set_cons_succ, List.set_cons_zero])
            (refine walk_loadn rfl rfl tyHash (by rw [bcs_length, hb]) rfl (hvar_load 5 rfl rfl rfl) ?_; simp only [Act.put, List.setIfInBounds_toArray, List.set_cons_succ, List.set_cons_zero])
            (refine walk_neH rfl rfl rfl ha hb (by rw [decide_eq_true P5.out, Bool.not_true]) rfl rfl rfl ?_; simp only [Act.put, List.setIfInBounds_toArray, List.set_cons_succ, List.set_cons_zero])
            (apply walk_q rfl; (intro w1 hI; apply Same.of_wp rfl rfl (Nat.le_of_ble_eq_true rfl); intro KK QQ hK; simp only [Act.put, List.setIfInBounds_toArray, List.set_cons_succ, List.set_cons_zero] at hK; go_step; exact hK); simp only [Act.put, List.setIfInBounds_toArray, List.set_cons_succ, List.set_cons_zero])
            (apply walk_q rfl; (intro w1 hI; apply Same.of_wp rfl rfl (Nat.le_of_ble_eq_true rfl); intro KK QQ hK; simp only [Act.put, List.setIfInBounds_toArray, List.set_cons_succ, List.set_cons_zero] at hK; go_step; exact hK); simp only [Act.put, List.setIfInBounds_toArray, List.set_cons_succ, List.set_cons_zero])
            (apply walk_q rfl; (intro w1 hI; apply Same.of_wp rfl rfl (Nat.le_of_ble_eq_true rfl); intro KK QQ hK; simp only [Act.put, List.setIfInBounds_toArray, List.set_cons_succ, List.set_cons_zero] at hK; go_step; exact hK); simp only [Act.put, List.setIfInBounds_toArray, List.set_cons_succ, List.set_cons_zero])
            refine walk_nil fun w20 M => ?_
            have M : Sep (fun _ => False) w w20 [hvar b11 X, hvar b9 c, pts b5 24 (hcs [a, b]), hvar b7 a, hvar b8 b, tapeA F26 b10 [dgIn N a b, dgIn MM a b, dgIn N c b, dgIn N b a]] := M
            go_wp2_with (fail)
            refine wp_draw M [told none [4, 15] (hvar b11 X), told none [] (hvar b9 c), told none [] (pts b5 24 (hcs [a, b])), told none [1, 12] (hvar b7 a), told none [2, 13] (hvar b8 b), told none [24] (tapeA F26 b10 [dgIn N a b, dgIn MM a b, dgIn N c b, dgIn N b a])]
                [.q, .q, .q, .v [] fun _ g => g = gq (.agg (bcs X).toArray), .q, .q, .q, .q, .q, .q, .q, .q, .q, .q, .v [] fun _ g => g = gq (.agg (bcs Y1).toArray), .q, .q, .q, .q, .q, .q, .q, .q, .q, .v [] fun _ g => g = gq (.bool true), .q, .q, .q] (by kernel_rfl) rfl (by kernel_rfl) ?_
            (apply walk_q rfl; (intro w1 hI; apply Same.of_wp rfl rfl (Nat.le_of_ble_eq_true rfl); intro KK QQ hK; simp only [Act.put, List.setIfInBounds_toArray, List.set_cons_succ, List.set_cons_zero] at hK; go_step; exact hK); simp only [Act.put, List.setIfInBounds_toArray, List.set_cons_succ, List.set_cons_zero])
            (refine walk_loadn rfl rfl tyHash L32.out rfl (hvar_load 3 rfl rfl rfl) ?_; simp only [Act.put, List.setIfInBounds_toArray, List.set_cons_succ, List.set_cons_zero])
            (refine walk_loadn rfl rfl tyHash (by rw [bcs_length, hb]) rfl (hvar_load 4 rfl rfl rfl) ?_; simp only [Act.put, List.setIfInBounds_toArray, List.set_cons_succ, List.set_cons_zero])
            (refine walk_dig0 HE.out HX.out (by omega) ha hb rfl rfl rfl rfl HE.out.le (by intro w K Q h; go_step; exact Calls.mono h (by rintro e w' ⟨v, rfl, h⟩; exact h)) ?_; simp only [Act.put, List.setIfInBounds_toArray, List.set_cons_succ, List.set_cons_zero])
            (refine walk_loadn rfl rfl tyHash LX.out rfl (hvar_load 0 rfl rfl rfl) ?_; simp only [Act.put, List.setIfInBounds_toArray, List.set_cons_succ, List.set_cons_zero])
            (refine walk_eqH rfl rfl rfl hX32 hX32 (decide_eq_true rfl) rfl rfl rfl ?_; simp only [Act.put, List.setIfInBounds_toArray, List.set_cons_succ, List.set_cons_zero])
            (apply walk_q rfl; (intro w1 hI; apply Same.of_wp rfl rfl (Nat.le_of_ble_eq_true rfl); intro KK QQ hK; simp only [Act.put, List.setIfInBounds_toArray, List.set_cons_succ, List.set_cons_zero] at hK; go_step; exact hK); simp only [Act.put, List.setIfInBounds_toArray, List.set_cons_succ, List.set_cons_zero])
            (apply walk_q rfl; (intro w1 hI; apply Same.of_wp rfl rfl (Nat.le_of_ble_eq_true rfl); intro KK QQ hK; simp only [Act.put, List.setIfInBounds_toArray, List.set_cons_succ, List.set_cons_zero] at hK; go_step; exact hK); simp only [Act.put, List.setIfInBounds_toArray, List.set_cons_succ, List.set_cons_zero])
            (apply walk_q rfl; (intro w1 hI; apply Same.of_wp rfl rfl (Nat.le_of_ble_eq_true rfl); intro KK QQ hK; simp only [Act.put, List.setIfInBounds_toArray, List.set_cons_succ, List.set_cons_zero] at hK; go_step; exact hK); simp only [Act.put, List.setIfInBounds_toArray, List.set_cons_succ, List.set_cons_zero])
            (apply walk_q rfl; (intro w1 hI; apply Same.of_wp rfl rfl (Nat.le_of_ble_eq_true rfl); intro KK QQ hK; simp only [Act.put, List.setIfInBounds_toArray, List.set_cons_succ, List.set_cons_zero] at hK; go_step; exact hK); simp only [Act.put, List.setIfInBounds_toArray, List.set_cons_succ, List.set_cons_zero])
            (apply walk_q rfl; (intro w1 hI; apply Same.of_wp rfl rfl (Nat.le_of_ble_eq_true rfl); intro KK QQ hK; simp only [Act.put, List.setIfInBounds_toArray, List.set_cons_succ, List.set_cons_zero] at hK; go_step; exact hK); simp only [Act.put, List.setIfInBounds_toArray, List.set_cons_succ, List.set_cons_zero])
            (refine walk_skip rfl (by kernel_rfl) ?_; simp only [Act.put, List.setIfInBounds_toArray, List.set_cons_succ, List.set_cons_zero])
            (refine walk_skip rfl (by kernel_rfl) ?_; simp only [Act.put, List.setIfInBounds_toArray, List.set_cons_succ, List.set_cons_zero])
            (refine walk_skip rfl (by kernel_rfl) ?_; simp only [Act.put, List.setIfInBounds_toArray, List.set_cons_succ, List.set_cons_zero])
            (refine walk_skip rfl (by kernel_rfl) ?_; simp only [Act.put, List.setIfInBounds_toArray, List.set_cons_succ, List.set_cons_zero])
            (refine walk_skip rfl (by kernel_rfl) ?_; simp only [Act.put, List.setIfInBounds_toArray, List.set_cons_succ, List.set_cons_zero])
            (refine walk_skip rfl (by kernel_rfl) ?_; simp only [Act.put, List.setIfInBounds_toArray, List.set_cons_succ, List.set_cons_zero])
            (apply walk_q rfl; (intro w1 hI; apply Same.of_wp rfl rfl (Nat.le_of_ble_eq_true rfl); intro KK QQ hK; simp only [Act.put, List.setIfInBounds_toArray, List.set_cons_succ, List.set_cons_zero] at hK; go_step; exact hK); simp only [Act.put, List.setIfInBounds_toArray, List.set_cons_succ, List.set_cons_zero])
            (apply walk_q rfl; (intro w1 hI; apply Same.of_wp rfl rfl (Nat.le_of_ble_eq_true rfl); intro KK QQ hK; simp only [Act.put, List.setIfInBounds_toArray, List.set_cons_succ, List.set_cons_zero] at hK; go_step; exact hK); simp only [Act.put, List.setIfInBounds_toArray, List.set_cons_succ, List.set_cons_zero])
            (apply walk_q rfl; (intro w1 hI; apply Same.of_wp rfl rfl (Nat.le_of_ble_eq_true rfl); intro KK QQ hK; simp only [Act.put, List.setIfInBounds_toArray, List.set_cons_succ, List.set_cons_zero] at hK; go_step; exact hK); simp only [Act.put, List.setIfInBounds_toArray, List.set_cons_succ, List.set_cons_zero])
            (apply walk_q rfl; (intro w1 hI; apply Same.of_wp rfl rfl (Nat.le_of_ble_eq_true rfl); intro KK QQ hK; simp only [Act.put, List.setIfInBounds_toArray, List.set_cons_succ, List.set_cons_zero] at hK; go_step; exact hK); simp only [Act.put, List.setIfInBounds_toArray, List.set_cons_succ, List.set_cons_zero])
            (apply walk_q rfl; (intro w1 hI; apply Same.of_wp rfl rfl (Nat.le_of_ble_eq_true rfl); intro KK QQ hK; simp only [Act.put, List.setIfInBounds_toArray, List.set_cons_succ, List.set_cons_zero] at hK; go_step; exact hK); simp only [Act.put, List.setIfInBounds_toArray, List.set_cons_succ, List.set_cons_zero])
            (apply walk_q rfl; (intro w1 hI; apply Same.of_wp rfl rfl (Nat.le_of_ble_eq_true rfl); intro KK QQ hK; simp only [Act.put, List.setIfInBounds_toArray, List.set_cons_succ, List.set_cons_zero] at hK; go_step; exact hK); simp only [Act.put, List.setIfInBounds_toArray, List.set_cons_succ, List.set_cons_zero])
            (refine walk_skip rfl (by kernel_rfl) ?_; simp only [Act.put, List.setIfInBounds_toArray, List.set_cons_succ, List.set_cons_zero])
            (refine walk_skip rfl (by kernel_rfl) ?_; simp only [Act.put, List.setIfInBounds_toArray, List.set_cons_succ, List.set_cons_zero])
            (apply walk_q rfl; (intro w1 hI; apply Same.of_wp rfl rfl (Nat.le_of_ble_eq_true rfl); intro KK QQ hK; simp only [Act.put, List.setIfInBounds_toArray, List.set_cons_succ, List.set_cons_zero] at hK; go_step; exact hK); simp only [Act.put, List.setIfInBounds_toArray, List.set_cons_succ, List.set_cons_zero])
            (apply walk_q rfl; (intro w1 hI; apply Same.of_wp rfl rfl (Nat.le_of_ble_eq_true rfl); intro KK QQ hK; simp only [Act.put, List.setIfInBounds_toArray, List.set_cons_succ, List.set_cons_zero] at hK; go_step; exact hK); simp only [Act.put, List.setIfInBounds_toArray, List.set_cons_succ, List.set_cons_zero])
            (apply walk_q rfl; (intro w1 hI; apply Same.of_wp rfl rfl (Nat.le_of_ble_eq_true rfl); intro KK QQ hK; simp only [Act.put, List.setIfInBounds_toArray, List.set_cons_succ, List.set_cons_zero] at hK; go_step; exact hK); simp only [Act.put, List.setIfInBounds_toArray, List.set_cons_succ, List.set_cons_zero])
            refine walk_nil fun w21 M => ?_
            go_wp2_with (fail)
            go_ret
            exact ⟨rfl, M.out⟩
          · refine wp_draw M [told none [5, 18, 27] (hvar b11 X), told (some 4) [] (tapeA F12 b10 [dgIn N a b]), told none [15] (hvar b9 c), told none [] (pts b5 24 (hcs [a, b])), told none [2, 25, 30] (hvar b7 a), told none [3, 16, 24, 31] (hvar b8 b), ⟨some 4, some 17, [], [4], fun | [g] => tapeA g.2 b10 [dgIn N a b, dgIn MM a b] | _ => tapeA (fun _ => False) b10 []⟩, ⟨some 17, some 26, [], [17], fun | [g] => tapeA g.2 b10 [dgIn N a b, dgIn MM a b, dgIn N c b] | _ => tapeA (fun _ => False) b10 []⟩, ⟨some 26, none, [], [26], fun | [g] => tapeA g.2 b10 [dgIn N a b, dgIn MM a b, dgIn N c b, dgIn N b a] | _ => tapeA (fun _ => False) b10 []⟩]
                [.q, .q, .q, .q, ospT E (.agg (bcs Y1).toArray), .q, .q, .q, .q, .q, .q, .q, .q, .q, .q, .q, .q, ospT E (.agg (bcs Y2).toArray), .q, .q, .q, .q, .q, .q, .q, .q, ospT E (.agg (bcs Y3).toArray), .q, .q, .q, .q, .q, .q, .q, .q, .q] (by kernel_rfl) rfl (by kernel_rfl) ?_
            (apply walk_q rfl; (intro w1 hI; apply Same.of_wp rfl rfl (Nat.le_of_ble_eq_true rfl); intro KK QQ hK; simp only [Act.put, List.setIfInBounds_toArray, List.set_cons_succ, List.set_cons_zero] at hK; go_step; exact hK); simp only [Act.put, List.setIfInBounds_toArray, List.set_cons_succ, List.set_cons_zero])
            (apply walk_q rfl; (intro w1 hI; apply Same.of_wp rfl rfl (Nat.le_of_ble_eq_true rfl); intro KK QQ hK; simp only [Act.put, List.setIfInBounds_toArray, List.set_cons_succ, List.set_cons_zero] at hK; go_step; exact hK); simp only [Act.put, List.setIfInBounds_toArray, List.set_cons_succ, List.set_cons_zero])
            (refine walk_loadn rfl rfl tyHash L32.out rfl (hvar_load 4 rfl rfl rfl) ?_; simp only [Act.put, List.setIfInBounds_toArray, List.set_cons_succ, List.set_cons_zero])
            (refine walk_loadn rfl rfl tyHash (by rw [bcs_length, hb]) rfl (hvar_load 5 rfl rfl rfl) ?_; simp only [Act.put, List.setIfInBounds_toArray, List.set_cons_succ, List.set_cons_zero])
            (refine walk_dig HE.out 1 6 EY1.out (by omega) ha hb (HF12.out) (by simp) rfl rfl rfl rfl rfl rfl rfl (fun _ => rfl) (fun _ => rfl) HE.out.le (by intro w K Q h; go_step; exact Calls.mono h (by rintro e w' ⟨v, rfl, h⟩; exact h)) fun F4 HF4 => ?_; replace HF4 := Lib.hid HF4; simp only [Act.put, List.setIfInBounds_toArray, List.set_cons_succ, List.set_cons_zero])
            (refine walk_loadn rfl rfl tyHash LX.out rfl (hvar_load 0 rfl rfl rfl) ?_; simp only [Act.put, List.setIfInBounds_toArray, List.set_cons_succ, List.set_cons_zero])
            (refine walk_eqH rfl rfl rfl hY1 hX32 (decide_eq_false p1) rfl rfl rfl ?_; simp only [Act.put, List.setIfInBounds_toArray, List.set_cons_succ, List.set_cons_zero])
            (apply walk_q rfl; (intro w1 hI; apply Same.of_wp rfl rfl (Nat.le_of_ble_eq_true rfl); intro KK QQ hK; simp only [Act.put, List.setIfInBounds_toArray, List.set_cons_succ, List.set_cons_zero] at hK; go_step; exact hK); simp only [Act.put, List.setIfInBounds_toArray, List.set_cons_succ, List.set_cons_zero])
            (refine walk_skip rfl (by kernel_rfl) ?_; simp only [Act.put, List.setIfInBounds_toArray, List.set_cons_succ, List.set_cons_zero])
            (refine walk_skip rfl (by kernel_rfl) ?_; simp only [Act.put, List.setIfInBounds_toArray, List.set_cons_succ, List.set_cons_zero])
            (refine walk_skip rfl (by kernel_rfl) ?_; simp only [Act.put, List.setIfInBounds_toArray, List.set_cons_succ, List.set_cons_zero])
            (apply walk_q rfl; (intro w1 hI; apply Same.of_wp rfl rfl (Nat.le_of_ble_eq_true rfl); intro KK QQ hK; simp only [Act.put, List.setIfInBounds_toArray, List.set_cons_succ, List.set_cons_zero] at hK; go_step; exact hK); simp only [Act.put, List.setIfInBounds_toArray, List.set_cons_succ, List.set_cons_zero])
            (apply walk_q rfl; (intro w1 hI; apply Same.of_wp rfl rfl (Nat.le_of_ble_eq_true rfl); intro KK QQ hK; simp only [Act.put, List.setIfInBounds_toArray, List.set_cons_succ, List.set_cons_zero] at hK; go_step; exact hK); simp only [Act.put, List.setIfInBounds_toArray, List.set_cons_succ, List.set_cons_zero])
            (apply walk_q rfl; (intro w1 hI; apply Same.of_wp rfl rfl (Nat.le_of_ble_eq_true rfl); intro KK QQ hK; simp only [Act.put, List.setIfInBounds_toArray, List.set_cons_succ, List.set_cons_zero] at hK; go_step; exact hK); simp only [Act.put, List.setIfInBounds_toArray, List.set_cons_succ, List.set_cons_zero])
            (apply walk_q rfl; (intro w1 hI; apply Same.of_wp rfl rfl (Nat.le_of_ble_eq_true rfl); intro KK QQ hK; simp only [Act.put, List.setIfInBounds_toArray, List.set_cons_succ, List.set_cons_zero] at hK; go_step; exact hK); simp only [Act.put, List.setIfInBounds_toArray, List.set_cons_succ, List.set_cons_zero])
            (refine walk_loadn rfl rfl tyHash (by rw [bcs_length, hc32]) rfl (hvar_load 2 rfl rfl rfl) ?_; simp only [Act.put, List.setIfInBounds_toArray, List.set_cons_succ, List.set_cons_zero])
            (refine walk_loadn rfl rfl tyHash (by rw [bcs_length, hb]) rfl (hvar_load 5 rfl rfl rfl) ?_; simp only [Act.put, List.setIfInBounds_toArray, List.set_cons_succ, List.set_cons_zero])
            (refine walk_dig HE.out 6 7 EY2.out (by omega) hc32 hb (HF4.out) (by simp) rfl rfl rfl rfl rfl rfl rfl (fun _ => rfl) (fun _ => rfl) HE.out.le (by intro w K Q h; go_step; exact Calls.mono h (by rintro e w' ⟨v, rfl, h⟩; exact h)) fun F17 HF17 => ?_; replace HF17 := Lib.hid HF17; simp only [Act.put, List.setIfInBounds_toArray, List.set_cons_succ, List.set_cons_zero])
            (refine walk_loadn rfl rfl tyHash LX.out rfl (hvar_load 0 rfl rfl rfl) ?_; simp only [Act.put, List.setIfInBounds_toArray, List.set_cons_succ, List.set_cons_zero])
            (refine walk_eqH rfl rfl rfl hY2 hX32 (decide_eq_false p3) rfl rfl rfl ?_; simp only [Act.put, List.setIfInBounds_toArray, List.set_cons_succ, List.set_cons_zero])
            (apply walk_q rfl; (intro w1 hI; apply Same.of_wp rfl rfl (Nat.le_of_ble_eq_true rfl); intro KK QQ hK; simp only [Act.put, List.setIfInBounds_toArray, List.set_cons_succ, List.set_cons_zero] at hK; go_step; exact hK); simp only [Act.put, List.setIfInBounds_toArray, List.set_cons_succ, List.set_cons_zero])
            (apply walk_q rfl; (intro w1 hI; apply Same.of_wp rfl rfl (Nat.le_of_ble_eq_true rfl); intro KK QQ hK; simp only [Act.put, List.setIfInBounds_toArray, List.set_cons_succ, List.set_cons_zero] at hK; go_step; exact hK); simp only [Act.put, List.setIfInBounds_toArray, List.set_cons_succ, List.set_cons_zero])
            (apply walk_q rfl; (intro w1 hI; apply Same.of_wp rfl rfl (Nat.le_of_ble_eq_true rfl); intro KK QQ hK; simp only [Act.put, List.setIfInBounds_toArray, List.set_cons_succ, List.set_cons_zero] at hK; go_step; exact hK); simp only [Act.put, List.setIfInBounds_toArray, List.set_cons_succ, List.set_cons_zero])
            (apply walk_q rfl; (intro w1 hI; apply Same.of_wp rfl rfl (Nat.le_of_ble_eq_true rfl); intro KK QQ hK; simp only [Act.put, List.setIfInBounds_toArray, List.set_cons_succ, List.set_cons_zero] at hK; go_step; exact hK); simp only [Act.put, List.setIfInBounds_toArray, List.set_cons_succ, List.set_cons_zero])
            (refine walk_loadn rfl rfl tyHash (by rw [bcs_length, hb]) rfl (hvar_load 5 rfl rfl rfl) ?_; simp only [Act.put, List.setIfInBounds_toArray, List.set_cons_succ, List.set_cons_zero])
            (refine walk_loadn rfl rfl tyHash L32.out rfl (hvar_load 4 rfl rfl rfl) ?_; simp only [Act.put, List.setIfInBounds_toArray, List.set_cons_succ, List.set_cons_zero])
            (refine walk_dig HE.out 7 8 EY3.out (by omega) hb ha (HF17.out) (by simp) rfl rfl rfl rfl rfl rfl rfl (fun _ => rfl) (fun _ => rfl) HE.out.le (by intro w K Q h; go_step; exact Calls.mono h (by rintro e w' ⟨v, rfl, h⟩; exact h)) fun F26 HF26 => ?_; replace HF26 := Lib.hid HF26; simp only [Act.put, List.setIfInBounds_toArray, List.set_cons_succ, List.set_cons_zero])
            (refine walk_loadn rfl rfl tyHash LX.out rfl (hvar_load 0 rfl rfl rfl) ?_; simp only [Act.put, List.setIfInBounds_toArray, List.set_cons_succ, List.set_cons_zero])
            (refine walk_eqH rfl rfl rfl hY3 hX32 (decide_eq_true P4.out) rfl rfl rfl ?_; simp only [Act.put, List.setIfInBounds_toArray, List.set_cons_succ, List.set_cons_zero])
            (apply walk_q rfl; (intro w1 hI; apply Same.of_wp rfl rfl (Nat.le_of_ble_eq_true rfl); intro KK QQ hK; simp only [Act.put, List.setIfInBounds_toArray, List.set_cons_succ, List.set_cons_zero] at hK; go_step; exact hK); simp only [Act.put, List.setIfInBounds_toArray, List.set_cons_succ, List.set_cons_zero])
            (refine walk_loadn rfl rfl tyHash L32.out rfl (hvar_load 4 rfl rfl rfl) ?_; simp only [Act.put, List.setIfInBounds_toArray, List.set_cons_succ, List.set_cons_zero])
            (refine walk_loadn rfl rfl tyHash (by rw [bcs_length, hb]) rfl (hvar_load 5 rfl rfl rfl) ?_; simp only [Act.put, List.setIfInBounds_toArray, List.set_cons_succ, List.set_cons_zero])
            (refine walk_neH rfl rfl rfl ha hb (by rw [decide_eq_false p5, Bool.not_false]) rfl rfl rfl ?_; simp only [Act.put, List.setIfInBounds_toArray, List.set_cons_succ, List.set_cons_zero])
            (apply walk_q rfl; (intro w1 hI; apply Same.of_wp rfl rfl (Nat.le_of_ble_eq_true rfl); intro KK QQ hK; simp only [Act.put, List.setIfInBounds_toArray, List.set_cons_succ, List.set_cons_zero] at hK; go_step; exact hK); simp only [Act.put, List.setIfInBounds_toArray, List.set_cons_succ, List.set_cons_zero])
            (apply walk_q rfl; (intro w1 hI; apply Same.of_wp rfl rfl (Nat.le_of_ble_eq_true rfl); intro KK QQ hK; simp only [Act.put, List.setIfInBounds_toArray, List.set_cons_succ, List.set_cons_zero] at hK; go_step; exact hK); simp only [Act.put, List.setIfInBounds_toArray, List.set_cons_succ, List.set_cons_zero])
            (apply walk_q rfl; (intro w1 hI; apply Same.of_wp rfl rfl (Nat.le_of_ble_eq_true rfl); intro KK QQ hK; simp only [Act.put, List.setIfInBounds_toArray, List.set_cons_succ, List.set_cons_zero] at hK; go_step; exact hK); simp only [Act.put, List.setIfInBounds_toArray, List.set_cons_succ, List.set_cons_zero])
            refine walk_nil fun w20 M => ?_
            have M : Sep (fun _ => False) w w20 [hvar b11 X, hvar b9 c, pts b5 24 (hcs [a, b]), hvar b7 a, hvar b8 b, tapeA F26 b10 [dgIn N a b, dgIn MM a b, dgIn N c b, dgIn N b a]] := M
            go_wp2_with (fail)
            refine wp_draw M [told none [4, 15] (hvar b11 X), told none [] (hvar b9 c), told none [] (pts b5 24 (hcs [a, b])), told none [1, 12] (hvar b7 a), told none [2, 13] (hvar b8 b), told none [24] (tapeA F26 b10 [dgIn N a b, dgIn MM a b, dgIn N c b, dgIn N b a])]
                [.q, .q, .q, .v [] fun _ g => g = gq (.agg (bcs X).toArray), .q, .q, .q, .q, .q, .q, .q, .q, .q, .q, .v [] fun _ g => g = gq (.agg (bcs Y1).toArray), .q, .q, .q, .q, .q, .q, .q, .q, .q, .v [] fun _ g => g = gq (.bool true), .q, .q, .q] (by kernel_rfl) rfl (by kernel_rfl) ?_
            (apply walk_q rfl; (intro w1 hI; apply Same.of_wp rfl rfl (Nat.le_of_ble_eq_true rfl); intro KK QQ hK; simp only [Act.put, List.setIfInBounds_toArray, List.set_cons_succ, List.set_cons_zero] at hK; go_step; exact hK); simp only [Act.put, List.setIfInBounds_toArray, List.set_cons_succ, List.set_cons_zero])
            (refine walk_loadn rfl rfl tyHash L32.out rfl (hvar_load 3 rfl rfl rfl) ?_; simp only [Act.put, List.setIfInBounds_toArray, List.set_cons_succ, List.set_cons_zero])
            (refine walk_loadn rfl rfl tyHash (by rw [bcs_length, hb]) rfl (hvar_load 4 rfl rfl rfl) ?_; simp only [Act.put, List.setIfInBounds_toArray, List.set_cons_succ, List.set_cons_zero])
            (refine walk_dig0 HE.out HX.out (by omega) ha hb rfl rfl rfl rfl HE.out.le (by intro w K Q h; go_step; exact Calls.mono h (by rintro e w' ⟨v, rfl, h⟩; exact h)) ?_; simp only [Act.put, List.setIfInBounds_toArray, List.set_cons_succ, List.set_cons_zero])
            (refine walk_loadn rfl rfl tyHash LX.out rfl (hvar_load 0 rfl rfl rfl) ?_; simp only [Act.put, List.setIfInBounds_toArray, List.set_cons_succ, List.set_cons_zero])
            (refine walk_eqH rfl rfl rfl hX32 hX32 (decide_eq_true rfl) rfl rfl rfl ?_; simp only [Act.put, List.setIfInBounds_toArray, List.set_cons_succ, List.set_cons_zero])
            (apply walk_q rfl; (intro w1 hI; apply Same.of_wp rfl rfl (Nat.le_of_ble_eq_true rfl); intro KK QQ hK; simp only [Act.put, List.setIfInBounds_toArray, List.set_cons_succ, List.set_cons_zero] at hK; go_step; exact hK); simp only [Act.put, List.setIfInBounds_toArray, List.set_cons_succ, List.set_cons_zero])
            (apply walk_q rfl; (intro w1 hI; apply Same.of_wp rfl rfl (Nat.le_of_ble_eq_true rfl); intro KK QQ hK; simp only [Act.put, List.setIfInBounds_toArray, List.set_cons_succ, List.set_cons_zero] at hK; go_step; exact hK); simp only [Act.put, List.setIfInBounds_toArray, List.set_cons_succ, List.set_cons_zero])
            (apply walk_q rfl; (intro w1 hI; apply Same.of_wp rfl rfl (Nat.le_of_ble_eq_true rfl); intro KK QQ hK; simp only [Act.put, List.setIfInBounds_toArray, List.set_cons_succ, List.set_cons_zero] at hK; go_step; exact hK); simp only [Act.put, List.setIfInBounds_toArray, List.set_cons_succ, List.set_cons_zero])
            (apply walk_q rfl; (intro w1 hI; apply Same.of_wp rfl rfl (Nat.le_of_ble_eq_true rfl); intro KK QQ hK; simp only [Act.put, List.setIfInBounds_toArray, List.set_cons_succ, List.set_cons_zero] at hK; go_step; exact hK); simp only [Act.put, List.setIfInBounds_toArray, List.set_cons_succ, List.set_cons_zero])
            (apply walk_q rfl; (intro w1 hI; apply Same.of_wp rfl rfl (Nat.le_of_ble_eq_true rfl); intro KK QQ hK; simp only [Act.put, List.setIfInBounds_toArray, List.set_cons_succ, List.set_cons_zero] at hK; go_step; exact hK); simp only [Act.put, List.setIfInBounds_toArray, List.set_cons_succ, List.set_cons_zero])
            (refine walk_skip rfl (by kernel_rfl) ?_; simp only [Act.put, List.setIfInBounds_toArray, List.set_cons_succ, List.set_cons_zero])
            (refine walk_skip rfl (by kernel_rfl) ?_; simp only [Act.put, List.setIfInBounds_toArray, List.set_cons_succ, List.set_cons_zero])
            (refine walk_skip rfl (by kernel_rfl) ?_; simp only [Act.put, List.setIfInBounds_toArray, List.set_cons_succ, List.set_cons_zero])
            (refine walk_skip rfl (by kernel_rfl) ?_; simp only [Act.put, List.setIfInBounds_toArray, List.set_cons_succ, List.set_cons_zero])
            (refine walk_skip rfl (by kernel_rfl) ?_; simp only [Act.put, List.setIfInBounds_toArray, List.set_cons_succ, List.set_cons_zero])
            (refine walk_skip rfl (by kernel_rfl) ?_; simp only [Act.put, List.setIfInBounds_toArray, List.set_cons_succ, List.set_cons_zero])
            (apply walk_q rfl; (intro w1 hI; apply Same.of_wp rfl rfl (Nat.le_of_ble_eq_true rfl); intro KK QQ hK; simp only [Act.put, List.setIfInBounds_toArray, List.set_cons_succ, List.set_cons_zero] at hK; go_step; exact hK); simp only [Act.put, List.setIfInBounds_toArray, List.set_cons_succ, List.set_cons_zero])
            (apply walk_q rfl; (intro w1 hI; apply Same.of_wp rfl rfl (Nat.le_of_ble_eq_true rfl); intro KK QQ hK; simp only [Act.put, List.setIfInBounds_toArray, List.set_cons_succ, List.set_cons_zero] at hK; go_step; exact hK); simp only [Act.put, List.setIfInBounds_toArray, List.set_cons_succ, List.set_cons_zero])
            (apply walk_q rfl; (intro w1 hI; apply Same.of_wp rfl rfl (Nat.le_of_ble_eq_true rfl); intro KK QQ hK; simp only [Act.put, List.setIfInBounds_toArray, List.set_cons_succ, List.set_cons_zero] at hK; go_step; exact hK); simp only [Act.put, List.setIfInBounds_toArray, List.set_cons_succ, List.set_cons_zero])
            (apply walk_q rfl; (intro w1 hI; apply Same.of_wp rfl rfl (Nat.le_of_ble_eq_true rfl); intro KK QQ hK; simp only [Act.put, List.setIfInBounds_toArray, List.set_cons_succ, List.set_cons_zero] at hK; go_step; exact hK); simp only [Act.put, List.setIfInBounds_toArray, List.set_cons_succ, List.set_cons_zero])
            (apply walk_q rfl; (intro w1 hI; apply Same.of_wp rfl rfl (Nat.le_of_ble_eq_true rfl); intro KK QQ hK; simp only [Act.put, List.setIfInBounds_toArray, List.set_cons_succ, List.set_cons_zero] at hK; go_step; exact hK); simp only [Act.put, List.setIfInBounds_toArray, List.set_cons_succ, List.set_cons_zero])
            (apply walk_q rfl; (intro w1 hI; apply Same.of_wp rfl rfl (Nat.le_of_ble_eq_true rfl); intro KK QQ hK; simp only [Act.put, List.setIfInBounds_toArray, List.set_cons_succ, List.set_cons_zero] at hK; go_step; exact hK); simp only [Act.put, List.setIfInBounds_toArray, List.set_cons_succ, List.set_cons_zero])
            (apply walk_q rfl; (intro w1 hI; apply Same.of_wp rfl rfl (Nat.le_of_ble_eq_true rfl); intro KK QQ hK; simp only [Act.put, List.setIfInBounds_toArray, List.set_cons_succ, List.set_cons_zero] at hK; go_step; exact hK); simp only [Act.put, List.setIfInBounds_toArray, List.set_cons_succ, List.set_cons_zero])
            (refine walk_clash HE.out 5 (clash_of (dgIn N a b) (dgIn N b a) (by simp) (by simp) (fun e => p5 (dgIn_log ha hb e)) (HX.out.trans (P4.out.symm.trans EY3.out.symm))) (by intro l hl; simp at hl; rcases hl with rfl | rfl | rfl | rfl <;> (rw [dgIn_len ‹_› ‹_›]; omega)) (by simp) rfl rfl rfl rfl rfl rfl rfl HE.out.le (by intro w K Q h; go_step; exact Calls.mono h (by rintro e w' ⟨v, rfl, h⟩; exact h)) ?_; simp only [Act.put, List.setIfInBounds_toArray, List.set_cons_succ, List.set_cons_zero])
            (apply walk_q rfl; (intro w1 hI; apply Same.of_wp rfl rfl (Nat.le_of_ble_eq_true rfl); intro KK QQ hK; simp only [Act.put, List.setIfInBounds_toArray, List.set_cons_succ, List.set_cons_zero] at hK; go_step; exact hK); simp only [Act.put, List.setIfInBounds_toArray, List.set_cons_succ, List.set_cons_zero])
            (apply walk_q rfl; (intro w1 hI; apply Same.of_wp rfl rfl (Nat.le_of_ble_eq_true rfl); intro KK QQ hK; simp only [Act.put, List.setIfInBounds_toArray, List.set_cons_succ, List.set_cons_zero] at hK; go_step; exact hK); simp only [Act.put, List.setIfInBounds_toArray, List.set_cons_succ, List.set_cons_zero])
            (apply walk_q rfl; (intro w1 hI; apply Same.of_wp rfl rfl (Nat.le_of_ble_eq_true rfl); intro KK QQ hK; simp only [Act.put, List.setIfInBounds_toArray, List.set_cons_succ, List.set_cons_zero] at hK; go_step; exact hK); simp only [Act.put, List.setIfInBounds_toArray, List.set_cons_succ, List.set_cons_zero])
            refine walk_nil fun w21 M => ?_
            go_wp2_with (fail)
            go_ret
            exact ⟨rfl, M.out⟩
        · refine wp_draw M [told none [5, 18, 27] (hvar b11 X), told (some 4) [] (tapeA F12 b10 [dgIn N a b]), told none [15] (hvar b9 c), told none [] (pts b5 24 (hcs [a, b])), told none [2, 25, 30] (hvar b7 a), told none [3, 16, 24, 31] (hvar b8 b), ⟨some 4, some 17, [], [4], fun | [g] => tapeA g.2 b10 [dgIn N a b, dgIn MM a b] | _ => tapeA (fun _ => False) b10 []⟩, ⟨some 17, some 26, [], [17], fun | [g] => tapeA g.2 b10 [dgIn N a b, dgIn MM a b, dgIn N c b] | _ => tapeA (fun _ => False) b10 []⟩, ⟨some 26, none, [], [26], fun | [g] => tapeA g.2 b10 [dgIn N a b, dgIn MM a b, dgIn N c b, dgIn N b a] | _ => tapeA (fun _ => False) b10 []⟩]
              [.q, .q, .q, .q, ospT E (.agg (bcs Y1).toArray), .q, .q, .q, .q, .q, .q, .q, .q, .q, .q, .q, .q, ospT E (.agg (bcs Y2).toArray), .q, .q, .q, .q, .q, .q, .q, .q, ospT E (.agg (bcs Y3).toArray), .q, .q, .q, .q, .q, .q, .q, .q, .q] (by kernel_rfl) rfl (by kernel_rfl) ?_
          (apply walk_q rfl; (intro w1 hI; apply Same.of_wp rfl rfl (Nat.le_of_ble_eq_true rfl); intro KK QQ hK; simp only [Act.put, List.setIfInBounds_toArray, List.set_cons_succ, List.set_cons_zero] at hK; go_step; exact hK); simp only [Act.put, List.setIfInBounds_toArray, List.set_cons_succ, List.set_cons_zero])
          (apply walk_q rfl; (intro w1 hI; apply Same.of_wp rfl rfl (Nat.le_of_ble_eq_true rfl); intro KK QQ hK; simp only [Act.put, List.setIfInBounds_toArray, List.set_cons_succ, List.set_cons_zero] at hK; go_step; exact hK); simp only [Act.put, List.setIfInBounds_toArray, List.set_cons_succ, List.set_cons_zero])
          (refine walk_loadn rfl rfl tyHash L32.out rfl (hvar_load 4 rfl rfl rfl) ?_; simp only [Act.put, List.setIfInBounds_toArray, List.set_cons_succ, List.set_cons_zero])
          (refine walk_loadn rfl rfl tyHash (by rw [bcs_length, hb]) rfl (hvar_load 5 rfl rfl rfl) ?_; simp only [Act.put, List.setIfInBounds_toArray, List.set_cons_succ, List.set_cons_zero])
          (refine walk_dig HE.out 1 6 EY1.out (by omega) ha hb (HF12.out) (by simp) rfl rfl rfl rfl rfl rfl rfl (fun _ => rfl) (fun _ => rfl) HE.out.le (by intro w K Q h; go_step; exact Calls.mono h (by rintro e w' ⟨v, rfl, h⟩; exact h)) fun F4 HF4 => ?_; replace HF4 := Lib.hid HF4; simp only [Act.put, List.setIfInBounds_toArray, List.set_cons_succ, List.set_cons_zero])
          (refine walk_loadn rfl rfl tyHash LX.out rfl (hvar_load 0 rfl rfl rfl) ?_; simp only [Act.put, List.setIfInBounds_toArray, List.set_cons_succ, List.set_cons_zero])
          (refine walk_eqH rfl rfl rfl hY1 hX32 (decide_eq_false p1) rfl rfl rfl ?_; simp only [Act.put, List.setIfInBounds_toArray, List.set_cons_succ, List.set_cons_zero])
          (apply walk_q rfl; (intro w1 hI; apply Same.of_wp rfl rfl (Nat.le_of_ble_eq_true rfl); intro KK QQ hK; simp only [Act.put, List.setIfInBounds_toArray, List.set_cons_succ, List.set_cons_zero] at hK; go_step; exact hK); simp only [Act.put, List.setIfInBounds_toArray, List.set_cons_succ, List.set_cons_zero])
          (refine walk_skip rfl (by kernel_rfl) ?_; simp only [Act.put, List.setIfInBounds_toArray, List.set_cons_succ, List.set_cons_zero])
          (refine walk_skip rfl (by kernel_rfl) ?_; simp only [Act.put, List.setIfInBounds_toArray, List.set_cons_succ, List.set_cons_zero])
          (refine walk_skip rfl (by kernel_rfl) ?_; simp only [Act.put, List.setIfInBounds_toArray, List.set_cons_succ, List.set_cons_zero])
          (apply walk_q rfl; (intro w1 hI; apply Same.of_wp rfl rfl (Nat.le_of_ble_eq_true rfl); intro KK QQ hK; simp only [Act.put, List.setIfInBounds_toArray, List.set_cons_succ, List.set_cons_zero] at hK; go_step; exact hK); simp only [Act.put, List.setIfInBounds_toArray, List.set_cons_succ, List.set_cons_zero])
          (apply walk_q rfl; (intro w1 hI; apply Same.of_wp rfl rfl (Nat.le_of_ble_eq_true rfl); intro KK QQ hK; simp only [Act.put, List.setIfInBounds_toArray, List.set_cons_succ, List.set_cons_zero] at hK; go_step; exact hK); simp only [Act.put, List.setIfInBounds_toArray, List.set_cons_succ, List.set_cons_zero])
          (apply walk_q rfl; (intro w1 hI; apply Same.of_wp rfl rfl (Nat.le_of_ble_eq_true rfl); intro KK QQ hK; simp only [Act.put, List.setIfInBounds_toArray, List.set_cons_succ, List.set_cons_zero] at hK; go_step; exact hK); simp only [Act.put, List.setIfInBounds_toArray, List.set_cons_succ, List.set_cons_zero])
          (apply walk_q rfl; (intro w1 hI; apply Same.of_wp rfl rfl (Nat.le_of_ble_eq_true rfl); intro KK QQ hK; simp only [Act.put, List.setIfInBounds_toArray, List.set_cons_succ, List.set_cons_zero] at hK; go_step; exact hK); simp only [Act.put, List.setIfInBounds_toArray, List.set_cons_succ, List.set_cons_zero])
          (refine walk_loadn rfl rfl tyHash (by rw [bcs_length, hc32]) rfl (hvar_load 2 rfl rfl rfl) ?_; simp only [Act.put, List.setIfInBounds_toArray, List.set_cons_succ, List.set_cons_zero])
          (refine walk_loadn rfl rfl tyHash (by rw [bcs_length, hb]) rfl (hvar_load 5 rfl rfl rfl) ?_; simp only [Act.put, List.setIfInBounds_toArray, List.set_cons_succ, List.set_cons_zero])
          (refine walk_dig HE.out 6 7 EY2.out (by omega) hc32 hb (HF4.out) (by simp) rfl rfl rfl rfl rfl rfl rfl (fun _ => rfl) (fun _ => rfl) HE.out.le (by intro w K Q h; go_step; exact Calls.mono h (by rintro e w' ⟨v, rfl, h⟩; exact h)) fun F17 HF17 => ?_; replace HF17 := Lib.hid HF17; simp only [Act.put, List.setIfInBounds_toArray, List.set_cons_succ, List.set_cons_zero])
          (refine walk_loadn rfl rfl tyHash LX.out rfl (hvar_load 0 rfl rfl rfl) ?_; simp only [Act.put, List.setIfInBounds_toArray, List.set_cons_succ, List.set_cons_zero])
          (refine walk_eqH rfl rfl rfl hY2 hX32 (decide_eq_false p3) rfl rfl rfl ?_; simp only [Act.put, List.setIfInBounds_toArray, List.set_cons_succ, List.set_cons_zero])
          (apply walk_q rfl; (intro w1 hI; apply Same.of_wp rfl rfl (Nat.le_of_ble_eq_true rfl); intro KK QQ hK; simp only [Act.put, List.setIfInBounds_toArray, List.set_cons_succ, List.set_cons_zero] at hK; go_step; exact hK); simp only [Act.put, List.setIfInBounds_toArray, List.set_cons_succ, List.set_cons_zero])
          (apply walk_q rfl; (intro w1 hI; apply Same.of_wp rfl rfl (Nat.le_of_ble_eq_true rfl); intro KK QQ hK; simp only [Act.put, List.setIfInBounds_toArray, List.set_cons_succ, List.set_cons_zero] at hK; go_step; exact hK); simp only [Act.put, List.setIfInBounds_toArray, List.set_cons_succ, List.set_cons_zero])
          (apply walk_q rfl; (intro w1 hI; apply Same.of_wp rfl rfl (Nat.le_of_ble_eq_true rfl); intro KK QQ hK; simp only [Act.put, List.setIfInBounds_toArray, List.set_cons_succ, List.set_cons_zero] at hK; go_step; exact hK); simp only [Act.put, List.setIfInBounds_toArray, List.set_cons_succ, List.set_cons_zero])
          (apply walk_q rfl; (intro w1 hI; apply Same.of_wp rfl rfl (Nat.le_of_ble_eq_true rfl); intro KK QQ hK; simp only [Act.put, List.setIfInBounds_toArray, List.set_cons_succ, List.set_cons_zero] at hK; go_step; exact hK); simp only [Act.put, List.setIfInBounds_toArray, List.set_cons_succ, List.set_cons_zero])
          (refine walk_loadn rfl rfl tyHash (by rw [bcs_length, hb]) rfl (hvar_load 5 rfl rfl rfl) ?_; simp only [Act.put, List.setIfInBounds_toArray, List.set_cons_succ, List.set_cons_zero])
          (refine walk_loadn rfl rfl tyHash L32.out rfl (hvar_load 4 rfl rfl rfl) ?_; simp only [Act.put, List.setIfInBounds_toArray, List.set_cons_succ, List.set_cons_zero])
          (refine walk_dig HE.out 7 8 EY3.out (by omega) hb ha (HF17.out) (by simp) rfl rfl rfl rfl rfl rfl rfl (fun _ => rfl) (fun _ => rfl) HE.out.le (by intro w K Q h; go_step; exact Calls.mono h (by rintro e w' ⟨v, rfl, h⟩; exact h)) fun F26 HF26 => ?_; replace HF26 := Lib.hid HF26; simp only [Act.put, List.setIfInBounds_toArray, List.set_cons_succ, List.set_cons_zero])
          (refine walk_loadn rfl rfl tyHash LX.out rfl (hvar_load 0 rfl rfl rfl) ?_; simp only [Act.put, List.setIfInBounds_toArray, List.set_cons_succ, List.set_cons_zero])
          (refine walk_eqH rfl rfl rfl hY3 hX32 (decide_eq_false p4) rfl rfl rfl ?_; simp only [Act.put, List.setIfInBounds_toArray, List.set_cons_succ, List.set_cons_zero])
          (apply walk_q rfl; (intro w1 hI; apply Same.of_wp rfl rfl (Nat.le_of_ble_eq_true rfl); intro KK QQ hK; simp only [Act.put, List.setIfInBounds_toArray, List.set_cons_succ, List.set_cons_zero] at hK; go_step; exact hK); simp only [Act.put, List.setIfInBounds_toArray, List.set_cons_succ, List.set_cons_zero])
          (refine walk_skip rfl (by kernel_rfl) ?_; simp only [Act.put, List.setIfInBounds_toArray, List.set_cons_succ, List.set_cons_zero])
          (refine walk_skip rfl (by kernel_rfl) ?_; simp only [Act.put, List.setIfInBounds_toArray, List.set_cons_succ, List.set_cons_zero])
          (refine walk_skip rfl (by kernel_rfl) ?_; simp only [Act.put, List.setIfInBounds_toArray, List.set_cons_succ, List.set_cons_zero])
          (apply walk_q rfl; (intro w1 hI; apply Same.of_wp rfl rfl (Nat.le_of_ble_eq_true rfl); intro KK QQ hK; simp only [Act.put, List.setIfInBounds_toArray, List.set_cons_succ, List.set_cons_zero] at hK; go_step; exact hK); simp only [Act.put, List.setIfInBounds_toArray, List.set_cons_succ, List.set_cons_zero])
          (apply walk_q rfl; (intro w1 hI; apply Same.of_wp rfl rfl (Nat.le_of_ble_eq_true rfl); intro KK QQ hK; simp only [Act.put, List.setIfInBounds_toArray, List.set_cons_succ, List.set_cons_zero] at hK; go_step; exact hK); simp only [Act.put, List.setIfInBounds_toArray, List.set_cons_succ, List.set_cons_zero])
          (apply walk_q rfl; (intro w1 hI; apply Same.of_wp rfl rfl (Nat.le_of_ble_eq_true rfl); intro KK QQ hK; simp only [Act.put, List.setIfInBounds_toArray, List.set_cons_succ, List.set_cons_zero] at hK; go_step; exact hK); simp only [Act.put, List.setIfInBounds_toArray, List.set_cons_succ, List.set_cons_zero])
          refine walk_nil fun w20 M => ?_
          have M : Sep (fun _ => False) w w20 [hvar b11 X, hvar b9 c, pts b5 24 (hcs [a, b]), hvar b7 a, hvar b8 b, tapeA F26 b10 [dgIn N a b, dgIn MM a b, dgIn N c b, dgIn N b a]] := M
          go_wp2_with (fail)
          refine wp_draw M [told none [4, 15] (hvar b11 X), told none [] (hvar b9 c), told none [] (pts b5 24 (hcs [a, b])), told none [1, 12] (hvar b7 a), told none [2, 13] (hvar b8 b), told none [24] (tapeA F26 b10 [dgIn N a b, dgIn MM a b, dgIn N c b, dgIn N b a])]
              [.q, .q, .q, .v [] fun _ g => g = gq (.agg (bcs X).toArray), .q, .q, .q, .q, .q, .q, .q, .q, .q, .q, .v [] fun _ g => g = gq (.agg (bcs Y1).toArray), .q, .q, .q, .q, .q, .q, .q, .q, .q, .v [] fun _ g => g = gq (.bool true), .q, .q, .q] (by kernel_rfl) rfl (by kernel_rfl) ?_
          (apply walk_q rfl; (intro w1 hI; apply Same.of_wp rfl rfl (Nat.le_of_ble_eq_true rfl); intro KK QQ hK; simp only [Act.put, List.setIfInBounds_toArray, List.set_cons_succ, List.set_cons_zero] at hK; go_step; exact hK); simp only [Act.put, List.setIfInBounds_toArray, List.set_cons_succ, List.set_cons_zero])
          (refine walk_loadn rfl rfl tyHash L32.out rfl (hvar_load 3 rfl rfl rfl) ?_; simp only [Act.put, List.setIfInBounds_toArray, List.set_cons_succ, List.set_cons_zero])
          (refine walk_loadn rfl rfl tyHash (by rw [bcs_length, hb]) rfl (hvar_load 4 rfl rfl rfl) ?_; simp only [Act.put, List.setIfInBounds_toArray, List.set_cons_succ, List.set_cons_zero])
          (refine walk_dig0 HE.out HX.out (by omega) ha hb rfl rfl rfl rfl HE.out.le (by intro w K Q h; go_step; exact Calls.mono h (by rintro e w' ⟨v, rfl, h⟩; exact h)) ?_; simp only [Act.put, List.setIfInBounds_toArray, List.set_cons_succ, List.set_cons_zero])
          (refine walk_loadn rfl rfl tyHash LX.out rfl (hvar_load 0 rfl rfl rfl) ?_; simp only [Act.put, List.setIfInBounds_toArray, List.set_cons_succ, List.set_cons_zero])
          (refine walk_eqH rfl rfl rfl hX32 hX32 (decide_eq_true rfl) rfl rfl rfl ?_; simp only [Act.put, List.setIfInBounds_toArray, List.set_cons_succ, List.set_cons_zero])
          (apply walk_q rfl; (intro w1 hI; apply Same.of_wp rfl rfl (Nat.le_of_ble_eq_true rfl); intro KK QQ hK; simp only [Act.put, List.setIfInBounds_toArray, List.set_cons_succ, List.set_cons_zero] at hK; go_step; exact hK); simp only [Act.put, List.setIfInBounds_toArray, List.set_cons_succ, List.set_cons_zero])
          (apply walk_q rfl; (intro w1 hI; apply Same.of_wp rfl rfl (Nat.le_of_ble_eq_true rfl); intro KK QQ hK; simp only [Act.put, List.setIfInBounds_toArray, List.set_cons_succ, List.set_cons_zero] at hK; go_step; exact hK); simp only [Act.put, List.setIfInBounds_toArray, List.set_cons_succ, List.set_cons_zero])
          (apply walk_q rfl; (intro w1 hI; apply Same.of_wp rfl rfl (Nat.le_of_ble_eq_true rfl); intro KK QQ hK; simp only [Act.put, List.setIfInBounds_toArray, List.set_cons_succ, List.set_cons_zero] at hK; go_step; exact hK); simp only [Act.put, List.setIfInBounds_toArray, List.set_cons_succ, List.set_cons_zero])
          (apply walk_q rfl; (intro w1 hI; apply Same.of_wp rfl rfl (Nat.le_of_ble_eq_true rfl); intro KK QQ hK; simp only [Act.put, List.setIfInBounds_toArray, List.set_cons_succ, List.set_cons_zero] at hK; go_step; exact hK); simp only [Act.put, List.setIfInBounds_toArray, List.set_cons_succ, List.set_cons_zero])
          (apply walk_q rfl; (intro w1 hI; apply Same.of_wp rfl rfl (Nat.le_of_ble_eq_true rfl); intro KK QQ hK; simp only [Act.put, List.setIfInBounds_toArray, List.set_cons_succ, List.set_cons_zero] at hK; go_step; exact hK); simp only [Act.put, List.setIfInBounds_toArray, List.set_cons_succ, List.set_cons_zero])
          (refine walk_skip rfl (by kernel_rfl) ?_; simp only [Act.put, List.setIfInBounds_toArray, List.set_cons_succ, List.set_cons_zero])
          (refine walk_skip rfl (by kernel_rfl) ?_; simp only [Act.put, List.setIfInBounds_toArray, List.set_cons_succ, List.set_cons_zero])
          (refine walk_skip rfl (by kernel_rfl) ?_; simp only [Act.put, List.setIfInBounds_toArray, List.set_cons_succ, List.set_cons_zero])
          (refine walk_skip rfl (by kernel_rfl) ?_; simp only [Act.put, List.setIfInBounds_toArray, List.set_cons_succ, List.set_cons_zero])
          (refine walk_skip rfl (by kernel_rfl) ?_; simp only [Act.put, List.setIfInBounds_toArray, List.set_cons_succ, List.set_cons_zero])
          (refine walk_skip rfl (by kernel_rfl) ?_; simp only [Act.put, List.setIfInBounds_toArray, List.set_cons_succ, List.set_cons_zero])
          (apply walk_q rfl; (intro w1 hI; apply Same.of_wp rfl rfl (Nat.le_of_ble_eq_true rfl); intro KK QQ hK; simp only [Act.put, List.setIfInBounds_toArray, List.set_cons_succ, List.set_cons_zero] at hK; go_step; exact hK); simp only [Act.put, List.setIfInBounds_toArray, List.set_cons_succ, List.set_cons_zero])
          (apply walk_q rfl; (intro w1 hI; apply Same.of_wp rfl rfl (Nat.le_of_ble_eq_true rfl); intro KK QQ hK; simp only [Act.put, List.setIfInBounds_toArray, List.set_cons_succ, List.set_cons_zero] at hK; go_step; exact hK); simp only [Act.put, List.setIfInBounds_toArray, List.set_cons_succ, List.set_cons_zero])
          (apply walk_q rfl; (intro w1 hI; apply Same.of_wp rfl rfl (Nat.le_of_ble_eq_true rfl); intro KK QQ hK; simp only [Act.put, List.setIfInBounds_toArray, List.set_cons_succ, List.set_cons_zero] at hK; go_step; exact hK); simp only [Act.put, List.setIfInBounds_toArray, List.set_cons_succ, List.set_cons_zero])
          (apply walk_q rfl; (intro w1 hI; apply Same.of_wp rfl rfl (Nat.le_of_ble_eq_true rfl); intro KK QQ hK; simp only [Act.put, List.setIfInBounds_toArray, List.set_cons_succ, List.set_cons_zero] at hK; go_step; exact hK); simp only [Act.put, List.setIfInBounds_toArray, List.set_cons_succ, List.set_cons_zero])
          (apply walk_q rfl; (intro w1 hI; apply Same.of_wp rfl rfl (Nat.le_of_ble_eq_true rfl); intro KK QQ hK; simp only [Act.put, List.setIfInBounds_toArray, List.set_cons_succ, List.set_cons_zero] at hK; go_step; exact hK); simp only [Act.put, List.setIfInBounds_toArray, List.set_cons_succ, List.set_cons_zero])
          (apply walk_q rfl; (intro w1 hI; apply Same.of_wp rfl rfl (Nat.le_of_ble_eq_true rfl); intro KK QQ hK; simp only [Act.put, List.setIfInBounds_toArray, List.set_cons_succ, List.set_cons_zero] at hK; go_step; exact hK); simp only [Act.put, List.setIfInBounds_toArray, List.set_cons_succ, List.set_cons_zero])
          (refine walk_skip rfl (by kernel_rfl) ?_; simp only [Act.put, List.setIfInBounds_toArray, List.set_cons_succ, List.set_cons_zero])
          (refine walk_skip rfl (by kernel_rfl) ?_; simp only [Act.put, List.setIfInBounds_toArray, List.set_cons_succ, List.set_cons_zero])
          (apply walk_q rfl; (intro w1 hI; apply Same.of_wp rfl rfl (Nat.le_of_ble_eq_true rfl); intro KK QQ hK; simp only [Act.put, List.setIfInBounds_toArray, List.set_cons_succ, List.set_cons_zero] at hK; go_step; exact hK); simp only [Act.put, List.setIfInBounds_toArray, List.set_cons_succ, List.set_cons_zero])
          (apply walk_q rfl; (intro w1 hI; apply Same.of_wp rfl rfl (Nat.le_of_ble_eq_true rfl); intro KK QQ hK; simp only [Act.put, List.setIfInBounds_toArray, List.set_cons_succ, List.set_cons_zero] at hK; go_step; exact hK); simp only [Act.put, List.setIfInBounds_toArray, List.set_cons_succ, List.set_cons_zero])
          (apply walk_q rfl; (intro w1 hI; apply Same.of_wp rfl rfl (Nat.le_of_ble_eq_true rfl); intro KK QQ hK; simp only [Act.put, List.setIfInBounds_toArray, List.set_cons_succ, List.set_cons_zero] at hK; go_step; exact hK); simp only [Act.put, List.setIfInBounds_toArray, List.set_cons_succ, List.set_cons_zero])
          refine walk_nil fun w21 M => ?_
          go_wp2_with (fail)
          go_ret
          exact ⟨rfl, M.out⟩
end Go.Proofs.YtgoidkenpfplfaaDoor
