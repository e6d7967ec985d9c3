/-
  Hashes, tapes, digests as pieces of memory, and in regions that draw.
-/
import Derived.Test.YtbenjjaofabdcaaGreatDoorFit
import Derived.Test.YtbenjjaofabdcaaGreatDoorOps
namespace Go.Proofs.YtbenjjaofabdcaaGreatDoor
open Go Go.RowKit

theorem and_mask (x : Int) : ∃ N : Nat, bits .and .i64 x 16777215 = (N : Int) ∧ N < 16777216 := by
  refine ⟨(BitVec.ofInt 64 x &&& BitVec.ofInt 64 16777215).toNat, ?_, ?_⟩
  · have h : (BitVec.ofInt 64 x &&& BitVec.ofInt 64 16777215).toNat < 16777216 := by
      rw [BitVec.toNat_and]
      exact Nat.lt_of_le_of_lt Nat.and_le_right (by decide)
    show IntKind.wrap .i64 ((BitVec.ofInt 64 x &&& BitVec.ofInt 64 16777215).toNat : Int) = _
    generalize (BitVec.ofInt 64 x &&& BitVec.ofInt 64 16777215).toNat = r at *
    simp only [IntKind.wrap, show IntKind.i64.bits = 64 from rfl, show IntKind.i64.signed = true from rfl]
    simp
    omega
  · rw [BitVec.toNat_and]
    exact Nat.lt_of_le_of_lt Nat.and_le_right (by decide)
theorem tyHash : Ty Tryz.prog 30 32 true (List.replicate 32 (.int .u8 0)) := ⟨Tryz.sizeOf30, Tryz.isAgg30, fun w => ⟨_, Tryz.zeroValue30 w, rfl⟩⟩
/-- A variable of hashes. -/
abbrev hvar (b : Nat) (x : List UInt8) : Asn := pts b 30 (bcs x)
theorem hcs2_fst {a b : List UInt8} (ha : a.length = 32) : ((hcs [a, b]).drop 0).take (bcs a).length = bcs a := by simp [hcs]
theorem hcs2_snd {a b : List UInt8} (ha : a.length = 32) (hb : b.length = 32) : ((hcs [a, b]).drop 32).take (bcs b).length = bcs b := by
  have h1 : (bcs a).length = 32 := by rw [bcs_length, ha]
  simp only [hcs, List.flatMap_cons, List.flatMap_nil, List.append_nil]
  rw [List.drop_append_of_le_length (by omega), List.drop_eq_nil_of_le (by omega)]
  simp
theorem TapeAt.loc {w w' : World} {F : Nat → Prop} {bt : Nat} {bl : List (List UInt8)} (h : TapeAt w F bt bl) (hb : ∀ k, F k → w'.heap[k]? = w.heap[k]?) : TapeAt w' F bt bl := by
  obtain ⟨vl, hs', h1, h2, h3, h4⟩ := h.ex
  refine ⟨fun k hk => ?_, h.self, vl, hs', (hb bt h.self).trans h1, ?_, h3, fun i a l h5 h6 => ⟨(h4 i a l h5 h6).1.move fun b hv _ => hb b ((h4 i a l h5 h6).2 b hv).1, (h4 i a l h5 h6).2⟩⟩
  · have h5 := h.mem k hk
    have h6 := hb k hk
    rw [Array.getElem?_eq_getElem h5] at h6
    exact (Array.getElem?_eq_some_iff.1 h6).1
  · obtain ⟨hl, h5 | ⟨g, cap, cur, h5, h6, h7, h8⟩⟩ := h2
    · exact ⟨hl, .inl h5⟩
    · exact ⟨hl, .inr ⟨g, cap, cur, h5, h6, (hb g (h3 g (by rw [h5]; rfl)).1).trans h7, h8⟩⟩
/-- A tape, as a piece of memory. -/
def tapeA (F : Nat → Prop) (bt : Nat) (bl : List (List UInt8)) : Asn where
  fp := F
  holds w := TapeAt w F bt bl
  loc h hk := h.loc hk
  lt h k hk := h.mem k hk
theorem tape_new {b : Nat} {w : World} (h : (pts b 70 [.slice none 0 0]).holds w) : (tapeA (fun k => k = b) b []).holds w :=
  ⟨fun k hk => by rw [hk]; exact (Array.getElem?_eq_some_iff.1 h).1, rfl, .slice none 0 0, [], h, World.ownsRow_nil _ _ _ _, fun k hk => by simp [Value.ownBlock] at hk, fun i h l h1 => by simp at h1⟩
theorem Sep.conv {W : Nat → Prop} {w0 w : World} {L L' : List Asn} {A A' : Asn} (M : Sep W w0 w L) (hr : Repl A A' L L') (hA : A.holds w → A'.holds w) (hf : ∀ k, A'.fp k → A.fp k) : Sep W w0 w L' :=
  M.repl hr (Kp.refl _ _) (hA (M.holds _ (by obtain ⟨i, h, _⟩ := hr.spec; exact List.mem_of_getElem? h))) fun k hk => .inl (hf k hk)
theorem tyU8 : Ty Tryz.prog 5 1 false [.int .u8 0] := ⟨Tryz.sizeOf5, Tryz.isAgg5, fun w => ⟨_, Tryz.zeroValue5 w, rfl⟩⟩
theorem xor_u8 (x : UInt8) : bits .xor .u8 x.toNat 1 = (x ^^^ 1).toNat := by
  have h : ∀ n : Fin 256, bits .xor .u8 ((n.val : Nat) : Int) 1 = ((UInt8.ofNat n.val ^^^ 1).toNat : Int) := of_decide_eq_true (by kernel_rfl)
  have := h ⟨x.toNat, x.toNat_lt⟩
  simpa using this
theorem xor_ne (x : UInt8) : x ^^^ 1 ≠ x := by
  have h : ∀ n : Fin 256, UInt8.ofNat n.val ^^^ 1 ≠ UInt8.ofNat n.val := of_decide_eq_true (by kernel_rfl)
  have := h ⟨x.toNat, x.toNat_lt⟩
  simpa using this
/-- A hash of which one bit is turned. -/
theorem flip7 (a : List UInt8) (ha : a.length = 32) : ∃ (x y : Int) (c : List UInt8), (bcs a)[7]? = some (.int .u8 x) ∧ bits .xor .u8 x 1 = y ∧ (bcs a).set 7 (.int .u8 y) = bcs c ∧ c ≠ a ∧ c.length = 32 := by
  have h7 : a[7]? = some (a[7]'(by omega)) := List.getElem?_eq_getElem (by omega)
  refine ⟨_, _, a.set 7 (a[7]'(by omega) ^^^ 1), ?_, xor_u8 (a[7]'(by omega)), ?_, fun e => ?_, by simp [ha]⟩
  · simp [bcs, h7, u8c]
  · simp [bcs, List.map_set, u8c]
  · have h : (a.set 7 (a[7]'(by omega) ^^^ 1))[7]? = a[7]? := by rw [e]
    rw [List.getElem?_set_self (by omega), h7] at h
    exact xor_ne _ (Option.some.inj h)
/-- What a digest hashes. -/
def dgIn (n : Nat) (log st : List UInt8) : List UInt8 := 5 :: (beN 4 n ++ log ++ st)
theorem dg_eq (n : Nat) (log st : List UInt8) : dg n log st = sha (dgIn n log st) := rfl
theorem dig_tape (w : World) (E : Nat) (F : Nat → Prop) (bt : Nat) (bl : List (List UInt8)) (hT : (tapeA F bt bl).holds w) (hF : ∀ k, F k → E ≤ k) (hbl : bl.length ≤ 1099511627776) (hE : EnvAt w E) (n : Nat) (hn : n < 9223372036854775808) (log st : List UInt8) (hl : log.length = 32) (hs : st.length = 32) :
    Calls Tryz.prog 69 #[ptr bt 0, .int .i64 n, hv log, hv st] w fun e w' => e = .returned (hv (dg n log st)) ∧ ∃ F', Kp F w w' ∧ (tapeA F' bt (bl ++ [dgIn n log st])).holds w' ∧ ∀ k, F' k → F k ∨ w.heap.size ≤ k := by
  refine (dig_any w E F _ bl (.inr ⟨bt, rfl, hT⟩) hF hT.mem hbl hE n hn log st hl hs).mono ?_
  rintro e w' ⟨h1, h2, F', h3, h4, -⟩
  rcases h3 with h3 | ⟨bt', h5, h6⟩
  · cases h3
  · cases h5; exact ⟨h1, F', h2, h6, h4⟩
theorem dig_none (w : World) (E : Nat) (hE : EnvAt w E) (n : Nat) (hn : n < 9223372036854775808) (log st : List UInt8) (hl : log.length = 32) (hs : st.length = 32) :
    Calls Tryz.prog 69 #[.pointer none, .int .i64 n, hv log, hv st] w fun e w' => e = .returned (hv (dg n log st)) ∧ Below w.heap.size w w' := by
  refine (dig_any w E (fun _ => False) _ [] (.inl rfl) (fun _ h => h.elim) (fun _ h => h.elim) (by simp) hE n hn log st hl hs).mono ?_
  rintro e w' ⟨h1, h2, -⟩
  exact ⟨h1, h2.below (Nat.le_refl _) fun k h => h.elim⟩
theorem beN_len (k x : Nat) : (beN k x).length = k := beN_length k x
theorem beN4 (x : Nat) : beN 4 x = [UInt8.ofNat (x / 16777216 % 256), UInt8.ofNat (x / 65536 % 256), UInt8.ofNat (x / 256 % 256), UInt8.ofNat (x % 256)] := by
  simp [beN, List.range, List.range.loop]
theorem ofNat_inj {x y : Nat} (hx : x < 256) (hy : y < 256) (h : UInt8.ofNat x = UInt8.ofNat y) : x = y := by
  have := congrArg UInt8.toNat h
  rw [UInt8.toNat_ofNat_of_lt' (by simpa using hx), UInt8.toNat_ofNat_of_lt' (by simpa using hy)] at this
  exact this
theorem beN4_inj {x y : Nat} (hx : x < 4294967296) (hy : y < 4294967296) (h : beN 4 x = beN 4 y) : x = y := by
  rw [beN4, beN4] at h
  simp only [List.cons.injEq, and_true] at h
  obtain ⟨h1, h2, h3, h4⟩ := h
  have h1 := ofNat_inj (by omega) (by omega) h1
  have h2 := ofNat_inj (by omega) (by omega) h2
  have h3 := ofNat_inj (by omega) (by omega) h3
  have h4 := ofNat_inj (by omega) (by omega) h4
  omega
theorem dgIn_len {n : Nat} {log st : List UInt8} (hl : log.length = 32) (hs : st.length = 32) : (dgIn n log st).length = 69 := by
  simp [dgIn, beN_length, hl, hs]
theorem dgIn_num {n m : Nat} {log st : List UInt8} (hn : n < 4294967296) (hm : m < 4294967296) (hne : ¬ n = m) : dgIn n log st ≠ dgIn m log st := fun e => by
  unfold dgIn at e
  simp only [List.cons.injEq, true_and, List.append_assoc, List.append_cancel_right_eq] at e
  exact hne (beN4_inj hn hm (List.append_cancel_right e))
theorem dgIn_log {n : Nat} {a b c d : List UInt8} (ha : a.length = 32) (hc : c.length = 32) (e : dgIn n a b = dgIn n c d) : a = c := by
  unfold dgIn at e
  simp only [List.cons.injEq, true_and, List.append_assoc] at e
  have e := List.append_cancel_left e
  exact (List.append_inj e (by rw [ha, hc])).1
abbrev ospT (E : Nat) (v : Value) : OSp := .v [] fun _ g => g.1 = v ∧ ∀ k, g.2 k → E ≤ k
section
variable {w0 : World} {E : Nat} {ops : Array Oper} {toks : List Tok} {Q : Act → (Nat → GV) → Prop} {i : Nat} {o : Oper} {rest : List Oper} {ss : List OSp} {val : Nat → GV} {a : Act}
/-- A digest made with a tape, in a region that draws. -/
theorem walk_dig (HE : EnvAt w0 E) {F : Nat → Prop} {bt n : Nat} {bl : List (List UInt8)} {log st X : List UInt8} {d : Tmp} (y x : Nat) {u s : Tok} (hX : dg n log st = X) (hn : n < 9223372036854775808) (hl : log.length = 32) (hs : st.length = 32) (hF : ∀ k, F k → E ≤ k) (hbl : bl.length ≤ 1099511627776)
    (hy : toks[y]? = some u) (hx : toks[x]? = some s) (hB : (prodB toks i x && (u.cons == some i)) = true) (hd : o.dst = some d) (hlt : Nat.ble (d + 1) a.tmps.size = true) (hw : Region.wanted o (yielded ops a.tmps) = true)
    (hu : u.at_ val = tapeA F bt bl) (hu' : ∀ g, u.at_ (upd val i g) = tapeA F bt bl) (hs' : ∀ g, s.at_ (upd val i g) = tapeA g.2 bt (bl ++ [dgIn n log st])) (hev : E ≤ w0.heap.size)
    (hcall : ∀ (w : World) (K : Act → World → Prop) (Q : Exit → Act → World → Prop), Calls Tryz.prog 69 #[ptr bt 0, .int .i64 n, hv log, hv st] w (fun e w'' => ∃ v, e = .returned v ∧ K (a.put o.dst v) w'') → o.wp Tryz.prog a w K Q)
    (h : ∀ F', (∀ k, F' k → E ≤ k) → Walk Tryz.prog ops toks (Kp (fun _ => False) w0) Q (i + 1) rest ss (upd val i (hv X, F')) (a.put o.dst (hv X))) :
    Walk Tryz.prog ops toks (Kp (fun _ => False) w0) Q i (o :: rest) (ospT E (hv X) :: ss) val a := by
  subst hX
  refine walk_v hw ⟨(_, F), rfl, hF⟩ (fun w hI => ?_) (by rintro ⟨v, F'⟩ ⟨rfl, h1⟩; exact h F' h1)
  have hc : (u.cons == some i) = true := (Bool.and_eq_true _ _ ▸ hB).2
  have hT := ins_get hI y hy (by rw [hc]; simp)
  rw [hu] at hT
  refine Loud.of_wp hd (Nat.le_of_ble_eq_true hlt) fun K Q' hK => hcall w K Q' ?_
  have hfr : Below w0.heap.size w0 w := hI.frame.below (Nat.le_refl _) fun _ h => h.elim
  refine (dig_tape w E F bt bl hT hF hbl (HE.below hfr hev) n hn log st hl hs).mono ?_
  rintro e w' ⟨rfl, F', hk, hT', hf⟩
  refine ⟨_, rfl, hK _ _ ⟨(_, F'), rfl, ⟨rfl, fun k hk => ?_⟩, outs_set y hy x hx hB ?_ ?_ ?_⟩⟩
  · rcases hf k hk with h1 | h1
    · exact hF k h1
    · exact Nat.le_trans hev (Nat.le_trans hfr.size h1)
  · rw [hu']; exact hk
  · rw [hs']; exact hT'
  · rw [hs', hu']; exact hf
theorem walk_dig0 (HE : EnvAt w0 E) {n : Nat} {log st X : List UInt8} {d : Tmp} (hX : dg n log st = X) (hn : n < 9223372036854775808) (hl : log.length = 32) (hs : st.length = 32)
    (hB : (toks.all fun t => t.prod != some i) = true) (hd : o.dst = some d) (hlt : Nat.ble (d + 1) a.tmps.size = true) (hw : Region.wanted o (yielded ops a.tmps) = true) (hev : E ≤ w0.heap.size)
    (hcall : ∀ (w : World) (K : Act → World → Prop) (Q : Exit → Act → World → Prop), Calls Tryz.prog 69 #[.pointer none, .int .i64 n, hv log, hv st] w (fun e w'' => ∃ v, e = .returned v ∧ K (a.put o.dst v) w'') → o.wp Tryz.prog a w K Q)
    (h : Walk Tryz.prog ops toks (Kp (fun _ => False) w0) Q (i + 1) rest ss (upd val i (gq (hv X))) (a.put o.dst (hv X))) :
    Walk Tryz.prog ops toks (Kp (fun _ => False) w0) Q i (o :: rest) ((.v [] fun _ g => g = gq (hv X)) :: ss) val a := by
  subst hX
  refine walk_v hw ⟨_, rfl⟩ (fun w hI => ?_) (by rintro g rfl; exact h)
  refine Loud.of_wp hd (Nat.le_of_ble_eq_true hlt) fun K Q' hK => hcall w K Q' ?_
  have hfr : Below w0.heap.size w0 w := hI.frame.below (Nat.le_refl _) fun _ h => h.elim
  refine (dig_none w E (HE.below hfr hev) n hn log st hl hs).mono ?_
  rintro e w' ⟨rfl, hb⟩
  exact ⟨_, rfl, hK _ _ ⟨gq _, rfl, rfl, outs_quiet hB hb⟩⟩
theorem walk_eqH {C : World → Prop} {p q : Operand} {t : TypeId} {b c : List UInt8} {d : Tmp} (ho : o.op = .binOp .eql 30 p q t)
    (hp : a.eval p = .agg (bcs b).toArray) (hq : a.eval q = .agg (bcs c).toArray) (hb : b.length = 32) (hc : c.length = 32) {r : Bool} (hr : decide (b = c) = r) (hd : o.dst = some d) (hlt : Nat.ble (d + 1) a.tmps.size = true) (hw : Region.wanted o (yielded ops a.tmps) = true)
    (h : Walk Tryz.prog ops toks C Q (i + 1) rest ss (upd val i (gq (.bool r))) (a.put o.dst (.bool r))) : Walk Tryz.prog ops toks C Q i (o :: rest) (.q :: ss) val a :=
  walk_q hw (fun _ _ => Same.of_wp (by rw [ho]; rfl) hd (Nat.le_of_ble_eq_true hlt) fun K Q' hK => wp_eqH ho hp hq hb hc (by rw [hr]; exact hK)) h
theorem walk_neH {C : World → Prop} {p q : Operand} {t : TypeId} {b c : List UInt8} {d : Tmp} (ho : o.op = .binOp .neq 30 p q t)
    (hp : a.eval p = .agg (bcs b).toArray) (hq : a.eval q = .agg (bcs c).toArray) (hb : b.length = 32) (hc : c.length = 32) {r : Bool} (hr : (!decide (b = c)) = r) (hd : o.dst = some d) (hlt : Nat.ble (d + 1) a.tmps.size = true) (hw : Region.wanted o (yielded ops a.tmps) = true)
    (h : Walk Tryz.prog ops toks C Q (i + 1) rest ss (upd val i (gq (.bool r))) (a.put o.dst (.bool r))) : Walk Tryz.prog ops toks C Q i (o :: rest) (.q :: ss) val a :=
  walk_q hw (fun _ _ => Same.of_wp (by rw [ho]; rfl) hd (Nat.le_of_ble_eq_true hlt) fun K Q' hK => wp_neH ho hp hq hb hc (by rw [hr]; exact hK)) h
end
theorem hvar_load {toks : List Tok} {i : Nat} {val : Nat → GV} {C : World → Prop} {b : Nat} {x : List UInt8} (y : Nat) {t : Tok} (hy : toks[y]? = some t) (hr : (t.rds.contains i || t.cons == some i) = true) (ht : t.at_ val = hvar b x) : ∀ w, Ins C toks i val w → w.rangeAt b 0 (bcs x) :=
  fun w hI => range_all (by have := ins_get hI y hy hr; rw [ht] at this; exact this)
end Go.Proofs.YtbenjjaofabdcaaGreatDoor
