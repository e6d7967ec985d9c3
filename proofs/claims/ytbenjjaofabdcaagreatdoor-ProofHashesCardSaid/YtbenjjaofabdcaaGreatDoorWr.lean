/-
  A writer as a piece of memory; calls that turn a piece.
-/
import Derived.Test.YtbenjjaofabdcaaGreatDoorNew0
namespace Go.Proofs.YtbenjjaofabdcaaGreatDoor
open Go Go.RowKit

/-- What a call comes to that turns a piece: what stands there afterwards lies where it lay, or in new memory. -/
def CPost (A : (Nat → Prop) → Asn) (F : Nat → Prop) (v : Value) (w : World) (e : Ending) (w' : World) : Prop :=
  e = .returned v ∧ ∃ F', Kp F w w' ∧ (A F').holds w' ∧ ∀ k, F' k → F k ∨ w.heap.size ≤ k
section
variable {P : Program} {C : World → Prop} {S : Nat → Prop} {ops : Array Oper} {toks : List Tok} {Q : Act → (Nat → GV) → Prop} {i : Nat} {o : Oper} {rest : List Oper} {ss : List OSp} {val : Nat → GV} {a : Act}
/-- Such a call in a region that draws; where the piece lies is told by S. -/
theorem walk_turn {F : Nat → Prop} {U : Asn} {N : (Nat → Prop) → Asn} {v : Value} {d : Tmp} (y x : Nat) {u s : Tok} (hF : ∀ k, F k → S k) (hC : ∀ w k, C w → w.heap.size ≤ k → S k) (hUF : U.fp = F) (hN : ∀ F k, (N F).fp k → F k)
    (hy : toks[y]? = some u) (hx : toks[x]? = some s) (hB : (prodB toks i x && (u.cons == some i)) = true) (hd : o.dst = some d) (hlt : Nat.ble (d + 1) a.tmps.size = true) (hw : Region.wanted o (yielded ops a.tmps) = true)
    (hu : u.at_ val = U) (hu' : ∀ g, u.at_ (upd val i g) = U) (hs : ∀ g, s.at_ (upd val i g) = N g.2)
    (hcall : ∀ w, Ins C toks i val w → U.holds w → ∀ (K : Act → World → Prop) (Q : Exit → Act → World → Prop), (∀ e w', CPost N F v w e w' → K (a.put o.dst v) w') → o.wp P a w K Q)
    (h : ∀ F', (∀ k, F' k → S k) → Walk P ops toks C Q (i + 1) rest ss (upd val i (v, F')) (a.put o.dst v)) : Walk P ops toks C Q i (o :: rest) (ospTS S v :: ss) val a := by
  refine walk_v hw ⟨(_, F), rfl, hF⟩ (fun w hI => ?_) (by rintro ⟨v, F'⟩ ⟨rfl, h1⟩; exact h F' h1)
  have hc : (u.cons == some i) = true := (Bool.and_eq_true _ _ ▸ hB).2
  have hT := ins_get hI y hy (by rw [hc]; simp)
  rw [hu] at hT
  refine Loud.of_wp hd (Nat.le_of_ble_eq_true hlt) fun K Q' hK => hcall w hI hT K Q' ?_
  rintro e w' ⟨-, F', hk, hT', hf⟩
  refine hK _ _ ⟨(_, F'), rfl, ⟨rfl, fun k hk => ?_⟩, outs_set y hy x hx hB ?_ ?_ ?_⟩
  · rcases hf k hk with h1 | h1
    · exact hF k h1
    · exact hC w k hI.frame h1
  · rw [hu', hUF]; exact hk
  · rw [hs]; exact hT'
  · rw [hs, hu', hUF]; exact fun k hk => hf k (hN _ k hk)
end
/-- A writer, as a piece of memory. -/
def wrA (F : Nat → Prop) (bw : Nat) (l : List UInt8) : Asn where
  fp := F
  holds w := WAt w bw l ∧ (∀ k, WFp w bw k → F k) ∧ ∀ k, F k → k < w.heap.size
  loc {w w'} h hk := by
    obtain ⟨⟨vb, h1, h2⟩, h3, h4⟩ := h
    have hb : F bw := h3 bw (.inl rfl)
    have hb' := hk bw hb
    have hlt : ∀ k, F k → k < w'.heap.size := fun k hF => by
      have h5 := h4 k hF
      have h6 := hk k hF
      rw [Array.getElem?_eq_getElem h5] at h6
      exact (Array.getElem?_eq_some_iff.1 h6).1
    refine ⟨⟨vb, hb'.trans h1, ?_⟩, fun k hw => h3 k ?_, hlt⟩
    · obtain ⟨hl, h5 | ⟨g, cap, cur, rfl, h5, h6, h7⟩⟩ := h2
      · exact ⟨hl, .inl h5⟩
      · exact ⟨hl, .inr ⟨g, cap, cur, rfl, h5, (hk g (h3 g (.inr ⟨_, h1, rfl⟩))).trans h6, h7⟩⟩
    · unfold WFp at *; rw [hb'] at hw; exact hw
  lt h k hk := h.2.2 k hk
theorem WFp.lt {w : World} {bw : Nat} {l : List UInt8} (h : WAt w bw l) : ∀ k, WFp w bw k → k < w.heap.size := fun k hk => by
  obtain ⟨vb, h1, h2⟩ := h.ex
  rcases hk with rfl | ⟨vb', h3, h4⟩
  · exact (Array.getElem?_eq_some_iff.1 h1).1
  · rw [h1] at h3
    simp at h3
    subst h3
    exact (own_base h2 k h4).2
theorem wrA.of {F : Nat → Prop} {bw : Nat} {l l' : List UInt8} {w : World} {v : Value} {e : Ending} {w' : World} (h : (wrA F bw l).holds w) (h' : e = .returned v ∧ WAt w' bw l' ∧ Rw bw w w') : CPost (fun F => wrA F bw l') F v w e w' := by
  obtain ⟨rfl, h1, h2⟩ := h'
  exact ⟨rfl, WFp w' bw, h2.keep.mono h.2.1, ⟨h1, fun _ hk => hk, WFp.lt h1⟩, fun k hk => (h2.new k hk).imp (h.2.1 k) id⟩
theorem wrA_new {b : Nat} {w : World} (h : (pts b 92 [.slice none 0 0]).holds w) : (wrA (fun k => k = b) b []).holds w :=
  ⟨⟨_, h, OwnB.nil _ _ _⟩, fun k hk => hk.elim id fun ⟨vb, h1, h2⟩ => by
    rw [show w.heap[b]? = _ from h] at h1
    simp at h1
    subst h1
    simp [Value.ownBlock] at h2, fun k hk => by rw [hk]; exact (Array.getElem?_eq_some_iff.1 h).1⟩
theorem int_wr (w : World) (F : Nat → Prop) (bw : Nat) (l : List UInt8) (hW : (wrA F bw l).holds w) (n : Nat) (v : Value) (xs : List Nat) (hn : n ≤ 8) (hx : Sl w 1 v xs.length (xs.map fun x : Nat => Value.int .i64 (x : Int))) (hlen : l.length + xs.length * n ≤ 1099511627776)
    (hb : ∀ x ∈ xs, x < 9223372036854775808) (hv : ∀ k, v.ownBlock = some k → ¬ F k) (hxl : xs.length ≤ 1099511627776) :
    Calls Tryz.prog 36 #[ptr bw 0, .int .i64 n, v] w (CPost (fun F => wrA F bw (l ++ xs.flatMap (beN n))) F (ptr bw 0) w) :=
  (int_any w bw l n v xs hW.1 hn hx hlen hb (fun k hk h => hv k hk (hW.2.1 k h)) hxl).mono fun _ _ h => wrA.of hW h
theorem whash_wr (w : World) (F : Nat → Prop) (bw : Nat) (l : List UInt8) (hW : (wrA F bw l).holds w) (v : Value) (hs : List (List UInt8)) (hx : Sl w 32 v hs.length (hcs hs)) (hlen : l.length + hs.length * 32 ≤ 1099511627776)
    (h32 : ∀ h ∈ hs, h.length = 32) (hv : ∀ k, v.ownBlock = some k → ¬ F k) (hhl : hs.length ≤ 1099511627776) :
    Calls Tryz.prog 64 #[ptr bw 0, v] w (CPost (fun F => wrA F bw (l ++ hs.flatten)) F (ptr bw 0) w) :=
  (whash_any w bw l v hs hW.1 hx hlen h32 (fun k hk h => hv k hk (hW.2.1 k h)) hhl).mono fun _ _ h => wrA.of hW h
theorem bytes_wr (w : World) (F : Nat → Prop) (bw : Nat) (l : List UInt8) (hW : (wrA F bw l).holds w) (hlen : l.length ≤ 1099511627776) :
    Calls Tryz.prog 38 #[ptr bw 0] w fun e w' => ∃ v, e = .returned v ∧ OwnB w' w.heap.size 5 v l ∧ Below w.heap.size w w' := bytes_any w bw l hW.1 hlen
end Go.Proofs.YtbenjjaofabdcaaGreatDoor
