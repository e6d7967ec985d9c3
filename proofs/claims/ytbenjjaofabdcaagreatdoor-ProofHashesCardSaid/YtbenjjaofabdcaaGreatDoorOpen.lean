/-
  Arguments opened: slices whose elements are told.
-/
import Derived.Test.YtbenjjaofabdcaaGreatDoorLaw
import Derived.Test.YtbenjjaofabdcaaGreatDoorAcc
import Derived.Deep.Slices
namespace Go.Proofs.YtbenjjaofabdcaaGreatDoor
open Go Go.RowKit Go.WideShapes Go.ChangeShapes Go.ChangeAt Go.Deep

theorem okW_slice {P : Program} {W : World} {r : Reach} {base : Nat} {t e : TypeId} {v : Value} (ht : P.underlying t = some (.slice e)) (h : Value.okWide P W r base t v) : v = .slice none 0 0 ∨ ∃ b o n c, v = .slice (some ⟨b, o, none⟩) n c := by
  unfold Value.okWide at h
  rw [ht] at h
  simp only at h
  unfold Cell.okWide at h
  rw [ht] at h
  cases v <;> simp only [Cell.ok, ht] at h
  case slice a n c =>
    rcases a with _ | ⟨b, o, s⟩
    · rcases n with _ | n <;> rcases c with _ | c <;> first | exact .inl rfl | exact h.elim
    · right
      obtain ⟨_, _, h3⟩ := h
      obtain rfl : s = none := h3.2.1
      exact ⟨_, _, _, _, rfl⟩
/-- A slice of told elements. -/
theorem open_sl {H : Type} {enc : TypeId × Value → H} {P : Program} {W : World} {base : Nat} {sp : Nat → Bool} {held : Bool} {r : Reach} {α : Type} {t e : TypeId} {sz : Nat} {v : Value} {d : DataW H} {p : List MemPlace} (f : α → List Value) (Q : α → Prop) (hc : P.cellsOf e = sz) (ht : P.underlying t = some (.slice e))
    (hok : Value.okWide P W r base t v) (elt : ∀ m cs y, DataW.trod enc P W 0 sp held m e cs = some y → ∃ a, cs = f a ∧ Q a) (h : DataW.Trod enc P W 0 sp held t v d p) : ∃ l : List α, Sl W sz v l.length (l.flatMap f) ∧ (∀ a ∈ l, Q a) ∧ l.length ≤ maxLen := by
  rcases okW_slice ht hok with rfl | ⟨b, o, n, c, rfl⟩
  · exact ⟨[], Sl.nil _ _, by simp, by unfold maxLen; simp⟩
  · obtain ⟨fuel, hf⟩ := h
    rcases open_slice ht hf with ⟨h0, _⟩ | ⟨a, len, cap, m, n', D, Pl, hv, _, hl, hm, hmm, _, hx⟩
    · simp [Value.cells] at h0
    · simp only [Value.cells, List.cons.injEq, Value.slice.injEq, Option.some.injEq, and_true] at hv
      obtain ⟨rfl, rfl, rfl⟩ := hv
      have hle : n ≤ m := by rw [hmm]; split <;> omega
      have each : ∀ i, i < n → ∃ y : α, W.cells? 0 ((⟨b, o, none⟩ : Addr).add (i * sz)) sz = some (f y) ∧ Q y := fun i hi => by
        obtain ⟨cs, h1, h2⟩ := hx i (by omega)
        obtain ⟨y, rfl, hq⟩ := elt _ _ _ h2
        rw [hc] at h1
        exact ⟨y, h1, hq⟩
      have grow : ∀ k, k ≤ n → ∃ l : List α, l.length = k ∧ (∀ a ∈ l, Q a) ∧ (l.flatMap f).length = k * sz ∧ W.rangeAt b o (l.flatMap f) := by
        intro k
        induction k with
        | zero => exact fun _ => ⟨[], rfl, by simp, by simp, fun j u hj => by simp at hj⟩
        | succ k ih =>
          intro hk
          obtain ⟨l, h1, h2, h3, h4⟩ := ih (by omega)
          obtain ⟨y, hy, hq⟩ := each k (by omega)
          unfold World.cells? at hy
          rw [if_pos (Nat.zero_le _)] at hy
          have hlen : (f y).length = sz := by simpa using mapM_some_length hy
          refine ⟨l ++ [y], by simp [h1], fun a ha => (List.mem_append.1 ha).elim (h2 a) fun h => by rw [List.mem_singleton.1 h]; exact hq, by simp [h3, hlen, Nat.succ_mul], fun j u hj => ?_⟩
          rw [List.flatMap_append] at hj
          by_cases hj' : j < k * sz
          · rw [List.getElem?_append_left (by omega)] at hj
            exact h4 j u hj
          · rw [List.getElem?_append_right (by omega), h3] at hj
            simp only [List.flatMap_cons, List.flatMap_nil, List.append_nil] at hj
            have hlt : j - k * sz < (f y).length := (List.getElem?_eq_some_iff.1 hj).1
            have := mapM_some_get hy (j - k * sz) (j - k * sz) (List.getElem?_range (by omega))
            rw [hj] at this
            have e1 : (((⟨b, o, none⟩ : Addr).add (k * sz)).add (j - k * sz)) = ⟨b, o + j, none⟩ := by
              have e2 : o + k * sz + (j - k * sz) = o + j := by omega
              rw [Addr.add_mid, Addr.add_mid, e2]
            rw [e1] at this
            exact this
      obtain ⟨l, h1, h2, h3, h4⟩ := grow n (Nat.le_refl _)
      exact ⟨l, .inr ⟨b, o, c, by rw [h1], by omega, by omega, by rw [h1]; exact h3, h4⟩, h2, by omega⟩
end Go.Proofs.YtbenjjaofabdcaaGreatDoor
