/-
  sha.Tape.All as an iterator; paciolilaw02.Clash.
-/
import Derived.Test.YtgoidkenpfplfaaDoorRange
import Derived.Test.YtgoidkenpfplfaaDoorEq
namespace Go.Proofs.YtgoidkenpfplfaaDoor
open Go Go.RowKit
attribute [local go_sem] Oper.semAt_some

/-- What a round is handed. -/
abbrev It (w : World) (n₀ : Nat) := { p : Value × List UInt8 // Bs w p.1 p.2 ∧ (∀ k, p.1.ownBlock = some k → k < n₀) ∧ p.2.length ≤ 1099511627776 }

set_option maxHeartbeats 1600000 in
set_option maxRecDepth 100000 in
theorem tape_all (F : Fence) (n : Nat) (hf : F.fn 23) (hro : F.round = none) (hn : 1 ≤ n) (w0 : World) (n₀ bt : Nat) (xs : List (It w0 n₀)) (w : World) (vl : Value)
    (hb : w.cell? ⟨bt, 0, none⟩ = some vl) (hbt : bt < n₀) (hS : Sl w 1 vl xs.length (xs.map (·.1.1))) (hv : ∀ k, vl.ownBlock = some k → k < n₀) (hw : n₀ ≤ w.heap.size) (hlen : xs.length ≤ 1099511627776) :
    SeqM F n Tryd.prog 23 #[.pointer (some ⟨bt, 0, none⟩)] (fun x : It w0 n₀ => #[x.1.1]) n₀ xs.length (fun ys => ys = xs) (fun pre => pre <+: xs) w := by
  intro l J Jx W hW hY h0
  obtain ⟨ao, c, rfl⟩ := hS.form
  have hbW := (hW.cell (p := ⟨bt, 0, none⟩) (Nat.lt_of_lt_of_le hbt hw)).trans hb
  have hSW := hS.below hW
  have HSW := Lib.hid hSW
  clear hS hW hb hSW
  refine callsIn_of_wp Tryd.func23 rfl hf ?_ hro
  simp only [Tryd.ntmps23, List.size_toArray, List.length_cons, List.length_nil, Nat.reduceAdd, Nat.reduceSub, Array.replicate_succ, Array.replicate_zero, List.push_toArray, List.append_toArray, List.nil_append, List.cons_append]
  gi_wp2
  gi_loopw [13] (fun i wr => ∃ k : Nat, k ≤ xs.length ∧ i = .int .i64 k ∧ J (xs.take k) wr ∧ Below n₀ W wr) (fun i _ => xs.length - (intOf i).toNat)
  case atStart => exact ⟨0, Nat.zero_le _, rfl, by simpa using h0, Below.refl _ _⟩
  case round =>
    obtain ⟨k, hk, rfl, hJ, hbw⟩ := hrel
    by_cases hlt : k < xs.length
    · have hkl : k < (xs.map (·.1.1)).length := by simpa using hlt
      have hSw := HSW.out.move (w' := wr) fun b hb' _ => hbw.block b (hv b hb')
      obtain ⟨b0, o0, rfl⟩ : ∃ b0 o0, ao = some ⟨b0, o0, none⟩ := by
        rcases HSW.out with ⟨h1, h2, _⟩ | ⟨b, o, c', h1, _⟩
        · omega
        · simp only [Value.slice.injEq] at h1; exact ⟨b, o, h1.1⟩
      have c1 : wr.cell? ⟨b0, o0 + k, none⟩ = some xs[k].1.1 := by have := hSw.cell k hkl; simpa using this
      obtain ⟨fn, tmps, assign, body, hy, hR⟩ := hY (xs.take k) xs[k] wr hJ (by rw [List.length_take]; omega)
      have htk : xs.take (k + 1) = xs.take k ++ [xs[k]] := List.take_succ_eq_append_getElem hlt
      obtain ⟨af, cf, hform⟩ := (xs[k].2.1).form
      have HTK := Lib.hid htk
      generalize hx : xs[k] = x at *
      rw [hform] at c1 hy
      have HF := Lib.hid hform
      have HY := Lib.hid hY
      clear hx htk hform hSw hY
      gi_wp2
      refine hR.mono ?_
      rintro e W3 (⟨rfl, hJ3, hk3⟩ | ⟨rfl, hJx3⟩)
      · rw [← HTK.out] at hJ3
        clear hR hJ
        gi_wp2
        refine ⟨⟨k + 1, by omega, by go_num, hJ3, hbw.trans hk3⟩, by simp [intOf]; omega⟩
      · clear hR hJ
        gi_wp2
        refine bodyPost_ret (results_none rfl _ _ _) rfl ⟨⟨_, rfl⟩, .inr ⟨_, ?_, hJx3⟩⟩
        rw [← HTK.out]
        exact List.take_prefix _ _
    · obtain rfl : k = xs.length := by omega
      rw [List.take_length] at hJ
      clear hY
      gi_wp2
      go_end0
      exact ⟨⟨_, rfl⟩, .inl ⟨xs, rfl, hJ⟩⟩
end Go.Proofs.YtgoidkenpfplfaaDoor
