/-
  paciolilaw12.DigestNumbers, for every input: of other roots, or behind another number of batches, another digest is made, unless two unlike ones among what was hashed have one hash. Its row and its card.
-/
import Derived.Test.YtgoidkenpfplfaaDoorNum
import Derived.Test.YtgoidkenpfplfaaDoorLaw
namespace Go.Proofs.YtgoidkenpfplfaaDoor
open Go Go.RowKit Go.WideShapes Go.ChangeShapes Go.ChangeAt

namespace Cnum
theorem laid_met (os : Os) (args : Array Value) : laidMet Tryd.prog Rows.digestNumbersRow.laid ((laidWorld os).forCall (fun _ _ => 0) ⟨#[], args, []⟩).memory :=
  laidMet_of_run' 8 (by kernel_rfl) (by kernel_rfl)
def warg : Array Value := #[.int .i64 0, .int .i64 0, .agg (Array.replicate 64 (.int .u8 0))]
theorem witness_row (os : Os) {H : Type} (enc : TypeId × Value → H) :
    (OpenSpec.ofChange Rows.digestNumbersSpec).preRow enc Tryd.prog Tryd.f3 Rows.digestNumbersRow.domain false Rows.digestNumbersRow.laid ((laidWorld os).forCall (fun _ _ => 0) ⟨#[], warg, []⟩).memory warg := by
  have hw : (DataW.whole enc Tryd.prog ((laidWorld os).forCall (fun _ _ => 0) ⟨#[], warg, []⟩).memory Tryd.f3.params.toList Rows.digestNumbersSpec.vars false warg.toList 8).map (fun x => (x.1, x.2.1)) =
      some ([.lit (.int .i64 0), .lit (.int .i64 0), .agg [.agg (List.replicate 32 (.lit (.int .u8 0))), .agg (List.replicate 32 (.lit (.int .u8 0)))]], []) := by kernel_rfl
  obtain ⟨⟨x1, x2, x3⟩, hx, hx1⟩ := Option.map_eq_some_iff.1 hw
  simp only [Prod.mk.injEq] at hx1
  obtain ⟨rfl, rfl⟩ := hx1
  exact OpenSpec.preRow_of_cond 8 hx (by kernel_rfl) (fun k hk => by cases hk) (by kernel_rfl) (laid_met os _)
def byteOf : Option Value → UInt8
  | some (.int _ z) => UInt8.ofNat z.toNat
  | _ => 0
set_option maxRecDepth 100000 in
/-- Bytes, out of cells that read as such. -/
theorem bytes_of {H : Type} {enc : TypeId × Value → H} {W : World} {base : Nat} {sp : Nat → Bool} {held : Bool} {m n : Nat} {t : TypeId} {cs : List Value} {x : DataW H × List MemPlace} (ht : Tryd.prog.underlying t = some (.array n 5)) (hct : Tryd.prog.cellsOf t = n)
    (h : DataW.trod enc Tryd.prog W base sp held m t cs = some x) : ∃ l : List UInt8, cs = bcs l ∧ l.length = n := by
  have hc : Tryd.prog.cellsOf 5 = 1 := by kernel_rfl
  obtain ⟨xs, m', rfl, -, hl, hxl, hx⟩ := DataW.trod_array ht h
  rw [hct] at hl
  have hcell : ∀ i, i < n → ∃ c : UInt8, cs[i]? = some (u8c c) := fun i hi => by
    have h1 := hx i hi
    rw [hc, Nat.mul_one, List.getElem?_eq_getElem (by omega)] at h1
    obtain ⟨z, hz, -, hw⟩ := DataW.trod_int Tryd.underlying5 h1
    have h2 : cs[i]? = some (.int .u8 z) := by
      have : ((cs.drop i).take 1)[0]? = some (.int .u8 z) := by rw [hz]; rfl
      rw [List.getElem?_take_of_lt (by omega), List.getElem?_drop] at this
      simpa using this
    refine ⟨UInt8.ofNat z.toNat, ?_⟩
    rw [h2]
    have e1 : IntKind.u8.min = 0 := rfl
    have e2 : IntKind.u8.max = 255 := rfl
    simp [Lit.wf, e1, e2] at hw
    unfold u8c
    congr 2
    rw [UInt8.toNat_ofNat_of_lt' (by show z.toNat < 256; omega)]
    omega
  refine ⟨(List.range n).map fun i => byteOf cs[i]?, ?_, by simp⟩
  apply List.ext_getElem?
  intro i
  by_cases hi : i < n
  · obtain ⟨c, h1⟩ := hcell i hi
    rw [h1]
    simp [bcs, hi, h1, u8c, byteOf]
  · rw [List.getElem?_eq_none (by omega), List.getElem?_eq_none (by simp [bcs]; omega)]
set_option maxRecDepth 100000 in
set_option maxHeartbeats 2000000 in
theorem lifted (os : Os) (started : os.Started) (H : Type) (enc : TypeId × Value → H) (F : Stop.Interp) :
    ReturnsInHanded {} Tryd.checked os 3 .any ((OpenSpec.ofChange Rows.digestNumbersSpec).preRow enc Tryd.prog Tryd.f3 Rows.digestNumbersRow.domain false Rows.digestNumbersRow.laid) (((OpenSpec.ofChange Rows.digestNumbersSpec).at F).post enc Tryd.prog Tryd.f3 false true false false) := by
  refine returnsInHanded_of_row (C := Tryd.checked) (s := OpenSpec.ofChange Rows.digestNumbersSpec) own started (by kernel_rfl) Tryd.func3
    (witness_row_atRef (enc := enc) (C := Tryd.checked) false (laidWorld os) warg rfl (by kernel_rfl) (by kernel_rfl) (by kernel_rfl) (witness_row os enc)) ?_
  intro W base args ds gs before hval0 hW _ _ _ hL _ _
  have hval : ∀ (j : Nat) t v, Tryd.f3.params[j]? = some t → args[j]? = some v → Value.okWide Tryd.prog W .any base t v := hval0
  have hL' : laidMet Tryd.prog Rows.digestNumbersRow.laid W := hL
  have hE := env_of hL' (.head _) (.tail _ (.head _)) (.tail _ (.tail _ (.tail _ (.tail _ (.tail _ (.tail _ (.head _))))))) (.tail _ (.tail _ (.tail _ (.tail _ (.tail _ (.head _))))))
  have hW' := hW
  obtain ⟨p, q, hA0, hV, rfl, hfz, hnd⟩ := hW
  have hA : DataW.TrodAll enc Tryd.prog W 0 (fun _ => true) true Tryd.f3.params.toList args.toList ds p := hA0
  rw [Tryd.params3] at hA hval
  obtain ⟨v0, vs0, d0, ds0, p0, q0, hargs, rfl, rfl, h0, r0⟩ := trodAll_cons hA
  obtain ⟨v1, vs1, d1, ds1, p1, q1, rfl, rfl, rfl, h1, r1⟩ := trodAll_cons r0
  obtain ⟨v2, vs2, d2, ds2, p2, q2, rfl, rfl, rfl, h2, r2⟩ := trodAll_cons r1
  obtain ⟨rfl, rfl, rfl⟩ := trodAll_nil r2
  obtain rfl : args = #[v0, v1, v2] := by cases args; simp_all
  obtain ⟨n, rfl, -, -, -⟩ := open_int Tryd.underlying3 (hval 0 3 v0 rfl rfl) h0
  obtain ⟨m, rfl, -, -, -⟩ := open_int Tryd.underlying3 (hval 1 3 v1 rfl rfl) h1
  obtain ⟨fuel, hf⟩ := h2
  have hc24 : Tryd.prog.cellsOf 24 = 64 := by kernel_rfl
  have hc23 : Tryd.prog.cellsOf 23 = 32 := by kernel_rfl
  obtain ⟨xs, m', rfl, -, hl, hxl, hx⟩ := DataW.trod_array Tryd.underlying24 hf
  rw [hc24] at hl
  have g0 := hx 0 (by omega)
  have g1 := hx 1 (by omega)
  rw [hc23, List.getElem?_eq_getElem (by omega)] at g0 g1
  obtain ⟨a, ha, hal⟩ := bytes_of Tryd.underlying23 hc23 g0
  obtain ⟨b, hb, hbl⟩ := bytes_of Tryd.underlying23 hc23 g1
  have hcv : v2.cells.toList = hcs [a, b] := by
    have h3 : v2.cells.toList = (v2.cells.toList.drop (0 * 32)).take 32 ++ (v2.cells.toList.drop (1 * 32)).take 32 := by
      rw [Nat.zero_mul, List.drop_zero, Nat.one_mul, List.take_of_length_le (l := v2.cells.toList.drop 32) (by simp; simp at hl; omega), List.take_append_drop]
    rw [h3, ha, hb]
    simp [hcs]
  obtain ⟨ca, rfl⟩ : ∃ ca, v2 = .agg ca := by
    cases v2 <;> first | exact ⟨_, rfl⟩ | (simp [Value.cells] at hl)
  obtain rfl : ca = (hcs [a, b]).toArray := by
    have : ca.toList = hcs [a, b] := hcv
    rw [← this]
  refine (numbers W W.heap.size hE rfl n m a b hal hbl).mono fun e W' ⟨he, hg⟩ => ?_
  subst he
  exact ⟨_, rfl, law_post (by kernel_rfl) (by kernel_rfl) hW' rfl rfl (by kernel_rfl) Tryd.underlying4 hg⟩
theorem said : Rows.DigestNumbersSaid :=
  OpenClaim.holds_of_cond 3 Tryd.f3 rfl rfl rfl rfl rfl rfl rfl ⟨rfl, rfl, rfl, rfl, rfl⟩ rfl rfl rfl rfl rfl (by kernel_rfl) Tryd.func3 (by kernel_rfl)
    (of_decide_eq_true (by kernel_rfl)) (by unfold Func.isWrapper; first | (rw [if_pos (by decide +kernel)]; kernel_rfl) | (rw [if_neg (by decide +kernel)]; exact ⟨rfl, rfl⟩))
    (fun os started H enc _ F => by rw [OpenClaim.pre_eq_preRow]; exact lifted os started H enc F)
theorem plain (f : FuncId) (fn : Func) (hf : Tryd.pinned.checked.prog.funcNamed "pacioli/paciolilaw12.DigestNumbers" = some f) (hfn : Tryd.pinned.checked.prog.funcs[f]? = some fn) :
    false = Tryd.pinned.checked.prog.looks [] ∧ ∀ (j : Nat) t, fn.params[j]? = some t → Tryd.pinned.checked.prog.wantsStandIn t = false := by
  obtain rfl : f = 3 := Option.some.inj ((show Tryd.prog.funcNamed "pacioli/paciolilaw12.DigestNumbers" = some 3 by kernel_rfl).symm.trans hf) |>.symm
  obtain rfl : fn = Tryd.f3 := (Option.some.inj (Tryd.func3.symm.trans hfn)).symm
  refine ⟨by kernel_rfl, fun j t ht => ?_⟩
  rw [Tryd.params3] at ht
  have hm : t ∈ [3, 3, 24] := by simpa using Array.mem_of_getElem? ht
  exact (of_decide_eq_true (by kernel_rfl) : ∀ u ∈ [3, 3, 24], Tryd.prog.wantsStandIn u = false) t hm
end Cnum
/-- The card. -/
theorem DigestNumbers_card : Rows.DigestNumbersCardSaid :=
  Claim7.holds_tied_plain_at .later [] _ _ _ _ Cnum.said (fun _ h => by cases h) (by kernel_rfl) (fun _ h => by cases h) digestNumbers_row_tie rfl ⟨rfl, rfl⟩ (by kernel_rfl) rfl Cnum.plain (by kernel_rfl)
#print axioms DigestNumbers_card
end Go.Proofs.YtgoidkenpfplfaaDoor
