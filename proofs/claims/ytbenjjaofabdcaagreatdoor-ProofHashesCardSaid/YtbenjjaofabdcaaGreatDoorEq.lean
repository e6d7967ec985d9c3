/-
  Hashes compared; hashes as a map's keys.
-/
import Derived.Test.YtbenjjaofabdcaaGreatDoorVar
import Derived.DeepKeys
namespace Go.Proofs.YtbenjjaofabdcaaGreatDoor
open Go Go.RowKit

theorem mapM_some {α β : Type} (f : α → Option β) (g : α → β) : ∀ l : List α, (∀ a ∈ l, f a = some (g a)) → l.mapM f = some (l.map g)
  | [], _ => rfl
  | a :: r, h => by
    rw [List.mapM_cons, h a (by simp), mapM_some f g r fun b hb => h b (by simp [hb])]
    rfl
def litOf (b : UInt8) : Lit := .int .u8 b.toNat
theorem hash_lits (d : Nat) (x : List UInt8) (hx : x.length = 32) : Tryz.prog.keyLits (d + 2) 30 (bcs x) = some (x.map litOf) := by
  have c23 : Tryz.prog.cellsOf 30 = 32 := by kernel_rfl
  have c5 : Tryz.prog.cellsOf 5 = 1 := by kernel_rfl
  have hone : ∀ i ∈ List.range 32, Tryz.prog.keyLits (d + 1) 5 (((bcs x).drop (i * 1)).take 1) = some [litOf (x.getD i 0)] := fun i hi => by
    have hi' : i < 32 := by simpa using hi
    have hlt : i < x.length := by omega
    have h1 : ((bcs x).drop (i * 1)).take 1 = [u8c (x.getD i 0)] := by
      rw [Nat.mul_one]
      have h2 : i < (bcs x).length := by rw [bcs_length]; omega
      rw [List.drop_eq_getElem_cons h2, List.take_succ_cons, List.take_zero]
      simp [bcs, hlt]
    have hb := (x.getD i 0).toNat_lt
    rw [h1]
    generalize x.getD i 0 = b at *
    simp [Program.keyLits, Tryz.underlying5, u8c, litOf, Lit.wf]
    rw [show IntKind.u8.min = 0 from rfl, show IntKind.u8.max = 255 from rfl]
    omega
  rw [Program.keyLits.eq_def]
  simp only [Tryz.underlying30]
  simp only [c23, c5, bcs_length, hx, if_true]
  rw [mapM_some _ _ _ hone]
  simp only [Option.map_some, Option.some.injEq]
  have h3 : ∀ l : List Nat, (l.map fun i => [litOf (x.getD i 0)]).flatten = l.map fun i => litOf (x.getD i 0) := fun l => by
    induction l with
    | nil => rfl
    | cons a r ih => rw [List.map_cons, List.flatten_cons, ih]; rfl
  rw [h3]
  apply List.ext_getElem
  · simp [hx]
  · intro i h1 h2
    have hi : i < x.length := by simpa using h2
    simp [hi]
/-- A hash, as a map's key. -/
def hashKey (x : List UInt8) : Lit := .string (keyBytes (x.map litOf))
theorem keyOf_hv (x : List UInt8) (hx : x.length = 32) : keyOf Tryz.prog 30 (hv x) = some (hashKey x) := by
  have c23 : Tryz.prog.cellsOf 30 = 32 := by kernel_rfl
  have hk : Tryz.prog.keyType 30 = true := by kernel_rfl
  have hf : (hv x).formed Tryz.prog 30 = true := by simp [hv, Value.formed, Tryz.underlying30, c23, bcs, hx]
  unfold keyOf
  rw [Tryz.underlying30]
  simp only [hk, hf, Bool.and_self, if_true]
  obtain ⟨d, hd⟩ : ∃ d, Tryz.prog.types.size + 1 = d + 2 := ⟨Tryz.prog.types.size - 1, by
    have : 0 < Tryz.prog.types.size := of_decide_eq_true (by kernel_rfl)
    omega⟩
  rw [hd]
  show Option.map _ (Tryz.prog.keyLits (d + 2) _ (bcs x).toArray.toList) = _
  rw [hash_lits d x hx]
  rfl
theorem litOf_inj {a b : UInt8} (h : litOf a = litOf b) : a = b := by
  unfold litOf at h
  simp at h
  exact UInt8.toNat_inj.1 (Int.ofNat.inj h)
theorem hashKey_inj {x y : List UInt8} (hx : x.length = 32) (hy : y.length = 32) : hashKey x = hashKey y ↔ x = y := by
  refine ⟨fun h => ?_, fun h => by rw [h]⟩
  have h1 := keyLits_inj (hash_lits 0 x hx) (hash_lits 0 y hy) (by simpa [hashKey] using h)
  exact (List.map_inj_right fun _ _ => litOf_inj).1 h1
theorem equal_hv (w : World) (x y : List UInt8) (hx : x.length = 32) (hy : y.length = 32) : (Op.equal 30 (.agg (bcs x).toArray) (.agg (bcs y).toArray)).run Tryz.prog w = .ok (decide (x = y)) w := by
  obtain ⟨r, h1, h2⟩ := run_equal_deep (P := Tryz.prog) w (m := 4) (by decide) (k := 30) (by kernel_rfl) (by rw [Tryz.underlying30]) (keyOf_hv x hx) (keyOf_hv y hy)
  rw [hashKey_inj hx hy] at h2
  rw [show r = decide (x = y) by rw [Bool.eq_iff_iff, h2]; simp] at h1
  exact h1
/-- Two hashes compared. -/
theorem wp_eqH {o : Oper} {a : Act} {w : World} {K : Act → World → Prop} {Q : Exit → Act → World → Prop} {p q : Operand} {t : TypeId} {b c : List UInt8} (ho : o.op = .binOp .eql 30 p q t)
    (hp : a.eval p = .agg (bcs b).toArray) (hq : a.eval q = .agg (bcs c).toArray) (hb : b.length = 32) (hc : c.length = 32) (h : K (a.put o.dst (.bool (decide (b = c)))) w) : o.wp Tryz.prog a w K Q := by
  have h1 := equal_hv w b c hb hc
  have h2 : Tryz.prog.eqGuardType Tryz.prog.depth 30 = false := by kernel_rfl
  unfold Oper.wp execOp
  simp [ho, hp, hq, eqGuard, binOp, h1, h2]
  exact h
theorem wp_neH {o : Oper} {a : Act} {w : World} {K : Act → World → Prop} {Q : Exit → Act → World → Prop} {p q : Operand} {t : TypeId} {b c : List UInt8} (ho : o.op = .binOp .neq 30 p q t)
    (hp : a.eval p = .agg (bcs b).toArray) (hq : a.eval q = .agg (bcs c).toArray) (hb : b.length = 32) (hc : c.length = 32) (h : K (a.put o.dst (.bool (!decide (b = c)))) w) : o.wp Tryz.prog a w K Q := by
  have h1 := equal_hv w b c hb hc
  have h2 : Tryz.prog.eqGuardType Tryz.prog.depth 30 = false := by kernel_rfl
  unfold Oper.wp execOp
  simp [ho, hp, hq, eqGuard, binOp, h1, h2]
  exact h
end Go.Proofs.YtbenjjaofabdcaaGreatDoor
