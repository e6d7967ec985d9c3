/-
  Small words on memory that all walks of this seat use: a block of cells given by a function, loops as folds.
-/
import Derived.WalkKit
import Derived.Deep.QuietTactic
import Derived.BigQuiet
import Derived.Lib.Hide
namespace Go.Proofs.YtbenjjaofabdcaaGreatDoor
open Go Go.RowKit

/-- A block of n cells given by a function. -/
def ArrAt (w : World) (b : Nat) (t : TypeId) (n : Nat) (f : Nat → Value) : Prop :=
  w.heap[b]? = some (.cells ((List.range n).map f).toArray t (0, 0))
theorem ArrAt.cell {w : World} {b n : Nat} {t : TypeId} {f : Nat → Value} (h : ArrAt w b t n f) (i : Nat) (hi : i < n) : w.cell? ⟨b, i, none⟩ = some (f i) := by
  simp [World.cell?, show w.heap[b]? = _ from h, hi]
theorem ArrAt.free {w : World} {b n : Nat} {t : TypeId} {f : Nat → Value} (h : ArrAt w b t n f) (i : Nat) : w.frozen? ⟨b, i, none⟩ = false := by
  simp [World.frozen?, show w.heap[b]? = _ from h]
def upd {α : Type} (f : Nat → α) (i : Nat) (v : α) : Nat → α := fun j => if j = i then v else f j
theorem upd_same {α : Type} (f : Nat → α) (i : Nat) (v : α) : upd f i v i = v := by simp [upd]
theorem upd_other {α : Type} (f : Nat → α) (i j : Nat) (v : α) (h : j ≠ i) : upd f i v j = f j := by simp [upd, h]
theorem ArrAt.set {w : World} {b n : Nat} {t : TypeId} {f : Nat → Value} (h : ArrAt w b t n f) (i : Nat) (v : Value) : ArrAt (w.setCell ⟨b, i, none⟩ v) b t n (upd f i v) := by
  unfold ArrAt at *
  rw [heap_setCell_same w b i _ t v h]
  congr 1; congr 1
  apply Array.ext
  · simp
  · intro j h1 h2
    simp [upd]
    by_cases e : i = j
    · subst e; simp
    · simp [e, Ne.symm e]
theorem ArrAt.lt {w : World} {b n : Nat} {t : TypeId} {f : Nat → Value} (h : ArrAt w b t n f) : b < w.heap.size := (Array.getElem?_eq_some_iff.1 h).1

theorem setCell_ne {w : World} {b o o' : Nat} {v u : Value} (h : w.cell? ⟨b, o', none⟩ = some u) (hne : o ≠ o') : (w.setCell ⟨b, o, none⟩ v).cell? ⟨b, o', none⟩ = some u := by
  exact (World.cell?_setCell_other w ⟨b, o, none⟩ ⟨b, o', none⟩ v (by simp [hne])).trans h
theorem setCell_far {w : World} {b b' o o' : Nat} {v u : Value} (h : w.cell? ⟨b', o', none⟩ = some u) (hne : b ≠ b') : (w.setCell ⟨b, o, none⟩ v).cell? ⟨b', o', none⟩ = some u := by
  exact (World.cell?_setCell_other w ⟨b, o, none⟩ ⟨b', o', none⟩ v (by simp [hne])).trans h
theorem below_drewN {B : Nat} {a w : World} (h : Below B a w) (n : Nat) : Below B a (w.drewN n) := ⟨h.os, h.tape, h.output, h.size, h.block⟩
theorem ArrAt.far {w : World} {b n b' o : Nat} {t : TypeId} {f : Nat → Value} (h : ArrAt w b t n f) (hne : b ≠ b') (v : Value) : ArrAt (w.setCell ⟨b', o, none⟩ v) b t n f := by
  unfold ArrAt at *; rw [heap_setCell_other _ _ _ _ (by simpa using hne)]; exact h
theorem ArrAt.alloc {w : World} {b n : Nat} {t : TypeId} {f : Nat → Value} (h : ArrAt w b t n f) (o : Obj) : ArrAt (w.alloc o) b t n f := by
  unfold ArrAt at *; exact (heap_alloc_old w o (Array.getElem?_eq_some_iff.1 h).1).trans h
theorem ArrAt.below {w w' : World} {B b n : Nat} {t : TypeId} {f : Nat → Value} (h : ArrAt w b t n f) (hb : Below B w w') (hlt : b < B) : ArrAt w' b t n f := by
  unfold ArrAt at *; rw [hb.block b hlt]; exact h
theorem arr_alloc (w : World) (t : TypeId) (n : Nat) (f : Nat → Value) (cs : Array Value) (h : cs = ((List.range n).map f).toArray) : ArrAt (w.alloc (.cells cs t)) w.heap.size t n f := by
  subst h
  exact heap_alloc_new w _

theorem grown_of_below {w w' : World} (h : Below w.heap.size w w') (row : Option Nat) : w.grownBy w' row := ⟨h.os, h.tape, h.output, h.size, fun k hk _ => h.block k hk⟩
theorem grown_setCell {w w' : World} {b o : Nat} (h : w.grownBy w' (some b)) (v : Value) : w.grownBy (w'.setCell ⟨b, o, none⟩ v) (some b) :=
  ⟨h.os, h.tape, h.output, by simpa [World.setCell] using h.size, fun k hk hne => (Below.heap_setCell w' ⟨b, o, none⟩ v k (fun e => hne (by rw [e]))).trans (h.block k hk hne)⟩

theorem below_set {B : Nat} {a w : World} (h : Below B a w) (o : Nat) (v : Value) : Below B a (w.setCell ⟨B, o, none⟩ v) := h.setCell (Nat.le_refl _) v

theorem ArrAt.grown {w w' : World} {row : Option Nat} {b n : Nat} {t : TypeId} {f : Nat → Value} (h : ArrAt w b t n f) (hg : w.grownBy w' row) (hne : some b ≠ row) : ArrAt w' b t n f := by
  unfold ArrAt at *; rw [hg.block b (Array.getElem?_eq_some_iff.1 h).1 hne]; exact h
def lenV : Value → Nat
  | .slice _ n _ => n
  | _ => 0

/-- k rounds of a loop. -/
def loopN {α : Type} (f : Nat → α → α) : Nat → α → α
  | 0, s => s
  | k + 1, s => f k (loopN f k s)
end Go.Proofs.YtbenjjaofabdcaaGreatDoor
