/-
  What all rows of this seat share: the tables, out of what the row lists; a law's end, where memory has only grown; a world for the witness.
-/
import Derived.Test.YtbenjjaofabdcaaGreatDoorCards
import Derived.Test.YtbenjjaofabdcaaGreatDoorTie
import Derived.Test.YtbenjjaofabdcaaGreatDoorDig
import Derived.Deep.DeepHandedRow
import Derived.Deep.DeepWitnessRowRef
import Derived.ProofKit
import Derived.OpenShut
import Derived.Carry
import Derived.Lib.LaidPrint
namespace Go.Proofs.YtbenjjaofabdcaaGreatDoor
open Go Go.RowKit Go.WideShapes Go.ChangeShapes Go.ChangeAt

theorem own : ownKnob Tryz.prog.godebug = none := by kernel_rfl
set_option maxRecDepth 100000 in
theorem mark_of {w : World} {name : String} {g : Nat} {x : UInt8} (hn : Tryz.prog.globalNamed name = some g) (hy : (Tryz.prog.globals[g]?).map (·.type) = some 26) (h : Lib.VarReads Tryz.prog w name (.slice [.lit (.int .u8 x.toNat)] [])) : MarkAt w w.heap.size g x := by
  have hc : Tryz.prog.cellsOf 5 = 1 := by kernel_rfl
  obtain ⟨g', t', cs, fuel, p, hg, hty, hvar, hd⟩ := h
  obtain rfl := Option.some.inj (hn.symm.trans hg)
  obtain rfl := Option.some.inj (hy.symm.trans hty)
  rcases DataW.trod_slice Tryz.underlying26 hd with ⟨_, hx⟩ | ⟨a, len, cap, el, rs, m, rfl, hcs, hx, _, hlc, hcm, hel, helem, _, _⟩
  · cases hx
  have e0 := congrArg Prod.fst hx
  simp only [DataW.slice.injEq] at e0
  obtain ⟨eE, -⟩ := e0
  have hlen : len = 1 := by
    have := congrArg List.length eE
    simp at this
    omega
  subst hlen
  have hcell : w.cell? a = some (u8c x) := by
    have h1 := helem 0 (by omega)
    rw [hc] at h1
    obtain ⟨b, hb⟩ : ∃ b, el[0]? = some b := ⟨el[0]'(by omega), List.getElem?_eq_getElem (by omega)⟩
    rw [hb] at h1
    obtain ⟨ce, hce, hte⟩ := Option.bind_eq_some_iff.1 h1
    obtain ⟨z, hz, hbz, _⟩ := DataW.trod_int Tryz.underlying5 hte
    have hb1 : b.1 = .lit (.int .u8 x.toNat) := by
      have := congrArg (·[0]?) eE
      simp [hb] at this
      exact this.symm
    rw [hbz] at hb1
    simp only [DataW.lit.injEq, Lit.int.injEq, true_and] at hb1
    obtain ⟨_, _, hcc⟩ := World.cells?_some hce
    have := hcc 0 (by omega)
    rw [hz] at this
    have e1 : ((a.add (0 * 1)).add 0) = a := by simp [Addr.add]
    rw [e1] at this
    rw [this, hb1]
    rfl
  obtain ⟨R, o, sR⟩ := a
  obtain rfl : sR = none := Go.Proofs.cell_spot hcell
  have hg0 : w.cell? ⟨g, 0, none⟩ = some (.slice (some ⟨R, o, none⟩) 1 cap) := by
    rw [World.var?_cell hg hvar 0, ← Array.getElem?_toList, hcs]
    rfl
  refine ⟨⟨_, hg0, .inr ⟨R, o, cap, rfl, hlc, hcm, rfl, fun j v hv => ?_⟩, fun k hk => ?_⟩, block_lt_of_cell hg0⟩
  · have hj : j = 0 := by have := (List.getElem?_eq_some_iff.1 hv).1; simp [bcs] at this; omega
    subst hj
    simp [bcs] at hv
    subst hv
    simpa using hcell
  · cases hk
    exact block_lt_of_cell hcell
theorem tab_of {w : World} {name : String} {g : Nat} {t : TypeId} {n : Nat} {zs : List Int} (hg : Tryz.prog.globalNamed name = some g) (hty : (Tryz.prog.globals[g]?).map (·.type) = some t) (ht : Tryz.prog.underlying t = some (.array n 106)) (hct : Tryz.prog.cellsOf t = n)
    (h : Lib.VarReads Tryz.prog w name (Lib.tabData .u32 zs)) (i : Nat) (hi : i < zs.length) : w.cell? ⟨g, i, none⟩ = some (.int .u32 (zs.getD i 0)) := by
  have hc : Tryz.prog.cellsOf 106 = 1 := by kernel_rfl
  obtain ⟨g', t', cs, fuel, p, hg', hty', hvar, hd⟩ := h
  obtain rfl := Option.some.inj (hg.symm.trans hg')
  obtain rfl := Option.some.inj (hty.symm.trans hty')
  have h1 : Lib.TabIs Tryz.prog w name .u32 zs := by
    unfold Lib.TabIs
    rw [hvar, ← Lib.cells_of_tab ht Tryz.underlying106 hc hct hd]
  exact h1.cell hg i hi
set_option maxRecDepth 100000 in
theorem envS_of {w : World} {l : List (String × DataW Unit)} (h : laidMet Tryz.prog l w) (h1 : ("pacioli/sha.rounds", Rows.laid_pacioli_sha_rounds) ∈ l) (h2 : ("pacioli/sha.start", Rows.laid_pacioli_sha_start) ∈ l)
    (h4 : ("pacioli/state.noneMark", Rows.laid_pacioli_state_noneMark) ∈ l) : EnvS w w.heap.size := by
  have hr := tab_of (g := 1) (n := 64) (zs := kList) (by kernel_rfl) (by kernel_rfl) Tryz.underlying149 (by kernel_rfl) (Lib.laidMet.reads h h1)
  have hs := tab_of (g := 0) (n := 8) (zs := hList) (by kernel_rfl) (by kernel_rfl) Tryz.underlying107 (by kernel_rfl) (Lib.laidMet.reads h h2)
  exact ⟨⟨hr, hs⟩, Nat.le_refl _, block_lt_of_cell (hr 0 (by decide)), block_lt_of_cell (hs 0 (by decide)), mark_of (by kernel_rfl) (by kernel_rfl) (Lib.laidMet.reads h h4)⟩
set_option maxRecDepth 100000 in
theorem env_of {w : World} {l : List (String × DataW Unit)} (h : laidMet Tryz.prog l w) (h1 : ("pacioli/sha.rounds", Rows.laid_pacioli_sha_rounds) ∈ l) (h2 : ("pacioli/sha.start", Rows.laid_pacioli_sha_start) ∈ l)
    (h3 : ("pacioli/digest.mark", Rows.laid_pacioli_digest_mark) ∈ l) (h4 : ("pacioli/state.noneMark", Rows.laid_pacioli_state_noneMark) ∈ l) : EnvAt w w.heap.size :=
  ⟨envS_of h h1 h2 h4, mark_of (by kernel_rfl) (by kernel_rfl) (Lib.laidMet.reads h h3)⟩

section
variable {H : Type} {enc : TypeId × Value → H} {P : Program}
theorem trodAll_below (hl : laidOutB P = true) {W W' : World} (hb : Below W.heap.size W W') : ∀ (ts : List TypeId) (vs : List Value) (ds : List (DataW H)) (ps : List MemPlace), (∀ t ∈ ts, P.readableRec t = true ∧ t < P.types.size) →
    DataW.TrodAll enc P W 0 (fun _ => true) true ts vs ds ps → (∀ x ∈ ps, x.block < W.heap.size) → DataW.TrodAll enc P W' 0 (fun b => decide (b < W.heap.size)) true ts vs ds ps
  | [], vs, ds, ps, _, h, _ => by
    obtain ⟨rfl, rfl, rfl⟩ := trodAll_nil h
    exact trodAll_mk0
  | t :: ts, vs, ds, ps, hr, h, hlt => by
    obtain ⟨v, vs', d, ds', p, q, rfl, rfl, rfl, h1, h2⟩ := trodAll_cons h
    exact trodAll_cons_mk (Below.trod hl (hr t (by simp)).1 (hr t (by simp)).2 h1 hb fun x hx => hlt x (by simp [hx])) (trodAll_below hl hb ts vs' ds' q (fun u hu => hr u (by simp [hu])) h2 fun x hx => hlt x (by simp [hx]))
/-- A law's end: it says true, and memory has only grown. -/
theorem law_post {f : Func} {s : ChangeSpec} {W W' : World} {args : Array Value} {ds gs : List (DataW H)} {before : List MemPlace} {tb : TypeId} (hl : laidOutB P = true) (hr : (f.params.toList.all fun t => P.readableRec t && decide (t < P.types.size)) = true)
    (hW : DataW.Whole enc P f.params.toList s.vars false W args.toList ds gs before) (hv : s.vars = []) (hs : s.fn H ds = { results := [.lit (.bool true)], args := ds }) (hrt : f.resultTypes = #[tb]) (ht : P.underlying tb = some .bool)
    (hb : Below W.heap.size W W') : s.post enc P f false true false false W args (.bool true) W' := by
  have hW' := hW
  obtain ⟨p, q, hA, hV, rfl, _, _⟩ := hW
  have hV0 : DataW.TrodVars enc P W (fun _ => true) [] gs q := by rw [← hv]; exact hV
  obtain ⟨rfl, rfl⟩ := trodVars_none hV0
  have hlt : ∀ x ∈ p ++ [], x.block < W.heap.size := fun x hx => hW'.lt x hx
  refine ⟨ds, [], p ++ [], [], p, [], hW', ?_, ?_, ?_, World.keptBut_mono (fun x hx => ⟨hx, .inr (.inl (by simpa using hx))⟩) (hb.frame (· ∈ p ++ [])), fun h => by cases h⟩
  · rw [List.append_nil, hs, hrt]
    exact trodAll_cons_mk (shut_bool ht _) trodAll_mk0
  · rw [List.append_nil, hs]
    refine trodAll_below hl hb _ _ _ _ (fun t ht => ?_) hA fun x hx => hlt x (by simpa using hx)
    have := List.all_eq_true.1 hr t ht
    simpa using this
  · rw [List.append_nil, hs, hv]
    rfl
end
/-- A world for the witness: the settled one, and what the initialisers lay. -/
noncomputable def laidWorld (os : Os) : World :=
  let N := (World.settled Tryz.prog os).heap.size
  let m (x : Int) : Obj := .cells #[.int .u8 x] 5
  let w0 := World.holding Tryz.prog os ⟨#[m 0, m 1, m 2, m 3, m 4, m 5], #[], []⟩
  let put (h : Array Obj) (g : Nat) (cs : Array Value) : Array Obj := h.modify g fun
    | .cells _ t frozen => .cells cs t frozen
    | o => o
  let s (k : Nat) : Array Value := #[.slice (some ⟨N + k, 0, none⟩) 1 1]
  let h0 := put w0.heap 1 (kList.map fun z => Value.int .u32 z).toArray
  let h1 := put h0 0 (hList.map fun z => Value.int .u32 z).toArray
  let h2 := put h1 7 (s 0)
  let h3 := put h2 4 (s 1)
  let h4 := put h3 6 (s 2)
  let h5 := put h4 2 (s 3)
  let h6 := put h5 5 (s 4)
  let h7 := put h6 3 (s 5)
  { w0 with heap := h7 }
end Go.Proofs.YtbenjjaofabdcaaGreatDoor
