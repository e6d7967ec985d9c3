/-
  paciolilaw02.Clash: are there two unlike ones that have one hash?
-/
import Derived.Test.YtgoidkenpfplfaaDoorTape
import Derived.Maps.StringElems
import Derived.Maps.Views
import Derived.DeepKeys4
namespace Go.Proofs.YtgoidkenpfplfaaDoor
open Go Go.RowKit
attribute [local go_sem] Oper.semAt_some

/-- Two unlike ones with one hash. -/
def Clash (bl : List (List UInt8)) : Prop := ∃ a ∈ bl, ∃ b ∈ bl, a ≠ b ∧ sha a = sha b
theorem law_hash : Maps.Keyed Tryd.prog 23 :=
  Maps.Keyed.of_law (deep_law_laid (m := 4) (by kernel_rfl) (by decide) (of_decide_eq_true (by kernel_rfl)) (by kernel_rfl) (by rw [Tryd.underlying23]))

variable {w0 : World} {n₀ : Nat}
def seenD (pre : List (It w0 n₀)) : DataW Unit := pre.foldl (fun D x => D.put (hashKey (sha x.1.2)) (.lit (.string x.1.2))) (.map [])
theorem seenD_snoc (pre : List (It w0 n₀)) (x : It w0 n₀) : seenD (pre ++ [x]) = (seenD pre).put (hashKey (sha x.1.2)) (.lit (.string x.1.2)) := by simp [seenD]

theorem fold_at (pre : List (It w0 n₀)) : ∀ (D : DataW Unit) (k : Lit), Maps.IsMap D → WideAt.IsKeyLit k →
    (∃ y ∈ pre, hashKey (sha y.1.2) = k ∧ Maps.has (pre.foldl (fun D x => D.put (hashKey (sha x.1.2)) (.lit (.string x.1.2))) D) k = true ∧ ∀ z, (pre.foldl (fun D x => D.put (hashKey (sha x.1.2)) (.lit (.string x.1.2))) D).atKey k z = .lit (.string y.1.2)) ∨
    ((∀ y ∈ pre, hashKey (sha y.1.2) ≠ k) ∧ Maps.has (pre.foldl (fun D x => D.put (hashKey (sha x.1.2)) (.lit (.string x.1.2))) D) k = Maps.has D k ∧ ∀ z, (pre.foldl (fun D x => D.put (hashKey (sha x.1.2)) (.lit (.string x.1.2))) D).atKey k z = D.atKey k z) := by
  induction pre with
  | nil => exact fun D k _ _ => .inr ⟨by simp, rfl, fun _ => rfl⟩
  | cons x r ih =>
    intro D k hD hk
    rcases ih (D.put (hashKey (sha x.1.2)) (.lit (.string x.1.2))) k (Maps.IsMap.put hD _ _) hk with ⟨y, hy, h1, h2, h3⟩ | ⟨h1, h2, h3⟩
    · exact .inl ⟨y, List.mem_cons_of_mem _ hy, h1, h2, h3⟩
    · by_cases he : hashKey (sha x.1.2) = k
      · subst he
        exact .inl ⟨x, List.mem_cons_self .., rfl, h2.trans (Maps.has_put_same hD hk _), fun z => (h3 z).trans (Maps.atKey_put_same hD hk _ z)⟩
      · exact .inr ⟨fun y hy => (List.mem_cons.1 hy).elim (fun e => e ▸ he) (h1 y), h2.trans (Maps.has_put_other (Ne.symm he) _), fun z => (h3 z).trans (Maps.atKey_put_other (Ne.symm he) _ z)⟩
/-- What the map tells of a hash. -/
theorem seen_at (pre : List (It w0 n₀)) (h : List UInt8) (hl : h.length = 32) :
    (∃ y ∈ pre, sha y.1.2 = h ∧ Maps.has (seenD pre) (hashKey h) = true ∧ ∀ z, (seenD pre).atKey (hashKey h) z = .lit (.string y.1.2)) ∨ ((∀ y ∈ pre, sha y.1.2 ≠ h) ∧ Maps.has (seenD pre) (hashKey h) = false) := by
  rcases fold_at pre (.map []) (hashKey h) ⟨[], rfl⟩ trivial with ⟨y, hy, h1, h2⟩ | ⟨h1, h2, _⟩
  · exact .inl ⟨y, hy, (hashKey_inj (sha_length _) hl).1 h1, h2⟩
  · exact .inr ⟨fun y hy e => h1 y hy (by rw [e]), h2⟩
section
variable {F : Fence} {nF : Nat}
theorem wpListIn_setH {ops : Array Oper} {rest : List Oper} {o : Oper} {a : Act} {w : World} {Q : Exit → Act → World → Prop} (hgd : o.guard = none) {x y : Operand} (ho : o.op = .store 23 x y) (g : Nat) (b : List UInt8)
    (hx : a.eval x = .pointer (some ⟨g, 0, none⟩)) (hy : a.eval y = .agg (bcs b).toArray) (hb : b.length = 32) (ht : w.there g 0 32)
    (h : ∀ w', Kp (fun k => k = g) w w' → w'.heap.size = w.heap.size → HAt w' g b → (∀ g', w.there g' 0 32 → w'.there g' 0 32) → wpListIn F nF Tryd.prog ops Q rest (a.put o.dst undef) w') : wpListIn F nF Tryd.prog ops Q (o :: rest) a w := by
  have hbs : Below g w (w.setCells g 0 (bcs b).toArray.toList) := below_setCells (Below.refl _ _) (Nat.le_refl _) _ _
  have h1 := h (w.setCells g 0 (bcs b).toArray.toList) ⟨hbs.os, hbs.tape, hbs.output, hbs.size, fun k hk hn => heap_setCells_ne _ _ _ _ hk hn⟩ (size_setCells ..) (store_hash hb ht) fun g' h' => World.there_setCells h' _ _ _
  refine wpListIn_plain hgd fun K' hK' => ?_
  unfold Oper.wpIn
  refine ⟨by simp [Oper.about, ho], ?_⟩
  rw [Oper.semAt_plain F _ _ (by rw [ho]; intro c hc'; cases hc')]
  have hrun := run_storeAt_mid (P := Tryd.prog) w g 0 23 (bcs b).toArray (there_of ht hb) (hsize' b hb) (bcs_all b)
  simp only [execOp, ho, hx, hy, Sem.run_bind, hrun, Result.andThen_ok]
  exact hK' _ _ h1
theorem wpListIn_getH {ops : Array Oper} {rest : List Oper} {o : Oper} {a : Act} {w : World} {Q : Exit → Act → World → Prop} (hgd : o.guard = none) {x : Operand} (ho : o.op = .load 23 x) (g : Nat) (b : List UInt8)
    (hx : a.eval x = .pointer (some ⟨g, 0, none⟩)) (hb : HAt w g b) (h : wpListIn F nF Tryd.prog ops Q rest (a.put o.dst (.agg (bcs b).toArray)) w) : wpListIn F nF Tryd.prog ops Q (o :: rest) a w := by
  refine wpListIn_plain hgd fun K' hK' => ?_
  unfold Oper.wpIn
  refine ⟨by simp [Oper.about, ho], ?_⟩
  rw [Oper.semAt_plain F _ _ (by rw [ho]; intro c hc'; cases hc')]
  have hrun := run_loadAt_mid (P := Tryd.prog) w g 0 23 (bcs b) _ hb.range Tryd.underlying23 rfl (hsize b hb.len)
  simp only [execOp, ho, hx, Sem.run_bind, hrun, Result.andThen_ok]
  exact hK' _ _ h
end
theorem zeroS (w : World) : (zeroValue 9).run Tryd.prog w = .ok (.string ⟨#[]⟩) w := by kernel_rfl
theorem conv_bs (w : World) (v : Value) (l : List UInt8) (h : Bs w v l) : (convert 47 9 v).run Tryd.prog w = .ok (.string ⟨l.toArray⟩) w := by
  rcases h with ⟨rfl, h1, h2⟩ | ⟨b, o, c, rfl, _, _, _, h⟩
  · obtain rfl : l = [] := List.length_eq_zero_iff.1 h1
    rw [run_convert_bytes_string w _ _ _ none 0 0 Tryd.underlying47 Tryd.underlying5 Tryd.underlying9]
    simp [Conv.bytesToString]
    rfl
  · refine run_convert_bytes_back w _ _ _ ⟨b, o, none⟩ c l Tryd.underlying47 Tryd.underlying5 Tryd.underlying9 fun j hj => ?_
    rw [Addr.add_mid]
    exact h j _ (by simp [bcs, hj, u8c])
theorem zeroS_reads : plainElem (H := Unit) Tryd.prog 9 (.string ⟨#[]⟩) = some (.lit (.string []), []) := by
  rw [plainElem_string Tryd.underlying9 (by decide)]
theorem results_bool {fn : Func} {p : Tmp} (h : fn.results = #[.cell p 4]) (tmps : Array Value) (w : World) (g : Nat) (r : Bool) (hp : tmps.getD p undef = .pointer (some ⟨g, 0, none⟩)) (hc : w.heap[g]? = some (.cells #[.bool r] 4 (0, 0))) :
    (results fn tmps).run Tryd.prog w = .ok (.bool r) w := by
  have hp' : tmps[p]?.getD undef = .pointer (some ⟨g, 0, none⟩) := by simpa using hp
  have c : w.cell? ⟨g, 0, none⟩ = some (.bool r) := cell_blk hc 0
  simp [results, h, hp', asAddr, go_sem, Tryd.underlying4, c]
set_option maxHeartbeats 1600000 in
set_option maxRecDepth 100000 in
theorem clash_in (E bt : Nat) (xs : List (It w0 n₀)) (vl : Value) (hE : EnvAt w0 E) (hn : n₀ = w0.heap.size) (hb : w0.cell? ⟨bt, 0, none⟩ = some vl) (hbt : bt < n₀) (hS : Sl w0 1 vl xs.length (xs.map (·.1.1))) (hv : ∀ k, vl.ownBlock = some k → k < n₀)
    (hlen : xs.length ≤ 1099511627776) :
    CallsIn Fence.wide 3 Tryd.prog 10 #[.pointer (some ⟨bt, 0, none⟩)] w0 fun e w' => (∃ r : Bool, e = .returned (.bool r) ∧ (r = true ↔ Clash (xs.map (·.1.2)))) ∧ Below w0.heap.size w0 w' := by
  have hmm := @run_makeMap Tryd.prog
  have HE := Lib.hid hE
  have HB := Lib.hid hb
  have HS := Lib.hid hS
  have HV := Lib.hid hv
  clear hE hb hS hv
  refine callsIn_of_wp_marks Tryd.func10 rfl trivial ?_ rfl
  simp only [Tryd.ntmps10, List.size_toArray, List.length_cons, List.length_nil, Nat.reduceAdd, Nat.reduceSub, Array.replicate_succ, Array.replicate_zero, List.push_toArray, List.append_toArray, List.nil_append, List.cons_append]
  gi_wp2
  subst hn
  obtain ⟨g, hg⟩ : ∃ g, g = w0.heap.size := ⟨_, rfl⟩
  have bB : Below w0.heap.size w0 (((w0.alloc (Obj.cells #[Value.bool false] 4)).alloc (Obj.map #[] 0)).alloc (Obj.cells #[Value.map (some (w0.heap.size + 1))] 76)) :=
    (((Below.refl _ w0).alloc (Nat.le_refl _) _).alloc (by simp) _).alloc (by simp; omega) _
  have hm0 := World.ownsMap_made (H := Unit) (w0.alloc (Obj.cells #[Value.bool false] 4)) Tryd.prog 23 (plainElem (H := Unit) Tryd.prog 9)
  have c0 : (((w0.alloc (Obj.cells #[Value.bool false] 4)).alloc (Obj.map #[] 0)).alloc (Obj.cells #[Value.map (some (w0.heap.size + 1))] 76)).heap[w0.heap.size]? = some (.cells #[.bool false] 4 (0, 0)) :=
    (Below.heap_alloc _ _ _ (by simp; omega)).trans ((Below.heap_alloc _ _ _ (by simp)).trans (World.alloc_heap_new w0 _))
  have c2 := World.alloc_heap_new ((w0.alloc (Obj.cells #[Value.bool false] 4)).alloc (Obj.map #[] 0)) (Obj.cells #[Value.map (some (w0.heap.size + 1))] 76)
  have s3 : (((w0.alloc (Obj.cells #[Value.bool false] 4)).alloc (Obj.map #[] 0)).alloc (Obj.cells #[Value.map (some (w0.heap.size + 1))] 76)).heap.size = w0.heap.size + 1 + 1 + 1 := by simp
  rw [show ((w0.alloc (Obj.cells #[Value.bool false] 4)).alloc (Obj.map #[] 0)).heap.size = w0.heap.size + 1 + 1 by simp] at c2
  have hm := hm0.alloc (Obj.cells #[Value.map (some (w0.heap.size + 1))] 76)
  rw [show (w0.alloc (Obj.cells #[Value.bool false] 4)).heap.size = w0.heap.size + 1 by simp] at hm
  generalize ((w0.alloc (Obj.cells #[Value.bool false] 4)).alloc (Obj.map #[] 0)).alloc (Obj.cells #[Value.map (some (w0.heap.size + 1))] 76) = wl at *
  clear hm0
  have hg0 : ∀ {W : World}, W.heap[w0.heap.size]? = some (.cells #[.bool false] 4 (0, 0)) → W.cell? ⟨w0.heap.size, 0, none⟩ = some (.bool false) ∧ W.frozen? ⟨w0.heap.size, 0, none⟩ = false := fun h => ⟨cell_blk h 0, by simp [World.frozen?, h]⟩
  have C0 := Lib.hid c0
  have C2 := Lib.hid c2
  have HM := Lib.hid hm
  have BB := Lib.hid bB
  clear c0 c2 hm bB hmm
  have hseq := tape_all (w0 := w0) (n₀ := w0.heap.size) Fence.wide 2 trivial rfl (by decide) bt xs wl vl ((BB.out.cell (p := ⟨bt, 0, none⟩) hbt).trans HB.out) hbt (HS.out.below BB.out) HV.out (by omega) hlen
  refine wpIn_rangeMethod rfl (by decide) (gf := 23) (fa := #[.pointer (some ⟨bt, 0, none⟩)]) rfl trivial (enters_of Tryd.func23 (by kernel_rfl) rfl) (by omega) hseq (fun _ => rfl)
    (fun pre W => W.heap[w0.heap.size]? = some (.cells #[.bool false] 4 (0, 0)) ∧ W.heap[w0.heap.size + 1 + 1]? = some (.cells #[.map (some (w0.heap.size + 1))] 76 (0, 0)) ∧
      W.ownsMap Tryd.prog 23 (plainElem (H := Unit) Tryd.prog 9) (w0.heap.size + 1) pre.length (seenD pre) ∧ Below w0.heap.size w0 W ∧ ¬ Clash (pre.map (·.1.2)))
    (fun c pre W => c = .ret ∧ W.heap[w0.heap.size]? = some (.cells #[.bool true] 4 (0, 0)) ∧ Below w0.heap.size w0 W ∧ Clash (pre.map (·.1.2)))
    ?hI ?hIx ⟨C0.out, C2.out, HM.out, BB.out, by rintro ⟨a, ha, _⟩; simp at ha⟩
    (fun x => { tmps := #[.pointer (some ⟨bt, 0, none⟩), undef, .pointer (some ⟨w0.heap.size, 0, none⟩), .pointer (some ⟨w0.heap.size + 1 + 1, 0, none⟩), x.1.1, undef, undef, undef,
        .map (some (w0.heap.size + 1)), .pointer (some ⟨bt, 0, none⟩), .func (.func 23) #[.pointer (some ⟨bt, 0, none⟩)] #[], x.1.1, undef, undef, undef, undef, undef, undef, undef, undef, undef, undef, undef, undef, undef, undef, undef, undef, undef, undef, undef, undef], defers := [] })
    ?assign ?body ?done ?stop
  case hI =>
    rintro pre A B' row ⟨q1, q2, q3, q4, q5⟩ hg' hr
    have hne : ∀ k, k < wl.heap.size → some k ≠ row := fun k hk e => by have := (hr k e.symm).1; omega
    refine ⟨(hg'.block _ (Array.getElem?_eq_some_iff.1 q1).1 (hne _ (by omega))).trans q1, (hg'.block _ (Array.getElem?_eq_some_iff.1 q2).1 (hne _ (by omega))).trans q2, q3.kept hg' (hne _ (by omega)),
      q4.grown hg' q4.size (fun k e => ?_), q5⟩
    have := (hr k e).1
    omega
  case hIx =>
    rintro c pre A B' row ⟨q1, q2, q4, q5⟩ hg' hr
    have hne : ∀ k, k < wl.heap.size → some k ≠ row := fun k hk e => by have := (hr k e.symm).1; omega
    refine ⟨q1, (hg'.block _ (Array.getElem?_eq_some_iff.1 q2).1 (hne _ (by omega))).trans q2, q4.grown hg' q4.size (fun k e => ?_), q5⟩
    have := (hr k e).1
    omega
  case assign =>
    rintro l ⟨⟨xv, xb⟩, h1, h2, h3⟩ W K hK
    gi_wp2
    exact hK
  case body =>
    rintro l pre x W ⟨i0, i2, im, ib, ic⟩ hlen
    obtain ⟨h1, h2, h3⟩ := x.2
    obtain ⟨af, cf, hxf⟩ := Sl.form h1
    have hBs : Bs W x.1.1 x.1.2 := Sl.below h1 ib
    obtain ⟨nx, hnx⟩ : ∃ nx, nx = x.1.2.length := ⟨_, rfl⟩
    rw [← hnx] at hxf
    rw [hxf] at hBs ⊢
    have HXF := Lib.hid hxf
    clear hxf
    have hp1 := parts_one W 47 _ _ hBs
    have HP1 := Lib.hid hp1
    have HX := Lib.hid hnx
    have hgW : Below W.heap.size W (W.alloc (.cells #[Value.slice af nx cf] 47)) := (Below.refl _ _).alloc (Nat.le_refl _) _
    have HEW := Lib.hid (HE.out.below (ib.trans (hgW.mono ib.size)) HE.out.le)
    have I0 := Lib.hid i0
    have I2 := Lib.hid i2
    have IM := Lib.hid im
    have IC := Lib.hid ic
    have H1 := Lib.hid h1
    have H2 := Lib.hid h2
    have HBS := Lib.hid hBs
    clear hp1 hnx i0 i2 im ic h1 h2 hBs
    gi_wp2_with (refine ⟨trivial, ?_⟩; gi_at_call 19; refine (CallsIn.inRound l (callsIn_wide.2 (of_nil _ _ [x.1.2] HEW.out.sha HP1.out ?z1 ?z2))).mono ?_)
    case z1 => simpa using h3
    case z2 => simp
    have hflat : ([x.1.2] : List (List UInt8)).flatten = x.1.2 := by simp
    rw [hflat]
    rintro e w2 ⟨rfl, hb2⟩
    have hb2' : Below W.heap.size W w2 := hgW.trans (hb2.mono hgW.size)
    have hs2 := hb2'.size
    have j0 : w2.heap[w0.heap.size]? = some (.cells #[.bool false] 4 (0, 0)) := (hb2'.block _ (Array.getElem?_eq_some_iff.1 I0.out).1).trans I0.out
    have j2 : w2.heap[w0.heap.size + 1 + 1]? = some (.cells #[.map (some (w0.heap.size + 1))] 76 (0, 0)) := (hb2'.block _ (Array.getElem?_eq_some_iff.1 I2.out).1).trans I2.out
    have hW3 : w0.heap.size + 1 + 1 < W.heap.size := (Array.getElem?_eq_some_iff.1 I2.out).1
    have jm := IM.out.kept (grown_of_below hb2' none) (by simp)
    have jb : Bs w2 (.slice af nx cf) x.1.2 := HBS.out.below hb2'
    have h32 : (sha x.1.2).length = 32 := sha_length _
    obtain ⟨h, hh⟩ : ∃ h, h = sha x.1.2 := ⟨_, rfl⟩
    rw [← hh] at h32 ⊢
    have HH := Lib.hid hh
    have HB2 := Lib.hid hb2'
    obtain ⟨n1, n2, n3⟩ := new_hash w2
    have N1 := Lib.hid n1
    have N2 := Lib.hid n2
    have J0 := Lib.hid j0
    have J2 := Lib.hid j2
    have JM := Lib.hid jm
    have JB := Lib.hid jb
    clear hh hb2 hb2' n1 n2 n3 I0 I2 IM HBS HP1 HEW hgW hflat j0 j2 jm jb
    unfold hv
    gi_wp2_with (refine wpListIn_setH rfl rfl w2.heap.size h rfl rfl h32 N1.out ?_)
    rintro w3 k1 k2 k3 -
    have b3 := k1.ex N2.out (by rintro k rfl; exact Nat.le_refl _)
    clear k1 N1 N2
    have j0 := Lib.hid ((b3.block _ (by omega)).trans J0.out)
    have j2 := (b3.block (w0.heap.size + 1 + 1) (by omega)).trans J2.out
    have c2 : w3.cell? ⟨w0.heap.size + 1 + 1, 0, none⟩ = some (.map (some (w0.heap.size + 1))) := cell_blk j2 0
    have j2 := Lib.hid j2
    have jm := JM.out.kept (grown_of_below b3 none) (by simp)
    have jb := Lib.hid (JB.out.below b3)
    have B3 := Lib.hid (HB2.out.trans (b3.mono (by omega)))
    clear b3 J0 J2 JM JB HB2
    have hcv := conv_bs w3 _ _ jb.out
    cases hsn : Maps.has (seenD pre) (hashKey h)
    · have HSN := Lib.hid hsn
      have JM := Lib.hid jm
      clear hsn jm
      gi_wp2_with (first | refine wpListIn_getH rfl rfl w2.heap.size h rfl k3 ?_ | (gi_at_lookup; refine wpListIn_lookup_own_ok _ rfl _ _ 76 rfl 23 9 law_hash Tryd.underlying76 _ (zeroS _) (.lit (.string [])) [] zeroS_reads (w0.heap.size + 1) pre.length (seenD pre) rfl JM.out _ (hashKey h) rfl (keyOf_hv h h32) ?_; intro v ps hv; obtain ⟨s, rfl, hz, hs⟩ := plainElem_string_inv Tryd.underlying9 hv; rw [HSN.out]) | (gi_at_mapUpdate; refine wpListIn_mapUpdate_own _ rfl _ _ _ 76 rfl 23 9 law_hash Tryd.underlying76 _ (w0.heap.size + 1) pre.length _ rfl JM.out (by unfold maxLen; omega) _ _ (hashKey h) rfl rfl (keyOf_hv h h32) _ [] (plainElem_string Tryd.underlying9 (by show x.1.2.toArray.size ≤ maxLen; unfold maxLen; simp; omega)) ?_; intro w4 hown4 hgr4) | fail)
      have hno : ∀ y ∈ pre, sha y.1.2 ≠ h := by
        rcases seen_at pre h h32 with ⟨y, _, _, h2, _⟩ | ⟨h1, _⟩
        · rw [HSN.out] at h2; cases h2
        · exact h1
      have hlt3 : w0.heap.size + 1 + 1 < w3.heap.size := by have := B3.out.size; omega
      have b4 : Below w0.heap.size W w4 := (B3.out.mono ib.size).trans ((Below.refl _ w3).grown hgr4 (by omega) (fun k e => by cases e; omega))
      refine ⟨KeepsFrom.trans ⟨B3.out.size, fun k o _ hk _ => (B3.out.block k (Array.getElem?_eq_some_iff.1 hk).1).trans hk⟩ (KeepsFrom.of_grownBy hgr4 (fun j e => by cases e; omega)), b4,
        (hgr4.block _ (by omega) (by simp)).trans j0.out, (hgr4.block _ hlt3 (by simp)).trans j2.out, ?_, ib.trans b4, ?_⟩
      · rw [seenD_snoc, List.length_append, ← HH.out]
        exact hown4
      · rintro ⟨a, ha, b, hb', hne, hab⟩
        rw [List.map_append, List.mem_append] at ha hb'
        simp only [List.map_cons, List.map_nil, List.mem_singleton] at ha hb'
        rcases ha with ha | rfl <;> rcases hb' with hb' | rfl
        · exact IC.out ⟨a, ha, b, hb', hne, hab⟩
        · obtain ⟨y, hy, rfl⟩ := List.mem_map.1 ha
          exact hno y hy (hab.trans HH.out.symm)
        · obtain ⟨y, hy, rfl⟩ := List.mem_map.1 hb'
          exact hno y hy (hab.symm.trans HH.out.symm)
        · exact hne rfl
    · obtain ⟨y, hy, hyh, -, hat⟩ : ∃ y ∈ pre, sha y.1.2 = h ∧ Maps.has (seenD pre) (hashKey h) = true ∧ ∀ z, (seenD pre).atKey (hashKey h) z = .lit (.string y.1.2) := by
        rcases seen_at pre h h32 with h1 | ⟨_, h2⟩
        · exact h1
        · rw [hsn] at h2; cases h2
      have HSN := Lib.hid hsn
      have JM := Lib.hid jm
      have HAT := Lib.hid hat
      have HYH := Lib.hid hyh
      clear hsn jm hat hyh
      have cT : w3.cell? ⟨w0.heap.size, 0, none⟩ = some (.bool false) := cell_blk j0.out 0
      have fT : w3.frozen? ⟨w0.heap.size, 0, none⟩ = false := (hg0 j0.out).2
      by_cases hyx : y.1.2 = x.1.2
      · rw [hyx] at HAT
        have HYX := Lib.hid hyx
        clear hyx
        gi_wp2_with (first | refine wpListIn_getH rfl rfl w2.heap.size h rfl k3 ?_ | (gi_at_lookup; refine wpListIn_lookup_own_ok _ rfl _ _ 76 rfl 23 9 law_hash Tryd.underlying76 _ (zeroS _) (.lit (.string [])) [] zeroS_reads (w0.heap.size + 1) pre.length (seenD pre) rfl JM.out _ (hashKey h) rfl (keyOf_hv h h32) ?_; intro v ps hv; obtain ⟨s, rfl, hz, hs⟩ := plainElem_string_inv Tryd.underlying9 hv; rw [HSN.out]; obtain rfl : s = ⟨x.1.2.toArray⟩ := by (rw [HAT.out] at hz; simp at hz; cases s; simp_all)) | (gi_at_mapUpdate; refine wpListIn_mapUpdate_own _ rfl _ _ _ 76 rfl 23 9 law_hash Tryd.underlying76 _ (w0.heap.size + 1) pre.length _ rfl JM.out (by unfold maxLen; omega) _ _ (hashKey h) rfl rfl (keyOf_hv h h32) _ [] (plainElem_string Tryd.underlying9 (by show x.1.2.toArray.size ≤ maxLen; unfold maxLen; simp; omega)) ?_; intro w4 hown4 hgr4) | fail)
        have hlt3 : w0.heap.size + 1 + 1 < w3.heap.size := by have := B3.out.size; omega
        have b4 : Below w0.heap.size W w4 := (B3.out.mono ib.size).trans ((Below.refl _ w3).grown hgr4 (by omega) (fun k e => by cases e; omega))
        refine ⟨KeepsFrom.trans ⟨B3.out.size, fun k o _ hk _ => (B3.out.block k (Array.getElem?_eq_some_iff.1 hk).1).trans hk⟩ (KeepsFrom.of_grownBy hgr4 (fun j e => by cases e; omega)), b4,
          (hgr4.block _ (by omega) (by simp)).trans j0.out, (hgr4.block _ hlt3 (by simp)).trans j2.out, ?_, ib.trans b4, ?_⟩
        · rw [seenD_snoc, List.length_append, ← HH.out]
          exact hown4
        · have hin : ∀ a ∈ (pre ++ [x]).map (·.1.2), a ∈ pre.map (·.1.2) := fun a ha => by
            rw [List.map_append, List.mem_append] at ha
            rcases ha with ha | ha
            · exact ha
            · simp only [List.map_cons, List.map_nil, List.mem_singleton] at ha
              rw [ha, ← HYX.out]
              exact List.mem_map.2 ⟨y, hy, rfl⟩
          rintro ⟨a, ha, b, hb', hne, hab⟩
          exact IC.out ⟨a, hin a ha, b, hin b hb', hne, hab⟩
      · have hne : (y.1.2 == x.1.2) = false := by simpa using hyx
        have HYX := Lib.hid hyx
        clear hyx
        gi_wp2_with (first | refine wpListIn_getH rfl rfl w2.heap.size h rfl k3 ?_ | (gi_at_lookup; refine wpListIn_lookup_own_ok _ rfl _ _ 76 rfl 23 9 law_hash Tryd.underlying76 _ (zeroS _) (.lit (.string [])) [] zeroS_reads (w0.heap.size + 1) pre.length (seenD pre) rfl JM.out _ (hashKey h) rfl (keyOf_hv h h32) ?_; intro v ps hv; obtain ⟨s, rfl, hz, hs⟩ := plainElem_string_inv Tryd.underlying9 hv; rw [HSN.out]; obtain rfl : s = ⟨y.1.2.toArray⟩ := by (rw [HAT.out] at hz; simp at hz; cases s; simp_all)) | fail)
        exact ⟨KeepsFrom.trans ⟨B3.out.size, fun k o _ hk _ => (B3.out.block k (Array.getElem?_eq_some_iff.1 hk).1).trans hk⟩ ((KeepsOthers.setCell _ _ _).from _), rfl, heap_setCell_same w3 w0.heap.size 0 _ _ _ j0.out,
          below_set (ib.trans (B3.out.mono ib.size)) 0 _, y.1.2, List.mem_map.2 ⟨y, List.mem_append_left _ hy, rfl⟩, x.1.2, by simp, HYX.out, HYH.out.trans HH.out⟩
  case done =>
    rintro D ys W hD rfl ⟨i0, i2, im, ib, ic⟩ hK
    have cT : W.cell? ⟨w0.heap.size, 0, none⟩ = some (.bool false) := cell_blk i0 0
    have fT : W.frozen? ⟨w0.heap.size, 0, none⟩ = false := (hg0 i0).2
    have I0 := Lib.hid i0
    have IC := Lib.hid ic
    have HK := Lib.hid hK
    clear i0 i2 im ic hK
    gi_wp2
    have hDl : D < W.heap.size := (Array.getElem?_eq_some_iff.1 HK.out).1
    have k2 : (W.setCell ⟨w0.heap.size, 0, none⟩ (.bool false)).heap[D]? = some (.deferred (some [])) := (Below.heap_setCell W ⟨w0.heap.size, 0, none⟩ (.bool false) D (by show D ≠ w0.heap.size; omega)).trans HK.out
    have i2 := heap_setCell_same W w0.heap.size 0 _ _ (.bool false) I0.out
    refine ⟨by simp, .inl ⟨_, _, rfl, run_takeDeferred k2, ?_⟩⟩
    refine ⟨.bool false, results_bool rfl _ _ w0.heap.size false rfl ((World.putObj_heap_other (by omega)).trans i2), ⟨false, rfl, ⟨(fun h => by cases h), fun h => absurd h IC.out⟩⟩, ?_⟩
    exact (below_set ib 0 _).trans (belowK_b (w := wl) (by omega) _ D _ _ (by omega) k2 rfl rfl)
  case stop =>
    rintro D c pre W hD hSp ⟨rfl, i0, ib, ic⟩ hK
    have HK := Lib.hid hK
    clear hK
    gi_wp2
    refine ⟨by simp, .inl ⟨_, _, rfl, run_takeDeferred HK.out, ?_⟩⟩
    refine ⟨.bool true, results_bool rfl _ _ w0.heap.size true rfl ((World.putObj_heap_other (by omega)).trans i0), ⟨true, rfl, ⟨fun _ => ?_, fun _ => rfl⟩⟩, ?_⟩
    · obtain ⟨a, ha, b, hb', hne, hab⟩ := ic
      obtain ⟨t, rfl⟩ := hSp
      exact ⟨a, by rw [List.map_append]; exact List.mem_append_left _ ha, b, by rw [List.map_append]; exact List.mem_append_left _ hb', hne, hab⟩
    · exact ib.trans (belowK_b (w := wl) (by omega) _ D _ _ (by omega) HK.out rfl rfl)
end Go.Proofs.YtgoidkenpfplfaaDoor
