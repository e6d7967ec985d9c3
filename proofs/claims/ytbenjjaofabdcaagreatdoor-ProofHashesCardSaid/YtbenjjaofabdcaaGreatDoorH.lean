/-
  history: leaves, nodes, roots; a tape (or none) as a piece of memory.
-/
import Derived.Test.YtbenjjaofabdcaaGreatDoorCom
import Derived.Test.YtbenjjaofabdcaaGreatDoorU
namespace Go.Proofs.YtbenjjaofabdcaaGreatDoor
open Go Go.RowKit

/-- What the tables hold, the other marks too. -/
structure EnvB (w : World) (E : Nat) : Prop where
  a : EnvS w E
  hleaf : MarkAt w E 7 0
  hnode : MarkAt w E 4 1
  sleaf : MarkAt w E 6 2
  sfork : MarkAt w E 2 3
theorem EnvB.keep {w w' : World} {E : Nat} (h : EnvB w E) (hs : w.heap.size ≤ w'.heap.size) (hb : ∀ k, k < E → w'.heap[k]? = w.heap[k]?) : EnvB w' E :=
  ⟨h.a.keep hs hb, h.hleaf.keep hb, h.hnode.keep hb, h.sleaf.keep hb, h.sfork.keep hb⟩
theorem EnvB.kp {S : Nat → Prop} {w w' : World} {E : Nat} (h : EnvB w E) (hb : Kp S w w') (hE : ∀ k, S k → E ≤ k) : EnvB w' E := h.keep hb.size fun k hk => hb.block k (by have := h.a.le; omega) fun hs => by have := hE k hs; omega
theorem EnvB.le {w : World} {E : Nat} (h : EnvB w E) : E ≤ w.heap.size := h.a.le
/-- A tape or none, as a piece of memory. -/
def tpA (F : Nat → Prop) (t : Value) (bl : List (List UInt8)) : Asn where
  fp := F
  holds w := Tp w F t bl ∧ ∀ k, F k → k < w.heap.size
  loc {w w'} h hk := by
    refine ⟨?_, fun k hF => ?_⟩
    · rcases h.1 with h1 | ⟨bt, h1, h2⟩
      · exact .inl h1
      · exact .inr ⟨bt, h1, h2.loc hk⟩
    · have h5 := h.2 k hF
      have h6 := hk k hF
      rw [Array.getElem?_eq_getElem h5] at h6
      exact (Array.getElem?_eq_some_iff.1 h6).1
  lt h := h.2
theorem tpA_nil (w : World) (bl : List (List UInt8)) : (tpA (fun _ => False) (.pointer none) bl).holds w := ⟨.inl rfl, fun _ h => h.elim⟩
/-- What a call that may note something comes to. -/
def TPost (F : Nat → Prop) (t : Value) (bl : List (List UInt8)) (v : Value) (w : World) (e : Ending) (w' : World) : Prop :=
  e = .returned v ∧ ∃ F', Kp F w w' ∧ (tpA F' t bl).holds w' ∧ ∀ k, F' k → F k ∨ w.heap.size ≤ k
theorem of_tp (w : World) (E : Nat) (F : Nat → Prop) (t : Value) (bl : List (List UInt8)) (hT : (tpA F t bl).holds w) (hF : ∀ k, F k → E ≤ k) (hbl : bl.length ≤ 1099511627776) (hE : EnvS w E) (v : Value) (ps : List (List UInt8)) (hp : Parts w v ps)
    (hlen : ps.flatten.length ≤ 1099511627776) (hn : ps.length ≤ 1099511627776) : Calls Tryz.prog 11 #[t, v] w (TPost F t (bl ++ [ps.flatten]) (hv (sha ps.flatten)) w) := by
  rcases hT.1 with rfl | ⟨bt, rfl, h⟩
  · refine (of_nil w v ps hE.sha hp hlen hn).mono ?_
    rintro e w' ⟨rfl, hb⟩
    exact ⟨rfl, F, Kp.of_below hb, ⟨.inl rfl, fun k hk => Nat.lt_of_lt_of_le (hT.2 k hk) hb.size⟩, fun k hk => .inl hk⟩
  · refine (of_tape w F bt bl h ⟨fun h1 => by have := hF _ h1; have := hE.rounds; omega, fun h1 => by have := hF _ h1; have := hE.start; omega⟩ hbl v ps hE.sha hp hlen hn).mono ?_
    rintro e w' ⟨rfl, hk, hT'⟩
    exact ⟨rfl, _, hk, ⟨.inr ⟨bt, rfl, hT'⟩, hT'.mem⟩, fun k hk => hk.elim .inl fun hk => .inr hk.1⟩
theorem of_tpx (w : World) (E : Nat) (F : Nat → Prop) (t : Value) (bl : List (List UInt8)) (hT : (tpA F t bl).holds w) (hF : ∀ k, F k → E ≤ k) (hbl : bl.length ≤ 1099511627776) (hE : EnvS w E) (v : Value) (ps : List (List UInt8)) (hp : Parts w v ps) {m x : List UInt8} (hm : ps.flatten = m) (hx : sha m = x)
    (hlen : m.length ≤ 1099511627776) (hn : ps.length ≤ 1099511627776) : Calls Tryz.prog 11 #[t, v] w (TPost F t (bl ++ [m]) (hv x) w) := by
  subst hm; subst hx
  exact of_tp w E F t bl hT hF hbl hE v ps hp hlen hn
section
variable {P : Program} {C : World → Prop} {E : Nat} {ops : Array Oper} {toks : List Tok} {Q : Act → (Nat → GV) → Prop} {i : Nat} {o : Oper} {rest : List Oper} {ss : List OSp} {val : Nat → GV} {a : Act}
/-- A call that may note something, in a region that draws. -/
theorem walk_tape {F : Nat → Prop} {t v : Value} {bl bl' : List (List UInt8)} {d : Tmp} (y x : Nat) {u s : Tok} (hF : ∀ k, F k → E ≤ k) (hC : ∀ w, C w → E ≤ w.heap.size)
    (hy : toks[y]? = some u) (hx : toks[x]? = some s) (hB : (prodB toks i x && (u.cons == some i)) = true) (hd : o.dst = some d) (hlt : Nat.ble (d + 1) a.tmps.size = true) (hw : Region.wanted o (yielded ops a.tmps) = true)
    (hu : u.at_ val = tpA F t bl) (hu' : ∀ g, u.at_ (upd val i g) = tpA F t bl) (hs : ∀ g, s.at_ (upd val i g) = tpA g.2 t bl')
    (hcall : ∀ w, Ins C toks i val w → (tpA F t bl).holds w → ∀ (K : Act → World → Prop) (Q : Exit → Act → World → Prop), (∀ e w', TPost F t bl' v w e w' → K (a.put o.dst v) w') → o.wp P a w K Q)
    (h : ∀ F', (∀ k, F' k → E ≤ k) → Walk P ops toks C Q (i + 1) rest ss (upd val i (v, F')) (a.put o.dst v)) : Walk P ops toks C Q i (o :: rest) (ospT E v :: ss) val a := by
  refine walk_v hw ⟨(_, F), rfl, hF⟩ (fun w hI => ?_) (by rintro ⟨v, F'⟩ ⟨rfl, h1⟩; exact h F' h1)
  have hc : (u.cons == some i) = true := (Bool.and_eq_true _ _ ▸ hB).2
  have hT := ins_get hI y hy (by rw [hc]; simp)
  rw [hu] at hT
  refine Loud.of_wp hd (Nat.le_of_ble_eq_true hlt) fun K Q' hK => hcall w hI hT K Q' ?_
  rintro e w' ⟨-, F', hk, hT', hf⟩
  refine hK _ _ ⟨(_, F'), rfl, ⟨rfl, fun k hk => ?_⟩, outs_set y hy x hx hB ?_ ?_ ?_⟩
  · rcases hf k hk with h1 | h1
    · exact hF k h1
    · exact Nat.le_trans (hC w hI.frame) h1
  · rw [hu']; exact hk
  · rw [hs]; exact hT'
  · rw [hs, hu']; exact hf
end
theorem parts2_of {w : World} {b : Nat} {t : TypeId} {v1 v2 : Value} {l1 l2 : List UInt8} (h : (pts b t [v1, v2]).holds w) (h1 : Bs w v1 l1) (h2 : Bs w v2 l2) : Parts w (.slice (some ⟨b, 0, none⟩) 2 2) [l1, l2] := by
  refine ⟨[v1, v2], pts.sl h rfl (by unfold maxLen; omega), fun i h l h4 h5 => ?_⟩
  rcases i with _ | _ | i
  · simp at h4 h5; subst h4; subst h5; exact h1
  · simp at h4 h5; subst h4; subst h5; exact h2
  · simp at h4
theorem parts3_of {w : World} {b : Nat} {t : TypeId} {v1 v2 v3 : Value} {l1 l2 l3 : List UInt8} (h : (pts b t [v1, v2, v3]).holds w) (h1 : Bs w v1 l1) (h2 : Bs w v2 l2) (h3 : Bs w v3 l3) : Parts w (.slice (some ⟨b, 0, none⟩) 3 3) [l1, l2, l3] := by
  refine ⟨[v1, v2, v3], pts.sl h rfl (by unfold maxLen; omega), fun i h l h4 h5 => ?_⟩
  rcases i with _ | _ | _ | i
  · simp at h4 h5; subst h4; subst h5; exact h1
  · simp at h4 h5; subst h4; subst h5; exact h2
  · simp at h4 h5; subst h4; subst h5; exact h3
  · simp at h4
theorem hvar.bs {w : World} {b : Nat} {x : List UInt8} (h : (hvar b x).holds w) (hx : x.length = 32) : Bs w (.slice (some ⟨b, 0, none⟩) 32 32) x := by
  have := pts.sl (sz := 1) (n := 32) h (by rw [bcs_length, hx]) (by unfold maxLen; omega)
  unfold Bs
  rw [hx]
  exact this
/-- A mark, as it is read. -/
theorem MarkAt.get {w w' : World} {S : Nat → Prop} {E g : Nat} {x : UInt8} (h : MarkAt w E g x) (hle : E ≤ w.heap.size) (hk : Kp S w w') (hS : ∀ k, S k → E ≤ k) : MarkAt w' E g x := h.keep fun k hk' => hk.block k (by omega) fun hs => by have := hS k hs; omega
theorem ret_hvar {fn : Func} {R : Ending → World → Prop} {a : Act} {w : World} {p : Tmp} {g : Nat} {x : List UInt8} (h : fn.results = #[.cell p 30]) (hp : a.tmps.getD p undef = ptr g 0)
    (hv' : (hvar g x).holds w) (hx : x.length = 32) (hd : a.defers = []) (hR : R (.returned (hv x)) w) : bodyPost Tryz.prog fn R .ret a w :=
  ret_hash' h hp ⟨hx, range_all hv'⟩ hd hR
theorem elemBB : ElemOk Tryz.prog 32 26 1 24 := elemOk_mk (by kernel_rfl) (by kernel_rfl) (by decide) (by decide)
def hleaf (b : List UInt8) : List UInt8 := 0 :: b
def hnode (a b : List UInt8) : List UInt8 := 1 :: (a ++ b)
theorem cell_kp {S : Nat → Prop} {w w' : World} {g o : Nat} {u : Value} (hk : Kp S w w') (hc : w.cell? ⟨g, o, none⟩ = some u) (hn : ¬ S g) : w'.cell? ⟨g, o, none⟩ = some u :=
  (cell_of_block (hk.block g (block_lt_of_cell hc) hn)).trans hc
theorem Sl.kp {S : Nat → Prop} {w w' : World} {sz n : Nat} {v : Value} {cs : List Value} (h : Sl w sz v n cs) (hk : Kp S w w') (hn : ∀ k, v.ownBlock = some k → ¬ S k) : Sl w' sz v n cs := h.move fun b hb hlt => hk.block b hlt (hn b hb)
theorem Bs.kp {S : Nat → Prop} {w w' : World} {v : Value} {l : List UInt8} (h : Bs w v l) (hk : Kp S w w') (hn : ∀ k, v.ownBlock = some k → ¬ S k) : Bs w' v l := Sl.kp h hk hn
theorem tyBytes : Ty Tryz.prog 26 1 false [.slice none 0 0] := ⟨Tryz.sizeOf26, Tryz.isAgg26, fun w => ⟨_, Tryz.zeroValue26 w, rfl⟩⟩
/-- What a walk with a tape ends with. -/
theorem tpost_of {F F' : Nat → Prop} {t : Value} {bl : List (List UInt8)} {w w' : World} {L : List Asn} (M : Sep F w w' L) (hm : tpA F' t bl ∈ L) : ∃ F', Kp F w w' ∧ (tpA F' t bl).holds w' ∧ ∀ k, F' k → F k ∨ w.heap.size ≤ k :=
  ⟨F', M.keep, M.holds _ hm, M.own _ hm⟩
set_option maxHeartbeats 1600000 in
set_option maxRecDepth 100000 in
theorem hleaf_any (w : World) (E : Nat) (F : Nat → Prop) (t : Value) (bl : List (List UInt8)) (hT : (tpA F t bl).holds w) (hF : ∀ k, F k → E ≤ k) (hbl : bl.length ≤ 1099511627776) (hE : EnvB w E) (v : Value) (b : List UInt8) (hb : Bs w v b) (hvF : ∀ k, v.ownBlock = some k → ¬ F k) (hlen : b.length ≤ 1000000000) :
    Calls Tryz.prog 94 #[t, v] w (TPost F t (bl ++ [hleaf b]) (hv (sha (hleaf b))) w) := by
  have M := Sep.one hT
  obtain ⟨mv, hm1, hm2, hm3⟩ := hE.hleaf.ex
  obtain ⟨am, cm, hf⟩ := hm2.form
  rw [show ([0] : List UInt8).length = 1 from rfl] at hf
  subst hf
  obtain ⟨av, cv, rfl⟩ := hb.form
  have hgF : ¬ F 7 := fun h => by have := hF _ h; have := hE.hleaf.lt; omega
  have hmF : ∀ k, (Value.slice am 1 cm).ownBlock = some k → ¬ F k := fun k hk h => by have := hF _ h; have := hm3 k hk; omega
  have HM2 := Lib.hid hm2
  have HB := Lib.hid hb
  have HE := Lib.hid hE
  have HM1 := Lib.hid hm1
  have HMF := Lib.hid hmF
  have HVF := Lib.hid hvF
  have HF := Lib.hid hF
  clear hm1 hm2 hb hE hm3 hmF hvF hF
  have hx32 := sha_length (hleaf b)
  obtain ⟨x, hx⟩ : ∃ x, sha (hleaf b) = x := ⟨_, rfl⟩
  rw [hx] at hx32 ⊢
  have HX := Lib.hid hx
  clear hx
  go_enter Tryz.func94, Tryz.ntmps94
  go_wp2_with (first | ((with_reducible refine wl_at ⟨some 4, _, _, _, _, _⟩ ?_); refine wl_alloc M rfl rfl tyHash ?_; clear M; intro b4 w4 M; simp only [Act.put, List.setIfInBounds_toArray, List.set_cons_succ, List.set_cons_zero]) | ((with_reducible refine wl_at ⟨some 6, _, _, _, _, _⟩ ?_); refine wl_plain rfl fun _ hK => wp_load1 rfl rfl tyBytes (cell_kp M.keep HM1.out hgF) (hK _ _ ?_); simp only [Act.put, List.setIfInBounds_toArray, List.set_cons_succ, List.set_cons_zero]) | ((with_reducible refine wl_at ⟨some 8, _, _, _, _, _⟩ ?_); refine wl_bslice M elemBB [.slice am 1 cm, .slice av b.length cv] rfl rfl rfl (by intro v hv; simp at hv; rcases hv with rfl | rfl | rfl | rfl | rfl | rfl <;> rfl) rfl (by decide) (by decide) ?_; clear M; intro b8 w8 M; simp only [Act.put, List.setIfInBounds_toArray, List.set_cons_succ, List.set_cons_zero]) | fail)
  refine Calls.mono (of_tpx w8 E F t bl (M.get 2 rfl) HF.out hbl (HE.out.a.kp M.keep HF.out) _ [[0], b] (parts2_of (M.get 0 rfl) (HM2.out.kp M.keep HMF.out) (HB.out.kp M.keep HVF.out)) (m := hleaf b) (by simp [hleaf]) HX.out (by simp [hleaf]; omega) (by simp)) ?_
  rintro e w9 ⟨rfl, F1, hk, hT, hf⟩
  replace M := M.repl (.tail (.tail .head)) hk hT hf
  clear hk hT hf
  unfold hv
  go_wp2_with (first | ((with_reducible refine wl_at ⟨_, .store _ (.tmp 4) (.tmp 9), _, _, _, _⟩ ?_); refine wl_storen M (bcs x) rfl rfl rfl rfl tyHash rfl (by rw [bcs_length, hx32]) (ones_bcs x) (by first | exact .head | exact (.tail .head) | exact (.tail (.tail .head)) | exact (.tail (.tail (.tail .head))) | exact (.tail (.tail (.tail (.tail .head)))) | exact (.tail (.tail (.tail (.tail (.tail .head))))) | exact (.tail (.tail (.tail (.tail (.tail (.tail .head)))))) | exact (.tail (.tail (.tail (.tail (.tail (.tail (.tail .head))))))) | exact (.tail (.tail (.tail (.tail (.tail (.tail (.tail (.tail .head)))))))) | exact (.tail (.tail (.tail (.tail (.tail (.tail (.tail (.tail (.tail .head)))))))))) rfl ?_; clear M; intro w10 M; simp only [Act.put, List.setIfInBounds_toArray, List.set_cons_succ, List.set_cons_zero]) | fail)
  exact ret_hvar rfl rfl (M.get 1 rfl) hx32 rfl ⟨rfl, tpost_of M (.tail _ (.tail _ (.head _)))⟩
set_option maxHeartbeats 1600000 in
set_option maxRecDepth 100000 in
theorem hnode_any (w : World) (E : Nat) (F : Nat → Prop) (t : Value) (bl : List (List UInt8)) (hT : (tpA F t bl).holds w) (hF : ∀ k, F k → E ≤ k) (hbl : bl.length ≤ 1099511627776) (hE : EnvB w E) (a b : List UInt8) (ha : a.length = 32) (hb : b.length = 32) :
    Calls Tryz.prog 74 #[t, hv a, hv b] w (TPost F t (bl ++ [hnode a b]) (hv (sha (hnode a b))) w) := by
  have M := Sep.one hT
  obtain ⟨mv, hm1, hm2, hm3⟩ := hE.hnode.ex
  obtain ⟨am, cm, hf⟩ := hm2.form
  rw [show ([1] : List UInt8).length = 1 from rfl] at hf
  subst hf
  have hgF : ¬ F 4 := fun h => by have := hF _ h; have := hE.hnode.lt; omega
  have hmF : ∀ k, (Value.slice am 1 cm).ownBlock = some k → ¬ F k := fun k hk h => by have := hF _ h; have := hm3 k hk; omega
  have HM2 := Lib.hid hm2
  have HE := Lib.hid hE
  have HM1 := Lib.hid hm1
  have HMF := Lib.hid hmF
  have HF := Lib.hid hF
  clear hm1 hm2 hE hm3 hmF hF
  have hx32 := sha_length (hnode a b)
  obtain ⟨x, hx⟩ : ∃ x, sha (hnode a b) = x := ⟨_, rfl⟩
  rw [hx] at hx32 ⊢
  have HX := Lib.hid hx
  clear hx
  unfold hv
  go_enter Tryz.func74, Tryz.ntmps74
  go_wp2_with (first | ((with_reducible refine wl_at ⟨some 4, _, _, _, _, _⟩ ?_); refine wl_box M ((bcs a)) rfl rfl rfl rfl ?_; clear M; intro b4 w4 M; simp only [Act.put, List.setIfInBounds_toArray, List.set_cons_succ, List.set_cons_zero]) | ((with_reducible refine wl_at ⟨some 5, _, _, _, _, _⟩ ?_); refine wl_box M ((bcs b)) rfl rfl rfl rfl ?_; clear M; intro b5 w5 M; simp only [Act.put, List.setIfInBounds_toArray, List.set_cons_succ, List.set_cons_zero]) | ((with_reducible refine wl_at ⟨some 6, _, _, _, _, _⟩ ?_); refine wl_alloc M rfl rfl tyHash ?_; clear M; intro b6 w6 M; simp only [Act.put, List.setIfInBounds_toArray, List.set_cons_succ, List.set_cons_zero]) | fail)
  refine wp_draw M [told (some 6) [] _, told none [5] (hvar b5 b), told none [5] (hvar b4 a), told (some 5) [] (tpA F t bl), tnew 4 none [5] 26 [.slice am 1 cm, .slice (some ⟨b4, 0, none⟩) 32 32, .slice (some ⟨b5, 0, none⟩) 32 32],
      ⟨some 5, none, [], [5], fun gs => tpA (gs.headD (gq undef)).2 t (bl ++ [hnode a b])⟩, ⟨some 6, none, [], [], fun _ => hvar b6 x⟩]
    [.q, .q, .q, .q, ospB 3, ospT E (.agg (bcs x).toArray), ospU] (by kernel_rfl) rfl (by kernel_rfl) ?_
  (apply walk_q rfl; (intro w1 hI; apply Same.of_wp rfl rfl (Nat.le_of_ble_eq_true rfl); intro KK QQ hK; simp only [Act.put, List.setIfInBounds_toArray, List.set_cons_succ, List.set_cons_zero] at hK; go_step; exact hK); simp only [Act.put, List.setIfInBounds_toArray, List.set_cons_succ, List.set_cons_zero])
  refine walk_load1 rfl rfl tyBytes rfl (fun w1 hI => cell_kp hI.frame HM1.out hgF) ?_
  simp only [Act.put, List.setIfInBounds_toArray, List.set_cons_succ, List.set_cons_zero]
  (apply walk_q rfl; (intro w1 hI; apply Same.of_wp rfl rfl (Nat.le_of_ble_eq_true rfl); intro KK QQ hK; simp only [Act.put, List.setIfInBounds_toArray, List.set_cons_succ, List.set_cons_zero] at hK; go_step; exact hK); simp only [Act.put, List.setIfInBounds_toArray, List.set_cons_succ, List.set_cons_zero])
  (apply walk_q rfl; (intro w1 hI; apply Same.of_wp rfl rfl (Nat.le_of_ble_eq_true rfl); intro KK QQ hK; simp only [Act.put, List.setIfInBounds_toArray, List.set_cons_succ, List.set_cons_zero] at hK; go_step; exact hK); simp only [Act.put, List.setIfInBounds_toArray, List.set_cons_succ, List.set_cons_zero])
  (refine walk_bslice elemBB 4 [.slice am 1 cm, .slice (some ⟨b4, 0, none⟩) 32 32, .slice (some ⟨b5, 0, none⟩) 32 32] rfl rfl rfl rfl (by intro v hv; simp at hv; rcases hv with rfl | rfl | rfl <;> rfl) rfl (by decide) (by decide) rfl rfl rfl (fun _ => rfl) fun b11 => ?_; simp only [Act.put, List.setIfInBounds_toArray, List.set_cons_succ, List.set_cons_zero])
  refine walk_tape 3 5 HF.out (fun w1 hc => Nat.le_trans HE.out.le hc.size) rfl rfl rfl rfl rfl rfl rfl (fun _ => rfl) (fun _ => rfl) (fun w1 hI hT K Q hK => ?_) (fun F1 HF1 => ?_)
  · go_step
    exact Calls.mono (of_tpx w1 E F t bl hT HF.out hbl (HE.out.a.kp hI.frame HF.out) _ [[1], a, b] (parts3_of (ins_get hI 4 rfl rfl) (HM2.out.kp hI.frame HMF.out) (hvar.bs (ins_get hI 2 rfl rfl) ha) (hvar.bs (ins_get hI 1 rfl rfl) hb)) (m := hnode a b) (by simp [hnode]) HX.out (by simp [hnode, ha, hb]) (by simp))
      (by rintro e w' h; have h' := h; obtain ⟨rfl, -⟩ := h; exact hK _ _ h')
  simp only [Act.put, List.setIfInBounds_toArray, List.set_cons_succ, List.set_cons_zero]
  refine walk_store 0 6 (bcs x) rfl rfl rfl rfl tyHash rfl (by rw [bcs_length, hx32]) (ones_bcs x) (by simp) rfl rfl rfl rfl rfl rfl ?_ ?_
  · rw [splice_all _ _ (by rw [bcs_length, hx32]; rfl)]; rfl
  refine walk_nil fun w7 M => ?_
  replace M : Sep F w w7 [hvar b5 b, hvar b4 a, pts b11 26 [.slice am 1 cm, .slice (some ⟨b4, 0, none⟩) 32 32, .slice (some ⟨b5, 0, none⟩) 32 32], tpA F1 t (bl ++ [hnode a b]), hvar b6 x] := M
  go_wp2
  exact ret_hvar rfl rfl (M.get 4 rfl) hx32 rfl ⟨rfl, tpost_of M (.tail _ (.tail _ (.tail _ (.head _))))⟩
end Go.Proofs.YtbenjjaofabdcaaGreatDoor
