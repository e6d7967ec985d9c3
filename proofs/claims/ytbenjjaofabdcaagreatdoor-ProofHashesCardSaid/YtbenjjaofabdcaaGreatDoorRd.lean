/-
  A reader: wire.New, take, Int, Hash, Done, Bad.
-/
import Derived.Test.YtbenjjaofabdcaaGreatDoorWr
import Derived.Test.YtbenjjaofabdcaaGreatDoorR3
import Derived.Laws.OwnMore
namespace Go.Proofs.YtbenjjaofabdcaaGreatDoor
open Go Go.RowKit

/-- What a reader has left; was there too little? -/
structure Rd where
  l : List UInt8
  bad : Bool
def Rd.short (r : Rd) (n : Nat) : Bool := r.bad || decide (r.l.length < n)
def Rd.got (r : Rd) (n : Nat) : List UInt8 := if r.short n then List.replicate n 0 else r.l.take n
def Rd.left (r : Rd) (n : Nat) : Rd := if r.short n then ⟨r.l, true⟩ else ⟨r.l.drop n, false⟩
theorem Rd.got_length (r : Rd) (n : Nat) : (r.got n).length = n := by
  unfold Rd.got Rd.short
  by_cases h : (r.bad || decide (r.l.length < n)) = true
  · rw [if_pos h]; simp
  · rw [if_neg h]; simp at h; simp; omega
/-- A reader's variable, and the bytes that it reads, which lie in other memory. -/
structure RdAt (w : World) (br : Nat) (r : Rd) (v : Value) : Prop where
  var : (pts br 58 [v, .bool r.bad]).holds w
  bytes : Bs w v r.l
  off : ∀ k, v.ownBlock = some k → k < w.heap.size ∧ k ≠ br
theorem rnew_any (w : World) (v : Value) (l : List UInt8) (hv : Bs w v l) (ho : ∀ k, v.ownBlock = some k → k < w.heap.size) : Calls Tryz.prog 6 #[v] w fun e w' => ∃ br, e = .returned (ptr br 0) ∧ RdAt w' br ⟨l, false⟩ v ∧ Below w.heap.size w w' ∧ w.heap.size ≤ br := by
  obtain ⟨ao, c, rfl⟩ := hv.form
  have M := Sep.start (fun _ => False) w
  have HV := Lib.hid hv
  have HO := Lib.hid ho
  clear hv ho
  go_enter Tryz.func6, Tryz.ntmps6
  go_wp2_with (first | ((with_reducible refine wl_at ⟨some 5, _, _, _, _, _⟩ ?_); refine wl_box M (_) rfl rfl rfl rfl ?_; clear M; intro b5 w5 M; simp only [Act.put, List.setIfInBounds_toArray, List.set_cons_succ, List.set_cons_zero]) | fail)
  go_ret
  have hb5 : w.heap.size ≤ b5 := (M.own _ (.head _) b5 rfl).resolve_left (fun h => h)
  exact ⟨b5, rfl, ⟨M.get 0 rfl, HV.out.below M.out, fun k hk => ⟨Nat.lt_of_lt_of_le (HO.out k hk) M.out.size, fun h => by have := HO.out k hk; omega⟩⟩, M.out, hb5⟩
theorem Sl.cap {w : World} {sz n c b o : Nat} {cs : List Value} (h : Sl w sz (.slice (some ⟨b, o, none⟩) n c) n cs) : n ≤ c := by
  rcases h with ⟨h, _⟩ | ⟨b', o', c', he, h1, _⟩
  · cases h
  · simp only [Value.slice.injEq] at he
    obtain ⟨_, _, rfl⟩ := he
    exact h1
section
variable {W : Nat → Prop} {w0 w : World} {L : List Asn} {ops : Array Oper} {rest : List Oper} {o : Oper} {a : Act} {Q : Exit → Act → World → Prop}
/-- make([]byte, n). -/
theorem wl_makeB (M : Sep W w0 w L) (n : Nat) {x y : Operand} (hgd : Region.wanted o (yielded ops a.tmps) = true) (ho : o.op = .makeSlice 26 x y) (hx : a.eval x = .int .i64 n) (hy : a.eval y = .int .i64 n) (hn : n ≤ 1048576)
    (h : ∀ b w', Sep W w0 w' (pts b 5 (bcs (List.replicate n 0)) :: L) → wpList Tryz.prog ops Q rest (a.put o.dst (.slice (some ⟨b, 0, none⟩) n n)) w') : wpList Tryz.prog ops Q (o :: rest) a w := by
  refine wl_plain hgd fun K hK => ?_
  obtain ⟨i, z, hi, hz, hs, hb, hzc⟩ := elem_u8.info
  have hz0 : (Tryz.prog.info? 5).bind (·.zero) = some (.int .u8 0) := by kernel_rfl
  rw [hi, Option.bind_some, hz] at hz0
  obtain rfl := Option.some.inj hz0
  have hr := run_make (P := Tryz.prog) w 26 5 i _ elem_u8.slice hi hz .i64 .i64 n n (by omega) (Int.le_refl _) (by rw [hb]; omega) (by omega)
  have hc : (madeCells (Value.int .u8 0).cells ((n : Int).toNat * i.size)) = (bcs (List.replicate n 0)).toArray := by
    apply Array.toList_inj.1
    rw [show (Value.int .u8 0).cells = #[.int .u8 0] from rfl, toList_madeCells_one, hs]
    simp [bcs, u8c]
  rw [hc] at hr
  simp only [Int.toNat_natCast] at hr
  unfold Oper.wp execOp
  simp only [ho, hx, hy, Sem.run_bind, hr, Result.andThen_ok, Sem.run_pure]
  refine hK _ _ (h _ _ (M.newv ((Below.refl _ _).alloc (Nat.le_refl _) _) (Nat.le_refl _) ?_))
  have := pts_alloc w 5 (bcs (List.replicate n 0)).toArray
  simpa using this
end
def TakePost (br : Nat) (r : Rd) (v : Value) (n : Nat) (w : World) (e : Ending) (w' : World) : Prop :=
  ∃ v1 v', e = .returned v1 ∧ Bs w' v1 (r.got n) ∧ RdAt w' br (r.left n) v' ∧ Kp (fun k => k = br) w w' ∧ (∀ k, v'.ownBlock = some k → v.ownBlock = some k) ∧ ∀ k, v1.ownBlock = some k → v.ownBlock = some k ∨ w.heap.size ≤ k
theorem bcs_take' (l : List UInt8) (n : Nat) : bcs (l.take n) = (bcs l).take n := by simp [bcs, List.map_take]
theorem bcs_drop' (l : List UInt8) (n : Nat) : bcs (l.drop n) = (bcs l).drop n := by simp [bcs, List.map_drop]
theorem take_good {w w3 : World} {br b o c len n : Nat} {r : Rd} {v' : Value} (h : RdAt w br r (.slice (some ⟨b, o, none⟩) r.l.length c)) (hlen : r.l.length = len) (hbad : r.bad = false) (hle : n ≤ len) (h1 : 1 ≤ n) (hS : Sl w 1 (.slice (some ⟨b, o, none⟩) len c) len (bcs r.l))
    (hp : (pts br 58 [v', .bool false]).holds w3) (hk : Kp (fun k => k = br) w w3) (hv : c = n ∧ v' = .slice (some ⟨b, o, none⟩) (len - n) (c - n) ∨ ¬ c = n ∧ v' = .slice (some ⟨b, o + n, none⟩) (len - n) (c - n)) :
    TakePost br r (.slice (some ⟨b, o, none⟩) len c) n w (.returned (.slice (some ⟨b, o, none⟩) n n)) w3 := by
  have hsh : r.short n = false := by simp [Rd.short, hbad, hlen]; omega
  have e1 : r.got n = r.l.take n := by unfold Rd.got; rw [if_neg (by rw [hsh]; simp)]
  have e2 : r.left n = ⟨r.l.drop n, false⟩ := by unfold Rd.left; rw [if_neg (by rw [hsh]; simp)]
  have hbr : b ≠ br := (h.off b rfl).2
  have hcl : len ≤ c := hS.cap
  have hm : c ≤ maxLen := by
    rcases hS with ⟨h, _⟩ | ⟨b', o', c', he, _, h2, _⟩
    · cases h
    · simp only [Value.slice.injEq] at he; obtain ⟨_, _, rfl⟩ := he; exact h2
  have ht := hS.take (k := n) hle
  have hd := hS.drop (k := n) hle
  refine ⟨_, v', rfl, ?_, ⟨?_, ?_, ?_⟩, hk, ?_, fun k hk => .inl hk⟩
  · rw [e1]
    show Sl w3 1 _ _ _
    have hl : (r.l.take n).length = n := by simp; omega
    rw [hl]
    refine .inr ⟨b, o, n, rfl, Nat.le_refl _, by omega, by simp [bcs_length]; omega, ?_⟩
    have := ht.range
    rw [Nat.mul_one, ← bcs_take'] at this
    exact range_kp this hk hbr
  · rw [e2]; exact hp
  · rw [e2]
    show Sl w3 1 _ _ _
    have hl : (r.l.drop n).length = len - n := by simp; omega
    rw [hl]
    have hr := hd.range
    rw [Nat.mul_one, ← bcs_drop'] at hr
    rcases hv with ⟨rfl, rfl⟩ | ⟨_, rfl⟩
    · have : r.l.drop c = [] := by rw [List.drop_eq_nil_iff]; omega
      rw [this]
      exact .inr ⟨b, o, c - c, rfl, by omega, by omega, by simp [bcs]; omega, fun j u hj => by simp [bcs] at hj⟩
    · exact .inr ⟨b, o + n, c - n, rfl, by omega, by omega, by simp [bcs_length]; omega, range_kp hr hk hbr⟩
  · intro k hk'
    have : k = b := by rcases hv with ⟨_, rfl⟩ | ⟨_, rfl⟩ <;> · cases hk'; rfl
    subst this
    exact ⟨Nat.lt_of_lt_of_le (h.off k rfl).1 hk.size, hbr⟩
  · intro k hk'
    rcases hv with ⟨_, rfl⟩ | ⟨_, rfl⟩ <;> exact hk'
set_option maxHeartbeats 1600000 in
set_option maxRecDepth 100000 in
theorem take_any (w : World) (br : Nat) (r : Rd) (v : Value) (n : Nat) (h : RdAt w br r v) (h1 : 1 ≤ n) (hn : n ≤ 1048576) : Calls Tryz.prog 39 #[ptr br 0, .int .i64 n] w (TakePost br r v n w) := by
  have M := Sep.one h.var
  obtain ⟨ao, c, rfl⟩ := h.bytes.form
  obtain ⟨bad, hbad⟩ : ∃ bad, r.bad = bad := ⟨_, rfl⟩
  obtain ⟨len, hlen⟩ : ∃ len, r.l.length = len := ⟨_, rfl⟩
  have HH := Lib.hid h
  have HBAD := Lib.hid hbad
  have HLEN := Lib.hid hlen
  rw [hbad, hlen] at M
  rw [hlen]
  clear h hbad
  cases bad with
  | true =>
    go_enter Tryz.func39, Tryz.ntmps39
    go_wp2_with (first | ((with_reducible refine wl_at ⟨some 9, _, _, _, _, _⟩ ?_); refine wl_load1 M rfl rfl rfl tyBool (by first | exact (.head _) | exact (.tail _ (.head _)) | exact (.tail _ (.tail _ (.head _))) | exact (.tail _ (.tail _ (.tail _ (.head _)))) | exact (.tail _ (.tail _ (.tail _ (.tail _ (.head _))))) | exact (.tail _ (.tail _ (.tail _ (.tail _ (.tail _ (.head _)))))) | exact (.tail _ (.tail _ (.tail _ (.tail _ (.tail _ (.tail _ (.head _))))))) | exact (.tail _ (.tail _ (.tail _ (.tail _ (.tail _ (.tail _ (.tail _ (.head _)))))))) | exact (.tail _ (.tail _ (.tail _ (.tail _ (.tail _ (.tail _ (.tail _ (.tail _ (.head _))))))))) | exact (.tail _ (.tail _ (.tail _ (.tail _ (.tail _ (.tail _ (.tail _ (.tail _ (.tail _ (.head _))))))))))) rfl ?_; simp only [Act.put, List.setIfInBounds_toArray, List.set_cons_succ, List.set_cons_zero]) | ((with_reducible refine wl_at ⟨_, .store _ (.tmp 21) _, _, _, _, _⟩ ?_); refine wl_store M ([.bool true]) rfl rfl rfl rfl tyBool rfl rfl (ones_of rfl) (by first | exact .head | exact (.tail .head) | exact (.tail (.tail .head)) | exact (.tail (.tail (.tail .head))) | exact (.tail (.tail (.tail (.tail .head)))) | exact (.tail (.tail (.tail (.tail (.tail .head))))) | exact (.tail (.tail (.tail (.tail (.tail (.tail .head)))))) | exact (.tail (.tail (.tail (.tail (.tail (.tail (.tail .head))))))) | exact (.tail (.tail (.tail (.tail (.tail (.tail (.tail (.tail .head)))))))) | exact (.tail (.tail (.tail (.tail (.tail (.tail (.tail (.tail (.tail .head)))))))))) (Nat.le_of_ble_eq_true rfl) ?_; clear M; intro w3 M; simp only [splice] at M; simp only [Act.put, List.setIfInBounds_toArray, List.set_cons_succ, List.set_cons_zero]) | ((with_reducible refine wl_at ⟨some 23, _, _, _, _, _⟩ ?_); refine wl_makeB M n rfl rfl rfl rfl hn ?_; clear M; intro b9 w9 M; simp only [Act.put, List.setIfInBounds_toArray, List.set_cons_succ, List.set_cons_zero]) | fail)
    go_ret
    have hb9 : w.heap.size ≤ b9 := by
      have h2 := M.own _ (.head _) b9 rfl
      have h3 := M.disj
      simp [pts] at h3
      exact h2.resolve_left fun h => h3 h
    have hsh : r.short n = true := by simp [Rd.short, HBAD.out]
    refine ⟨_, _, rfl, ?_, ⟨?_, ?_, ?_⟩, M.keep, fun k hk => hk, fun k hk => .inr ?_⟩
    · rw [show r.got n = List.replicate n 0 by unfold Rd.got; rw [if_pos hsh]]
      have h := pts.sl (M.get 0 rfl) (sz := 1) (n := n) (by simp [bcs_length]) (by unfold maxLen; omega)
      show Sl _ 1 _ _ _
      simpa using h
    · rw [show r.left n = ⟨r.l, true⟩ by unfold Rd.left; rw [if_pos hsh]]
      exact M.get 1 rfl
    · rw [show r.left n = ⟨r.l, true⟩ by unfold Rd.left; rw [if_pos hsh]]
      have h := HH.out.bytes.kp M.keep (fun k hk h => (HH.out.off k hk).2 h)
      rwa [HLEN.out] at h
    · intro k hk
      have h := HH.out.off k (by rw [HLEN.out]; exact hk)
      exact ⟨Nat.lt_of_lt_of_le h.1 M.keep.size, h.2⟩
    · cases hk; exact hb9
  | false =>
    by_cases hlt : len < n
    · go_enter Tryz.func39, Tryz.ntmps39
      go_wp2_with (first | ((with_reducible refine wl_at ⟨some 9, _, _, _, _, _⟩ ?_); refine wl_load1 M rfl rfl rfl tyBool (by first | exact (.head _) | exact (.tail _ (.head _)) | exact (.tail _ (.tail _ (.head _))) | exact (.tail _ (.tail _ (.tail _ (.head _)))) | exact (.tail _ (.tail _ (.tail _ (.tail _ (.head _))))) | exact (.tail _ (.tail _ (.tail _ (.tail _ (.tail _ (.head _)))))) | exact (.tail _ (.tail _ (.tail _ (.tail _ (.tail _ (.tail _ (.head _))))))) | exact (.tail _ (.tail _ (.tail _ (.tail _ (.tail _ (.tail _ (.tail _ (.head _)))))))) | exact (.tail _ (.tail _ (.tail _ (.tail _ (.tail _ (.tail _ (.tail _ (.tail _ (.head _))))))))) | exact (.tail _ (.tail _ (.tail _ (.tail _ (.tail _ (.tail _ (.tail _ (.tail _ (.tail _ (.head _))))))))))) rfl ?_; simp only [Act.put, List.setIfInBounds_toArray, List.set_cons_succ, List.set_cons_zero]) | ((with_reducible refine wl_at ⟨some 15, _, _, _, _, _⟩ ?_); refine wl_load1 M rfl rfl rfl tyBytes (by first | exact (.head _) | exact (.tail _ (.head _)) | exact (.tail _ (.tail _ (.head _))) | exact (.tail _ (.tail _ (.tail _ (.head _)))) | exact (.tail _ (.tail _ (.tail _ (.tail _ (.head _))))) | exact (.tail _ (.tail _ (.tail _ (.tail _ (.tail _ (.head _)))))) | exact (.tail _ (.tail _ (.tail _ (.tail _ (.tail _ (.tail _ (.head _))))))) | exact (.tail _ (.tail _ (.tail _ (.tail _ (.tail _ (.tail _ (.tail _ (.head _)))))))) | exact (.tail _ (.tail _ (.tail _ (.tail _ (.tail _ (.tail _ (.tail _ (.tail _ (.head _))))))))) | exact (.tail _ (.tail _ (.tail _ (.tail _ (.tail _ (.tail _ (.tail _ (.tail _ (.tail _ (.head _))))))))))) rfl ?_; simp only [Act.put, List.setIfInBounds_toArray, List.set_cons_succ, List.set_cons_zero]) | ((with_reducible refine wl_at ⟨_, .store _ (.tmp 21) _, _, _, _, _⟩ ?_); refine wl_store M ([.bool true]) rfl rfl rfl rfl tyBool rfl rfl (ones_of rfl) (by first | exact .head | exact (.tail .head) | exact (.tail (.tail .head)) | exact (.tail (.tail (.tail .head))) | exact (.tail (.tail (.tail (.tail .head)))) | exact (.tail (.tail (.tail (.tail (.tail .head))))) | exact (.tail (.tail (.tail (.tail (.tail (.tail .head)))))) | exact (.tail (.tail (.tail (.tail (.tail (.tail (.tail .head))))))) | exact (.tail (.tail (.tail (.tail (.tail (.tail (.tail (.tail .head)))))))) | exact (.tail (.tail (.tail (.tail (.tail (.tail (.tail (.tail (.tail .head)))))))))) (Nat.le_of_ble_eq_true rfl) ?_; clear M; intro w3 M; simp only [splice] at M; simp only [Act.put, List.setIfInBounds_toArray, List.set_cons_succ, List.set_cons_zero]) | ((with_reducible refine wl_at ⟨some 23, _, _, _, _, _⟩ ?_); refine wl_makeB M n rfl rfl rfl rfl hn ?_; clear M; intro b9 w9 M; simp only [Act.put, List.setIfInBounds_toArray, List.set_cons_succ, List.set_cons_zero]) | fail)
      go_ret
      have hb9 : w.heap.size ≤ b9 := by
        have h2 := M.own _ (.head _) b9 rfl
        have h3 := M.disj
        simp [pts] at h3
        exact h2.resolve_left fun h => h3 h
      have hsh : r.short n = true := by simp [Rd.short, HLEN.out, hlt]
      refine ⟨_, _, rfl, ?_, ⟨?_, ?_, ?_⟩, M.keep, fun k hk => hk, fun k hk => .inr ?_⟩
      · rw [show r.got n = List.replicate n 0 by unfold Rd.got; rw [if_pos hsh]]
        have h := pts.sl (M.get 0 rfl) (sz := 1) (n := n) (by simp [bcs_length]) (by unfold maxLen; omega)
        show Sl _ 1 _ _ _
        simpa using h
      · rw [show r.left n = ⟨r.l, true⟩ by unfold Rd.left; rw [if_pos hsh]]
        exact M.get 1 rfl
      · rw [show r.left n = ⟨r.l, true⟩ by unfold Rd.left; rw [if_pos hsh]]
        have h := HH.out.bytes.kp M.keep (fun k hk h => (HH.out.off k hk).2 h)
        rwa [HLEN.out] at h
      · intro k hk
        have h := HH.out.off k (by rw [HLEN.out]; exact hk)
        exact ⟨Nat.lt_of_lt_of_le h.1 M.keep.size, h.2⟩
      · cases hk; exact hb9
    · have hle : n ≤ len := by omega
      have hS : Sl w 1 (.slice ao len c) len (bcs r.l) := by have h := HH.out.bytes; unfold Bs at h; rw [HLEN.out] at h; exact h
      obtain ⟨b, o, rfl⟩ := hS.solid (by omega)
      have hlc : len ≤ c := hS.cap
      have HS := Lib.hid hS
      have hnc : n ≤ c := by omega
      clear hlt hS
      by_cases hcn : c = n
      · subst hcn
        go_enter Tryz.func39, Tryz.ntmps39
        go_wp2_with (first | ((with_reducible refine wl_at ⟨some 9, _, _, _, _, _⟩ ?_); refine wl_load1 M rfl rfl rfl tyBool (by first | exact (.head _) | exact (.tail _ (.head _)) | exact (.tail _ (.tail _ (.head _))) | exact (.tail _ (.tail _ (.tail _ (.head _)))) | exact (.tail _ (.tail _ (.tail _ (.tail _ (.head _))))) | exact (.tail _ (.tail _ (.tail _ (.tail _ (.tail _ (.head _)))))) | exact (.tail _ (.tail _ (.tail _ (.tail _ (.tail _ (.tail _ (.head _))))))) | exact (.tail _ (.tail _ (.tail _ (.tail _ (.tail _ (.tail _ (.tail _ (.head _)))))))) | exact (.tail _ (.tail _ (.tail _ (.tail _ (.tail _ (.tail _ (.tail _ (.tail _ (.head _))))))))) | exact (.tail _ (.tail _ (.tail _ (.tail _ (.tail _ (.tail _ (.tail _ (.tail _ (.tail _ (.head _))))))))))) rfl ?_; simp only [Act.put, List.setIfInBounds_toArray, List.set_cons_succ, List.set_cons_zero]) | ((with_reducible refine wl_at ⟨some 15, _, _, _, _, _⟩ ?_); refine wl_load1 M rfl rfl rfl tyBytes (by first | exact (.head _) | exact (.tail _ (.head _)) | exact (.tail _ (.tail _ (.head _))) | exact (.tail _ (.tail _ (.tail _ (.head _)))) | exact (.tail _ (.tail _ (.tail _ (.tail _ (.head _))))) | exact (.tail _ (.tail _ (.tail _ (.tail _ (.tail _ (.head _)))))) | exact (.tail _ (.tail _ (.tail _ (.tail _ (.tail _ (.tail _ (.head _))))))) | exact (.tail _ (.tail _ (.tail _ (.tail _ (.tail _ (.tail _ (.tail _ (.head _)))))))) | exact (.tail _ (.tail _ (.tail _ (.tail _ (.tail _ (.tail _ (.tail _ (.tail _ (.head _))))))))) | exact (.tail _ (.tail _ (.tail _ (.tail _ (.tail _ (.tail _ (.tail _ (.tail _ (.tail _ (.head _))))))))))) rfl ?_; simp only [Act.put, List.setIfInBounds_toArray, List.set_cons_succ, List.set_cons_zero]) | ((with_reducible refine wl_at ⟨some 27, _, _, _, _, _⟩ ?_); refine wl_load1 M rfl rfl rfl tyBytes (by first | exact (.head _) | exact (.tail _ (.head _)) | exact (.tail _ (.tail _ (.head _))) | exact (.tail _ (.tail _ (.tail _ (.head _)))) | exact (.tail _ (.tail _ (.tail _ (.tail _ (.head _))))) | exact (.tail _ (.tail _ (.tail _ (.tail _ (.tail _ (.head _)))))) | exact (.tail _ (.tail _ (.tail _ (.tail _ (.tail _ (.tail _ (.head _))))))) | exact (.tail _ (.tail _ (.tail _ (.tail _ (.tail _ (.tail _ (.tail _ (.head _)))))))) | exact (.tail _ (.tail _ (.tail _ (.tail _ (.tail _ (.tail _ (.tail _ (.tail _ (.head _))))))))) | exact (.tail _ (.tail _ (.tail _ (.tail _ (.tail _ (.tail _ (.tail _ (.tail _ (.tail _ (.head _))))))))))) rfl ?_; simp only [Act.put, List.setIfInBounds_toArray, List.set_cons_succ, List.set_cons_zero]) | ((with_reducible refine wl_at ⟨some 35, _, _, _, _, _⟩ ?_); refine wl_load1 M rfl rfl rfl tyBytes (by first | exact (.head _) | exact (.tail _ (.head _)) | exact (.tail _ (.tail _ (.head _))) | exact (.tail _ (.tail _ (.tail _ (.head _)))) | exact (.tail _ (.tail _ (.tail _ (.tail _ (.head _))))) | exact (.tail _ (.tail _ (.tail _ (.tail _ (.tail _ (.head _)))))) | exact (.tail _ (.tail _ (.tail _ (.tail _ (.tail _ (.tail _ (.head _))))))) | exact (.tail _ (.tail _ (.tail _ (.tail _ (.tail _ (.tail _ (.tail _ (.head _)))))))) | exact (.tail _ (.tail _ (.tail _ (.tail _ (.tail _ (.tail _ (.tail _ (.tail _ (.head _))))))))) | exact (.tail _ (.tail _ (.tail _ (.tail _ (.tail _ (.tail _ (.tail _ (.tail _ (.tail _ (.head _))))))))))) rfl ?_; simp only [Act.put, List.setIfInBounds_toArray, List.set_cons_succ, List.set_cons_zero]) | ((with_reducible refine wl_at ⟨_, .store _ (.tmp 39) (.tmp 37), _, _, _, _⟩ ?_); refine wl_store M ([.slice (some ⟨b, o, none⟩) 0 0]) rfl rfl rfl rfl tyBytes rfl rfl (ones_of rfl) (by first | exact .head | exact (.tail .head) | exact (.tail (.tail .head)) | exact (.tail (.tail (.tail .head))) | exact (.tail (.tail (.tail (.tail .head)))) | exact (.tail (.tail (.tail (.tail (.tail .head))))) | exact (.tail (.tail (.tail (.tail (.tail (.tail .head)))))) | exact (.tail (.tail (.tail (.tail (.tail (.tail (.tail .head))))))) | exact (.tail (.tail (.tail (.tail (.tail (.tail (.tail (.tail .head)))))))) | exact (.tail (.tail (.tail (.tail (.tail (.tail (.tail (.tail (.tail .head)))))))))) (Nat.le_of_ble_eq_true rfl) ?_; clear M; intro w3 M; simp only [splice] at M; simp only [Act.put, List.setIfInBounds_toArray, List.set_cons_succ, List.set_cons_zero]) | fail)
        go_ret
        exact take_good HH.out HLEN.out HBAD.out hle h1 HS.out (M.get 0 rfl) M.keep (.inl ⟨rfl, by rw [show len - c = 0 by omega, Nat.sub_self]⟩)
      · go_enter Tryz.func39, Tryz.ntmps39
        go_wp2_with (first | ((with_reducible refine wl_at ⟨some 9, _, _, _, _, _⟩ ?_); refine wl_load1 M rfl rfl rfl tyBool (by first | exact (.head _) | exact (.tail _ (.head _)) | exact (.tail _ (.tail _ (.head _))) | exact (.tail _ (.tail _ (.tail _ (.head _)))) | exact (.tail _ (.tail _ (.tail _ (.tail _ (.head _))))) | exact (.tail _ (.tail _ (.tail _ (.tail _ (.tail _ (.head _)))))) | exact (.tail _ (.tail _ (.tail _ (.tail _ (.tail _ (.tail _ (.head _))))))) | exact (.tail _ (.tail _ (.tail _ (.tail _ (.tail _ (.tail _ (.tail _ (.head _)))))))) | exact (.tail _ (.tail _ (.tail _ (.tail _ (.tail _ (.tail _ (.tail _ (.tail _ (.head _))))))))) | exact (.tail _ (.tail _ (.tail _ (.tail _ (.tail _ (.tail _ (.tail _ (.tail _ (.tail _ (.head _))))))))))) rfl ?_; simp only [Act.put, List.setIfInBounds_toArray, List.set_cons_succ, List.set_cons_zero]) | ((with_reducible refine wl_at ⟨some 15, _, _, _, _, _⟩ ?_); refine wl_load1 M rfl rfl rfl tyBytes (by first | exact (.head _) | exact (.tail _ (.head _)) | exact (.tail _ (.tail _ (.head _))) | exact (.tail _ (.tail _ (.tail _ (.head _)))) | exact (.tail _ (.tail _ (.tail _ (.tail _ (.head _))))) | exact (.tail _ (.tail _ (.tail _ (.tail _ (.tail _ (.head _)))))) | exact (.tail _ (.tail _ (.tail _ (.tail _ (.tail _ (.tail _ (.head _))))))) | exact (.tail _ (.tail _ (.tail _ (.tail _ (.tail _ (.tail _ (.tail _ (.head _)))))))) | exact (.tail _ (.tail _ (.tail _ (.tail _ (.tail _ (.tail _ (.tail _ (.tail _ (.head _))))))))) | exact (.tail _ (.tail _ (.tail _ (.tail _ (.tail _ (.tail _ (.tail _ (.tail _ (.tail _ (.head _))))))))))) rfl ?_; simp only [Act.put, List.setIfInBounds_toArray, List.set_cons_succ, List.set_cons_zero]) | ((with_reducible refine wl_at ⟨some 27, _, _, _, _, _⟩ ?_); refine wl_load1 M rfl rfl rfl tyBytes (by first | exact (.head _) | exact (.tail _ (.head _)) | exact (.tail _ (.tail _ (.head _))) | exact (.tail _ (.tail _ (.tail _ (.head _)))) | exact (.tail _ (.tail _ (.tail _ (.tail _ (.head _))))) | exact (.tail _ (.tail _ (.tail _ (.tail _ (.tail _ (.head _)))))) | exact (.tail _ (.tail _ (.tail _ (.tail _ (.tail _ (.tail _ (.head _))))))) | exact (.tail _ (.tail _ (.tail _ (.tail _ (.tail _ (.tail _ (.tail _ (.head _)))))))) | exact (.tail _ (.tail _ (.tail _ (.tail _ (.tail _ (.tail _ (.tail _ (.tail _ (.head _))))))))) | exact (.tail _ (.tail _ (.tail _ (.tail _ (.tail _ (.tail _ (.tail _ (.tail _ (.tail _ (.head _))))))))))) rfl ?_; simp only [Act.put, List.setIfInBounds_toArray, List.set_cons_succ, List.set_cons_zero]) | ((with_reducible refine wl_at ⟨some 35, _, _, _, _, _⟩ ?_); refine wl_load1 M rfl rfl rfl tyBytes (by first | exact (.head _) | exact (.tail _ (.head _)) | exact (.tail _ (.tail _ (.head _))) | exact (.tail _ (.tail _ (.tail _ (.head _)))) | exact (.tail _ (.tail _ (.tail _ (.tail _ (.head _))))) | exact (.tail _ (.tail _ (.tail _ (.tail _ (.tail _ (.head _)))))) | exact (.tail _ (.tail _ (.tail _ (.tail _ (.tail _ (.tail _ (.head _))))))) | exact (.tail _ (.tail _ (.tail _ (.tail _ (.tail _ (.tail _ (.tail _ (.head _)))))))) | exact (.tail _ (.tail _ (.tail _ (.tail _ (.tail _ (.tail _ (.tail _ (.tail _ (.head _))))))))) | exact (.tail _ (.tail _ (.tail _ (.tail _ (.tail _ (.tail _ (.tail _ (.tail _ (.tail _ (.head _))))))))))) rfl ?_; simp only [Act.put, List.setIfInBounds_toArray, List.set_cons_succ, List.set_cons_zero]) | ((with_reducible refine wl_at ⟨_, .store _ (.tmp 39) (.tmp 37), _, _, _, _⟩ ?_); refine wl_store M ([.slice (some ⟨b, o + n, none⟩) (len - n) (c - n)]) rfl rfl rfl rfl tyBytes rfl rfl (ones_of rfl) (by first | exact .head | exact (.tail .head) | exact (.tail (.tail .head)) | exact (.tail (.tail (.tail .head))) | exact (.tail (.tail (.tail (.tail .head)))) | exact (.tail (.tail (.tail (.tail (.tail .head))))) | exact (.tail (.tail (.tail (.tail (.tail (.tail .head)))))) | exact (.tail (.tail (.tail (.tail (.tail (.tail (.tail .head))))))) | exact (.tail (.tail (.tail (.tail (.tail (.tail (.tail (.tail .head)))))))) | exact (.tail (.tail (.tail (.tail (.tail (.tail (.tail (.tail (.tail .head)))))))))) (Nat.le_of_ble_eq_true rfl) ?_; clear M; intro w3 M; simp only [splice] at M; simp only [Act.put, List.setIfInBounds_toArray, List.set_cons_succ, List.set_cons_zero]) | fail)
        go_ret
        exact take_good HH.out HLEN.out HBAD.out hle h1 HS.out (M.get 0 rfl) M.keep (.inr ⟨hcn, rfl⟩)
end Go.Proofs.YtbenjjaofabdcaaGreatDoor
