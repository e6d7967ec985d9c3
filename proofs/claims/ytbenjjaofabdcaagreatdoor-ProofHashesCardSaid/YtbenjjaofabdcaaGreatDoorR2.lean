/-
  rule: what is wrong with an account, with a transfer.
-/
import Derived.Test.YtbenjjaofabdcaaGreatDoorR
namespace Go.Proofs.YtbenjjaofabdcaaGreatDoor
open Go Go.RowKit

theorem num_eq (x y : Num) : decide (x = y) = (decide ((x.hi : Int) = y.hi) && decide ((x.lo : Int) = y.lo)) := by
  obtain ⟨a, b, _, _⟩ := x
  obtain ⟨c, d, _, _⟩ := y
  simp only [Num.mk.injEq, Int.ofNat_inj, Bool.decide_and]
theorem run_eqN (w : World) (x y : Num) : (binOp .eql 35 (nv x) (nv y)).run Tryz.prog w = .ok (.bool (decide (x = y))) w := by
  rw [num_eq]
  simp [go_sem]
  by_cases h1 : (x.hi : Int) = y.hi <;> by_cases h2 : (x.lo : Int) = y.lo <;> simp [h1, h2]
theorem run_neN (w : World) (x y : Num) : (binOp .neq 35 (nv x) (nv y)).run Tryz.prog w = .ok (.bool (!decide (x = y))) w := by
  rw [num_eq]
  simp [go_sem]
  by_cases h1 : (x.hi : Int) = y.hi <;> by_cases h2 : (x.lo : Int) = y.lo <;> simp [h1, h2]
theorem guardEqN (w : World) (p q : Operand) (x y : Num) : (eqGuard .eql 35 p q (nv x) (nv y)).run Tryz.prog w = .ok () w := by
  have h2 : Tryz.prog.eqGuardType Tryz.prog.depth 35 = false := by kernel_rfl
  simp [eqGuard, h2]
theorem guardNeN (w : World) (p q : Operand) (x y : Num) : (eqGuard .neq 35 p q (nv x) (nv y)).run Tryz.prog w = .ok () w := by
  have h2 : Tryz.prog.eqGuardType Tryz.prog.depth 35 = false := by kernel_rfl
  simp [eqGuard, h2]
section
variable {o : Oper} {a : Act} {w : World} {K : Act → World → Prop} {Q : Exit → Act → World → Prop} {p q : Operand} {t : TypeId} {x y : Num} {r : Bool}
theorem wp_eqN (ho : o.op = .binOp .eql 35 p q t) (hp : a.eval p = nv x) (hq : a.eval q = nv y) (hr : decide (x = y) = r) (h : K (a.put o.dst (.bool r)) w) : o.wp Tryz.prog a w K Q := by
  unfold Oper.wp execOp
  simp only [ho, hp, hq, Sem.run_bind, guardEqN, run_eqN, Result.andThen_ok, Sem.run_pure, hr]
  exact h
theorem wp_neN (ho : o.op = .binOp .neq 35 p q t) (hp : a.eval p = nv x) (hq : a.eval q = nv y) (hr : (!decide (x = y)) = r) (h : K (a.put o.dst (.bool r)) w) : o.wp Tryz.prog a w K Q := by
  unfold Oper.wp execOp
  simp only [ho, hp, hq, Sem.run_bind, guardNeN, run_neN, Result.andThen_ok, Sem.run_pure, hr]
  exact h
variable {C : World → Prop} {ops : Array Oper} {toks : List Tok} {Qw : Act → (Nat → GV) → Prop} {i : Nat} {rest : List Oper} {ss : List OSp} {val : Nat → GV} {d : Tmp}
theorem walk_eqN (ho : o.op = .binOp .eql 35 p q t) (hp : a.eval p = nv x) (hq : a.eval q = nv y) (hr : decide (x = y) = r) (hd : o.dst = some d) (hlt : Nat.ble (d + 1) a.tmps.size = true) (hw : Region.wanted o (yielded ops a.tmps) = true)
    (h : Walk Tryz.prog ops toks C Qw (i + 1) rest ss (upd val i (gq (.bool r))) (a.put o.dst (.bool r))) : Walk Tryz.prog ops toks C Qw i (o :: rest) (.q :: ss) val a :=
  walk_q hw (fun _ _ => Same.of_wp (by rw [ho]; rfl) hd (Nat.le_of_ble_eq_true hlt) fun K Q' hK => wp_eqN ho hp hq hr hK) h
theorem walk_neN (ho : o.op = .binOp .neq 35 p q t) (hp : a.eval p = nv x) (hq : a.eval q = nv y) (hr : (!decide (x = y)) = r) (hd : o.dst = some d) (hlt : Nat.ble (d + 1) a.tmps.size = true) (hw : Region.wanted o (yielded ops a.tmps) = true)
    (h : Walk Tryz.prog ops toks C Qw (i + 1) rest ss (upd val i (gq (.bool r))) (a.put o.dst (.bool r))) : Walk Tryz.prog ops toks C Qw i (o :: rest) (.q :: ss) val a :=
  walk_q hw (fun _ _ => Same.of_wp (by rw [ho]; rfl) hd (Nat.le_of_ble_eq_true hlt) fun K Q' hK => wp_neN ho hp hq hr hK) h
end
/-- What is wrong with an account. -/
def acctCode (a : Acct) : Int :=
  if decide (a.id = Num.zero) then 3
  else if (bits .andNot .i64 a.flags 7 != 0) || (has a.flags 2 && has a.flags 4) then 4
  else if a.ledger == 0 then 5 else 0
set_option maxHeartbeats 1600000 in
set_option maxRecDepth 100000 in
theorem account_any (w : World) (a : Acct) : Calls Tryz.prog 80 #[av a] w fun e w' => e = .returned (.int .i64 (acctCode a)) ∧ Below w.heap.size w w' := by
  go_enter Tryz.func80, Tryz.ntmps80
  have M := Sep.start (fun _ => False) w
  go_wp2_with (first | ((with_reducible refine wl_at ⟨some 1, _, _, _, _, _⟩ ?_); refine wl_box M (_) rfl rfl rfl rfl ?_; clear M; intro b1 w1 M; simp only [Act.put, List.setIfInBounds_toArray, List.set_cons_succ, List.set_cons_zero]) | fail)
  obtain ⟨r, hr⟩ : ∃ r, decide (a.id = Num.zero) = r := ⟨_, rfl⟩
  refine wp_draw M [told none [1] (pts b1 37 (acells a))] [.q, .q, ospV (nv Num.zero), .q, .q] (by kernel_rfl) rfl (by kernel_rfl) ?_
  (apply walk_q rfl; (intro w1 hI; apply Same.of_wp rfl rfl (Nat.le_of_ble_eq_true rfl); intro KK QQ hK; simp only [Act.put, List.setIfInBounds_toArray, List.set_cons_succ, List.set_cons_zero] at hK; go_step; exact hK); simp only [Act.put, List.setIfInBounds_toArray, List.set_cons_succ, List.set_cons_zero])
  (refine walk_loadn rfl rfl tyNum rfl rfl (fun w hI => range2 (ins_get hI 0 rfl rfl) rfl rfl) ?_; simp only [Act.put, List.setIfInBounds_toArray, List.set_cons_succ, List.set_cons_zero])
  (refine walk_pure rfl rfl rfl rfl (fun w hI K Q hK => by go_step; exact Calls.mono (zero_any w) (by rintro e w' ⟨rfl, hb⟩; exact hK _ hb)) ?_; simp only [Act.put, List.setIfInBounds_toArray, List.set_cons_succ, List.set_cons_zero])
  (refine walk_eqN rfl rfl rfl hr rfl rfl rfl ?_; simp only [Act.put, List.setIfInBounds_toArray, List.set_cons_succ, List.set_cons_zero])
  (apply walk_q rfl; (intro w1 hI; apply Same.of_wp rfl rfl (Nat.le_of_ble_eq_true rfl); intro KK QQ hK; simp only [Act.put, List.setIfInBounds_toArray, List.set_cons_succ, List.set_cons_zero] at hK; go_step; exact hK); simp only [Act.put, List.setIfInBounds_toArray, List.set_cons_succ, List.set_cons_zero])
  refine walk_nil fun w2 M => ?_
  replace M : Sep (fun _ => False) w w2 [pts b1 37 (acells a)] := M
  have HR := Lib.hid hr
  clear hr
  cases r with
  | true =>
    go_wp2
    go_ret
    exact ⟨by rw [acctCode, HR.out]; rfl, M.out⟩
  | false =>
    cases h7 : (bits .andNot .i64 a.flags 7 != 0) <;> cases h2 : (bits .and .i64 a.flags 2 != 0) <;> cases h4 : (bits .and .i64 a.flags 4 != 0) <;> cases hl : (a.ledger == 0)
    all_goals
      go_wp2_with (first | ((with_reducible refine wl_at ⟨some 10, _, _, _, _, _⟩ ?_); refine wl_load1 M rfl rfl rfl tyInt (by first | exact (.head _) | exact (.tail _ (.head _)) | exact (.tail _ (.tail _ (.head _))) | exact (.tail _ (.tail _ (.tail _ (.head _)))) | exact (.tail _ (.tail _ (.tail _ (.tail _ (.head _))))) | exact (.tail _ (.tail _ (.tail _ (.tail _ (.tail _ (.head _)))))) | exact (.tail _ (.tail _ (.tail _ (.tail _ (.tail _ (.tail _ (.head _))))))) | exact (.tail _ (.tail _ (.tail _ (.tail _ (.tail _ (.tail _ (.tail _ (.head _)))))))) | exact (.tail _ (.tail _ (.tail _ (.tail _ (.tail _ (.tail _ (.tail _ (.tail _ (.head _))))))))) | exact (.tail _ (.tail _ (.tail _ (.tail _ (.tail _ (.tail _ (.tail _ (.tail _ (.tail _ (.head _))))))))))) rfl ?_; simp only [Act.put, List.setIfInBounds_toArray, List.set_cons_succ, List.set_cons_zero]) | ((with_reducible refine wl_at ⟨some 15, _, _, _, _, _⟩ ?_); refine wl_load1 M rfl rfl rfl tyInt (by first | exact (.head _) | exact (.tail _ (.head _)) | exact (.tail _ (.tail _ (.head _))) | exact (.tail _ (.tail _ (.tail _ (.head _)))) | exact (.tail _ (.tail _ (.tail _ (.tail _ (.head _))))) | exact (.tail _ (.tail _ (.tail _ (.tail _ (.tail _ (.head _)))))) | exact (.tail _ (.tail _ (.tail _ (.tail _ (.tail _ (.tail _ (.head _))))))) | exact (.tail _ (.tail _ (.tail _ (.tail _ (.tail _ (.tail _ (.tail _ (.head _)))))))) | exact (.tail _ (.tail _ (.tail _ (.tail _ (.tail _ (.tail _ (.tail _ (.tail _ (.head _))))))))) | exact (.tail _ (.tail _ (.tail _ (.tail _ (.tail _ (.tail _ (.tail _ (.tail _ (.tail _ (.head _))))))))))) rfl ?_; simp only [Act.put, List.setIfInBounds_toArray, List.set_cons_succ, List.set_cons_zero]) | ((with_reducible refine wl_at ⟨some 20, _, _, _, _, _⟩ ?_); refine wl_load1 M rfl rfl rfl tyInt (by first | exact (.head _) | exact (.tail _ (.head _)) | exact (.tail _ (.tail _ (.head _))) | exact (.tail _ (.tail _ (.tail _ (.head _)))) | exact (.tail _ (.tail _ (.tail _ (.tail _ (.head _))))) | exact (.tail _ (.tail _ (.tail _ (.tail _ (.tail _ (.head _)))))) | exact (.tail _ (.tail _ (.tail _ (.tail _ (.tail _ (.tail _ (.head _))))))) | exact (.tail _ (.tail _ (.tail _ (.tail _ (.tail _ (.tail _ (.tail _ (.head _)))))))) | exact (.tail _ (.tail _ (.tail _ (.tail _ (.tail _ (.tail _ (.tail _ (.tail _ (.head _))))))))) | exact (.tail _ (.tail _ (.tail _ (.tail _ (.tail _ (.tail _ (.tail _ (.tail _ (.tail _ (.head _))))))))))) rfl ?_; simp only [Act.put, List.setIfInBounds_toArray, List.set_cons_succ, List.set_cons_zero]) | ((with_reducible refine wl_at ⟨some 27, _, _, _, _, _⟩ ?_); refine wl_load1 M rfl rfl rfl tyInt (by first | exact (.head _) | exact (.tail _ (.head _)) | exact (.tail _ (.tail _ (.head _))) | exact (.tail _ (.tail _ (.tail _ (.head _)))) | exact (.tail _ (.tail _ (.tail _ (.tail _ (.head _))))) | exact (.tail _ (.tail _ (.tail _ (.tail _ (.tail _ (.head _)))))) | exact (.tail _ (.tail _ (.tail _ (.tail _ (.tail _ (.tail _ (.head _))))))) | exact (.tail _ (.tail _ (.tail _ (.tail _ (.tail _ (.tail _ (.tail _ (.head _)))))))) | exact (.tail _ (.tail _ (.tail _ (.tail _ (.tail _ (.tail _ (.tail _ (.tail _ (.head _))))))))) | exact (.tail _ (.tail _ (.tail _ (.tail _ (.tail _ (.tail _ (.tail _ (.tail _ (.tail _ (.head _))))))))))) rfl ?_; simp only [Act.put, List.setIfInBounds_toArray, List.set_cons_succ, List.set_cons_zero]) | fail)
      go_ret
      exact ⟨by simp only [acctCode, HR.out, has, h7, h2, h4, hl]; rfl, M.out⟩
/-- In what an account parts from the one that is there. -/
def againCode (a old : Acct) : Int :=
  if a.ledger != old.ledger then 7 else if bits .andNot .i64 a.flags 9 != bits .andNot .i64 old.flags 9 then 8 else 14
set_option maxHeartbeats 1600000 in
set_option maxRecDepth 100000 in
theorem again_any (w : World) (a b : Acct) : Calls Tryz.prog 82 #[av a, av b] w fun e w' => e = .returned (.int .i64 (againCode a b)) ∧ Below w.heap.size w w' := by
  cases h1 : (a.ledger != b.ledger) <;> cases h2 : (bits .andNot .i64 a.flags 9 != bits .andNot .i64 b.flags 9)
  all_goals
    have M := Sep.start (fun _ => False) w
    go_enter Tryz.func82, Tryz.ntmps82
    go_wp2_with (first | ((with_reducible refine wl_at ⟨some 2, _, _, _, _, _⟩ ?_); refine wl_box M (_) rfl rfl rfl rfl ?_; clear M; intro b2 w2 M; simp only [Act.put, List.setIfInBounds_toArray, List.set_cons_succ, List.set_cons_zero]) | ((with_reducible refine wl_at ⟨some 3, _, _, _, _, _⟩ ?_); refine wl_box M (_) rfl rfl rfl rfl ?_; clear M; intro b3 w3 M; simp only [Act.put, List.setIfInBounds_toArray, List.set_cons_succ, List.set_cons_zero]) | ((with_reducible refine wl_at ⟨some 7, _, _, _, _, _⟩ ?_); refine wl_load1 M rfl rfl rfl tyInt (by first | exact (.head _) | exact (.tail _ (.head _)) | exact (.tail _ (.tail _ (.head _))) | exact (.tail _ (.tail _ (.tail _ (.head _)))) | exact (.tail _ (.tail _ (.tail _ (.tail _ (.head _))))) | exact (.tail _ (.tail _ (.tail _ (.tail _ (.tail _ (.head _)))))) | exact (.tail _ (.tail _ (.tail _ (.tail _ (.tail _ (.tail _ (.head _))))))) | exact (.tail _ (.tail _ (.tail _ (.tail _ (.tail _ (.tail _ (.tail _ (.head _)))))))) | exact (.tail _ (.tail _ (.tail _ (.tail _ (.tail _ (.tail _ (.tail _ (.tail _ (.head _))))))))) | exact (.tail _ (.tail _ (.tail _ (.tail _ (.tail _ (.tail _ (.tail _ (.tail _ (.tail _ (.head _))))))))))) rfl ?_; simp only [Act.put, List.setIfInBounds_toArray, List.set_cons_succ, List.set_cons_zero]) | ((with_reducible refine wl_at ⟨some 9, _, _, _, _, _⟩ ?_); refine wl_load1 M rfl rfl rfl tyInt (by first | exact (.head _) | exact (.tail _ (.head _)) | exact (.tail _ (.tail _ (.head _))) | exact (.tail _ (.tail _ (.tail _ (.head _)))) | exact (.tail _ (.tail _ (.tail _ (.tail _ (.head _))))) | exact (.tail _ (.tail _ (.tail _ (.tail _ (.tail _ (.head _)))))) | exact (.tail _ (.tail _ (.tail _ (.tail _ (.tail _ (.tail _ (.head _))))))) | exact (.tail _ (.tail _ (.tail _ (.tail _ (.tail _ (.tail _ (.tail _ (.head _)))))))) | exact (.tail _ (.tail _ (.tail _ (.tail _ (.tail _ (.tail _ (.tail _ (.tail _ (.head _))))))))) | exact (.tail _ (.tail _ (.tail _ (.tail _ (.tail _ (.tail _ (.tail _ (.tail _ (.tail _ (.head _))))))))))) rfl ?_; simp only [Act.put, List.setIfInBounds_toArray, List.set_cons_succ, List.set_cons_zero]) | ((with_reducible refine wl_at ⟨some 13, _, _, _, _, _⟩ ?_); refine wl_load1 M rfl rfl rfl tyInt (by first | exact (.head _) | exact (.tail _ (.head _)) | exact (.tail _ (.tail _ (.head _))) | exact (.tail _ (.tail _ (.tail _ (.head _)))) | exact (.tail _ (.tail _ (.tail _ (.tail _ (.head _))))) | exact (.tail _ (.tail _ (.tail _ (.tail _ (.tail _ (.head _)))))) | exact (.tail _ (.tail _ (.tail _ (.tail _ (.tail _ (.tail _ (.head _))))))) | exact (.tail _ (.tail _ (.tail _ (.tail _ (.tail _ (.tail _ (.tail _ (.head _)))))))) | exact (.tail _ (.tail _ (.tail _ (.tail _ (.tail _ (.tail _ (.tail _ (.tail _ (.head _))))))))) | exact (.tail _ (.tail _ (.tail _ (.tail _ (.tail _ (.tail _ (.tail _ (.tail _ (.tail _ (.head _))))))))))) rfl ?_; simp only [Act.put, List.setIfInBounds_toArray, List.set_cons_succ, List.set_cons_zero]) | ((with_reducible refine wl_at ⟨some 16, _, _, _, _, _⟩ ?_); refine wl_load1 M rfl rfl rfl tyInt (by first | exact (.head _) | exact (.tail _ (.head _)) | exact (.tail _ (.tail _ (.head _))) | exact (.tail _ (.tail _ (.tail _ (.head _)))) | exact (.tail _ (.tail _ (.tail _ (.tail _ (.head _))))) | exact (.tail _ (.tail _ (.tail _ (.tail _ (.tail _ (.head _)))))) | exact (.tail _ (.tail _ (.tail _ (.tail _ (.tail _ (.tail _ (.head _))))))) | exact (.tail _ (.tail _ (.tail _ (.tail _ (.tail _ (.tail _ (.tail _ (.head _)))))))) | exact (.tail _ (.tail _ (.tail _ (.tail _ (.tail _ (.tail _ (.tail _ (.tail _ (.head _))))))))) | exact (.tail _ (.tail _ (.tail _ (.tail _ (.tail _ (.tail _ (.tail _ (.tail _ (.tail _ (.head _))))))))))) rfl ?_; simp only [Act.put, List.setIfInBounds_toArray, List.set_cons_succ, List.set_cons_zero]) | fail)
    go_ret
    exact ⟨by simp only [againCode, h1, h2]; rfl, M.out⟩
end Go.Proofs.YtbenjjaofabdcaaGreatDoor
