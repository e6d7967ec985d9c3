/-
  SHA-256 of bytes: sum returns the hash of what its slice holds; Of that of its parts together, and notes them on a tape.
-/
import Derived.Test.YtbenjjaofabdcaaGreatDoorShaA
import Derived.Test.YtbenjjaofabdcaaGreatDoorSlice
namespace Go.Proofs.YtbenjjaofabdcaaGreatDoor
open Go Go.RowKit

def kList : List Int := [1116352408, 1899447441, 3049323471, 3921009573, 961987163, 1508970993, 2453635748, 2870763221, 3624381080, 310598401, 607225278, 1426881987, 1925078388, 2162078206, 2614888103, 3248222580, 3835390401, 4022224774, 264347078, 604807628, 770255983, 1249150122, 1555081692, 1996064986, 2554220882, 2821834349, 2952996808, 3210313671, 3336571891, 3584528711, 113926993, 338241895, 666307205, 773529912, 1294757372, 1396182291, 1695183700, 1986661051, 2177026350, 2456956037, 2730485921, 2820302411, 3259730800, 3345764771, 3516065817, 3600352804, 4094571909, 275423344, 430227734, 506948616, 659060556, 883997877, 958139571, 1322822218, 1537002063, 1747873779, 1955562222, 2024104815, 2227730452, 2361852424, 2428436474, 2756734187, 3204031479, 3329325298]
def hList : List Int := [1779033703, 3144134277, 1013904242, 2773480762, 1359893119, 2600822924, 528734635, 1541459225]
def kTab (i : Nat) : Int := kList.getD i 0
def hTab (i : Nat) : Int := hList.getD i 0
def padZ (n : Nat) : Nat := (119 - n % 64) % 64
def lenB (n : Nat) : List UInt8 := (List.range 8).map fun j => UInt8.ofNat (8 * n / 2 ^ (8 * (7 - j)) % 256)
/-- The padded bytes. -/
def pad (b : List UInt8) : List UInt8 := b ++ [0x80] ++ List.replicate (padZ b.length) 0 ++ lenB b.length
def sumH (p : List UInt8) (m : Nat) : Nat → Int := loopN (fun k H => blockF kTab (fun i => (p.getD (64 * k + i) 0).toNat) H) m hTab
theorem hList_range (i : Nat) : 0 ≤ hList.getD i 0 ∧ hList.getD i 0 < 4294967296 := by
  have h : ∀ x ∈ hList, 0 ≤ x ∧ x < 4294967296 := by decide
  rw [List.getD_eq_getElem?_getD]
  cases e : hList[i]? with
  | none => simp
  | some x => exact h x (List.mem_of_getElem? e)
theorem sumH_range (p : List UInt8) (m : Nat) : U32 (sumH p m) := by
  induction m with
  | zero => intro i; show 0 ≤ hTab i ∧ hTab i < 4294967296; unfold hTab; exact hList_range i
  | succ m ih => exact blockF_range _ _ _ ih
def outB (H : Nat → Int) : List UInt8 := (List.range 32).map fun i => UInt8.ofNat (H (i / 4) / 2 ^ (24 - 8 * (i % 4)) % 256).toNat
def outF (H : Nat → Int) (k : Nat) : Nat → Value := fun j => if j < k then .int .u8 (H (j / 4) / 2 ^ (24 - 8 * (j % 4)) % 256) else .int .u8 0
theorem outF_succ (H : Nat → Int) (k : Nat) : upd (outF H k) k (.int .u8 (H (k / 4) / 2 ^ (24 - 8 * (k % 4)) % 256)) = outF H (k + 1) := by
  funext j
  unfold upd outF
  by_cases e : j = k
  · subst e; simp
  · simp only [e, if_false]
    by_cases h : j < k
    · rw [if_pos h, if_pos (by omega)]
    · rw [if_neg h, if_neg (by omega)]
theorem outF_all (H : Nat → Int) : (List.range 32).map (outF H 32) = bcs (outB H) := by
  unfold outB bcs
  rw [List.map_map]
  refine List.map_congr_left fun i hi => ?_
  have : i < 32 := List.mem_range.1 hi
  simp only [outF, this, if_true, Function.comp]
  generalize H (i / 4) / 2 ^ (24 - 8 * (i % 4)) = x
  unfold u8c
  congr 1
  rw [UInt8.toNat_ofNat']
  omega
/-- SHA-256. -/
def sha (b : List UInt8) : List UInt8 := outB (sumH (pad b) ((pad b).length / 64))
theorem sha_length (b : List UInt8) : (sha b).length = 32 := by simp [sha, outB]

/-- What the tables hold. -/
structure ShaEnv (w : World) : Prop where
  rounds : ∀ i, i < 64 → w.cell? ⟨1, i, none⟩ = some (.int .u32 (kTab i))
  start : ∀ i, i < 8 → w.cell? ⟨0, i, none⟩ = some (.int .u32 (hTab i))
theorem ShaEnv.below {w w' : World} (h : ShaEnv w) (hb : Below w.heap.size w w') : ShaEnv w' :=
  ⟨fun i hi => (hb.cell (block_lt_of_cell (h.rounds i hi))).trans (h.rounds i hi), fun i hi => (hb.cell (block_lt_of_cell (h.start i hi))).trans (h.start i hi)⟩

theorem elem_u8 : ElemOk Tryz.prog 26 5 1 1 := elemOk_mk (by kernel_rfl) (by kernel_rfl) (by decide) (by decide)
theorem Sl.form {w : World} {sz n : Nat} {v : Value} {cs : List Value} (h : Sl w sz v n cs) : ∃ ao c, v = .slice ao n c := by
  rcases h with ⟨rfl, rfl, _⟩ | ⟨b, o, c, rfl, _⟩
  · exact ⟨none, 0, rfl⟩
  · exact ⟨_, c, rfl⟩

set_option maxHeartbeats 1600000 in
set_option maxRecDepth 100000 in
theorem sum_any (w : World) (v : Value) (bs : List UInt8) (hE : ShaEnv w) (hb : Bs w v bs) (hlen : bs.length ≤ 1099511627776) :
    Calls Tryz.prog 25 #[v] w fun e w' => e = .returned (hv (sha bs)) ∧ Below w.heap.size w w' := by
  obtain ⟨ao, c, rfl⟩ := hb.form
  have HB := Lib.hid hb
  have HE := Lib.hid hE
  clear hb hE
  go_enter Tryz.func25, Tryz.ntmps25
  go_wp2_with (at_builtin; refine wpList_appB (base := w.heap.size + 1) elem_u8 rfl _ _ rfl (news := bs) rfl (OwnB.nil _ _ _) rfl ?s1 ?s3 ?s4 ?_)
  case s1 => exact HB.out.below ((Below.refl _ _).alloc (Nat.le_refl _) _)
  case s3 => simp; omega
  case s4 => simp
  intro v1 w1 hown1 hgr1
  have hb1 : Below w.heap.size w w1 := ((Below.refl _ _).alloc (Nat.le_refl _) _).grown hgr1 (by simp) (by simp [Value.ownBlock])
  have hA1 : ArrAt w1 w.heap.size 30 32 (fun _ => .int .u8 0) := (arr_alloc w _ 32 (fun _ => .int .u8 0) _ rfl).grown hgr1 (by simp [Value.ownBlock])
  have hs1 := hA1.lt
  have HA1 := Lib.hid hA1
  have HO1 := Lib.hid hown1
  clear hown1 hA1
  go_wp2_with (at_builtin; refine wpList_appB (base := w.heap.size + 1) elem_u8 rfl _ _ rfl (xs := bs) (news := [0x80]) rfl ?o1 rfl ?p1 ?p3 ?p4 ?_)
  case o1 => exact HO1.out.alloc _
  case p1 => exact bs_lit _ _ _ _ rfl
  case p3 => simp; omega
  case p4 => simp; omega
  intro v2 w2 hown2 hgr2
  have hb2 : Below w.heap.size w w2 := (hb1.alloc hb1.size _).grown hgr2 (by simp; omega) (fun k hk => by have := HO1.out.base k hk; omega)
  have hA2 : ArrAt w2 w.heap.size 30 32 (fun _ => .int .u8 0) := (HA1.out.alloc _).grown hgr2 (fun e => by have := HO1.out.base _ e.symm; omega)
  clear hgr1 hgr2 HO1 hb1 HA1 hs1
  have HA2 := Lib.hid hA2
  obtain ⟨a2, c2, rfl⟩ := hown2.form
  rw [show (bs ++ [(128 : UInt8)]).length = bs.length + 1 from by simp] at hown2 ⊢
  have HO2 := Lib.hid hown2
  clear hown2 hA2
  go_wp2
  go_loopw [0] (fun v wr => ∃ z : Nat, z ≤ padZ bs.length ∧ (∃ ao c, v = .slice ao (bs.length + 1 + z) c) ∧ OwnB wr (w.heap.size + 1) 5 v (bs ++ [0x80] ++ List.replicate z 0) ∧ ArrAt wr w.heap.size 30 32 (fun _ => .int .u8 0) ∧ Below w.heap.size w wr) (fun v _ => (120 - lenV v % 64) % 64)
  case atStart => exact ⟨0, Nat.zero_le _, ⟨a2, c2, by simp⟩, by simpa using HO2.out, HA2.out, hb2⟩
  case round =>
    obtain ⟨z, hz, ⟨a3, c3, rfl⟩, hO3, hA3, hb3⟩ := hrel
    have HO3 := Lib.hid hO3
    have HA3 := Lib.hid hA3
    have hs3 := hA3.lt
    clear hO3 hA3 HO2 HA2
    have hz0 : padZ bs.length < 64 := by unfold padZ; omega
    by_cases hq : (bs.length + 1 + z) % 64 = 56
    · have hz1 : z = padZ bs.length := by unfold padZ at *; omega
      have HQ := Lib.hid hq
      have HZ := Lib.hid hz1
      clear hq hz1
      have hb : ((((bs.length : Int) + 1 + (z : Int)) % 64) != 56) = false := by have := HQ.out; simp; omega
      go_wp2
      clear hb
      obtain ⟨wz, rfl⟩ : ∃ wz : World, wz = wr := ⟨_, rfl⟩
      go_loopw [0, 4] (fun v i wr => ∃ j : Nat, j ≤ 8 ∧ i = .int .i64 (7 - (j : Int)) ∧ (∃ ao c, v = .slice ao (bs.length + 1 + z + j) c) ∧ OwnB wr (w.heap.size + 1) 5 v (bs ++ [0x80] ++ List.replicate z 0 ++ (lenB bs.length).take j) ∧ ArrAt wr w.heap.size 30 32 (fun _ => .int .u8 0) ∧ Below w.heap.size w wr) (fun _ i _ => (intOf i + 1).toNat)
      case atStart => exact ⟨0, Nat.zero_le _, rfl, ⟨a3, c3, rfl⟩, by simpa using HO3.out, HA3.out, hb3⟩
      case round =>
        obtain ⟨j, hj, rfl, ⟨a4, c4, rfl⟩, hO4, hA4, hb4⟩ := hrel
        have HO4 := Lib.hid hO4
        have HA4 := Lib.hid hA4
        have hs4 := hA4.lt
        clear hO4 hA4 HO3 HA3
        by_cases hj8 : j < 8
        · have hx : (lenB bs.length).take (j + 1) = (lenB bs.length).take j ++ [UInt8.ofNat (8 * bs.length / 2 ^ (8 * (7 - j)) % 256)] := by
            rw [List.take_add_one]
            simp [lenB, hj8]
          have HX := Lib.hid hx
          clear hx
          go_wp2_with (at_builtin; refine wpList_appB (base := w.heap.size + 1) elem_u8 rfl _ _ rfl (xs := bs ++ [0x80] ++ List.replicate z 0 ++ (lenB bs.length).take j) (news := [UInt8.ofNat (8 * bs.length / 2 ^ (8 * (7 - j)) % 256)]) rfl ?o1 rfl ?p1 ?p3 ?p4 ?_)
          case o1 => exact HO4.out.alloc _
          case p1 =>
            refine bs_lit _ _ _ _ ?_
            rw [← u8c_mod]
            congr 2
            simp [Int.mul_comm]
          case p3 =>
            have : ((lenB bs.length).take j).length ≤ 8 := by simp; omega
            simp; omega
          case p4 => simp; omega
          intro v5 w5 hown5 hgr5
          have hb5 : Below w.heap.size w w5 := (hb4.alloc hb4.size _).grown hgr5 (by simp; omega) (fun k hk => by have := HO4.out.base k hk; omega)
          have hA5 : ArrAt w5 w.heap.size 30 32 (fun _ => .int .u8 0) := (HA4.out.alloc _).grown hgr5 (fun e => by have := HO4.out.base _ e.symm; omega)
          have hown6 : OwnB w5 (w.heap.size + 1) 5 v5 (bs ++ [0x80] ++ List.replicate z 0 ++ (lenB bs.length).take (j + 1)) := by
            rw [HX.out]; simpa using hown5
          clear hown5
          obtain ⟨a5, c5, rfl⟩ := hown6.form
          have l5 : (bs ++ [0x80] ++ List.replicate z (0 : UInt8) ++ (lenB bs.length).take (j + 1)).length = bs.length + 1 + z + (j + 1) := by simp [lenB]; omega
          rw [l5] at hown6 ⊢
          have HO5 := Lib.hid hown6
          have HA5 := Lib.hid hA5
          clear hown6 hA5 hgr5 l5 HX
          go_wp2
          go_roundw
          case rel => exact ⟨j + 1, by omega, by congr 1; omega, ⟨a5, c5, rfl⟩, HO5.out, HA5.out, hb5⟩
          case measure => simp only [intOf]; omega
        · obtain rfl : j = 8 := by omega
          have hE4 := HE.out.below hb4
          have hp : bs ++ [0x80] ++ List.replicate z 0 ++ (lenB bs.length).take 8 = pad bs := by
            unfold pad
            rw [HZ.out, List.take_of_length_le (by simp [lenB])]
          have hpl : (pad bs).length = bs.length + 1 + z + 8 := by rw [← hp]; simp [lenB]; omega
          have hO5 := HO4.out
          rw [hp] at hO5
          obtain ⟨g, c5, he, hg1, hg2, hg3, hg4⟩ := hO5.solid (by omega)
          obtain ⟨M, hM⟩ : ∃ M, bs.length + 1 + z + 8 = 64 * M := ⟨(bs.length + 1 + z + 8) / 64, by have := HQ.out; omega⟩
          simp only [Value.slice.injEq] at he
          obtain ⟨rfl, -, rfl⟩ := he
          have hMb : 64 * M ≤ 1099511627976 := by unfold padZ at hz; omega
          rw [hM] at hpl hO5 ⊢
          rw [hpl] at hg3
          have HO5 := Lib.hid hO5
          have HE4 := Lib.hid hE4
          have HPL := Lib.hid hpl
          have HM := Lib.hid hM
          have s0 : wr.cell? ⟨0, 0, none⟩ = some (.int .u32 (hTab 0)) := hE4.start 0 (by omega)
          have s1 : wr.cell? ⟨0, 1, none⟩ = some (.int .u32 (hTab 1)) := hE4.start 1 (by omega)
          have s2 : wr.cell? ⟨0, 2, none⟩ = some (.int .u32 (hTab 2)) := hE4.start 2 (by omega)
          have s3 : wr.cell? ⟨0, 3, none⟩ = some (.int .u32 (hTab 3)) := hE4.start 3 (by omega)
          have s4 : wr.cell? ⟨0, 4, none⟩ = some (.int .u32 (hTab 4)) := hE4.start 4 (by omega)
          have s5 : wr.cell? ⟨0, 5, none⟩ = some (.int .u32 (hTab 5)) := hE4.start 5 (by omega)
          have s6 : wr.cell? ⟨0, 6, none⟩ = some (.int .u32 (hTab 6)) := hE4.start 6 (by omega)
          have s7 : wr.cell? ⟨0, 7, none⟩ = some (.int .u32 (hTab 7)) := hE4.start 7 (by omega)
          rw [show (7 : Int) - ((8 : Nat) : Int) = -1 from rfl]
          clear hO5 HO4 hE4 hp hpl hM
          go_wp2
          clear s0 s1 s2 s3 s4 s5 s6 s7
          obtain ⟨wo, rfl⟩ : ∃ wo : World, wo = wr := ⟨_, rfl⟩
          go_loopw [6] (fun v wr => ∃ m : Nat, m ≤ M ∧ v = .int .i64 (64 * (m : Int)) ∧ ArrAt wr wo.heap.size 107 8 (U (sumH (pad bs) m)) ∧ Below wo.heap.size wo wr) (fun v _ => (64 * (M : Int) - intOf v).toNat)
          case atStart => exact ⟨0, Nat.zero_le _, rfl, arr_alloc _ _ _ _ _ rfl, (Below.refl _ _).alloc (Nat.le_refl _) _⟩
          case round =>
            obtain ⟨m, hm, rfl, hS, hb5⟩ := hrel
            have HS := Lib.hid hS
            clear hS
            by_cases hmM : m < M
            · have hsl : 64 * m + 64 ≤ 64 * M := by omega
              have hE6 := HE4.out.below hb5
              have hO6 := HO5.out.below hb5
              have HO6 := Lib.hid hO6
              have HE6 := Lib.hid hE6
              clear hE6 hO6
              go_wp2_with (fail)
              rw [show 64 * m + 64 - 64 * m = 64 from by omega]
              refine (blk wr wo.heap.size g (64 * m) _ _ (fun i => ((pad bs).getD (64 * m + i) 0).toNat) HS.out ?_ ?_ (fun i => by omega) (fun i => ?_) kTab HE6.out.rounds (by omega)).mono ?_
              case refine_1 => exact sumH_range _ _
              case refine_2 =>
                intro i hi
                have hlt : 64 * m + i < (pad bs).length := by rw [HPL.out]; omega
                rw [HO6.out.at_ (64 * m + i) hlt]
                simp [u8c, hlt]
              case refine_3 => have := ((pad bs).getD (64 * m + i) 0).toNat_lt; omega
              rintro e w' ⟨rfl, hg6, hS6⟩
              have HS6 := Lib.hid hS6
              have hb6 : Below wo.heap.size wo w' := hb5.grown hg6 hb5.size (by rintro k h; cases h; exact Nat.le_refl _)
              clear hg6 hS6
              go_wp2
              exact ⟨⟨m + 1, by omega, by congr 1, HS6.out, hb6⟩, by simp only [intOf]; omega⟩
            · obtain rfl : m = M := by omega
              go_wp2
              obtain ⟨wp, rfl⟩ : ∃ wp : World, wp = wr := ⟨_, rfl⟩
              have hs5 := HS.out.lt
              go_loopw [8, 49] (fun _ v wr => ∃ k : Nat, k ≤ 32 ∧ v = .int .i64 k ∧ ArrAt wr wp.heap.size 30 32 (outF (sumH (pad bs) m) k) ∧ Below wp.heap.size wp wr) (fun _ v _ => 32 - (intOf v).toNat)
              case atStart => exact ⟨0, Nat.zero_le _, rfl, arr_alloc _ _ _ _ _ rfl, (Below.refl _ _).alloc (Nat.le_refl _) _⟩
              case round =>
                obtain ⟨k, hk, rfl, hO, hb7⟩ := hrel
                have HO := Lib.hid hO
                by_cases hk32 : k < 32
                · have x1 : wr.cell? ⟨wo.heap.size, k / 4, none⟩ = some (.int .u32 (sumH (pad bs) m (k / 4))) := (HS.out.below hb7 hs5).cell _ (by omega)
                  have x2 : wr.cell? ⟨wp.heap.size, k, none⟩ = some (outF (sumH (pad bs) m) k k) := hO.cell k hk32
                  have x3 : wr.frozen? ⟨wp.heap.size, k, none⟩ = false := hO.free k
                  have x4 := hO.set k (.int .u8 (sumH (pad bs) m (k / 4) / 2 ^ (24 - 8 * (k % 4)) % 256))
                  rw [outF_succ] at x4
                  have HX := Lib.hid x4
                  clear hO x4
                  have r1 := (sumH_range (pad bs) m (k / 4)).1
                  have r2 := (sumH_range (pad bs) m (k / 4)).2
                  have hk1 : k + 1 ≤ 32 := by omega
                  go_wp2
                  exact ⟨⟨k + 1, hk1, by go_num, HX.out, below_set hb7 _ _⟩, by clear HX; simp [intOf]; omega⟩
                · obtain rfl : k = 32 := by omega
                  have hr : wr.rangeAt wp.heap.size 0 (bcs (sha bs)) := by
                    have := hO.rangeAt
                    rw [outF_all] at this
                    have e : sha bs = outB (sumH (pad bs) m) := by
                      unfold sha
                      rw [HPL.out, Nat.mul_div_cancel_left m (by omega)]
                    rw [e]; exact this
                  have ht : wr.there w.heap.size 0 (bcs (sha bs)).toArray.size := by
                    have := ((HA4.out.below hb5 hs4).below hb7 (by have := hb5.size; omega)).there
                    simpa [bcs, sha_length] using this
                  have hbw : Below w.heap.size w wr := (hb4.trans (hb5.mono hb4.size)).trans (hb7.mono (Nat.le_trans hb4.size hb5.size))
                  have hi : (Tryz.prog.info? 30).map (·.size) = some (bcs (sha bs)).length := by
                    rw [bcs_length, sha_length]; kernel_rfl
                  have hi' : (Tryz.prog.info? 30).map (·.size) = some (bcs (sha bs)).toArray.size := by
                    simpa using hi
                  have HR := Lib.hid hr
                  have HT := Lib.hid ht
                  have HI := Lib.hid hi
                  have HJ := Lib.hid hi'
                  clear hO hr ht hi hi'
                  go_wp2_with (first | (refine wpList_load_mid rfl _ _ rfl wp.heap.size 0 rfl _ _ HR.out Tryz.underlying30 rfl HI.out ?_) | (refine wpList_store_mid rfl _ _ _ rfl w.heap.size 0 (bcs (sha bs)).toArray rfl rfl HT.out HJ.out (bcs_all _) ?_))
                  refine bodyPost_ret (results_cell_mid rfl _ _ w.heap.size 0 (bcs (sha bs)) _ rfl ?_ Tryz.underlying30 rfl HI.out) rfl ⟨rfl, below_setCells hbw (Nat.le_refl _) _ _⟩
                  have := World.rangeAt_setCells_same wr w.heap.size 0 (bcs (sha bs)) (by simpa using HT.out)
                  simpa using this
    · have hb : ((((bs.length : Int) + 1 + (z : Int)) % 64) != 56) = true := by simp; omega
      have hz1 : z + 1 ≤ padZ bs.length := by unfold padZ at *; omega
      go_wp2_with (at_builtin; refine wpList_appB (base := w.heap.size + 1) elem_u8 rfl _ _ rfl (xs := bs ++ [0x80] ++ List.replicate z 0) (news := [0]) rfl ?o1 rfl ?p1 ?p3 ?p4 ?_)
      case o1 => exact HO3.out.alloc _
      case p1 => exact bs_lit _ _ _ _ rfl
      case p3 => simp; omega
      case p4 => simp; omega
      intro v4 w4 hown4 hgr4
      have hb4 : Below w.heap.size w w4 := (hb3.alloc hb3.size _).grown hgr4 (by simp; omega) (fun k hk => by have := HO3.out.base k hk; omega)
      have hA4 : ArrAt w4 w.heap.size 30 32 (fun _ => .int .u8 0) := (HA3.out.alloc _).grown hgr4 (fun e => by have := HO3.out.base _ e.symm; omega)
      have e4 : bs ++ 128 :: (List.replicate z 0 ++ [0]) = bs ++ [0x80] ++ List.replicate (z + 1) (0 : UInt8) := by
        rw [List.replicate_succ']; simp
      rw [e4] at hown4
      obtain ⟨a4, c4, rfl⟩ := hown4.form
      have l4 : (bs ++ [0x80] ++ List.replicate (z + 1) (0 : UInt8)).length = bs.length + 1 + (z + 1) := by simp; omega
      rw [l4] at hown4 ⊢
      have HO4 := Lib.hid hown4
      have HA4 := Lib.hid hA4
      clear hown4 hA4 hgr4 e4 l4
      go_wp2
      go_roundw
      case rel => exact ⟨z + 1, hz1, ⟨a4, c4, rfl⟩, HO4.out, HA4.out, hb4⟩
      case measure => simp only [lenV]; omega
end Go.Proofs.YtbenjjaofabdcaaGreatDoor
