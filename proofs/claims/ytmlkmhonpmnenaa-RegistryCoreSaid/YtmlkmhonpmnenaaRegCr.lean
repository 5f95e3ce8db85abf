/- RegistryCore's walk: the document's own hooks, each of another name; what is told of them is its own no more. -/
import Derived.Test.YtmlkmhonpmnenaaRegP
namespace Go.Proofs.Ytmlkmhonpmnenaa
open Go.RowKit Go.Lib Go.Maps

theorem core_adds : ((List.range 25).all fun k => addB (coreL.take k) (coreL.getD k default)) = true := by kernel_rfl
theorem core_len : coreL.length = 25 := rfl
theorem core_at {k : Nat} (hk : k < 25) : addB (coreL.take k) (coreL[k]'(by rw [core_len]; exact hk)) = true ∧ addL (coreL.take k) (coreL[k]'(by rw [core_len]; exact hk)) = coreL.take (k + 1) := by
  have h := List.all_eq_true.1 core_adds k (List.mem_range.2 hk)
  have e : coreL.getD k default = coreL[k]'(by rw [core_len]; exact hk) := by
    rw [List.getD_eq_getElem?_getD, List.getElem?_eq_getElem (by rw [core_len]; exact hk)]; rfl
  rw [e] at h
  exact ⟨h, by rw [addL_of h, if_pos rfl, List.take_succ_eq_append_getElem]⟩
theorem core_names : (coreL.all fun x => decide (x.name.length ≤ 300)) = true := by kernel_rfl
theorem core_name {x : Hk} (hx : x ∈ coreL) : x.name.length ≤ maxLen := by
  have h := List.all_eq_true.1 core_names x hx
  have h : x.name.length ≤ 300 := by simpa using h
  unfold maxLen; omega
/-- How many hooks are of a phase below k. -/
def cntP (k : Nat) : Nat := ((List.range k).map fun (q : Nat) => ((srt (coreL.filter (onB 127))).filter (fun x => x.phase == (q : Int))).length).sum
theorem cntP_succ (k : Nat) : cntP (k + 1) = cntP k + ((srt (coreL.filter (onB 127))).filter (fun x => x.phase == (k : Int))).length := by
  unfold cntP
  rw [List.range_succ, List.map_append, List.sum_append]
  simp
theorem cntP_ends : cntP 1 = 0 ∧ cntP 5 = 25 := by constructor <;> kernel_rfl
theorem cntP_le (k : Nat) (hk : k ≤ 5) : cntP k ≤ 25 := by
  have h : ∀ n m : Nat, n ≤ m → cntP n ≤ cntP m := fun n m h => by
    induction h with
    | refl => exact Nat.le_refl _
    | step _ ih => rw [cntP_succ]; omega
  rw [← cntP_ends.2]; exact h k 5 hk
theorem and127 : bits .and .i64 127 127 = 127 := by decide
theorem mask16 (x : Int) : 0 ≤ bits .and .i64 x 65535 ∧ bits .and .i64 x 65535 ≤ 65535 := bits_and_range x 65535 (by decide)

set_option maxRecDepth 100000 in
set_option maxHeartbeats 8000000 in
theorem core_walk (k : Int) (w : World) :
    Calls Try.prog 7 #[.int .i64 k] w fun e w' => e = .returned (.bool true) ∧ Below w.heap.size w w' := by
  have hnew := fun w => new_any 127 w
  rw [and127] at hnew
  have HN := Lib.hid hnew
  obtain ⟨m0, m1⟩ := mask16 k
  obtain ⟨y, hy⟩ : ∃ y, bits .and .i64 k 65535 = y := ⟨_, rfl⟩
  rw [hy] at m0 m1
  obtain ⟨j, hj, hj25⟩ : ∃ j : Nat, y % 25 = (j : Int) ∧ j < 25 := ⟨(y % 25).toNat, by omega, by omega⟩
  have hj0 : (0 : Int) ≤ (j : Int) := by omega
  have hj1 : (j : Int) < 25 := by omega
  have HJ := Lib.hid hj
  have HY := Lib.hid hy
  clear hnew hj hy
  go_enter Try.func7, Try.ntmps7
  go_wp2_with fail
  refine (awake7_any _).mono ?_
  rintro e w1 ⟨rfl, b1⟩
  go_wp2_with fail
  refine (core_any _).mono ?_
  rintro e w2 ⟨rfl, o2, g2, s2⟩
  have b2 := below_only b1 g2 (Nat.le_refl _) (fun j hj => by cases hj)
  have hw1 := b1.size
  have hw2 : w1.heap.size < w2.heap.size := by omega
  clear s2 b1
  go_wp2_with fail
  refine (rcore_any _).mono ?_
  rintro e w3 ⟨rfl, o3, g3, s3⟩
  have b3 := below_only b2 g3 (Nat.le_refl _) (fun j hj => by cases hj)
  have o23 := own_kept_none o2 g3
  have hs := same_eq (some ⟨w1.heap.size, 0, none⟩) (some ⟨w2.heap.size, 0, none⟩) 25 25 _ _ coreL w3 (by decide) o23 o3
  rw [core_len] at hs
  have HSA := Lib.hid hs
  clear s3 b2 hs o3 o2 g2
  go_wp2_with fail
  refine HSA.out.mono ?_
  rintro e w4 ⟨rfl, g4⟩
  have b4 := below_only b3 g4 (Nat.le_refl _) (fun j hj => by cases hj)
  have o4 := own_kept_none o23 g4
  obtain ⟨c0, -⟩ := hk_cell o4 (k := j) (by rw [core_len]; exact hj25) (coreL[j]'(by rw [core_len]; exact hj25)) rfl
  have z0 : w4.frozen? ⟨w1.heap.size, j * 5, none⟩ = false := by
    rcases o4.2 with ⟨h, _⟩ | ⟨g, cap, cur, h, _, hh, _⟩
    · cases h
    · have hg : w1.heap.size = g := by injection h with h _ _; injection h with h; injection h
      rw [← hg] at hh
      exact Blk.frozen (t := HT) (cs := cur) hh (j * 5)
  have B4 := Lib.hid b4
  have hy := HY.out
  have hj := HJ.out
  clear o4 o23 g3 b3 b4 g4 HSA
  go_wp2_with fail
  clear hy hj
  have b5 : Below w.heap.size w (w4.setCell ⟨w1.heap.size, j * 5, none⟩ (.string ⟨#[120]⟩)) := B4.out.setCell hw1 _
  have hs5 := b5.size
  refine (HN.out _).mono ?_
  rintro e w5 ⟨b, mb, rfl, r5, b5'⟩
  have b6 := b5.trans (b5'.mono hs5)
  have hbase : w.heap.size ≤ b ∧ w.heap.size ≤ mb := ⟨Nat.le_trans hs5 r5.1, Nat.le_trans hs5 r5.2.1⟩
  have hbl := r5.lt
  have B6 := Lib.hid b6
  have R5 := Lib.hid r5
  have hbase5 := r5.1
  clear b5 b5' b6 r5 B4 c0 z0 hs5
  go_wp2_with fail
  refine (core_any _).mono ?_
  rintro e w6 ⟨rfl, o6, g6, s6⟩
  have b6 := below_only B6.out g6 (Nat.le_refl _) (fun j hj => by cases hj)
  have r6 := R5.out.kept g6 (by simp) (by simp)
  have hgm : w5.heap.size ≠ b := by omega
  have hgm2 : w5.heap.size ≠ mb := by omega
  have O6 := Lib.hid o6
  have B7 := Lib.hid b6
  have R6 := Lib.hid r6
  obtain ⟨W5, hW5⟩ : ∃ W5, w5.heap.size = W5 := ⟨_, rfl⟩
  rw [hW5] at hgm hgm2 hbl
  have HW5 := Lib.hid hW5
  clear o6 g6 s6 b6 r6 B6 R5 hW5
  go_wp2_with fail
  rw [HW5.out]
  go_loopw [7] (fun i wr => ∃ q : Nat, i = .int .i64 q ∧ q ≤ 25 ∧ RegO wr (w4.setCell ⟨w1.heap.size, j * 5, none⟩ (.string ⟨#[120]⟩)).heap.size b mb 127 (coreL.take q) 0 ∧ wr.ownsRow W5 HT 5 (.slice (some ⟨W5, 0, none⟩) 25 25) 25 (hkCells coreL) ∧ Below w.heap.size w wr) (fun i _ => 25 - (intOf i).toNat)
  case atStart => exact ⟨0, rfl, Nat.zero_le _, R6.out, by rw [← HW5.out]; exact O6.out, B7.out⟩
  case round =>
    obtain ⟨q, rfl, hq, hR, hO, hB⟩ := hrel
    by_cases hlt : q < 25
    · have hql : (q : Int) < 25 := by omega
      have hq0 : (0 : Int) ≤ (q : Int) := by omega
      have hqc : q < coreL.length := by rw [core_len]; exact hlt
      obtain ⟨a0, a1, a2, a3, a4⟩ := hk_cell hO hqc coreL[q] rfl
      obtain ⟨f1, f2⟩ := core_at hlt
      have hnm := core_name (List.getElem_mem hqc)
      obtain ⟨x, hx⟩ : ∃ x, coreL[q] = x := ⟨_, rfl⟩
      have hadd := add_open _ b mb 127 0 (coreL.take q) x wr hR (by rw [List.length_take, core_len]; unfold maxLen; omega) (by rw [← hx]; exact hnm)
      rw [hx] at a0 a1 a2 a3 a4 f1 f2
      rw [f1, f2] at hadd
      have HA := Lib.hid hadd
      have HO := Lib.hid hO
      have HB := Lib.hid hB
      clear hadd f1 f2 hx hO hB hR hnm
      obtain ⟨xn, xp, xr, xt, xb⟩ := x
      simp only [hkV, hkC] at HA
      go_wp2_with fail
      refine HA.out.mono ?_
      rintro e w7 ⟨rfl, r7, g7⟩
      have o7 := HO.out.kept g7 (.inr (by simpa [Value.ownBlock] using hgm2))
      have b7 := below_only HB.out g7 (Nat.le_refl _) (fun j hj => by cases hj; exact hbase.2)
      have O7 := Lib.hid o7
      have B8 := Lib.hid b7
      have R7 := Lib.hid r7
      clear o7 b7 r7 g7 HO HB HA
      go_wp2
      go_roundw
      case rel => exact ⟨q + 1, by go_num, by omega, R7.out, O7.out, B8.out⟩
      case measure => simp [intOf]; omega
    · have hke : q = 25 := by omega
      subst hke
      rw [List.take_of_length_le (by rw [core_len]; exact Nat.le_refl _)] at hR
      have hcg : coreL.length ≤ 1000000 := by decide
      obtain ⟨e1, e5⟩ := cntP_ends
      have E1 := Lib.hid e1
      have E5 := Lib.hid e5
      have HR := Lib.hid (reg_of_open hR)
      have HO := Lib.hid hO
      have HB := Lib.hid hB
      clear hR hO hB e1 e5
      go_wp2_with fail
      go_loopw [8, 9] (fun n p wr => ∃ (q : Nat) (sl : Bool), p = .int .i64 q ∧ 1 ≤ q ∧ q ≤ 5 ∧ n = .int .i64 (cntP q) ∧ Reg wr (w4.setCell ⟨w1.heap.size, j * 5, none⟩ (.string ⟨#[120]⟩)).heap.size b mb 127 coreL sl 0 ∧ wr.ownsRow W5 HT 5 (.slice (some ⟨W5, 0, none⟩) 25 25) 25 (hkCells coreL) ∧ Below w.heap.size w wr) (fun _ p _ => 5 - (intOf p).toNat)
      case atStart => exact ⟨1, false, rfl, Nat.le_refl _, by omega, by rw [E1.out]; rfl, HR.out, HO.out, HB.out⟩
      case round =>
        obtain ⟨q, sl, rfl, hq1, hq5, rfl, hR2, hO2, hB2⟩ := hrel
        have hle := cntP_le q hq5
        by_cases hlt : q < 5
        · have hql : (q : Int) ≤ 4 := by omega
          have hsrt := sorted_any (q : Int) _ b mb 127 0 coreL sl wr hR2 hcg
          have hcs := cntP_succ q
          have hle2 := cntP_le (q + 1) (by omega)
          obtain ⟨R, hRR⟩ : ∃ R, (srt (coreL.filter (onB 127))).filter (fun x => x.phase == (q : Int)) = R := ⟨_, rfl⟩
          rw [hRR] at hsrt hcs
          have HS := Lib.hid hsrt
          have HCS := Lib.hid hcs
          have HO2 := Lib.hid hO2
          have HB2 := Lib.hid hB2
          have hrl : cntP q + R.length ≤ 25 := by omega
          clear hsrt hcs hRR hO2 hB2 hR2
          go_wp2_with fail
          refine HS.out.mono ?_
          rintro e w7 ⟨A7, c7, rfl, r7, -, g7⟩
          have o7 := HO2.out.kept g7 (.inr (by simpa [Value.ownBlock] using hgm))
          have b7 := below_only HB2.out g7 (Nat.le_refl _) (fun j hj => by cases hj; exact hbase.1)
          have O7 := Lib.hid o7
          have B8 := Lib.hid b7
          have R7 := Lib.hid r7
          clear o7 b7 r7 g7 HO2 HB2 HS
          go_wp2
          go_roundw
          case rel => first | exact ⟨q + 1, true, by go_num, by omega, by omega, by rw [HCS.out]; go_num, R7.out, O7.out, B8.out⟩ | ((repeat apply Exists.intro); exact ⟨⟨q + 1, true, by go_num, by omega, by omega, by rw [HCS.out]; go_num, R7.out, O7.out, B8.out⟩, rfl⟩)
          case measure => simp [intOf]; omega
        · have hke : q = 5 := by omega
          subst hke
          have O2 := Lib.hid hO2
          have B2 := Lib.hid hB2
          have h25 : ((cntP 5 : Nat) : Int) = 25 := by rw [E5.out]; rfl
          clear hO2 hB2 hR2
          go_wp2_with fail
          refine (rcore_any _).mono ?_
          rintro e w8 ⟨rfl, o8, g8, s8⟩
          have b8 := below_only B2.out g8 (Nat.le_refl _) (fun j hj => by cases hj)
          have hs := same_eq (some ⟨W5, 0, none⟩) (some ⟨wr.heap.size, 0, none⟩) 25 25 _ _ coreL w8 (by decide) (own_kept_none O2.out g8) o8
          rw [core_len] at hs
          have HSA := Lib.hid hs
          have B8 := Lib.hid b8
          clear hs o8 g8 s8 b8
          go_wp2_with fail
          refine HSA.out.mono ?_
          rintro e w9 ⟨rfl, g9⟩
          go_wp2
          go_ret
          exact ⟨rfl, below_only B8.out g9 (Nat.le_refl _) (fun j hj => by cases hj)⟩
end Go.Proofs.Ytmlkmhonpmnenaa
