/- RegistryBits' walk: hooks whose bits the mask has not are not told; with all bits all are. -/
import Derived.Test.YtmlkmhonpmnenaaRegQ
namespace Go.Proofs.Ytmlkmhonpmnenaa
open Go.RowKit Go.Lib Go.Maps

/-- A hook as the law lays it: of phase 1, its bits masked. -/
def bitH (x : Hk) : Hk := ⟨x.name, 1, x.prio, x.trig, bits .and .i64 x.bit 127⟩
def AllBit (L : List Hk) : Prop := ∀ h ∈ L, ∃ x, h = bitH x
theorem AllBit.add {L : List Hk} (h : AllBit L) (x : Hk) : AllBit (addL L (bitH x)) := by
  unfold addL
  split
  · intro g hg
    rcases List.mem_append.1 hg with hg | hg
    · exact h g hg
    · simp only [List.mem_singleton] at hg
      exact ⟨x, hg⟩
  · exact h
theorem AllBit.all {L : List Hk} (h : AllBit L) : ((srt (L.filter (onB 127))).filter (fun x => x.phase == 1)).length = L.length := by
  have e1 : L.filter (onB 127) = L := List.filter_eq_self.2 fun g hg => by obtain ⟨x, rfl⟩ := h g hg; exact onB_all (x := x.bit) rfl
  have e2 : (srt L).filter (fun x => x.phase == 1) = srt L := List.filter_eq_self.2 fun g hg => by obtain ⟨x, rfl⟩ := h g ((srt_perm L).mem_iff.1 hg); rfl
  rw [e1, e2]; exact (srt_perm L).length_eq
theorem told_len (L : List Hk) (m : Int) : ((srt (L.filter (onB m))).filter (fun x => x.phase == 1)).length ≤ L.length :=
  Nat.le_trans (List.length_filter_le _ _) (by rw [(srt_perm _).length_eq]; exact List.length_filter_le _ _)
theorem told_bit {L : List Hk} {m : Int} {x : Hk} (h : x ∈ (srt (L.filter (onB (bits .and .i64 m 127)))).filter (fun x => x.phase == 1)) (hb : x.bit ≠ 0) : bits .and .i64 x.bit m ≠ 0 := by
  have h1 := (List.mem_filter.1 h).1
  have h2 := (List.mem_filter.1 ((srt_perm _).mem_iff.1 h1)).2
  exact (onB_mask h2 hb).1

set_option maxRecDepth 100000 in
set_option maxHeartbeats 8000000 in
theorem bits_walk (m : Int) (A : Option Addr) (cap : Nat) (S : List Hk) (w : World) (h : HkIn w A S) :
    Calls Try.prog 8 #[.int .i64 m, .slice A S.length cap] w fun e w' => e = .returned (.bool true) ∧ Below w.heap.size w w' := by
  have HH := Lib.hid h
  clear h
  by_cases h2 : 40 < S.length
  · have h2' : (40 : Int) < (S.length : Int) := by omega
    go_enter Try.func8, Try.ntmps8
    go_wp2_with fail
    refine (awake7_any _).mono ?_
    rintro e w1 ⟨rfl, hb1⟩
    go_wp2
    go_ret
    exact ⟨rfl, hb1⟩
  · have h2' : (S.length : Int) ≤ 40 := by omega
    have HN1 := Lib.hid (fun w => new_any m w)
    have hnew := fun w => new_any 127 w
    rw [bits_and_127] at hnew
    have HN2 := Lib.hid hnew
    clear hnew
    go_enter Try.func8, Try.ntmps8
    go_wp2_with fail
    refine (awake7_any _).mono ?_
    rintro e w1 ⟨rfl, b1⟩
    have B1 := Lib.hid b1
    have hs1 := b1.size
    clear b1
    go_wp2_with fail
    refine (HN1.out _).mono ?_
    rintro e w2 ⟨b, mb, rfl, r2, b2⟩
    have b2' : Below w.heap.size w w2 := B1.out.trans (b2.mono hs1)
    have B2 := Lib.hid b2'
    have R2 := Lib.hid r2
    have q1 := r2.1
    have q2 := r2.2.1
    have q3 := r2.lt
    have hs2 := b2.size
    clear r2 b2 b2' B1
    go_wp2_with fail
    refine (HN2.out _).mono ?_
    rintro e w3 ⟨c, mc, rfl, r3, b3⟩
    have b3' : Below w.heap.size w w3 := B2.out.trans (b3.mono (Nat.le_trans hs1 hs2))
    have q4 := r3.1
    have q5 := r3.2.1
    have q6 := r3.lt
    have r23 : RegO w3 w1.heap.size b mb (bits .and .i64 m 127) [] 0 := R2.out.kept (only_of_below b3 none) (by simp) (by simp)
    have hap : Apart b mb c mc := ⟨by omega, by omega, by omega, by omega⟩
    have HAP := Lib.hid hap
    have B3 := Lib.hid b3'
    have R3 := Lib.hid r23
    have R4 := Lib.hid r3
    clear r3 r23 b3 b3' B2 R2 hap
    go_wp2_with fail
    go_loopw [8, 9] (fun n i wr => ∃ (k : Nat) (L : List Hk), i = .int .i64 k ∧ k ≤ S.length ∧ n = .int .i64 (L.length : Nat) ∧ L.length ≤ k ∧ AllBit L ∧ RegO wr w1.heap.size b mb (bits .and .i64 m 127) L 0 ∧ RegO wr w2.heap.size c mc 127 L 0 ∧ Below w.heap.size w wr) (fun _ i _ => S.length - (intOf i).toNat)
    case atStart => exact ⟨0, [], rfl, Nat.zero_le _, rfl, Nat.le_refl _, fun _ h => by simp at h, R3.out, R4.out, B3.out⟩
    case round =>
      obtain ⟨k, L, rfl, hk, rfl, hLk, hAB, hr1, hr2, hB⟩ := hrel
      by_cases hlt : k < S.length
      · have hkl : (k : Int) < (S.length : Int) := by omega
        obtain ⟨x, hx⟩ : ∃ x, S[k] = x := ⟨_, rfl⟩
        have hin := HH.out.below hB
        obtain ⟨bk, off, rfl, hbk, c0, c1, c2, c3, c4⟩ := hin.at_ hlt x hx
        have HB := Lib.hid hB
        have HR1 := Lib.hid hr1
        have HR2 := Lib.hid hr2
        have HAB := Lib.hid hAB
        have hws : w.heap.size ≤ wr.heap.size := hB.size
        clear hin hx hB hr1 hr2 hAB
        obtain ⟨xn, xp, xr, xt, xb⟩ := x
        simp only at c0 c1 c2 c3 c4
        have hz1 := ba_sz xn
        have hz2 := ba_sz xt
        by_cases hn3 : 300 < xn.length
        · have hn3' : (300 : Int) < ((⟨xn.toArray⟩ : ByteArray).size : Int) := by rw [hz1]; omega
          have hn3'' : (300 : Int) < (xn.length : Int) := by omega
          clear hz1 hz2
          go_wp2
          go_ret
          exact ⟨rfl, below_only HB.out (only_alloc (only_refl _ none) _) (Nat.le_refl _) (fun j hj => by cases hj)⟩
        · have hn3' : ((⟨xn.toArray⟩ : ByteArray).size : Int) ≤ 300 := by rw [hz1]; omega
          have hn3'' : (xn.length : Int) ≤ 300 := by omega
          by_cases ht3 : 300 < xt.length
          · have ht3' : (300 : Int) < ((⟨xt.toArray⟩ : ByteArray).size : Int) := by rw [hz2]; omega
            have ht3'' : (300 : Int) < (xt.length : Int) := by omega
            clear hz1 hz2
            go_wp2
            go_ret
            exact ⟨rfl, below_only HB.out (only_alloc (only_refl _ none) _) (Nat.le_refl _) (fun j hj => by cases hj)⟩
          · have ht3' : ((⟨xt.toArray⟩ : ByteArray).size : Int) ≤ 300 := by rw [hz2]; omega
            have ht3'' : (xt.length : Int) ≤ 300 := by omega
            clear hz1 hz2
            have hLm : L.length < maxLen := by unfold maxLen; omega
            have hnm : (bitH ⟨xn, xp, xr, xt, xb⟩).name.length ≤ maxLen := by show xn.length ≤ maxLen; unfold maxLen; omega
            have hA1 := fun W h => add_open w1.heap.size b mb (bits .and .i64 m 127) 0 L (bitH ⟨xn, xp, xr, xt, xb⟩) W h hLm hnm
            have hA2 := fun W h => add_open w2.heap.size c mc 127 0 L (bitH ⟨xn, xp, xr, xt, xb⟩) W h hLm hnm
            have hab2 := HAB.out.add ⟨xn, xp, xr, xt, xb⟩
            have hh := Blk.new wr HT (hkC (bitH ⟨xn, xp, xr, xt, xb⟩)).toArray
            have hra1 := HR1.out.kept (only_alloc (only_refl wr none) (.cells (hkC (bitH ⟨xn, xp, xr, xt, xb⟩)).toArray HT)) (by simp) (by simp)
            have hra2 := HR2.out.kept (only_alloc (only_refl wr none) (.cells (hkC (bitH ⟨xn, xp, xr, xt, xb⟩)).toArray HT)) (by simp) (by simp)
            have hba := below_only HB.out (only_alloc (only_refl wr none) (.cells (hkC (bitH ⟨xn, xp, xr, xt, xb⟩)).toArray HT)) (Nat.le_refl _) (fun j hj => by cases hj)
            have hmbl := HR1.out.lt.2
            obtain ⟨p1, p2, p3, p4⟩ := HAP.out
            cases ht : addB L (bitH ⟨xn, xp, xr, xt, xb⟩)
            all_goals
              rw [ht, addL_of ht] at hA1 hA2
              rw [addL_of ht] at hab2
              simp only [Bool.false_eq_true, if_false, if_true] at hA1 hA2 hab2
              have HA1 := Lib.hid hA1
              have HA2 := Lib.hid hA2
              have HHB := Lib.hid hh
              have HRA1 := Lib.hid hra1
              have HRA2 := Lib.hid hra2
              have HBA := Lib.hid hba
              have HAB2 := Lib.hid hab2
              clear hA1 hA2 hh hra1 hra2 hba hab2 ht HR1 HR2 HB HAB
              simp only [bitH, hkV, hkC] at HA1 HA2 HHB HRA1 HRA2 HBA
              go_wp2_with fail
              refine (HA1.out _ HRA1.out).mono ?_
              rintro e w4 ⟨rfl, r4, g4⟩
              have hh4 := HHB.out.grown g4 (by simp; omega)
              have d0 := hh4.cell 0
              have d1 := hh4.cell 1
              have d2 := hh4.cell 2
              have d3 := hh4.cell 3
              have d4 := hh4.cell 4
              have r24 := HRA2.out.kept g4 (by simpa using Ne.symm p3) (by simpa using Ne.symm p4)
              have b4 := below_only HBA.out g4 (Nat.le_refl _) (fun j hj => by cases hj; omega)
              have R14 := Lib.hid r4
              have R24 := Lib.hid r24
              have B4 := Lib.hid b4
              clear hh4 r4 r24 g4 b4 HA1 HRA1 HRA2 HBA HHB
              go_wp2_with fail
              refine (HA2.out _ R24.out).mono ?_
              rintro e w5 ⟨rfl, r5, g5⟩
              have r15 := R14.out.kept g5 (by simpa using p2) (by simpa using p4)
              have b5 := below_only B4.out g5 (Nat.le_refl _) (fun j hj => by cases hj; omega)
              have R15 := Lib.hid r15
              have R25 := Lib.hid r5
              have B5 := Lib.hid b5
              clear r5 g5 r15 b5 HA2 R14 R24 B4
              go_wp2
              go_roundw
              case rel => first
                | exact ⟨k + 1, _, by go_num, by omega, rfl, by omega, HAB2.out, R15.out, R25.out, B5.out⟩
                | exact ⟨k + 1, _, by go_num, by omega, by simp, by simp; omega, HAB2.out, R15.out, R25.out, B5.out⟩
                | ((repeat apply Exists.intro); exact ⟨⟨k + 1, _, by go_num, by omega, rfl, by omega, HAB2.out, R15.out, R25.out, B5.out⟩, rfl⟩)
                | ((repeat apply Exists.intro); exact ⟨⟨k + 1, _, by go_num, by omega, by simp, by simp; omega, HAB2.out, R15.out, R25.out, B5.out⟩, rfl⟩)
              case measure => simp [intOf]; omega
      · have hke : k = S.length := by omega
        subst hke
        have hLg : L.length ≤ 1000000 := by omega
        have hs1' := sorted_any 1 w1.heap.size b mb (bits .and .i64 m 127) 0 L false wr (reg_of_open hr1) hLg
        have hs2' := fun W h => sorted_any 1 w2.heap.size c mc 127 0 L false W h hLg
        have hall := hAB.all
        have hle := told_len L (bits .and .i64 m 127)
        have hbit : ∀ x, x ∈ (srt (L.filter (onB (bits .and .i64 m 127)))).filter (fun x => x.phase == 1) → x.bit ≠ 0 → bits .and .i64 x.bit m ≠ 0 := fun x => told_bit
        obtain ⟨R1, hR1⟩ : ∃ R, (srt (L.filter (onB (bits .and .i64 m 127)))).filter (fun x => x.phase == 1) = R := ⟨_, rfl⟩
        obtain ⟨R2, hR2⟩ : ∃ R, (srt (L.filter (onB 127))).filter (fun x => x.phase == 1) = R := ⟨_, rfl⟩
        rw [hR1] at hs1' hle hbit
        rw [hR2] at hs2' hall
        rw [hall] at hs2'
        obtain ⟨p1, p2, p3, p4⟩ := HAP.out
        have HS1 := Lib.hid hs1'
        have HS2 := Lib.hid hs2'
        have HBIT := Lib.hid hbit
        have HB := Lib.hid hB
        have HR2 := Lib.hid hr2
        have hle' : (R1.length : Int) ≤ (L.length : Int) := by omega
        have hw1 : w.heap.size ≤ b := by omega
        have hw2 : w.heap.size ≤ c := by omega
        clear hs1' hs2' hall hbit hR1 hR2 hB hr1 hr2 hAB
        go_wp2_with fail
        refine HS1.out.mono ?_
        rintro e w4 ⟨A4, c4, rfl, -, o4, g4⟩
        have r24 := HR2.out.kept g4 (by simpa using Ne.symm p1) (by simpa using Ne.symm p2)
        have b4 := below_only HB.out g4 (Nat.le_refl _) (fun j hj => by cases hj; exact hw1)
        have R24 := Lib.hid r24
        have B4 := Lib.hid b4
        have O4 := Lib.hid o4
        clear r24 b4 o4 g4 HS1 HB HR2
        go_wp2_with fail
        go_loopw [12] (fun i wq => ∃ q : Nat, i = .int .i64 q ∧ q ≤ R1.length ∧ w4.grownBy wq none) (fun i _ => R1.length - (intOf i).toNat)
        case atStart => exact ⟨0, rfl, Nat.zero_le _, only_refl _ _⟩
        case round =>
          obtain ⟨q, rfl, hq, hg⟩ := hrel
          by_cases hlt : q < R1.length
          · have hql : (q : Int) < (R1.length : Int) := by omega
            obtain ⟨x, hx⟩ : ∃ x, R1[q] = x := ⟨_, rfl⟩
            have hmem : x ∈ R1 := by rw [← hx]; exact List.getElem_mem hlt
            have hxb := HBIT.out x hmem
            have ho := own_kept_none O4.out hg
            obtain ⟨ga, c1, e1, -, l1⟩ := ho.form (by omega)
            obtain ⟨rfl, rfl⟩ : A4 = some ⟨ga, 0, none⟩ ∧ c4 = c1 := by injection e1 with h1 _ h2; exact ⟨h1, h2⟩
            obtain ⟨c0, c1', c2, c3, d4⟩ := hk_cell ho hlt x hx
            have HG := Lib.hid hg
            clear ho e1 hx hmem hg c0 c1' c2 c3
            obtain ⟨xn, xp, xr, xt, xb⟩ := x
            simp only at hxb d4
            by_cases hz : xb = 0
            · have e0 : (xb != 0) = false := by simp [hz]
              clear hxb hz
              go_wp2
              go_roundw
              case rel => first | exact ⟨q + 1, by go_num, by omega, HG.out⟩ | ((repeat apply Exists.intro); exact ⟨⟨q + 1, by go_num, by omega, HG.out⟩, rfl⟩)
              case measure => simp [intOf]; omega
            · have e0 : (xb != 0) = true := by simp [hz]
              have e2 : (bits .and .i64 xb m == 0) = false := by simpa using hxb hz
              clear hxb hz
              go_wp2
              go_roundw
              case rel => first | exact ⟨q + 1, by go_num, by omega, HG.out⟩ | ((repeat apply Exists.intro); exact ⟨⟨q + 1, by go_num, by omega, HG.out⟩, rfl⟩)
              case measure => simp [intOf]; omega
          · have hqe : q = R1.length := by omega
            subst hqe
            have hreg := reg_of_open (R24.out.kept hg (by simp) (by simp))
            have hb := below_only B4.out hg (Nat.le_refl _) (fun j hj => by cases hj)
            have HREG := Lib.hid hreg
            have HBE := Lib.hid hb
            have eL : ((L.length : Int) == (L.length : Int)) = true := by simp
            clear hreg hb hg
            go_wp2_with fail
            refine (HS2.out _ HREG.out).mono ?_
            rintro e w6 ⟨A6, c6, rfl, -, -, g6⟩
            go_wp2
            go_ret
            exact ⟨rfl, below_only HBE.out g6 (Nat.le_refl _) (fun j hj => by cases hj; exact hw2)⟩
end Go.Proofs.Ytmlkmhonpmnenaa
