/- RegistrySorted's walk: hooks are told in order of priority, of one priority by name; all are of the phase, and on; those that a byte triggers are some of them. -/
import Derived.Test.YtmlkmhonpmnenaaRegQ
namespace Go.Proofs.Ytmlkmhonpmnenaa
open Go.RowKit Go.Lib Go.Maps

/-- The hooks told of a phase. -/
def toldP (L : List Hk) (m ph : Int) : List Hk := (srt (L.filter (onB m))).filter (fun x => x.phase == ph)
theorem toldP_dist {L : List Hk} (h : Dist L) (m ph : Int) : Dist (toldP L m ph) := by
  have h1 : Dist (L.filter (onB m)) := h.sublist List.filter_sublist
  have h2 : Dist (srt (L.filter (onB m))) := h1.perm (srt_perm _).symm
  exact h2.sublist List.filter_sublist
theorem toldP_lt {L : List Hk} (h : Dist L) (m ph : Int) : (toldP L m ph).Pairwise ltH := (srt_sorted (h.sublist List.filter_sublist)).sublist List.filter_sublist
theorem toldP_for (L : List Hk) (m ph : Int) (c : UInt8) : (srt (L.filter (onB m))).filter (forB ph c) = (toldP L m ph).filter (fun x => trigB c.toNat x) := by
  unfold toldP
  rw [List.filter_filter]
  refine List.filter_congr fun x _ => ?_
  unfold forB
  exact Bool.and_comm ..
theorem toldP_mem {L : List Hk} {m ph : Int} {x : Hk} (h : x ∈ toldP L (bits .and .i64 m 127) ph) :
    x.phase = ph ∧ (x.bit ≠ 0 → bits .and .i64 (bits .and .i64 x.bit m) 127 ≠ 0) ∧ (srt (L.filter (onB (bits .and .i64 m 127)))).any (fun y => y.name == x.name) = true := by
  have h1 := List.mem_filter.1 h
  have h2 := (List.mem_filter.1 ((srt_perm _).mem_iff.1 h1.1)).2
  exact ⟨by simpa using h1.2, fun hb => (onB_mask h2 hb).2, List.any_eq_true.2 ⟨x, h1.1, by simp⟩⟩
theorem toldP_len (L : List Hk) (m ph : Int) : (toldP L m ph).length ≤ L.length :=
  Nat.le_trans (List.length_filter_le _ _) (by rw [(srt_perm _).length_eq]; exact List.length_filter_le _ _)

set_option maxRecDepth 200000 in
set_option maxHeartbeats 8000000 in
theorem sortedLaw_walk (m : Int) (A : Option Addr) (cap : Nat) (S : List Hk) (ph : Int) (ch : UInt8) (w : World) (h : HkIn w A S) :
    Calls Try.prog 11 #[.int .i64 m, .slice A S.length cap, .int .i64 ph, .int .u8 (ch.toNat : Int)] w fun e w' => e = .returned (.bool true) ∧ Below w.heap.size w w' := by
  have HH := Lib.hid h
  clear h
  by_cases h2 : 60 < S.length
  · have h2' : (60 : Int) < (S.length : Int) := by omega
    go_enter Try.func11, Try.ntmps11
    go_wp2_with fail
    refine (awake7_any _).mono ?_
    rintro e w1 ⟨rfl, hb1⟩
    go_wp2
    go_ret
    exact ⟨rfl, hb1⟩
  · have h2' : (S.length : Int) ≤ 60 := by omega
    have HN1 := Lib.hid (fun w => new_any m w)
    go_enter Try.func11, Try.ntmps11
    go_wp2_with fail
    refine (awake7_any _).mono ?_
    rintro e w1 ⟨rfl, b1⟩
    have B1 := Lib.hid b1
    have hs1 := b1.size
    clear b1
    go_wp2_with fail
    refine (HN1.out _).mono ?_
    rintro e w2 ⟨b, mb, rfl, r2, b2⟩
    have b2' : Below w.heap.size w w2 := B1.out.trans (b2.mono hs1)
    have B2 := Lib.hid b2'
    have R2 := Lib.hid r2
    have q1 := r2.1
    have q2 := r2.2.1
    clear r2 b2 b2' B1 HN1
    go_wp2_with fail
    go_loopw [11] (fun i wr => ∃ (k : Nat) (L : List Hk), i = .int .i64 k ∧ k ≤ S.length ∧ L.length ≤ k ∧ RegO wr w1.heap.size b mb (bits .and .i64 m 127) L 0 ∧ Below w.heap.size w wr) (fun i _ => S.length - (intOf i).toNat)
    case atStart => exact ⟨0, [], rfl, Nat.zero_le _, Nat.le_refl _, R2.out, B2.out⟩
    case round =>
      obtain ⟨k, L, rfl, hk, hLk, hr1, hB⟩ := hrel
      by_cases hlt : k < S.length
      · have hkl : (k : Int) < (S.length : Int) := by omega
        obtain ⟨x, hx⟩ : ∃ x, S[k] = x := ⟨_, rfl⟩
        have hin := HH.out.below hB
        obtain ⟨bk, off, rfl, hbk, c0, c1, c2, c3, c4⟩ := hin.at_ hlt x hx
        have HB := Lib.hid hB
        have HR1 := Lib.hid hr1
        have hws : w.heap.size ≤ wr.heap.size := hB.size
        clear hin hx hB hr1
        obtain ⟨xn, xp, xr, xt, xb⟩ := x
        simp only at c0 c1 c2 c3 c4
        have hz1 := ba_sz xn
        have hz2 := ba_sz xt
        by_cases hn3 : 300 < xn.length
        · have hn3'' : (300 : Int) < (xn.length : Int) := by omega
          clear hz1 hz2
          go_wp2
          go_ret
          exact ⟨rfl, HB.out⟩
        · have hn3'' : (xn.length : Int) ≤ 300 := by omega
          by_cases ht3 : 300 < xt.length
          · have ht3'' : (300 : Int) < (xt.length : Int) := by omega
            clear hz1 hz2
            go_wp2
            go_ret
            exact ⟨rfl, HB.out⟩
          · have ht3'' : (xt.length : Int) ≤ 300 := by omega
            clear hz1 hz2
            have hA1 := add_open w1.heap.size b mb (bits .and .i64 m 127) 0 L ⟨xn, xp, xr, xt, xb⟩ wr HR1.out (by unfold maxLen; omega) (by show xn.length ≤ maxLen; unfold maxLen; omega)
            have hll := addL_len L ⟨xn, xp, xr, xt, xb⟩
            have HA1 := Lib.hid hA1
            simp only [hkV, hkC] at HA1
            clear hA1 HR1
            go_wp2_with fail
            refine HA1.out.mono ?_
            rintro e w4 ⟨rfl, r4, g4⟩
            have b4 := below_only HB.out g4 (Nat.le_refl _) (fun j hj => by cases hj; omega)
            have R4 := Lib.hid r4
            have B4 := Lib.hid b4
            clear r4 g4 b4 HB HA1
            go_wp2
            go_roundw
            case rel => first
              | exact ⟨k + 1, _, by go_num, by omega, by omega, R4.out, B4.out⟩
              | ((repeat apply Exists.intro); exact ⟨⟨k + 1, _, by go_num, by omega, by omega, R4.out, B4.out⟩, rfl⟩)
            case measure => simp [intOf]; omega
      · have hke : k = S.length := by omega
        subst hke
        have hLg : L.length ≤ 1000000 := by omega
        have hd := hr1.dist
        have hsA := sorted_any ph w1.heap.size b mb (bits .and .i64 m 127) 0 L false wr (reg_of_open hr1) hLg
        have hfA := fun W h => for_any ph ch w1.heap.size b mb (bits .and .i64 m 127) 0 L true W h hLg
        have hhA := fun nm W h => has_any nm w1.heap.size b mb (bits .and .i64 m 127) 0 L true W h hLg
        have hTd := toldP_dist hd (bits .and .i64 m 127) ph
        have hTl := toldP_lt hd (bits .and .i64 m 127) ph
        have hTm : ∀ x, x ∈ toldP L (bits .and .i64 m 127) ph → _ := fun x h => toldP_mem h
        have hTn := toldP_len L (bits .and .i64 m 127) ph
        rw [toldP_for] at hfA
        change Calls _ _ _ _ (fun e w' => ∃ A c, e = .returned (.slice A (toldP L (bits .and .i64 m 127) ph).length c) ∧ Reg w' w1.heap.size b mb (bits .and .i64 m 127) L true 0 ∧ w'.ownsRow wr.heap.size HT 5 (.slice A (toldP L (bits .and .i64 m 127) ph).length c) (toldP L (bits .and .i64 m 127) ph).length (hkCells (toldP L (bits .and .i64 m 127) ph)) ∧ wr.grownBy w' (some b)) at hsA
        obtain ⟨T, hT⟩ : ∃ T, toldP L (bits .and .i64 m 127) ph = T := ⟨_, rfl⟩
        rw [hT] at hsA hfA hTd hTl hTm hTn
        obtain ⟨tr, htr⟩ : ∃ tr : Hk → Bool, (fun x => trigB ch.toNat x) = tr := ⟨_, rfl⟩
        rw [htr] at hfA
        have hFn : (T.filter tr).length ≤ T.length := List.length_filter_le _ _
        have HSA := Lib.hid hsA
        have HFA := Lib.hid hfA
        have HHA := Lib.hid hhA
        have HTD := Lib.hid hTd
        have HTL := Lib.hid hTl
        have HTM := Lib.hid hTm
        have HB := Lib.hid hB
        have hw1 : w.heap.size ≤ b := by omega
        have hTi : (T.length : Int) ≤ 60 := by omega
        clear hsA hfA hhA hTd hTl hTm hT htr hB hr1 hd
        go_wp2_with fail
        refine HSA.out.mono ?_
        rintro e w4 ⟨A4, c4, rfl, r4, o4, g4⟩
        have b4 := below_only HB.out g4 (Nat.le_refl _) (fun j hj => by cases hj; exact hw1)
        have R4 := Lib.hid r4
        have B4 := Lib.hid b4
        have O4 := Lib.hid o4
        clear r4 b4 o4 g4 HSA HB
        go_wp2_with fail
        refine (HFA.out _ R4.out).mono ?_
        rintro e w5 ⟨A5, c5, rfl, r5, o5, g5⟩
        have b5 := below_only B4.out g5 (Nat.le_refl _) (fun j hj => by cases hj; exact hw1)
        obtain ⟨cs4, hbk4, -⟩ := R4.out.block
        obtain ⟨cs5, hbk5, -⟩ := r5.block
        have n4 : (Value.slice A4 T.length c4).ownBlock ≠ some b := own_blk_ne O4.out hbk4 (by decide)
        have n5 : (Value.slice A5 (T.filter tr).length c5).ownBlock ≠ some b := own_blk_ne o5 hbk5 (by decide)
        have o45 := O4.out.kept g5 (.inr n4)
        have R5 := Lib.hid r5
        have B5 := Lib.hid b5
        have O45 := Lib.hid o45
        have O5 := Lib.hid o5
        clear r5 b5 o45 o5 g5 HFA R4 B4 O4 hbk4 hbk5
        go_wp2_with fail
        go_loopw [14, 15] (fun at_ i wq => ∃ q n : Nat, i = .int .i64 q ∧ q ≤ T.length ∧ at_ = .int .i64 n ∧ Hid (n = ((T.take q).filter tr).length) ∧ w5.grownBy wq (some b) ∧ Reg wq w1.heap.size b mb (bits .and .i64 m 127) L true 0) (fun _ i _ => T.length - (intOf i).toNat)
        case atStart => exact ⟨0, 0, rfl, Nat.zero_le _, rfl, rfl, only_refl _ _, R5.out⟩
        case round =>
          obtain ⟨q, n, rfl, hq, rfl, hn, hg, hR⟩ := hrel
          have hle : n ≤ (T.filter tr).length := by
            rw [hn.out, show T.filter tr = (T.take q).filter tr ++ (T.drop q).filter tr by rw [← List.filter_append, List.take_append_drop], List.length_append]; omega
          by_cases hlt : q < T.length
          · have ho := O45.out.kept hg (.inr n4)
            have hf := O5.out.kept hg (.inr n5)
            obtain ⟨g4', c4', e4, -, l4⟩ := ho.form (by omega)
            obtain ⟨rfl, rfl⟩ : A4 = some ⟨g4', 0, none⟩ ∧ c4 = c4' := by injection e4 with h1 _ h2; exact ⟨h1, h2⟩
            obtain ⟨x, hx⟩ : ∃ x, T[q] = x := ⟨_, rfl⟩
            have hmem : x ∈ T := by rw [← hx]; exact List.getElem_mem hlt
            obtain ⟨m1, m2, m3⟩ := HTM.out x hmem
            have hhx := HHA.out x.name _ hR
            rw [m3] at hhx
            have hms := match_step HTD.out tr hlt
            have hmn := match_next tr hlt
            rw [hx] at hms hmn
            rw [← hn.out] at hms hmn
            have hmn2 : (tr x = true → Hid (n + 1 = ((T.take (q + 1)).filter tr).length)) ∧ (tr x = false → Hid (n = ((T.take (q + 1)).filter tr).length)) := ⟨fun h => by show _ = _; rw [hmn, h]; rfl, fun h => by show _ = _; rw [hmn, h]; rfl⟩
            obtain ⟨a0, a1, a2, a3, a4⟩ := hk_cell ho hlt x hx
            have hd3 : (n < (T.filter tr).length ∧ (∃ z, ∃ h : n < (T.filter tr).length, (T.filter tr)[n] = z ∧ z.name = x.name) ∧ tr x = true) ∨
                (n < (T.filter tr).length ∧ (∃ z, ∃ h : n < (T.filter tr).length, (T.filter tr)[n] = z ∧ (z.name == x.name) = false) ∧ tr x = false) ∨
                (¬ n < (T.filter tr).length ∧ tr x = false) := by
              cases htx : tr x with
              | true =>
                obtain ⟨h1, h2⟩ := hms.2 htx
                exact .inl ⟨h1, ⟨_, h1, rfl, h2⟩, rfl⟩
              | false =>
                by_cases h1 : n < (T.filter tr).length
                · refine .inr (.inl ⟨h1, ⟨_, h1, rfl, ?_⟩, rfl⟩)
                  cases hc : ((T.filter tr)[n].name == x.name) with
                  | false => rfl
                  | true =>
                    have := hms.1 ⟨h1, by simpa using hc⟩
                    rw [htx] at this
                    cases this
                · exact .inr (.inr ⟨h1, rfl⟩)
            have D1 : (x.bit != 0) = false ∨ ((x.bit != 0) = true ∧ (bits .and .i64 (bits .and .i64 x.bit m) 127 == 0) = false) := by
              by_cases h0 : x.bit = 0
              · exact .inl (by simp [h0])
              · exact .inr ⟨by simp [h0], by simpa using m2 h0⟩
            have hpn : (x.phase != ph) = false := by simp [m1]
            have HHX := Lib.hid hhx
            have HD3 := Lib.hid hd3
            have HMN := Lib.hid hmn2
            have HG := Lib.hid hg
            have HO := Lib.hid ho
            have HF := Lib.hid hf
            have hql : (q : Int) < (T.length : Int) := by omega
            clear hhx hd3 hmn hmn2 hms hg ho hf e4 m1 m2 m3 hmem hR HHA
            rcases q with _ | q'
            · obtain ⟨xn, xp, xr, xt, xb⟩ := x
              simp only at a0 a1 a2 a3 a4 D1 hpn HHX HD3 HMN
              simp only [Nat.zero_mul] at a0 a1 a2 a3 a4
              rcases D1 with e1 | ⟨e1, e2⟩
              all_goals
                  go_wp2_with fail
                  refine HHX.out.mono ?_
                  rintro e w6 ⟨rfl, r6, g6⟩
                  have ho6 := HO.out.kept g6 (.inr n4)
                  have hf6 := HF.out.kept g6 (.inr n5)
                  obtain ⟨b0, b1, b2, b3, b4⟩ := hk_cell ho6 hlt ⟨xn, xp, xr, xt, xb⟩ hx
                  have hg6 : w5.grownBy w6 (some b) := only_then HG.out g6 (fun j hj => .inr hj)
                  have HG6 := Lib.hid hg6
                  have HF6 := Lib.hid hf6
                  have R6 := Lib.hid r6
                  clear ho6 hf6 hg6 r6 g6 b1 b3 b4
                  all_goals
                    go_wp2_with fail
                    go_quiet (fail)
                    go_wp2_with fail
                    rcases HD3.out with ⟨t1, t2, t3⟩ | ⟨t1, t2, t3⟩ | ⟨t1, t2⟩
                    · obtain ⟨z, hlz, hz, hzn⟩ := t2
                      obtain ⟨g5', c5', e5, -, l5⟩ := HF6.out.form (by omega)
                      obtain ⟨rfl, rfl⟩ : A5 = some ⟨g5', 0, none⟩ ∧ c5 = c5' := by injection e5 with h1 _ h2; exact ⟨h1, h2⟩
                      obtain ⟨f0, -⟩ := hk_cell HF6.out t1 z hz
                      rw [hzn] at f0
                      have t1' : (n : Int) < ((T.filter tr).length : Int) := by omega
                      have exx : (xn == xn) = true := by simp
                      clear e5 hz hzn
                      go_quiet (fail)
                      go_wp2
                      go_roundw
                      case rel => first
                        | exact ⟨0 + 1, n + 1, by go_num, by omega, by go_num, HMN.out.1 t3, only_drewN HG6.out _, R6.out.kept (only_drewN (only_refl _ none) _)⟩
                        | ((repeat apply Exists.intro); exact ⟨⟨0 + 1, n + 1, by go_num, by omega, by go_num, HMN.out.1 t3, only_drewN HG6.out _, R6.out.kept (only_drewN (only_refl _ none) _)⟩, rfl⟩)
                      case measure => simp [intOf]; omega
                    · obtain ⟨z, hlz, hz, hzn⟩ := t2
                      obtain ⟨g5', c5', e5, -, l5⟩ := HF6.out.form (by omega)
                      obtain ⟨rfl, rfl⟩ : A5 = some ⟨g5', 0, none⟩ ∧ c5 = c5' := by injection e5 with h1 _ h2; exact ⟨h1, h2⟩
                      obtain ⟨f0, -⟩ := hk_cell HF6.out t1 z hz
                      have t1' : (n : Int) < ((T.filter tr).length : Int) := by omega
                      obtain ⟨zn, zp, zr, zt, zb⟩ := z
                      simp only at f0 hzn
                      clear e5 hz
                      go_quiet (fail)
                      go_wp2
                      go_roundw
                      case rel => first
                        | exact ⟨0 + 1, n, by go_num, by omega, rfl, HMN.out.2 t3, only_drewN HG6.out _, R6.out.kept (only_drewN (only_refl _ none) _)⟩
                        | ((repeat apply Exists.intro); exact ⟨⟨0 + 1, n, by go_num, by omega, rfl, HMN.out.2 t3, only_drewN HG6.out _, R6.out.kept (only_drewN (only_refl _ none) _)⟩, rfl⟩)
                      case measure => simp [intOf]; omega
                    · have t1' : ((T.filter tr).length : Int) ≤ (n : Int) := by omega
                      have t1'' : decide ((n : Int) < ((T.filter tr).length : Int)) = false := decide_eq_false (by omega)
                      have t1d : decide (n < (T.filter tr).length) = false := decide_eq_false (by omega)
                      go_quiet (fail)
                      go_wp2
                      go_roundw
                      case rel => first
                        | exact ⟨0 + 1, n, by go_num, by omega, rfl, HMN.out.2 t2, only_drewN HG6.out _, R6.out.kept (only_drewN (only_refl _ none) _)⟩
                        | ((repeat apply Exists.intro); exact ⟨⟨0 + 1, n, by go_num, by omega, rfl, HMN.out.2 t2, only_drewN HG6.out _, R6.out.kept (only_drewN (only_refl _ none) _)⟩, rfl⟩)
                      case measure => simp [intOf]; omega
            · have hltq : q' < T.length := by omega
              obtain ⟨y, hy⟩ : ∃ y, T[q'] = y := ⟨_, rfl⟩
              have hlt2 := List.pairwise_iff_getElem.1 HTL.out q' (q' + 1) hltq hlt (by omega)
              rw [hy, hx] at hlt2
              have D2 : (decide (x.prio < y.prio) = false ∧ (y.prio == x.prio) = false) ∨ (y.prio = x.prio ∧ Op.bytesLess y.name x.name = true) := by
                rcases hlt2 with h1 | ⟨h1, h2⟩
                · exact .inl ⟨decide_eq_false (by omega), by simp; omega⟩
                · exact .inr ⟨h1, h2⟩
              clear hlt2
              have hq1 : ((q' : Int) + 1) < (T.length : Int) := by omega
              have hq0 : (0 : Int) ≤ (q' : Int) := by omega
              have hqt : (q' : Int) < (T.length : Int) := by omega
              have hq2 : (0 : Int) ≤ (q' : Int) + 1 := by omega
              have hq3 : ((q' : Int) + 1).toNat = q' + 1 := by omega
              have hw1 : IntKind.i64.wrap (q' : Int) = (q' : Int) := by rw [IntKind.wrap_i64]; omega
              have hw2 : IntKind.i64.wrap ((q' : Int) + 1 - 1) = (q' : Int) := by rw [IntKind.wrap_i64]; omega
              have hw3 : IntKind.i64.wrap (((q' + 1 : Nat) : Int) - 1) = (q' : Int) := by rw [IntKind.wrap_i64]; omega
              obtain ⟨xn, xp, xr, xt, xb⟩ := x
              simp only at a0 a1 a2 a3 a4 D1 D2 hpn HHX HD3 HMN
              rcases D1 with e1 | ⟨e1, e2⟩
              all_goals
                  go_wp2_with fail
                  refine HHX.out.mono ?_
                  rintro e w6 ⟨rfl, r6, g6⟩
                  have ho6 := HO.out.kept g6 (.inr n4)
                  have hf6 := HF.out.kept g6 (.inr n5)
                  obtain ⟨b0, b1, b2, b3, b4⟩ := hk_cell ho6 hlt ⟨xn, xp, xr, xt, xb⟩ hx
                  obtain ⟨y0, y1, y2, y3, y4⟩ := hk_cell ho6 hltq y hy
                  clear y1 y3 y4
                  have hg6 : w5.grownBy w6 (some b) := only_then HG.out g6 (fun j hj => .inr hj)
                  have HG6 := Lib.hid hg6
                  have HF6 := Lib.hid hf6
                  have R6 := Lib.hid r6
                  clear ho6 hf6 hg6 r6 g6 b1 b3 b4
                  rcases D2 with ⟨p1, p2⟩ | ⟨p1, p3⟩
                  rotate_left
                  rw [p1] at y2
                  clear p1
                  rotate_left
                  all_goals
                    go_wp2_with fail
                    go_quiet (fail)
                    go_wp2_with fail
                    rcases HD3.out with ⟨t1, t2, t3⟩ | ⟨t1, t2, t3⟩ | ⟨t1, t2⟩
                    · obtain ⟨z, hlz, hz, hzn⟩ := t2
                      obtain ⟨g5', c5', e5, -, l5⟩ := HF6.out.form (by omega)
                      obtain ⟨rfl, rfl⟩ : A5 = some ⟨g5', 0, none⟩ ∧ c5 = c5' := by injection e5 with h1 _ h2; exact ⟨h1, h2⟩
                      obtain ⟨f0, -⟩ := hk_cell HF6.out t1 z hz
                      rw [hzn] at f0
                      have t1' : (n : Int) < ((T.filter tr).length : Int) := by omega
                      have exx : (xn == xn) = true := by simp
                      clear e5 hz hzn
                      go_quiet (fail)
                      go_wp2
                      go_roundw
                      case rel => first
                        | exact ⟨(q' + 1) + 1, n + 1, by go_num, by omega, by go_num, HMN.out.1 t3, only_drewN HG6.out _, R6.out.kept (only_drewN (only_refl _ none) _)⟩
                        | ((repeat apply Exists.intro); exact ⟨⟨(q' + 1) + 1, n + 1, by go_num, by omega, by go_num, HMN.out.1 t3, only_drewN HG6.out _, R6.out.kept (only_drewN (only_refl _ none) _)⟩, rfl⟩)
                      case measure => simp [intOf]; omega
                    · obtain ⟨z, hlz, hz, hzn⟩ := t2
                      obtain ⟨g5', c5', e5, -, l5⟩ := HF6.out.form (by omega)
                      obtain ⟨rfl, rfl⟩ : A5 = some ⟨g5', 0, none⟩ ∧ c5 = c5' := by injection e5 with h1 _ h2; exact ⟨h1, h2⟩
                      obtain ⟨f0, -⟩ := hk_cell HF6.out t1 z hz
                      have t1' : (n : Int) < ((T.filter tr).length : Int) := by omega
                      obtain ⟨zn, zp, zr, zt, zb⟩ := z
                      simp only at f0 hzn
                      clear e5 hz
                      go_quiet (fail)
                      go_wp2
                      go_roundw
                      case rel => first
                        | exact ⟨(q' + 1) + 1, n, by go_num, by omega, rfl, HMN.out.2 t3, only_drewN HG6.out _, R6.out.kept (only_drewN (only_refl _ none) _)⟩
                        | ((repeat apply Exists.intro); exact ⟨⟨(q' + 1) + 1, n, by go_num, by omega, rfl, HMN.out.2 t3, only_drewN HG6.out _, R6.out.kept (only_drewN (only_refl _ none) _)⟩, rfl⟩)
                      case measure => simp [intOf]; omega
                    · have t1' : ((T.filter tr).length : Int) ≤ (n : Int) := by omega
                      have t1'' : decide ((n : Int) < ((T.filter tr).length : Int)) = false := decide_eq_false (by omega)
                      have t1d : decide (n < (T.filter tr).length) = false := decide_eq_false (by omega)
                      go_quiet (fail)
                      go_wp2
                      go_roundw
                      case rel => first
                        | exact ⟨(q' + 1) + 1, n, by go_num, by omega, rfl, HMN.out.2 t2, only_drewN HG6.out _, R6.out.kept (only_drewN (only_refl _ none) _)⟩
                        | ((repeat apply Exists.intro); exact ⟨⟨(q' + 1) + 1, n, by go_num, by omega, rfl, HMN.out.2 t2, only_drewN HG6.out _, R6.out.kept (only_drewN (only_refl _ none) _)⟩, rfl⟩)
                      case measure => simp [intOf]; omega
          · have hqe : q = T.length := by omega
            subst hqe
            have hb := below_only B5.out hg (Nat.le_refl _) (fun j hj => by cases hj; exact hw1)
            have HBE := Lib.hid hb
            have hnf : n = (T.filter tr).length := by rw [hn.out, List.take_length]
            have eL : ((n : Int) == ((T.filter tr).length : Int)) = true := by simp [hnf]
            clear hnf hn
            clear hb hg hR hle
            go_wp2
            go_ret
            exact ⟨by first | rfl | simp, HBE.out⟩
end Go.Proofs.Ytmlkmhonpmnenaa
