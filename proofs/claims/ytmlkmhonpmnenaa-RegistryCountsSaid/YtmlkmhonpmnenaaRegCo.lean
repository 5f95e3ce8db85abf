/- RegistryCounts' walk: steps are summed; steps below 0 say nothing. -/
import Derived.Test.YtmlkmhonpmnenaaRegP
namespace Go.Proofs.Ytmlkmhonpmnenaa
open Go.RowKit Go.Lib Go.Maps

theorem mask40 (x : Int) : 0 ≤ bits .and .i64 x 1099511627775 ∧ bits .and .i64 x 1099511627775 ≤ 1099511627775 := bits_and_range x 1099511627775 (by decide)
theorem stepN_add {s x : Int} (hx : 0 ≤ x) (h : s + x ≤ 4611686018427387904) : stepN s x = s + x := by unfold stepN; split <;> omega
theorem stepN_neg {s x : Int} (hx : 0 ≤ x) : stepN s (-x) = s := by unfold stepN; rw [if_neg (by omega)]

set_option maxRecDepth 100000 in
set_option maxHeartbeats 4000000 in
theorem counts_walk (A : Option Addr) (len cap : Nat) (z : List Int) (w : World)
    (h : len = 0 ∨ ∃ b off, A = some ⟨b, off, none⟩ ∧ b < w.heap.size ∧ ∀ j, j < len → w.cell? ⟨b, off + j, none⟩ = some (.int .i64 (z.getD j 0))) :
    Calls Try.prog 9 #[.slice A len cap] w fun e w' => e = .returned (.bool true) ∧ Below w.heap.size w w' := by
  have HH := Lib.hid h
  clear h
  by_cases h2 : 200 < len
  · have h2' : (200 : Int) < (len : Int) := by omega
    go_enter Try.func9, Try.ntmps9
    go_wp2_with fail
    refine (awake7_any _).mono ?_
    rintro e w1 ⟨rfl, hb1⟩
    go_wp2
    go_ret
    exact ⟨rfl, hb1⟩
  · have h2' : (len : Int) ≤ 200 := by omega
    have hnew := fun w => new_any 0 w
    rw [and0] at hnew
    have HN := Lib.hid hnew
    clear hnew
    go_enter Try.func9, Try.ntmps9
    go_wp2_with fail
    refine (awake7_any _).mono ?_
    rintro e w1 ⟨rfl, hb1⟩
    have HB1 := Lib.hid hb1
    have hs1 := hb1.size
    clear hb1
    go_wp2_with fail
    refine (HN.out _).mono ?_
    rintro e w2 ⟨b, mb, rfl, r2, b2⟩
    have hB2 : Below w.heap.size w w2 := HB1.out.trans (b2.mono hs1)
    have hR2 := reg_of_open r2
    have hbl : w.heap.size ≤ b := Nat.le_trans hs1 r2.1
    have HR2 := Lib.hid hR2
    have HB2 := Lib.hid hB2
    clear r2 b2 hR2 hB2 HB1
    go_wp2_with fail
    go_loopw [5, 6] (fun n i wr => ∃ (k : Nat) (s : Int), i = .int .i64 k ∧ k ≤ len ∧ n = .int .i64 s ∧ 0 ≤ s ∧ s ≤ (k : Int) * 1099511627776 ∧ Reg wr w1.heap.size b mb 0 [] false s ∧ Below w.heap.size w wr) (fun _ i _ => len - (intOf i).toNat)
    case atStart => exact ⟨0, 0, rfl, Nat.zero_le _, rfl, Int.le_refl _, by omega, HR2.out, HB2.out⟩
    case round =>
      obtain ⟨k, s, rfl, hk, rfl, hs0, hsk, hR, hB⟩ := hrel
      by_cases hlt : k < len
      · obtain ⟨bk, off, rfl, hbk, hcell⟩ := (HH.out).resolve_left (by omega)
        obtain ⟨zk, hzk⟩ : ∃ zk, z.getD k 0 = zk := ⟨_, rfl⟩
        have hck : wr.cell? ⟨bk, off + k, none⟩ = some (.int .i64 zk) := by rw [← hzk, ← hcell k hlt]; exact hB.cell (p := ⟨bk, off + k, none⟩) hbk
        obtain ⟨m0, m1⟩ := mask40 zk
        obtain ⟨x, hx⟩ : ∃ x, bits .and .i64 zk 1099511627775 = x := ⟨_, rfl⟩
        rw [hx] at m0 m1
        have HX := Lib.hid hx
        have hst := step_any x w1.heap.size b mb 0 s [] false wr hR hs0 (by omega)
        rw [stepN_add m0 (by omega)] at hst
        have hst2 := fun wq h => step_any (-x) w1.heap.size b mb 0 (s + x) [] false wq h (by omega) (by omega)
        rw [stepN_neg m0] at hst2
        have HS := Lib.hid hst
        have HS2 := Lib.hid hst2
        have HB := Lib.hid hB
        have hkl : (k : Int) < (len : Int) := by omega
        clear hst hst2 hB hR hx hzk hcell
        go_wp2_with fail
        rw [HX.out]
        refine HS.out.mono ?_
        rintro e w3 ⟨rfl, r3, g3⟩
        go_wp2_with fail
        refine (HS2.out _ r3).mono ?_
        rintro e w4 ⟨rfl, r4, g4⟩
        have hB4 : Below w.heap.size w w4 := below_only (below_only HB.out g3 (Nat.le_refl _) (fun j hj => by cases hj; exact hbl)) g4 (Nat.le_refl _) (fun j hj => by cases hj; exact hbl)
        have HB4 := Lib.hid hB4
        have HR4 := Lib.hid r4
        clear r3 g3 r4 g4 hB4 HB
        go_wp2
        go_roundw
        case rel => exact ⟨k + 1, s + x, by go_num, by omega, rfl, by omega, by omega, HR4.out, HB4.out⟩
        case measure => simp [intOf]; omega
      · have hke : k = len := by omega
        subst hke
        have hst := steps_any w1.heap.size b mb 0 s [] false wr hR
        have HS := Lib.hid hst
        have HB := Lib.hid hB
        clear hst hR hB
        go_wp2_with fail
        refine HS.out.mono ?_
        rintro e w3 ⟨rfl, rfl⟩
        go_wp2
        go_ret
        exact ⟨rfl, HB.out⟩
end Go.Proofs.Ytmlkmhonpmnenaa
