import Derived.Test.YtmlkmhonpmnenaaTagsZ
namespace Go.Proofs.Ytmlkmhonpmnenaa
open Go.RowKit

theorem read_T (l : List UInt8) (w : World) (hs : l.length ≤ 1073741824) (T : TagP) (n : Nat) (hr : readP l = (T, n)) :
    Calls Try.prog 14 #[.string ⟨l.toArray⟩] w fun e w' => ∃ A c, e = .returned (.tuple #[.agg #[.string ⟨T.name.toArray⟩, .bool T.ends, .bool T.void, .slice A T.attrs.length c], .int .i64 (n : Int)]) ∧
      w'.ownsRow w.heap.size 71 2 (.slice A T.attrs.length c) T.attrs.length (pairCells T.attrs) ∧ Below w.heap.size w w' := by
  have h := read_any l w hs
  rw [hr] at h
  refine h.mono ?_
  rintro e w' ⟨av, rfl, hown, hb⟩
  obtain ⟨A, c, rfl⟩ := own_sl hown
  exact ⟨A, c, rfl, hown, hb⟩
theorem aw_read : readP [60, 104, 49, 32, 105, 100, 61, 34, 120, 34, 62, 97] = (⟨[104, 49], false, false, [([105, 100], [120])]⟩, 11) := by kernel_rfl
theorem aw_c1 : checkT (toks [60, 112, 62, 97, 60, 98, 114, 32, 47, 62, 98, 60, 47, 112, 62]) [] = true := by kernel_rfl
theorem aw_c2 : checkT (toks [60, 112, 62]) [] = false := by kernel_rfl
theorem aw_c3 : checkT (toks [97, 60, 98]) [] = false := by kernel_rfl
theorem aw_ids : idsT (toks [60, 104, 49, 32, 105, 100, 61, 34, 120, 34, 62]) = [[120]] := by kernel_rfl
theorem aw_text : textT (toks [60, 98, 62, 97, 60, 47, 98, 62]) = [97] := by kernel_rfl

theorem below_then {w w1 w2 : World} (h : Below w.heap.size w w1) (h2 : Below w1.heap.size w1 w2) : Below w.heap.size w w2 := h.trans (h2.mono h.size)

set_option maxRecDepth 100000 in
set_option maxHeartbeats 4000000 in
theorem awake_any (w : World) : Calls Try.prog 13 #[] w fun e w' => e = .returned (.bool true) ∧ Below w.heap.size w w' := by
  go_enter Try.func13, Try.ntmps13
  go_wp2_with fail
  refine (read_T [60, 104, 49, 32, 105, 100, 61, 34, 120, 34, 62, 97] _ (by decide) _ _ aw_read).mono ?_
  rintro e w1 ⟨A, c, rfl, hown, hb1⟩
  have hs1 := hb1.size
  clear hown
  go_wp2_with fail
  refine (check_any [60, 112, 62, 97, 60, 98, 114, 32, 47, 62, 98, 60, 47, 112, 62] _ (by decide)).mono ?_
  rw [aw_c1]
  rintro e w2 ⟨rfl, hb2⟩
  have hx2 := (hb2.block w1.heap.size (by simp)).trans (heap_alloc_new w1 _)
  have hB2 : Below w.heap.size w w2 := below_then (w1 := w1.alloc (.cells #[.string ⟨#[104, 49]⟩, .bool false, .bool false, .slice A 1 c] 25)) (by repeat (first | with_reducible refine below_drewN ?_ _ | with_reducible refine Below.drew ?_ | ((with_reducible refine Below.alloc ?_ ?_ _); rotate_left; focus (first | exact Nat.le_refl _ | omega | (simp; done) | (simp; omega))) | ((with_reducible refine Below.setCell ?_ ?_ _); rotate_left; focus (first | exact Nat.le_refl _ | omega | (simp; done) | (simp; omega))) | with_reducible exact Below.refl _ _ | with_reducible assumption)) hb2
  have hl2 := hb2.size
  simp at hl2
  clear hb1 hb2
  go_wp2_with fail
  refine (check_any [60, 112, 62] _ (by decide)).mono ?_
  rw [aw_c2]
  rintro e w3 ⟨rfl, hb3⟩
  have hx3 := (hb3.block w1.heap.size (by omega)).trans hx2
  have hB3 := below_then hB2 hb3
  have hl3 := hb3.size
  clear hx2 hb3 hB2
  go_wp2_with fail
  refine (check_any [97, 60, 98] _ (by decide)).mono ?_
  rw [aw_c3]
  rintro e w4 ⟨rfl, hb4⟩
  have hx4 := (hb4.block w1.heap.size (by omega)).trans hx3
  have hB4 := below_then hB3 hb4
  have hl4 := hb4.size
  clear hx3 hb4 hB3
  obtain ⟨c0, c1, c2, c3, -⟩ := blk4 hx4
  go_wp2_with fail
  refine (ids_any [60, 104, 49, 32, 105, 100, 61, 34, 120, 34, 62] _ (by decide)).mono ?_
  rw [aw_ids]
  rintro e w5 ⟨A5, c5, rfl, hown5, hb5⟩
  have hB5 := below_then hB4 hb5
  have hl5 := hb5.size
  clear hx4 hb5 hB4 hown5
  go_wp2_with fail
  refine (text_any [60, 98, 62, 97, 60, 47, 98, 62] _ (by decide)).mono ?_
  rw [aw_text]
  rintro e w6 ⟨rfl, hb6⟩
  have hB6 := below_then hB5 hb6
  clear hb6 hB5
  go_wp2
  go_ret
  exact ⟨rfl, hB6⟩
end Go.Proofs.Ytmlkmhonpmnenaa
