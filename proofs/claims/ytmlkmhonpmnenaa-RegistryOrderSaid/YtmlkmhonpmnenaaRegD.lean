/- cmp.Compare, cmp.Or, and the closure of close that compares two hooks. -/
import Derived.Test.YtmlkmhonpmnenaaRegS
import Derived.Test.YtmlkmhonpmnenaaRegC
import Derived.Deep.QuietTactic
import Derived.BigQuiet
namespace Go.Proofs.Ytmlkmhonpmnenaa
open Go.RowKit Go.Lib Go.Sort

theorem ret_i {a b : Int} (h : a = b) : Ending.returned (.int .i64 a) = .returned (.int .i64 b) := by rw [h]
theorem cmpI_any (x y : Int) (w : World) :
    Calls Try.prog 89 #[.int .i64 x, .int .i64 y] w fun e w' => e = .returned (.int .i64 (compareInt x y)) ∧ w = w' := by
  have hx : (x != x) = false := by simp
  have hy : (y != y) = false := by simp
  by_cases h1 : x < y
  · rw [show compareInt x y = -1 from if_pos h1]
    go_enter Try.func89, Try.ntmps89
    go_wp2
    go_ret
    exact ⟨rfl, rfl⟩
  · by_cases h2 : y < x
    · rw [show compareInt x y = 1 from (if_neg h1).trans (if_pos h2)]
      go_enter Try.func89, Try.ntmps89
      go_wp2
      go_ret
      exact ⟨rfl, rfl⟩
    · rw [show compareInt x y = 0 from (if_neg h1).trans (if_neg h2)]
      go_enter Try.func89, Try.ntmps89
      go_wp2
      go_ret
      exact ⟨rfl, rfl⟩
theorem cmpS_any (s t : ByteArray) (w : World) :
    Calls Try.prog 90 #[.string s, .string t] w fun e w' => e = .returned (.int .i64 (cmpS s.data.toList t.data.toList)) ∧ w = w' := by
  have hx : (s.toList != s.toList) = false := by simp
  have hy : (t.toList != t.toList) = false := by simp
  unfold cmpS sLess
  rw [← Lib.toList_data, ← Lib.toList_data]
  cases h1 : Op.bytesLess s.toList t.toList with
  | true =>
    go_enter Try.func90, Try.ntmps90
    go_wp2
    go_ret
    exact ⟨rfl, rfl⟩
  | false =>
    cases h2 : (s.toList == t.toList) with
    | true =>
      have h3 : Op.bytesLess t.toList s.toList = false := by
        have e : s.toList = t.toList := by simpa using h2
        rw [e]; exact sLess_irrefl _
      go_enter Try.func90, Try.ntmps90
      go_wp2
      go_ret
      exact ⟨rfl, rfl⟩
    | false =>
      have h3 : Op.bytesLess t.toList s.toList = true := by
        cases h : Op.bytesLess t.toList s.toList with
        | true => rfl
        | false =>
          have := sLess_total _ _ h1 h
          rw [this] at h2
          simp at h2
      go_enter Try.func90, Try.ntmps90
      go_wp2
      go_ret
      exact ⟨rfl, rfl⟩
theorem or2_any (x y : Int) (g : Nat) (w : World) (h0 : w.cell? ⟨g, 0, none⟩ = some (.int .i64 x)) (h1 : w.cell? ⟨g, 1, none⟩ = some (.int .i64 y)) :
    Calls Try.prog 88 #[.slice (some ⟨g, 0, none⟩) 2 2] w fun e w' => e = .returned (.int .i64 (if x = 0 then y else x)) ∧ w = w' := by
  by_cases hx : x = 0
  · have hx' : (x != 0) = false := by simp [hx]
    rw [if_pos hx]
    clear hx
    by_cases hy : y = 0
    · have hy' : (y != 0) = false := by simp [hy]
      have HY := Lib.hid hy
      clear hy
      go_enter Try.func88, Try.ntmps88
      go_wp2
      refine wp_loop_rounds 3 ?_
      rw [rounds_succ]
      go_wp2
      rw [rounds_succ]
      go_wp2
      rw [rounds_succ]
      go_wp2
      go_ret
      exact ⟨ret_i HY.out.symm, rfl⟩
    · have hy' : (y != 0) = true := by simp [hy]
      clear hy
      go_enter Try.func88, Try.ntmps88
      go_wp2
      refine wp_loop_rounds 2 ?_
      rw [rounds_succ]
      go_wp2
      rw [rounds_succ]
      go_wp2
      go_ret
      exact ⟨rfl, rfl⟩
  · have hx' : (x != 0) = true := by simp [hx]
    rw [if_neg hx]
    go_enter Try.func88, Try.ntmps88
    go_wp2
    refine wp_loop_rounds 1 ?_
    rw [rounds_succ]
    go_wp2
    go_ret
    exact ⟨rfl, rfl⟩
end Go.Proofs.Ytmlkmhonpmnenaa
