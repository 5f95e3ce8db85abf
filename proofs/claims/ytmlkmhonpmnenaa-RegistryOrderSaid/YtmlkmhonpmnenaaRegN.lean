/- The document's own hooks: both Core; two lists of hooks that are the same. -/
import Derived.Test.YtmlkmhonpmnenaaRegK
namespace Go.Proofs.Ytmlkmhonpmnenaa
open Go.RowKit Go.Lib Go.Maps

def coreL : List Hk := [
  ⟨[113, 117, 111, 116, 101], 1, 100, [], 0⟩,
  ⟨[102, 101, 110, 99, 101], 1, 200, [], 0⟩,
  ⟨[99, 111, 100, 101], 1, 210, [], 0⟩,
  ⟨[104, 101, 97, 100, 105, 110, 103], 1, 300, [], 0⟩,
  ⟨[114, 117, 108, 101], 1, 400, [], 0⟩,
  ⟨[104, 116, 109, 108], 1, 500, [], 0⟩,
  ⟨[108, 105, 115, 116], 1, 600, [], 0⟩,
  ⟨[116, 97, 98, 108, 101], 1, 700, [], 1⟩,
  ⟨[110, 111, 116, 101], 1, 150, [], 32⟩,
  ⟨[101, 115, 99, 97, 112, 101], 2, 100, [92], 0⟩,
  ⟨[101, 110, 116, 105, 116, 121], 2, 110, [38], 0⟩,
  ⟨[115, 112, 97, 110], 2, 120, [96], 0⟩,
  ⟨[97, 117, 116, 111], 2, 130, [60], 0⟩,
  ⟨[114, 97, 119], 2, 140, [60], 0⟩,
  ⟨[101, 109, 112, 104], 2, 200, [42, 95], 0⟩,
  ⟨[115, 116, 114, 105, 107, 101], 2, 210, [126], 2⟩,
  ⟨[108, 105, 110, 107], 2, 300, [91, 33, 93], 0⟩,
  ⟨[110, 111, 116, 101, 114, 101, 102], 2, 290, [91], 32⟩,
  ⟨[98, 114, 101, 97, 107], 2, 400, [10], 0⟩,
  ⟨[116, 97, 115, 107, 115], 3, 100, [], 4⟩,
  ⟨[117, 114, 108, 115], 3, 200, [], 8⟩,
  ⟨[110, 111, 116, 101, 115], 3, 300, [], 32⟩,
  ⟨[115, 108, 117, 103, 115], 3, 400, [], 64⟩,
  ⟨[104, 116, 109, 108, 45, 111, 117, 116], 4, 100, [], 0⟩,
  ⟨[102, 105, 108, 116, 101, 114], 4, 200, [], 16⟩]

theorem own_new {w : World} {cs : Array Value} {L : List Hk} {n : Nat} (h : cs.toList = hkCells L) (hn : L.length = n) (hm : n ≤ maxLen) :
    (w.alloc (.cells cs HT)).ownsRow w.heap.size HT 5 (.slice (some ⟨w.heap.size, 0, none⟩) n n) n (hkCells L) :=
  ⟨by rw [hkCells_len, hn], .inr ⟨w.heap.size, n, cs, rfl, Nat.le_refl _, heap_alloc_new w _, Nat.le_refl _, hm, by rw [← Array.length_toList, h, hkCells_len, hn], by rw [h, List.take_of_length_le (by rw [hkCells_len, hn]; exact Nat.le_refl _)]⟩⟩
set_option maxRecDepth 100000 in
set_option maxHeartbeats 4000000 in
theorem core_any (w : World) :
    Calls Try.prog 26 #[] w fun e w' => e = .returned (.slice (some ⟨w.heap.size, 0, none⟩) 25 25) ∧ w'.ownsRow w.heap.size HT 5 (.slice (some ⟨w.heap.size, 0, none⟩) 25 25) 25 (hkCells coreL) ∧ w.grownBy w' none ∧ w'.heap.size = w.heap.size + 1 := by
  go_enter Try.func26, Try.ntmps26
  go_wp2
  go_ret
  exact ⟨rfl, own_new rfl rfl (by decide), only_alloc (only_refl _ _) _, by simp⟩
set_option maxRecDepth 100000 in
set_option maxHeartbeats 4000000 in
theorem rcore_any (w : World) :
    Calls Try.prog 28 #[] w fun e w' => e = .returned (.slice (some ⟨w.heap.size, 0, none⟩) 25 25) ∧ w'.ownsRow w.heap.size HT 5 (.slice (some ⟨w.heap.size, 0, none⟩) 25 25) 25 (hkCells coreL) ∧ w.grownBy w' none ∧ w'.heap.size = w.heap.size + 1 := by
  go_enter Try.func28, Try.ntmps28
  go_wp2
  go_ret
  exact ⟨rfl, own_new rfl rfl (by decide), only_alloc (only_refl _ _) _, by simp⟩

set_option maxRecDepth 100000 in
set_option maxHeartbeats 8000000 in
/-- Same on two slices that hold the same hooks. -/
theorem rsame_eq (A B : Option Addr) (ca cb ba bb : Nat) (S : List Hk) (w : World) (hS : S.length ≤ 1000000)
    (h1 : w.ownsRow ba HT 5 (.slice A S.length ca) S.length (hkCells S)) (h2 : w.ownsRow bb HT 5 (.slice B S.length cb) S.length (hkCells S)) :
    Calls Try.prog 59 #[.slice A S.length ca, .slice B S.length cb] w fun e w' => e = .returned (.bool true) ∧ w.grownBy w' none := by
  have hS' : (S.length : Int) ≤ 1000000 := by omega
  have hne : ((S.length : Int) != (S.length : Int)) = false := by simp
  rcases Nat.eq_zero_or_pos S.length with hz | hz
  · have e : S = [] := List.eq_nil_of_length_eq_zero hz
    subst e
    clear h1 h2 hz
    go_enter Try.func59, Try.ntmps59
    go_wp2
    refine wp_loop_rounds 1 ?_
    rw [rounds_succ]
    go_wp2
    go_ret
    exact ⟨rfl, only_refl _ _⟩
  · obtain ⟨ga, c1, e1, -, l1⟩ := h1.form hz
    obtain ⟨gb, c2, e2, -, l2⟩ := h2.form hz
    obtain ⟨rfl, rfl⟩ : A = some ⟨ga, 0, none⟩ ∧ ca = c1 := by injection e1 with h1 _ h2; exact ⟨h1, h2⟩
    obtain ⟨rfl, rfl⟩ : B = some ⟨gb, 0, none⟩ ∧ cb = c2 := by injection e2 with h1 _ h2; exact ⟨h1, h2⟩
    have H1 := Lib.hid h1
    have H2 := Lib.hid h2
    clear e1 e2 h1 h2
    go_enter Try.func59, Try.ntmps59
    go_wp2
    go_loopw [5] (fun i wr => ∃ k : Nat, i = .int .i64 k ∧ k ≤ S.length ∧ w.grownBy wr none) (fun i _ => S.length - (intOf i).toNat)
    case atStart => exact ⟨0, rfl, Nat.zero_le _, only_refl _ _⟩
    case round =>
      obtain ⟨k, rfl, hk, hg⟩ := hrel
      by_cases hlt : k < S.length
      · obtain ⟨x, hx⟩ : ∃ x, S[k] = x := ⟨_, rfl⟩
        obtain ⟨a0, a1, a2, a3, a4⟩ := hk_cell (own_kept_none H1.out hg) hlt x hx
        obtain ⟨b0, b1, b2, b3, b4⟩ := hk_cell (own_kept_none H2.out hg) hlt x hx
        have HG := Lib.hid hg
        clear hg hx
        obtain ⟨xn, xp, xr, xt, xb⟩ := x
        simp only at a0 a1 a2 a3 a4 b0 b1 b2 b3 b4
        have n0 : ((⟨xn.toArray⟩ : ByteArray).toList != (⟨xn.toArray⟩ : ByteArray).toList) = false := by simp
        have n0' : (xn != xn) = false := by simp
        have n1 : (xp != xp) = false := by simp
        have n2 : (xr != xr) = false := by simp
        have n3 : ((⟨xt.toArray⟩ : ByteArray).toList != (⟨xt.toArray⟩ : ByteArray).toList) = false := by simp
        have n3' : (xt != xt) = false := by simp
        have n4 : (xb != xb) = false := by simp
        have kl : (k : Int) < (S.length : Int) := by omega
        have k0 : (0 : Int) ≤ (k : Int) := by omega
        go_wp2_with fail
        go_quiet (fail)
        go_wp2
        go_roundw
        case rel => exact ⟨k + 1, by go_num, by omega, only_drewN HG.out _⟩
        case measure => simp [intOf]; omega
      · have hke : k = S.length := by omega
        subst hke
        go_wp2
        go_ret
        exact ⟨rfl, hg⟩
theorem same_eq (A B : Option Addr) (ca cb ba bb : Nat) (S : List Hk) (w : World) (hS : S.length ≤ 1000000)
    (h1 : w.ownsRow ba HT 5 (.slice A S.length ca) S.length (hkCells S)) (h2 : w.ownsRow bb HT 5 (.slice B S.length cb) S.length (hkCells S)) :
    Calls Try.prog 27 #[.slice A S.length ca, .slice B S.length cb] w fun e w' => e = .returned (.bool true) ∧ w.grownBy w' none := by
  have h := rsame_eq A B ca cb ba bb S w hS h1 h2
  have H := Lib.hid h
  clear h h1 h2
  go_enter Try.func27, Try.ntmps27
  go_wp2_with (go_at_call 59; refine H.out.mono ?_; rintro e w1 ⟨rfl, hg⟩)
  go_ret
  exact ⟨rfl, hg⟩
end Go.Proofs.Ytmlkmhonpmnenaa
