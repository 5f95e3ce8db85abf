/- awake: the document's example. -/
import Derived.Test.YtmlkmhonpmnenaaRegN
namespace Go.Proofs.Ytmlkmhonpmnenaa
open Go.RowKit Go.Lib Go.Maps

theorem reg_of_open {w : World} {base b mb : Nat} {m st : Int} {L : List Hk} (h : RegO w base b mb m L st) : Reg w base b mb m L false st := by simpa [Reg] using h
theorem reg_open {w : World} {base b mb : Nat} {m st : Int} {L : List Hk} (h : Reg w base b mb m L false st) : RegO w base b mb m L st := by simpa [Reg] using h
theorem below_only {B : Nat} {w w1 w2 : World} {row : Option Nat} (h : Below B w w1) (hg : w1.grownBy w2 row) (hB : B ≤ w.heap.size) (hr : ∀ j, row = some j → B ≤ j) : Below B w w2 :=
  h.grown hg (Nat.le_trans hB h.size) hr

def exB : Hk := ⟨[98], 1, 1, [], 0⟩
def exA : Hk := ⟨[97], 1, 1, [], 0⟩
def exC : Hk := ⟨[99], 1, 0, [], 0⟩
theorem ex_add : addB [] exB = true ∧ addL [] exB = [exB] ∧ addB [exB] exA = true ∧ addL [exB] exA = [exB, exA] ∧ addB [exB, exA] exC = true ∧ addL [exB, exA] exC = [exB, exA, exC] := by
  refine ⟨?_, ?_, ?_, ?_, ?_, ?_⟩ <;> kernel_rfl
theorem ex_srt : (srt ([exB, exA, exC].filter (onB 0))).filter (fun x => x.phase == 1) = [exC, exA, exB] := by kernel_rfl
theorem and0 : bits .and .i64 0 127 = 0 := by decide

set_option maxRecDepth 100000 in
set_option maxHeartbeats 4000000 in
theorem awake7_any (w : World) : Calls Try.prog 25 #[] w fun e w' => e = .returned (.bool true) ∧ Below w.heap.size w w' := by
  have hnew := new_any 0 w
  rw [and0] at hnew
  have HN := Lib.hid hnew
  clear hnew
  obtain ⟨f1, f2, f3, f4, f5, f6⟩ := ex_add
  have hs := fun base b mb w h => sorted_any 1 base b mb 0 0 [exB, exA, exC] false w h (by decide)
  rw [ex_srt] at hs
  have HS := Lib.hid hs
  have ha1 := fun base b mb w h => add_open base b mb 0 0 [] exB w h (by decide) (by decide)
  have ha2 := fun base b mb w h => add_open base b mb 0 0 [exB] exA w h (by decide) (by decide)
  have ha3 := fun base b mb w h => add_open base b mb 0 0 [exB, exA] exC w h (by decide) (by decide)
  rw [f1, f2] at ha1
  rw [f3, f4] at ha2
  rw [f5, f6] at ha3
  have H1 := Lib.hid ha1
  have H2 := Lib.hid ha2
  have H3 := Lib.hid ha3
  clear hs ha1 ha2 ha3 f1 f2 f3 f4 f5 f6
  go_enter Try.func25, Try.ntmps25
  go_wp2_with fail
  refine HN.out.mono ?_
  rintro e w1 ⟨b, mb, rfl, r1, b1⟩
  go_wp2_with fail
  refine (H1.out _ _ _ _ r1).mono ?_
  rintro e w2 ⟨rfl, r2, g2⟩
  have b2 := below_only b1 g2 (Nat.le_refl _) (fun j hj => by cases hj; exact r1.2.1)
  clear r1 g2 b1
  go_wp2_with fail
  refine (H2.out _ _ _ _ r2).mono ?_
  rintro e w3 ⟨rfl, r3, g3⟩
  have b3 := below_only b2 g3 (Nat.le_refl _) (fun j hj => by cases hj; exact r2.2.1)
  clear r2 g3 b2
  go_wp2_with fail
  refine (H3.out _ _ _ _ r3).mono ?_
  rintro e w4 ⟨rfl, r4, g4⟩
  have b4 := below_only b3 g4 (Nat.le_refl _) (fun j hj => by cases hj; exact r3.2.1)
  clear r3 g4 b3
  go_wp2_with fail
  refine (HS.out _ _ _ _ (reg_of_open r4)).mono ?_
  rintro e w5 ⟨A, c, rfl, r5, o5, g5⟩
  have b5 := below_only b4 g5 (Nat.le_refl _) (fun j hj => by cases hj; exact r4.1)
  obtain ⟨ga, c1, e1, -, l1⟩ := o5.form (by decide)
  obtain ⟨rfl, rfl⟩ : A = some ⟨ga, 0, none⟩ ∧ c = c1 := by injection e1 with h1 _ h2; exact ⟨h1, h2⟩
  have k0 := (hk_cell o5 (k := 0) (by decide) exC rfl).1
  have k1 := (hk_cell o5 (k := 1) (by decide) exA rfl).1
  have k2 := (hk_cell o5 (k := 2) (by decide) exB rfl).1
  simp only [exA, exB, exC, Nat.zero_mul, Nat.one_mul, Nat.reduceMul] at k0 k1 k2
  have H5 := Lib.hid b5
  clear r4 g5 b4 r5 o5 e1 b5 HN HS H1 H2 H3
  go_wp2_with (go_at_call 26; refine (core_any _).mono ?_; rintro e w6 ⟨rfl, o6, g6, s6⟩)
  go_ret
  exact ⟨rfl, below_only H5.out g6 (Nat.le_refl _) (fun j hj => by cases hj)⟩
end Go.Proofs.Ytmlkmhonpmnenaa
