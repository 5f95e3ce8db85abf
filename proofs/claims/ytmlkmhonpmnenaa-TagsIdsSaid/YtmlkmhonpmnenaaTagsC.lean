import Derived.Test.YtmlkmhonpmnenaaTagsB
import Derived.Laws.OwnMore
namespace Go.Proofs.Ytmlkmhonpmnenaa
open Go.RowKit

structure TagP where
  name : List UInt8
  ends : Bool
  void : Bool
  attrs : List (List UInt8 × List UInt8)
def pairCells (ps : List (List UInt8 × List UInt8)) : List Value := ps.flatMap fun p => [.string ⟨p.1.toArray⟩, .string ⟨p.2.toArray⟩]
theorem pairCells_len (ps : List (List UInt8 × List UInt8)) : (pairCells ps).length = ps.length * 2 := by
  induction ps with
  | nil => rfl
  | cons p ps ih => simp only [pairCells, List.flatMap_cons, List.length_append, List.length_cons, List.length_nil] at *; omega
theorem pairCells_append (ps qs : List (List UInt8 × List UInt8)) : pairCells (ps ++ qs) = pairCells ps ++ pairCells qs := by simp [pairCells]

/-- What 44 is: a name, and ">". -/
def endP (l : List UInt8) : List UInt8 × List UInt8 × Bool :=
  (l.take (nameN false true l), Lib.trimPrefix (l.drop (nameN false true l)) [62], Lib.hasPrefix (l.drop (nameN false true l)) [62] && !(l.take (nameN false true l)).isEmpty)

set_option maxRecDepth 100000 in
set_option maxHeartbeats 4000000 in
theorem ending_any (l : List UInt8) (w : World) (hs : l.length ≤ 140737488351232) :
    Calls Try.prog 44 #[.string ⟨l.toArray⟩] w fun e w' => e = .returned (.tuple #[.agg #[.string ⟨(endP l).1.toArray⟩, .bool true, .bool false, .slice none 0 0], .string ⟨(endP l).2.1.toArray⟩, .bool (endP l).2.2]) ∧ Below w.heap.size w w' := by
  unfold endP
  go_enter Try.func44, Try.ntmps44
  go_wp2_with fail
  refine (named_l false l _ hs).mono ?_
  rintro e w' ⟨rfl, n, rfl⟩
  generalize hn : l.take (nameN false true l) = nm
  generalize hq : l.drop (nameN false true l) = q
  have HN := Lib.hid hn
  have HQ := Lib.hid hq
  clear hn hq
  go_wp2_with fail
  refine (cutPrefix_l q [62] _).mono ?_
  rintro e w' ⟨rfl, rfl⟩
  generalize hr1 : Lib.trimPrefix q [62] = r1
  have HR := Lib.hid hr1
  rcases hp : Lib.hasPrefix q [62] with _ | _
  all_goals
    have HP := Lib.hid hp
    clear hr1 hp
  · go_wp2
    refine bodyPost_ret (v := .tuple #[.agg #[.string ⟨nm.toArray⟩, .bool true, .bool false, .slice none 0 0], .string ⟨r1.toArray⟩, .bool false]) (by simp [results, Try.results44, go_sem]) rfl ⟨by rw [HN.out, HQ.out, HR.out, HP.out]; rfl, ?_⟩
    exact (by repeat (first | with_reducible refine below_drewN ?_ _ | with_reducible refine Below.drew ?_ | ((with_reducible refine Below.alloc ?_ ?_ _); rotate_left; focus (first | exact Nat.le_refl _ | omega | (simp; done) | (simp; omega))) | ((with_reducible refine Below.setCell ?_ ?_ _); rotate_left; focus (first | exact Nat.le_refl _ | omega | (simp; done) | (simp; omega))) | with_reducible exact Below.refl _ _ | with_reducible assumption))
  · cases hne : nm.isEmpty
    · have HE := Lib.hid hne
      go_wp2
      refine bodyPost_ret (v := .tuple #[.agg #[.string ⟨nm.toArray⟩, .bool true, .bool false, .slice none 0 0], .string ⟨r1.toArray⟩, .bool true]) (by simp [results, Try.results44, go_sem]) rfl ⟨by rw [HN.out, HQ.out, HR.out, HP.out, HE.out]; rfl, ?_⟩
      exact (by repeat (first | with_reducible refine below_drewN ?_ _ | with_reducible refine Below.drew ?_ | ((with_reducible refine Below.alloc ?_ ?_ _); rotate_left; focus (first | exact Nat.le_refl _ | omega | (simp; done) | (simp; omega))) | ((with_reducible refine Below.setCell ?_ ?_ _); rotate_left; focus (first | exact Nat.le_refl _ | omega | (simp; done) | (simp; omega))) | with_reducible exact Below.refl _ _ | with_reducible assumption))
    · have HE := Lib.hid hne
      go_wp2
      refine bodyPost_ret (v := .tuple #[.agg #[.string ⟨nm.toArray⟩, .bool true, .bool false, .slice none 0 0], .string ⟨r1.toArray⟩, .bool false]) (by simp [results, Try.results44, go_sem]) rfl ⟨by rw [HN.out, HQ.out, HR.out, HP.out, HE.out]; rfl, ?_⟩
      exact (by repeat (first | with_reducible refine below_drewN ?_ _ | with_reducible refine Below.drew ?_ | ((with_reducible refine Below.alloc ?_ ?_ _); rotate_left; focus (first | exact Nat.le_refl _ | omega | (simp; done) | (simp; omega))) | ((with_reducible refine Below.setCell ?_ ?_ _); rotate_left; focus (first | exact Nat.le_refl _ | omega | (simp; done) | (simp; omega))) | with_reducible exact Below.refl _ _ | with_reducible assumption))
end Go.Proofs.Ytmlkmhonpmnenaa
