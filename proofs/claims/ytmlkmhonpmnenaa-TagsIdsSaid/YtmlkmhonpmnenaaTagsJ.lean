import Derived.Test.YtmlkmhonpmnenaaTagsI
import Derived.Deep.RegionWith
import Derived.StillTailTactics
import Derived.Defers
import Derived.Recover
namespace Go.Proofs.Ytmlkmhonpmnenaa
open Go.RowKit

def wrongV : Value := .iface 75 (.agg #[])
def wrongP : List PanicEntry := [{ v := wrongV, recovered := false }]
set_option maxRecDepth 100000 in
theorem need_true (w : World) : Calls Try.prog 51 #[.bool true] w fun e w' => e = .returned (.tuple #[]) ∧ w = w' := by
  go_enter Try.func51, Try.ntmps51
  go_wp2
  go_end0
  exact ⟨rfl, rfl⟩
set_option maxRecDepth 100000 in
theorem need_false (w : World) : Calls Try.prog 51 #[.bool false] w fun e w' => e = .panicked wrongP ∧ w = w' := by
  go_enter Try.func51, Try.ntmps51
  go_wp2
  exact ⟨rfl, rfl, rfl⟩
theorem ne60 : ∀ b : UInt8, ((b.toNat : Int) != 60) = (b != 60) := by
  refine all_u8 ?_
  decide +kernel
theorem ne62 : ∀ b : UInt8, ((b.toNat : Int) != 62) = (b != 62) := by
  refine all_u8 ?_
  decide +kernel
set_option maxRecDepth 100000 in
theorem check_byte (b : UInt8) (w : World) : Calls Try.prog 52 (#[.int .u8 (b.toNat : Int)] ++ #[]) w fun e w' => (if b != 60 && b != 62 then e = .returned (.tuple #[]) else e = .panicked wrongP) ∧ w = w' := by
  have h60 := ne60 b
  have h62 := ne62 b
  cases h1 : b != 60 <;> cases h2 : b != 62
  all_goals
    rw [h1] at h60
    rw [h2] at h62
    have H1 := Lib.hid h1
    have H2 := Lib.hid h2
    clear h1 h2
    go_enter Try.func52, Try.ntmps52
  · go_wp2_with (go_at_call 51; refine (need_false _).mono ?_; rintro e w' ⟨rfl, rfl⟩)
    exact ⟨rfl, by simp, rfl⟩
  · go_wp2_with (go_at_call 51; refine (need_false _).mono ?_; rintro e w' ⟨rfl, rfl⟩)
    exact ⟨rfl, by simp, rfl⟩
  · go_wp2_with (go_at_call 51; refine (need_false _).mono ?_; rintro e w' ⟨rfl, rfl⟩)
    exact ⟨rfl, by simp, rfl⟩
  · go_wp2_with (go_at_call 51; refine (need_true _).mono ?_; rintro e w' ⟨rfl, rfl⟩)
    go_end0
    exact ⟨by simp, rfl⟩

def Stack (B : Nat) (st : List (List UInt8)) (w : World) : Prop := Strs B st.reverse w

set_option maxRecDepth 100000 in
set_option maxHeartbeats 4000000 in
theorem check_end (T : TagP) (av : Value) (B : Nat) (st : List (List UInt8)) (w : World) (hav : ∃ A n c, av = .slice A n c) (h : Stack B st w) (hl : st.length ≤ 1073741824) (he : T.ends = true) :
    Calls Try.prog 50 (#[tagV T av] ++ #[.pointer (some ⟨B, 0, none⟩)]) w fun e w' =>
      (∃ st', tagStep T st = some st' ∧ e = .returned (.tuple #[]) ∧ Stack B st' w' ∧ Below B w w') ∨ (tagStep T st = none ∧ e = .panicked wrongP ∧ Below B w w') := by
  obtain ⟨A0, n0, c0, rfl⟩ := hav
  obtain ⟨A, c, hbx, hrow⟩ := h
  have hBl : B < w.heap.size := (Array.getElem?_eq_some_iff.1 hbx).1
  have cB : w.cell? ⟨B, 0, none⟩ = some (.slice A st.reverse.length c) := cell_of_one hbx
  have fB : w.frozen? ⟨B, 0, none⟩ = false := free_of_one hbx
  unfold tagV
  rw [he]
  rcases st with _ | ⟨n, st'⟩
  · have hts : tagStep T [] = none := by simp [tagStep, he]
    have HTS := Lib.hid hts
    clear hts he
    go_enter Try.func50, Try.ntmps50
    go_wp2_with fail
    refine wp_region_still_tail 11 (by kernel_rfl) (by kernel_rfl) ?_
    simp only [List.take_succ_cons, List.take_zero, List.drop_succ_cons, List.drop_zero]
    change wpStill _ _ (World.drew _) _ _ _
    repeat ((with_reducible refine wpStill_step ?_); intro K hK; have HK := Lib.hid hK; clear hK; go_simp; (with_reducible refine HK.out _ ?_); clear HK K)
    (with_reducible refine wpStill_nil ?_)
    change wpList _ _ _ _ _ (World.drew _)
    go_wp2_with fail
    refine (need_false _).mono ?_
    rintro e w' ⟨rfl, rfl⟩
    go_wp2
    exact ⟨rfl, .inr ⟨HTS.out, rfl, (by repeat (first | with_reducible refine below_drewN ?_ _ | with_reducible refine Below.drew ?_ | ((with_reducible refine Below.alloc ?_ ?_ _); rotate_left; focus (first | exact Nat.le_refl _ | omega | (simp; done) | (simp; omega))) | ((with_reducible refine Below.setCell ?_ ?_ _); rotate_left; focus (first | exact Nat.le_refl _ | omega | (simp; done) | (simp; omega))) | with_reducible exact Below.refl _ _ | with_reducible assumption))⟩⟩
  · obtain ⟨g, c1, hv, hg⟩ := own_some hrow (by simp)
    obtain ⟨rfl, rfl⟩ : A = some ⟨g, 0, none⟩ ∧ c = c1 := by injection hv with h1 _ h2; exact ⟨h1, h2⟩
    clear hv
    have hcell : w.cell? ⟨g, st'.length, none⟩ = some (.string ⟨n.toArray⟩) := by
      rw [hrow.cellAt st'.length (by simp)]
      simp [strCells]
    have hgl : g < w.heap.size := (hrow.lt g rfl).2
    have hlen : (n :: st').reverse.length = st'.length + 1 := by simp
    rw [hlen] at cB hrow hbx
    have hl' : st'.length < 1073741824 := by simp at hl; omega
    have hk0 : (0 : Int) ≤ (st'.length : Int) := by omega
    have hk1 : (st'.length : Int) < (st'.length : Int) + 1 := by omega
    clear hlen hl
    cases hn : n == T.name
    · have hts : tagStep T (n :: st') = none := by simp [tagStep, he, hn]
      have HTS := Lib.hid hts
      clear hts he
      go_enter Try.func50, Try.ntmps50
      go_wp2_with fail
      refine wp_region_still_tail 11 (by kernel_rfl) (by kernel_rfl) ?_
      simp only [List.take_succ_cons, List.take_zero, List.drop_succ_cons, List.drop_zero]
      change wpStill _ _ (World.drew _) _ _ _
      repeat ((with_reducible refine wpStill_step ?_); intro K hK; have HK := Lib.hid hK; clear hK; go_simp; (with_reducible refine HK.out _ ?_); clear HK K)
      (with_reducible refine wpStill_nil ?_)
      change wpList _ _ _ _ _ (World.drew _)
      go_wp2_with fail
      refine (need_false _).mono ?_
      rintro e w' ⟨rfl, rfl⟩
      go_wp2
      exact ⟨rfl, .inr ⟨HTS.out, rfl, (by repeat (first | with_reducible refine below_drewN ?_ _ | with_reducible refine Below.drew ?_ | ((with_reducible refine Below.alloc ?_ ?_ _); rotate_left; focus (first | exact Nat.le_refl _ | omega | (simp; done) | (simp; omega))) | ((with_reducible refine Below.setCell ?_ ?_ _); rotate_left; focus (first | exact Nat.le_refl _ | omega | (simp; done) | (simp; omega))) | with_reducible exact Below.refl _ _ | with_reducible assumption))⟩⟩
    · have hts : tagStep T (n :: st') = some st' := by simp [tagStep, he, hn]
      have HTS := Lib.hid hts
      have hrow2 : w.ownsRow (B + 1) 9 1 (.slice (some ⟨g, 0, none⟩) st'.length c) st'.length (strCells st'.reverse) :=
        ownsRow_pop (last := [.string ⟨n.toArray⟩]) (by simp [strCells]) (by simpa [strCells] using hrow)
      have hcap : (st'.length : Int) ≤ (c : Int) := by
        rcases hrow.2 with ⟨h0, _⟩ | ⟨_, c', _, h1, _, _, h3, _⟩
        · cases h0
        · injection h1 with _ _ h4; subst h4; omega
      clear hts he
      go_enter Try.func50, Try.ntmps50
      go_wp2_with fail
      refine wp_region_still_tail 11 (by kernel_rfl) (by kernel_rfl) ?_
      simp only [List.take_succ_cons, List.take_zero, List.drop_succ_cons, List.drop_zero]
      change wpStill _ _ (World.drew _) _ _ _
      repeat ((with_reducible refine wpStill_step ?_); intro K hK; have HK := Lib.hid hK; clear hK; go_simp; (with_reducible refine HK.out _ ?_); clear HK K)
      (with_reducible refine wpStill_nil ?_)
      change wpList _ _ _ _ _ (World.drew _)
      go_wp2_with fail
      refine (need_true _).mono ?_
      rintro e w' ⟨rfl, rfl⟩
      go_wp2
      go_end0
      refine .inl ⟨st', HTS.out, rfl, ⟨some ⟨g, 0, none⟩, c, ?_, ?_⟩, (by repeat (first | with_reducible refine below_drewN ?_ _ | with_reducible refine Below.drew ?_ | ((with_reducible refine Below.alloc ?_ ?_ _); rotate_left; focus (first | exact Nat.le_refl _ | omega | (simp; done) | (simp; omega))) | ((with_reducible refine Below.setCell ?_ ?_ _); rotate_left; focus (first | exact Nat.le_refl _ | omega | (simp; done) | (simp; omega))) | with_reducible exact Below.refl _ _ | with_reducible assumption))⟩
      · rw [List.length_reverse]
        exact (Below.heap_alloc _ _ _ (by simpa using hBl)).trans (one_setCell hbx)
      · rw [List.length_reverse]
        exact World.ownsRow.drew ((own_set_box hrow2 hbx (by decide) _ _).alloc _)

set_option maxRecDepth 100000 in
set_option maxHeartbeats 4000000 in
theorem check_begin (T : TagP) (av : Value) (B : Nat) (st : List (List UInt8)) (w : World) (hav : ∃ A n c, av = .slice A n c) (h : Stack B st w) (hl : st.length ≤ 1073741824) (he : T.ends = false) :
    Calls Try.prog 50 (#[tagV T av] ++ #[.pointer (some ⟨B, 0, none⟩)]) w fun e w' =>
      (∃ st', tagStep T st = some st' ∧ e = .returned (.tuple #[]) ∧ Stack B st' w' ∧ Below B w w') ∨ (tagStep T st = none ∧ e = .panicked wrongP ∧ Below B w w') := by
  obtain ⟨A0, n0, c0, rfl⟩ := hav
  have h0 := h
  obtain ⟨A, c, hbx, hrow⟩ := h
  have hBl : B < w.heap.size := (Array.getElem?_eq_some_iff.1 hbx).1
  have cB : w.cell? ⟨B, 0, none⟩ = some (.slice A st.reverse.length c) := cell_of_one hbx
  have fB : w.frozen? ⟨B, 0, none⟩ = false := free_of_one hbx
  have hlr : st.reverse.length ≤ 1073741824 := by simpa using hl
  generalize hys : st.reverse = ys at *
  have HYS := Lib.hid hys
  clear hys hl
  obtain ⟨i0, hi0, iz, isz, iby⟩ := info_parts info_str
  have hbl : (ys.length + 1) * 16 ≤ 140737488355328 := by omega
  unfold tagV
  rw [he]
  cases hv : T.void
  · have hts : tagStep T st = some (T.name :: st) := by simp [tagStep, he, hv]
    have HTS := Lib.hid hts
    clear hts he hv
    go_enter Try.func50, Try.ntmps50
    go_wp2_with (at_builtin; refine wpList_append_own _ rfl _ _ 35 rfl (B + 1) 9 i0 _ 1 16 Try.underlying35 hi0 iz isz iby rfl (by decide) _ _ _ rfl ((hrow.alloc _).alloc _) ⟨w.heap.size + 1, 0, none⟩ 1 1 [.string ⟨T.name.toArray⟩] rfl rfl ?c1 ?c2 ?c3 ?c4 ?c5 ?_)
    case c1 =>
      intro j u hj
      match j, hj with
      | 0, hj => simp at hj; subst hj; simp [go_sem]
    case c2 => intro u hu; simp at hu; subst hu; rfl
    case c3 => simp only [maxLen]; omega
    case c4 => exact hbl
    case c5 => simp; omega
    intro v' w1 hown1 hgrow _
    obtain ⟨g', c1', rfl, hg'⟩ := own_some hown1 (by omega)
    have hneB : some B ≠ (Value.slice A ys.length c).ownBlock := fun e => by have := (hrow.lt B e.symm).1; omega
    have hbx1 := (hgrow.block B (by simp; omega) hneB).trans ((Below.heap_alloc _ _ _ (by simp; omega)).trans ((Below.heap_alloc _ _ _ (by omega)).trans hbx))
    have hBl1 : B < w1.heap.size := (Array.getElem?_eq_some_iff.1 hbx1).1
    have hB1 : Below B w w1 := Below.grown (w := (w.alloc (.cells #[.string ⟨T.name.toArray⟩, .bool false, .bool false, .slice A0 n0 c0] 25)).alloc (.cells #[.string ⟨T.name.toArray⟩] 9)) (by repeat (first | with_reducible refine below_drewN ?_ _ | with_reducible refine Below.drew ?_ | ((with_reducible refine Below.alloc ?_ ?_ _); rotate_left; focus (first | exact Nat.le_refl _ | omega | (simp; done) | (simp; omega))) | ((with_reducible refine Below.setCell ?_ ?_ _); rotate_left; focus (first | exact Nat.le_refl _ | omega | (simp; done) | (simp; omega))) | with_reducible exact Below.refl _ _ | with_reducible assumption)) hgrow (by simp; omega) (fun j hj => by have := (hrow.lt j hj).1; omega)
    have cB1 : w1.cell? ⟨B, 0, none⟩ = some (.slice A ys.length c) := cell_of_one hbx1
    have fB1 : w1.frozen? ⟨B, 0, none⟩ = false := free_of_one hbx1
    clear hgrow hrow hbx cB fB h0 hneB
    go_wp2
    go_end0
    refine .inl ⟨_, HTS.out, rfl, ⟨some ⟨g', 0, none⟩, c1', ?_, ?_⟩, (by repeat (first | with_reducible refine below_drewN ?_ _ | with_reducible refine Below.drew ?_ | ((with_reducible refine Below.alloc ?_ ?_ _); rotate_left; focus (first | exact Nat.le_refl _ | omega | (simp; done) | (simp; omega))) | ((with_reducible refine Below.setCell ?_ ?_ _); rotate_left; focus (first | exact Nat.le_refl _ | omega | (simp; done) | (simp; omega))) | with_reducible exact Below.refl _ _ | with_reducible assumption))⟩
    · rw [List.reverse_cons, HYS.out]
      simp only [List.length_append, List.length_cons, List.length_nil]
      exact one_setCell hbx1
    · rw [List.reverse_cons, HYS.out]
      simp only [List.length_append, List.length_cons, List.length_nil, strCells, List.map_append]
      exact own_set_box hown1 hbx1 (by decide) _ _
  · have hts : tagStep T st = some st := by simp [tagStep, he, hv]
    have HTS := Lib.hid hts
    clear hts he hv
    go_enter Try.func50, Try.ntmps50
    go_wp2
    go_end0
    exact .inl ⟨st, HTS.out, rfl, strs_below h0 (by repeat (first | with_reducible refine below_drewN ?_ _ | with_reducible refine Below.drew ?_ | ((with_reducible refine Below.alloc ?_ ?_ _); rotate_left; focus (first | exact Nat.le_refl _ | omega | (simp; done) | (simp; omega))) | ((with_reducible refine Below.setCell ?_ ?_ _); rotate_left; focus (first | exact Nat.le_refl _ | omega | (simp; done) | (simp; omega))) | with_reducible exact Below.refl _ _ | with_reducible assumption)), (by repeat (first | with_reducible refine below_drewN ?_ _ | with_reducible refine Below.drew ?_ | ((with_reducible refine Below.alloc ?_ ?_ _); rotate_left; focus (first | exact Nat.le_refl _ | omega | (simp; done) | (simp; omega))) | ((with_reducible refine Below.setCell ?_ ?_ _); rotate_left; focus (first | exact Nat.le_refl _ | omega | (simp; done) | (simp; omega))) | with_reducible exact Below.refl _ _ | with_reducible assumption))⟩
end Go.Proofs.Ytmlkmhonpmnenaa
