import Derived.Test.YtmlkmhonpmnenaaTagsY
namespace Go.Proofs.Ytmlkmhonpmnenaa
open Go.RowKit

set_option maxRecDepth 100000 in
set_option maxHeartbeats 4000000 in
theorem theirs_any (nm : List UInt8) (en vd : Bool) (v : Value) (hv : ∃ A n c, v = .slice A n c) (w : World) :
    Calls Try.prog 17 #[.agg #[.string ⟨nm.toArray⟩, .bool en, .bool vd, v]] w fun e w' => e = .returned (.agg #[.string ⟨nm.toArray⟩, .bool en, .bool vd, v]) ∧ Below w.heap.size w w' := by
  obtain ⟨A, n, c, rfl⟩ := hv
  go_enter Try.func17, Try.ntmps17
  go_wp2
  refine bodyPost_ret (v := .agg #[.string ⟨nm.toArray⟩, .bool en, .bool vd, .slice A n c]) (by simp [results, Try.results17, go_sem]) rfl ⟨rfl, ?_⟩
  exact (by repeat (first | with_reducible refine below_drewN ?_ _ | with_reducible refine Below.drew ?_ | ((with_reducible refine Below.alloc ?_ ?_ _); rotate_left; focus (first | exact Nat.le_refl _ | omega | (simp; done) | (simp; omega))) | ((with_reducible refine Below.setCell ?_ ?_ _); rotate_left; focus (first | exact Nat.le_refl _ | omega | (simp; done) | (simp; omega))) | with_reducible exact Below.refl _ _ | with_reducible assumption))

set_option maxRecDepth 100000 in
set_option maxHeartbeats 4000000 in
theorem samerow_eq (xs : List (List UInt8)) (A A' : Option Addr) (c c' : Nat) (w : World) (hl : xs.length ≤ 1073741824)
    (h : w.ownsRow 0 9 1 (.slice A xs.length c) xs.length (strCells xs)) (h' : w.ownsRow 0 9 1 (.slice A' xs.length c') xs.length (strCells xs)) :
    Calls Try.prog 20 #[.slice A xs.length c, .slice A' xs.length c'] w fun e w' => e = .returned (.bool true) ∧ Below w.heap.size w w' := by
  go_enter Try.func20, Try.ntmps20
  go_wp2_with fail
  go_loopw [5] (fun s5 wr => ∃ k : Nat, s5 = .int .i64 k ∧ k ≤ xs.length ∧ wr.ownsRow 0 9 1 (.slice A xs.length c) xs.length (strCells xs) ∧ wr.ownsRow 0 9 1 (.slice A' xs.length c') xs.length (strCells xs) ∧ Below w.heap.size w wr) (fun s5 _ => xs.length - (intOf s5).toNat)
  case atStart => exact ⟨0, rfl, Nat.zero_le _, h, h', Below.refl _ _⟩
  case round =>
    obtain ⟨k, rfl, hk, hr, hr', hB⟩ := hrel
    by_cases hlt : k < xs.length
    · obtain ⟨g, c1, hv, hg⟩ := own_some hr (by omega)
      obtain ⟨rfl, rfl⟩ : A = some ⟨g, 0, none⟩ ∧ c = c1 := by injection hv with h1 _ h2; exact ⟨h1, h2⟩
      obtain ⟨g', c1', hv', hg'⟩ := own_some hr' (by omega)
      obtain ⟨rfl, rfl⟩ : A' = some ⟨g', 0, none⟩ ∧ c' = c1' := by injection hv' with h1 _ h2; exact ⟨h1, h2⟩
      have e1 : (strCells xs)[k]? = some (.string ⟨(xs[k]).toArray⟩) := by simp [strCells, hlt]
      have q0 := (hr.cellAt k (by omega)).trans e1
      have q1 := (hr'.cellAt k (by omega)).trans e1
      have hgl : g < wr.heap.size := (hr.lt g rfl).2
      have hgl' : g' < wr.heap.size := (hr'.lt g' rfl).2
      generalize xs[k] = x at *
      have hlt' : (k : Int) < (xs.length : Int) := by omega
      have hk0 : (0 : Int) ≤ (k : Int) := by omega
      clear hv hv' e1
      go_wp2_with fail
      refine region_still (by kernel_rfl) (by kernel_rfl) ?_
      repeat ((with_reducible refine wpStill_step ?_); intro K hK; have HK := Lib.hid hK; clear hK; go_simp; (with_reducible refine HK.out _ ?_); clear HK K)
      (with_reducible refine wpStill_nil ?_)
      go_wp2
      go_roundw
      case rel => exact ⟨k + 1, by go_num, by omega, World.ownsRow.drew hr, World.ownsRow.drew hr', (by repeat (first | with_reducible refine below_drewN ?_ _ | with_reducible refine Below.drew ?_ | ((with_reducible refine Below.alloc ?_ ?_ _); rotate_left; focus (first | exact Nat.le_refl _ | omega | (simp; done) | (simp; omega))) | ((with_reducible refine Below.setCell ?_ ?_ _); rotate_left; focus (first | exact Nat.le_refl _ | omega | (simp; done) | (simp; omega))) | with_reducible exact Below.refl _ _ | with_reducible assumption))⟩
      case measure => simp [intOf]; omega
    · go_wp2
      go_ret
      exact ⟨rfl, hB⟩

set_option maxRecDepth 100000 in
set_option maxHeartbeats 4000000 in
theorem same_eq (T : TagP) (A A' : Option Addr) (c c' : Nat) (w : World) (hl : T.attrs.length ≤ 1073741824)
    (h : w.ownsRow 0 71 2 (.slice A T.attrs.length c) T.attrs.length (pairCells T.attrs)) (h' : w.ownsRow 0 71 2 (.slice A' T.attrs.length c') T.attrs.length (pairCells T.attrs)) :
    Calls Try.prog 16 #[.agg #[.string ⟨T.name.toArray⟩, .bool T.ends, .bool T.void, .slice A T.attrs.length c], .agg #[.string ⟨T.name.toArray⟩, .bool T.ends, .bool T.void, .slice A' T.attrs.length c']] w fun e w' => e = .returned (.bool true) ∧ Below w.heap.size w w' := by
  obtain ⟨nm, en, vd, ps⟩ := T
  simp only at h h' hl ⊢
  go_enter Try.func16, Try.ntmps16
  go_wp2_with fail
  go_loopw [5] (fun s5 wr => ∃ k : Nat, s5 = .int .i64 k ∧ k ≤ ps.length ∧
      wr.heap[w.heap.size]? = some (.cells #[.string ⟨nm.toArray⟩, .bool en, .bool vd, .slice A ps.length c] 28 (0, 0)) ∧
      wr.heap[w.heap.size + 1]? = some (.cells #[.string ⟨nm.toArray⟩, .bool en, .bool vd, .slice A' ps.length c'] 28 (0, 0)) ∧
      wr.ownsRow 0 71 2 (.slice A ps.length c) ps.length (pairCells ps) ∧ wr.ownsRow 0 71 2 (.slice A' ps.length c') ps.length (pairCells ps) ∧ Below w.heap.size w wr) (fun s5 _ => ps.length - (intOf s5).toNat)
  case atStart => exact ⟨0, rfl, Nat.zero_le _, (Below.heap_alloc _ _ _ (by simp)).trans (heap_alloc_new w _), heap_new_at _ (by simp), (h.alloc _).alloc _, (h'.alloc _).alloc _, (by repeat (first | with_reducible refine below_drewN ?_ _ | with_reducible refine Below.drew ?_ | ((with_reducible refine Below.alloc ?_ ?_ _); rotate_left; focus (first | exact Nat.le_refl _ | omega | (simp; done) | (simp; omega))) | ((with_reducible refine Below.setCell ?_ ?_ _); rotate_left; focus (first | exact Nat.le_refl _ | omega | (simp; done) | (simp; omega))) | with_reducible exact Below.refl _ _ | with_reducible assumption))⟩
  case round =>
    obtain ⟨k, rfl, hk, hb1, hb2, hr, hr', hB⟩ := hrel
    obtain ⟨d0, d1, d2, d3, -⟩ := blk4 hb1
    obtain ⟨g0, g1, g2, g3, -⟩ := blk4 hb2
    by_cases hlt : k < ps.length
    · obtain ⟨p, hp⟩ : ∃ p, ps[k]? = some p := ⟨ps[k], List.getElem?_eq_getElem hlt⟩
      obtain ⟨e1, e2⟩ := pairCells_at _ _ _ hp
      obtain ⟨g, c1, hv, hg⟩ := own_some hr (by omega)
      obtain ⟨rfl, rfl⟩ : A = some ⟨g, 0, none⟩ ∧ c = c1 := by injection hv with h1 _ h2; exact ⟨h1, h2⟩
      obtain ⟨g', c1', hv', hg'⟩ := own_some hr' (by omega)
      obtain ⟨rfl, rfl⟩ : A' = some ⟨g', 0, none⟩ ∧ c' = c1' := by injection hv' with h1 _ h2; exact ⟨h1, h2⟩
      have q0 := (hr.cellAt (k * 2) (by omega)).trans e1
      have q1 := (hr.cellAt (k * 2 + 1) (by omega)).trans e2
      have q2 := (hr'.cellAt (k * 2) (by omega)).trans e1
      have q3 := (hr'.cellAt (k * 2 + 1) (by omega)).trans e2
      have hlt' : (k : Int) < (ps.length : Int) := by omega
      have hk0 : (0 : Int) ≤ (k : Int) := by omega
      clear hv hv' e1 e2
      go_wp2_with fail
      refine region_still (by kernel_rfl) (by kernel_rfl) ?_
      repeat ((with_reducible refine wpStill_step ?_); intro K hK; have HK := Lib.hid hK; clear hK; go_simp; (with_reducible refine HK.out _ ?_); clear HK K)
      (with_reducible refine wpStill_nil ?_)
      go_wp2
      go_roundw
      case rel => exact ⟨k + 1, by go_num, by omega, hb1, hb2, World.ownsRow.drew hr, World.ownsRow.drew hr', (by repeat (first | with_reducible refine below_drewN ?_ _ | with_reducible refine Below.drew ?_ | ((with_reducible refine Below.alloc ?_ ?_ _); rotate_left; focus (first | exact Nat.le_refl _ | omega | (simp; done) | (simp; omega))) | ((with_reducible refine Below.setCell ?_ ?_ _); rotate_left; focus (first | exact Nat.le_refl _ | omega | (simp; done) | (simp; omega))) | with_reducible exact Below.refl _ _ | with_reducible assumption))⟩
      case measure => simp [intOf]; omega
    · go_wp2
      go_ret
      exact ⟨rfl, hB⟩
end Go.Proofs.Ytmlkmhonpmnenaa
