import Derived.Test.YtmlkmhonpmnenaaTagsZa
import Derived.Deep.RegionHeld3
namespace Go.Proofs.Ytmlkmhonpmnenaa
open Go.RowKit

/-- What holds, and is kept by whatever a callee makes above. -/
def RW (w : World) (N : Nat) (T : TagP) (A A' : Option Addr) (c c' : Nat) (w' : World) : Prop :=
  N ≤ w'.heap.size ∧ Below w.heap.size w w' ∧ w.heap.size ≤ N ∧ w'.ownsRow 0 71 2 (.slice A T.attrs.length c) T.attrs.length (pairCells T.attrs) ∧ w'.ownsRow 0 71 2 (.slice A' T.attrs.length c') T.attrs.length (pairCells T.attrs)
abbrev SR (w : World) (N b4 b6 : Nat) (T : TagP) (A A' : Option Addr) (c c' : Nat) (w' : World) : Prop :=
  w'.cell? ⟨b4, 0, none⟩ = some (.string ⟨T.name.toArray⟩) ∧ w'.cell? ⟨b4, 1, none⟩ = some (.bool T.ends) ∧ w'.cell? ⟨b4, 2, none⟩ = some (.bool T.void) ∧ w'.cell? ⟨b4, 3, none⟩ = some (.slice A T.attrs.length c) ∧
  w'.cell? ⟨b6, 0, none⟩ = some (.string ⟨T.name.toArray⟩) ∧ w'.cell? ⟨b6, 1, none⟩ = some (.bool T.ends) ∧ w'.cell? ⟨b6, 2, none⟩ = some (.bool T.void) ∧ w'.cell? ⟨b6, 3, none⟩ = some (.slice A' T.attrs.length c') ∧
  (b4 < N ∧ b6 < N ∧ RW w N T A A' c c' w')
theorem RW.keep {w : World} {N : Nat} {T : TagP} {A A' : Option Addr} {c c' : Nat} {w1 w2 : World} (h : RW w N T A A' c c' w1) (hb : Below w1.heap.size w1 w2) : RW w N T A A' c c' w2 :=
  ⟨Nat.le_trans h.1 hb.size, h.2.1.trans (hb.mono (Nat.le_trans h.2.2.1 h.1)), h.2.2.1, own_keep h.2.2.2.1 hb, own_keep h.2.2.2.2 hb⟩
theorem SR_keep {w : World} {N b4 b6 : Nat} {T : TagP} {A A' : Option Addr} {c c' : Nat} {w1 w2 : World} (h : SR w N b4 b6 T A A' c c' w1) (hb : Below w1.heap.size w1 w2) : SR w N b4 b6 T A A' c c' w2 := by
  obtain ⟨a0, a1, a2, a3, a4, a5, a6, a7, h4, h6, hr⟩ := h
  have hc : ∀ k j, k < N → w2.cell? ⟨k, j, none⟩ = w1.cell? ⟨k, j, none⟩ := fun k j hk => hb.cell (p := ⟨k, j, none⟩) (Nat.lt_of_lt_of_le hk hr.1)
  exact ⟨(hc _ _ h4).trans a0, (hc _ _ h4).trans a1, (hc _ _ h4).trans a2, (hc _ _ h4).trans a3, (hc _ _ h6).trans a4, (hc _ _ h6).trans a5, (hc _ _ h6).trans a6, (hc _ _ h6).trans a7, h4, h6, hr.keep hb⟩
theorem theirs_held {w : World} {N b4 b6 : Nat} {T : TagP} {A A' : Option Addr} {c c' : Nat} {w1 : World} (h : SR w N b4 b6 T A A' c c' w1) :
    Calls Try.prog 17 #[.agg #[.string ⟨T.name.toArray⟩, .bool T.ends, .bool T.void, .slice A T.attrs.length c]] w1 fun e w' => e = .returned (.agg #[.string ⟨T.name.toArray⟩, .bool T.ends, .bool T.void, .slice A T.attrs.length c]) ∧ SR w N b4 b6 T A A' c c' w' := by
  refine (theirs_any T.name T.ends T.void _ ⟨A, _, c, rfl⟩ w1).mono ?_
  rintro e w' ⟨rfl, hb⟩
  exact ⟨rfl, SR_keep h hb⟩
theorem same_held {w : World} {N b4 b6 : Nat} {T : TagP} {A A' : Option Addr} {c c' : Nat} {w1 : World} (hl : T.attrs.length ≤ 1073741824) (h : SR w N b4 b6 T A A' c c' w1) :
    Calls Try.prog 16 #[.agg #[.string ⟨T.name.toArray⟩, .bool T.ends, .bool T.void, .slice A T.attrs.length c], .agg #[.string ⟨T.name.toArray⟩, .bool T.ends, .bool T.void, .slice A' T.attrs.length c']] w1 fun e w' => e = .returned (.bool true) ∧ SR w N b4 b6 T A A' c c' w' := by
  refine (same_eq T A A' c c' w1 hl h.2.2.2.2.2.2.2.2.2.2.2.2.2.1 h.2.2.2.2.2.2.2.2.2.2.2.2.2.2).mono ?_
  rintro e w' ⟨rfl, hb⟩
  exact ⟨rfl, SR_keep h hb⟩
theorem check_held {w : World} {N b4 b6 : Nat} {T : TagP} {A A' : Option Addr} {c c' : Nat} {w1 : World} (l : List UInt8) (hl : l.length ≤ 1073741824) (h : SR w N b4 b6 T A A' c c' w1) :
    Calls Try.prog 18 #[.string ⟨l.toArray⟩] w1 fun e w' => e = .returned (.bool (checkT (toks l) [])) ∧ SR w N b4 b6 T A A' c c' w' := by
  refine (check_any l w1 hl).mono ?_
  rintro e w' ⟨rfl, hb⟩
  exact ⟨rfl, SR_keep h hb⟩
theorem rcheck_held {w : World} {N b4 b6 : Nat} {T : TagP} {A A' : Option Addr} {c c' : Nat} {w1 : World} (l : List UInt8) (hl : l.length ≤ 1073741824) (h : SR w N b4 b6 T A A' c c' w1) :
    Calls Try.prog 19 #[.string ⟨l.toArray⟩] w1 fun e w' => e = .returned (.bool (checkT (toks l) [])) ∧ SR w N b4 b6 T A A' c c' w' := by
  refine (rcheck_any ⟨l.toArray⟩ w1 (by rw [mkb_size]; exact hl)).mono ?_
  rintro e w' ⟨rfl, hb⟩
  exact ⟨rfl, SR_keep h hb⟩
theorem text_held {w : World} {N b4 b6 : Nat} {T : TagP} {A A' : Option Addr} {c c' : Nat} {w1 : World} (l : List UInt8) (hl : l.length ≤ 1073741824) (h : SR w N b4 b6 T A A' c c' w1) :
    Calls Try.prog 23 #[.string ⟨l.toArray⟩] w1 fun e w' => e = .returned (.string ⟨(textT (toks l)).toArray⟩) ∧ SR w N b4 b6 T A A' c c' w' := by
  refine (text_any l w1 hl).mono ?_
  rintro e w' ⟨rfl, hb⟩
  exact ⟨rfl, SR_keep h hb⟩
theorem rtext_held {w : World} {N b4 b6 : Nat} {T : TagP} {A A' : Option Addr} {c c' : Nat} {w1 : World} (l : List UInt8) (hl : l.length ≤ 1073741824) (h : SR w N b4 b6 T A A' c c' w1) :
    Calls Try.prog 24 #[.string ⟨l.toArray⟩] w1 fun e w' => e = .returned (.string ⟨(textT (toks l)).toArray⟩) ∧ SR w N b4 b6 T A A' c c' w' := by
  refine (rtext_any ⟨l.toArray⟩ w1 (by rw [mkb_size]; exact hl)).mono ?_
  rintro e w' ⟨rfl, hb⟩
  exact ⟨rfl, SR_keep h hb⟩
/-- A slice of these texts lies here. -/
def Row (xs : List (List UInt8)) (A : Option Addr) (c : Nat) (w : World) : Prop := w.ownsRow 0 9 1 (.slice A xs.length c) xs.length (strCells xs)
theorem ids_held {w : World} {N b4 b6 : Nat} {T : TagP} {A A' : Option Addr} {c c' : Nat} {w1 : World} (l : List UInt8) (hl : l.length ≤ 1073741824) (h : SR w N b4 b6 T A A' c c' w1) :
    Calls Try.prog 21 #[.string ⟨l.toArray⟩] w1 fun e w' => ∃ B d, e = .returned (.slice B (idsT (toks l)).length d) ∧ Row (idsT (toks l)) B d w' ∧ SR w N b4 b6 T A A' c c' w' := by
  refine (ids_any l w1 hl).mono ?_
  rintro e w' ⟨B, d, rfl, hrow, hb⟩
  exact ⟨B, d, rfl, own_base_le hrow (Nat.zero_le _), SR_keep h hb⟩
theorem rids_held {w : World} {N b4 b6 : Nat} {T : TagP} {A A' : Option Addr} {c c' : Nat} {w1 : World} {xs : List (List UInt8)} {B : Option Addr} {d : Nat} (l : List UInt8) (hl : l.length ≤ 1073741824) (h : SR w N b4 b6 T A A' c c' w1) (h5 : Row xs B d w1) :
    Calls Try.prog 22 #[.string ⟨l.toArray⟩] w1 fun e w' => ∃ B' d', e = .returned (.slice B' (idsT (toks l)).length d') ∧ Row (idsT (toks l)) B' d' w' ∧ Row xs B d w' ∧ SR w N b4 b6 T A A' c c' w' := by
  refine (rids_any ⟨l.toArray⟩ w1 (by rw [mkb_size]; exact hl)).mono ?_
  rintro e w' ⟨B', d', rfl, hrow, hb⟩
  exact ⟨B', d', rfl, own_base_le hrow (Nat.zero_le _), own_keep h5 hb, SR_keep h hb⟩
theorem samerow_held {w : World} {N b4 b6 : Nat} {T : TagP} {A A' : Option Addr} {c c' : Nat} {w1 : World} {xs : List (List UInt8)} {B B' : Option Addr} {d d' : Nat} (hl : xs.length ≤ 1073741824) (h5 : Row xs B d w1) (h6 : Row xs B' d' w1) (h : SR w N b4 b6 T A A' c c' w1) :
    Calls Try.prog 20 #[.slice B xs.length d, .slice B' xs.length d'] w1 fun e w' => e = .returned (.bool true) ∧ SR w N b4 b6 T A A' c c' w' := by
  refine (samerow_eq xs B B' d d' w1 hl h5 h6).mono ?_
  rintro e w' ⟨rfl, hb⟩
  exact ⟨rfl, SR_keep h hb⟩
theorem idsT_len (l : List UInt8) : (idsT (toks l)).length ≤ l.length := by
  suffices h : ∀ k (l : List UInt8), l.length ≤ k → (idsT (toks l)).length ≤ l.length from h _ l (Nat.le_refl _)
  intro k
  induction k with
  | zero =>
    intro l hl
    obtain rfl : l = [] := List.eq_nil_of_length_eq_zero (by omega)
    exact Nat.le_refl _
  | succ k ih =>
    intro l hl
    rcases l with _ | ⟨b, r⟩
    · exact Nat.le_refl _
    · rw [ids_step (T := (readP (b :: r)).1) (n := (readP (b :: r)).2) (by simp) rfl]
      have h1 := readP_cnt (b :: r)
      have h2 := readP_le (b :: r)
      have h3 := idIds_len (readP (b :: r)).1.attrs
      have h4 := ih ((b :: r).drop (max (readP (b :: r)).2 1)) (by simp at hl ⊢; omega)
      simp at h2 h4 ⊢
      omega

set_option maxRecDepth 100000 in
set_option maxHeartbeats 4000000 in
theorem tagsRead_walk (l : List UInt8) (w : World) :
    Calls Try.prog 3 #[.string ⟨l.toArray⟩] w fun e w' => e = .returned (.bool true) ∧ Below w.heap.size w w' := by
  by_cases hl : 1000 < l.length
  · have hli : (1000 : Int) < (l.length : Int) := by omega
    go_enter Try.func3, Try.ntmps3
    go_wp2_with fail
    refine (awake_any _).mono ?_
    rintro e w1 ⟨rfl, hb1⟩
    go_wp2
    go_ret
    exact ⟨rfl, hb1⟩
  · have hl2 : l.length ≤ 1073741824 := by omega
    have hli : (l.length : Int) ≤ 1000 := by omega
    have hsz : (⟨l.toArray⟩ : ByteArray).size = l.length := mkb_size l
    obtain ⟨⟨nm, en, vd, ps⟩, n, hr⟩ : ∃ T n, readP l = (T, n) := ⟨_, _, rfl⟩
    have hpl : ps.length ≤ 1073741824 := by
      have h1 := readP_cnt l
      have h2 := readP_le l
      rw [hr] at h1 h2
      simp only at h1 h2
      omega
    have hrr := fun w => rread_T ⟨l.toArray⟩ w (by rw [hsz]; exact hl2) _ n (by exact hr)
    have hra := fun w => read_T l w hl2 _ n hr
    have HRR := Lib.hid hrr
    have HRA := Lib.hid hra
    clear hr hrr hra
    go_enter Try.func3, Try.ntmps3
    go_wp2_with fail
    refine (awake_any _).mono ?_
    rintro e w1 ⟨rfl, hb1⟩
    have hs1 := hb1.size
    go_wp2_with fail
    refine (HRA.out _).mono ?_
    rintro e w2 ⟨A, c, rfl, hown2, hb2⟩
    have hB2 := below_then hb1 hb2
    have hs2 := hb2.size
    go_wp2_with fail
    refine (HRR.out _).mono ?_
    rintro e w3 ⟨A', c', rfl, hown3, hb3⟩
    have hx3 := (hb3.block w2.heap.size (by simp)).trans (heap_alloc_new w2 _)
    have hs3 := hb3.size
    simp at hs3
    have hB3 : Below w.heap.size w w3 := below_then (w1 := w2.alloc (.cells #[.string ⟨nm.toArray⟩, .bool en, .bool vd, .slice A ps.length c] 25)) (by repeat (first | with_reducible refine below_drewN ?_ _ | with_reducible refine Below.drew ?_ | ((with_reducible refine Below.alloc ?_ ?_ _); rotate_left; focus (first | exact Nat.le_refl _ | omega | (simp; done) | (simp; omega))) | ((with_reducible refine Below.setCell ?_ ?_ _); rotate_left; focus (first | exact Nat.le_refl _ | omega | (simp; done) | (simp; omega))) | with_reducible exact Below.refl _ _ | with_reducible assumption)) hb3
    have hown2' := own_keep (hown2.alloc (.cells #[.string ⟨nm.toArray⟩, .bool en, .bool vd, .slice A ps.length c] 25)) hb3
    have hr2 := own_base_le hown2' (Nat.zero_le _)
    have hr3 := own_base_le hown3 (Nat.zero_le _)
    clear hown2 hown3 hown2' hb2 hb3 hB2 HRA HRR hb1
    obtain ⟨c0, c1, c2, c3, -⟩ := blk4 hx3
    go_wp2_with fail
    obtain ⟨W0, hW0⟩ : ∃ W0, w3.alloc (.cells #[.string ⟨nm.toArray⟩, .bool en, .bool vd, .slice A' ps.length c'] 28) = W0 := ⟨_, rfl⟩
    have hS0 : SR w (w3.heap.size + 1) w2.heap.size w3.heap.size ⟨nm, en, vd, ps⟩ A A' c c' W0.drew := by
      subst hW0
      have hx4 := (Below.heap_alloc w3 (.cells #[.string ⟨nm.toArray⟩, .bool en, .bool vd, .slice A' ps.length c'] 28) w2.heap.size (by omega)).trans hx3
      have hx5 := heap_alloc_new w3 (.cells #[.string ⟨nm.toArray⟩, .bool en, .bool vd, .slice A' ps.length c'] 28)
      obtain ⟨e0, e1, e2, e3, -⟩ := blk4 hx4
      obtain ⟨f0, f1, f2, f3, -⟩ := blk4 hx5
      exact ⟨e0, e1, e2, e3, f0, f1, f2, f3, by omega, by omega, by show w3.heap.size + 1 ≤ (w3.heap.push _).size; rw [Array.size_push]; exact Nat.le_refl _, (by repeat (first | with_reducible refine below_drewN ?_ _ | with_reducible refine Below.drew ?_ | ((with_reducible refine Below.alloc ?_ ?_ _); rotate_left; focus (first | exact Nat.le_refl _ | omega | (simp; done) | (simp; omega))) | ((with_reducible refine Below.setCell ?_ ?_ _); rotate_left; focus (first | exact Nat.le_refl _ | omega | (simp; done) | (simp; omega))) | with_reducible exact Below.refl _ _ | with_reducible assumption)), by omega, World.ownsRow.drew (hr2.alloc _), World.ownsRow.drew (hr3.alloc _)⟩
    rw [hW0]
    obtain ⟨R, hR⟩ : ∃ R, idsT (toks l) = R := ⟨_, rfl⟩
    have hRl : R.length ≤ 1073741824 := by rw [← hR]; exact Nat.le_trans (idsT_len l) hl2
    have hI := fun w1 h => ids_held (w := w) (N := w3.heap.size + 1) (b4 := w2.heap.size) (b6 := w3.heap.size) (T := ⟨nm, en, vd, ps⟩) (A := A) (A' := A') (c := c) (c' := c') (w1 := w1) l hl2 h
    have hJ := fun w1 B d h => rids_held (w := w) (N := w3.heap.size + 1) (b4 := w2.heap.size) (b6 := w3.heap.size) (T := ⟨nm, en, vd, ps⟩) (A := A) (A' := A') (c := c) (c' := c') (w1 := w1) (xs := R) (B := B) (d := d) l hl2 h
    rw [hR] at hI hJ
    obtain ⟨CK, hCK⟩ : ∃ CK, checkT (toks l) [] = CK := ⟨_, rfl⟩
    have hC := fun w1 h => check_held (w := w) (N := w3.heap.size + 1) (b4 := w2.heap.size) (b6 := w3.heap.size) (T := ⟨nm, en, vd, ps⟩) (A := A) (A' := A') (c := c) (c' := c') (w1 := w1) l hl2 h
    have hD := fun w1 h => rcheck_held (w := w) (N := w3.heap.size + 1) (b4 := w2.heap.size) (b6 := w3.heap.size) (T := ⟨nm, en, vd, ps⟩) (A := A) (A' := A') (c := c) (c' := c') (w1 := w1) l hl2 h
    rw [hCK] at hC hD
    obtain ⟨TX, hTX⟩ : ∃ TX, textT (toks l) = TX := ⟨_, rfl⟩
    have hT := fun w1 h => text_held (w := w) (N := w3.heap.size + 1) (b4 := w2.heap.size) (b6 := w3.heap.size) (T := ⟨nm, en, vd, ps⟩) (A := A) (A' := A') (c := c) (c' := c') (w1 := w1) l hl2 h
    have hU := fun w1 h => rtext_held (w := w) (N := w3.heap.size + 1) (b4 := w2.heap.size) (b6 := w3.heap.size) (T := ⟨nm, en, vd, ps⟩) (A := A) (A' := A') (c := c) (c' := c') (w1 := w1) l hl2 h
    rw [hTX] at hT hU
    have HI := Lib.hid hI
    have HJ := Lib.hid hJ
    have HC := Lib.hid hC
    have HD := Lib.hid hD
    have HT := Lib.hid hT
    have HU := Lib.hid hU
    clear hI hJ hC hD hT hU hR hCK hTX hx3 hr2 hr3 hB3 hW0 c0 c1 c2 c3
    go_region_held3 (fun w' => w'.cell? ⟨w2.heap.size, 0, none⟩ = some (.string ⟨nm.toArray⟩) ∧ w'.cell? ⟨w2.heap.size, 1, none⟩ = some (.bool en) ∧ w'.cell? ⟨w2.heap.size, 2, none⟩ = some (.bool vd) ∧ w'.cell? ⟨w2.heap.size, 3, none⟩ = some (.slice A ps.length c) ∧
        w'.cell? ⟨w3.heap.size, 0, none⟩ = some (.string ⟨nm.toArray⟩) ∧ w'.cell? ⟨w3.heap.size, 1, none⟩ = some (.bool en) ∧ w'.cell? ⟨w3.heap.size, 2, none⟩ = some (.bool vd) ∧ w'.cell? ⟨w3.heap.size, 3, none⟩ = some (.slice A' ps.length c') ∧
        (w2.heap.size < w3.heap.size + 1 ∧ w3.heap.size < w3.heap.size + 1 ∧ RW w (w3.heap.size + 1) ⟨nm, en, vd, ps⟩ A A' c c' w')) (first | exact hS0 | assumption)
      (first
        | (go_at_call 17; refine (theirs_held (w := w) (N := w3.heap.size + 1) (b4 := w2.heap.size) (b6 := w3.heap.size) (T := ⟨nm, en, vd, ps⟩) (A := A) (A' := A') (c := c) (c' := c') (by assumption)).mono ?_; rintro e w' ⟨rfl, hS⟩)
        | (go_at_call 16; refine (same_held (w := w) (N := w3.heap.size + 1) (b4 := w2.heap.size) (b6 := w3.heap.size) (T := ⟨nm, en, vd, ps⟩) (A := A) (A' := A') (c := c) (c' := c') hpl (by assumption)).mono ?_; rintro e w' ⟨rfl, hS⟩)
        | (go_at_call 18; refine (HC.out _ (by assumption)).mono ?_; rintro e w' ⟨rfl, hS⟩)
        | (go_at_call 19; refine (HD.out _ (by assumption)).mono ?_; rintro e w' ⟨rfl, hS⟩)
        | (go_at_call 21; refine (HI.out _ (by assumption)).mono ?_; rintro e w' ⟨B5, d5, rfl, h5, hS⟩)
        | (go_at_call 22; refine (HJ.out _ _ _ (by assumption) (by assumption)).mono ?_; rintro e w' ⟨B6, d6, rfl, h6, h5', hS⟩)
        | (go_at_call 20; refine (samerow_held (w := w) (N := w3.heap.size + 1) (b4 := w2.heap.size) (b6 := w3.heap.size) (T := ⟨nm, en, vd, ps⟩) (A := A) (A' := A') (c := c) (c' := c') hRl (by assumption) (by assumption) (by assumption)).mono ?_; rintro e w' ⟨rfl, hS⟩)
        | (go_at_call 23; refine (HT.out _ (by assumption)).mono ?_; rintro e w' ⟨rfl, hS⟩)
        | (go_at_call 24; refine (HU.out _ (by assumption)).mono ?_; rintro e w' ⟨rfl, hS⟩))
    all_goals go_wp2
    all_goals go_ret
    exact ⟨rfl, hS.2.2.2.2.2.2.2.2.2.2.2.1⟩
end Go.Proofs.Ytmlkmhonpmnenaa
