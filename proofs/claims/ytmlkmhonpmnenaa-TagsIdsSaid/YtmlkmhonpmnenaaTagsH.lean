import Derived.Test.YtmlkmhonpmnenaaTagsG
namespace Go.Proofs.Ytmlkmhonpmnenaa
open Go.RowKit

def strCells (xs : List (List UInt8)) : List Value := xs.map fun x => .string ⟨x.toArray⟩
/-- A box that holds a slice of texts, made since. -/
def Strs (B : Nat) (xs : List (List UInt8)) (w : World) : Prop := ∃ A c, w.heap[B]? = some (.cells #[.slice A xs.length c] 35 (0, 0)) ∧ w.ownsRow (B + 1) 9 1 (.slice A xs.length c) xs.length (strCells xs)
theorem info_str : (Try.prog.info? 9).map (fun i => (i.zero, i.size, i.bytes)) = some (some (.string ⟨#[]⟩), 1, 16) := by kernel_rfl
def idIds (ps : List (List UInt8 × List UInt8)) : List (List UInt8) := (ps.filter fun a => a.1 == [105, 100]).map (·.2)
theorem idIds_snoc (ps : List (List UInt8 × List UInt8)) (p : List UInt8 × List UInt8) : idIds (ps ++ [p]) = idIds ps ++ (if p.1 == [105, 100] then [p.2] else []) := by
  unfold idIds
  rw [List.filter_append, List.map_append]
  cases h : p.1 == [105, 100] <;> simp [h]
theorem idIds_len (ps : List (List UInt8 × List UInt8)) : (idIds ps).length ≤ ps.length := by
  unfold idIds
  rw [List.length_map]
  exact List.length_filter_le _ _
theorem pairCells_at (ps : List (List UInt8 × List UInt8)) (k : Nat) (p : List UInt8 × List UInt8) (h : ps[k]? = some p) : (pairCells ps)[k * 2]? = some (.string ⟨p.1.toArray⟩) ∧ (pairCells ps)[k * 2 + 1]? = some (.string ⟨p.2.toArray⟩) := by
  induction ps generalizing k with
  | nil => simp at h
  | cons q ps ih =>
    cases k with
    | zero =>
      simp at h
      subst h
      simp [pairCells]
    | succ k =>
      have := ih k (by simpa using h)
      have e1 : (k + 1) * 2 = k * 2 + 2 := by omega
      rw [e1, show k * 2 + 2 + 1 = k * 2 + 1 + 2 by omega]
      simpa [pairCells, List.getElem?_append_right] using this

theorem own_some {w : World} {b : Nat} {e : TypeId} {size n : Nat} {v : Value} {xs : List Value} (h : w.ownsRow b e size v n xs) (hn : 0 < n) : ∃ g c, v = .slice (some ⟨g, 0, none⟩) n c ∧ b ≤ g := by
  rcases h.2 with ⟨_, h0⟩ | ⟨g, c, _, h1, h2, _⟩
  · omega
  · exact ⟨g, c, h1, h2⟩
theorem own_ne {w : World} {b b' : Nat} {e e' : TypeId} {s s' n n' : Nat} {v v' : Value} {xs xs' : List Value} (h : w.ownsRow b e s v n xs) (h' : w.ownsRow b' e' s' v' n' xs') (hne : e ≠ e') : v.ownBlock = none ∨ v.ownBlock ≠ v'.ownBlock := by
  rcases h.2 with ⟨rfl, _⟩ | ⟨g, cap, cur, rfl, _, hh, _⟩
  · exact .inl rfl
  · refine .inr fun hk => ?_
    rcases h'.2 with ⟨rfl, _⟩ | ⟨g', cap', cur', rfl, _, hh', _⟩
    · simp [Value.ownBlock] at hk
    · have e0 : g = g' := by simpa [Value.ownBlock] using hk
      subst e0
      rw [hh] at hh'
      injection hh' with hh'
      injection hh' with _ ht
      exact hne ht
theorem own_box_ne {w : World} {b : Nat} {e t : TypeId} {s n : Nat} {v : Value} {xs : List Value} {B : Nat} {cs : Array Value} {fr : Nat × Nat} (h : w.ownsRow b e s v n xs) (hb : w.heap[B]? = some (.cells cs t fr)) (hne : e ≠ t) : v.ownBlock ≠ some B := by
  rcases h.2 with ⟨rfl, _⟩ | ⟨g, cap, cur, rfl, _, hh, _⟩
  · simp [Value.ownBlock]
  · intro hk
    have e0 : g = B := by simpa [Value.ownBlock] using hk
    subst e0
    rw [hh] at hb
    injection hb with hb
    injection hb with _ ht
    exact hne ht
theorem own_set_box {w : World} {b : Nat} {e t : TypeId} {s n : Nat} {v : Value} {xs : List Value} {B : Nat} {cs : Array Value} {fr : Nat × Nat} (h : w.ownsRow b e s v n xs) (hb : w.heap[B]? = some (.cells cs t fr)) (hne : e ≠ t) (j : Nat) (u : Value) :
    (w.setCell ⟨B, j, none⟩ u).ownsRow b e s v n xs :=
  h.kept (row := some B) ⟨rfl, rfl, rfl, by simp [World.setCell], fun k _ hk => Below.heap_setCell _ _ _ _ (fun e => hk (by rw [e]))⟩ (.inr (own_box_ne h hb hne))
theorem strs_below {B : Nat} {xs : List (List UInt8)} {w w' : World} (h : Strs B xs w) (hb : Below w.heap.size w w') : Strs B xs w' := by
  obtain ⟨A, c, h1, h2⟩ := h
  exact ⟨A, c, (hb.block B (Array.getElem?_eq_some_iff.1 h1).1).trans h1, own_keep h2 hb⟩

set_option maxRecDepth 100000 in
set_option maxHeartbeats 4000000 in
theorem ids_tag (T : TagP) (A : Option Addr) (c B : Nat) (xs : List (List UInt8)) (w : World) (hrow : w.ownsRow 0 71 2 (.slice A T.attrs.length c) T.attrs.length (pairCells T.attrs)) (h : Strs B xs w)
    (hl : T.attrs.length ≤ 1073741824) (hx : xs.length ≤ 1073741824) :
    Calls Try.prog 53 (#[tagV T (.slice A T.attrs.length c)] ++ #[.pointer (some ⟨B, 0, none⟩)]) w fun e w' => e = .returned (.tuple #[]) ∧ Strs B (xs ++ idIds T.attrs) w' ∧ Below B w w' := by
  obtain ⟨i0, hi0, iz, isz, iby⟩ := info_parts info_str
  have hlt : B < w.heap.size := by obtain ⟨_, _, hb, _⟩ := h; exact (Array.getElem?_eq_some_iff.1 hb).1
  unfold tagV
  go_enter Try.func53, Try.ntmps53
  go_wp2_with fail
  go_loopw [8] (fun s8 wr => ∃ k : Nat, s8 = .int .i64 k ∧ k ≤ T.attrs.length ∧ wr.ownsRow 0 71 2 (.slice A T.attrs.length c) T.attrs.length (pairCells T.attrs) ∧ Strs B (xs ++ idIds (T.attrs.take k)) wr ∧ Below B w wr)
    (fun s8 _ => T.attrs.length - (intOf s8).toNat)
  case atStart => exact ⟨0, rfl, Nat.zero_le _, hrow.alloc _, by simpa [idIds] using strs_below h (by repeat (first | with_reducible refine below_drewN ?_ _ | with_reducible refine Below.drew ?_ | ((with_reducible refine Below.alloc ?_ ?_ _); rotate_left; focus (first | exact Nat.le_refl _ | omega | (simp; done) | (simp; omega))) | ((with_reducible refine Below.setCell ?_ ?_ _); rotate_left; focus (first | exact Nat.le_refl _ | omega | (simp; done) | (simp; omega))) | with_reducible exact Below.refl _ _ | with_reducible assumption)), (by repeat (first | with_reducible refine below_drewN ?_ _ | with_reducible refine Below.drew ?_ | ((with_reducible refine Below.alloc ?_ ?_ _); rotate_left; focus (first | exact Nat.le_refl _ | omega | (simp; done) | (simp; omega))) | ((with_reducible refine Below.setCell ?_ ?_ _); rotate_left; focus (first | exact Nat.le_refl _ | omega | (simp; done) | (simp; omega))) | with_reducible exact Below.refl _ _ | with_reducible assumption))⟩
  case round =>
    obtain ⟨k, rfl, hk, hr, hs, hB⟩ := hrel
    by_cases hlt2 : k < T.attrs.length
    · obtain ⟨p, hp⟩ : ∃ p, T.attrs[k]? = some p := ⟨T.attrs[k], List.getElem?_eq_getElem hlt2⟩
      obtain ⟨e1, e2⟩ := pairCells_at _ _ _ hp
      obtain ⟨g, c1, hv, hg⟩ := own_some hr (by omega)
      obtain ⟨rfl, rfl⟩ : A = some ⟨g, 0, none⟩ ∧ c = c1 := by injection hv with h1 _ h2; exact ⟨h1, h2⟩
      have q0 := (hr.cellAt (k * 2) (by omega)).trans e1
      have q1 := (hr.cellAt (k * 2 + 1) (by omega)).trans e2
      have htk : idIds (T.attrs.take (k + 1)) = idIds (T.attrs.take k) ++ (if p.1 == [105, 100] then [p.2] else []) := by
        rw [List.take_add_one, hp]; exact idIds_snoc _ _
      have HTK := Lib.hid htk
      clear hv htk e1 e2
      obtain ⟨ys, hys⟩ : ∃ ys, xs ++ idIds (T.attrs.take k) = ys := ⟨_, rfl⟩
      have hyl : ys.length ≤ 2147483648 := by
        rw [← hys]; have := idIds_len (T.attrs.take k); simp at this ⊢; omega
      rw [hys] at hs
      have HYS := Lib.hid hys
      have hs0 := hs
      obtain ⟨A', c', hbx, hro⟩ := hs
      have cB : wr.cell? ⟨B, 0, none⟩ = some (.slice A' ys.length c') := cell_of_one hbx
      have fB : wr.frozen? ⟨B, 0, none⟩ = false := free_of_one hbx
      have hBl : B < wr.heap.size := (Array.getElem?_eq_some_iff.1 hbx).1
      have hbl : (ys.length + 1) * 16 ≤ 140737488355328 := by omega
      clear hys
      rcases hid : p.1 == [105, 100] with _ | _
      · have HID := Lib.hid hid
        go_wp2_with fail
        go_roundw
        case rel => exact ⟨k + 1, by go_num, by omega, hr.alloc _, by rw [HTK.out, HID.out]; simp only [Bool.false_eq_true, if_false, List.append_nil]; rw [HYS.out]; exact strs_below hs0 (by repeat (first | with_reducible refine below_drewN ?_ _ | with_reducible refine Below.drew ?_ | ((with_reducible refine Below.alloc ?_ ?_ _); rotate_left; focus (first | exact Nat.le_refl _ | omega | (simp; done) | (simp; omega))) | ((with_reducible refine Below.setCell ?_ ?_ _); rotate_left; focus (first | exact Nat.le_refl _ | omega | (simp; done) | (simp; omega))) | with_reducible exact Below.refl _ _ | with_reducible assumption)), (by repeat (first | with_reducible refine below_drewN ?_ _ | with_reducible refine Below.drew ?_ | ((with_reducible refine Below.alloc ?_ ?_ _); rotate_left; focus (first | exact Nat.le_refl _ | omega | (simp; done) | (simp; omega))) | ((with_reducible refine Below.setCell ?_ ?_ _); rotate_left; focus (first | exact Nat.le_refl _ | omega | (simp; done) | (simp; omega))) | with_reducible exact Below.refl _ _ | with_reducible assumption))⟩
        case measure => simp [intOf]; omega
      · have HID := Lib.hid hid
        go_wp2_with (at_builtin; refine wpList_append_own _ rfl _ _ 35 rfl (B + 1) 9 i0 _ 1 16 Try.underlying35 hi0 iz isz iby rfl (by decide) _ _ _ rfl ((hro.alloc _).alloc _) ⟨wr.heap.size + 1, 0, none⟩ 1 1 [.string ⟨p.2.toArray⟩] rfl rfl ?c1 ?c2 ?c3 ?c4 ?c5 ?_)
        case c1 =>
          intro j u hj
          match j, hj with
          | 0, hj => simp at hj; subst hj; simp [go_sem]
        case c2 => intro u hu; simp at hu; subst hu; rfl
        case c3 => simp only [maxLen]; omega
        case c4 => exact hbl
        case c5 => simp; omega
        intro v' w1 hown1 hgrow _
        obtain ⟨g', c1', rfl, hg'⟩ := own_some hown1 (by omega)
        have hneB : some B ≠ (Value.slice A' ys.length c').ownBlock := fun e => by have := (hro.lt B e.symm).1; omega
        have hbx1 := (hgrow.block B (by simp; omega) hneB).trans ((Below.heap_alloc _ _ _ (by simp; omega)).trans ((Below.heap_alloc _ _ _ (by omega)).trans hbx))
        have hr1 := ((hr.alloc (.cells #[.string ⟨p.1.toArray⟩, .string ⟨p.2.toArray⟩] 71)).alloc (.cells #[.string ⟨p.2.toArray⟩] 9)).kept hgrow (own_ne hr hro (by decide))
        have hBl1 : B < w1.heap.size := (Array.getElem?_eq_some_iff.1 hbx1).1
        have hB1 : Below B w w1 := Below.grown (w := (wr.alloc (.cells #[.string ⟨p.1.toArray⟩, .string ⟨p.2.toArray⟩] 71)).alloc (.cells #[.string ⟨p.2.toArray⟩] 9)) (by repeat (first | with_reducible refine below_drewN ?_ _ | with_reducible refine Below.drew ?_ | ((with_reducible refine Below.alloc ?_ ?_ _); rotate_left; focus (first | exact Nat.le_refl _ | omega | (simp; done) | (simp; omega))) | ((with_reducible refine Below.setCell ?_ ?_ _); rotate_left; focus (first | exact Nat.le_refl _ | omega | (simp; done) | (simp; omega))) | with_reducible exact Below.refl _ _ | with_reducible assumption)) hgrow (by simp; omega) (fun j hj => by have := (hro.lt j hj).1; omega)
        have cB1 : w1.cell? ⟨B, 0, none⟩ = some (.slice A' ys.length c') := cell_of_one hbx1
        have fB1 : w1.frozen? ⟨B, 0, none⟩ = false := free_of_one hbx1
        clear hgrow hro hbx hr hs0 q0 q1 cB fB hB hneB
        go_wp2
        go_roundw
        case rel =>
          refine ⟨k + 1, by go_num, by omega, own_set_box hr1 hbx1 (by decide) _ _, ?_, (by repeat (first | with_reducible refine below_drewN ?_ _ | with_reducible refine Below.drew ?_ | ((with_reducible refine Below.alloc ?_ ?_ _); rotate_left; focus (first | exact Nat.le_refl _ | omega | (simp; done) | (simp; omega))) | ((with_reducible refine Below.setCell ?_ ?_ _); rotate_left; focus (first | exact Nat.le_refl _ | omega | (simp; done) | (simp; omega))) | with_reducible exact Below.refl _ _ | with_reducible assumption))⟩
          rw [HTK.out, HID.out, ← List.append_assoc, HYS.out]
          refine ⟨some ⟨g', 0, none⟩, c1', ?_, ?_⟩
          · simp only [if_true, List.length_append, List.length_cons, List.length_nil]; exact one_setCell hbx1
          · simp only [if_true, List.length_append, List.length_cons, List.length_nil, strCells, List.map_append]; exact own_set_box hown1 hbx1 (by decide) _ _
        case measure => simp [intOf]; omega
    · obtain rfl : k = T.attrs.length := by omega
      rw [List.take_length] at hs
      go_wp2
      go_end0
      exact ⟨rfl, hs, hB⟩
end Go.Proofs.Ytmlkmhonpmnenaa
