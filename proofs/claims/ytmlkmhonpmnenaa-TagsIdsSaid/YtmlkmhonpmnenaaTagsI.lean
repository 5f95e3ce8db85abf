import Derived.Test.YtmlkmhonpmnenaaTagsH
namespace Go.Proofs.Ytmlkmhonpmnenaa
open Go.RowKit

theorem attrsAll_cnt : ∀ (k : Nat) (l : List UInt8), l.length ≤ k → (attrsAll l).1.length + (attrsAll l).2.length ≤ l.length
  | k, l, hk => by
    rcases ha : attrP l with _ | ⟨n, v, r⟩
    · rw [attrsAll_none ha]; simp
    · rw [attrsAll_some ha]
      have := attrP_lt ha
      cases k with
      | zero => omega
      | succ k =>
        have := attrsAll_cnt k r (by omega)
        simp only [List.length_cons]
        omega
theorem beginP_cnt (l : List UInt8) : (beginP l).1.attrs.length + (beginP l).2.1.length ≤ l.length := by
  unfold beginP beginQ
  have h1 := attrsAll_cnt _ (l.drop (nameN false true l)) (Nat.le_refl _)
  have h2 : (l.drop (nameN false true l)).length ≤ l.length := by simp
  split
  · have := Lib.trimPrefix_le (attrsAll (l.drop (nameN false true l))).2 [32, 47, 62]; simp only; omega
  · have := Lib.trimPrefix_le (attrsAll (l.drop (nameN false true l))).2 [62]; simp only; omega
theorem readP_cnt (l : List UInt8) : (readP l).1.attrs.length ≤ (readP l).2 := by
  unfold readP
  split
  · rename_i hp
    split
    · have hlen := hasPrefix_len hp
      have h : (readQ (l.drop 1)).1.attrs.length + (readQ (l.drop 1)).2.1.length ≤ (l.drop 1).length := by
        unfold readQ
        split
        · have := endP_len ((l.drop 1).drop 1)
          simp at this ⊢
          omega
        · exact beginP_cnt _
      simp at h hlen ⊢
      omega
    · exact Nat.le_refl _
  · exact Nat.le_refl _
def idsJ (B : Nat) (w : World) (L : List (List UInt8)) (n : Nat) (r : List UInt8) (W : World) : Prop := ∃ out, Strs B out W ∧ Below B w W ∧ L = out ++ idsT (toks r) ∧ out.length + r.length ≤ n
set_option maxRecDepth 100000 in
theorem ids_byte (b : Int) (w : World) :
    Calls Try.prog 54 (#[.int .u8 b] ++ #[]) w fun e w' => e = .returned (.tuple #[]) ∧ w = w' := by
  go_enter Try.func54, Try.ntmps54
  go_wp2
  go_end0
  exact ⟨rfl, rfl⟩

set_option maxRecDepth 100000 in
set_option maxHeartbeats 4000000 in
theorem ids_any (l : List UInt8) (w : World) (hs : l.length ≤ 1073741824) :
    Calls Try.prog 21 #[.string ⟨l.toArray⟩] w fun e w' => ∃ A c, e = .returned (.slice A (idsT (toks l)).length c) ∧ w'.ownsRow w.heap.size 9 1 (.slice A (idsT (toks l)).length c) (idsT (toks l)).length (strCells (idsT (toks l))) ∧ Below w.heap.size w w' := by
  have e1 : ∀ args w, (callFunc 53 args).run Try.prog w = .ok (.enter 53 args) w := enters_of Try.func53 (by kernel_rfl) rfl
  have e2 : ∀ args w, (callFunc 54 args).run Try.prog w = .ok (.enter 54 args) w := enters_of Try.func54 (by kernel_rfl) rfl
  have hmf : ∀ (fn : Fn) (first cap : Array Value) (w : World), (Instr.makeFunc fn first cap).run Try.prog w = .ok (.func fn first cap) w := fun _ _ _ _ => rfl
  have HE := Lib.hid (each_any 53 54 #[.pointer (some ⟨w.heap.size, 0, none⟩)] #[] e1 e2 (idsJ w.heap.size w (idsT (toks l)) l.length) (fun _ _ => False)
    (fun r W W' ⟨out, h1, h2, h3, h4⟩ hb => ⟨out, strs_below h1 hb, h2.trans (hb.mono h2.size), h3, h4⟩)
    (fun r W A c ⟨out, h1, h2, h3, h4⟩ hr hrl hn hrow => by
      have hc := readP_cnt r
      have hle := readP_le r
      have hil := idIds_len (readP r).1.attrs
      refine (ids_tag _ _ _ w.heap.size out W hrow h1 (by omega) (by omega)).mono ?_
      rintro e W' ⟨rfl, h1', hb⟩
      refine .inl ⟨_, rfl, out ++ idIds (readP r).1.attrs, h1', h2.trans hb, by rw [h3, toks_tag hr hn, List.append_assoc]; rfl, by simp; omega⟩)
    (fun b r W ⟨out, h1, h2, h3, h4⟩ hrl hn => by
      refine (ids_byte _ W).mono ?_
      rintro e W' ⟨rfl, rfl⟩
      refine .inl ⟨_, rfl, out, h1, h2, by rw [h3, toks_byte hn]; rfl, by simp at h4 ⊢; omega⟩)
    l (w.alloc (.cells #[.slice none 0 0] 35)) hs ⟨[], ⟨none, 0, heap_alloc_new w _, World.ownsRow_nil _ _ _ _⟩, (by repeat (first | with_reducible refine below_drewN ?_ _ | with_reducible refine Below.drew ?_ | ((with_reducible refine Below.alloc ?_ ?_ _); rotate_left; focus (first | exact Nat.le_refl _ | omega | (simp; done) | (simp; omega))) | ((with_reducible refine Below.setCell ?_ ?_ _); rotate_left; focus (first | exact Nat.le_refl _ | omega | (simp; done) | (simp; omega))) | with_reducible exact Below.refl _ _ | with_reducible assumption)), rfl, by simp⟩)
  clear e1 e2
  go_enter Try.func21, Try.ntmps21
  go_wp2_with fail
  refine HE.out.mono ?_
  rintro e w2 (⟨v, rfl, hj⟩ | ⟨ch, _, hx⟩)
  · obtain ⟨out, ⟨A, c, hbx, hrow⟩, h2, h3, h4⟩ := hj
    have h3' : idsT (toks l) = out := by rw [h3, toks_nil]; simp [idsT]
    have H3 := Lib.hid h3'
    clear h3 h3' h4 HE
    have c0 : w2.cell? ⟨w.heap.size, 0, none⟩ = some (.slice A out.length c) := cell_of_one hbx
    go_wp2
    go_ret
    exact ⟨A, c, by rw [H3.out]; rfl, by rw [H3.out]; exact own_base_le hrow (by omega), h2⟩
  · exact hx.elim
end Go.Proofs.Ytmlkmhonpmnenaa
