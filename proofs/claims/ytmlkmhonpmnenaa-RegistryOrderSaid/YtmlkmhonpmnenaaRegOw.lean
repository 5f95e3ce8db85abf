/- RegistryOrder's third loop: what is told of two registries of the same hooks is the same, call by call. -/
import Derived.Test.YtmlkmhonpmnenaaRegSo
import Derived.Deep.RegionHeld3
namespace Go.Proofs.Ytmlkmhonpmnenaa
open Go.RowKit Go.Lib Go.Maps

/-- What the third loop's statement keeps beside the argument's two cells: two registries of the same hooks. -/
def OWr (w : World) (B1 B2 b mb c mc : Nat) (m : Int) (L T : List Hk) (pa pn : Addr) (W : World) : Prop :=
  pa.block < w.heap.size ∧ pn.block < w.heap.size ∧ w.heap.size ≤ B1 ∧ w.heap.size ≤ B2 ∧ b ≠ c ∧ b ≠ mc ∧ mb ≠ c ∧ mb ≠ mc ∧ Below w.heap.size w W ∧ (∃ s, Reg W B1 b mb m L s 0) ∧ (∃ s, Reg W B2 c mc m T s 0)
def OW (w : World) (B1 B2 b mb c mc : Nat) (m : Int) (L T : List Hk) (pa pn : Addr) (ph : Int) (nm : List UInt8) (W : World) : Prop :=
  W.cell? pa = some (.int .i64 ph) ∧ W.cell? pn = some (.string ⟨nm.toArray⟩) ∧ OWr w B1 B2 b mb c mc m L T pa pn W
theorem Reg.base_le {w : World} {base b mb : Nat} {m st : Int} {L : List Hk} {sealed : Bool} (h : Reg w base b mb m L sealed st) : base ≤ b := by
  cases sealed with
  | false => exact (show RegO w base b mb m L st by simpa [Reg] using h).1
  | true => exact (show RegS w base b m (srt (L.filter (onB m))) st ∧ Dist L by simpa [Reg] using h).1.1
theorem Reg.other {w w' : World} {base b mb : Nat} {m st : Int} {L : List Hk} {sealed : Bool} (h : Reg w base b mb m L sealed st) {g : Nat} {base' mb' : Nat} {m' st' : Int} {L' : List Hk} {s' : Bool} (h' : Reg w base' g mb' m' L' s' st') (hg : w.grownBy w' (some g)) (h1 : b ≠ g) (h2 : mb ≠ g) : Reg w' base b mb m L sealed st := by
  cases sealed with
  | false => simpa [Reg] using (show RegO w base b mb m L st by simpa [Reg] using h).kept hg (by simpa using h1) (by simpa using h2)
  | true =>
    obtain ⟨⟨q1, mb'', sv, hb, hr⟩, hd⟩ := (show RegS w base b m (srt (L.filter (onB m))) st ∧ Dist L by simpa [Reg] using h)
    obtain ⟨cs, hb', -⟩ := h'.block
    have hne : sv.ownBlock ≠ some g := own_blk_ne hr hb' (by decide)
    simpa [Reg] using (show RegS w' base b m (srt (L.filter (onB m))) st ∧ Dist L from ⟨⟨q1, mb'', sv, hb.grown hg (by simpa using h1), hr.kept hg (.inr hne)⟩, hd⟩)
section
variable {w W : World} {B1 B2 b mb c mc : Nat} {m : Int} {L T : List Hk} {pa pn : Addr} {ph : Int} {nm : List UInt8}
theorem OW.stepR (h : OW w B1 B2 b mb c mc m L T pa pn ph nm W) {w' : World} (hg : W.grownBy w' (some b)) (hr : Reg w' B1 b mb m L true 0) : OW w B1 B2 b mb c mc m L T pa pn ph nm w' := by
  obtain ⟨h1, h2, h3, h4, h5, h6, n1, n2, n3, n4, hB, ⟨s, hr1⟩, ⟨t, hr2⟩⟩ := h
  have hb := below_only hB hg (Nat.le_refl _) (fun j hj => by cases hj; exact Nat.le_trans h5 hr1.base_le)
  have hbw : w.heap.size ≤ b := Nat.le_trans h5 hr1.base_le
  exact ⟨(hg.cell_far pa (by have := hB.size; omega) (by simp; omega)).trans h1, (hg.cell_far pn (by have := hB.size; omega) (by simp; omega)).trans h2, h3, h4, h5, h6, n1, n2, n3, n4, hb, ⟨true, hr⟩, ⟨t, hr2.other hr1 hg (Ne.symm n1) (Ne.symm n2)⟩⟩
theorem OW.stepT (h : OW w B1 B2 b mb c mc m L T pa pn ph nm W) {w' : World} (hg : W.grownBy w' (some c)) (hr : Reg w' B2 c mc m T true 0) : OW w B1 B2 b mb c mc m L T pa pn ph nm w' := by
  obtain ⟨h1, h2, h3, h4, h5, h6, n1, n2, n3, n4, hB, ⟨s, hr1⟩, ⟨t, hr2⟩⟩ := h
  have hb := below_only hB hg (Nat.le_refl _) (fun j hj => by cases hj; exact Nat.le_trans h6 hr2.base_le)
  have hbw : w.heap.size ≤ c := Nat.le_trans h6 hr2.base_le
  exact ⟨(hg.cell_far pa (by have := hB.size; omega) (by simp; omega)).trans h1, (hg.cell_far pn (by have := hB.size; omega) (by simp; omega)).trans h2, h3, h4, h5, h6, n1, n2, n3, n4, hb, ⟨s, hr1.other hr2 hg n1 n3⟩, ⟨true, hr⟩⟩
theorem OW.stepN (h : OW w B1 B2 b mb c mc m L T pa pn ph nm W) {w' : World} (hg : W.grownBy w' none) : OW w B1 B2 b mb c mc m L T pa pn ph nm w' := by
  obtain ⟨h1, h2, h3, h4, h5, h6, n1, n2, n3, n4, hB, ⟨s, hr1⟩, ⟨t, hr2⟩⟩ := h
  exact ⟨(hg.cell_far pa (by have := hB.size; omega) (by simp)).trans h1, (hg.cell_far pn (by have := hB.size; omega) (by simp)).trans h2, h3, h4, h5, h6, n1, n2, n3, n4, below_only hB hg (Nat.le_refl _) (fun j hj => by cases hj), ⟨s, hr1.kept hg⟩, ⟨t, hr2.kept hg⟩⟩
theorem OW.drew (h : OW w B1 B2 b mb c mc m L T pa pn ph nm W) : OW w B1 B2 b mb c mc m L T pa pn ph nm W.drew := h.stepN (only_drew (only_refl _ _))

theorem ow_sortedR (hL : L.length ≤ 1000000) (h : OW w B1 B2 b mb c mc m L T pa pn ph nm W) (R : List Hk) (hR : (srt (L.filter (onB m))).filter (fun x => x.phase == ph) = R) :
    Calls Try.prog 31 #[.pointer (some ⟨b, 0, none⟩), .int .i64 ph] W fun e w' => ∃ A d, e = .returned (.slice A R.length d) ∧ w'.ownsRow 0 HT 5 (.slice A R.length d) R.length (hkCells R) ∧ OW w B1 B2 b mb c mc m L T pa pn ph nm w' := by
  have h0 := h
  obtain ⟨_, _, _, _, _, _, _, _, _, _, _, ⟨s, hr1⟩, _⟩ := h
  have hc := sorted_any ph B1 b mb m 0 L s W hr1 hL
  rw [hR] at hc
  refine hc.mono ?_
  rintro e w' ⟨A, d, rfl, hr, ho, hg⟩
  exact ⟨A, d, rfl, own_lower ho (Nat.zero_le _), h0.stepR hg hr⟩
theorem ow_sortedT (hL : T.length ≤ 1000000) (h : OW w B1 B2 b mb c mc m L T pa pn ph nm W) (R : List Hk) (hR : (srt (T.filter (onB m))).filter (fun x => x.phase == ph) = R) {A : Option Addr} {d : Nat} (ho : W.ownsRow 0 HT 5 (.slice A R.length d) R.length (hkCells R)) :
    Calls Try.prog 31 #[.pointer (some ⟨c, 0, none⟩), .int .i64 ph] W fun e w' => ∃ A' d', e = .returned (.slice A' R.length d') ∧ w'.ownsRow 0 HT 5 (.slice A' R.length d') R.length (hkCells R) ∧ w'.ownsRow 0 HT 5 (.slice A R.length d) R.length (hkCells R) ∧ OW w B1 B2 b mb c mc m L T pa pn ph nm w' := by
  have h0 := h
  obtain ⟨_, _, _, _, _, _, _, _, _, _, _, _, ⟨s, hr1⟩⟩ := h
  obtain ⟨cs, hb', -⟩ := hr1.block
  have hne := own_blk_ne ho hb' (by decide)
  have hc := sorted_any ph B2 c mc m 0 T s W hr1 hL
  rw [hR] at hc
  refine hc.mono ?_
  rintro e w' ⟨A', d', rfl, hr, ho', hg⟩
  exact ⟨A', d', rfl, own_lower ho' (Nat.zero_le _), ho.kept hg (.inr hne), h0.stepT hg hr⟩
theorem ow_forR (ch : UInt8) (hL : L.length ≤ 1000000) (h : OW w B1 B2 b mb c mc m L T pa pn ph nm W) (R : List Hk) (hR : (srt (L.filter (onB m))).filter (forB ph ch) = R) :
    Calls Try.prog 34 #[.pointer (some ⟨b, 0, none⟩), .int .i64 ph, .int .u8 (ch.toNat : Int)] W fun e w' => ∃ A d, e = .returned (.slice A R.length d) ∧ w'.ownsRow 0 HT 5 (.slice A R.length d) R.length (hkCells R) ∧ OW w B1 B2 b mb c mc m L T pa pn ph nm w' := by
  have h0 := h
  obtain ⟨_, _, _, _, _, _, _, _, _, _, _, ⟨s, hr1⟩, _⟩ := h
  have hc := for_any ph ch B1 b mb m 0 L s W hr1 hL
  rw [hR] at hc
  refine hc.mono ?_
  rintro e w' ⟨A, d, rfl, hr, ho, hg⟩
  exact ⟨A, d, rfl, own_lower ho (Nat.zero_le _), h0.stepR hg hr⟩
theorem ow_forT (ch : UInt8) (hL : T.length ≤ 1000000) (h : OW w B1 B2 b mb c mc m L T pa pn ph nm W) (R : List Hk) (hR : (srt (T.filter (onB m))).filter (forB ph ch) = R) {A : Option Addr} {d : Nat} (ho : W.ownsRow 0 HT 5 (.slice A R.length d) R.length (hkCells R)) :
    Calls Try.prog 34 #[.pointer (some ⟨c, 0, none⟩), .int .i64 ph, .int .u8 (ch.toNat : Int)] W fun e w' => ∃ A' d', e = .returned (.slice A' R.length d') ∧ w'.ownsRow 0 HT 5 (.slice A' R.length d') R.length (hkCells R) ∧ w'.ownsRow 0 HT 5 (.slice A R.length d) R.length (hkCells R) ∧ OW w B1 B2 b mb c mc m L T pa pn ph nm w' := by
  have h0 := h
  obtain ⟨_, _, _, _, _, _, _, _, _, _, _, _, ⟨s, hr1⟩⟩ := h
  obtain ⟨cs, hb', -⟩ := hr1.block
  have hne := own_blk_ne ho hb' (by decide)
  have hc := for_any ph ch B2 c mc m 0 T s W hr1 hL
  rw [hR] at hc
  refine hc.mono ?_
  rintro e w' ⟨A', d', rfl, hr, ho', hg⟩
  exact ⟨A', d', rfl, own_lower ho' (Nat.zero_le _), ho.kept hg (.inr hne), h0.stepT hg hr⟩
theorem ow_same (R : List Hk) (hRl : R.length ≤ 1000000) (h : OW w B1 B2 b mb c mc m L T pa pn ph nm W) {A A' : Option Addr} {d d' : Nat} (h1 : W.ownsRow 0 HT 5 (.slice A R.length d) R.length (hkCells R)) (h2 : W.ownsRow 0 HT 5 (.slice A' R.length d') R.length (hkCells R)) :
    Calls Try.prog 27 #[.slice A R.length d, .slice A' R.length d'] W fun e w' => e = .returned (.bool true) ∧ OW w B1 B2 b mb c mc m L T pa pn ph nm w' :=
  (same_eq A A' d d' 0 0 R W hRl h1 h2).mono fun _ _ ⟨he, hg⟩ => ⟨he, h.stepN hg⟩
theorem ow_hasR (hL : L.length ≤ 1000000) (h : OW w B1 B2 b mb c mc m L T pa pn ph nm W) (v : Bool) (hv : (srt (L.filter (onB m))).any (fun x => x.name == nm) = v) :
    Calls Try.prog 35 #[.pointer (some ⟨b, 0, none⟩), .string ⟨nm.toArray⟩] W fun e w' => e = .returned (.bool v) ∧ Reg w' B1 b mb m L true 0 ∧ OW w B1 B2 b mb c mc m L T pa pn ph nm w' := by
  have h0 := h
  obtain ⟨_, _, _, _, _, _, _, _, _, _, _, ⟨s, hr1⟩, _⟩ := h
  have hc := has_any nm B1 b mb m 0 L s W hr1 hL
  rw [hv] at hc
  refine hc.mono ?_
  rintro e w' ⟨rfl, hr, hg⟩
  exact ⟨rfl, hr, h0.stepR hg hr⟩
theorem ow_hasT (hL : T.length ≤ 1000000) (h : OW w B1 B2 b mb c mc m L T pa pn ph nm W) (v : Bool) (hv : (srt (T.filter (onB m))).any (fun x => x.name == nm) = v) (hRt : Reg W B1 b mb m L true 0) :
    Calls Try.prog 35 #[.pointer (some ⟨c, 0, none⟩), .string ⟨nm.toArray⟩] W fun e w' => e = .returned (.bool v) ∧ Reg w' B1 b mb m L true 0 ∧ OW w B1 B2 b mb c mc m L T pa pn ph nm w' := by
  have h0 := h
  obtain ⟨_, _, _, _, _, _, n1, _, n3, _, _, _, ⟨s, hr1⟩⟩ := h
  have hc := has_any nm B2 c mc m 0 T s W hr1 hL
  rw [hv] at hc
  refine hc.mono ?_
  rintro e w' ⟨rfl, hr, hg⟩
  exact ⟨rfl, hRt.other hr1 hg n1 n3, h0.stepT hg hr⟩
end
end Go.Proofs.Ytmlkmhonpmnenaa
