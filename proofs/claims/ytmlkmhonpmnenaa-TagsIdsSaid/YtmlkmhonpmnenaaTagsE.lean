import Derived.Test.YtmlkmhonpmnenaaTagsD
namespace Go.Proofs.Ytmlkmhonpmnenaa
open Go.RowKit

def zeroTag : TagP := ⟨[], false, false, []⟩
def readQ (r : List UInt8) : TagP × List UInt8 × Bool :=
  if Lib.hasPrefix r [47] then (⟨(endP (r.drop 1)).1, true, false, []⟩, (endP (r.drop 1)).2) else beginP r
/-- 14: the tag, and how long it is. -/
def readP (l : List UInt8) : TagP × Nat :=
  if Lib.hasPrefix l [60] then (if (readQ (l.drop 1)).2.2 then ((readQ (l.drop 1)).1, l.length - (readQ (l.drop 1)).2.1.length) else (zeroTag, 0)) else (zeroTag, 0)
def tagV (t : TagP) (av : Value) : Value := .agg #[.string ⟨t.name.toArray⟩, .bool t.ends, .bool t.void, av]
theorem trimPrefix_eq {l p : List UInt8} (h : Lib.hasPrefix l p = true) : Lib.trimPrefix l p = l.drop p.length := by simp [Lib.trimPrefix, h]
theorem attrsAll_len : ∀ (k : Nat) (l : List UInt8), l.length ≤ k → (attrsAll l).2.length ≤ l.length
  | k, l, hk => by
    rcases ha : attrP l with _ | ⟨n, v, r⟩
    · rw [attrsAll_none ha]; exact Nat.le_refl _
    · rw [attrsAll_some ha]
      have := attrP_lt ha
      cases k with
      | zero => omega
      | succ k => exact Nat.le_trans (attrsAll_len k r (by omega)) (by omega)
theorem beginP_len (l : List UInt8) : (beginP l).2.1.length ≤ l.length := by
  unfold beginP beginQ
  have h1 := attrsAll_len _ (l.drop (nameN false true l)) (Nat.le_refl _)
  have h2 : (l.drop (nameN false true l)).length ≤ l.length := by simp
  split
  · exact Nat.le_trans (Lib.trimPrefix_le _ _) (Nat.le_trans h1 h2)
  · exact Nat.le_trans (Lib.trimPrefix_le _ _) (Nat.le_trans h1 h2)
theorem endP_len (l : List UInt8) : (endP l).2.1.length ≤ l.length := by
  unfold endP
  exact Nat.le_trans (Lib.trimPrefix_le _ _) (by simp)
theorem readQ_len (l : List UInt8) : (readQ l).2.1.length ≤ l.length := by
  unfold readQ
  split
  · exact Nat.le_trans (endP_len _) (by simp)
  · exact beginP_len l

theorem own_sl {w : World} {b : Nat} {e : TypeId} {size n : Nat} {v : Value} {xs : List Value} (h : w.ownsRow b e size v n xs) : ∃ A c, v = .slice A n c := by
  rcases h.2 with ⟨rfl, rfl⟩ | ⟨g, cap, _, h1, _⟩
  · exact ⟨none, 0, rfl⟩
  · exact ⟨_, cap, h1⟩
theorem own_keep {w w2 : World} {b : Nat} {e : TypeId} {size n : Nat} {v : Value} {xs : List Value} (h : w.ownsRow b e size v n xs) (hb : Below w.heap.size w w2) : w2.ownsRow b e size v n xs :=
  h.kept (row := none) ⟨hb.os, hb.tape, hb.output, hb.size, fun k hk _ => hb.block k hk⟩ (by cases v.ownBlock <;> simp)
theorem blk_set4 {w : World} {B : Nat} {a0 a1 a2 a3 : Value} {T : TypeId} (h : w.heap[B]? = some (.cells #[a0, a1, a2, a3] T (0, 0))) (u0 u1 u2 u3 : Value) :
    ((((w.setCell ⟨B, 0, none⟩ u0).setCell ⟨B, 1, none⟩ u1).setCell ⟨B, 2, none⟩ u2).setCell ⟨B, 3, none⟩ u3).heap[B]? = some (.cells #[u0, u1, u2, u3] T (0, 0)) := by simp [World.setCell, Array.getElem?_modify, h]

theorem tag_ret {T : TagP} {A : Option Addr} {c a b : Nat} (he : T.ends = false) (h : b ≤ a) :
    Ending.returned (.tuple #[.agg #[.string ⟨T.name.toArray⟩, .bool false, .bool T.void, .slice A T.attrs.length c], .int .i64 ((a : Int) - b)]) = .returned (.tuple #[tagV T (.slice A T.attrs.length c), .int .i64 ((a - b : Nat) : Int)]) := by
  rw [tagV, he, Int.ofNat_sub h]
theorem beginP_ends (l : List UInt8) : (beginP l).1.ends = false := by unfold beginP beginQ; split <;> rfl

set_option maxRecDepth 100000 in
set_option maxHeartbeats 4000000 in
theorem read_any (l : List UInt8) (w : World) (hs : l.length ≤ 1073741824) :
    Calls Try.prog 14 #[.string ⟨l.toArray⟩] w fun e w' => ∃ av, e = .returned (.tuple #[tagV (readP l).1 av, .int .i64 ((readP l).2 : Nat)]) ∧
      w'.ownsRow w.heap.size 71 2 av (readP l).1.attrs.length (pairCells (readP l).1.attrs) ∧ Below w.heap.size w w' := by
  rcases hp : Lib.hasPrefix l [60] with _ | _
  · have hv : readP l = (zeroTag, 0) := by simp [readP, hp]
    rw [hv]
    go_enter Try.func14, Try.ntmps14
    go_wp2_with fail
    refine (cutPrefix_l l [60] _).mono ?_
    rw [hp]
    rintro e w' ⟨rfl, rfl⟩
    go_wp2
    refine bodyPost_ret (v := .tuple #[.agg #[.string ⟨#[]⟩, .bool false, .bool false, .slice none 0 0], .int .i64 0]) (by simp [results, Try.results14, go_sem]) rfl ⟨.slice none 0 0, rfl, World.ownsRow_nil _ _ _ _, ?_⟩
    exact (by repeat (first | with_reducible refine below_drewN ?_ _ | with_reducible refine Below.drew ?_ | ((with_reducible refine Below.alloc ?_ ?_ _); rotate_left; focus (first | exact Nat.le_refl _ | omega | (simp; done) | (simp; omega))) | ((with_reducible refine Below.setCell ?_ ?_ _); rotate_left; focus (first | exact Nat.le_refl _ | omega | (simp; done) | (simp; omega))) | with_reducible exact Below.refl _ _ | with_reducible assumption))
  · have hv : readP l = if (readQ (l.drop 1)).2.2 then ((readQ (l.drop 1)).1, l.length - (readQ (l.drop 1)).2.1.length) else (zeroTag, 0) := by simp [readP, hp]
    have hlen : 1 ≤ l.length := hasPrefix_len hp
    have hlt := readQ_len (l.drop 1)
    rw [List.length_drop] at hlt
    obtain ⟨r, hr⟩ : ∃ r, l.drop 1 = r := ⟨_, rfl⟩
    have hrl : r.length = l.length - 1 := by rw [← hr]; simp
    rw [hr] at hv hlt
    have HV := Lib.hid hv
    have HR : Hid (Lib.trimPrefix l [60] = r) := by rw [trimPrefix_eq hp]; exact hr
    have hrl' : r.length ≤ 1073741824 := by omega
    clear hv hr hrl
    go_enter Try.func14, Try.ntmps14
    go_wp2_with fail
    refine (cutPrefix_l l [60] _).mono ?_
    rw [hp, HR.out]
    clear hp
    rintro e w' ⟨rfl, rfl⟩
    go_wp2_with fail
    refine (beginning_any r _ hrl').mono ?_
    rintro e w2 ⟨av, rfl, hown, hb⟩
    obtain ⟨A, c, rfl⟩ := own_sl hown
    have l0 : w.heap.size < w2.heap.size := by have := hb.size; simp at this; omega
    have hz2 := (hb.block w.heap.size (by simp)).trans (heap_alloc_new w _)
    have hB2 : Below w.heap.size w w2 := Below.trans (b := w.alloc (Obj.cells #[Value.string { data := #[] }, Value.bool false, Value.bool false, Value.slice none 0 0] 25)) (by repeat (first | with_reducible refine below_drewN ?_ _ | with_reducible refine Below.drew ?_ | ((with_reducible refine Below.alloc ?_ ?_ _); rotate_left; focus (first | exact Nat.le_refl _ | omega | (simp; done) | (simp; omega))) | ((with_reducible refine Below.setCell ?_ ?_ _); rotate_left; focus (first | exact Nat.le_refl _ | omega | (simp; done) | (simp; omega))) | with_reducible exact Below.refl _ _ | with_reducible assumption)) (hb.mono (by simp))
    have hown2 := own_base_le hown (b' := w.heap.size + 1) (by simp)
    clear hown hb
    obtain ⟨c0, c1, c2, c3, f0, f1, f2, f3⟩ := blk4 hz2
    rcases hp1 : Lib.hasPrefix r [47] with _ | _
    · have hq : readQ r = beginP r := by simp [readQ, hp1]
      have HQ := Lib.hid hq
      have HP := Lib.hid hp1
      clear hq hp1
      obtain ⟨T, hT⟩ : ∃ T, (beginP r).1 = T := ⟨_, rfl⟩
      obtain ⟨q, hql⟩ : ∃ q, (beginP r).2.1 = q := ⟨_, rfl⟩
      have HT := Lib.hid hT
      have HQL := Lib.hid hql
      have hqlen : q.length ≤ l.length - 1 := by rw [← hql, ← HQ.out]; exact hlt
      rw [hT, hql]
      rw [hT] at hown2
      rcases hok : (beginP r).2.2 with _ | _
      · have HV2 : Hid (readP l = (zeroTag, 0)) := by rw [HV.out, HQ.out, hok]; rfl
        clear hok hT hql HV
        go_wp2_with fail
        refine (cutPrefix_l r [47] _).mono ?_
        rw [HP.out]
        rintro e w' ⟨rfl, rfl⟩
        go_wp2
        refine bodyPost_ret (v := .tuple #[.agg #[.string ⟨#[]⟩, .bool false, .bool false, .slice none 0 0], .int .i64 0]) (by simp [results, Try.results14, go_sem, c0, c1, c2, c3, l0]) rfl ⟨.slice none 0 0, by rw [HV2.out]; rfl, by rw [HV2.out]; exact World.ownsRow_nil _ _ _ _, ?_⟩
        exact (by repeat (first | with_reducible refine below_drewN ?_ _ | with_reducible refine Below.drew ?_ | ((with_reducible refine Below.alloc ?_ ?_ _); rotate_left; focus (first | exact Nat.le_refl _ | omega | (simp; done) | (simp; omega))) | ((with_reducible refine Below.setCell ?_ ?_ _); rotate_left; focus (first | exact Nat.le_refl _ | omega | (simp; done) | (simp; omega))) | with_reducible exact Below.refl _ _ | with_reducible assumption))
      · have HV2 : Hid (readP l = (T, l.length - q.length)) := by rw [HV.out, HQ.out, hok, HT.out, HQL.out]; rfl
        clear hok hT hql HV
        go_wp2_with fail
        refine (cutPrefix_l r [47] _).mono ?_
        rw [HP.out]
        rintro e w' ⟨rfl, rfl⟩
        go_wp2
        refine bodyPost_ret (v := .tuple #[.agg #[.string ⟨T.name.toArray⟩, .bool false, .bool T.void, .slice A T.attrs.length c], .int .i64 ((l.length : Int) - q.length)]) (by simp [results, Try.results14, go_sem, c0, c1, c2, c3, l0]) rfl ⟨.slice A T.attrs.length c, ?_, ?_, ?_⟩
        · rw [HV2.out]; exact tag_ret (by rw [← HT.out]; exact beginP_ends r) (by omega)
        · rw [HV2.out]; exact (by (refine own_base_le (b := w.heap.size + 1) ?_ (by omega)); repeat (first | with_reducible exact hown2 | with_reducible refine World.ownsRow.alloc ?_ _ | ((with_reducible refine ownsRow_setCell_below ?_ ?_ _); rotate_left; focus (first | omega | (simp; done) | (simp; omega)))))
        · exact (by repeat (first | with_reducible refine below_drewN ?_ _ | with_reducible refine Below.drew ?_ | ((with_reducible refine Below.alloc ?_ ?_ _); rotate_left; focus (first | exact Nat.le_refl _ | omega | (simp; done) | (simp; omega))) | ((with_reducible refine Below.setCell ?_ ?_ _); rotate_left; focus (first | exact Nat.le_refl _ | omega | (simp; done) | (simp; omega))) | with_reducible exact Below.refl _ _ | with_reducible assumption))
    · have hq : readQ r = (⟨(endP (r.drop 1)).1, true, false, []⟩, (endP (r.drop 1)).2) := by simp [readQ, hp1]
      have hr1 : Lib.trimPrefix r [47] = r.drop 1 := trimPrefix_eq hp1
      obtain ⟨r1, h1⟩ : ∃ r1, r.drop 1 = r1 := ⟨_, rfl⟩
      rw [h1] at hq hr1
      have hr1l : r1.length ≤ 1073741824 := by rw [← h1]; simp; omega
      obtain ⟨nm, hnm⟩ : ∃ nm, (endP r1).1 = nm := ⟨_, rfl⟩
      obtain ⟨q, hql⟩ : ∃ q, (endP r1).2.1 = q := ⟨_, rfl⟩
      have hqlen : q.length ≤ l.length - 1 := by rw [hq] at hlt; simp only [hql] at hlt; exact hlt
      have HQ := Lib.hid hq
      have HP := Lib.hid hp1
      have HR1 := Lib.hid hr1
      have HNM := Lib.hid hnm
      have HQL := Lib.hid hql
      have l2 : w.heap.size ≤ w2.heap.size := by omega
      rcases hok : (endP r1).2.2 with _ | _
      · have hv2 : readP l = (zeroTag, 0) := by rw [HV.out, HQ.out]; simp [hok]
        have HV2 := Lib.hid hv2
        have HOK := Lib.hid hok
        clear hok hnm hql HV hq hp1 hr1 h1 hv2
        go_wp2_with fail
        refine (cutPrefix_l r [47] _).mono ?_
        rw [HP.out, HR1.out]
        rintro e w' ⟨rfl, rfl⟩
        go_wp2_with fail
        refine (ending_any r1 _ (by omega)).mono ?_
        rw [HNM.out, HQL.out, HOK.out]
        rintro e w3 ⟨rfl, hb3⟩
        have hz3 := (hb3.block w.heap.size (by simp; omega)).trans ((Below.heap_alloc _ _ _ (by omega)).trans hz2)
        have ht3 := (hb3.block w2.heap.size (by simp)).trans (heap_alloc_new w2 _)
        have l3 : w2.heap.size < w3.heap.size := by have := hb3.size; simp at this; omega
        have hB3 : Below w.heap.size w w3 := hB2.trans (Below.trans (b := w2.alloc (.cells #[.string ⟨(beginP r).1.name.toArray⟩, .bool false, .bool (beginP r).1.void, .slice A (beginP r).1.attrs.length c] 25)) (by repeat (first | with_reducible refine below_drewN ?_ _ | with_reducible refine Below.drew ?_ | ((with_reducible refine Below.alloc ?_ ?_ _); rotate_left; focus (first | exact Nat.le_refl _ | omega | (simp; done) | (simp; omega))) | ((with_reducible refine Below.setCell ?_ ?_ _); rotate_left; focus (first | exact Nat.le_refl _ | omega | (simp; done) | (simp; omega))) | with_reducible exact Below.refl _ _ | with_reducible assumption)) (hb3.mono (by simp; omega)))
        clear hb3 hB2 hz2 c0 c1 c2 c3 f0 f1 f2 f3 hown2
        obtain ⟨c0, c1, c2, c3, f0, f1, f2, f3⟩ := blk4 hz3
        obtain ⟨d0, d1, d2, d3, g0, g1, g2, g3⟩ := blk4 ht3
        have hne : ¬ w.heap.size = w2.heap.size := by omega
        have hne' : ¬ w2.heap.size = w.heap.size := by omega
        have l4 : w.heap.size < w3.heap.size := by omega
        go_wp2
        refine bodyPost_ret (v := .tuple #[.agg #[.string ⟨#[]⟩, .bool false, .bool false, .slice none 0 0], .int .i64 0]) (by simp [results, Try.results14, go_sem, c0, c1, c2, c3]) rfl ⟨.slice none 0 0, by rw [HV2.out]; rfl, by rw [HV2.out]; exact World.ownsRow_nil _ _ _ _, ?_⟩
        exact (by repeat (first | with_reducible refine below_drewN ?_ _ | with_reducible refine Below.drew ?_ | ((with_reducible refine Below.alloc ?_ ?_ _); rotate_left; focus (first | exact Nat.le_refl _ | omega | (simp; done) | (simp; omega))) | ((with_reducible refine Below.setCell ?_ ?_ _); rotate_left; focus (first | exact Nat.le_refl _ | omega | (simp; done) | (simp; omega))) | with_reducible exact Below.refl _ _ | with_reducible assumption))
      · have hv2 : readP l = (⟨nm, true, false, []⟩, l.length - q.length) := by rw [HV.out, HQ.out]; simp [hok, hnm, hql]
        have HV2 := Lib.hid hv2
        have HOK := Lib.hid hok
        clear hok hnm hql HV hq hp1 hr1 h1 hv2
        go_wp2_with fail
        refine (cutPrefix_l r [47] _).mono ?_
        rw [HP.out, HR1.out]
        rintro e w' ⟨rfl, rfl⟩
        go_wp2_with fail
        refine (ending_any r1 _ (by omega)).mono ?_
        rw [HNM.out, HQL.out, HOK.out]
        rintro e w3 ⟨rfl, hb3⟩
        have hz3 := (hb3.block w.heap.size (by simp; omega)).trans ((Below.heap_alloc _ _ _ (by omega)).trans hz2)
        have ht3 := (hb3.block w2.heap.size (by simp)).trans (heap_alloc_new w2 _)
        have l3 : w2.heap.size < w3.heap.size := by have := hb3.size; simp at this; omega
        have hB3 : Below w.heap.size w w3 := hB2.trans (Below.trans (b := w2.alloc (.cells #[.string ⟨(beginP r).1.name.toArray⟩, .bool false, .bool (beginP r).1.void, .slice A (beginP r).1.attrs.length c] 25)) (by repeat (first | with_reducible refine below_drewN ?_ _ | with_reducible refine Below.drew ?_ | ((with_reducible refine Below.alloc ?_ ?_ _); rotate_left; focus (first | exact Nat.le_refl _ | omega | (simp; done) | (simp; omega))) | ((with_reducible refine Below.setCell ?_ ?_ _); rotate_left; focus (first | exact Nat.le_refl _ | omega | (simp; done) | (simp; omega))) | with_reducible exact Below.refl _ _ | with_reducible assumption)) (hb3.mono (by simp; omega)))
        clear hb3 hB2 hz2 c0 c1 c2 c3 f0 f1 f2 f3 hown2
        obtain ⟨c0, c1, c2, c3, f0, f1, f2, f3⟩ := blk4 hz3
        obtain ⟨d0, d1, d2, d3, g0, g1, g2, g3⟩ := blk4 ht3
        have hne : ¬ w.heap.size = w2.heap.size := by omega
        have hne' : ¬ w2.heap.size = w.heap.size := by omega
        have l4 : w.heap.size < w3.heap.size := by omega
        go_wp2
        refine bodyPost_ret (v := .tuple #[.agg #[.string ⟨nm.toArray⟩, .bool true, .bool false, .slice none 0 0], .int .i64 ((l.length : Int) - q.length)]) (by simp [results, Try.results14, go_sem, c0, c1, c2, c3]) rfl ⟨.slice none 0 0, by rw [HV2.out, Int.ofNat_sub (show q.length ≤ l.length by omega)]; rfl, by rw [HV2.out]; exact World.ownsRow_nil _ _ _ _, ?_⟩
        exact (by repeat (first | with_reducible refine below_drewN ?_ _ | with_reducible refine Below.drew ?_ | ((with_reducible refine Below.alloc ?_ ?_ _); rotate_left; focus (first | exact Nat.le_refl _ | omega | (simp; done) | (simp; omega))) | ((with_reducible refine Below.setCell ?_ ?_ _); rotate_left; focus (first | exact Nat.le_refl _ | omega | (simp; done) | (simp; omega))) | with_reducible exact Below.refl _ _ | with_reducible assumption))
end Go.Proofs.Ytmlkmhonpmnenaa
