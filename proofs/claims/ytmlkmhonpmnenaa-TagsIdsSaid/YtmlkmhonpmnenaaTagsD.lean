import Derived.Test.YtmlkmhonpmnenaaTagsC
import Derived.Laws.OwnMore
import Derived.OwnWalk
import Derived.OneCell
import Derived.Lib.Builder
namespace Go.Proofs.Ytmlkmhonpmnenaa
open Go.RowKit

theorem trimPrefix_len {l p : List UInt8} (h : Lib.hasPrefix l p = true) : (Lib.trimPrefix l p).length = l.length - p.length := by simp [Lib.trimPrefix, h]
theorem hasPrefix_len {l p : List UInt8} (h : Lib.hasPrefix l p = true) : p.length ≤ l.length := by
  simp only [Lib.hasPrefix] at h
  exact (List.isPrefixOf_iff_prefix.1 h).length_le
theorem attrP_lt {l n v r : List UInt8} (h : attrP l = some (n, v, r)) : r.length < l.length := by
  unfold attrP at h
  split at h
  · rename_i hc
    split at h
    · rename_i v' rest hcut
      have h2 := congrArg List.length (cut1_sizes hcut)
      split at h
      · cases h
      · simp only [Option.some.injEq, Prod.mk.injEq] at h
        obtain ⟨_, _, rfl⟩ := h
        simp at h2
        omega
    · cases h
  · cases h
def attrsP : Nat → List UInt8 → List (List UInt8 × List UInt8) × List UInt8
  | 0, l => ([], l)
  | k + 1, l => match attrP l with
    | none => ([], l)
    | some (n, v, r) => ((n, v) :: (attrsP k r).1, (attrsP k r).2)
theorem attrsP_more : ∀ (k k' : Nat) (l : List UInt8), l.length ≤ k → l.length ≤ k' → attrsP k l = attrsP k' l
  | 0, 0, _, _, _ => rfl
  | 0, k' + 1, l, h, _ => by
    obtain rfl : l = [] := List.eq_nil_of_length_eq_zero (by omega)
    rfl
  | k + 1, 0, l, _, h => by
    obtain rfl : l = [] := List.eq_nil_of_length_eq_zero (by omega)
    rfl
  | k + 1, k' + 1, l, h, h' => by
    unfold attrsP
    rcases ha : attrP l with _ | ⟨n, v, r⟩
    · rfl
    · have := attrP_lt ha
      simp only []
      rw [attrsP_more k k' r (by omega) (by omega)]
def attrsAll (l : List UInt8) := attrsP l.length l
theorem attrsAll_none {l : List UInt8} (h : attrP l = none) : attrsAll l = ([], l) := by
  unfold attrsAll
  cases hl : l.length with
  | zero => rfl
  | succ k => simp [attrsP, h]
theorem attrsAll_some {l n v r : List UInt8} (h : attrP l = some (n, v, r)) : attrsAll l = ((n, v) :: (attrsAll r).1, (attrsAll r).2) := by
  unfold attrsAll
  have := attrP_lt h
  cases hl : l.length with
  | zero => omega
  | succ k =>
    simp only [attrsP, h]
    rw [attrsP_more k r.length r (by omega) (Nat.le_refl _)]
def beginQ (nm : List UInt8) (ps : List (List UInt8 × List UInt8)) (r : List UInt8) : TagP × List UInt8 × Bool :=
  if Lib.hasPrefix r [32, 47, 62] then (⟨nm, false, true, ps⟩, Lib.trimPrefix r [32, 47, 62], !nm.isEmpty)
  else (⟨nm, false, false, ps⟩, Lib.trimPrefix r [62], Lib.hasPrefix r [62] && !nm.isEmpty)
def beginP (l : List UInt8) : TagP × List UInt8 × Bool :=
  beginQ (l.take (nameN false true l)) (attrsAll (l.drop (nameN false true l))).1 (attrsAll (l.drop (nameN false true l))).2
theorem info_pair : (Try.prog.info? 71).map (fun i => (i.zero, i.size, i.bytes)) = some (some (.agg #[.string ⟨#[]⟩, .string ⟨#[]⟩]), 2, 32) := by kernel_rfl

theorem own_base_le {w : World} {b b' : Nat} {e : TypeId} {size n : Nat} {v : Value} {xs : List Value} (h : w.ownsRow b e size v n xs) (hb : b' ≤ b) : w.ownsRow b' e size v n xs := by
  refine ⟨h.1, ?_⟩
  rcases h.2 with h | ⟨g, cap, cur, h1, h2, h3⟩
  · exact .inl h
  · exact .inr ⟨g, cap, cur, h1, Nat.le_trans hb h2, h3⟩
theorem blk_set3 {w : World} {B : Nat} {a0 a1 a2 a3 : Value} {T : TypeId} (h : w.heap[B]? = some (.cells #[a0, a1, a2, a3] T (0, 0))) (u : Value) :
    (w.setCell ⟨B, 3, none⟩ u).heap[B]? = some (.cells #[a0, a1, a2, u] T (0, 0)) := by simp [World.setCell, Array.getElem?_modify, h]
theorem heap_new_at {w : World} {k : Nat} (o : Obj) (h : k = w.heap.size) : (w.alloc o).heap[k]? = some o := by
  subst h
  exact heap_alloc_new w o
theorem blk4 {w : World} {B : Nat} {a0 a1 a2 a3 : Value} {T : TypeId} (h : w.heap[B]? = some (.cells #[a0, a1, a2, a3] T (0, 0))) :
    w.cell? ⟨B, 0, none⟩ = some a0 ∧ w.cell? ⟨B, 1, none⟩ = some a1 ∧ w.cell? ⟨B, 2, none⟩ = some a2 ∧ w.cell? ⟨B, 3, none⟩ = some a3 ∧
    w.frozen? ⟨B, 0, none⟩ = false ∧ w.frozen? ⟨B, 1, none⟩ = false ∧ w.frozen? ⟨B, 2, none⟩ = false ∧ w.frozen? ⟨B, 3, none⟩ = false :=
  ⟨Lib.cell_of_heap h 0, Lib.cell_of_heap h 1, Lib.cell_of_heap h 2, Lib.cell_of_heap h 3, by simp [World.frozen?, h], by simp [World.frozen?, h], by simp [World.frozen?, h], by simp [World.frozen?, h]⟩

set_option maxRecDepth 100000 in
set_option maxHeartbeats 4000000 in
theorem beginning_any (l : List UInt8) (w : World) (hs : l.length ≤ 1073741824) :
    Calls Try.prog 43 #[.string ⟨l.toArray⟩] w fun e w' => ∃ av, e = .returned (.tuple #[.agg #[.string ⟨(beginP l).1.name.toArray⟩, .bool false, .bool (beginP l).1.void, av], .string ⟨(beginP l).2.1.toArray⟩, .bool (beginP l).2.2]) ∧
      w'.ownsRow w.heap.size 71 2 av (beginP l).1.attrs.length (pairCells (beginP l).1.attrs) ∧ Below w.heap.size w w' := by
  obtain ⟨i0, hi0, iz, isz, iby⟩ := info_parts info_pair
  go_enter Try.func43, Try.ntmps43
  go_wp2_with fail
  refine (named_l false l _ (by omega)).mono ?_
  rintro e w' ⟨rfl, n, rfl⟩
  generalize hn : l.take (nameN false true l) = nm
  generalize hq : l.drop (nameN false true l) = q
  have hql : q.length ≤ l.length := by rw [← hq]; simp
  have HN := Lib.hid hn
  have HQ := Lib.hid hq
  clear hn hq
  go_wp2_with fail
  go_loopw [6] (fun s6 wr => ∃ (ps : List (List UInt8 × List UInt8)) (r : List UInt8) (A : Option Addr) (c : Nat), s6 = .string ⟨(r : List UInt8).toArray⟩ ∧ r.length + ps.length ≤ q.length ∧ Hid ((attrsAll q).1 = ps ++ (attrsAll r).1 ∧ (attrsAll q).2 = (attrsAll r).2) ∧
      wr.heap[w.heap.size]? = some (.cells #[.string ⟨#[]⟩, .bool false, .bool false, .slice none 0 0] 25 (0, 0)) ∧
      wr.heap[w.heap.size + 1]? = some (.cells #[.string ⟨nm.toArray⟩, .bool false, .bool false, .slice A ps.length c] 25 (0, 0)) ∧
      wr.ownsRow (w.heap.size + 2) 71 2 (.slice A ps.length c) ps.length (pairCells ps) ∧ Below w.heap.size w wr ∧ w.heap.size + 2 ≤ wr.heap.size)
    (fun s6 _ => match s6 with | .string s => s.size | _ => 0)
  case atStart => exact ⟨[], q, none, 0, rfl, by simp, ⟨rfl, rfl⟩, (Below.heap_alloc _ _ _ (by simp)).trans (heap_alloc_new w _), heap_new_at _ (by simp), World.ownsRow_nil _ _ _ _, (by repeat (first | with_reducible refine below_drewN ?_ _ | with_reducible refine Below.drew ?_ | ((with_reducible refine Below.alloc ?_ ?_ _); rotate_left; focus (first | exact Nat.le_refl _ | omega | (simp; done) | (simp; omega))) | ((with_reducible refine Below.setCell ?_ ?_ _); rotate_left; focus (first | exact Nat.le_refl _ | omega | (simp; done) | (simp; omega))) | with_reducible exact Below.refl _ _ | with_reducible assumption)), by simp⟩
  case round =>
    obtain ⟨ps, r, A, c, rfl, hrl, hat, hz, hb, hown, hB, hsz⟩ := hrel
    have c0 := fun j => Lib.cell_of_heap hb j
    have hrl' : r.length ≤ l.length := by omega
    rcases ha : attrP r with _ | ⟨nme, v, r'⟩
    · have hv : attrV r = .tuple #[.agg #[.string ⟨#[]⟩, .string ⟨#[]⟩], .string ⟨r.toArray⟩, .bool false] := by simp [attrV, ha]
      obtain ⟨e1, e2⟩ := hat
      rw [attrsAll_none ha] at e1 e2
      have H1 := Lib.hid e1
      have H2 := Lib.hid e2
      have HV := Lib.hid hv
      clear e1 e2 hv ha
      go_wp2_with fail
      refine (attribute_any r _ (by omega)).mono ?_
      rw [HV.out]
      rintro e w2 ⟨rfl, hb2⟩
      have hsz2 : w.heap.size + 2 ≤ w2.heap.size := Nat.le_trans hsz hb2.size
      have hz2 := (hb2.block w.heap.size (by omega)).trans hz
      have hbb2 := (hb2.block (w.heap.size + 1) (by omega)).trans hb
      have hown2 : w2.ownsRow (w.heap.size + 2) 71 2 (.slice A ps.length c) ps.length (pairCells ps) := hown.kept (row := none) ⟨hb2.os, hb2.tape, hb2.output, hb2.size, fun k hk _ => hb2.block k hk⟩ (by cases A <;> simp [Value.ownBlock])
      have hB2 : Below w.heap.size w w2 := hB.trans (hb2.mono (by omega))
      clear hb2 hz hb hown hB hsz c0
      obtain ⟨c0, c1, c2, c3, f0, f1, f2, f3⟩ := blk4 hz2
      obtain ⟨d0, d1, d2, d3, g0, g1, g2, g3⟩ := blk4 hbb2
      have l0 : w.heap.size < w2.heap.size := by omega
      have l1 : w.heap.size + 1 < w2.heap.size := by omega
      go_wp2_with fail
      refine (cutPrefix_l r [32, 47, 62] _).mono ?_
      rintro e w' ⟨rfl, rfl⟩
      generalize hr1 : Lib.trimPrefix r [32, 47, 62] = r1
      have HR := Lib.hid hr1
      clear hr1
      have hbase : beginP l = if Lib.hasPrefix r [32, 47, 62] then (⟨nm, false, true, ps⟩, r1, !nm.isEmpty) else (⟨nm, false, false, ps⟩, Lib.trimPrefix r [62], Lib.hasPrefix r [62] && !nm.isEmpty) := by
        unfold beginP
        rw [HN.out, HQ.out, H1.out, H2.out, List.append_nil, beginQ, HR.out]
      rcases hp : Lib.hasPrefix r [32, 47, 62] with _ | _
      · go_wp2_with fail
        refine (cutPrefix_l r [62] _).mono ?_
        rintro e w' ⟨rfl, rfl⟩
        generalize hr2 : Lib.trimPrefix r [62] = r2
        rw [hp, hr2] at hbase
        rcases hp2 : Lib.hasPrefix r [62] with _ | _
        · rw [hp2] at hbase
          have HBP : Hid (beginP l = (⟨nm, false, false, ps⟩, r2, false)) := hbase
          clear hbase hp hp2 hr2
          go_wp2
          refine bodyPost_ret (v := .tuple #[.agg #[.string ⟨nm.toArray⟩, .bool false, .bool false, .slice A ps.length c], .string ⟨r2.toArray⟩, .bool false]) (by simp [results, Try.results43, go_sem, c0, c1, c2, c3, l0]) rfl ⟨.slice A ps.length c, by rw [HBP.out], ?_, ?_⟩
          · rw [HBP.out]
            show World.ownsRow _ _ _ _ _ ps.length (pairCells ps)
            exact (by (refine own_base_le (b := w.heap.size + 2) ?_ (by omega)); repeat (first | with_reducible exact hown2 | with_reducible refine World.ownsRow.alloc ?_ _ | ((with_reducible refine ownsRow_setCell_below ?_ ?_ _); rotate_left; focus (first | omega | (simp; done) | (simp; omega)))))
          · exact (by repeat (first | with_reducible refine below_drewN ?_ _ | with_reducible refine Below.drew ?_ | ((with_reducible refine Below.alloc ?_ ?_ _); rotate_left; focus (first | exact Nat.le_refl _ | omega | (simp; done) | (simp; omega))) | ((with_reducible refine Below.setCell ?_ ?_ _); rotate_left; focus (first | exact Nat.le_refl _ | omega | (simp; done) | (simp; omega))) | with_reducible exact Below.refl _ _ | with_reducible assumption))
        · rw [hp2] at hbase
          have HBP : Hid (beginP l = (⟨nm, false, false, ps⟩, r2, !nm.isEmpty)) := hbase
          clear hbase hp hp2 hr2
          go_wp2
          refine bodyPost_ret (v := .tuple #[.agg #[.string ⟨nm.toArray⟩, .bool false, .bool false, .slice A ps.length c], .string ⟨r2.toArray⟩, .bool (!nm.isEmpty)]) (by simp [results, Try.results43, go_sem, c0, c1, c2, c3, l0]) rfl ⟨.slice A ps.length c, by rw [HBP.out], ?_, ?_⟩
          · rw [HBP.out]
            show World.ownsRow _ _ _ _ _ ps.length (pairCells ps)
            exact (by (refine own_base_le (b := w.heap.size + 2) ?_ (by omega)); repeat (first | with_reducible exact hown2 | with_reducible refine World.ownsRow.alloc ?_ _ | ((with_reducible refine ownsRow_setCell_below ?_ ?_ _); rotate_left; focus (first | omega | (simp; done) | (simp; omega)))))
          · exact (by repeat (first | with_reducible refine below_drewN ?_ _ | with_reducible refine Below.drew ?_ | ((with_reducible refine Below.alloc ?_ ?_ _); rotate_left; focus (first | exact Nat.le_refl _ | omega | (simp; done) | (simp; omega))) | ((with_reducible refine Below.setCell ?_ ?_ _); rotate_left; focus (first | exact Nat.le_refl _ | omega | (simp; done) | (simp; omega))) | with_reducible exact Below.refl _ _ | with_reducible assumption))
      · rw [hp] at hbase
        have HBP : Hid (beginP l = (⟨nm, false, true, ps⟩, r1, !nm.isEmpty)) := hbase
        clear hbase hp
        go_wp2
        refine bodyPost_ret (v := .tuple #[.agg #[.string ⟨nm.toArray⟩, .bool false, .bool true, .slice A ps.length c], .string ⟨r1.toArray⟩, .bool (!nm.isEmpty)]) (by simp [results, Try.results43, go_sem, c0, c1, c2, c3, l0]) rfl ⟨.slice A ps.length c, by rw [HBP.out], ?_, ?_⟩
        · rw [HBP.out]
          show World.ownsRow _ _ _ _ _ ps.length (pairCells ps)
          exact (by (refine own_base_le (b := w.heap.size + 2) ?_ (by omega)); repeat (first | with_reducible exact hown2 | with_reducible refine World.ownsRow.alloc ?_ _ | ((with_reducible refine ownsRow_setCell_below ?_ ?_ _); rotate_left; focus (first | omega | (simp; done) | (simp; omega)))))
        · exact (by repeat (first | with_reducible refine below_drewN ?_ _ | with_reducible refine Below.drew ?_ | ((with_reducible refine Below.alloc ?_ ?_ _); rotate_left; focus (first | exact Nat.le_refl _ | omega | (simp; done) | (simp; omega))) | ((with_reducible refine Below.setCell ?_ ?_ _); rotate_left; focus (first | exact Nat.le_refl _ | omega | (simp; done) | (simp; omega))) | with_reducible exact Below.refl _ _ | with_reducible assumption))
    · have hv : attrV r = .tuple #[.agg #[.string ⟨nme.toArray⟩, .string ⟨v.toArray⟩], .string ⟨r'.toArray⟩, .bool true] := by simp [attrV, ha]
      have hlt := attrP_lt ha
      obtain ⟨e1, e2⟩ := hat
      rw [attrsAll_some ha] at e1 e2
      have H12 := Lib.hid (And.intro e1 e2)
      have HV := Lib.hid hv
      clear e1 e2 hv ha
      go_wp2_with fail
      refine (attribute_any r _ (by omega)).mono ?_
      rw [HV.out]
      rintro e w2 ⟨rfl, hb2⟩
      have hsz2 : w.heap.size + 2 ≤ w2.heap.size := Nat.le_trans hsz hb2.size
      have hz2 := (hb2.block w.heap.size (by omega)).trans hz
      have hbb2 := (hb2.block (w.heap.size + 1) (by omega)).trans hb
      have hown2 : w2.ownsRow (w.heap.size + 2) 71 2 (.slice A ps.length c) ps.length (pairCells ps) := hown.kept (row := none) ⟨hb2.os, hb2.tape, hb2.output, hb2.size, fun k hk _ => hb2.block k hk⟩ (by cases A <;> simp [Value.ownBlock])
      have hB2 : Below w.heap.size w w2 := hB.trans (hb2.mono (by omega))
      clear hb2 hz hb hown hB hsz c0 HV
      obtain ⟨d0, d1, d2, d3, g0, g1, g2, g3⟩ := blk4 hbb2
      have l0 : w.heap.size < w2.heap.size := by omega
      have l1 : w.heap.size + 1 < w2.heap.size := by omega
      have hb16 : (ps.length + 1) * 32 ≤ 140737488355328 := by omega
      go_wp2_with (at_builtin; refine wpList_append_own _ rfl _ _ 23 rfl (w.heap.size + 2) 71 i0 _ 2 32 Try.underlying23 hi0 iz isz iby rfl (by decide) _ _ _ rfl ((hown2.alloc _).alloc _) ⟨w2.heap.size + 1, 0, none⟩ 1 1 [.string ⟨nme.toArray⟩, .string ⟨v.toArray⟩] rfl rfl ?c1 ?c2 ?c3 ?c4 ?c5 ?_)
      case c1 =>
        intro j u hj
        match j, hj with
        | 0, hj => simp at hj; subst hj; simp [go_sem]
        | 1, hj => simp at hj; subst hj; simp [go_sem]
      case c2 => intro u hu; simp at hu; rcases hu with rfl | rfl <;> rfl
      case c3 => simp only [maxLen]; omega
      case c4 => exact hb16
      case c5 => simp; omega
      intro v' w1 hown1 hgrow _
      obtain ⟨g', c', rfl, hg'⟩ : ∃ g' c', v' = .slice (some ⟨g', 0, none⟩) (ps.length + 1) c' ∧ w.heap.size + 2 ≤ g' := by
        rcases hown1.2 with ⟨_, h0⟩ | ⟨g', c', _, h1, h2, _⟩
        · omega
        · exact ⟨g', c', h1, h2⟩
      have hne : ∀ k, k < w.heap.size + 2 → some k ≠ (Value.slice A ps.length c).ownBlock := fun k hk e => by have := (hown2.lt k e.symm).1; omega
      have hz1 := (hgrow.block w.heap.size (by simp; omega) (hne _ (by omega))).trans ((Below.heap_alloc _ _ _ (by simp; omega)).trans ((Below.heap_alloc _ _ _ (by omega)).trans hz2))
      have hb1 := (hgrow.block (w.heap.size + 1) (by simp; omega) (hne _ (by omega))).trans ((Below.heap_alloc _ _ _ (by simp; omega)).trans ((Below.heap_alloc _ _ _ (by omega)).trans hbb2))
      have hsz1 : w.heap.size + 2 ≤ w1.heap.size := by have := hgrow.size; simp at this; omega
      have hB1 : Below w.heap.size w w1 := Below.grown (w := (w2.alloc (Obj.cells #[Value.string { data := nme.toArray }, Value.string { data := v.toArray }] 71)).alloc (Obj.cells #[Value.string { data := nme.toArray }, Value.string { data := v.toArray }] 71)) (by repeat (first | with_reducible refine below_drewN ?_ _ | with_reducible refine Below.drew ?_ | ((with_reducible refine Below.alloc ?_ ?_ _); rotate_left; focus (first | exact Nat.le_refl _ | omega | (simp; done) | (simp; omega))) | ((with_reducible refine Below.setCell ?_ ?_ _); rotate_left; focus (first | exact Nat.le_refl _ | omega | (simp; done) | (simp; omega))) | with_reducible exact Below.refl _ _ | with_reducible assumption)) hgrow (by simp; omega) (fun k hk => by have := (hown2.lt k hk).1; omega)
      clear hgrow hown2 hz2 hbb2 hB2 d0 d1 d2 d3 g0 g1 g2 g3 l0 l1
      obtain ⟨d0, d1, d2, d3, g0, g1, g2, g3⟩ := blk4 hb1
      go_wp2
      go_roundw
      case rel =>
        refine ⟨ps ++ [(nme, v)], r', some ⟨g', 0, none⟩, c', rfl, by simp; omega, ?_, ?_, ?_, ?_, (by repeat (first | with_reducible refine below_drewN ?_ _ | with_reducible refine Below.drew ?_ | ((with_reducible refine Below.alloc ?_ ?_ _); rotate_left; focus (first | exact Nat.le_refl _ | omega | (simp; done) | (simp; omega))) | ((with_reducible refine Below.setCell ?_ ?_ _); rotate_left; focus (first | exact Nat.le_refl _ | omega | (simp; done) | (simp; omega))) | with_reducible exact Below.refl _ _ | with_reducible assumption)), by simpa using hsz1⟩
        · rw [List.append_assoc]; exact H12.out
        · exact (Below.heap_setCell _ _ _ _ (by simp)).trans hz1
        · rw [List.length_append]; exact blk_set3 hb1 _
        · rw [List.length_append, pairCells_append]; exact ownsRow_setCell_below hown1 (by simp) _
      case measure => simp [mkb_size]; exact hlt
end Go.Proofs.Ytmlkmhonpmnenaa
