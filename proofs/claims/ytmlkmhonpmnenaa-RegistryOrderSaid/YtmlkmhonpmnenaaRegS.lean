/- slices.SortFunc at hooks: the library's contract, laid at this dump, in the words of 'ownsRow': the row owns the sorted list. -/
import Derived.Test.YtmlkmhonpmnenaaRegB
import Derived.Shelf.SlSortCmp.WholeK
import Derived.Shelf.SlSortCmp.NoneTotal
import Derived.Sort.OwnSorted
namespace Go.Proofs.Ytmlkmhonpmnenaa
open Go.RowKit Go.Lib Go.Sort

theorem flatK_hk (L : List Hk) : flatK hkC 5 L.toArray = (hkCells L).toArray := by
  refine ext_get! (by simp [hkCells_len]) fun t ht => ?_
  have ht' : t < L.length * 5 := by simpa using ht
  rw [get_flatK _ _ _ t (by simpa using ht')]
  have hd : t / 5 < L.length := by omega
  have hm : t % 5 < 5 := by omega
  have h := hkCells_at L (t / 5) (t % 5) hd hm
  rw [show t / 5 * 5 + t % 5 = t by omega] at h
  rw [getElem!_pos L.toArray (t / 5) (by simpa using hd), getElem!_pos _ t (by simp [hkCells_len]; exact ht')]
  simp only [List.getElem_toArray]
  rw [getElem!_pos _ (t % 5) (by rw [hkC_len]; exact hm)]
  have h1 : (hkCells L)[t]? = some ((hkCells L)[t]'(by rw [hkCells_len]; exact ht')) := List.getElem?_eq_getElem _
  have h2 : (hkC L[t / 5])[t % 5]? = some ((hkC L[t / 5])[t % 5]'(by rw [hkC_len]; exact hm)) := List.getElem?_eq_getElem _
  rw [h1, h2] at h
  injection h with h
  exact h.symm
theorem holdsK_own {w : World} {g : Nat} {cur : Array Value} {e : TypeId} {L : List Hk} (hb : w.heap[g]? = some (.cells cur e (0, 0))) (ht : cur.toList.take (L.length * 5) = hkCells L) : HoldsK hkC 5 w g 0 L.toArray := by
  unfold HoldsK
  rw [flatK_hk]
  intro j hj
  have hj' : j < L.length * 5 := by simpa [hkCells_len] using hj
  refine ⟨?_, by simp [World.frozen?, hb]⟩
  have h1 : (cur.toList.take (L.length * 5))[j]? = (hkCells L)[j]? := by rw [ht]
  rw [List.getElem?_take_of_lt hj'] at h1
  simp only [World.cell?, hb, Nat.zero_add]
  simp only [Option.isSome_none, Bool.false_eq_true, if_false]
  rw [← Array.getElem?_toList, h1]
  rw [getElem!_pos _ j hj]
  simp only [List.getElem_toArray, id]
  exact List.getElem?_eq_getElem _
theorem heap_sortedK {w : World} {g n : Nat} {os : Array Obj} {cur F : Array Value} {e : TypeId} {fr : Nat × Nat} (hb : w.heap[g]? = some (.cells cur e fr)) :
    (grow (putRow id (Sort.ahead w n) g 0 F) os).heap[g]? = some (.cells (putCells id 0 F cur) e fr) := by
  have hg : g < w.heap.size := (Array.getElem?_eq_some_iff.1 hb).1
  rw [heap_grow_old _ _ (by simpa using hg)]
  simp [putRow, mapBlock, Sort.ahead, Array.getElem?_modify, hb, onCells]
theorem grownBy_sortedK {w : World} {g n : Nat} {os : Array Obj} (d : Array Hk) : w.grownBy (sortWorldK hkC 5 w g 0 n d os) (some g) := by
  unfold sortWorldK putRowK
  refine ⟨rfl, rfl, rfl, by simp, fun k hk hne => ?_⟩
  rw [heap_grow_old _ _ (by simpa using hk)]
  have : g ≠ k := fun e => hne (by rw [e])
  simp [putRow, mapBlock, Sort.ahead, Array.getElem?_modify, this]
theorem take_putCellsK (cur : Array Value) (xs : List Value) (h : xs.length ≤ cur.size) : (putCells id 0 xs.toArray cur).toList.take xs.length = xs := by
  apply List.ext_getElem?
  intro j
  by_cases hj : j < xs.length
  · rw [List.getElem?_take_of_lt hj, Array.getElem?_toList]
    simp [putCells, hj, show j < cur.size by omega]
  · rw [List.getElem?_take_eq_none (by omega), List.getElem?_eq_none (by omega)]
theorem ownsRow_sortedK {w : World} {base g cap n : Nat} {e : TypeId} {os : Array Obj} {cur : Array Value} {L : List Hk} {k : Nat} (hl : L.length = k) (hbase : base ≤ g) (hb : w.heap[g]? = some (.cells cur e (0, 0)))
    (h1 : k ≤ cap) (h2 : cap ≤ maxLen) (h3 : cur.size = cap * 5) :
    (sortWorldK hkC 5 w g 0 n L.toArray os).ownsRow base e 5 (.slice (some ⟨g, 0, none⟩) k cap) k (hkCells L) := by
  unfold sortWorldK putRowK
  rw [flatK_hk]
  have hle : (hkCells L).length ≤ cur.size := by rw [hkCells_len, h3, hl]; omega
  refine ⟨by rw [hkCells_len, hl], .inr ⟨g, cap, _, rfl, hbase, heap_sortedK hb, h1, h2, by simp [putCells, h3], ?_⟩⟩
  have e1 : k * 5 = (hkCells L).length := by rw [hkCells_len, hl]
  rw [e1]
  exact take_putCellsK cur _ hle

def Try.SlLaysF0_n6_ren : Go.Shelf.Ren := ⟨fun | 6 => 86 | 14 => 97 | 15 => 98 | 20 => 110 | 21 => 111 | 22 => 112 | 23 => 113 | 24 => 114 | 25 => 115 | 26 => 116 | 27 => 117 | 28 => 118 | 29 => 119 | 46 => 128 | 47 => 129 | 48 => 130 | 49 => 131 | 50 => 132 | 57 => 142 | n => n, fun | 0 => 0 | 3 => 3 | 4 => 4 | 5 => 5 | 9 => 9 | 22 => 39 | 24 => 43 | 25 => 130 | 39 => 134 | 45 => 144 | 46 => 145 | 50 => 149 | 53 => 92 | 55 => 153 | 66 => 160 | 70 => 164 | 76 => 174 | 77 => 175 | n => n, fun n => n⟩
theorem Try.SlLaysF0_n6 : Go.Proofs.SlLaysF0.n6 Try.prog Try.SlLaysF0_n6_ren := {
  mixed := by kernel_rfl
  f6 := ⟨Try.f86.name, by decide, Try.func86.trans (congrArg some (by kernel_rfl))⟩
  f14 := ⟨Try.f97.name, by decide, Try.func97.trans (congrArg some (by kernel_rfl))⟩
  f15 := Try.func98.trans (congrArg some (by kernel_rfl))
  f20 := ⟨Try.f110.name, by decide, Try.func110.trans (congrArg some (by kernel_rfl))⟩
  f21 := ⟨Try.f111.name, by decide, Try.func111.trans (congrArg some (by kernel_rfl))⟩
  f22 := ⟨Try.f112.name, by decide, Try.func112.trans (congrArg some (by kernel_rfl))⟩
  f23 := ⟨Try.f113.name, by decide, Try.func113.trans (congrArg some (by kernel_rfl))⟩
  f24 := ⟨Try.f114.name, by decide, Try.func114.trans (congrArg some (by kernel_rfl))⟩
  f25 := ⟨Try.f115.name, by decide, Try.func115.trans (congrArg some (by kernel_rfl))⟩
  f26 := ⟨Try.f116.name, by decide, Try.func116.trans (congrArg some (by kernel_rfl))⟩
  f27 := ⟨Try.f117.name, by decide, Try.func117.trans (congrArg some (by kernel_rfl))⟩
  f28 := Try.func118.trans (congrArg some (by kernel_rfl))
  f29 := Try.func119.trans (congrArg some (by kernel_rfl))
  f46 := ⟨Try.f128.name, by decide, Try.func128.trans (congrArg some (by kernel_rfl))⟩
  f47 := Try.func129.trans (congrArg some (by kernel_rfl))
  f48 := Try.func130.trans (congrArg some (by kernel_rfl))
  f49 := ⟨Try.f131.name, by decide, Try.func131.trans (congrArg some (by kernel_rfl))⟩
  f50 := ⟨Try.f132.name, by decide, Try.func132.trans (congrArg some (by kernel_rfl))⟩
  f57 := ⟨Try.f142.name, by decide, Try.func142.trans (congrArg some (by kernel_rfl))⟩
  t0 := Try.underlying0
  a0 := Try.isAgg0
  z0 := Try.sizeOf0
  v0 := Try.zeroValue0
  t3 := Try.underlying3
  a3 := Try.isAgg3
  z3 := Try.sizeOf3
  v3 := Try.zeroValue3
  t4 := Try.underlying4
  a4 := Try.isAgg4
  z4 := Try.sizeOf4
  v4 := Try.zeroValue4
  t5 := Try.underlying5
  a5 := Try.isAgg5
  z5 := Try.sizeOf5
  v5 := Try.zeroValue5
  t9 := Try.underlying9
  a9 := Try.isAgg9
  z9 := Try.sizeOf9
  v9 := Try.zeroValue9
  t22 := Try.underlying39
  a22 := Try.isAgg39
  z22 := Try.sizeOf39
  v22 := Try.zeroValue39
  t25 := Try.underlying130
  a25 := Try.isAgg130
  z25 := Try.sizeOf130
  v25 := Try.zeroValue130
  t39 := Try.underlying134
  a39 := Try.isAgg134
  z39 := Try.sizeOf134
  v39 := Try.zeroValue134
  t45 := Try.underlying144
  a45 := Try.isAgg144
  z45 := Try.sizeOf144
  v45 := Try.zeroValue144
  t46 := Try.underlying145
  a46 := Try.isAgg145
  z46 := Try.sizeOf145
  v46 := Try.zeroValue145
  t50 := Try.underlying149
  a50 := Try.isAgg149
  z50 := Try.sizeOf149
  v50 := Try.zeroValue149
  t53 := Try.underlying92
  a53 := Try.isAgg92
  z53 := Try.sizeOf92
  v53 := Try.zeroValue92
  t55 := Try.underlying153
  a55 := Try.isAgg153
  z55 := Try.sizeOf153
  v55 := Try.zeroValue153
  t66 := Try.underlying160
  a66 := Try.isAgg160
  z66 := Try.sizeOf160
  v66 := Try.zeroValue160
  t70 := Try.underlying164
  a70 := Try.isAgg164
  z70 := Try.sizeOf164
  v70 := Try.zeroValue164
  t76 := Try.underlying174
  a76 := Try.isAgg174
  z76 := Try.sizeOf174
  v76 := Try.zeroValue174
  t77 := Try.underlying175
  a77 := Try.isAgg175
  z77 := Try.sizeOf175
  v77 := Try.zeroValue175
}

theorem sort_own {base : Nat} {v : Value} {L : List Hk} {w : World} (hd : Dist L) (hown : w.ownsRow base HT 5 v L.length (hkCells L)) (hlen : L.length < 4611686018427387904)
    (hcmp : ∀ (x y : Hk) (W : World), Calls Try.prog 87 #[hkV x, hkV y] W fun e w' => e = .returned (.int .i64 (cfH x y)) ∧ ∃ q os', w' = grow (W.drewN q) os') :
    Calls Try.prog 86 #[v, .func (.func 87) #[] #[]] w fun e w' =>
      e = .returned (.tuple #[]) ∧ w'.ownsRow base HT 5 v L.length (hkCells (srt L)) ∧ w.grownBy w' v.ownBlock := by
  rcases hown.2 with ⟨rfl, h0⟩ | ⟨g, cap, cur, rfl, hbase, hb, h1, h2, h3, h4⟩
  · have hL : L = [] := List.eq_nil_of_length_eq_zero h0
    subst hL
    refine (AnyF.slices_SortFunc_none Try.SlLaysF0_n6 none 0 _ w).mono ?_
    rintro e w' ⟨rfl, rfl⟩
    exact ⟨rfl, hown, only_refl _ _⟩
  · have hH := holdsK_own hb h4
    have eg : ∀ args w, (callFunc 87 args).run Try.prog w = .ok (.enter 87 args) w := enters_of Try.func87 (by kernel_rfl) rfl
    have hC : CmpLays Try.prog 87 #[] hkC 5 cfH g 0 L.toArray.size w := fun m os dk _ x y => hcmp x y _
    have hcon := AnyQ.slices_SortFunc Try.SlLaysF0_n6 5 Try.isAgg43 Try.sizeOf43 hkC hkC_len hkC_one cfH swoH 87 #[] g 0 cap L.toArray w eg hC hH (Array.getElem?_eq_some_iff.1 hb).1 (by simpa using hlen)
    refine Calls.mono (R := _) hcon ?_
    rintro e w' ⟨rfl, d', n, os, hp, hs, rfl⟩
    have hd' : Dist L.toArray.toList := by simpa using hd
    have hsrt := srt_of_sort hd' hp hs
    have hd2 : d' = (srt L).toArray := by
      rw [← Array.toArray_toList (xs := d'), hsrt]
    subst hd2
    exact ⟨rfl, ownsRow_sortedK (srt_perm L).length_eq hbase hb h1 h2 h3, grownBy_sortedK _⟩
end Go.Proofs.Ytmlkmhonpmnenaa
