import Derived.Test.YtmlkmhonpmnenaaTagsU
namespace Go.Proofs.Ytmlkmhonpmnenaa
open Go.RowKit

theorem attrP_drop {l n v r : List UInt8} (h : attrP l = some (n, v, r)) : l.drop (l.length - r.length) = r := by
  have hs : r <:+ l := by
    unfold attrP at h
    split at h
    · rename_i hc
      split at h
      · rename_i v' rest hcut
        have h2 := cut1_sizes hcut
        split at h
        · cases h
        · simp only [Option.some.injEq, Prod.mk.injEq] at h
          obtain ⟨_, _, rfl⟩ := h
          have h3 : rest <:+ (((l.drop 1).drop (nameN true true (l.drop 1))).drop 2) := by rw [h2]; exact ⟨v' ++ [34], by simp⟩
          exact h3.trans ((List.drop_suffix _ _).trans ((List.drop_suffix _ _).trans (List.drop_suffix _ _)))
      · cases h
    · cases h
  exact (List.suffix_iff_eq_drop.1 hs).symm

set_option maxRecDepth 100000 in
set_option maxHeartbeats 8000000 in
theorem rread_begin (s : ByteArray) (w : World) (hs : s.size ≤ 1073741824) (h : Lib.hasPrefix s.data.toList [60] = true) (h2 : Lib.hasPrefix s.data.toList [60, 47] = false) :
    Calls Try.prog 15 #[.string s] w fun e w' => ∃ av, e = .returned (.tuple #[tagV (readP s.data.toList).1 av, .int .i64 ((readP s.data.toList).2 : Nat)]) ∧
      w'.ownsRow w.heap.size 71 2 av (readP s.data.toList).1.attrs.length (pairCells (readP s.data.toList).1.attrs) ∧ Below w.heap.size w w' := by
  obtain ⟨i0, hi0, iz, isz, iby⟩ := info_parts info_pair
  obtain ⟨L, hL⟩ : ∃ L, s.data.toList = L := ⟨_, rfl⟩
  have hLs : L.length = s.size := by rw [← hL, Lib.size_eq]
  have hget : ∀ i (hi : i < s.size), L[i]? = some (s[i]'hi) := fun i hi => by rw [← hL]; exact Lib.data_getElem? s i hi
  rw [hL] at h h2 ⊢
  have hl2 := hasPrefix_len h
  have hrp := readP_begin h h2
  simp at hl2
  have hz' : s.toList.isEmpty = false := by
    rw [Lib.toList_data, hL]
    cases L with
    | nil => cases h
    | cons _ _ => rfl
  have hsz : 0 < s.size := by omega
  have hne : ((s[0].toNat : Int) != 60) = false := by
    have h0 := hget 0 hsz
    rw [hp_one] at h
    cases L with
    | nil => cases h
    | cons b q =>
      simp at h h0
      rw [← h0, h]; rfl
  have hsz' : (0 : Int) < (s.size : Int) := by omega
  have hsz1 : (1 : Int) ≤ (s.size : Int) := by omega
  obtain ⟨n, hn⟩ : ∃ n, nameN false true (L.drop 1) = n := ⟨_, rfl⟩
  have hnl := nameN_le false true (L.drop 1)
  rw [hn] at hrp hnl
  simp at hnl
  have hext : (s.extract 1 s.size).data.toList = L.drop 1 := by rw [Lib.extract_data, hL, List.take_of_length_le (by simp; omega)]
  have hexti : ∀ i : Nat, (s.extract i s.size).data.toList = L.drop i := fun i => by rw [Lib.extract_data, hL, List.take_of_length_le (by simp; omega)]
  have hx : s.extract 1 (1 + n) = ⟨((L.drop 1).take n).toArray⟩ := by rw [Lib.extract_eq, hL, show 1 + n - 1 = n by omega]
  obtain ⟨q, hq⟩ : ∃ q, (L.drop 1).drop n = q := ⟨_, rfl⟩
  have hq' : L.drop (1 + n) = q := by rw [← hq, List.drop_drop]
  obtain ⟨nm, hnm⟩ : ∃ nm, (L.drop 1).take n = nm := ⟨_, rfl⟩
  rw [hq, hnm] at hrp
  rw [hnm] at hx
  have b1 : (1 : Int) ≤ 1 + (n : Int) := by omega
  have b2 : (1 : Int) + (n : Int) ≤ (s.size : Int) := by omega
  have b3 : (0 : Int) ≤ 1 + (n : Int) := by omega
  have HLS := Lib.hid hLs
  have HP2 := Lib.hid h2
  have HRP := Lib.hid hrp
  have HN := Lib.hid hn
  have HE := Lib.hid hext
  have HEI := Lib.hid hexti
  have HX := Lib.hid hx
  have HQ := Lib.hid hq'
  have HL := Lib.hid hL
  clear hL hLs h h2 hrp hn hext hexti hx hq hq' hnm hget
  go_enter Try.func15, Try.ntmps15
  go_wp2_with fail
  refine (begins_any _ _ _).mono ?_
  rw [HL.out, show (⟨#[60, 47]⟩ : ByteArray).data.toList = [60, 47] from rfl, HP2.out]
  rintro e w' ⟨rfl, rfl⟩
  go_wp2_with fail
  refine (rname_any false _ _ (by rw [Lib.size_eq, HE.out, List.length_drop, HLS.out]; omega)).mono ?_
  rw [HE.out, HN.out]
  rintro e w' ⟨rfl, rfl⟩
  by_cases h0 : n = 0
  · have hz : readP L = (zeroTag, 0) := by rw [HRP.out, if_pos h0]
    have HZ := Lib.hid hz
    clear hz
    subst h0
    go_wp2
    refine bodyPost_ret (v := .tuple #[.agg #[.string ⟨#[]⟩, .bool false, .bool false, .slice none 0 0], .int .i64 0]) (by simp [results, Try.results15, go_sem]) rfl ⟨.slice none 0 0, by rw [HZ.out]; rfl, by rw [HZ.out]; exact World.ownsRow_nil _ _ _ _, ?_⟩
    exact (by repeat (first | with_reducible refine below_drewN ?_ _ | with_reducible refine Below.drew ?_ | ((with_reducible refine Below.alloc ?_ ?_ _); rotate_left; focus (first | exact Nat.le_refl _ | omega | (simp; done) | (simp; omega))) | ((with_reducible refine Below.setCell ?_ ?_ _); rotate_left; focus (first | exact Nat.le_refl _ | omega | (simp; done) | (simp; omega))) | with_reducible exact Below.refl _ _ | with_reducible assumption))
  · have hnz : ((n : Int) == 0) = false := by simp; omega
    have hrp2 := HRP.out
    rw [if_neg h0] at hrp2
    have HRQ := Lib.hid hrp2
    clear hrp2 HRP
    go_wp2_with fail
    rw [HX.out]
    go_loopw [7] (fun s7 wr => ∃ (ps : List (List UInt8 × List UInt8)) (i : Nat) (A : Option Addr) (c : Nat), s7 = .int .i64 (i : Int) ∧ 1 + n ≤ i ∧ i ≤ s.size ∧ ps.length + (s.size - i) ≤ s.size ∧ Hid ((attrsAll q).1 = ps ++ (attrsAll (L.drop i)).1 ∧ (attrsAll q).2 = (attrsAll (L.drop i)).2) ∧
        wr.heap[w.heap.size]? = some (.cells #[.string ⟨#[]⟩, .bool false, .bool false, .slice none 0 0] 28 (0, 0)) ∧
        wr.heap[w.heap.size + 1]? = some (.cells #[.string ⟨nm.toArray⟩, .bool false, .bool false, .slice A ps.length c] 28 (0, 0)) ∧
        wr.ownsRow (w.heap.size + 2) 71 2 (.slice A ps.length c) ps.length (pairCells ps) ∧ Below w.heap.size w wr ∧ w.heap.size + 2 ≤ wr.heap.size)
      (fun s7 _ => s.size - (intOf s7).toNat)
    case atStart =>
      refine ⟨[], 1 + n, none, 0, by go_num, Nat.le_refl _, by omega, by simp, ?_, (Below.heap_alloc _ _ _ (by simp)).trans (heap_alloc_new w _), heap_new_at _ (by simp), World.ownsRow_nil _ _ _ _, (by repeat (first | with_reducible refine below_drewN ?_ _ | with_reducible refine Below.drew ?_ | ((with_reducible refine Below.alloc ?_ ?_ _); rotate_left; focus (first | exact Nat.le_refl _ | omega | (simp; done) | (simp; omega))) | ((with_reducible refine Below.setCell ?_ ?_ _); rotate_left; focus (first | exact Nat.le_refl _ | omega | (simp; done) | (simp; omega))) | with_reducible exact Below.refl _ _ | with_reducible assumption)), by simp⟩
      show _ ∧ _
      rw [HQ.out]; exact ⟨rfl, rfl⟩
    case round =>
      obtain ⟨ps, i, A, c, rfl, hi1, hi2, hps, hat, hz, hb, hown, hB, hsz2⟩ := hrel
      have c0 := fun j => Lib.cell_of_heap hb j
      have bi0 : (0 : Int) ≤ (i : Int) := by omega
      have bi1 : (i : Int) ≤ (s.size : Int) := by omega
      rcases ha : attrP (L.drop i) with _ | ⟨nme, v, r'⟩
      · have hv : rattrV (L.drop i) = .tuple #[.agg #[.string ⟨#[]⟩, .string ⟨#[]⟩], .int .i64 0] := by simp [rattrV, ha]
        obtain ⟨e1, e2⟩ := hat
        rw [attrsAll_none ha] at e1 e2
        have H1 := Lib.hid e1
        have H2 := Lib.hid e2
        have HV := Lib.hid hv
        clear e1 e2 hv ha
        go_wp2_with fail
        refine (rattr_any _ _ (by rw [Lib.size_eq, HEI.out, List.length_drop, HLS.out]; omega)).mono ?_
        rw [HEI.out, HV.out]
        rintro e w2 ⟨rfl, hb2⟩
        have hsz3 : w.heap.size + 2 ≤ w2.heap.size := Nat.le_trans hsz2 hb2.size
        have hz2 := (hb2.block w.heap.size (by omega)).trans hz
        have hbb2 := (hb2.block (w.heap.size + 1) (by omega)).trans hb
        have hown2 := own_keep hown hb2
        have hB2 : Below w.heap.size w w2 := hB.trans (hb2.mono (by omega))
        clear hb2 hz hb hown hB hsz2 c0
        obtain ⟨c0, c1, c2, c3, f0, f1, f2, f3⟩ := blk4 hz2
        obtain ⟨d0, d1, d2, d3, g0, g1, g2, g3⟩ := blk4 hbb2
        have l0 : w.heap.size < w2.heap.size := by omega
        have l1 : w.heap.size + 1 < w2.heap.size := by omega
        have hfin : L.length - (attrsAll q).2.length = i := by rw [H2.out, List.length_drop, HLS.out]; omega
        have hpsq : (attrsAll q).1 = ps := by rw [H1.out, List.append_nil]
        have hrq := HRQ.out
        rw [hfin, hpsq, H2.out] at hrq
        clear hfin hpsq
        go_wp2_with fail
        refine (begins_any _ _ _).mono ?_
        rw [HEI.out, show (⟨#[62]⟩ : ByteArray).data.toList = [62] from rfl]
        rcases hp : Lib.hasPrefix (L.drop i) [62] with _ | _
        · rw [hp] at hrq
          rintro e w' ⟨rfl, rfl⟩
          clear hp
          go_wp2_with fail
          refine (begins_any _ _ _).mono ?_
          rw [HEI.out, show (⟨#[32, 47, 62]⟩ : ByteArray).data.toList = [32, 47, 62] from rfl]
          rcases hp2 : Lib.hasPrefix (L.drop i) [32, 47, 62] with _ | _
          · rw [hp2] at hrq
            have HF : Hid (readP L = (zeroTag, 0)) := hrq
            rintro e w' ⟨rfl, rfl⟩
            clear hp2 hrq
            go_wp2
            refine bodyPost_ret (v := .tuple #[.agg #[.string ⟨#[]⟩, .bool false, .bool false, .slice none 0 0], .int .i64 0]) (by simp [results, Try.results15, go_sem, c0, c1, c2, c3, l0]) rfl ⟨.slice none 0 0, by rw [HF.out]; rfl, by rw [HF.out]; exact World.ownsRow_nil _ _ _ _, ?_⟩
            exact (by repeat (first | with_reducible refine below_drewN ?_ _ | with_reducible refine Below.drew ?_ | ((with_reducible refine Below.alloc ?_ ?_ _); rotate_left; focus (first | exact Nat.le_refl _ | omega | (simp; done) | (simp; omega))) | ((with_reducible refine Below.setCell ?_ ?_ _); rotate_left; focus (first | exact Nat.le_refl _ | omega | (simp; done) | (simp; omega))) | with_reducible exact Below.refl _ _ | with_reducible assumption))
          · rw [hp2] at hrq
            have HF : Hid (readP L = (⟨nm, false, true, ps⟩, i + 3)) := hrq
            rintro e w' ⟨rfl, rfl⟩
            clear hp2 hrq
            go_wp2
            refine bodyPost_ret (v := .tuple #[.agg #[.string ⟨nm.toArray⟩, .bool false, .bool true, .slice A ps.length c], .int .i64 ((i : Int) + 3)]) (by simp [results, Try.results15, go_sem, c0, c1, c2, c3, l0]) rfl ⟨.slice A ps.length c, by rw [HF.out]; rfl, ?_, ?_⟩
            · rw [HF.out]
              show World.ownsRow _ _ _ _ _ ps.length (pairCells ps)
              exact (by (refine own_base_le (b := w.heap.size + 2) ?_ (by omega)); repeat (first | with_reducible exact hown2 | with_reducible refine World.ownsRow.alloc ?_ _ | ((with_reducible refine ownsRow_setCell_below ?_ ?_ _); rotate_left; focus (first | omega | (simp; done) | (simp; omega)))))
            · exact (by repeat (first | with_reducible refine below_drewN ?_ _ | with_reducible refine Below.drew ?_ | ((with_reducible refine Below.alloc ?_ ?_ _); rotate_left; focus (first | exact Nat.le_refl _ | omega | (simp; done) | (simp; omega))) | ((with_reducible refine Below.setCell ?_ ?_ _); rotate_left; focus (first | exact Nat.le_refl _ | omega | (simp; done) | (simp; omega))) | with_reducible exact Below.refl _ _ | with_reducible assumption))
        · rw [hp] at hrq
          have HF : Hid (readP L = (⟨nm, false, false, ps⟩, i + 1)) := hrq
          rintro e w' ⟨rfl, rfl⟩
          clear hp hrq
          go_wp2
          refine bodyPost_ret (v := .tuple #[.agg #[.string ⟨nm.toArray⟩, .bool false, .bool false, .slice A ps.length c], .int .i64 ((i : Int) + 1)]) (by simp [results, Try.results15, go_sem, c0, c1, c2, c3, l0]) rfl ⟨.slice A ps.length c, by rw [HF.out]; rfl, ?_, ?_⟩
          · rw [HF.out]
            show World.ownsRow _ _ _ _ _ ps.length (pairCells ps)
            exact (by (refine own_base_le (b := w.heap.size + 2) ?_ (by omega)); repeat (first | with_reducible exact hown2 | with_reducible refine World.ownsRow.alloc ?_ _ | ((with_reducible refine ownsRow_setCell_below ?_ ?_ _); rotate_left; focus (first | omega | (simp; done) | (simp; omega)))))
          · exact (by repeat (first | with_reducible refine below_drewN ?_ _ | with_reducible refine Below.drew ?_ | ((with_reducible refine Below.alloc ?_ ?_ _); rotate_left; focus (first | exact Nat.le_refl _ | omega | (simp; done) | (simp; omega))) | ((with_reducible refine Below.setCell ?_ ?_ _); rotate_left; focus (first | exact Nat.le_refl _ | omega | (simp; done) | (simp; omega))) | with_reducible exact Below.refl _ _ | with_reducible assumption))
      · obtain ⟨k, hk⟩ : ∃ k, (L.drop i).length - r'.length = k := ⟨_, rfl⟩
        have hv : rattrV (L.drop i) = .tuple #[.agg #[.string ⟨nme.toArray⟩, .string ⟨v.toArray⟩], .int .i64 (k : Int)] := by simp only [rattrV, ha, ← hk]
        have hlt := attrP_lt ha
        have hdr := attrP_drop ha
        rw [hk, List.drop_drop] at hdr
        rw [List.length_drop, HLS.out] at hk hlt
        obtain ⟨e1, e2⟩ := hat
        rw [attrsAll_some ha] at e1 e2
        have H12 := Lib.hid (And.intro e1 e2)
        have HV := Lib.hid hv
        have HD := Lib.hid hdr
        have hk0 : 0 < k := by omega
        have hk1 : i + k ≤ s.size := by omega
        have hkz : ((k : Int) == 0) = false := by simp; omega
        clear e1 e2 hv ha hdr hk hlt
        go_wp2_with fail
        refine (rattr_any _ _ (by rw [Lib.size_eq, HEI.out, List.length_drop, HLS.out]; omega)).mono ?_
        rw [HEI.out, HV.out]
        rintro e w2 ⟨rfl, hb2⟩
        have hsz3 : w.heap.size + 2 ≤ w2.heap.size := Nat.le_trans hsz2 hb2.size
        have hz2 := (hb2.block w.heap.size (by omega)).trans hz
        have hbb2 := (hb2.block (w.heap.size + 1) (by omega)).trans hb
        have hown2 := own_keep hown hb2
        have hB2 : Below w.heap.size w w2 := hB.trans (hb2.mono (by omega))
        clear hb2 hz hb hown hB hsz2 c0 HV
        obtain ⟨d0, d1, d2, d3, g0, g1, g2, g3⟩ := blk4 hbb2
        have l0 : w.heap.size < w2.heap.size := by omega
        have l1 : w.heap.size + 1 < w2.heap.size := by omega
        have hb16 : (ps.length + 1) * 32 ≤ 140737488355328 := by omega
        go_wp2_with (at_builtin; refine wpList_append_own _ rfl _ _ 23 rfl (w.heap.size + 2) 71 i0 _ 2 32 Try.underlying23 hi0 iz isz iby rfl (by decide) _ _ _ rfl ((hown2.alloc _).alloc _) ⟨w2.heap.size + 1, 0, none⟩ 1 1 [.string ⟨nme.toArray⟩, .string ⟨v.toArray⟩] rfl rfl ?c1 ?c2 ?c3 ?c4 ?c5 ?_)
        case c1 =>
          intro j u hj
          match j, hj with
          | 0, hj => simp at hj; subst hj; simp [go_sem]
          | 1, hj => simp at hj; subst hj; simp [go_sem]
        case c2 => intro u hu; simp at hu; rcases hu with rfl | rfl <;> rfl
        case c3 => simp only [maxLen]; omega
        case c4 => exact hb16
        case c5 => simp; omega
        intro v' w1 hown1 hgrow _
        obtain ⟨g', c', rfl, hg'⟩ : ∃ g' c', v' = .slice (some ⟨g', 0, none⟩) (ps.length + 1) c' ∧ w.heap.size + 2 ≤ g' := by
          rcases hown1.2 with ⟨_, h0⟩ | ⟨g', c', _, h1, h2, _⟩
          · omega
          · exact ⟨g', c', h1, h2⟩
        have hne : ∀ k, k < w.heap.size + 2 → some k ≠ (Value.slice A ps.length c).ownBlock := fun k hk e => by have := (hown2.lt k e.symm).1; omega
        have hz1 := (hgrow.block w.heap.size (by simp; omega) (hne _ (by omega))).trans ((Below.heap_alloc _ _ _ (by simp; omega)).trans ((Below.heap_alloc _ _ _ (by omega)).trans hz2))
        have hb1 := (hgrow.block (w.heap.size + 1) (by simp; omega) (hne _ (by omega))).trans ((Below.heap_alloc _ _ _ (by simp; omega)).trans ((Below.heap_alloc _ _ _ (by omega)).trans hbb2))
        have hsz1 : w.heap.size + 2 ≤ w1.heap.size := by have := hgrow.size; simp at this; omega
        have hB1 : Below w.heap.size w w1 := Below.grown (w := (w2.alloc (Obj.cells #[Value.string { data := nme.toArray }, Value.string { data := v.toArray }] 71)).alloc (Obj.cells #[Value.string { data := nme.toArray }, Value.string { data := v.toArray }] 71)) (by repeat (first | with_reducible refine below_drewN ?_ _ | with_reducible refine Below.drew ?_ | ((with_reducible refine Below.alloc ?_ ?_ _); rotate_left; focus (first | exact Nat.le_refl _ | omega | (simp; done) | (simp; omega))) | ((with_reducible refine Below.setCell ?_ ?_ _); rotate_left; focus (first | exact Nat.le_refl _ | omega | (simp; done) | (simp; omega))) | with_reducible exact Below.refl _ _ | with_reducible assumption)) hgrow (by simp; omega) (fun k hk => by have := (hown2.lt k hk).1; omega)
        clear hgrow hown2 hz2 hbb2 hB2 d0 d1 d2 d3 g0 g1 g2 g3 l0 l1
        obtain ⟨d0, d1, d2, d3, g0, g1, g2, g3⟩ := blk4 hb1
        go_wp2
        go_roundw
        case rel =>
          refine ⟨ps ++ [(nme, v)], i + k, some ⟨g', 0, none⟩, c', by go_num, by omega, by omega, by simp; omega, ?_, ?_, ?_, ?_, (by repeat (first | with_reducible refine below_drewN ?_ _ | with_reducible refine Below.drew ?_ | ((with_reducible refine Below.alloc ?_ ?_ _); rotate_left; focus (first | exact Nat.le_refl _ | omega | (simp; done) | (simp; omega))) | ((with_reducible refine Below.setCell ?_ ?_ _); rotate_left; focus (first | exact Nat.le_refl _ | omega | (simp; done) | (simp; omega))) | with_reducible exact Below.refl _ _ | with_reducible assumption)), by simpa using hsz1⟩
          · show _ ∧ _
            rw [List.append_assoc, HD.out]; exact H12.out
          · exact (Below.heap_setCell _ _ _ _ (by simp)).trans hz1
          · rw [List.length_append]; exact blk_set3 hb1 _
          · rw [List.length_append, pairCells_append]; exact ownsRow_setCell_below hown1 (by simp) _
        case measure => simp [intOf]; omega

theorem rread_any (s : ByteArray) (w : World) (hs : s.size ≤ 1073741824) :
    Calls Try.prog 15 #[.string s] w fun e w' => ∃ av, e = .returned (.tuple #[tagV (readP s.data.toList).1 av, .int .i64 ((readP s.data.toList).2 : Nat)]) ∧
      w'.ownsRow w.heap.size 71 2 av (readP s.data.toList).1.attrs.length (pairCells (readP s.data.toList).1.attrs) ∧ Below w.heap.size w w' := by
  cases h2 : Lib.hasPrefix s.data.toList [60, 47]
  · cases h : Lib.hasPrefix s.data.toList [60]
    · rw [readP_no h]
      refine (rread_no s w h).mono ?_
      rintro e w' ⟨rfl, hb⟩
      exact ⟨.slice none 0 0, rfl, World.ownsRow_nil _ _ _ _, hb⟩
    · exact rread_begin s w hs h h2
  · exact rread_end s w hs h2
end Go.Proofs.Ytmlkmhonpmnenaa
