import Derived.Test.YtmlkmhonpmnenaaTagsW
import Derived.Test.YtmlkmhonpmnenaaTagsK
namespace Go.Proofs.Ytmlkmhonpmnenaa
open Go.RowKit

theorem region_still {P : Program} {id : Nat} {Q : Exit → Act → World → Prop} {a : Act} {w : World} {l : List Oper} (hm : P.follows .mixedOrders = true) (hB : Region.lexB .any l.toArray = true)
    (h : wpStill P l.toArray w.drew (fun a' => Q .normal a' w.drew) l a) : (Code.region id l.toArray true).wp P Q a w := wp_region_still_lit hm hB h
theorem ba_split {s : ByteArray} (h : s.size ≠ 0) : ∃ b r, s.data.toList = b :: r ∧ s.toList.isEmpty = false ∧ (∀ h0 : 0 < s.size, s[0]'h0 = b) ∧ (s.extract 1 s.size).data.toList = r := by
  rcases hq : s.data.toList with _ | ⟨b, r⟩
  · exact absurd (by rw [Lib.size_eq, hq]; rfl) h
  · refine ⟨b, r, rfl, by rw [Lib.toList_data, hq]; rfl, fun h0 => ?_, by rw [Lib.extract_data, hq, List.take_of_length_le (by rw [Lib.size_eq, hq]; simp)]; rfl⟩
    have h1 := Lib.data_getElem? s 0 h0
    rw [hq] at h1
    simpa using h1.symm
theorem ba_empty {s : ByteArray} (h : s.size = 0) : s.data.toList = [] ∧ s.toList.isEmpty = true := by
  have hd : s.data.toList = [] := by
    apply List.eq_nil_of_length_eq_zero
    rw [← Lib.size_eq]; exact h
  exact ⟨hd, by rw [Lib.toList_data, hd]; rfl⟩
theorem ba_drop (s : ByteArray) (n : Nat) : (s.extract n s.size).data.toList = s.data.toList.drop n := by rw [Lib.extract_data, List.take_of_length_le (by rw [Lib.size_eq]; simp)]

set_option maxRecDepth 100000 in
set_option maxHeartbeats 4000000 in
theorem rcheck_any (s : ByteArray) (w : World) (hs : s.size ≤ 1073741824) :
    Calls Try.prog 19 #[.string s] w fun e w' => e = .returned (.bool (checkT (toks s.data.toList) [])) ∧ Below w.heap.size w w' := by
  obtain ⟨i0, hi0, iz, isz, iby⟩ := info_parts info_str
  obtain ⟨L, hL⟩ : ∃ L, checkT (toks s.data.toList) [] = L := ⟨_, rfl⟩
  rw [hL]
  have HL := Lib.hid hL
  clear hL
  go_enter Try.func19, Try.ntmps19
  go_wp2_with fail
  go_loopw [0, 3] (fun s0 s3 wr => ∃ (sr : ByteArray) (st : List (List UInt8)) (A : Option Addr) (c : Nat), s0 = .string sr ∧ s3 = .slice A st.length c ∧ st.length + sr.size ≤ s.size ∧ Hid (checkT (toks sr.data.toList) st = L) ∧
      wr.ownsRow w.heap.size 9 1 (.slice A st.length c) st.length (strCells st.reverse) ∧ Below w.heap.size w wr) (fun s0 _ _ => match s0 with | .string s => s.size | _ => 0)
  case atStart => exact ⟨s, [], none, 0, rfl, rfl, by show 0 + s.size ≤ s.size; omega, HL, World.ownsRow_nil _ _ _ _, Below.refl _ _⟩
  case round =>
    obtain ⟨sr, st, A, c, rfl, rfl, hsz, hat, hrow, hB⟩ := hrel
    by_cases he : sr.size = 0
    · obtain ⟨hd, hz⟩ := ba_empty he
      have hout : ((st.length : Int) == 0) = L := by
        rw [← hat.out, hd, toks_nil]
        cases st with
        | nil => rfl
        | cons x st => simp [checkT]; omega
      have HO := Lib.hid hout
      clear hat hd hout he
      go_wp2
      go_ret
      exact ⟨by rw [HO.out]; rfl, hB⟩
    · obtain ⟨b, r, hbr, hz, hget, hd1⟩ := ba_split he
      obtain ⟨⟨nm, en, vd, ps⟩, n, hr⟩ : ∃ T n, readP sr.data.toList = (T, n) := ⟨_, _, rfl⟩
      have hnl := readP_le sr.data.toList
      rw [hr, ← Lib.size_eq] at hnl
      have hsz0 : 0 < sr.size := by omega
      have hb0 := hget hsz0
      have hsz0' : (0 : Int) < (sr.size : Int) := by omega
      have hsz1 : (1 : Int) ≤ (sr.size : Int) := by omega
      have hszn : (n : Int) ≤ (sr.size : Int) := by simpa using hnl
      have HR := Lib.hid (rread_T sr wr (by omega) _ n hr)
      have hwl := hB.size
      by_cases hn : n = 0
      · have h1 := hat.out
        rw [hbr, toks_byte (by rw [← hbr, hr]; exact hn)] at h1
        simp only [checkT] at h1
        subst hn
        have q60 := eqB 60 b
        have q62 := eqB 62 b
        simp only [show ((60 : UInt8).toNat : Int) = 60 from rfl, show ((62 : UInt8).toNat : Int) = 62 from rfl] at q60 q62
        have HD := Lib.hid hd1
        cases e60 : b == 60
        · cases e62 : b == 62
          · rw [e60] at q60
            rw [e62] at q62
            have h2 : checkT (toks r) st = L := by
              rw [← h1, bne, bne, e60, e62]; rfl
            have H2 := Lib.hid h2
            clear h1 h2 e60 e62 hat hbr hr hd1 hget
            go_wp2_with fail
            refine HR.out.mono ?_
            rintro e w2 ⟨A2, c2, rfl, hown, hb⟩
            have hrow2 := own_keep hrow hb
            have hB2 : Below w.heap.size w w2 := hB.trans (hb.mono hB.size)
            have hsB := hB2.size
            clear hb hown HR hrow hB
            go_wp2
            go_roundw
            case rel =>
              refine ⟨_, st, A, c, rfl, rfl, ?_, ?_, (by (refine own_base_le (b := w.heap.size) ?_ (by omega)); repeat (first | with_reducible exact hrow2 | with_reducible refine World.ownsRow.alloc ?_ _ | ((with_reducible refine ownsRow_setCell_below ?_ ?_ _); rotate_left; focus (first | omega | (simp; done) | (simp; omega))))), (by repeat (first | with_reducible refine below_drewN ?_ _ | with_reducible refine Below.drew ?_ | ((with_reducible refine Below.alloc ?_ ?_ _); rotate_left; focus (first | exact Nat.le_refl _ | omega | (simp; done) | (simp; omega))) | ((with_reducible refine Below.setCell ?_ ?_ _); rotate_left; focus (first | exact Nat.le_refl _ | omega | (simp; done) | (simp; omega))) | with_reducible exact Below.refl _ _ | with_reducible assumption))⟩
              · simp; omega
              · show _ = _
                rw [HD.out, H2.out]
            case measure => simp; omega
          · rw [e60] at q60
            rw [e62] at q62
            have h2 : L = false := by rw [← h1, bne, bne, e60, e62]; rfl
            subst h2
            clear h1 e60 e62 hat hbr hr hd1 hget
            go_wp2_with fail
            refine HR.out.mono ?_
            rintro e w2 ⟨A2, c2, rfl, hown, hb⟩
            have hB2 : Below w.heap.size w w2 := hB.trans (hb.mono hB.size)
            have hsB := hB2.size
            clear hb hown HR hrow hB
            go_wp2
            go_ret
            exact ⟨rfl, (by repeat (first | with_reducible refine below_drewN ?_ _ | with_reducible refine Below.drew ?_ | ((with_reducible refine Below.alloc ?_ ?_ _); rotate_left; focus (first | exact Nat.le_refl _ | omega | (simp; done) | (simp; omega))) | ((with_reducible refine Below.setCell ?_ ?_ _); rotate_left; focus (first | exact Nat.le_refl _ | omega | (simp; done) | (simp; omega))) | with_reducible exact Below.refl _ _ | with_reducible assumption))⟩
        · rw [e60] at q60
          have h2 : L = false := by rw [← h1, bne, bne, e60]; rfl
          subst h2
          clear h1 e60 hat hbr hr hd1 hget q62
          go_wp2_with fail
          refine HR.out.mono ?_
          rintro e w2 ⟨A2, c2, rfl, hown, hb⟩
          have hB2 : Below w.heap.size w w2 := hB.trans (hb.mono hB.size)
          have hsB := hB2.size
          clear hb hown HR hrow hB
          go_wp2
          go_ret
          exact ⟨rfl, (by repeat (first | with_reducible refine below_drewN ?_ _ | with_reducible refine Below.drew ?_ | ((with_reducible refine Below.alloc ?_ ?_ _); rotate_left; focus (first | exact Nat.le_refl _ | omega | (simp; done) | (simp; omega))) | ((with_reducible refine Below.setCell ?_ ?_ _); rotate_left; focus (first | exact Nat.le_refl _ | omega | (simp; done) | (simp; omega))) | with_reducible exact Below.refl _ _ | with_reducible assumption))⟩
      · have h1 := hat.out
        rw [toks_tag (by rw [hbr]; simp) (by rw [hr]; exact hn), hr] at h1
        simp only [checkT] at h1
        have hdn := ba_drop sr n
        have HD := Lib.hid hdn
        have hnz : ((n : Int) == 0) = false := by simp; omega
        have hn0 : (0 : Int) ≤ (n : Int) := by omega
        have hn1 : 0 < n := by omega
        clear hdn hat hbr hr hd1 hget hb0 hnl
        cases en
        · cases vd
          · have h2 : checkT (toks (sr.data.toList.drop n)) (nm :: st) = L := h1
            have H2 := Lib.hid h2
            clear h1 h2
            go_wp2_with fail
            refine HR.out.mono ?_
            rintro e w2 ⟨A2, c2, rfl, hown, hb⟩
            have hrow2 := own_keep hrow hb
            have hB2 : Below w.heap.size w w2 := hB.trans (hb.mono hB.size)
            have hsB := hB2.size
            clear hb hown HR hrow hB
            have hlr : st.reverse.length = st.length := List.length_reverse
            have hbl : (st.length + 1) * 16 ≤ 140737488355328 := by omega
            go_wp2_with (at_builtin; refine wpList_append_own _ rfl _ _ 35 rfl w.heap.size 9 i0 _ 1 16 Try.underlying35 hi0 iz isz iby rfl (by decide) _ _ _ rfl ((hrow2.alloc _).alloc _) ⟨w2.heap.size + 1, 0, none⟩ 1 1 [.string ⟨nm.toArray⟩] rfl rfl ?c1 ?c2 ?c3 ?c4 ?c5 ?_)
            case c1 =>
              intro j u hj
              match j, hj with
              | 0, hj => simp at hj; subst hj; simp [go_sem]
            case c2 => intro u hu; simp at hu; subst hu; rfl
            case c3 => simp only [maxLen]; omega
            case c4 => exact hbl
            case c5 => simp; omega
            intro v' w1 hown1 hgrow _
            obtain ⟨g', c1', rfl, hg'⟩ := own_some hown1 (by omega)
            have hB1 : Below w.heap.size w w1 := Below.grown (w := (w2.alloc (.cells #[.string ⟨nm.toArray⟩, .bool false, .bool false, .slice A2 ps.length c2] 28)).alloc (.cells #[.string ⟨nm.toArray⟩] 9)) (by repeat (first | with_reducible refine below_drewN ?_ _ | with_reducible refine Below.drew ?_ | ((with_reducible refine Below.alloc ?_ ?_ _); rotate_left; focus (first | exact Nat.le_refl _ | omega | (simp; done) | (simp; omega))) | ((with_reducible refine Below.setCell ?_ ?_ _); rotate_left; focus (first | exact Nat.le_refl _ | omega | (simp; done) | (simp; omega))) | with_reducible exact Below.refl _ _ | with_reducible assumption)) hgrow (by simp; omega) (fun j hj => by have := (hrow2.lt j hj).1; omega)
            have hrow1 : w1.ownsRow w.heap.size 9 1 (.slice (some ⟨g', 0, none⟩) (nm :: st).length c1') (nm :: st).length (strCells (nm :: st).reverse) := by
              rw [List.reverse_cons, strCells, List.map_append]
              exact hown1
            clear hgrow hrow2 hown1
            go_wp2
            go_roundw
            case rel =>
              refine ⟨_, nm :: st, some ⟨g', 0, none⟩, c1', rfl, rfl, ?_, ?_, hrow1, (by repeat (first | with_reducible refine below_drewN ?_ _ | with_reducible refine Below.drew ?_ | ((with_reducible refine Below.alloc ?_ ?_ _); rotate_left; focus (first | exact Nat.le_refl _ | omega | (simp; done) | (simp; omega))) | ((with_reducible refine Below.setCell ?_ ?_ _); rotate_left; focus (first | exact Nat.le_refl _ | omega | (simp; done) | (simp; omega))) | with_reducible exact Below.refl _ _ | with_reducible assumption))⟩
              · simp; omega
              · show _ = _
                rw [HD.out, H2.out]
            case measure => simp; omega
          · have h2 : checkT (toks (sr.data.toList.drop n)) st = L := h1
            have H2 := Lib.hid h2
            clear h1 h2
            go_wp2_with fail
            refine HR.out.mono ?_
            rintro e w2 ⟨A2, c2, rfl, hown, hb⟩
            have hrow2 := own_keep hrow hb
            have hB2 : Below w.heap.size w w2 := hB.trans (hb.mono hB.size)
            have hsB := hB2.size
            clear hb hown HR hrow hB
            go_wp2
            go_roundw
            case rel =>
              refine ⟨_, st, A, c, rfl, rfl, ?_, ?_, (by (refine own_base_le (b := w.heap.size) ?_ (by omega)); repeat (first | with_reducible exact hrow2 | with_reducible refine World.ownsRow.alloc ?_ _ | ((with_reducible refine ownsRow_setCell_below ?_ ?_ _); rotate_left; focus (first | omega | (simp; done) | (simp; omega))))), (by repeat (first | with_reducible refine below_drewN ?_ _ | with_reducible refine Below.drew ?_ | ((with_reducible refine Below.alloc ?_ ?_ _); rotate_left; focus (first | exact Nat.le_refl _ | omega | (simp; done) | (simp; omega))) | ((with_reducible refine Below.setCell ?_ ?_ _); rotate_left; focus (first | exact Nat.le_refl _ | omega | (simp; done) | (simp; omega))) | with_reducible exact Below.refl _ _ | with_reducible assumption))⟩
              · simp; omega
              · show _ = _
                rw [HD.out, H2.out]
            case measure => simp; omega
        · rcases st with _ | ⟨x, st'⟩
          · have h2 : L = false := h1.symm
            subst h2
            clear h1
            go_wp2_with fail
            refine HR.out.mono ?_
            rintro e w2 ⟨A2, c2, rfl, hown, hb⟩
            have hB2 : Below w.heap.size w w2 := hB.trans (hb.mono hB.size)
            have hsB := hB2.size
            clear hb hown HR hrow hB
            go_wp2_with fail
            refine region_still (by kernel_rfl) (by kernel_rfl) ?_
            repeat ((with_reducible refine wpStill_step ?_); intro K hK; have HK := Lib.hid hK; clear hK; go_simp; (with_reducible refine HK.out _ ?_); clear HK K)
            (with_reducible refine wpStill_nil ?_)
            go_wp2
            go_ret
            exact ⟨rfl, (by repeat (first | with_reducible refine below_drewN ?_ _ | with_reducible refine Below.drew ?_ | ((with_reducible refine Below.alloc ?_ ?_ _); rotate_left; focus (first | exact Nat.le_refl _ | omega | (simp; done) | (simp; omega))) | ((with_reducible refine Below.setCell ?_ ?_ _); rotate_left; focus (first | exact Nat.le_refl _ | omega | (simp; done) | (simp; omega))) | with_reducible exact Below.refl _ _ | with_reducible assumption))⟩
          · cases hx : x == nm
            · have h2 : L = false := by rw [← h1]; simp [tagStep, hx]
              subst h2
              clear h1
              go_wp2_with fail
              refine HR.out.mono ?_
              rintro e w2 ⟨A2, c2, rfl, hown, hb⟩
              have hrow2 := own_keep hrow hb
              have hB2 : Below w.heap.size w w2 := hB.trans (hb.mono hB.size)
              have hsB := hB2.size
              clear hb hown HR hrow hB
              obtain ⟨g, c1, hv, hg⟩ := own_some hrow2 (by simp)
              obtain ⟨rfl, rfl⟩ : A = some ⟨g, 0, none⟩ ∧ c = c1 := by injection hv with h1 _ h2; exact ⟨h1, h2⟩
              clear hv
              have hcell : w2.cell? ⟨g, st'.length, none⟩ = some (.string ⟨x.toArray⟩) := by
                rw [hrow2.cellAt st'.length (by simp)]
                simp [strCells]
              have hgl : g < w2.heap.size := (hrow2.lt g rfl).2
              have hlen : (x :: st').length = st'.length + 1 := rfl
              have hk0 : (0 : Int) ≤ (st'.length : Int) := by omega
              have hk1 : (st'.length : Int) < (st'.length : Int) + 1 := by omega
              have hl' : st'.length < 1073741824 := by simp at hsz; omega
              have hw : IntKind.i64.wrap (st'.length : Int) = (st'.length : Int) := IntWalk.i64_in _ ⟨by omega, by omega⟩
              have hkz : ((st'.length : Int) + 1 == 0) = false := by simp; omega
              clear hlen hl'
              have hl' : st'.length < 1073741824 := by simp at hsz; omega
              go_wp2_with fail
              refine region_still (by kernel_rfl) (by kernel_rfl) ?_
              repeat ((with_reducible refine wpStill_step ?_); intro K hK; have HK := Lib.hid hK; clear hK; go_simp; (with_reducible refine HK.out _ ?_); clear HK K)
              (with_reducible refine wpStill_nil ?_)
              go_wp2
              go_ret
              exact ⟨rfl, (by repeat (first | with_reducible refine below_drewN ?_ _ | with_reducible refine Below.drew ?_ | ((with_reducible refine Below.alloc ?_ ?_ _); rotate_left; focus (first | exact Nat.le_refl _ | omega | (simp; done) | (simp; omega))) | ((with_reducible refine Below.setCell ?_ ?_ _); rotate_left; focus (first | exact Nat.le_refl _ | omega | (simp; done) | (simp; omega))) | with_reducible exact Below.refl _ _ | with_reducible assumption))⟩
            · have h2 : checkT (toks (sr.data.toList.drop n)) st' = L := by rw [← h1]; simp [tagStep, hx]
              have H2 := Lib.hid h2
              clear h1 h2
              go_wp2_with fail
              refine HR.out.mono ?_
              rintro e w2 ⟨A2, c2, rfl, hown, hb⟩
              have hrow2 := own_keep hrow hb
              have hB2 : Below w.heap.size w w2 := hB.trans (hb.mono hB.size)
              have hsB := hB2.size
              clear hb hown HR hrow hB
              obtain ⟨g, c1, hv, hg⟩ := own_some hrow2 (by simp)
              obtain ⟨rfl, rfl⟩ : A = some ⟨g, 0, none⟩ ∧ c = c1 := by injection hv with h1 _ h2; exact ⟨h1, h2⟩
              clear hv
              have hcell : w2.cell? ⟨g, st'.length, none⟩ = some (.string ⟨x.toArray⟩) := by
                rw [hrow2.cellAt st'.length (by simp)]
                simp [strCells]
              have hgl : g < w2.heap.size := (hrow2.lt g rfl).2
              have hlen : (x :: st').length = st'.length + 1 := rfl
              have hrow3 : w2.ownsRow w.heap.size 9 1 (.slice (some ⟨g, 0, none⟩) st'.length c) st'.length (strCells st'.reverse) :=
                ownsRow_pop (last := [.string ⟨x.toArray⟩]) (by simp [strCells]) (by simpa [strCells] using hrow2)
              have hcap : (st'.length : Int) ≤ (c : Int) := by
                rcases hrow2.2 with ⟨h0, _⟩ | ⟨_, c', _, h1, _, _, h3, _⟩
                · cases h0
                · injection h1 with _ _ h4; subst h4; simp at h3; omega
              have hk0 : (0 : Int) ≤ (st'.length : Int) := by omega
              have hk1 : (st'.length : Int) < (st'.length : Int) + 1 := by omega
              have hl' : st'.length < 1073741824 := by simp at hsz; omega
              have hw : IntKind.i64.wrap (st'.length : Int) = (st'.length : Int) := IntWalk.i64_in _ ⟨by omega, by omega⟩
              have hkz : ((st'.length : Int) + 1 == 0) = false := by simp; omega
              clear hlen hl'
              have hl' : st'.length < 1073741824 := by simp at hsz; omega
              go_wp2_with fail
              refine region_still (by kernel_rfl) (by kernel_rfl) ?_
              repeat ((with_reducible refine wpStill_step ?_); intro K hK; have HK := Lib.hid hK; clear hK; go_simp; (with_reducible refine HK.out _ ?_); clear HK K)
              (with_reducible refine wpStill_nil ?_)
              go_wp2
              go_roundw
              case rel =>
                refine ⟨_, st', some ⟨g, 0, none⟩, c, rfl, rfl, ?_, ?_, ?_, (by repeat (first | with_reducible refine below_drewN ?_ _ | with_reducible refine Below.drew ?_ | ((with_reducible refine Below.alloc ?_ ?_ _); rotate_left; focus (first | exact Nat.le_refl _ | omega | (simp; done) | (simp; omega))) | ((with_reducible refine Below.setCell ?_ ?_ _); rotate_left; focus (first | exact Nat.le_refl _ | omega | (simp; done) | (simp; omega))) | with_reducible exact Below.refl _ _ | with_reducible assumption))⟩
                · have hq : st'.length + 1 + sr.size ≤ s.size := hsz
                  simp; omega
                · show _ = _
                  rw [HD.out, H2.out]
                · exact World.ownsRow.drew (by (refine own_base_le (b := w.heap.size) ?_ (by omega)); repeat (first | with_reducible exact hrow3 | with_reducible refine World.ownsRow.alloc ?_ _ | ((with_reducible refine ownsRow_setCell_below ?_ ?_ _); rotate_left; focus (first | omega | (simp; done) | (simp; omega)))))
              case measure => simp; omega
end Go.Proofs.Ytmlkmhonpmnenaa
