import Derived.Test.YtmlkmhonpmnenaaTagsV
namespace Go.Proofs.Ytmlkmhonpmnenaa
open Go.RowKit

theorem rread_T (s : ByteArray) (w : World) (hs : s.size ≤ 1073741824) (T : TagP) (n : Nat) (hr : readP s.data.toList = (T, n)) :
    Calls Try.prog 15 #[.string s] w fun e w' => ∃ A c, e = .returned (.tuple #[.agg #[.string ⟨T.name.toArray⟩, .bool T.ends, .bool T.void, .slice A T.attrs.length c], .int .i64 (n : Int)]) ∧
      w'.ownsRow w.heap.size 71 2 (.slice A T.attrs.length c) T.attrs.length (pairCells T.attrs) ∧ Below w.heap.size w w' := by
  have h := rread_any s w hs
  rw [hr] at h
  refine h.mono ?_
  rintro e w' ⟨av, rfl, hown, hb⟩
  obtain ⟨A, c, rfl⟩ := own_sl hown
  exact ⟨A, c, rfl, hown, hb⟩
theorem textT_byte (b : UInt8) (ts : List Tok) : textT (.inr b :: ts) = b :: textT ts := rfl
theorem textT_tag (T : TagP) (ts : List Tok) : textT (.inl T :: ts) = textT ts := rfl

set_option maxRecDepth 100000 in
set_option maxHeartbeats 4000000 in
theorem rtext_any (s : ByteArray) (w : World) (hs : s.size ≤ 1073741824) :
    Calls Try.prog 24 #[.string s] w fun e w' => e = .returned (.string ⟨(textT (toks s.data.toList)).toArray⟩) ∧ Below w.heap.size w w' := by
  obtain ⟨L, hL⟩ : ∃ L, textT (toks s.data.toList) = L := ⟨_, rfl⟩
  rw [hL]
  have HL := Lib.hid hL
  clear hL
  go_enter Try.func24, Try.ntmps24
  go_wp2_with fail
  go_loopw [0, 3] (fun s0 s3 wr => ∃ sr out : ByteArray, s0 = .string sr ∧ s3 = .string out ∧ out.size + sr.size ≤ s.size ∧ Hid (L = out.data.toList ++ textT (toks sr.data.toList)) ∧ Below w.heap.size w wr) (fun s0 _ _ => match s0 with | .string s => s.size | _ => 0)
  case atStart => exact ⟨s, ⟨#[]⟩, rfl, rfl, by show 0 + s.size ≤ s.size; omega, by show _ = _; rw [HL.out]; rfl, Below.refl _ _⟩
  case round =>
    obtain ⟨sr, out, rfl, rfl, hsz, hat, hB⟩ := hrel
    by_cases he : sr.size = 0
    · have hz : sr.toList.isEmpty = true := by
        rw [Lib.toList_data, List.isEmpty_iff_length_eq_zero, ← Lib.size_eq]; exact he
      have hd : sr.data.toList = [] := by
        apply List.eq_nil_of_length_eq_zero
        rw [← Lib.size_eq]; exact he
      have hout : out = ⟨L.toArray⟩ := by
        have h1 := hat.out
        rw [hd, toks_nil] at h1
        rw [h1]
        simp [textT]
      have HO := Lib.hid hout
      clear hat hd hout he
      go_wp2
      go_ret
      exact ⟨by rw [HO.out]; rfl, hB⟩
    · have hz : sr.toList.isEmpty = false := by
        rw [Lib.toList_data]
        rcases hq : sr.data.toList with _ | ⟨b, r⟩
        · have : sr.size = 0 := by rw [Lib.size_eq, hq]; rfl
          exact absurd this he
        · rfl
      obtain ⟨b, r, hbr⟩ : ∃ b r, sr.data.toList = b :: r := by
        rcases hq : sr.data.toList with _ | ⟨b, r⟩
        · have : sr.size = 0 := by rw [Lib.size_eq, hq]; rfl
          exact absurd this he
        · exact ⟨b, r, rfl⟩
      obtain ⟨T, n, hr⟩ : ∃ T n, readP sr.data.toList = (T, n) := ⟨_, _, rfl⟩
      have hnl := readP_le sr.data.toList
      rw [hr, ← Lib.size_eq] at hnl
      have hsz1 : (1 : Int) ≤ (sr.size : Int) := by omega
      have hszn : (n : Int) ≤ (sr.size : Int) := by simpa using hnl
      have HR := Lib.hid (rread_T sr wr (by omega) T n hr)
      by_cases hn : n = 0
      · have hd : (sr.extract 1 sr.size).data.toList = r := by rw [Lib.extract_data, hbr, List.take_of_length_le (by rw [Lib.size_eq, hbr]; simp)]; rfl
        have ho : (out ++ sr.extract 0 1).data.toList = out.data.toList ++ [b] := by
          rw [ByteArray.data_append, Array.toList_append, Lib.extract_data, hbr]; rfl
        have h1 := hat.out
        rw [hbr, toks_byte (by rw [← hbr, hr]; exact hn), textT_byte] at h1
        have H1 := Lib.hid h1
        have HD := Lib.hid hd
        have HO := Lib.hid ho
        subst hn
        clear hd ho h1 hat hbr hr
        go_wp2_with fail
        refine HR.out.mono ?_
        rintro e w2 ⟨A, c, rfl, hown, hb⟩
        have hB2 : Below w.heap.size w w2 := hB.trans (hb.mono hB.size)
        have hsB := hB2.size
        clear hb hown HR
        go_wp2
        go_roundw
        case rel =>
          refine ⟨_, _, rfl, rfl, ?_, ?_, (by repeat (first | with_reducible refine below_drewN ?_ _ | with_reducible refine Below.drew ?_ | ((with_reducible refine Below.alloc ?_ ?_ _); rotate_left; focus (first | exact Nat.le_refl _ | omega | (simp; done) | (simp; omega))) | ((with_reducible refine Below.setCell ?_ ?_ _); rotate_left; focus (first | exact Nat.le_refl _ | omega | (simp; done) | (simp; omega))) | with_reducible exact Below.refl _ _ | with_reducible assumption))⟩
          · simp; omega
          · show _ = _
            rw [HD.out, HO.out, H1.out]; simp
        case measure => simp; omega
      · have hd : (sr.extract n sr.size).data.toList = sr.data.toList.drop n := by rw [Lib.extract_data, List.take_of_length_le (by rw [Lib.size_eq]; simp)]
        have h1 := hat.out
        rw [toks_tag (by rw [hbr]; simp) (by rw [hr]; exact hn), textT_tag, hr] at h1
        have H1 := Lib.hid h1
        have HD := Lib.hid hd
        have hnz : ((n : Int) == 0) = false := by simp; omega
        have hn0 : (0 : Int) ≤ (n : Int) := by omega
        have hn1 : 0 < n := by omega
        clear hd h1 hat hbr hr
        go_wp2_with fail
        refine HR.out.mono ?_
        rintro e w2 ⟨A, c, rfl, hown, hb⟩
        have hB2 : Below w.heap.size w w2 := hB.trans (hb.mono hB.size)
        have hsB := hB2.size
        clear hb hown HR
        go_wp2
        go_roundw
        case rel =>
          refine ⟨_, _, rfl, rfl, ?_, ?_, (by repeat (first | with_reducible refine below_drewN ?_ _ | with_reducible refine Below.drew ?_ | ((with_reducible refine Below.alloc ?_ ?_ _); rotate_left; focus (first | exact Nat.le_refl _ | omega | (simp; done) | (simp; omega))) | ((with_reducible refine Below.setCell ?_ ?_ _); rotate_left; focus (first | exact Nat.le_refl _ | omega | (simp; done) | (simp; omega))) | with_reducible exact Below.refl _ _ | with_reducible assumption))⟩
          · simp; omega
          · show _ = _
            rw [HD.out, H1.out]
        case measure => simp; omega
end Go.Proofs.Ytmlkmhonpmnenaa
