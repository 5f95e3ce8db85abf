import Derived.Test.YtmlkmhonpmnenaaTagsT
import Derived.Test.YtmlkmhonpmnenaaTagsI
namespace Go.Proofs.Ytmlkmhonpmnenaa
open Go.RowKit

theorem hp_two (a b : UInt8) (l : List UInt8) : Lib.hasPrefix l [a, b] = (Lib.hasPrefix l [a] && Lib.hasPrefix (l.drop 1) [b]) := by
  rcases l with _ | ⟨x, _ | ⟨y, l⟩⟩
  · rfl
  · simp [Lib.hasPrefix, List.isPrefixOf]
  · simp [Lib.hasPrefix, List.isPrefixOf]
theorem take_nil_iff (l : List UInt8) (d : Bool) : (l.take (nameN d true l)).isEmpty = (nameN d true l == 0) := by
  have := nameN_le d true l
  rw [Bool.eq_iff_iff]
  simp only [List.isEmpty_iff, List.take_eq_nil_iff, beq_iff_eq]
  constructor
  · rintro (h | h)
    · exact h
    · subst h; rfl
  · exact .inl
theorem readP_no {l : List UInt8} (h : Lib.hasPrefix l [60] = false) : readP l = (zeroTag, 0) := by simp [readP, h]
theorem readP_end {l : List UInt8} (h : Lib.hasPrefix l [60, 47] = true) : readP l =
    if 0 < nameN false true (l.drop 2) ∧ Lib.hasPrefix ((l.drop 2).drop (nameN false true (l.drop 2))) [62] = true then (⟨(l.drop 2).take (nameN false true (l.drop 2)), true, false, []⟩, nameN false true (l.drop 2) + 3) else (zeroTag, 0) := by
  have hl := hasPrefix_len h
  rw [hp_two, Bool.and_eq_true] at h
  unfold readP readQ
  rw [h.1, h.2]
  simp only [if_true, List.drop_drop, Nat.reduceAdd, endP]
  rw [take_nil_iff]
  have hn := nameN_le false true (l.drop 2)
  by_cases hp : Lib.hasPrefix (List.drop (2 + nameN false true (l.drop 2)) l) [62] = true
  · rw [hp, trimPrefix_len hp]
    by_cases h0 : nameN false true (l.drop 2) = 0
    · rw [if_neg (by simp [h0]), if_neg (by omega)]
    · rw [if_pos (by simp [h0]), if_pos ⟨by omega, rfl⟩]
      have hl2 := hasPrefix_len hp
      simp at hl hl2 hn ⊢
      omega
  · have hp' : Lib.hasPrefix (List.drop (2 + nameN false true (l.drop 2)) l) [62] = false := by simpa using hp
    rw [hp', if_neg (by simp), if_neg (by simp)]
theorem gt_not_void {q : List UInt8} (h : Lib.hasPrefix q [62] = true) : Lib.hasPrefix q [32, 47, 62] = false := by
  rcases q with _ | ⟨x, q⟩
  · cases h
  · simp [Lib.hasPrefix, List.isPrefixOf] at h ⊢
    rw [← h]
    intro e; cases e
theorem readP_begin {l : List UInt8} (h : Lib.hasPrefix l [60] = true) (h2 : Lib.hasPrefix l [60, 47] = false) : readP l =
    if nameN false true (l.drop 1) = 0 then (zeroTag, 0) else
    if Lib.hasPrefix (attrsAll ((l.drop 1).drop (nameN false true (l.drop 1)))).2 [62] = true then (⟨(l.drop 1).take (nameN false true (l.drop 1)), false, false, (attrsAll ((l.drop 1).drop (nameN false true (l.drop 1)))).1⟩, l.length - (attrsAll ((l.drop 1).drop (nameN false true (l.drop 1)))).2.length + 1) else
    if Lib.hasPrefix (attrsAll ((l.drop 1).drop (nameN false true (l.drop 1)))).2 [32, 47, 62] = true then (⟨(l.drop 1).take (nameN false true (l.drop 1)), false, true, (attrsAll ((l.drop 1).drop (nameN false true (l.drop 1)))).1⟩, l.length - (attrsAll ((l.drop 1).drop (nameN false true (l.drop 1)))).2.length + 3) else (zeroTag, 0) := by
  have h47 : Lib.hasPrefix (l.drop 1) [47] = false := by rw [hp_two, h] at h2; simpa using h2
  have hl := hasPrefix_len h
  unfold readP readQ
  rw [h, h47]
  simp only [if_true, Bool.false_eq_true, if_false]
  unfold beginP beginQ
  rw [take_nil_iff]
  have hn := nameN_le false true (l.drop 1)
  have ha := attrsAll_len _ ((l.drop 1).drop (nameN false true (l.drop 1))) (Nat.le_refl _)
  generalize nameN false true (l.drop 1) = n at *
  generalize attrsAll ((l.drop 1).drop n) = a at *
  by_cases h0 : n = 0
  · rw [if_pos h0, h0]
    split <;> simp
  · rw [if_neg h0]
    have hb : (!(n == 0)) = true := by simp [h0]
    by_cases hgt : Lib.hasPrefix a.2 [62] = true
    · have hgl := hasPrefix_len hgt
      rw [if_pos hgt, gt_not_void hgt]
      simp only [Bool.false_eq_true, if_false, hgt, hb, Bool.and_self, if_true]
      rw [trimPrefix_len hgt]
      simp at ha hl hgl ⊢
      omega
    · have hgt' : Lib.hasPrefix a.2 [62] = false := by simpa using hgt
      rw [if_neg hgt]
      by_cases hv : Lib.hasPrefix a.2 [32, 47, 62] = true
      · have hgl := hasPrefix_len hv
        rw [if_pos hv, hv]
        simp only [if_true, hb]
        rw [trimPrefix_len hv]
        simp at ha hl hgl ⊢
        omega
      · have hv' : Lib.hasPrefix a.2 [32, 47, 62] = false := by simpa using hv
        rw [if_neg hv, hv']
        simp [hgt']

set_option maxRecDepth 100000 in
set_option maxHeartbeats 4000000 in
theorem rread_end (s : ByteArray) (w : World) (hs : s.size ≤ 1073741824) (h : Lib.hasPrefix s.data.toList [60, 47] = true) :
    Calls Try.prog 15 #[.string s] w fun e w' => ∃ av, e = .returned (.tuple #[tagV (readP s.data.toList).1 av, .int .i64 ((readP s.data.toList).2 : Nat)]) ∧
      w'.ownsRow w.heap.size 71 2 av (readP s.data.toList).1.attrs.length (pairCells (readP s.data.toList).1.attrs) ∧ Below w.heap.size w w' := by
  obtain ⟨L, hL⟩ : ∃ L, s.data.toList = L := ⟨_, rfl⟩
  have hLs : L.length = s.size := by rw [← hL, Lib.size_eq]
  rw [hL] at h ⊢
  have hl2 := hasPrefix_len h
  have hrp := readP_end h
  obtain ⟨n, hn⟩ : ∃ n, nameN false true (L.drop 2) = n := ⟨_, rfl⟩
  have hnl := nameN_le false true (L.drop 2)
  rw [hn] at hrp hnl
  have hext : (s.extract 2 s.size).data.toList = L.drop 2 := by rw [Lib.extract_data, hL, List.take_of_length_le (by simp; omega)]
  have hext2 : (s.extract (2 + n) s.size).data.toList = (L.drop 2).drop n := by rw [Lib.extract_data, hL, List.take_of_length_le (by simp; omega), List.drop_drop]
  have hx : s.extract 2 (2 + n) = ⟨((L.drop 2).take n).toArray⟩ := by rw [Lib.extract_eq, hL, show 2 + n - 2 = n by omega]
  simp at hl2 hnl
  have b2 : (2 : Int) ≤ (s.size : Int) := by omega
  have b3 : (2 : Int) + (n : Int) ≤ (s.size : Int) := by omega
  have b4 : (0 : Int) ≤ 2 + (n : Int) := by omega
  have b5 : (2 : Int) ≤ 2 + (n : Int) := by omega
  have HL := Lib.hid hL
  have HLS := Lib.hid hLs
  have HP := Lib.hid h
  have HRP := Lib.hid hrp
  have HN := Lib.hid hn
  have HE := Lib.hid hext
  have HE2 := Lib.hid hext2
  have HX := Lib.hid hx
  clear hL hLs h hrp hn hext hext2 hx
  go_enter Try.func15, Try.ntmps15
  go_wp2_with fail
  refine (begins_any _ _ _).mono ?_
  rw [HL.out, show (⟨#[60, 47]⟩ : ByteArray).data.toList = [60, 47] from rfl, HP.out]
  rintro e w' ⟨rfl, rfl⟩
  go_wp2_with fail
  refine (rname_any false _ _ (by rw [Lib.size_eq, HE.out, List.length_drop, HLS.out]; omega)).mono ?_
  rw [HE.out, HN.out]
  rintro e w' ⟨rfl, rfl⟩
  by_cases h0 : n = 0
  · have hz : readP L = (zeroTag, 0) := by rw [HRP.out, if_neg (by omega)]
    have HZ := Lib.hid hz
    clear hz
    subst h0
    go_wp2
    refine bodyPost_ret (v := .tuple #[.agg #[.string ⟨#[]⟩, .bool false, .bool false, .slice none 0 0], .int .i64 0]) (by simp [results, Try.results15, go_sem]) rfl ⟨.slice none 0 0, by rw [HZ.out]; rfl, by rw [HZ.out]; exact World.ownsRow_nil _ _ _ _, ?_⟩
    exact (by repeat (first | with_reducible refine below_drewN ?_ _ | with_reducible refine Below.drew ?_ | ((with_reducible refine Below.alloc ?_ ?_ _); rotate_left; focus (first | exact Nat.le_refl _ | omega | (simp; done) | (simp; omega))) | ((with_reducible refine Below.setCell ?_ ?_ _); rotate_left; focus (first | exact Nat.le_refl _ | omega | (simp; done) | (simp; omega))) | with_reducible exact Below.refl _ _ | with_reducible assumption))
  · have hnz : ((n : Int) == 0) = false := by simp; omega
    go_wp2_with fail
    refine (begins_any _ _ _).mono ?_
    rw [HE2.out, show (⟨#[62]⟩ : ByteArray).data.toList = [62] from rfl]
    rcases hg : Lib.hasPrefix ((L.drop 2).drop n) [62] with _ | _
    · have hz : readP L = (zeroTag, 0) := by rw [HRP.out, if_neg (by rw [hg]; simp)]
      have HZ := Lib.hid hz
      clear hz hg
      rintro e w' ⟨rfl, rfl⟩
      go_wp2
      refine bodyPost_ret (v := .tuple #[.agg #[.string ⟨#[]⟩, .bool false, .bool false, .slice none 0 0], .int .i64 0]) (by simp [results, Try.results15, go_sem]) rfl ⟨.slice none 0 0, by rw [HZ.out]; rfl, by rw [HZ.out]; exact World.ownsRow_nil _ _ _ _, ?_⟩
      exact (by repeat (first | with_reducible refine below_drewN ?_ _ | with_reducible refine Below.drew ?_ | ((with_reducible refine Below.alloc ?_ ?_ _); rotate_left; focus (first | exact Nat.le_refl _ | omega | (simp; done) | (simp; omega))) | ((with_reducible refine Below.setCell ?_ ?_ _); rotate_left; focus (first | exact Nat.le_refl _ | omega | (simp; done) | (simp; omega))) | with_reducible exact Below.refl _ _ | with_reducible assumption))
    · have hz : readP L = (⟨(L.drop 2).take n, true, false, []⟩, n + 3) := by rw [HRP.out, if_pos ⟨by omega, hg⟩]
      have HZ := Lib.hid hz
      clear hz hg
      rintro e w' ⟨rfl, rfl⟩
      go_wp2
      refine bodyPost_ret (v := .tuple #[.agg #[.string (s.extract 2 (2 + n)), .bool true, .bool false, .slice none 0 0], .int .i64 ((n : Int) + 3)]) (by simp [results, Try.results15, go_sem]) rfl ⟨.slice none 0 0, by rw [HZ.out, HX.out]; rfl, by rw [HZ.out]; exact World.ownsRow_nil _ _ _ _, ?_⟩
      exact (by repeat (first | with_reducible refine below_drewN ?_ _ | with_reducible refine Below.drew ?_ | ((with_reducible refine Below.alloc ?_ ?_ _); rotate_left; focus (first | exact Nat.le_refl _ | omega | (simp; done) | (simp; omega))) | ((with_reducible refine Below.setCell ?_ ?_ _); rotate_left; focus (first | exact Nat.le_refl _ | omega | (simp; done) | (simp; omega))) | with_reducible exact Below.refl _ _ | with_reducible assumption))

set_option maxRecDepth 100000 in
set_option maxHeartbeats 4000000 in
theorem rread_no (s : ByteArray) (w : World) (h : Lib.hasPrefix s.data.toList [60] = false) :
    Calls Try.prog 15 #[.string s] w fun e w' => e = .returned (.tuple #[.agg #[.string ⟨#[]⟩, .bool false, .bool false, .slice none 0 0], .int .i64 0]) ∧ Below w.heap.size w w' := by
  have h47 : Lib.hasPrefix s.data.toList [60, 47] = false := by rw [hp_two, h]; rfl
  rcases hl : s.data.toList with _ | ⟨b, q⟩
  · have hz : s.toList = [] := by rw [Lib.toList_data, hl]
    have hz' : s.toList.isEmpty = true := by rw [hz]; rfl
    have H47 := Lib.hid h47
    clear hl h h47
    go_enter Try.func15, Try.ntmps15
    go_wp2_with fail
    refine (begins_any _ _ _).mono ?_
    rw [show (⟨#[60, 47]⟩ : ByteArray).data.toList = [60, 47] from rfl, H47.out]
    rintro e w' ⟨rfl, rfl⟩
    go_wp2
    refine bodyPost_ret (v := .tuple #[.agg #[.string ⟨#[]⟩, .bool false, .bool false, .slice none 0 0], .int .i64 0]) (by simp [results, Try.results15, go_sem]) rfl ⟨rfl, ?_⟩
    exact (by repeat (first | with_reducible refine below_drewN ?_ _ | with_reducible refine Below.drew ?_ | ((with_reducible refine Below.alloc ?_ ?_ _); rotate_left; focus (first | exact Nat.le_refl _ | omega | (simp; done) | (simp; omega))) | ((with_reducible refine Below.setCell ?_ ?_ _); rotate_left; focus (first | exact Nat.le_refl _ | omega | (simp; done) | (simp; omega))) | with_reducible exact Below.refl _ _ | with_reducible assumption))
  · have hz' : s.toList.isEmpty = false := by rw [Lib.toList_data, hl]; rfl
    have hsz : 0 < s.size := by rw [Lib.size_eq, hl]; simp
    have hb : s[0] = b := by
      have h1 := Lib.data_getElem? s 0 hsz
      rw [hl] at h1
      simpa using h1.symm
    rw [hl, hp_one] at h
    have hne : ((s[0].toNat : Int) != 60) = true := by
      have q := eqB 60 b
      simp only [show (((60:UInt8).toNat : Int)) = 60 from rfl] at q
      have h' : (b == 60) = false := h
      rw [hb, bne, q, h']
      rfl
    have hsz' : (0 : Int) < (s.size : Int) := by omega
    have H47 := Lib.hid h47
    clear hl h hb h47
    go_enter Try.func15, Try.ntmps15
    go_wp2_with fail
    refine (begins_any _ _ _).mono ?_
    rw [show (⟨#[60, 47]⟩ : ByteArray).data.toList = [60, 47] from rfl, H47.out]
    rintro e w' ⟨rfl, rfl⟩
    go_wp2
    refine bodyPost_ret (v := .tuple #[.agg #[.string ⟨#[]⟩, .bool false, .bool false, .slice none 0 0], .int .i64 0]) (by simp [results, Try.results15, go_sem]) rfl ⟨rfl, ?_⟩
    exact (by repeat (first | with_reducible refine below_drewN ?_ _ | with_reducible refine Below.drew ?_ | ((with_reducible refine Below.alloc ?_ ?_ _); rotate_left; focus (first | exact Nat.le_refl _ | omega | (simp; done) | (simp; omega))) | ((with_reducible refine Below.setCell ?_ ?_ _); rotate_left; focus (first | exact Nat.le_refl _ | omega | (simp; done) | (simp; omega))) | with_reducible exact Below.refl _ _ | with_reducible assumption))
end Go.Proofs.Ytmlkmhonpmnenaa
