import Derived.Test.YtmlkmhonpmnenaaTagsPlain
import Derived.Test.YtmlkmhonpmnenaaTagsWord
namespace Go.Proofs.Ytmlkmhonpmnenaa
open Go.RowKit

theorem mk_app (l r : List UInt8) : (⟨(l ++ r).toArray⟩ : ByteArray) = ⟨l.toArray⟩ ++ ⟨r.toArray⟩ := by
  apply ByteArray.ext
  rw [ByteArray.data_append]
  simp
theorem textT_len (l : List UInt8) : (textT (toks l)).length ≤ l.length := by
  suffices h : ∀ k (l : List UInt8), l.length ≤ k → (textT (toks l)).length ≤ l.length from h _ l (Nat.le_refl _)
  intro k
  induction k with
  | zero =>
    intro l hl
    obtain rfl : l = [] := List.eq_nil_of_length_eq_zero (by omega)
    exact Nat.le_refl _
  | succ k ih =>
    intro l hl
    rcases l with _ | ⟨b, r⟩
    · exact Nat.le_refl _
    · by_cases hn : (readP (b :: r)).2 = 0
      · rw [toks_byte hn, textT_byte]
        have h4 := ih r (by simpa using hl)
        simpa using h4
      · have h2 := readP_le (b :: r)
        rw [toks_tag (by simp) hn, textT_tag]
        have h4 := ih ((b :: r).drop (readP (b :: r)).2) (by rw [List.length_drop]; simp at hl h2 ⊢; omega)
        rw [List.length_drop] at h4
        omega
theorem litz : (⟨#[60]⟩ : ByteArray).size = 1 ∧ (⟨#[62]⟩ : ByteArray).size = 1 ∧ (⟨#[60, 47]⟩ : ByteArray).size = 2 ∧ (⟨#[32, 47, 62]⟩ : ByteArray).size = 3 := ⟨rfl, rfl, rfl, rfl⟩

set_option maxRecDepth 100000 in
set_option maxHeartbeats 4000000 in
theorem tagsJoin_big (a b nm : ByteArray) (w : World) (h : 500 < a.size ∨ 500 < b.size ∨ nm.size = 0 ∨ 50 < nm.size) :
    Calls Try.prog 4 #[.string a, .string b, .string nm] w fun e w' => e = .returned (.bool true) ∧ Below w.heap.size w w' := by
  by_cases h1 : 500 < a.size
  · have q1 : (500 : Int) < (a.size : Int) := by omega
    clear h
    go_enter Try.func4, Try.ntmps4
    go_wp2_with fail
    refine (awake_any _).mono ?_
    rintro e w1 ⟨rfl, hb1⟩
    go_wp2
    go_ret
    exact ⟨rfl, hb1⟩
  · have q1 : (a.size : Int) ≤ 500 := by omega
    by_cases h2 : 500 < b.size
    · have q2 : (500 : Int) < (b.size : Int) := by omega
      clear h
      go_enter Try.func4, Try.ntmps4
      go_wp2_with fail
      refine (awake_any _).mono ?_
      rintro e w1 ⟨rfl, hb1⟩
      go_wp2
      go_ret
      exact ⟨rfl, hb1⟩
    · have q2 : (b.size : Int) ≤ 500 := by omega
      by_cases h3 : nm.size = 0
      · obtain ⟨-, hz⟩ := ba_empty h3
        clear h
        go_enter Try.func4, Try.ntmps4
        go_wp2_with fail
        refine (awake_any _).mono ?_
        rintro e w1 ⟨rfl, hb1⟩
        go_wp2
        go_ret
        exact ⟨rfl, hb1⟩
      · obtain ⟨_, _, -, hz, -⟩ := ba_split h3
        have q3 : (50 : Int) < (nm.size : Int) := by omega
        clear h
        go_enter Try.func4, Try.ntmps4
        go_wp2_with fail
        refine (awake_any _).mono ?_
        rintro e w1 ⟨rfl, hb1⟩
        go_wp2
        go_ret
        exact ⟨rfl, hb1⟩

set_option maxRecDepth 100000 in
set_option maxHeartbeats 4000000 in
theorem tagsJoin_walk (a b nm : ByteArray) (w : World) :
    Calls Try.prog 4 #[.string a, .string b, .string nm] w fun e w' => e = .returned (.bool true) ∧ Below w.heap.size w w' := by
  by_cases h : 500 < a.size ∨ 500 < b.size ∨ nm.size = 0 ∨ 50 < nm.size
  · exact tagsJoin_big a b nm w h
  · have q1 : (a.size : Int) ≤ 500 := by omega
    have q2 : (b.size : Int) ≤ 500 := by omega
    have q3 : (nm.size : Int) ≤ 50 := by omega
    have h3 : nm.size ≠ 0 := by omega
    obtain ⟨_, _, hne, hz, -⟩ := ba_split h3
    have hnn : nm.data.toList ≠ [] := by rw [hne]; simp
    have HNN := Lib.hid hnn
    clear hne hnn h
    go_enter Try.func4, Try.ntmps4
    go_wp2_with fail
    refine (awake_any _).mono ?_
    rintro e w1 ⟨rfl, hb1⟩
    go_wp2_with fail
    go_loop [8] (fun s8 => ∃ k : Nat, s8 = .int .i64 k ∧ k ≤ nm.size ∧ Hid (Word (nm.data.toList.take k))) (fun s8 => nm.size - (intOf s8).toNat)
    case atStart => exact ⟨0, rfl, Nat.zero_le _, fun c hc => by simp at hc⟩
    case round =>
      obtain ⟨k, rfl, hk, hat⟩ := hrel
      by_cases hlt : k < nm.size
      · obtain ⟨c, hc⟩ : ∃ c, nm[k]'hlt = c := ⟨_, rfl⟩
        have hkl : (k : Int) < (nm.size : Int) := by omega
        have hgl := Lib.data_getElem? nm k hlt
        rw [hc] at hgl
        have HG := Lib.hid hgl
        clear hgl
        by_cases c1 : (c.toNat : Int) < 97
        · clear hat
          go_wp2
          go_ret
          exact ⟨rfl, hb1⟩
        · have c1' : (97 : Int) ≤ (c.toNat : Int) := by omega
          by_cases c2 : 122 < (c.toNat : Int)
          · clear hat
            go_wp2
            go_ret
            exact ⟨rfl, hb1⟩
          · have c2' : (c.toNat : Int) ≤ 122 := by omega
            have H1 : Hid (Word (nm.data.toList.take (k + 1))) := by
              intro x hx
              rw [List.take_add_one, HG.out] at hx
              rcases List.mem_append.1 hx with hx | hx
              · exact hat.out x hx
              · simp at hx
                subst hx
                simp only [smallB, Bool.and_eq_true, decide_eq_true_eq]
                exact ⟨c1', c2'⟩
            clear hat
            go_wp2
            go_round
            case rel => exact ⟨k + 1, by go_num, by omega, H1⟩
            case measure => simp [intOf]; omega
      · have hw : Word nm.data.toList := by
          have h1 := hat.out
          rw [List.take_of_length_le (by rw [← Lib.size_eq]; omega)] at h1
          exact h1
        have HW := Lib.hid hw
        clear hw hat
        have s1 : a.size ≤ 1073741824 := by omega
        have s2 : b.size ≤ 1073741824 := by omega
        rcases ha : checkT (toks a.data.toList) [] with _ | _
        · have CA := Lib.hid (fun w1 => check_b a w w1 s1 _ ha)
          clear ha
          go_wp2_with fail
          refine (CA.out _ hb1).mono ?_
          rintro e w2 ⟨rfl, hB2⟩
          go_wp2
          go_ret
          exact ⟨rfl, hB2⟩
        · rcases hb : checkT (toks b.data.toList) [] with _ | _
          · have CA := Lib.hid (fun w1 => check_b a w w1 s1 _ ha)
            have CB := Lib.hid (fun w1 => check_b b w w1 s2 _ hb)
            clear ha hb
            go_wp2_with fail
            refine (CA.out _ hb1).mono ?_
            rintro e w2 ⟨rfl, hB2⟩
            go_wp2_with fail
            refine (CB.out _ hB2).mono ?_
            rintro e w3 ⟨rfl, hB3⟩
            go_wp2
            go_ret
            exact ⟨rfl, hB3⟩
          · have CA := Lib.hid (fun w1 => check_b a w w1 s1 _ ha)
            have CB := Lib.hid (fun w1 => check_b b w w1 s2 _ hb)
            obtain ⟨f1, f2, f3, f4, f5, f6⟩ := join_facts ha hb HW.out HNN.out
            obtain ⟨z1, z2, z3, z4⟩ := litz
            obtain ⟨IN, hIN⟩ : ∃ IN : ByteArray, (⟨#[60]⟩ : ByteArray) ++ nm ++ ⟨#[62]⟩ ++ a ++ ⟨#[60, 47]⟩ ++ nm ++ ⟨#[62]⟩ = IN := ⟨_, rfl⟩
            have hINd : IN.data.toList = 60 :: (nm.data.toList ++ 62 :: (a.data.toList ++ 60 :: 47 :: (nm.data.toList ++ [62]))) := by
              rw [← hIN]; simp only [ba_app, List.append_assoc, List.cons_append, List.nil_append]
            have hINz : IN.size ≤ 1000 := by
              rw [← hIN]; simp only [ByteArray.size_append, z1, z2, z3]; omega
            have hC1 := Lib.hid (fun w1 => check_b (a ++ b) w w1 (by rw [ByteArray.size_append]; omega) true (by rw [ba_app]; exact f1))
            have hC2 := Lib.hid (fun w1 => check_b IN w w1 (by omega) true (by rw [hINd]; exact f2))
            have hC3 := Lib.hid (fun w1 => check_b (b ++ IN ++ ⟨#[60]⟩ ++ nm ++ ⟨#[32, 47, 62]⟩) w w1 (by simp only [ByteArray.size_append, z1, z4]; omega) true (by
              simp only [ba_app, hINd, List.append_assoc, List.cons_append, List.nil_append]; exact f3))
            have hC4 := Lib.hid (fun w1 => check_b (b ++ ⟨#[60]⟩ ++ nm ++ ⟨#[62]⟩ ++ a) w w1 (by simp only [ByteArray.size_append, z1, z2]; omega) false (by
              simp only [ba_app, List.append_assoc, List.cons_append, List.nil_append]; exact f4))
            have hC5 := Lib.hid (fun w1 => check_b (⟨#[60, 47]⟩ ++ nm ++ ⟨#[62]⟩ ++ a) w w1 (by simp only [ByteArray.size_append, z2, z3]; omega) false (by
              simp only [ba_app, List.append_assoc, List.cons_append, List.nil_append]; exact f5))
            have hT1 := fun w1 => text_b (IN ++ b) w w1 (by rw [ByteArray.size_append]; omega) (textT (toks a.data.toList) ++ textT (toks b.data.toList)) (by
              rw [ba_app, hINd]; simp only [List.append_assoc, List.cons_append, List.nil_append]; exact f6)
            have hTa := fun w1 => text_b a w w1 s1 _ rfl
            have hTb := fun w1 => text_b b w w1 s2 _ rfl
            rw [mk_app] at hT1
            obtain ⟨TA, hTA⟩ : ∃ TA : ByteArray, (⟨(textT (toks a.data.toList)).toArray⟩ : ByteArray) = TA := ⟨_, rfl⟩
            obtain ⟨TB, hTB⟩ : ∃ TB : ByteArray, (⟨(textT (toks b.data.toList)).toArray⟩ : ByteArray) = TB := ⟨_, rfl⟩
            have zTA : TA.size ≤ 500 := by
              have h1 := textT_len a.data.toList
              rw [← hTA, mkb_size]; rw [← Lib.size_eq] at h1; omega
            have zTB : TB.size ≤ 500 := by
              have h1 := textT_len b.data.toList
              rw [← hTB, mkb_size]; rw [← Lib.size_eq] at h1; omega
            rw [hTA, hTB] at hT1
            rw [hTA] at hTa
            rw [hTB] at hTb
            clear hTA hTB
            have hT := Lib.hid hT1
            have HTa := Lib.hid hTa
            have HTb := Lib.hid hTb
            have HIN := Lib.hid hIN
            clear ha hb f1 f2 f3 f4 f5 f6 hIN hINd hT1 hTa hTb
            go_wp2_with fail
            refine (CA.out _ hb1).mono ?_
            rintro e w2 ⟨rfl, hB2⟩
            clear CA hb1
            go_wp2_with fail
            refine (CB.out _ hB2).mono ?_
            rintro e w3 ⟨rfl, hB3⟩
            clear CB hB2
            go_wp2_with fail
            rw [HIN.out]
            refine (hC1.out _ hB3).mono ?_
            rintro e w4 ⟨rfl, hB4⟩
            clear hB3 hC1
            go_wp2_with fail
            refine (hC2.out _ hB4).mono ?_
            rintro e w5 ⟨rfl, hB5⟩
            clear hB4 hC2
            go_wp2_with fail
            refine (hC3.out _ hB5).mono ?_
            rintro e w6 ⟨rfl, hB6⟩
            clear hB5 hC3
            go_wp2_with fail
            refine (hC4.out _ hB6).mono ?_
            rintro e w7 ⟨rfl, hB7⟩
            clear hB6 hC4
            go_wp2_with fail
            refine (hC5.out _ hB7).mono ?_
            rintro e w8 ⟨rfl, hB8⟩
            clear hB7 hC5
            go_wp2_with fail
            refine (hT.out _ hB8).mono ?_
            rintro e w9 ⟨rfl, hB9⟩
            clear hB8 hT
            go_wp2_with fail
            refine (HTa.out _ hB9).mono ?_
            rintro e w10 ⟨rfl, hB10⟩
            clear hB9 HTa
            go_wp2_with fail
            refine (HTb.out _ hB10).mono ?_
            rintro e w11 ⟨rfl, hB11⟩
            clear hB10 HTb
            go_wp2
            go_ret
            exact ⟨rfl, hB11⟩
end Go.Proofs.Ytmlkmhonpmnenaa
