import Derived.Test.YtmlkmhonpmnenaaTagsZb
import Derived.Test.YtmlkmhonpmnenaaTagsLaw
namespace Go.Proofs.Ytmlkmhonpmnenaa
open Go.RowKit

theorem ba_eta (s : ByteArray) : (⟨s.data.toList.toArray⟩ : ByteArray) = s := by cases s; simp
theorem check_b (s : ByteArray) (w w1 : World) (hs : s.size ≤ 1073741824) (b : Bool) (hb : checkT (toks s.data.toList) [] = b) (h1 : Below w.heap.size w w1) :
    Calls Try.prog 18 #[.string s] w1 fun e w' => e = .returned (.bool b) ∧ Below w.heap.size w w' := by
  have h := check_any s.data.toList w1 (by rw [← Lib.size_eq]; exact hs)
  rw [ba_eta, hb] at h
  refine h.mono ?_
  rintro e w' ⟨rfl, h2⟩
  exact ⟨rfl, below_then h1 h2⟩
theorem text_b (s : ByteArray) (w w1 : World) (hs : s.size ≤ 1073741824) (t : List UInt8) (hb : textT (toks s.data.toList) = t) (h1 : Below w.heap.size w w1) :
    Calls Try.prog 23 #[.string s] w1 fun e w' => e = .returned (.string ⟨t.toArray⟩) ∧ Below w.heap.size w w' := by
  have h := text_any s.data.toList w1 (by rw [← Lib.size_eq]; exact hs)
  rw [ba_eta, hb] at h
  refine h.mono ?_
  rintro e w' ⟨rfl, h2⟩
  exact ⟨rfl, below_then h1 h2⟩
theorem ids_b (s : ByteArray) (w w1 : World) (hs : s.size ≤ 1073741824) (xs : List (List UInt8)) (hb : idsT (toks s.data.toList) = xs) (h1 : Below w.heap.size w w1) :
    Calls Try.prog 21 #[.string s] w1 fun e w' => ∃ A c, e = .returned (.slice A xs.length c) ∧ w'.ownsRow w1.heap.size 9 1 (.slice A xs.length c) xs.length (strCells xs) ∧ Below w.heap.size w w' := by
  have h := ids_any s.data.toList w1 (by rw [← Lib.size_eq]; exact hs)
  rw [ba_eta, hb] at h
  refine h.mono ?_
  rintro e w' ⟨A, c, rfl, hr, h2⟩
  exact ⟨A, c, rfl, hr, below_then h1 h2⟩
theorem ba_app (s t : ByteArray) : (s ++ t).data.toList = s.data.toList ++ t.data.toList := by
  rw [ByteArray.data_append, Array.toList_append]
theorem plain_facts (l : List UInt8) (h : ∀ b ∈ l, b ≠ 60 ∧ b ≠ 62) :
    readP l = (zeroTag, 0) ∧ checkT (toks l) [] = true ∧ idsT (toks l) = [] ∧ textT (toks l) = l ∧ checkT (toks (l ++ [60])) [] = false ∧ checkT (toks (62 :: l)) [] = false := by
  have h60 : ∀ b ∈ l, b ≠ 60 := fun b hb => (h b hb).1
  have ht : toks l = l.map .inr := by simpa [toks_nil] using toks_plain l [] h60
  have hrd : readP l = (zeroTag, 0) := by
    refine readP_no ?_
    rw [hp_one]
    rcases l with _ | ⟨b, l⟩
    · rfl
    · simpa using (h b (List.mem_cons_self ..)).1
  refine ⟨hrd, ?_, ?_, ?_, ?_, ?_⟩
  · rw [checkT_run, ht]
    have := runT_plain l [] [] h
    rw [List.append_nil] at this
    rw [this]; rfl
  · rw [ht]
    induction l with
    | nil => rfl
    | cons b l ih => simp [idsT]
  · rw [ht]
    clear ht hrd h60 h
    induction l with
    | nil => rfl
    | cons b l ih => simp only [List.map_cons, textT_byte]; rw [ih]
  · rw [toks_plain l [60] h60, checkT_run, runT_plain l _ _ h]
    rfl
  · rw [toks_byte (by rw [readP_no (by rw [hp_one]; rfl)]), checkT_run]
    rfl

set_option maxRecDepth 100000 in
set_option maxHeartbeats 4000000 in
theorem tagsPlain_walk (s : ByteArray) (w : World) :
    Calls Try.prog 5 #[.string s] w fun e w' => e = .returned (.bool true) ∧ Below w.heap.size w w' := by
  by_cases hl : 1000 < s.size
  · have hli : (1000 : Int) < (s.size : Int) := by omega
    go_enter Try.func5, Try.ntmps5
    go_wp2_with fail
    refine (awake_any _).mono ?_
    rintro e w1 ⟨rfl, hb1⟩
    go_wp2
    go_ret
    exact ⟨rfl, hb1⟩
  · have hli : (s.size : Int) ≤ 1000 := by omega
    go_enter Try.func5, Try.ntmps5
    go_wp2_with fail
    refine (awake_any _).mono ?_
    rintro e w1 ⟨rfl, hb1⟩
    go_wp2_with fail
    go_loop [4] (fun s4 => ∃ k : Nat, s4 = .int .i64 k ∧ k ≤ s.size ∧ Hid (∀ b ∈ s.data.toList.take k, b ≠ 60 ∧ b ≠ 62)) (fun s4 => s.size - (intOf s4).toNat)
    case atStart => exact ⟨0, rfl, Nat.zero_le _, fun b hb => by simp at hb⟩
    case round =>
      obtain ⟨k, rfl, hk, hat⟩ := hrel
      by_cases hlt : k < s.size
      · obtain ⟨b, hb⟩ : ∃ b, s[k]'hlt = b := ⟨_, rfl⟩
        have q60 := eqB 60 b
        have q62 := eqB 62 b
        simp only [show ((60 : UInt8).toNat : Int) = 60 from rfl, show ((62 : UInt8).toNat : Int) = 62 from rfl] at q60 q62
        have hkl : (k : Int) < (s.size : Int) := by omega
        have hgl := Lib.data_getElem? s k hlt
        rw [hb] at hgl
        have HG := Lib.hid hgl
        clear hgl
        cases e60 : b == 60
        · cases e62 : b == 62
          · rw [e60] at q60
            rw [e62] at q62
            have H1 : Hid (∀ c ∈ s.data.toList.take (k + 1), c ≠ 60 ∧ c ≠ 62) := by
              intro c hc
              rw [List.take_add_one, HG.out] at hc
              rcases List.mem_append.1 hc with hc | hc
              · exact hat.out c hc
              · simp at hc
                subst hc
                exact ⟨by simpa using e60, by simpa using e62⟩
            clear e60 e62 hat
            go_wp2
            go_round
            case rel => exact ⟨k + 1, by go_num, by omega, H1⟩
            case measure => simp [intOf]; omega
          · rw [e60] at q60
            rw [e62] at q62
            clear e60 e62 hat
            go_wp2
            go_ret
            exact ⟨rfl, hb1⟩
        · rw [e60] at q60
          clear e60 hat q62
          go_wp2
          go_ret
          exact ⟨rfl, hb1⟩
      · have hall : ∀ b ∈ s.data.toList, b ≠ 60 ∧ b ≠ 62 := by
          have h1 := hat.out
          rw [List.take_of_length_le (by rw [← Lib.size_eq]; omega)] at h1
          exact h1
        obtain ⟨f1, f2, f3, f4, f5, f6⟩ := plain_facts _ hall
        have hs2 : s.size ≤ 1073741824 := by omega
        have HR := Lib.hid (fun w1 => read_T s.data.toList w1 (by rw [← Lib.size_eq]; exact hs2) _ _ f1)
        have hC1 := fun w1 => check_b s w w1 hs2 _ f2
        have hC2 := fun w1 => check_b (s ++ ⟨#[60]⟩) w w1 (by rw [ByteArray.size_append]; show s.size + 1 ≤ _; omega) false (by rw [ba_app]; exact f5)
        have hC3 := fun w1 => check_b (⟨#[62]⟩ ++ s) w w1 (by rw [ByteArray.size_append]; show 1 + s.size ≤ _; omega) false (by rw [ba_app]; exact f6)
        have hI := fun w1 => ids_b s w w1 hs2 _ f3
        have hT := fun w1 => text_b s w w1 hs2 _ f4
        rw [ba_eta] at hT
        have HR2 : Hid (∀ w1, Calls Try.prog 14 #[.string s] w1 _) := fun w1 => by
          have h := HR.out w1
          rw [ba_eta] at h
          exact h
        have C1 := Lib.hid hC1
        have C2 := Lib.hid hC2
        have C3 := Lib.hid hC3
        have CI := Lib.hid hI
        have CT := Lib.hid hT
        clear f1 f2 f3 f4 f5 f6 hC1 hC2 hC3 hI hT hall hat HR
        go_wp2_with fail
        refine (HR2.out _).mono ?_
        rintro e w2 ⟨A, c, rfl, hown, hb2⟩
        have hB2 := below_then hb1 hb2
        have hs3 := hB2.size
        clear hown hb2 HR2
        go_wp2_with fail
        refine (C1.out _ (by repeat (first | with_reducible refine below_drewN ?_ _ | with_reducible refine Below.drew ?_ | ((with_reducible refine Below.alloc ?_ ?_ _); rotate_left; focus (first | exact Nat.le_refl _ | omega | (simp; done) | (simp; omega))) | ((with_reducible refine Below.setCell ?_ ?_ _); rotate_left; focus (first | exact Nat.le_refl _ | omega | (simp; done) | (simp; omega))) | with_reducible exact Below.refl _ _ | with_reducible assumption))).mono ?_
        rintro e w3 ⟨rfl, hB3⟩
        clear hB2 hs3
        go_wp2_with fail
        refine (CI.out _ hB3).mono ?_
        rintro e w4 ⟨A4, c4, rfl, -, hB4⟩
        clear hB3
        go_wp2_with fail
        refine (CT.out _ hB4).mono ?_
        rintro e w5 ⟨rfl, hB5⟩
        clear hB4
        go_wp2_with fail
        refine (C2.out _ hB5).mono ?_
        rintro e w6 ⟨rfl, hB6⟩
        clear hB5
        go_wp2_with fail
        refine (C3.out _ hB6).mono ?_
        rintro e w7 ⟨rfl, hB7⟩
        clear hB6
        go_wp2
        go_ret
        exact ⟨rfl, hB7⟩
end Go.Proofs.Ytmlkmhonpmnenaa
