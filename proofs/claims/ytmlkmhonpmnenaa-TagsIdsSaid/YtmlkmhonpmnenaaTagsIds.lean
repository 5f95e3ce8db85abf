import Derived.Test.YtmlkmhonpmnenaaTagsJoin
namespace Go.Proofs.Ytmlkmhonpmnenaa
open Go.RowKit

set_option maxRecDepth 100000 in
set_option maxHeartbeats 4000000 in
theorem tagsIds_big (a b s : ByteArray) (w : World) (za : a.size ≤ 140737488355328) (zb : b.size ≤ 140737488355328) (h : 300 < a.size + b.size ∨ 500 < s.size ∨ checkT (toks s.data.toList) [] = false) :
    Calls Try.prog 6 #[.string a, .string b, .string s] w fun e w' => e = .returned (.bool true) ∧ Below w.heap.size w w' := by
  have za' : (a.size : Int) ≤ 140737488355328 := by omega
  have zb' : (b.size : Int) ≤ 140737488355328 := by omega
  by_cases h1 : 300 < a.size + b.size
  · have q1 : (300 : Int) < (a.size : Int) + (b.size : Int) := by omega
    clear h
    go_enter Try.func6, Try.ntmps6
    go_wp2_with fail
    refine (awake_any _).mono ?_
    rintro e w1 ⟨rfl, hb1⟩
    go_wp2
    go_ret
    exact ⟨rfl, hb1⟩
  · have q1 : (a.size : Int) + (b.size : Int) ≤ 300 := by omega
    by_cases h2 : 500 < s.size
    · have q2 : (500 : Int) < (s.size : Int) := by omega
      clear h
      go_enter Try.func6, Try.ntmps6
      go_wp2_with fail
      refine (awake_any _).mono ?_
      rintro e w1 ⟨rfl, hb1⟩
      go_wp2
      go_ret
      exact ⟨rfl, hb1⟩
    · have q2 : (s.size : Int) ≤ 500 := by omega
      have hc : checkT (toks s.data.toList) [] = false := by
        rcases h with h | h | h
        · exact absurd h h1
        · exact absurd h h2
        · exact h
      have CS := Lib.hid (fun w1 => check_b s w w1 (by omega) _ hc)
      clear h hc
      go_enter Try.func6, Try.ntmps6
      go_wp2_with fail
      refine (awake_any _).mono ?_
      rintro e w1 ⟨rfl, hb1⟩
      go_wp2_with fail
      refine (CS.out _ hb1).mono ?_
      rintro e w2 ⟨rfl, hB2⟩
      go_wp2
      go_ret
      exact ⟨rfl, hB2⟩

theorem lit_idz : (⟨#[60, 112, 32, 105, 100, 61, 34]⟩ : ByteArray).size = 7 ∧ (⟨#[34, 62]⟩ : ByteArray).size = 2 ∧
    (⟨#[60, 47, 112, 62, 60, 113, 32, 99, 108, 97, 115, 115, 61, 34, 120, 34, 32, 105, 100, 61, 34]⟩ : ByteArray).size = 21 ∧ (⟨#[34, 32, 47, 62]⟩ : ByteArray).size = 4 := ⟨rfl, rfl, rfl, rfl⟩

set_option maxRecDepth 100000 in
set_option maxHeartbeats 4000000 in
theorem tagsIds_walk (a b s : ByteArray) (w : World) (za : a.size ≤ 140737488355328) (zb : b.size ≤ 140737488355328) :
    Calls Try.prog 6 #[.string a, .string b, .string s] w fun e w' => e = .returned (.bool true) ∧ Below w.heap.size w w' := by
  by_cases h : 300 < a.size + b.size ∨ 500 < s.size ∨ checkT (toks s.data.toList) [] = false
  · exact tagsIds_big a b s w za zb h
  · have q0 : a.size + b.size ≤ 300 := by omega
    have q1 : (a.size : Int) + (b.size : Int) ≤ 300 := by omega
    have q2 : (s.size : Int) ≤ 500 := by omega
    have hc : checkT (toks s.data.toList) [] = true := by
      cases hh : checkT (toks s.data.toList) [] with
      | true => rfl
      | false => exact absurd (.inr (.inr hh)) h
    have CS := Lib.hid (fun w1 => check_b s w w1 (by omega) _ hc)
    have HC := Lib.hid hc
    clear h hc
    have hab : (a ++ b).size = a.size + b.size := ByteArray.size_append
    go_enter Try.func6, Try.ntmps6
    go_wp2_with fail
    refine (awake_any _).mono ?_
    rintro e w1 ⟨rfl, hb1⟩
    go_wp2_with fail
    refine (CS.out _ hb1).mono ?_
    rintro e w2 ⟨rfl, hB2⟩
    clear CS hb1
    go_wp2_with fail
    go_loop [8] (fun s8 => ∃ k : Nat, s8 = .int .i64 k ∧ k ≤ a.size + b.size ∧ Hid (Word ((a ++ b).data.toList.take k))) (fun s8 => (a.size + b.size) - (intOf s8).toNat)
    case atStart => exact ⟨0, rfl, Nat.zero_le _, fun c hc => by simp at hc⟩
    case round =>
      obtain ⟨k, rfl, hk, hat⟩ := hrel
      by_cases hlt : k < (a ++ b).size
      · obtain ⟨c, hc⟩ : ∃ c, (a ++ b)[k]'hlt = c := ⟨_, rfl⟩
        have hkl : (k : Int) < (a.size : Int) + (b.size : Int) := by omega
        have hgl := Lib.data_getElem? (a ++ b) k hlt
        rw [hc] at hgl
        have HG := Lib.hid hgl
        clear hgl
        by_cases c1 : (c.toNat : Int) < 97
        · clear hat
          go_wp2
          go_ret
          exact ⟨rfl, hB2⟩
        · have c1' : (97 : Int) ≤ (c.toNat : Int) := by omega
          by_cases c2 : 122 < (c.toNat : Int)
          · clear hat
            go_wp2
            go_ret
            exact ⟨rfl, hB2⟩
          · have c2' : (c.toNat : Int) ≤ 122 := by omega
            have H1 : Hid (Word ((a ++ b).data.toList.take (k + 1))) := by
              intro x hx
              rw [List.take_add_one, HG.out] at hx
              rcases List.mem_append.1 hx with hx | hx
              · exact hat.out x hx
              · simp at hx
                subst hx
                simp only [smallB, Bool.and_eq_true, decide_eq_true_eq]
                exact ⟨c1', c2'⟩
            clear hat
            go_wp2
            go_round
            case rel => exact ⟨k + 1, by go_num, by omega, H1⟩
            case measure => simp [intOf]; omega
      · have hw : Word (a.data.toList ++ b.data.toList) := by
          have h1 := hat.out
          rw [List.take_of_length_le (by rw [← Lib.size_eq]; omega), ba_app] at h1
          exact h1
        have hwa : Word a.data.toList := fun c hc => hw c (List.mem_append_left _ hc)
        have hwb : Word b.data.toList := fun c hc => hw c (List.mem_append_right _ hc)
        have hf := ids_facts HC.out hwa hwb
        obtain ⟨M, hM⟩ : ∃ M, idsT (toks s.data.toList) = M := ⟨_, rfl⟩
        have hMl : M.length ≤ 500 := by
          have h1 := idsT_len s.data.toList
          rw [hM, ← Lib.size_eq] at h1
          omega
        rw [hM] at hf
        obtain ⟨z1, z2, z3, z4⟩ := lit_idz
        obtain ⟨S1, hS1⟩ : ∃ S1 : ByteArray, (⟨#[60, 112, 32, 105, 100, 61, 34]⟩ : ByteArray) ++ a ++ ⟨#[34, 62]⟩ ++ s ++ ⟨#[60, 47, 112, 62, 60, 113, 32, 99, 108, 97, 115, 115, 61, 34, 120, 34, 32, 105, 100, 61, 34]⟩ ++ b ++ ⟨#[34, 32, 47, 62]⟩ = S1 := ⟨_, rfl⟩
        have hSd : idsT (toks S1.data.toList) = a.data.toList :: (M ++ [b.data.toList]) := by
          rw [← hS1, ← hf]
          simp only [ba_app, List.append_assoc, List.cons_append, List.nil_append]
        have hSz : S1.size ≤ 1073741824 := by
          rw [← hS1]; simp only [ByteArray.size_append, z1, z2, z3, z4]; omega
        have hI1 := fun w1 => ids_any S1.data.toList w1 (by rw [← Lib.size_eq]; exact hSz)
        have hI2 := fun w1 => ids_any s.data.toList w1 (by rw [← Lib.size_eq]; omega)
        rw [ba_eta, hSd] at hI1
        rw [ba_eta, hM] at hI2
        have HI1 := Lib.hid hI1
        have HI2 := Lib.hid hI2
        have HS1 := Lib.hid hS1
        clear hw hwa hwb hf hM hS1 hSd hI1 hI2 hat
        go_wp2_with fail
        rw [HS1.out]
        refine (HI1.out _).mono ?_
        rintro e w3 ⟨A3, c3, rfl, hr3, hb3⟩
        have hB3 := below_then hB2 hb3
        obtain ⟨g, c3', hv, hg⟩ := own_some hr3 (by simp)
        obtain ⟨rfl, rfl⟩ : A3 = some ⟨g, 0, none⟩ ∧ c3 = c3' := by injection hv with h1 _ h2; exact ⟨h1, h2⟩
        have hn : (a.data.toList :: (M ++ [b.data.toList])).length = M.length + 2 := by simp
        rw [hn] at hr3 ⊢
        clear hb3 hB2 HI1 hv HS1
        go_wp2_with fail
        refine (HI2.out _).mono ?_
        rintro e w4 ⟨A4, c4, rfl, -, hb4⟩
        have hB4 := below_then hB3 hb4
        have hr4 := own_keep hr3 hb4
        have hgl : g < w4.heap.size := (hr4.lt g rfl).2
        have k0 : w4.cell? ⟨g, 0, none⟩ = some (.string a) := by
          rw [hr4.cellAt 0 (by omega)]
          simp [strCells]
        have k1 : w4.cell? ⟨g, M.length + 1, none⟩ = some (.string b) := by
          rw [hr4.cellAt (M.length + 1) (by omega)]
          simp [strCells]
        clear hr3 hr4 hb4 hB3 HI2
        go_wp2
        go_ret
        exact ⟨rfl, hB4⟩
end Go.Proofs.Ytmlkmhonpmnenaa
