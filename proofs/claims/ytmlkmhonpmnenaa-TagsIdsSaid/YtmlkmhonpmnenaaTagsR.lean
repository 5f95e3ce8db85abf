import Derived.Test.YtmlkmhonpmnenaaTagsF
namespace Go.Proofs.Ytmlkmhonpmnenaa
open Go.RowKit

/-! ### The reference: 45, incipitref21.name, attribute -/
theorem begins_any (s p : ByteArray) (w : World) :
    Calls Try.prog 45 #[.string s, .string p] w fun e w' => e = .returned (.bool (Lib.hasPrefix s.data.toList p.data.toList)) ∧ w = w' := by
  rw [← Lib.hasPrefix_of_take, ← Lib.size_eq, ← Lib.size_eq]
  go_enter Try.func45, Try.ntmps45
  go_wp2
  · rename_i h
    go_ret
    refine ⟨?_, rfl⟩
    show Ending.returned (Value.bool ((s.extract 0 p.size).toList == p.toList)) = _
    rw [Lib.extract_toList, Lib.toList_data]
    simp [h]
  · rename_i h
    go_ret
    refine ⟨?_, rfl⟩
    show Ending.returned (Value.bool false) = _
    simp [h]
theorem begins_l (l p : List UInt8) (w : World) :
    Calls Try.prog 45 #[.string ⟨l.toArray⟩, .string ⟨p.toArray⟩] w fun e w' => e = .returned (.bool (Lib.hasPrefix l p)) ∧ w = w' := begins_any ⟨l.toArray⟩ ⟨p.toArray⟩ w
theorem rsmall_any (b : UInt8) (w : World) :
    Calls Try.prog 71 #[.int .u8 (b.toNat : Int)] w fun e w' => e = .returned (.bool (smallB b)) ∧ w = w' := by
  have hb : b.toNat < 256 := b.toNat_lt
  unfold smallB
  go_enter Try.func71, Try.ntmps71
  go_wp2
  all_goals
    go_ret
    refine ⟨and_ret ?_, rfl⟩
    simp <;> omega
theorem digitB_of {b : UInt8} (h0 : 48 ≤ (b.toNat : Int)) (h1 : (b.toNat : Int) ≤ 57) : digitB b = true := by simp [digitB]; omega
theorem digitB_not0 {b : UInt8} (h0 : (b.toNat : Int) < 48) : digitB b = false := by simp [digitB]; omega
theorem digitB_not1 {b : UInt8} (h0 : 57 < (b.toNat : Int)) : digitB b = false := by simp [digitB]; omega

set_option maxHeartbeats 4000000 in
theorem rname_true (s : ByteArray) (w : World) (hs : s.size ≤ 140737488351232) :
    Calls Try.prog 46 #[.string s, .bool true] w fun e w' => e = .returned (.int .i64 (nameN true true s.data.toList : Nat)) ∧ w = w' := by
  go_enter Try.func46, Try.ntmps46
  go_wp2
  go_loop [5] (fun i => ∃ k : Nat, k ≤ s.size ∧ i = .int .i64 k ∧ Hid (nameN true true s.data.toList = k + nameN true (k == 0) (s.data.toList.drop k))) (fun i => s.size - (intOf i).toNat)
  case atStart => exact ⟨0, Nat.zero_le _, rfl, by show _ = _; simp⟩
  case round =>
    obtain ⟨k, hk, rfl, Hn0⟩ := hrel
    by_cases hlt : k < s.size
    · have hn : nameN true true s.data.toList = k + nameN true (k == 0) (s[k] :: s.data.toList.drop (k + 1)) := by
        rw [Hn0.out, List.drop_eq_getElem_cons (by simpa using hlt)]; rfl
      have Hn := Lib.hid hn
      clear hn Hn0
      have hi : (k : Int) ≤ (s.size : Int) := by omega
      go_wp2_with (go_at_call 71; refine (rsmall_any _ _).mono ?_; rintro e w' ⟨rfl, rfl⟩)
      all_goals first
        | (go_round
           case rel => exact ⟨k + 1, by omega, by go_num, named_step hlt Hn.out (by simp only [nameOk, digitB, ← eq45]; first | (simp [*] <;> omega) | (simp_all <;> omega))⟩
           case measure => simp [intOf]; omega)
        | (have HK := Lib.hid (named_stop hlt Hn.out (by simp only [nameOk, digitB, ← eq45]; simp [*] <;> omega))
           go_ret
           exact ⟨by rw [HK.out]; rfl, rfl⟩)
    · have hn0 : nameN true true s.data.toList = k := by
        have : k = s.size := by omega
        subst this
        rw [Hn0.out, List.drop_eq_nil_of_le (by simp)]; rfl
      have HK := Lib.hid hn0
      clear Hn0 hn0
      go_wp2
      go_ret
      exact ⟨by rw [HK.out]; rfl, rfl⟩
set_option maxHeartbeats 4000000 in
theorem rname_false (s : ByteArray) (w : World) (hs : s.size ≤ 140737488351232) :
    Calls Try.prog 46 #[.string s, .bool false] w fun e w' => e = .returned (.int .i64 (nameN false true s.data.toList : Nat)) ∧ w = w' := by
  go_enter Try.func46, Try.ntmps46
  go_wp2
  go_loop [5] (fun i => ∃ k : Nat, k ≤ s.size ∧ i = .int .i64 k ∧ Hid (nameN false true s.data.toList = k + nameN false (k == 0) (s.data.toList.drop k))) (fun i => s.size - (intOf i).toNat)
  case atStart => exact ⟨0, Nat.zero_le _, rfl, by show _ = _; simp⟩
  case round =>
    obtain ⟨k, hk, rfl, Hn0⟩ := hrel
    by_cases hlt : k < s.size
    · have hn : nameN false true s.data.toList = k + nameN false (k == 0) (s[k] :: s.data.toList.drop (k + 1)) := by
        rw [Hn0.out, List.drop_eq_getElem_cons (by simpa using hlt)]; rfl
      have Hn := Lib.hid hn
      clear hn Hn0
      have hi : (k : Int) ≤ (s.size : Int) := by omega
      go_wp2_with (go_at_call 71; refine (rsmall_any _ _).mono ?_; rintro e w' ⟨rfl, rfl⟩)
      all_goals first
        | (go_round
           case rel => exact ⟨k + 1, by omega, by go_num, named_step hlt Hn.out (by simp only [nameOk, digitB, ← eq45]; first | (simp [*] <;> omega) | (simp_all <;> omega))⟩
           case measure => simp [intOf]; omega)
        | (have HK := Lib.hid (named_stop hlt Hn.out (by simp only [nameOk, digitB, ← eq45]; simp [*] <;> omega))
           go_ret
           exact ⟨by rw [HK.out]; rfl, rfl⟩)
    · have hn0 : nameN false true s.data.toList = k := by
        have : k = s.size := by omega
        subst this
        rw [Hn0.out, List.drop_eq_nil_of_le (by simp)]; rfl
      have HK := Lib.hid hn0
      clear Hn0 hn0
      go_wp2
      go_ret
      exact ⟨by rw [HK.out]; rfl, rfl⟩
theorem rname_any (dash : Bool) (s : ByteArray) (w : World) (hs : s.size ≤ 140737488351232) :
    Calls Try.prog 46 #[.string s, .bool dash] w fun e w' => e = .returned (.int .i64 (nameN dash true s.data.toList : Nat)) ∧ w = w' := by
  cases dash
  · exact rname_false s w hs
  · exact rname_true s w hs
theorem rname_l (dash : Bool) (l : List UInt8) (w : World) (hs : l.length ≤ 140737488351232) :
    Calls Try.prog 46 #[.string ⟨l.toArray⟩, .bool dash] w fun e w' => e = .returned (.int .i64 (nameN dash true l : Nat)) ∧ w = w' := by
  cases dash
  · exact rname_false ⟨l.toArray⟩ w (by rw [mkb_size]; exact hs)
  · exact rname_true ⟨l.toArray⟩ w (by rw [mkb_size]; exact hs)
end Go.Proofs.Ytmlkmhonpmnenaa
