import Derived.Test.YtmlkmhonpmnenaaProg
import Derived.WalkKit
import Derived.WalkLawsBesides
import Derived.WalkSpells
import Derived.BigQuiet
import Derived.Deep.QuietTactic
import Derived.Below
namespace Go.Proofs.Ytmlkmhonpmnenaa
open Go.RowKit
theorem hide {p : Prop} (h : p) : Hid p := h
theorem unhide {p : Prop} (h : Hid p) : p := h

theorem all_u8 {p : UInt8 → Prop} [DecidablePred p] (h : ∀ n : Fin 256, p ⟨⟨n⟩⟩) (b : UInt8) : p b := h b.toBitVec.toFin
def digitB (b : UInt8) : Bool := decide (48 ≤ (b.toNat : Int)) && decide ((b.toNat : Int) ≤ 57)
def letterB (b : UInt8) : Bool := decide (97 ≤ bits .or .u8 (b.toNat : Int) 32) && decide (bits .or .u8 (b.toNat : Int) 32 ≤ 122)
def smallB (b : UInt8) : Bool := decide (97 ≤ (b.toNat : Int)) && decide ((b.toNat : Int) ≤ 122)

theorem and_ret {p q : Prop} [Decidable p] [Decidable q] {c : Bool} (h : c = (decide p && decide q)) : Ending.returned (.bool c) = .returned (.bool (decide p && decide q)) := by rw [h]
theorem digit_any (b : UInt8) (w : World) :
    Calls Try.prog 79 #[.int .u8 (b.toNat : Int)] w fun e w' => e = .returned (.bool (digitB b)) ∧ w = w' := by
  have hb : b.toNat < 256 := b.toNat_lt
  unfold digitB
  go_enter Try.func79, Try.ntmps79
  go_wp2
  all_goals
    go_ret
    refine ⟨and_ret ?_, rfl⟩
    simp <;> omega
theorem letter_any (b : UInt8) (w : World) :
    Calls Try.prog 92 #[.int .u8 (b.toNat : Int)] w fun e w' => e = .returned (.bool (letterB b)) ∧ w = w' := by
  have hb : b.toNat < 256 := b.toNat_lt
  unfold letterB
  go_enter Try.func92, Try.ntmps92
  go_wp2
  all_goals
    go_ret
    refine ⟨and_ret ?_, rfl⟩
    simp <;> omega
theorem small_iff : ∀ b : UInt8, (letterB b && decide (97 ≤ (b.toNat : Int))) = smallB b := by
  refine all_u8 ?_
  decide +kernel
theorem small_any (b : UInt8) (w : World) :
    Calls Try.prog 78 #[.int .u8 (b.toNat : Int)] w fun e w' => e = .returned (.bool (smallB b)) ∧ w = w' := by
  have hb : b.toNat < 256 := b.toNat_lt
  rw [← small_iff]
  go_enter Try.func78, Try.ntmps78
  go_wp2_with (go_at_call 92; refine (letter_any _ _).mono ?_; rintro e w' ⟨rfl, rfl⟩)
  all_goals
    go_ret
    simp_all
    done

def nameOk (dash first : Bool) (b : UInt8) : Bool := smallB b || (!first && (digitB b || (dash && b == 45)))
def nameN (dash : Bool) : Bool → List UInt8 → Nat
  | _, [] => 0
  | first, b :: l => if nameOk dash first b then nameN dash false l + 1 else 0
theorem nameN_le (dash : Bool) : ∀ first l, nameN dash first l ≤ l.length
  | _, [] => Nat.le_refl _
  | first, b :: l => by
    have := nameN_le dash false l
    simp only [nameN, List.length_cons]; split <;> omega

theorem nameN_done {dash first : Bool} {l : List UInt8} {b : UInt8} (h : nameOk dash first b = false) : nameN dash first (b :: l) = 0 := by simp [nameN, h]
theorem nameN_more {dash first : Bool} {l : List UInt8} {b : UInt8} (h : nameOk dash first b = true) : nameN dash first (b :: l) = nameN dash false l + 1 := by simp [nameN, h]
theorem eq45 (b : UInt8) : ((b.toNat : Int) == 45) = (b == 45) := by
  rw [Bool.eq_iff_iff]; simp only [beq_iff_eq]
  constructor
  · intro h; apply UInt8.toNat_inj.1; simpa using (by omega : b.toNat = 45)
  · rintro rfl; rfl
theorem named_step {s : ByteArray} {dash : Bool} {k : Nat} (hlt : k < s.size) (hn : nameN dash true s.data.toList = k + nameN dash (k == 0) (s[k] :: s.data.toList.drop (k + 1))) (h : nameOk dash (k == 0) s[k] = true) :
    nameN dash true s.data.toList = (k + 1) + nameN dash (k + 1 == 0) (s.data.toList.drop (k + 1)) := by
  rw [nameN_more h] at hn
  rw [hn]
  have : (k + 1 == 0) = false := rfl
  rw [this]; omega
theorem named_stop {s : ByteArray} {dash : Bool} {k : Nat} (hlt : k < s.size) (hn : nameN dash true s.data.toList = k + nameN dash (k == 0) (s[k] :: s.data.toList.drop (k + 1))) (h : nameOk dash (k == 0) s[k] = false) :
    nameN dash true s.data.toList = k := by
  rw [nameN_done h] at hn
  exact hn
theorem ret_named {s : ByteArray} {n k : Nat} (h : n = k) : Ending.returned (.tuple #[.string (s.extract 0 k), .string (s.extract k s.size)]) = .returned (.tuple #[.string (s.extract 0 n), .string (s.extract n s.size)]) := by rw [h]

theorem named_true (s : ByteArray) (w : World) (hs : s.size ≤ 140737488351232) :
    Calls Try.prog 69 #[.string s, .bool true] w fun e w' => e = .returned (.tuple #[.string (s.extract 0 (nameN true true s.data.toList)), .string (s.extract (nameN true true s.data.toList) s.size)]) ∧ ∃ n, w' = w.drewN n := by
  go_enter Try.func69, Try.ntmps69
  go_wp2
  go_loop [6] (fun i => ∃ k : Nat, k ≤ s.size ∧ i = .int .i64 k ∧ nameN true true s.data.toList = k + nameN true (k == 0) (s.data.toList.drop k)) (fun i => s.size - (intOf i).toNat)
  case atStart => exact ⟨0, Nat.zero_le _, rfl, by simp⟩
  case round =>
    obtain ⟨k, hk, rfl, hn⟩ := hrel
    by_cases hlt : k < s.size
    · have hd : s.data.toList.drop k = s[k] :: s.data.toList.drop (k + 1) := by
        rw [List.drop_eq_getElem_cons (by simpa using hlt)]; rfl
      rw [hd] at hn
      have Hn := hide hn
      clear hn hd
      have hi : (k : Int) ≤ (s.size : Int) := by omega
      go_wp2_with (first | (go_at_call 78; refine (small_any _ _).mono ?_; rintro e w' ⟨rfl, rfl⟩) | (go_at_call 79; refine (digit_any _ _).mono ?_; rintro e w' ⟨rfl, rfl⟩))
      all_goals first
        | (go_round
           case rel => exact ⟨k + 1, by omega, by go_num, named_step hlt Hn.out (by simp [nameOk, ← eq45, *] <;> omega)⟩
           case measure => simp [intOf]; omega)
        | (have HK := hide (named_stop hlt Hn.out (by simp [nameOk, ← eq45, *] <;> omega))
           clear Hn
           go_quiet (fail)
           go_wp2
           go_ret2
           exact ⟨ret_named HK.out, _, rfl⟩)
    · have hn0 : nameN true true s.data.toList = k := by
        have : k = s.size := by omega
        subst this
        rw [hn, List.drop_eq_nil_of_le (by simp)]; rfl
      have HK := hide hn0
      clear hn hn0
      go_wp2
      go_quiet (fail)
      go_wp2
      go_ret2
      exact ⟨ret_named HK.out, _, rfl⟩
theorem named_false (s : ByteArray) (w : World) (hs : s.size ≤ 140737488351232) :
    Calls Try.prog 69 #[.string s, .bool false] w fun e w' => e = .returned (.tuple #[.string (s.extract 0 (nameN false true s.data.toList)), .string (s.extract (nameN false true s.data.toList) s.size)]) ∧ ∃ n, w' = w.drewN n := by
  go_enter Try.func69, Try.ntmps69
  go_wp2
  go_loop [6] (fun i => ∃ k : Nat, k ≤ s.size ∧ i = .int .i64 k ∧ nameN false true s.data.toList = k + nameN false (k == 0) (s.data.toList.drop k)) (fun i => s.size - (intOf i).toNat)
  case atStart => exact ⟨0, Nat.zero_le _, rfl, by simp⟩
  case round =>
    obtain ⟨k, hk, rfl, hn⟩ := hrel
    by_cases hlt : k < s.size
    · have hd : s.data.toList.drop k = s[k] :: s.data.toList.drop (k + 1) := by
        rw [List.drop_eq_getElem_cons (by simpa using hlt)]; rfl
      rw [hd] at hn
      have Hn := hide hn
      clear hn hd
      have hi : (k : Int) ≤ (s.size : Int) := by omega
      go_wp2_with (first | (go_at_call 78; refine (small_any _ _).mono ?_; rintro e w' ⟨rfl, rfl⟩) | (go_at_call 79; refine (digit_any _ _).mono ?_; rintro e w' ⟨rfl, rfl⟩))
      all_goals first
        | (go_round
           case rel => exact ⟨k + 1, by omega, by go_num, named_step hlt Hn.out (by simp [nameOk, ← eq45, *] <;> omega)⟩
           case measure => simp [intOf]; omega)
        | (have HK := hide (named_stop hlt Hn.out (by simp [nameOk, ← eq45, *] <;> omega))
           clear Hn
           go_quiet (fail)
           go_wp2
           go_ret2
           exact ⟨ret_named HK.out, _, rfl⟩)
    · have hn0 : nameN false true s.data.toList = k := by
        have : k = s.size := by omega
        subst this
        rw [hn, List.drop_eq_nil_of_le (by simp)]; rfl
      have HK := hide hn0
      clear hn hn0
      go_wp2
      go_quiet (fail)
      go_wp2
      go_ret2
      exact ⟨ret_named HK.out, _, rfl⟩
end Go.Proofs.Ytmlkmhonpmnenaa
