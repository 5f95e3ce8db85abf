import Derived.Test.YtmlkmhonpmnenaaProg
import Derived.WalkKit
import Derived.WalkLawsBesides
import Derived.WalkSpells
import Derived.BigQuiet
import Derived.Deep.QuietTactic
import Derived.Deep.LoopGhost
import Derived.Below
import Derived.Laws.Externs
import Derived.Lib.Bytealg
import Derived.Lib.Strings
import Derived.Lib.IndexMore
import Derived.Lib.Small
import Derived.Lib.Hide
namespace Go.Proofs.Ytmlkmhonpmnenaa
open Go.RowKit

set_option maxRecDepth 100000 in
theorem slIndexByte (s : ByteArray) (c : Int) (w : World) :
    Calls Try.prog 76 #[.string s, .int .u8 c] w fun e w' => e = .returned (.int .i64 (Lib.indexByte s.data.toList c.toNat.toUInt8)) ∧ w = w' := by
  go_enter Try.func76, Try.ntmps76
  go_wp2
  rw [run_callFunc_extern Try.func91 (by kernel_rfl) (by kernel_rfl) (by kernel_rfl) (e := Extern.BytealgIndexByte.indexByte) (by kernel_rfl), Lib.run_indexByteString]
  simp only [Result.andThen]
  rw [Oper.upon_value]
  go_wp2
  go_ret
  exact ⟨rfl, rfl⟩

theorem slHasPrefix (s p : ByteArray) (w : World) :
    Calls Try.prog 77 #[.string s, .string p] w fun e w' => e = .returned (.bool (Lib.hasPrefix s.data.toList p.data.toList)) ∧ w = w' := by
  rw [← Lib.hasPrefix_of_take, ← Lib.size_eq, ← Lib.size_eq]
  go_enter Try.func77, Try.ntmps77
  go_wp2
  · rename_i h
    go_ret
    refine ⟨?_, rfl⟩
    show Ending.returned (Value.bool ((s.extract 0 p.size).toList == p.toList)) = _
    rw [Lib.extract_toList, Lib.toList_data]
    simp [h]
  · rename_i h
    go_ret
    refine ⟨?_, rfl⟩
    show Ending.returned (Value.bool false) = _
    simp [h]

theorem slCutPrefix (s p : ByteArray) (w : World) :
    Calls Try.prog 68 #[.string s, .string p] w fun e w' => e = .returned (.tuple #[.string ⟨(Lib.trimPrefix s.data.toList p.data.toList).toArray⟩, .bool (Lib.hasPrefix s.data.toList p.data.toList)]) ∧ w = w' := by
  by_cases h1 : p.size ≤ s.size
  · cases h2 : ((s.extract 0 p.size).toList == p.toList)
    · have hh : Lib.hasPrefix s.data.toList p.data.toList = false := by rw [← Lib.hasPrefix_raw, h2]; simp
      go_enter Try.func68, Try.ntmps68
      go_wp2_with (go_at_call 77; refine (slHasPrefix _ _ _).mono ?_; rintro e w' ⟨rfl, rfl⟩; rw [hh])
      go_ret2
      refine ⟨?_, rfl⟩
      rw [Lib.trimPrefix_miss s p (by rw [h2]; simp), hh]
      rfl
    · have hh : Lib.hasPrefix s.data.toList p.data.toList = true := by rw [← Lib.hasPrefix_raw, h2]; simp [h1]
      go_enter Try.func68, Try.ntmps68
      go_wp2_with (go_at_call 77; refine (slHasPrefix _ _ _).mono ?_; rintro e w' ⟨rfl, rfl⟩; rw [hh])
      go_ret2
      refine ⟨?_, rfl⟩
      rw [Lib.trimPrefix_hit s p h1 h2, hh]
      rfl
  · have hh : Lib.hasPrefix s.data.toList p.data.toList = false := by rw [← Lib.hasPrefix_raw]; simp [h1]
    go_enter Try.func68, Try.ntmps68
    go_wp2_with (go_at_call 77; refine (slHasPrefix _ _ _).mono ?_; rintro e w' ⟨rfl, rfl⟩; rw [hh])
    go_ret2
    refine ⟨?_, rfl⟩
    rw [Lib.trimPrefix_miss s p (by simp [h1]), hh]
    rfl

theorem strCutPrefix (s p : ByteArray) (w : World) :
    Calls Try.prog 42 #[.string s, .string p] w fun e w' => e = .returned (.tuple #[.string ⟨(Lib.trimPrefix s.data.toList p.data.toList).toArray⟩, .bool (Lib.hasPrefix s.data.toList p.data.toList)]) ∧ w = w' := by
  go_enter Try.func42, Try.ntmps42
  go_wp2_with (go_at_call 68; refine (slCutPrefix _ _ _).mono ?_; rintro e w' ⟨rfl, rfl⟩)
  go_ret2
  exact ⟨rfl, rfl⟩

/-- A text up to the first of a byte, and behind it. -/
def cut1 (c : UInt8) : List UInt8 → Option (List UInt8 × List UInt8)
  | [] => none
  | b :: l => if b == c then some ([], l) else (cut1 c l).map fun p => (b :: p.1, p.2)
theorem cut1_index (c : UInt8) : ∀ l : List UInt8, (cut1 c l = none ∧ Lib.indexByte l c = -1) ∨ ∃ i : Nat, i < l.length ∧ Lib.indexByte l c = i ∧ cut1 c l = some (l.take i, l.drop (i + 1))
  | [] => .inl ⟨rfl, rfl⟩
  | b :: l => by
    unfold cut1 Lib.indexByte
    by_cases hb : (b == c) = true
    · exact .inr ⟨0, by simp, by simp [hb], by simp [hb]⟩
    · have hb' : (b == c) = false := by simpa using hb
      rcases cut1_index c l with ⟨h1, h2⟩ | ⟨i, hi, h2, h1⟩
      · exact .inl ⟨by simp [hb', h1], by simp [hb', h2]⟩
      · refine .inr ⟨i + 1, by simp; omega, ?_, by simp [hb', h1]⟩
        have : ¬ ((i : Int) = -1) := by omega
        simp [hb', h2, this]
theorem cut1_sizes {c : UInt8} : ∀ {l x y : List UInt8}, cut1 c l = some (x, y) → l = x ++ c :: y := by
  intro l x y h
  rcases cut1_index c l with ⟨h1, _⟩ | ⟨i, hi, h2, h1⟩
  · rw [h1] at h; cases h
  · rw [h1] at h
    simp only [Option.some.injEq, Prod.mk.injEq] at h
    obtain ⟨rfl, rfl⟩ := h
    have : l[i]? = some c := by
      clear h1
      induction l generalizing i with
      | nil => simp at hi
      | cons b l ih =>
        unfold Lib.indexByte at h2
        by_cases hb : (b == c) = true
        · simp only [hb, if_true] at h2
          have : i = 0 := by omega
          subst this
          simpa using hb
        · have hb' : (b == c) = false := by simpa using hb
          simp only [hb', Bool.false_eq_true, if_false] at h2
          split at h2
          · omega
          · cases i with
            | zero => have := Lib.indexByte_ge l c; rename_i h3; simp at h3; omega
            | succ i => simpa using ih i (by simpa using hi) (by omega)
    have e : l[i] = c := by rw [List.getElem?_eq_getElem hi] at this; exact Option.some.inj this
    rw [← e, ← List.drop_eq_getElem_cons hi, List.take_append_drop]

theorem ret_idx {a b : Int} (h : a = b) : Ending.returned (.int .i64 a) = .returned (.int .i64 b) := by rw [h]

/-- Index at a substr of one byte. -/
theorem slIndexOne (s : ByteArray) (c : UInt8) (w : World) :
    Calls Try.prog 101 #[.string s, .string ⟨#[c]⟩] w fun e w' => e = .returned (.int .i64 (Lib.indexByte s.data.toList c)) ∧ w = w' := by
  have hback : ((c.toNat : Int)).toNat.toUInt8 = c := by simp
  go_enter Try.func101, Try.ntmps101
  go_wp2_with (go_at_call 76; refine (slIndexByte _ _ _).mono ?_; rintro e w' ⟨rfl, rfl⟩)
  · go_ret
    refine ⟨ret_idx ?_, rfl⟩
    have h : ([c] == s.toList) = true := by assumption
    rw [Lib.toList_data] at h
    have h' : [c] = s.data.toList := by simpa using h
    rw [← h']
    simp [Lib.indexByte]
  · go_ret
    exact ⟨rfl, rfl⟩

theorem slCut1 (s : ByteArray) (c : UInt8) (w : World) (hs : s.size ≤ 140737488351232) :
    Calls Try.prog 93 #[.string s, .string ⟨#[c]⟩] w fun e w' => e = .returned (match cut1 c s.data.toList with
      | some p => .tuple #[.string ⟨p.1.toArray⟩, .string ⟨p.2.toArray⟩, .bool true] | none => .tuple #[.string s, .string ⟨#[]⟩, .bool false]) ∧ ∃ n, w' = w.drewN n := by
  rcases cut1_index c s.data.toList with ⟨h1, h2⟩ | ⟨i, hi, h2, h1⟩
  · rw [h1]
    go_enter Try.func93, Try.ntmps93
    go_wp2_with (go_at_call 101; refine (slIndexOne _ _ _).mono ?_; rintro e w' ⟨rfl, rfl⟩; rw [h2])
    go_ret3
    exact ⟨rfl, 0, rfl⟩
  · rw [h1]
    have hi' : i < s.size := by rw [Lib.size_eq]; exact hi
    have e1 : s.extract 0 i = ⟨(s.data.toList.take i).toArray⟩ := by rw [Lib.extract_eq]; simp
    have e2 : s.extract (i + 1) s.size = ⟨(s.data.toList.drop (i + 1)).toArray⟩ := by
      rw [Lib.extract_eq, List.take_of_length_le (by simp)]
    have H1 := Lib.hid e1
    have H2 := Lib.hid e2
    clear e1 e2 h1
    have c1 : (0 : Int) ≤ (i : Int) := by omega
    have c2 : (i : Int) ≤ (s.size : Int) := by omega
    have c3 : (0 : Int) ≤ (i : Int) + 1 := by omega
    have c4 : (i : Int) + 1 ≤ (s.size : Int) := by omega
    go_enter Try.func93, Try.ntmps93
    go_wp2_with (go_at_call 101; refine (slIndexOne _ _ _).mono ?_; rintro e w' ⟨rfl, rfl⟩; rw [h2])
    go_quiet (fail)
    go_wp2
    go_ret3
    refine ⟨?_, _, rfl⟩
    rw [H1.out, H2.out]
    rfl
theorem strCut1 (s : ByteArray) (c : UInt8) (w : World) (hs : s.size ≤ 140737488351232) :
    Calls Try.prog 80 #[.string s, .string ⟨#[c]⟩] w fun e w' => e = .returned (match cut1 c s.data.toList with
      | some p => .tuple #[.string ⟨p.1.toArray⟩, .string ⟨p.2.toArray⟩, .bool true] | none => .tuple #[.string s, .string ⟨#[]⟩, .bool false]) ∧ ∃ n, w' = w.drewN n := by
  rcases hc : cut1 c s.data.toList with _ | p
  all_goals
    go_enter Try.func80, Try.ntmps80
    go_wp2_with (go_at_call 93; refine (slCut1 _ _ _ hs).mono ?_; rw [hc]; rintro e w' ⟨rfl, n, rfl⟩)
    go_ret3
    exact ⟨rfl, n, rfl⟩
end Go.Proofs.Ytmlkmhonpmnenaa
