import Derived.Test.YtmlkmhonpmnenaaLibB
import Derived.Lib.OthersKept
namespace Go.Proofs.Ytmlkmhonpmnenaa
open Go.RowKit

/-- The bytes of a character beyond ASCII are all beyond ASCII. -/
theorem decode_span (s : ByteArray) (pos : Nat) (h : pos < s.size) (ha : 128 ≤ (s[pos]'h).toNat) :
    pos + (Utf8.decode s pos).2 ≤ s.size ∧ ∀ j, j < (Utf8.decode s pos).2 → ∀ hj : pos + j < s.size, 128 ≤ (s[pos + j]'hj).toNat := by
  have hn : ¬ (s[pos]'h).toNat < 128 := by omega
  have hget : ∀ k (hk : pos + k < s.size), s.get! (pos + k) = s[pos + k]'hk := fun k hk => by
    show s.get! (pos + k) = _
    simp [ByteArray.get!, getElem!_pos, hk]
    rfl
  have h0 : ∀ hj : pos + 0 < s.size, 128 ≤ (s[pos + 0]'hj).toNat := fun _ => ha
  simp only [Utf8.decode, get_at s pos h, hn, if_false]
  have one : pos + 1 ≤ s.size ∧ ∀ j, j < 1 → ∀ hj : pos + j < s.size, 128 ≤ (s[pos + j]'hj).toNat := ⟨by omega, fun j hj => by
    obtain rfl : j = 0 := by omega
    exact h0⟩
  have cont : ∀ k, (decide (pos + k < s.size) && (s.get! (pos + k)).toNat / 64 == 2) = true → ∃ hk : pos + k < s.size, 128 ≤ (s[pos + k]'hk).toNat := fun k hk => by
    simp only [Bool.and_eq_true, decide_eq_true_eq, beq_iff_eq] at hk
    refine ⟨hk.1, ?_⟩
    rw [← hget k hk.1]
    omega
  split
  · rename_i hc
    simp only [Bool.and_eq_true] at hc
    obtain ⟨k1, c1⟩ := cont 1 (by simpa using hc.2)
    split
    · refine ⟨by show pos + 2 ≤ _; omega, fun j hj => ?_⟩
      replace hj : j < 2 := hj
      match j, hj with
      | 0, _ => exact h0
      | 1, _ => exact fun _ => c1
    · exact one
  · split
    · rename_i hc
      simp only [Bool.and_eq_true] at hc
      obtain ⟨k1, c1⟩ := cont 1 (by simpa using hc.1.2)
      obtain ⟨k2, c2⟩ := cont 2 (by simpa using hc.2)
      split
      · refine ⟨by show pos + 3 ≤ _; omega, fun j hj => ?_⟩
        replace hj : j < 3 := hj
        match j, hj with
        | 0, _ => exact h0
        | 1, _ => exact fun _ => c1
        | 2, _ => exact fun _ => c2
      · exact one
    · split
      · rename_i hc
        simp only [Bool.and_eq_true] at hc
        obtain ⟨k1, c1⟩ := cont 1 (by simpa using hc.1.1.2)
        obtain ⟨k2, c2⟩ := cont 2 (by simpa using hc.1.2)
        obtain ⟨k3, c3⟩ := cont 3 (by simpa using hc.2)
        split
        · refine ⟨by show pos + 4 ≤ _; omega, fun j hj => ?_⟩
          replace hj : j < 4 := hj
          match j, hj with
          | 0, _ => exact h0
          | 1, _ => exact fun _ => c1
          | 2, _ => exact fun _ => c2
          | 3, _ => exact fun _ => c3
        · exact one
      · exact one
theorem noAny_add {l chars : List UInt8} {i : Nat} (h : Lib.NoAny l chars i) (n : Nat) (hc : ∀ j, j < n → ∀ b, l[i + j]? = some b → chars.contains b = false) : Lib.NoAny l chars (i + n) := fun j b hj hb => by
  by_cases e : j < i
  · exact h j b e hb
  · have := hc (j - i) (by omega) b (by rw [show i + (j - i) = j by omega]; exact hb)
    exact this
theorem any_index (l chars : List UInt8) : decide (0 ≤ Lib.indexAny l chars) = l.any fun b => chars.contains b := by
  induction l with
  | nil => rfl
  | cons b l ih =>
    unfold Lib.indexAny
    have hge := Lib.indexAny_ge chars l
    rw [List.any_cons]
    cases hb : chars.contains b
    · rw [Bool.false_or, ← ih]
      simp only [Bool.false_eq_true, if_false]
      split
      · rename_i he
        have : Lib.indexAny l chars = -1 := by simpa using he
        rw [this]
      · rename_i he
        have : ¬ Lib.indexAny l chars = -1 := by simpa using he
        rw [decide_eq_decide]; omega
    · simp

theorem useSet (n : Int) (w : World) :
    Calls Try.prog 103 #[.int .i64 n] w fun e w' => e = .returned (.bool (decide (8 < n))) ∧ w = w' := by
  go_enter Try.func103, Try.ntmps103
  go_wp2
  go_ret
  exact ⟨rfl, rfl⟩

set_option maxHeartbeats 8000000 in
set_option maxRecDepth 1000000 in
theorem indexAny_short (s chars : ByteArray) (w : World) (h2 : 2 ≤ chars.size) (h8 : s.size ≤ 8) (h100 : chars.size ≤ 100) (hascii : ∀ b ∈ chars.data.toList, b.toNat < 128) :
    Calls Try.prog 94 #[.string s, .string chars] w fun e w' => e = .returned (.int .i64 (Lib.indexAny s.data.toList chars.data.toList)) ∧ Below w.heap.size w w' := by
  have HA := Lib.hid hascii
  clear hascii
  have hemp : chars.toList.isEmpty = false := by
    rw [Lib.toList_data]
    cases h : chars.data.toList with
    | nil => have := Lib.size_eq chars; rw [h, List.length_nil] at this; omega
    | cons _ _ => rfl
  have hn1 : ((chars.size : Int) == 1) = false := beq_eq_false_iff_ne.2 (by omega)
  have h8z : decide ((8 : Int) < (s.size : Int)) = false := decide_eq_false (by omega)
  go_enter Try.func94, Try.ntmps94
  go_wp2_with (go_at_call 103; refine (useSet _ _).mono ?_; rintro e w' ⟨rfl, rfl⟩; rw [h8z])
  go_loopg [9, 10] s.size (fun g _ _ wx => ∃ i : Nat, i + g = s.size ∧ wx.heap[w.heap.size]? = some (.stringIter s i) ∧ Below w.heap.size w wx ∧ Hid (Lib.NoAny s.data.toList chars.data.toList i))
  case atStart => exact ⟨0, by omega, World.iter_heap w s 0, (Below.refl _ _).alloc (Nat.le_refl _) _, Lib.NoAny.zero _ _⟩
  case round =>
    obtain ⟨i, hig, hit, hB, HN⟩ := hrel
    cases gk with
    | zero =>
      obtain rfl : i = s.size := by omega
      have hnx := fun ty => Lib.run_next_end_at (P := Try.prog) wr w.heap.size s s.size ty hit (by omega)
      have HIT := Lib.hid hit
      clear hit
      go_wp2
      go_ret
      exact ⟨by rw [Lib.indexAny_none (by rw [← Lib.size_eq]; exact HN.out)]; rfl, hB⟩
    | succ g =>
      have hi : i < s.size := by omega
      obtain ⟨x, hx⟩ : ∃ x : UInt8, s[i]'hi = x := ⟨_, rfl⟩
      have hxl : s.data.toList[i]? = some x := by rw [← hx]; exact Lib.data_getElem? s i hi
      have Hx := Lib.hid hxl
      clear hxl
      by_cases h128 : x.toNat < 128
      · have hnx := fun ty => Lib.run_next_ascii_at (P := Try.prog) wr w.heap.size s i ty hit hi (by rw [hx]; exact h128)
        rw [hx] at hnx
        have hit1 := Lib.iterAt_heap wr w.heap.size s i (i + 1) hit
        have hB1 := Lib.below_iterAt hB (Nat.le_refl _) s (i + 1)
        have HIT := Lib.hid hit1
        clear hx hit hit1 hB
        have hback : ((x.toNat : Int)).toNat.toUInt8 = x := by simp
        have hcon := Lib.contains_iff_indexByte chars.data.toList x
        cases hin : chars.data.toList.contains x
        · rw [hin] at hcon
          have hlt : ¬ ((0 : Int) ≤ Lib.indexByte chars.data.toList x) := of_decide_eq_false hcon.symm
          clear hcon
          go_wp2_with (go_at_call 102; refine (indexRune_ascii _ _ _ (by omega) (by omega)).mono ?_; rintro e w' ⟨rfl, hw⟩; rw [hw, hback])
          go_roundg g
          case measure => omega
          case rel => exact ⟨i + 1, by omega, HIT.out, hB1, HN.out.succ Hx.out hin⟩
        · rw [hin] at hcon
          have hge : (0 : Int) ≤ Lib.indexByte chars.data.toList x := of_decide_eq_true hcon.symm
          clear hcon
          go_wp2_with (go_at_call 102; refine (indexRune_ascii _ _ _ (by omega) (by omega)).mono ?_; rintro e w' ⟨rfl, hw⟩; rw [hw, hback])
          go_ret
          exact ⟨by rw [Lib.indexAny_hit HN.out Hx.out hin]; rfl, hB1⟩
      · have hnx := fun ty => Lib.run_next_any_at (P := Try.prog) wr w.heap.size s i ty hit hi
        obtain ⟨hd1, hd2⟩ := decode_high s i hi (by rw [hx]; omega)
        obtain ⟨hd3, hd4⟩ := decode_span s i hi (by rw [hx]; omega)
        generalize Utf8.decode s i = d at hnx hd1 hd2 hd3 hd4
        obtain ⟨r, n⟩ := d
        simp only at hnx hd1 hd2 hd3 hd4
        have hit1 := Lib.iterAt_heap wr w.heap.size s i (i + n) hit
        have hB1 := Lib.below_iterAt hB (Nat.le_refl _) s (i + n)
        have hsz : w.heap.size < (wr.iterAt w.heap.size s (i + n)).heap.size := (Array.getElem?_eq_some_iff.1 hit1).1
        have HD := Lib.hid hd4
        have HIT := Lib.hid hit1
        clear hx hit hit1 hB hd4
        go_wp2_with fail
        refine (indexRune_high chars r _ h100 HA.out (by omega)).mono ?_
        rintro e w3 ⟨rfl, hb3⟩
        have hit3 := (hb3.block w.heap.size hsz).trans HIT.out
        have hB3 := hB1.trans (hb3.mono (Nat.le_of_lt hsz))
        have HIT3 := Lib.hid hit3
        clear hb3 hit3 hB1 hsz HIT
        go_wp2
        go_roundg (g + 1 - n)
        case measure => omega
        case rel =>
          refine ⟨i + n, by omega, HIT3.out, hB3, noAny_add HN.out n fun j hj b hb => ?_⟩
          have hjs : i + j < s.size := by omega
          have hjb : s.data.toList[i + j]? = some (s[i + j]'hjs) := Lib.data_getElem? s (i + j) hjs
          rw [hjb] at hb
          obtain rfl := Option.some.inj hb
          have h128' := HD.out j hj hjs
          rw [List.contains_eq_any_beq, List.any_eq_false]
          intro c hc he
          have := HA.out c hc
          have e : s[i + j] = c := by simpa using he
          rw [e] at h128'
          omega

theorem info_set : (Try.prog.info? 136).map (fun i => (i.zero, i.size)) = some (some (.agg (Array.replicate 256 (.bool false))), 256) := by kernel_rfl
set_option maxRecDepth 1000000 in
theorem indexAny_any (s chars : ByteArray) (w : World) (hs : s.size ≤ 1073741824) (h2 : 2 ≤ chars.size) (h100 : chars.size ≤ 100) (ha : ∀ b ∈ chars.data.toList, b.toNat < 128) :
    Calls Try.prog 94 #[.string s, .string chars] w fun e w' => e = .returned (.int .i64 (Lib.indexAny s.data.toList chars.data.toList)) ∧ Below w.heap.size w w' := by
  by_cases h8 : s.size ≤ 8
  · exact indexAny_short s chars w h2 h8 h100 ha
  · refine (Any.strings_IndexAny_long Try.Lays_n153 (zero_of_info info_set).1 (zero_of_info info_set).2 s chars w h2 (by omega) (by omega) (by omega) (fun j b hb => ha b (List.mem_of_getElem? hb))).mono fun e w' ⟨h1, h2⟩ => ⟨h1, ?_⟩
    rw [h2]
    exact ((Below.refl _ _).alloc (Nat.le_refl _) _).alloc (by simp) _
set_option maxRecDepth 1000000 in
theorem containsAny_any (s chars : ByteArray) (w : World) (hs : s.size ≤ 1073741824) (h2 : 2 ≤ chars.size) (h100 : chars.size ≤ 100) (ha : ∀ b ∈ chars.data.toList, b.toNat < 128) :
    Calls Try.prog 81 #[.string s, .string chars] w fun e w' => e = .returned (.bool (s.data.toList.any fun b => chars.data.toList.contains b)) ∧ Below w.heap.size w w' := by
  rw [← any_index]
  go_enter Try.func81, Try.ntmps81
  go_wp2_with (go_at_call 94; refine (indexAny_any _ _ _ hs h2 h100 ha).mono ?_; rintro e w' ⟨rfl, hb⟩)
  go_ret
  exact ⟨rfl, hb⟩
end Go.Proofs.Ytmlkmhonpmnenaa
