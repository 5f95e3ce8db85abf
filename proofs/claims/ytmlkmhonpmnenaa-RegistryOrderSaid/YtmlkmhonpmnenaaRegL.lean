/- Plain laws for the registry's statements: bits, the greedy match, adding. No program in sight. -/
import Derived.Test.YtmlkmhonpmnenaaRegA
import Derived.Laws.BitsAllLaws
import Derived.Laws.BitsLemmas
namespace Go.Proofs.Ytmlkmhonpmnenaa
open Go.Lib

theorem ofInt_wrap (n : Int) : BitVec.ofInt 64 (IntKind.i64.wrap n) = BitVec.ofInt 64 n := by
  rw [IntKind.wrap_i64]
  apply BitVec.eq_of_toInt_eq
  simp only [BitVec.toInt_ofInt]
  simp only [Int.bmod_def]
  omega
theorem bits_and_def (a b : Int) : bits .and .i64 a b = IntKind.i64.wrap ((BitVec.ofInt 64 a &&& BitVec.ofInt 64 b).toNat : Int) := rfl
theorem ofInt_toNat (x : BitVec 64) : BitVec.ofInt 64 ((x.toNat : Nat) : Int) = x := by
  rw [BitVec.ofInt_natCast]
  exact BitVec.ofNat_toNat ..
theorem bits_and_assoc (a b c : Int) : bits .and .i64 (bits .and .i64 a b) c = bits .and .i64 a (bits .and .i64 b c) := by
  simp only [bits_and_def, ofInt_wrap, ofInt_toNat, BitVec.and_assoc]
theorem bits_zero_and (c : Int) : bits .and .i64 0 c = 0 := by
  rw [bits_and_def]
  have : BitVec.ofInt 64 0 &&& BitVec.ofInt 64 c = 0 := by
    rw [show (BitVec.ofInt 64 0) = (0#64) from rfl, BitVec.zero_and]; rfl
  rw [this]; rfl
theorem bits_and_127 : bits .and .i64 127 127 = 127 := by decide
theorem bits_and_range (a : Int) (n : Nat) (hn : n < 9223372036854775808) : 0 ≤ bits .and .i64 a (n : Int) ∧ bits .and .i64 a (n : Int) ≤ (n : Int) := by
  rw [bits_and_def, BitVec.toNat_and]
  have h1 : (BitVec.ofInt 64 (n : Int)).toNat = n := by
    rw [BitVec.ofInt_natCast, BitVec.toNat_ofNat]; exact Nat.mod_eq_of_lt (by omega)
  rw [h1]
  have h2 : (BitVec.ofInt 64 a).toNat &&& n ≤ n := Nat.and_le_right
  rw [IntKind.wrap_i64]
  omega

def onB (m : Int) (h : Hk) : Bool := h.bit == 0 || !(bits .and .i64 h.bit m == 0)
theorem onB_mask {m : Int} {h : Hk} (hon : onB (bits .and .i64 m 127) h = true) (hb : h.bit ≠ 0) : bits .and .i64 h.bit m ≠ 0 ∧ bits .and .i64 (bits .and .i64 h.bit m) 127 ≠ 0 := by
  have e : (h.bit == 0) = false := by simpa using hb
  unfold onB at hon
  rw [e, Bool.false_or, ← bits_and_assoc] at hon
  have h2 : bits .and .i64 (bits .and .i64 h.bit m) 127 ≠ 0 := by simpa using hon
  refine ⟨fun z => h2 ?_, h2⟩
  rw [z, bits_zero_and]
theorem onB_all {h : Hk} {x : Int} (hb : h.bit = bits .and .i64 x 127) : onB 127 h = true := by
  unfold onB
  have e : bits .and .i64 h.bit 127 = h.bit := by rw [hb, bits_and_assoc, bits_and_127]
  rw [e]
  cases h.bit == 0 <;> rfl

/-- What Add does. -/
def addB (L : List Hk) (h : Hk) : Bool := !h.name.isEmpty && !(L.any fun g => g.name == h.name)
def addL (L : List Hk) (h : Hk) : List Hk := if addB L h then L ++ [h] else L
theorem addL_dist {L : List Hk} (h : Hk) (hd : Dist L) : Dist (addL L h) := by
  unfold addL
  split
  · rename_i ha
    refine List.pairwise_append.2 ⟨hd, List.pairwise_singleton _ _, fun a m b hb => ?_⟩
    simp only [List.mem_singleton] at hb
    subst hb
    simp only [addB, Bool.and_eq_true, Bool.not_eq_true', List.any_eq_false] at ha
    have := ha.2 a m
    simpa using this
  · exact hd
theorem addL_len (L : List Hk) (h : Hk) : (addL L h).length ≤ L.length + 1 := by
  unfold addL; split <;> simp

/-- What For tells beside Sorted. -/
def trigB (b : Nat) (h : Hk) : Bool := h.trig.isEmpty || h.trig.any fun c => c.toNat == b
/-- The greedy match of those that a byte triggers, in order. -/
theorem match_step {s : List Hk} (hd : Dist s) (p : Hk → Bool) {i : Nat} (hi : i < s.length) :
    (∃ h : ((s.take i).filter p).length < (s.filter p).length, ((s.filter p)[((s.take i).filter p).length]).name = s[i].name) ↔ p s[i] = true := by
  have e : s.filter p = (s.take i).filter p ++ (s.drop i).filter p := by rw [← List.filter_append, List.take_append_drop]
  have e2 : s.drop i = s[i] :: s.drop (i + 1) := List.drop_eq_getElem_cons hi
  have hd2 : Dist (s[i] :: s.drop (i + 1)) := by rw [← e2]; exact hd.sublist (List.drop_sublist _ _)
  have hx := List.pairwise_cons.1 hd2
  have key : ∀ (n : Nat) (hn : n = ((s.take i).filter p).length), (∃ h : n < (s.filter p).length, ((s.filter p)[n]).name = s[i].name) ↔ p s[i] = true := by
    intro n hn
    rw [e2] at e
    cases hp : p s[i] with
    | true =>
      rw [List.filter_cons_of_pos hp] at e
      refine ⟨fun _ => rfl, fun _ => ?_⟩
      have hlt : n < (s.filter p).length := by rw [e, List.length_append, List.length_cons]; omega
      refine ⟨hlt, ?_⟩
      have h1 : (s.filter p)[n]? = some s[i] := by rw [e, List.getElem?_append_right (by omega), hn, Nat.sub_self]; rfl
      rw [List.getElem?_eq_getElem hlt] at h1
      injection h1 with h1
      rw [h1]
    | false =>
      rw [List.filter_cons_of_neg (by simp [hp])] at e
      refine ⟨fun ⟨hlt, hnm⟩ => ?_, fun h => by cases h⟩
      have h1 : (s.filter p)[n] ∈ (s.drop (i + 1)).filter p := by
        have h2 : (s.filter p)[n]? = ((s.drop (i + 1)).filter p)[0]? := by rw [e, List.getElem?_append_right (by omega), hn, Nat.sub_self]
        rw [List.getElem?_eq_getElem hlt] at h2
        exact List.mem_of_getElem? h2.symm
      exact absurd hnm.symm (hx.1 _ (List.mem_filter.1 h1).1)
  exact key _ rfl
theorem match_next {s : List Hk} (p : Hk → Bool) {i : Nat} (hi : i < s.length) : ((s.take (i + 1)).filter p).length = ((s.take i).filter p).length + if p s[i] then 1 else 0 := by
  rw [List.take_succ_eq_append_getElem hi, List.filter_append, List.length_append]
  cases h : p s[i] <;> simp [h]
theorem srt_lt {L : List Hk} (hd : Dist L) {i : Nat} (hi : i + 1 < (srt L).length) : ltH (srt L)[i] (srt L)[i + 1] :=
  List.pairwise_iff_getElem.1 (srt_sorted hd) i (i + 1) (by omega) hi (by omega)
end Go.Proofs.Ytmlkmhonpmnenaa
