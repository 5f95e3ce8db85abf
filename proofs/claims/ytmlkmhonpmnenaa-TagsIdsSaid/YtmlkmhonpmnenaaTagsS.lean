import Derived.Test.YtmlkmhonpmnenaaTagsR
import Derived.StillTailTactics
import Derived.Test.YtmlkmhonpmnenaaTagsE
namespace Go.Proofs.Ytmlkmhonpmnenaa
open Go.RowKit

def scanQ : List UInt8 → Option (List UInt8 × List UInt8)
  | [] => none
  | b :: l => if b == 60 || b == 62 then none else if b == 34 then some ([], l) else (scanQ l).map fun p => (b :: p.1, p.2)
theorem scanQ_eq : ∀ q : List UInt8, scanQ q = match cut1 34 q with | some (v, r) => if angled v = true then none else some (v, r) | none => none
  | [] => rfl
  | b :: l => by
    unfold scanQ cut1
    rw [scanQ_eq l]
    by_cases h34 : b = 34
    · subst h34; simp [angled]
    · have e34 : (b == 34) = false := by simpa using h34
      rw [e34]
      simp only [Bool.false_eq_true, if_false]
      rcases cut1 34 l with _ | ⟨v, r⟩
      · simp
      · have ha : angled (b :: v) = ((b == 60 || b == 62) || angled v) := rfl
        simp only [Option.map_some, ha]
        generalize (b == 60 || b == 62) = x
        generalize angled v = y
        cases x <;> cases y <;> rfl
theorem attrP_scan (l : List UInt8) : attrP l = if Lib.hasPrefix l [32] = true ∧ 0 < nameN true true (l.drop 1) ∧ Lib.hasPrefix ((l.drop 1).drop (nameN true true (l.drop 1))) [61, 34] = true then
    (scanQ (((l.drop 1).drop (nameN true true (l.drop 1))).drop 2)).map fun p => ((l.drop 1).take (nameN true true (l.drop 1)), p.1, p.2) else none := by
  unfold attrP
  split
  · rw [scanQ_eq]
    rcases cut1 34 (((l.drop 1).drop (nameN true true (l.drop 1))).drop 2) with _ | ⟨v, r⟩
    · rfl
    · simp only []
      split <;> rfl
  · rfl
theorem hp_one (c : UInt8) : ∀ l : List UInt8, Lib.hasPrefix l [c] = (match l with | [] => false | b :: _ => b == c)
  | [] => rfl
  | b :: l => by simp [Lib.hasPrefix, List.isPrefixOf]; exact Bool.beq_comm ..

set_option maxRecDepth 100000 in
set_option maxHeartbeats 4000000 in
theorem rattr_none0 (s : ByteArray) (w : World) (hs : s.size ≤ 1073741824) (h : Lib.hasPrefix s.data.toList [32] = false) :
    Calls Try.prog 47 #[.string s] w fun e w' => e = .returned (.tuple #[.agg #[.string ⟨#[]⟩, .string ⟨#[]⟩], .int .i64 0]) ∧ Below w.heap.size w w' := by
  rcases hl : s.data.toList with _ | ⟨b, q⟩
  · have hz : s.toList = [] := by rw [Lib.toList_data, hl]
    have hz' : s.toList.isEmpty = true := by rw [hz]; rfl
    clear hl h
    go_enter Try.func47, Try.ntmps47
    go_wp2
    refine bodyPost_ret (v := .tuple #[.agg #[.string ⟨#[]⟩, .string ⟨#[]⟩], .int .i64 0]) (by simp [results, Try.results47, go_sem]) rfl ⟨rfl, ?_⟩
    exact (by repeat (first | with_reducible refine below_drewN ?_ _ | with_reducible refine Below.drew ?_ | ((with_reducible refine Below.alloc ?_ ?_ _); rotate_left; focus (first | exact Nat.le_refl _ | omega | (simp; done) | (simp; omega))) | ((with_reducible refine Below.setCell ?_ ?_ _); rotate_left; focus (first | exact Nat.le_refl _ | omega | (simp; done) | (simp; omega))) | with_reducible exact Below.refl _ _ | with_reducible assumption))
  · have hz' : s.toList.isEmpty = false := by rw [Lib.toList_data, hl]; rfl
    have hsz : 0 < s.size := by rw [Lib.size_eq, hl]; simp
    have hb : s[0] = b := by
      have h1 := Lib.data_getElem? s 0 hsz
      rw [hl] at h1
      simpa using h1.symm
    rw [hl, hp_one] at h
    have hne : ((s[0].toNat : Int) != 32) = true := by
      rw [hb]; simp; intro e; apply (by simpa using h : ¬ b = 32); apply UInt8.toNat_inj.1; simpa using (by omega : b.toNat = 32)
    have hsz' : (0 : Int) < (s.size : Int) := by omega
    clear hl h hb
    go_enter Try.func47, Try.ntmps47
    go_wp2
    refine bodyPost_ret (v := .tuple #[.agg #[.string ⟨#[]⟩, .string ⟨#[]⟩], .int .i64 0]) (by simp [results, Try.results47, go_sem]) rfl ⟨rfl, ?_⟩
    exact (by repeat (first | with_reducible refine below_drewN ?_ _ | with_reducible refine Below.drew ?_ | ((with_reducible refine Below.alloc ?_ ?_ _); rotate_left; focus (first | exact Nat.le_refl _ | omega | (simp; done) | (simp; omega))) | ((with_reducible refine Below.setCell ?_ ?_ _); rotate_left; focus (first | exact Nat.le_refl _ | omega | (simp; done) | (simp; omega))) | with_reducible exact Below.refl _ _ | with_reducible assumption))

set_option maxRecDepth 100000 in
set_option maxHeartbeats 4000000 in
theorem rattr_none1 (s : ByteArray) (w : World) (hs : s.size ≤ 1073741824) (h : Lib.hasPrefix s.data.toList [32] = true)
    (h2 : ¬ (0 < nameN true true (s.data.toList.drop 1) ∧ Lib.hasPrefix ((s.data.toList.drop 1).drop (nameN true true (s.data.toList.drop 1))) [61, 34] = true)) :
    Calls Try.prog 47 #[.string s] w fun e w' => e = .returned (.tuple #[.agg #[.string ⟨#[]⟩, .string ⟨#[]⟩], .int .i64 0]) ∧ Below w.heap.size w w' := by
  rcases hl : s.data.toList with _ | ⟨b, q⟩
  · rw [hl] at h; cases h
  · have hz' : s.toList.isEmpty = false := by rw [Lib.toList_data, hl]; rfl
    have hsz : 0 < s.size := by rw [Lib.size_eq, hl]; simp
    have hb : s[0] = b := by
      have h1 := Lib.data_getElem? s 0 hsz
      rw [hl] at h1
      simpa using h1.symm
    rw [hl, hp_one] at h
    have hne : ((s[0].toNat : Int) != 32) = false := by
      rw [hb]; have hb32 : b = 32 := by simpa using h
      subst hb32; rfl
    have hsz' : (0 : Int) < (s.size : Int) := by omega
    have hsz1 : (1 : Int) ≤ (s.size : Int) := by omega
    have hext : (s.extract 1 s.size).data.toList = q := by rw [Lib.extract_data, hl, List.take_of_length_le (by rw [Lib.size_eq, hl]; simp)]; rfl
    have hql : q.length = s.size - 1 := by rw [Lib.size_eq, hl]; simp
    have hnl := nameN_le true true q
    rw [hl] at h2
    simp only [List.drop_succ_cons, List.drop_zero] at h2
    obtain ⟨n, hn⟩ : ∃ n, nameN true true q = n := ⟨_, rfl⟩
    rw [hn] at h2 hnl
    have HN := Lib.hid hn
    have HE := Lib.hid hext
    have hn1 : (1 : Int) + (n : Int) ≤ (s.size : Int) := by omega
    have hn0 : (0 : Int) ≤ 1 + (n : Int) := by omega
    have hext2 : (s.extract (1 + n) s.size).data.toList = q.drop n := by
      rw [Lib.extract_data, hl, List.take_of_length_le (by rw [Lib.size_eq, hl]; simp), Nat.add_comm 1 n]; rfl
    have HE2 := Lib.hid hext2
    clear hn hext hl h hb hext2
    go_enter Try.func47, Try.ntmps47
    go_wp2_with fail
    refine (rname_any true _ _ (by rw [Lib.size_eq, HE.out]; omega)).mono ?_
    rw [HE.out, HN.out]
    rintro e w' ⟨rfl, rfl⟩
    by_cases hz : n = 0
    · subst hz
      go_wp2
      refine bodyPost_ret (v := .tuple #[.agg #[.string ⟨#[]⟩, .string ⟨#[]⟩], .int .i64 0]) (by simp [results, Try.results47, go_sem]) rfl ⟨rfl, ?_⟩
      exact (by repeat (first | with_reducible refine below_drewN ?_ _ | with_reducible refine Below.drew ?_ | ((with_reducible refine Below.alloc ?_ ?_ _); rotate_left; focus (first | exact Nat.le_refl _ | omega | (simp; done) | (simp; omega))) | ((with_reducible refine Below.setCell ?_ ?_ _); rotate_left; focus (first | exact Nat.le_refl _ | omega | (simp; done) | (simp; omega))) | with_reducible exact Below.refl _ _ | with_reducible assumption))
    · have hp : Lib.hasPrefix (q.drop n) [61, 34] = false := by
        rcases hp : Lib.hasPrefix (q.drop n) [61, 34] with _ | _
        · rfl
        · exact absurd ⟨by omega, hp⟩ h2
      have HP := Lib.hid hp
      have hnz : ((n : Int) == 0) = false := by simp; omega
      clear h2 hp
      go_wp2_with fail
      refine (begins_any _ _ _).mono ?_
      rw [HE2.out]
      rintro e w' ⟨rfl, rfl⟩
      rw [show (⟨#[61, 34]⟩ : ByteArray).data.toList = [61, 34] from rfl, HP.out]
      go_wp2
      refine bodyPost_ret (v := .tuple #[.agg #[.string ⟨#[]⟩, .string ⟨#[]⟩], .int .i64 0]) (by simp [results, Try.results47, go_sem]) rfl ⟨rfl, ?_⟩
      exact (by repeat (first | with_reducible refine below_drewN ?_ _ | with_reducible refine Below.drew ?_ | ((with_reducible refine Below.alloc ?_ ?_ _); rotate_left; focus (first | exact Nat.le_refl _ | omega | (simp; done) | (simp; omega))) | ((with_reducible refine Below.setCell ?_ ?_ _); rotate_left; focus (first | exact Nat.le_refl _ | omega | (simp; done) | (simp; omega))) | with_reducible exact Below.refl _ _ | with_reducible assumption))
end Go.Proofs.Ytmlkmhonpmnenaa
