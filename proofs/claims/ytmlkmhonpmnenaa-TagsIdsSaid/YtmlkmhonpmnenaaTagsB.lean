import Derived.Test.YtmlkmhonpmnenaaTagsA
import Derived.Test.YtmlkmhonpmnenaaLibC
import Derived.WalkSmall
namespace Go.Proofs.Ytmlkmhonpmnenaa
open Go.RowKit

theorem mkb_size (l : List UInt8) : (⟨l.toArray⟩ : ByteArray).size = l.length := by simp [ByteArray.size]
theorem mkb_toList (l : List UInt8) : (⟨l.toArray⟩ : ByteArray).data.toList = l := by simp
theorem mkb_extract0 (l : List UInt8) (n : Nat) : (⟨l.toArray⟩ : ByteArray).extract 0 n = ⟨(l.take n).toArray⟩ := by rw [Lib.extract_eq]; simp
theorem mkb_extract (l : List UInt8) (n : Nat) : (⟨l.toArray⟩ : ByteArray).extract n (⟨l.toArray⟩ : ByteArray).size = ⟨(l.drop n).toArray⟩ := by
  rw [Lib.extract_eq, mkb_toList, mkb_size, List.take_of_length_le (by simp)]
theorem named_l (dash : Bool) (l : List UInt8) (w : World) (hs : l.length ≤ 140737488351232) :
    Calls Try.prog 69 #[.string ⟨l.toArray⟩, .bool dash] w fun e w' => e = .returned (.tuple #[.string ⟨(l.take (nameN dash true l)).toArray⟩, .string ⟨(l.drop (nameN dash true l)).toArray⟩]) ∧ ∃ n, w' = w.drewN n := by
  cases dash
  · refine (named_false ⟨l.toArray⟩ w (by rw [mkb_size]; exact hs)).mono ?_
    rintro e w' ⟨rfl, n, rfl⟩
    rw [mkb_extract0, mkb_extract, mkb_toList]
    exact ⟨rfl, n, rfl⟩
  · refine (named_true ⟨l.toArray⟩ w (by rw [mkb_size]; exact hs)).mono ?_
    rintro e w' ⟨rfl, n, rfl⟩
    rw [mkb_extract0, mkb_extract, mkb_toList]
    exact ⟨rfl, n, rfl⟩
theorem cutPrefix_l (l p : List UInt8) (w : World) :
    Calls Try.prog 42 #[.string ⟨l.toArray⟩, .string ⟨p.toArray⟩] w fun e w' => e = .returned (.tuple #[.string ⟨(Lib.trimPrefix l p).toArray⟩, .bool (Lib.hasPrefix l p)]) ∧ w = w' := by
  refine (strCutPrefix ⟨l.toArray⟩ ⟨p.toArray⟩ w).mono ?_
  rintro e w' ⟨rfl, rfl⟩
  rw [mkb_toList, mkb_toList]
  exact ⟨rfl, rfl⟩

theorem cut1_l (l : List UInt8) (c : UInt8) (w : World) (hs : l.length ≤ 140737488351232) :
    Calls Try.prog 80 #[.string ⟨l.toArray⟩, .string ⟨#[c]⟩] w fun e w' => e = .returned (match cut1 c l with
      | some p => .tuple #[.string ⟨p.1.toArray⟩, .string ⟨p.2.toArray⟩, .bool true] | none => .tuple #[.string ⟨l.toArray⟩, .string ⟨#[]⟩, .bool false]) ∧ ∃ n, w' = w.drewN n := by
  have := strCut1 ⟨l.toArray⟩ c w (by rw [mkb_size]; exact hs)
  rw [mkb_toList] at this
  exact this

/-- An attribute's value: no "<" and no ">". -/
def angled (v : List UInt8) : Bool := v.any fun b => b == 60 || b == 62
/-- tags.attribute: name, value, what is left. -/
def attrP (l : List UInt8) : Option (List UInt8 × List UInt8 × List UInt8) :=
  if Lib.hasPrefix l [32] = true ∧ 0 < nameN true true (l.drop 1) ∧ Lib.hasPrefix ((l.drop 1).drop (nameN true true (l.drop 1))) [61, 34] = true then
    match cut1 34 (((l.drop 1).drop (nameN true true (l.drop 1))).drop 2) with
    | some (v, rest) => if angled v = true then none else some ((l.drop 1).take (nameN true true (l.drop 1)), v, rest)
    | none => none
  else none
def attrV (l : List UInt8) : Value := match attrP l with
  | some (n, v, r) => .tuple #[.agg #[.string ⟨n.toArray⟩, .string ⟨v.toArray⟩], .string ⟨r.toArray⟩, .bool true]
  | none => .tuple #[.agg #[.string ⟨#[]⟩, .string ⟨#[]⟩], .string ⟨l.toArray⟩, .bool false]
theorem containsAny_l (l : List UInt8) (w : World) (hs : l.length ≤ 1073741824) :
    Calls Try.prog 81 #[.string ⟨l.toArray⟩, .string ⟨#[60, 62]⟩] w fun e w' => e = .returned (.bool (angled l)) ∧ Below w.heap.size w w' := by
  refine (containsAny_any ⟨l.toArray⟩ ⟨#[60, 62]⟩ w (by rw [mkb_size]; exact hs) (by decide) (by decide) (by decide)).mono ?_
  rintro e w' ⟨rfl, h⟩
  refine ⟨?_, h⟩
  have : (fun b : UInt8 => [60, 62].contains b) = fun b => b == 60 || b == 62 := by funext b; simp; rfl
  rw [mkb_toList]
  show Ending.returned (.bool (l.any fun b => [60, 62].contains b)) = _
  rw [this]; rfl

theorem attrV_of {l r0 nm q r1 : List UInt8} {ok0 ok1 : Bool} (h0 : Lib.trimPrefix l [32] = r0) (h1 : Lib.hasPrefix l [32] = ok0) (h2 : r0.take (nameN true true r0) = nm) (h3 : r0.drop (nameN true true r0) = q)
    (h4 : Lib.trimPrefix q [61, 34] = r1) (h5 : Lib.hasPrefix q [61, 34] = ok1) :
    attrV l = match cut1 34 r1 with
      | some (v, rest) => if ok0 = true ∧ ¬ nm = [] ∧ ok1 = true ∧ angled v = false then .tuple #[.agg #[.string ⟨nm.toArray⟩, .string ⟨v.toArray⟩], .string ⟨rest.toArray⟩, .bool true] else .tuple #[.agg #[.string ⟨#[]⟩, .string ⟨#[]⟩], .string ⟨l.toArray⟩, .bool false]
      | none => .tuple #[.agg #[.string ⟨#[]⟩, .string ⟨#[]⟩], .string ⟨l.toArray⟩, .bool false] := by
  subst h0 h1 h2 h3 h4 h5
  unfold attrV attrP
  by_cases c0 : Lib.hasPrefix l [32] = true
  · have e0 : Lib.trimPrefix l [32] = l.drop 1 := by simp [Lib.trimPrefix, c0]
    rw [e0]
    have e1 : (0 < nameN true true (l.drop 1)) ↔ ¬ (l.drop 1).take (nameN true true (l.drop 1)) = [] := by
      rw [List.take_eq_nil_iff]
      constructor
      · rintro h (h' | h')
        · omega
        · rw [h'] at h; simp [nameN] at h
      · intro h
        have : ¬ nameN true true (l.drop 1) = 0 := fun e => h (.inl e)
        omega
    by_cases c1 : ¬ (l.drop 1).take (nameN true true (l.drop 1)) = []
    · by_cases c2 : Lib.hasPrefix ((l.drop 1).drop (nameN true true (l.drop 1))) [61, 34] = true
      · have e2 : Lib.trimPrefix ((l.drop 1).drop (nameN true true (l.drop 1))) [61, 34] = ((l.drop 1).drop (nameN true true (l.drop 1))).drop 2 := by rw [Lib.trimPrefix, c2]; rfl
        rw [if_pos ⟨c0, e1.2 c1, c2⟩, e2]
        rcases cut1 34 (((l.drop 1).drop (nameN true true (l.drop 1))).drop 2) with _ | ⟨v, rest⟩
        · rfl
        · cases hv : angled v
          · simp only [hv, Bool.false_eq_true, if_false]; rw [if_pos ⟨c0, c1, c2, trivial⟩]
          · simp only [hv, if_true]; rw [if_neg (by simp)]
      · rw [if_neg (fun h => c2 h.2.2)]
        rcases cut1 34 (Lib.trimPrefix ((l.drop 1).drop (nameN true true (l.drop 1))) [61, 34]) with _ | ⟨v, rest⟩
        · rfl
        · simp only []; rw [if_neg (fun h => c2 h.2.2.1)]
    · rw [if_neg (fun h => c1 (e1.1 h.2.1))]
      rcases cut1 34 (Lib.trimPrefix ((l.drop 1).drop (nameN true true (l.drop 1))) [61, 34]) with _ | ⟨v, rest⟩
      · rfl
      · simp only []; rw [if_neg (fun h => c1 h.2.1)]
  · rw [if_neg (fun h => c0 h.1)]
    generalize Lib.trimPrefix (List.drop (nameN true true (Lib.trimPrefix l [32])) (Lib.trimPrefix l [32])) [61, 34] = zz
    rcases cut1 34 zz with _ | ⟨v, rest⟩
    · rfl
    · simp only []; rw [if_neg (fun h => c0 h.1)]

set_option maxRecDepth 100000 in
set_option maxHeartbeats 2000000 in
theorem attribute_any (l : List UInt8) (w : World) (hs : l.length ≤ 1073741824) :
    Calls Try.prog 70 #[.string ⟨l.toArray⟩] w fun e w' => e = .returned (attrV l) ∧ Below w.heap.size w w' := by
  go_enter Try.func70, Try.ntmps70
  go_wp2_with fail
  refine (cutPrefix_l l [32] _).mono ?_
  rintro e w' ⟨rfl, rfl⟩
  generalize hr0 : Lib.trimPrefix l [32] = r0
  generalize ho0 : Lib.hasPrefix l [32] = ok0
  have h0 : r0.length ≤ 1073741824 := by rw [← hr0]; exact Nat.le_trans (Lib.trimPrefix_le _ _) hs
  have HR0 := Lib.hid hr0
  have HO0 := Lib.hid ho0
  clear hr0 ho0
  go_wp2_with fail
  refine (named_l true r0 _ (by omega)).mono ?_
  rintro e w' ⟨rfl, n, rfl⟩
  generalize hn : r0.take (nameN true true r0) = nm
  generalize hq : r0.drop (nameN true true r0) = q
  have hql : q.length ≤ 1073741824 := by rw [← hq]; simp; omega
  have HN := Lib.hid hn
  have HQ := Lib.hid hq
  clear hn hq
  go_wp2_with fail
  refine (cutPrefix_l q [61, 34] _).mono ?_
  rintro e w' ⟨rfl, rfl⟩
  generalize hr1 : Lib.trimPrefix q [61, 34] = r1
  generalize ho1 : Lib.hasPrefix q [61, 34] = ok1
  have h1 : r1.length ≤ 1073741824 := by rw [← hr1]; exact Nat.le_trans (Lib.trimPrefix_le _ _) hql
  have HV := Lib.hid (attrV_of HR0.out HO0.out HN.out HQ.out hr1 ho1)
  clear hr1 ho1 HR0 HO0 HQ HN
  go_wp2_with fail
  have HCUT := Lib.hid (cut1_l r1 34 ((w.alloc (Obj.cells #[Value.string { data := #[] }, Value.string { data := #[] }] 71)).drewN n) (by omega))
  rcases hc : cut1 34 r1 with _ | ⟨v, rest⟩
  · rw [hc] at HV HCUT
    clear hc
    refine HCUT.out.mono ?_
    rintro e w' ⟨rfl, k, rfl⟩
    clear HCUT
    cases ok0 <;> cases ok1 <;> by_cases hnm : nm = []
    all_goals (try subst hnm)
    all_goals go_wp2
    all_goals refine bodyPost_ret (v := .tuple #[.agg #[.string ⟨#[]⟩, .string ⟨#[]⟩], .string ⟨l.toArray⟩, .bool false]) (by simp [results, Try.results70, go_sem]) rfl ⟨by rw [HV.out], ?_⟩
    all_goals exact (by repeat (first | with_reducible refine below_drewN ?_ _ | with_reducible refine Below.drew ?_ | ((with_reducible refine Below.alloc ?_ ?_ _); rotate_left; focus (first | exact Nat.le_refl _ | omega | (simp; done) | (simp; omega))) | ((with_reducible refine Below.setCell ?_ ?_ _); rotate_left; focus (first | exact Nat.le_refl _ | omega | (simp; done) | (simp; omega))) | with_reducible exact Below.refl _ _ | with_reducible assumption))
  · have HC := Lib.hid hc
    rw [hc] at HV HCUT
    clear hc
    have hvl : v.length ≤ 1073741824 := by
      have h2 := congrArg List.length (cut1_sizes HC.out)
      simp at h2
      omega
    clear HC
    refine HCUT.out.mono ?_
    rintro e w' ⟨rfl, k, rfl⟩
    clear HCUT
    by_cases hgood : ok0 = true ∧ ok1 = true ∧ ¬ nm = []
    · obtain ⟨rfl, rfl, hnm⟩ := hgood
      have hnm' : nm.isEmpty = false := by simpa using hnm
      go_wp2_with fail
      refine (containsAny_l v _ hvl).mono ?_
      rintro e w2 ⟨rfl, hb⟩
      have hz : w.heap.size < w2.heap.size := by have := hb.size; simp at this; omega
      have c0 : w2.cell? ⟨w.heap.size, 0, none⟩ = some (.string ⟨#[]⟩) := (hb.cell (p := ⟨w.heap.size, 0, none⟩) (by simp)).trans (by simp [go_sem])
      have c1 : w2.cell? ⟨w.heap.size, 1, none⟩ = some (.string ⟨#[]⟩) := (hb.cell (p := ⟨w.heap.size, 1, none⟩) (by simp)).trans (by simp [go_sem])
      have f0 : w2.frozen? ⟨w.heap.size, 0, none⟩ = false := (hb.frozen (p := ⟨w.heap.size, 0, none⟩) (by simp)).trans (by simp [go_sem])
      have f1 : w2.frozen? ⟨w.heap.size, 1, none⟩ = false := (hb.frozen (p := ⟨w.heap.size, 1, none⟩) (by simp)).trans (by simp [go_sem])
      have hB : Below w.heap.size w w2 := Below.trans (b := (w.alloc (Obj.cells #[Value.string { data := #[] }, Value.string { data := #[] }] 71)).drewN (n + k)) (by repeat (first | with_reducible refine below_drewN ?_ _ | with_reducible refine Below.drew ?_ | ((with_reducible refine Below.alloc ?_ ?_ _); rotate_left; focus (first | exact Nat.le_refl _ | omega | (simp; done) | (simp; omega))) | ((with_reducible refine Below.setCell ?_ ?_ _); rotate_left; focus (first | exact Nat.le_refl _ | omega | (simp; done) | (simp; omega))) | with_reducible exact Below.refl _ _ | with_reducible assumption)) (hb.mono (by simp))
      clear hb
      cases ha : angled v
      · rw [ha] at HV
        go_wp2
        refine bodyPost_ret (v := .tuple #[.agg #[.string ⟨nm.toArray⟩, .string ⟨v.toArray⟩], .string ⟨rest.toArray⟩, .bool true]) (by simp [results, Try.results70, go_sem, c0, c1]) rfl ⟨by rw [HV.out]; simp [hnm], ?_⟩
        exact (by repeat (first | with_reducible refine below_drewN ?_ _ | with_reducible refine Below.drew ?_ | ((with_reducible refine Below.alloc ?_ ?_ _); rotate_left; focus (first | exact Nat.le_refl _ | omega | (simp; done) | (simp; omega))) | ((with_reducible refine Below.setCell ?_ ?_ _); rotate_left; focus (first | exact Nat.le_refl _ | omega | (simp; done) | (simp; omega))) | with_reducible exact Below.refl _ _ | with_reducible assumption))
      · rw [ha] at HV
        go_wp2
        refine bodyPost_ret (v := .tuple #[.agg #[.string ⟨#[]⟩, .string ⟨#[]⟩], .string ⟨l.toArray⟩, .bool false]) (by simp [results, Try.results70, go_sem, c0, c1]) rfl ⟨by rw [HV.out]; simp, ?_⟩
        exact (by repeat (first | with_reducible refine below_drewN ?_ _ | with_reducible refine Below.drew ?_ | ((with_reducible refine Below.alloc ?_ ?_ _); rotate_left; focus (first | exact Nat.le_refl _ | omega | (simp; done) | (simp; omega))) | ((with_reducible refine Below.setCell ?_ ?_ _); rotate_left; focus (first | exact Nat.le_refl _ | omega | (simp; done) | (simp; omega))) | with_reducible exact Below.refl _ _ | with_reducible assumption))
    · have hv : attrV l = .tuple #[.agg #[.string ⟨#[]⟩, .string ⟨#[]⟩], .string ⟨l.toArray⟩, .bool false] := by
        rw [HV.out]; simp only []; rw [if_neg (fun h => hgood ⟨h.1, h.2.2.1, h.2.1⟩)]
      have HV2 := Lib.hid hv
      clear hv HV
      cases ok0 <;> cases ok1 <;> by_cases hnm : nm = []
      all_goals first | (exfalso; exact hgood ⟨rfl, rfl, hnm⟩) | skip
      all_goals clear hgood
      all_goals (try subst hnm)
      all_goals go_wp2
      all_goals refine bodyPost_ret (v := .tuple #[.agg #[.string ⟨#[]⟩, .string ⟨#[]⟩], .string ⟨l.toArray⟩, .bool false]) (by simp [results, Try.results70, go_sem]) rfl ⟨by rw [HV2.out], ?_⟩
      all_goals exact (by repeat (first | with_reducible refine below_drewN ?_ _ | with_reducible refine Below.drew ?_ | ((with_reducible refine Below.alloc ?_ ?_ _); rotate_left; focus (first | exact Nat.le_refl _ | omega | (simp; done) | (simp; omega))) | ((with_reducible refine Below.setCell ?_ ?_ _); rotate_left; focus (first | exact Nat.le_refl _ | omega | (simp; done) | (simp; omega))) | with_reducible exact Below.refl _ _ | with_reducible assumption))
end Go.Proofs.Ytmlkmhonpmnenaa
