/- Plain law for the registry: hooks, their order, the sorted list of hooks of unlike names. No program in sight. -/
import Derived.Sort.Walk0
import Derived.Shelf.SlSortCmp.InsertionK
import Derived.Lib.Small
namespace Go.Proofs.Ytmlkmhonpmnenaa
open Go.Lib

structure Hk where
  name : List UInt8
  phase : Int
  prio : Int
  trig : List UInt8
  bit : Int
instance : Inhabited Hk := ⟨⟨[], 0, 0, [], 0⟩⟩

def sLess (x y : List UInt8) : Bool := Op.bytesLess x y
theorem sLess_irrefl : ∀ x, sLess x x = false
  | [] => rfl
  | a :: x => by
    have h := sLess_irrefl x
    unfold sLess at h ⊢
    simp [Op.bytesLess, h, UInt8.lt_irrefl]
theorem sLess_cons (a b : UInt8) (x y : List UInt8) : sLess (a :: x) (b :: y) = true ↔ a.toNat < b.toNat ∨ (a.toNat = b.toNat ∧ sLess x y = true) := by
  unfold sLess
  simp only [Op.bytesLess, Bool.or_eq_true, Bool.and_eq_true, decide_eq_true_eq, beq_iff_eq, UInt8.lt_iff_toNat_lt, ← UInt8.toNat_inj]
theorem sLess_nil (x : List UInt8) : sLess x [] = false := by cases x <;> rfl
theorem sLess_nil_cons (b : UInt8) (y : List UInt8) : sLess [] (b :: y) = true := rfl
theorem sLess_trans : ∀ x y z, sLess x y = true → sLess y z = true → sLess x z = true
  | _, _, [], _, h => by rw [sLess_nil] at h; cases h
  | _, [], _ :: _, h, _ => by rw [sLess_nil] at h; cases h
  | [], _ :: _, _ :: _, _, _ => rfl
  | a :: x, b :: y, c :: z, h1, h2 => by
    rw [sLess_cons] at *
    rcases h1 with h1 | ⟨h1, k1⟩ <;> rcases h2 with h2 | ⟨h2, k2⟩
    · left; omega
    · left; omega
    · left; omega
    · right; exact ⟨by omega, sLess_trans x y z k1 k2⟩
theorem sLess_total : ∀ x y, sLess x y = false → sLess y x = false → x = y
  | [], [], _, _ => rfl
  | [], _ :: _, h, _ => by cases h
  | _ :: _, [], _, h => by cases h
  | a :: x, b :: y, h1, h2 => by
    have h1' : ¬ sLess (a :: x) (b :: y) = true := by rw [h1]; simp
    have h2' : ¬ sLess (b :: y) (a :: x) = true := by rw [h2]; simp
    rw [sLess_cons] at h1' h2'
    have e : a.toNat = b.toNat := by omega
    have hx : sLess x y = false := by cases h : sLess x y <;> simp_all
    have hy : sLess y x = false := by cases h : sLess y x <;> simp_all
    rw [sLess_total x y hx hy, UInt8.toNat_inj.1 e]
theorem sLess_asymm {x y : List UInt8} (h : sLess x y = true) : sLess y x = false := by
  cases h' : sLess y x with
  | false => rfl
  | true => have := sLess_trans x y x h h'; rw [sLess_irrefl] at this; cases this

/-- 'cmp.Compare[string]'. -/
def cmpS (x y : List UInt8) : Int := if sLess x y then -1 else if sLess y x then 1 else 0
/-- The closure of close: by priority, then by name. -/
def cfH (a b : Hk) : Int := if compareInt a.prio b.prio = 0 then cmpS a.name b.name else compareInt a.prio b.prio
def ltH (a b : Hk) : Prop := a.prio < b.prio ∨ (a.prio = b.prio ∧ sLess a.name b.name = true)
theorem compareInt_zero (x y : Int) : compareInt x y = 0 ↔ x = y := by
  unfold compareInt
  split
  · omega
  · split <;> omega
theorem ltOf_iff (a b : Hk) : ltOf cfH a b = true ↔ ltH a b := by
  unfold ltOf cfH ltH
  simp only [decide_eq_true_eq]
  by_cases h : a.prio = b.prio
  · rw [if_pos ((compareInt_zero _ _).2 h)]
    unfold cmpS
    cases h1 : sLess a.name b.name
    · cases h2 : sLess b.name a.name <;> simp [h]
    · simp [h]
  · rw [if_neg (fun e => h ((compareInt_zero _ _).1 e))]
    unfold compareInt
    by_cases h1 : a.prio < b.prio
    · simp [h1]
    · simp [h1, h]; split <;> simp
theorem ltH_irrefl (a : Hk) : ¬ ltH a a := by
  rintro (h | ⟨_, h⟩)
  · omega
  · rw [sLess_irrefl] at h; cases h
theorem ltH_trans {a b c : Hk} (h1 : ltH a b) (h2 : ltH b c) : ltH a c := by
  unfold ltH at *
  rcases h1 with h1 | ⟨h1, k1⟩ <;> rcases h2 with h2 | ⟨h2, k2⟩
  · left; omega
  · left; omega
  · left; omega
  · right; exact ⟨by omega, sLess_trans _ _ _ k1 k2⟩
theorem ltH_total {a b : Hk} (h1 : ¬ ltH a b) (h2 : ¬ ltH b a) : a.prio = b.prio ∧ a.name = b.name := by
  unfold ltH at *
  have e : a.prio = b.prio := by omega
  refine ⟨e, sLess_total _ _ ?_ ?_⟩
  · cases h : sLess a.name b.name
    · rfl
    · exact absurd (.inr ⟨e, h⟩) h1
  · cases h : sLess b.name a.name
    · rfl
    · exact absurd (.inr ⟨e.symm, h⟩) h2
theorem swoH : Sort.SWO (ltOf cfH) where
  irrefl x := by
    cases h : ltOf cfH x x
    · rfl
    · exact absurd ((ltOf_iff _ _).1 h) (ltH_irrefl x)
  trans x y z h1 h2 := (ltOf_iff _ _).2 (ltH_trans ((ltOf_iff _ _).1 h1) ((ltOf_iff _ _).1 h2))
  ntrans x y z h1 h2 := by
    have n1 : ¬ ltH x y := fun h => by rw [(ltOf_iff _ _).2 h] at h1; cases h1
    have n2 : ¬ ltH y z := fun h => by rw [(ltOf_iff _ _).2 h] at h2; cases h2
    cases h : ltOf cfH x z
    · rfl
    · exfalso
      have h := (ltOf_iff _ _).1 h
      by_cases a : ltH y x
      · exact n2 (ltH_trans a h)
      · obtain ⟨e1, e2⟩ := ltH_total n1 a
        apply n2
        unfold ltH at h ⊢
        rw [← e1, ← e2]; exact h

/-! ### the sorted list -/
def Dist (l : List Hk) : Prop := l.Pairwise fun a b => a.name ≠ b.name
def insH (x : Hk) : List Hk → List Hk
  | [] => [x]
  | y :: l => if ltOf cfH x y then x :: y :: l else y :: insH x l
def srt : List Hk → List Hk
  | [] => []
  | x :: l => insH x (srt l)
theorem insH_perm (x : Hk) : ∀ l, (insH x l).Perm (x :: l)
  | [] => List.Perm.refl _
  | y :: l => by
    unfold insH
    split
    · exact List.Perm.refl _
    · exact ((insH_perm x l).cons y).trans (List.Perm.swap x y l)
theorem srt_perm : ∀ l, (srt l).Perm l
  | [] => List.Perm.refl _
  | x :: l => (insH_perm x (srt l)).trans ((srt_perm l).cons x)
theorem Dist.perm {l l' : List Hk} (h : Dist l) (p : l.Perm l') : Dist l' := p.pairwise h (fun hab => Ne.symm hab)
theorem insH_sorted {x : Hk} : ∀ {l : List Hk}, l.Pairwise ltH → (∀ y ∈ l, x.name ≠ y.name) → (insH x l).Pairwise ltH
  | [], _, _ => List.pairwise_singleton _ _
  | y :: l, h, hd => by
    have hy := List.pairwise_cons.1 h
    unfold insH
    by_cases c : ltOf cfH x y = true
    · rw [if_pos c]
      have hxy := (ltOf_iff _ _).1 c
      refine List.pairwise_cons.2 ⟨fun z hz => ?_, h⟩
      rcases List.mem_cons.1 hz with rfl | hz
      · exact hxy
      · exact ltH_trans hxy (hy.1 z hz)
    · rw [if_neg c]
      refine List.pairwise_cons.2 ⟨fun z hz => ?_, insH_sorted hy.2 (fun z hz => hd z (List.mem_cons_of_mem _ hz))⟩
      rcases List.mem_cons.1 ((insH_perm x l).mem_iff.1 hz) with rfl | hz
      · apply Classical.byContradiction
        intro n
        have nc : ¬ ltH z y := fun h => c ((ltOf_iff _ _).2 h)
        exact hd y (List.mem_cons_self ..) (ltH_total nc n).2
      · exact hy.1 z hz
theorem srt_sorted : ∀ {l : List Hk}, Dist l → (srt l).Pairwise ltH
  | [], _ => List.Pairwise.nil
  | x :: l, h => by
    have h' := List.pairwise_cons.1 h
    exact insH_sorted (srt_sorted h'.2) (fun y hy => h'.1 y ((srt_perm l).mem_iff.1 hy))
theorem sorted_unique : ∀ {l l' : List Hk}, l.Perm l' → l.Pairwise ltH → l'.Pairwise ltH → l = l'
  | [], l', p, _, _ => by rw [List.nil_perm.1 p]
  | x :: l, [], p, _, _ => absurd (List.perm_nil.1 p) (by simp)
  | x :: l, y :: l', p, h, h' => by
    have hx := List.pairwise_cons.1 h
    have hy := List.pairwise_cons.1 h'
    have e : x = y := by
      have m1 : x ∈ y :: l' := p.mem_iff.1 (List.mem_cons_self ..)
      have m2 : y ∈ x :: l := p.mem_iff.2 (List.mem_cons_self ..)
      rcases List.mem_cons.1 m1 with e | m1
      · exact e
      · rcases List.mem_cons.1 m2 with e | m2
        · exact e.symm
        · exact absurd (ltH_trans (hx.1 y m2) (hy.1 x m1)) (ltH_irrefl x)
    subst e
    rw [sorted_unique (List.perm_cons x |>.1 p) hx.2 hy.2]
theorem srt_eq_of {l l' : List Hk} (h : Dist l) (p : l'.Perm l) (s : l'.Pairwise ltH) : l' = srt l :=
  sorted_unique (p.trans (srt_perm l).symm) s (srt_sorted h)
theorem srt_perm_eq {l l' : List Hk} (h : Dist l) (p : l.Perm l') : srt l = srt l' :=
  srt_eq_of (h.perm p) ((srt_perm l).trans p) (srt_sorted h)
theorem srt_filter {l : List Hk} (h : Dist l) (p : Hk → Bool) : (srt l).filter p = srt (l.filter p) :=
  srt_eq_of (h.sublist List.filter_sublist) ((srt_perm l).filter p) ((srt_sorted h).sublist List.filter_sublist)
theorem cons_eraseIdx_perm : ∀ {l : List Hk} {k : Nat} (hk : k < l.length), (l[k] :: l.eraseIdx k).Perm l
  | x :: l, 0, _ => List.Perm.refl _
  | x :: l, k + 1, hk => by
    have ih := cons_eraseIdx_perm (l := l) (k := k) (by simpa using hk)
    simp only [List.getElem_cons_succ, List.eraseIdx_cons_succ]
    exact (List.Perm.swap x _ _).trans (ih.cons x)
theorem srt_min {l : List Hk} (h : Dist l) {k : Nat} (hk : k < l.length) (hm : ∀ j (hj : j < l.length), j ≠ k → ltH l[k] l[j]) : srt l = l[k] :: srt (l.eraseIdx k) := by
  have hp : (l[k] :: l.eraseIdx k).Perm l := cons_eraseIdx_perm hk
  have hd : Dist (l.eraseIdx k) := h.sublist (List.eraseIdx_sublist ..)
  refine (srt_eq_of h (((srt_perm _).cons _).trans hp) (List.pairwise_cons.2 ⟨fun z hz => ?_, srt_sorted hd⟩)).symm
  have hz := (srt_perm _).mem_iff.1 hz
  obtain ⟨i, hi, rfl⟩ := List.mem_iff_getElem.1 hz
  rw [List.getElem_eraseIdx]
  split
  · exact hm _ _ (by omega)
  · exact hm _ _ (by omega)
/-- What slices.SortFunc leaves IS the sorted list, where names part. -/
theorem srt_of_sort {d d' : Array Hk} (h : Dist d.toList) (hp : Sort.PermIn 0 d.size d d') (hs : Sort.SortedIn (ltOf cfH) 0 d.size d') : d'.toList = srt d.toList := by
  obtain ⟨hsz, _, hperm⟩ := hp
  have e1 : (d.extract 0 d.size).toList = d.toList := by simp
  have e2 : (d'.extract 0 d.size).toList = d'.toList := by rw [← hsz]; simp
  rw [e1, e2] at hperm
  refine srt_eq_of h hperm (List.pairwise_iff_getElem.2 fun i j hi hj hij => ?_)
  have hi' : i < d'.size := by simpa using hi
  have hj' : j < d'.size := by simpa using hj
  have hn := hs i j (Nat.zero_le _) hij (by omega)
  rw [getElem!_pos d' i hi', getElem!_pos d' j hj'] at hn
  have hd' : Dist d'.toList := h.perm hperm.symm
  have hne := List.pairwise_iff_getElem.1 hd' i j hi hj hij
  apply Classical.byContradiction
  intro nl
  have n2 : ¬ ltH d'[j] d'[i] := fun h => by rw [(ltOf_iff _ _).2 h] at hn; cases hn
  exact hne (ltH_total (by simpa using nl) n2).2
end Go.Proofs.Ytmlkmhonpmnenaa
