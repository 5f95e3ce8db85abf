import Derived.Test.YtmlkmhonpmnenaaTagsY
namespace Go.Proofs.Ytmlkmhonpmnenaa
open Go.RowKit

/-! ### Reading is local: what stands behind a tag that is whole does not turn how it reads -/
theorem hp_iff {l p : List UInt8} : Lib.hasPrefix l p = true ↔ p <+: l := by
  simp only [Lib.hasPrefix]
  exact List.isPrefixOf_iff_prefix
theorem hp_app {l p : List UInt8} (y : List UInt8) (h : Lib.hasPrefix l p = true) : Lib.hasPrefix (l ++ y) p = true :=
  hp_iff.2 ((hp_iff.1 h).trans (List.prefix_append _ _))
theorem hp_app_len {l p : List UInt8} (y : List UInt8) (h : p.length ≤ l.length) : Lib.hasPrefix (l ++ y) p = Lib.hasPrefix l p := by
  rw [Bool.eq_iff_iff, hp_iff, hp_iff, List.prefix_iff_eq_take, List.prefix_iff_eq_take, List.take_append_of_le_length h]
theorem nameN_app (d : Bool) (y : List UInt8) : ∀ (f : Bool) (l : List UInt8), nameN d f l < l.length → nameN d f (l ++ y) = nameN d f l
  | _, [], h => by simp at h
  | f, b :: l, h => by
    cases hb : nameOk d f b
    · rw [List.cons_append, nameN_done hb, nameN_done hb]
    · rw [nameN_more hb] at h
      rw [List.cons_append, nameN_more hb, nameN_more hb, nameN_app d y false l (by simpa using h)]
theorem scanQ_app (y : List UInt8) : ∀ (q v r : List UInt8), scanQ q = some (v, r) → scanQ (q ++ y) = some (v, r ++ y)
  | [], _, _, h => by cases h
  | b :: q, v, r, h => by
    cases h1 : b == 60 || b == 62
    · cases h2 : b == 34
      · rw [scanQ_go h1 h2] at h
        rcases hq : scanQ q with _ | ⟨v', r'⟩
        · rw [hq] at h; cases h
        · rw [hq] at h
          simp only [Option.map_some, Option.some.injEq, Prod.mk.injEq] at h
          obtain ⟨rfl, rfl⟩ := h
          rw [List.cons_append, scanQ_go h1 h2, scanQ_app y q v' r' hq]
          rfl
      · rw [scanQ_end h1 h2] at h
        simp only [Option.some.injEq, Prod.mk.injEq] at h
        obtain ⟨rfl, rfl⟩ := h
        rw [List.cons_append, scanQ_end h1 h2]
    · rw [scanQ_stop h1] at h; cases h
theorem drop_app {l : List UInt8} (y : List UInt8) {k : Nat} (h : k ≤ l.length) : (l ++ y).drop k = l.drop k ++ y := List.drop_append_of_le_length h
theorem attrP_app {l n v r : List UInt8} (y : List UInt8) (h : attrP l = some (n, v, r)) : attrP (l ++ y) = some (n, v, r ++ y) := by
  rw [attrP_scan] at h
  split at h
  · rename_i hc
    obtain ⟨h1, h2, h3⟩ := hc
    have l1 := hasPrefix_len h1
    have l3 := hasPrefix_len h3
    simp at l1 l3
    have hnl := nameN_le true true (l.drop 1)
    have e1 : (l ++ y).drop 1 = l.drop 1 ++ y := drop_app y l1
    have e2 : nameN true true (l.drop 1 ++ y) = nameN true true (l.drop 1) := nameN_app true y true _ (by simp; omega)
    rcases hq : scanQ (((l.drop 1).drop (nameN true true (l.drop 1))).drop 2) with _ | ⟨v', r'⟩
    · rw [hq] at h; cases h
    · rw [hq] at h
      simp only [Option.map_some, Option.some.injEq, Prod.mk.injEq] at h
      obtain ⟨rfl, rfl, rfl⟩ := h
      rw [attrP_scan, e1, e2, drop_app y hnl, if_pos ⟨hp_app y h1, h2, hp_app y h3⟩, drop_app y (by simp; omega), scanQ_app y _ _ _ hq, List.take_append_of_le_length hnl]
      rfl
  · cases h
theorem attrP_no {l : List UInt8} (h : Lib.hasPrefix l [32] = false) : attrP l = none := attrP_none (fun h' => by rw [h] at h'; cases h'.1)
theorem attrP_gt {l : List UInt8} (h : Lib.hasPrefix l [62] = true) : attrP l = none := by
  rcases l with _ | ⟨b, l⟩
  · rfl
  · refine attrP_no ?_
    simp [Lib.hasPrefix, List.isPrefixOf] at h ⊢
    rw [← h]
    intro e; cases e
theorem attrP_void {l : List UInt8} (h : Lib.hasPrefix l [32, 47, 62] = true) : attrP l = none := by
  obtain ⟨q, rfl⟩ := hp_iff.1 h
  refine attrP_none ?_
  rintro ⟨_, h2, _⟩
  have : nameN true true ((([32, 47, 62] : List UInt8) ++ q).drop 1) = 0 := nameN_done (by decide)
  omega
theorem attrsAll_app (y : List UInt8) : ∀ (k : Nat) (l : List UInt8), l.length ≤ k → attrP ((attrsAll l).2 ++ y) = none → attrsAll (l ++ y) = ((attrsAll l).1, (attrsAll l).2 ++ y)
  | k, l, hk, h => by
    rcases ha : attrP l with _ | ⟨n, v, r⟩
    · rw [attrsAll_none ha] at h ⊢
      rw [attrsAll_none h]
    · have hlt := attrP_lt ha
      rw [attrsAll_some ha] at h
      cases k with
      | zero => omega
      | succ k =>
        rw [attrsAll_some (attrP_app y ha), attrsAll_app y k r (by omega) h, attrsAll_some ha]
theorem readP_app {l : List UInt8} {T : TagP} {n : Nat} (y : List UInt8) (h : readP l = (T, n)) (hn : n ≠ 0) : readP (l ++ y) = (T, n) := by
  cases hp : Lib.hasPrefix l [60]
  · rw [readP_no hp] at h
    injection h with _ h2
    exact absurd h2.symm hn
  · cases hp2 : Lib.hasPrefix l [60, 47]
    · rw [readP_begin hp hp2] at h
      have l1 := hasPrefix_len hp
      simp at l1
      split at h
      · injection h with _ h2
        exact absurd h2.symm hn
      · rename_i h0
        have hnl := nameN_le false true (l.drop 1)
        have hal := attrsAll_len _ ((l.drop 1).drop (nameN false true (l.drop 1))) (Nat.le_refl _)
        simp at hnl hal
        have hl2 : 2 ≤ l.length := by
          have h3 := nameN_le false true (l.drop 1)
          rw [List.length_drop] at h3
          omega
        have hp2' : Lib.hasPrefix (l ++ y) [60, 47] = false := by rw [hp_app_len (l := l) (p := [60, 47]) y hl2]; exact hp2
        have e1 : (l ++ y).drop 1 = l.drop 1 ++ y := drop_app y l1
        rw [readP_begin (hp_app y hp) hp2', e1]
        split at h
        · rename_i hgt
          have hgl := hasPrefix_len hgt
          simp at hgl
          have e2 : nameN false true (l.drop 1 ++ y) = nameN false true (l.drop 1) := nameN_app false y true _ (by simp; omega)
          rw [e2, drop_app y (by simp; omega), List.take_append_of_le_length (by simp; omega)]
          have e3 := attrsAll_app y _ ((l.drop 1).drop (nameN false true (l.drop 1))) (Nat.le_refl _) (attrP_gt (hp_app y hgt))
          rw [e3, if_neg h0]
          simp only
          rw [if_pos (hp_app y hgt), ← h, List.length_append, List.length_append]
          congr 1
          omega
        · rename_i hgt
          split at h
          · rename_i hv
            have hgl := hasPrefix_len hv
            simp at hgl
            have e2 : nameN false true (l.drop 1 ++ y) = nameN false true (l.drop 1) := nameN_app false y true _ (by simp; omega)
            rw [e2, drop_app y (by simp; omega), List.take_append_of_le_length (by simp; omega)]
            have e3 := attrsAll_app y _ ((l.drop 1).drop (nameN false true (l.drop 1))) (Nat.le_refl _) (attrP_void (hp_app y hv))
            rw [e3, if_neg h0]
            simp only
            rw [if_neg (by rw [hp_app_len y (by simp; omega)]; exact hgt), if_pos (hp_app y hv), ← h, List.length_append, List.length_append]
            congr 1
            omega
          · injection h with _ h2
            exact absurd h2.symm hn
    · rw [readP_end hp2] at h
      have l2 := hasPrefix_len hp2
      simp at l2
      split at h
      · rename_i hc
        obtain ⟨h0, hg⟩ := hc
        have hgl := hasPrefix_len hg
        have hnl := nameN_le false true (l.drop 2)
        simp at hgl hnl
        have e1 : (l ++ y).drop 2 = l.drop 2 ++ y := drop_app y l2
        have e2 : nameN false true (l.drop 2 ++ y) = nameN false true (l.drop 2) := nameN_app false y true _ (by simp; omega)
        rw [readP_end (hp_app y hp2), e1, e2, drop_app y (by simp; omega), if_pos ⟨h0, hp_app y hg⟩, List.take_append_of_le_length (by simp; omega)]
        exact h
      · injection h with _ h2
        exact absurd h2.symm hn

/-! ### A text that checks, and what stands behind it -/
def Good (ts : List Tok) : Prop := ∀ b, (Sum.inr b : Tok) ∈ ts → b ≠ 60
theorem toks_app (y : List UInt8) : ∀ (k : Nat) (l : List UInt8), l.length ≤ k → Good (toks l) → toks (l ++ y) = toks l ++ toks y
  | k, [], _, _ => by rw [toks_nil]; rfl
  | 0, _ :: _, hk, _ => by simp at hk
  | k + 1, b :: r, hk, hg => by
    simp at hk
    by_cases hn : (readP (b :: r)).2 = 0
    · rw [toks_byte hn] at hg ⊢
      have hb : b ≠ 60 := hg b (List.mem_cons_self ..)
      have hno : Lib.hasPrefix (b :: (r ++ y)) [60] = false := by
        rw [hp_one]; simpa using hb
      rw [List.cons_append, toks_byte (by rw [readP_no hno]), toks_app y k r hk (fun c hc => hg c (List.mem_cons_of_mem _ hc))]
      rfl
    · have hle := readP_le (b :: r)
      have hap : readP (b :: r ++ y) = ((readP (b :: r)).1, (readP (b :: r)).2) := readP_app y rfl hn
      rw [toks_tag (by simp) hn] at hg ⊢
      rw [toks_tag (by simp) (by rw [hap]; exact hn), hap]
      rw [drop_app y hle, toks_app y k _ (by simp at hle ⊢; omega) (fun c hc => hg c (List.mem_cons_of_mem _ hc))]
      rfl
def runT : List Tok → List (List UInt8) → Option (List (List UInt8))
  | [], st => some st
  | .inr b :: ts, st => if b != 60 && b != 62 then runT ts st else none
  | .inl T :: ts, st => (tagStep T st).bind (runT ts)
theorem checkT_run : ∀ (ts : List Tok) (st : List (List UInt8)), checkT ts st = (runT ts st == some [])
  | [], st => by cases st <;> rfl
  | .inr b :: ts, st => by
    simp only [checkT, runT]
    rw [checkT_run ts st]
    cases h : (b != 60 && b != 62) <;> simp
  | .inl T :: ts, st => by
    simp only [checkT, runT]
    rcases tagStep T st with _ | st'
    · rfl
    · exact checkT_run ts st'
theorem runT_app : ∀ (ts us : List Tok) (st : List (List UInt8)), runT (ts ++ us) st = (runT ts st).bind (runT us)
  | [], _, _ => rfl
  | .inr b :: ts, us, st => by
    simp only [List.cons_append, runT]
    split
    · exact runT_app ts us st
    · rfl
  | .inl T :: ts, us, st => by
    simp only [List.cons_append, runT]
    rcases tagStep T st with _ | st'
    · rfl
    · exact runT_app ts us st'
theorem tagStep_frame {T : TagP} {st st' : List (List UInt8)} (z : List (List UInt8)) (h : tagStep T st = some st') : tagStep T (st ++ z) = some (st' ++ z) := by
  unfold tagStep at h ⊢
  split at h
  · rename_i he
    rw [if_pos he]
    rcases st with _ | ⟨n, st⟩
    · cases h
    · simp only [List.cons_append] at h ⊢
      split at h
      · rename_i hnm
        injection h with h
        subst h
        rw [if_pos hnm]
      · cases h
  · rename_i he
    rw [if_neg he]
    split at h
    · rename_i hv
      injection h with h
      subst h
      rw [if_pos hv]
    · rename_i hv
      injection h with h
      subst h
      rw [if_neg hv]
      rfl
theorem runT_frame (z : List (List UInt8)) : ∀ (ts : List Tok) (st st' : List (List UInt8)), runT ts st = some st' → runT ts (st ++ z) = some (st' ++ z)
  | [], st, st', h => by injection h with h; subst h; rfl
  | .inr b :: ts, st, st', h => by
    simp only [runT] at h ⊢
    split at h
    · rename_i hb
      rw [if_pos hb]
      exact runT_frame z ts st st' h
    · cases h
  | .inl T :: ts, st, st', h => by
    simp only [runT] at h ⊢
    rcases ht : tagStep T st with _ | st1
    · rw [ht] at h; cases h
    · rw [ht] at h
      rw [tagStep_frame z ht]
      exact runT_frame z ts st1 st' h
theorem run_good {ts : List Tok} : ∀ {st st' : List (List UInt8)}, runT ts st = some st' → Good ts := by
  induction ts with
  | nil => intro st st' _ b hb; simp at hb
  | cons t ts ih =>
    intro st st' h b hb
    rcases t with T | c
    · simp only [runT] at h
      rcases ht : tagStep T st with _ | st1
      · rw [ht] at h; cases h
      · rw [ht] at h
        rcases List.mem_cons.1 hb with hb | hb
        · cases hb
        · exact ih h b hb
    · simp only [runT] at h
      split at h
      · rename_i hc
        rcases List.mem_cons.1 hb with hb | hb
        · injection hb with hb
          subst hb
          simp at hc
          exact hc.1
        · exact ih h b hb
      · cases h
/-- A text that checks leaves any stack as it is, and reads the same whatever follows. -/
theorem checked {l : List UInt8} (h : checkT (toks l) [] = true) : (∀ st, runT (toks l) st = some st) ∧ ∀ y, toks (l ++ y) = toks l ++ toks y := by
  rw [checkT_run, beq_iff_eq] at h
  exact ⟨fun st => by simpa using runT_frame st _ _ _ h, fun y => toks_app y _ l (Nat.le_refl _) (run_good h)⟩
theorem toks_plain : ∀ (l r : List UInt8), (∀ b ∈ l, b ≠ 60) → toks (l ++ r) = l.map .inr ++ toks r
  | [], _, _ => rfl
  | b :: l, r, h => by
    have hb : b ≠ 60 := h b (List.mem_cons_self ..)
    have hno : Lib.hasPrefix (b :: (l ++ r)) [60] = false := by
      rw [hp_one]; simpa using hb
    rw [List.cons_append, toks_byte (by rw [readP_no hno]), toks_plain l r (fun c hc => h c (List.mem_cons_of_mem _ hc))]
    rfl
theorem runT_plain : ∀ (l : List UInt8) (ts : List Tok) (st : List (List UInt8)), (∀ b ∈ l, b ≠ 60 ∧ b ≠ 62) → runT (l.map .inr ++ ts) st = runT ts st
  | [], _, _, _ => rfl
  | b :: l, ts, st, h => by
    have hb := h b (List.mem_cons_self ..)
    simp only [List.map_cons, List.cons_append, runT]
    rw [if_pos (by simp [hb.1, hb.2])]
    exact runT_plain l ts st (fun c hc => h c (List.mem_cons_of_mem _ hc))
end Go.Proofs.Ytmlkmhonpmnenaa
