import Derived.Test.YtmlkmhonpmnenaaTagsLaw
namespace Go.Proofs.Ytmlkmhonpmnenaa
open Go.RowKit

/-! ### Tags that are written out of words -/
def Word (l : List UInt8) : Prop := ∀ c ∈ l, smallB c = true
theorem small_ok {d f : Bool} {c : UInt8} (h : smallB c = true) : nameOk d f c = true := by simp [nameOk, h]
theorem nameN_word (d : Bool) : ∀ (f : Bool) (nm q : List UInt8), Word nm → (∀ c r, q = c :: r → nameOk d f c = false ∧ nameOk d false c = false) → nameN d f (nm ++ q) = nm.length
  | f, [], q, _, hq => by
    rcases q with _ | ⟨c, r⟩
    · rfl
    · exact nameN_done (hq c r rfl).1
  | f, c :: nm, q, hw, hq => by
    rw [List.cons_append, nameN_more (small_ok (hw c (List.mem_cons_self ..))), nameN_word d false nm q (fun x hx => hw x (List.mem_cons_of_mem _ hx)) (fun x r e => ⟨(hq x r e).2, (hq x r e).2⟩)]
    rfl
theorem drop_suffix {l r : List UInt8} (h : r <:+ l) (k : Nat) : l.drop (l.length - r.length + k) = r.drop k := by
  have e := List.suffix_iff_eq_drop.1 h
  rw [← List.drop_drop, ← e]
theorem small47 {c : UInt8} (h : smallB c = true) : (47 : UInt8) ≠ c := by
  rintro rfl
  exact absurd h (by decide)
theorem attrsAll_suffix : ∀ (k : Nat) (l : List UInt8), l.length ≤ k → (attrsAll l).2 <:+ l
  | k, l, hk => by
    rcases ha : attrP l with _ | ⟨n, v, r⟩
    · rw [attrsAll_none ha]; exact List.suffix_refl _
    · rw [attrsAll_some ha]
      have hlt := attrP_lt ha
      have hd := attrP_drop ha
      cases k with
      | zero => omega
      | succ k => exact (attrsAll_suffix k r (by omega)).trans (by rw [← hd]; exact List.drop_suffix _ _)
/-- A tag that begins, its name a word, whatever its attributes. -/
theorem toks_begin {nm q r : List UInt8} {ps : List (List UInt8 × List UInt8)} (hw : Word nm) (hne : nm ≠ []) (hq : ∀ c x, q = c :: x → nameOk false true c = false ∧ nameOk false false c = false) (ha : attrsAll q = (ps, r)) :
    (Lib.hasPrefix r [62] = true → toks (60 :: (nm ++ q)) = .inl ⟨nm, false, false, ps⟩ :: toks (r.drop 1)) ∧
    (Lib.hasPrefix r [62] = false → Lib.hasPrefix r [32, 47, 62] = true → toks (60 :: (nm ++ q)) = .inl ⟨nm, false, true, ps⟩ :: toks (r.drop 3)) := by
  have h1 : Lib.hasPrefix (60 :: (nm ++ q)) [60] = true := by rw [hp_one]; rfl
  have h2 : Lib.hasPrefix (60 :: (nm ++ q)) [60, 47] = false := by
    rw [hp_two, h1]
    rcases nm with _ | ⟨c, nm⟩
    · exact absurd rfl hne
    · have := small47 (hw c (List.mem_cons_self ..))
      rw [List.cons_append, List.drop_succ_cons, List.drop_zero, hp_one]
      simpa using fun e => this e.symm
  have hn : nameN false true (nm ++ q) = nm.length := nameN_word false true nm q hw hq
  have hsuf : r <:+ (60 :: (nm ++ q)) := by
    have h3 := attrsAll_suffix _ q (Nat.le_refl _)
    rw [ha] at h3
    exact h3.trans ⟨60 :: nm, by simp⟩
  have hrp := readP_begin h1 h2
  rw [List.drop_succ_cons, List.drop_zero, hn, List.drop_left, List.take_left, ha, if_neg (fun e => hne (List.eq_nil_of_length_eq_zero e))] at hrp
  have hle := hsuf.length_le
  constructor
  · intro hg
    simp only at hrp
    rw [if_pos hg] at hrp
    rw [toks_tag (by simp) (by rw [hrp]; simp), hrp, drop_suffix hsuf]
  · intro hg hv
    simp only at hrp
    rw [if_neg (by rw [hg]; simp), if_pos hv] at hrp
    rw [toks_tag (by simp) (by rw [hrp]; simp), hrp, drop_suffix hsuf]
theorem stop62 {x : List UInt8} : ∀ c y, 62 :: x = c :: y → nameOk false true c = false ∧ nameOk false false c = false := by
  intro c y e
  injection e with e _
  subst e
  decide
theorem stop32 {x : List UInt8} : ∀ c y, 32 :: x = c :: y → nameOk false true c = false ∧ nameOk false false c = false := by
  intro c y e
  injection e with e _
  subst e
  decide
theorem toks_open {nm : List UInt8} (y : List UInt8) (hw : Word nm) (hne : nm ≠ []) : toks (60 :: (nm ++ 62 :: y)) = .inl ⟨nm, false, false, []⟩ :: toks y :=
  (toks_begin hw hne stop62 (attrsAll_none (attrP_gt (by rw [hp_one]; rfl)))).1 (by rw [hp_one]; rfl)
theorem toks_void {nm : List UInt8} (y : List UInt8) (hw : Word nm) (hne : nm ≠ []) : toks (60 :: (nm ++ 32 :: 47 :: 62 :: y)) = .inl ⟨nm, false, true, []⟩ :: toks y :=
  (toks_begin hw hne stop32 (attrsAll_none (attrP_void (hp_iff.2 ⟨y, rfl⟩)))).2 (by rw [hp_one]; rfl) (hp_iff.2 ⟨y, rfl⟩)
theorem toks_close {nm : List UInt8} (y : List UInt8) (hw : Word nm) (hne : nm ≠ []) : toks (60 :: 47 :: (nm ++ 62 :: y)) = .inl ⟨nm, true, false, []⟩ :: toks y := by
  have h1 : Lib.hasPrefix (60 :: 47 :: (nm ++ 62 :: y)) [60, 47] = true := hp_iff.2 ⟨_, rfl⟩
  have hn : nameN false true (nm ++ 62 :: y) = nm.length := nameN_word false true nm _ hw stop62
  have hrp := readP_end h1
  have hpos : 0 < nm.length := List.length_pos_iff.2 hne
  rw [List.drop_succ_cons, List.drop_succ_cons, List.drop_zero, hn, List.drop_left, List.take_left, if_pos ⟨hpos, by rw [hp_one]; rfl⟩] at hrp
  rw [toks_tag (by simp) (by rw [hrp]; simp), hrp]
  congr 1
  rw [show nm.length + 3 = (nm.length + 1) + 1 + 1 by omega, List.drop_succ_cons, List.drop_succ_cons, ← List.drop_drop, List.drop_left]
  rfl
theorem scan_word : ∀ (v y : List UInt8), Word v → scanQ (v ++ 34 :: y) = some (v, y)
  | [], y, _ => rfl
  | c :: v, y, h => by
    have hc := h c (List.mem_cons_self ..)
    have h60 : c ≠ 60 := by rintro rfl; exact absurd hc (by decide)
    have h62 : c ≠ 62 := by rintro rfl; exact absurd hc (by decide)
    have h34 : c ≠ 34 := by rintro rfl; exact absurd hc (by decide)
    rw [List.cons_append, scanQ_go (by simp [h60, h62]) (by simp [h34]), scan_word v y (fun x hx => h x (List.mem_cons_of_mem _ hx))]
    rfl
theorem attr_word {nm v : List UInt8} (y : List UInt8) (hw : Word nm) (hne : nm ≠ []) (hv : Word v) : attrP (32 :: (nm ++ 61 :: 34 :: (v ++ 34 :: y))) = some (nm, v, y) := by
  have hn : nameN true true (nm ++ 61 :: 34 :: (v ++ 34 :: y)) = nm.length := nameN_word true true nm _ hw (fun c x e => by
    injection e with e _
    subst e
    decide)
  rw [attrP_scan, List.drop_succ_cons, List.drop_zero, hn, List.drop_left, List.take_left, if_pos ⟨by rw [hp_one]; rfl, List.length_pos_iff.2 hne, hp_iff.2 ⟨_, rfl⟩⟩]
  rw [List.drop_succ_cons, List.drop_succ_cons, List.drop_zero, scan_word v y hv]
  rfl

/-! ### TagsJoin -/
theorem join_facts {a b nm : List UInt8} (ha : checkT (toks a) [] = true) (hb : checkT (toks b) [] = true) (hw : Word nm) (hne : nm ≠ []) :
    checkT (toks (a ++ b)) [] = true ∧
    checkT (toks (60 :: (nm ++ 62 :: (a ++ 60 :: 47 :: (nm ++ [62]))))) [] = true ∧
    checkT (toks (b ++ 60 :: (nm ++ 62 :: (a ++ 60 :: 47 :: (nm ++ 62 :: 60 :: (nm ++ [32, 47, 62])))))) [] = true ∧
    checkT (toks (b ++ 60 :: (nm ++ 62 :: a))) [] = false ∧
    checkT (toks (60 :: 47 :: (nm ++ 62 :: a))) [] = false ∧
    textT (toks (60 :: (nm ++ 62 :: (a ++ 60 :: 47 :: (nm ++ 62 :: b))))) = textT (toks a) ++ textT (toks b) := by
  obtain ⟨ra, ta⟩ := checked ha
  obtain ⟨rb, tb⟩ := checked hb
  have so : ∀ st, tagStep ⟨nm, false, false, []⟩ st = some (nm :: st) := fun _ => rfl
  have sc : ∀ st, tagStep ⟨nm, true, false, []⟩ (nm :: st) = some st := fun st => by simp [tagStep]
  have sv : ∀ st, tagStep ⟨nm, false, true, []⟩ st = some st := fun _ => rfl
  have sn : tagStep ⟨nm, true, false, []⟩ [] = none := rfl
  simp only [checkT_run]
  refine ⟨?_, ?_, ?_, ?_, ?_, ?_⟩
  · rw [ta, runT_app, ra, Option.bind_some, rb]; rfl
  · rw [toks_open _ hw hne, ta, toks_close _ hw hne]
    simp only [runT, so, Option.bind_some, runT_app, ra, sc, toks_nil]
    rfl
  · rw [tb, toks_open _ hw hne, ta, toks_close _ hw hne, toks_void _ hw hne]
    simp only [runT, so, sv, Option.bind_some, runT_app, ra, rb, sc, toks_nil]
    rfl
  · rw [tb, toks_open _ hw hne]
    simp only [runT, so, Option.bind_some, runT_app, ra, rb]
    rfl
  · rw [toks_close _ hw hne]
    simp only [runT, sn, Option.bind_none]
    rfl
  · rw [toks_open _ hw hne, ta, toks_close _ hw hne]
    simp only [textT, List.filterMap_append, List.filterMap_cons]

/-! ### TagsIds -/
theorem ids_facts {a b s : List UInt8} (hs : checkT (toks s) [] = true) (ha : Word a) (hb : Word b) :
    idsT (toks (60 :: ([112] ++ 32 :: ([105, 100] ++ 61 :: 34 :: (a ++ 34 :: 62 :: (s ++ 60 :: 47 :: ([112] ++ 62 :: 60 :: ([113] ++ 32 :: ([99, 108, 97, 115, 115] ++ 61 :: 34 :: ([120] ++ 34 :: 32 :: ([105, 100] ++ 61 :: 34 :: (b ++ [34, 32, 47, 62])))))))))))) = a :: (idsT (toks s) ++ [b]) := by
  have wp : Word [112] := by intro c hc; simp at hc; subst hc; decide
  have wq : Word [113] := by intro c hc; simp at hc; subst hc; decide
  have wx : Word [120] := by intro c hc; simp at hc; subst hc; decide
  have wid : Word [105, 100] := by intro c hc; simp at hc; rcases hc with rfl | rfl <;> decide
  have wcl : Word [99, 108, 97, 115, 115] := by intro c hc; simp at hc; rcases hc with rfl | rfl | rfl | rfl | rfl <;> decide
  obtain ⟨-, ts⟩ := checked hs
  have h1 := fun y => (toks_begin (q := 32 :: ([105, 100] ++ 61 :: 34 :: (a ++ 34 :: 62 :: y))) wp (by simp) stop32
    ((attrsAll_some (attr_word (62 :: y) wid (by simp) ha)).trans (by rw [attrsAll_none (attrP_gt (by rw [hp_one]; rfl))]))).1 (by rw [hp_one]; rfl)
  have hv : Lib.hasPrefix ([32, 47, 62] : List UInt8) [32, 47, 62] = true := by decide
  have h2 := (toks_begin (q := 32 :: ([99, 108, 97, 115, 115] ++ 61 :: 34 :: ([120] ++ 34 :: 32 :: ([105, 100] ++ 61 :: 34 :: (b ++ [34, 32, 47, 62])))))
    (ps := [([99, 108, 97, 115, 115], [120]), ([105, 100], b)]) (r := [32, 47, 62]) wq (by simp) stop32
    ((attrsAll_some (attr_word (32 :: ([105, 100] ++ 61 :: 34 :: (b ++ [34, 32, 47, 62]))) wcl (by simp) wx)).trans
      (by rw [attrsAll_some (attr_word [32, 47, 62] wid (by simp) hb), attrsAll_none (attrP_void hv)]))).2 (by decide) hv
  rw [h1, List.drop_succ_cons, List.drop_zero, ts, toks_close _ wp (by simp), h2]
  simp [idsT, toks_nil]
end Go.Proofs.Ytmlkmhonpmnenaa
