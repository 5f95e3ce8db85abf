import Derived.Test.YtmlkmhonpmnenaaTagsF
namespace Go.Proofs
theorem Try.bx167 : Builder.Extra Try.prog Try.Lays_n167_ren := { sizeBuilder := by kernel_rfl, liesBuilder := by kernel_rfl, t5 := Try.underlying5, a5 := Try.isAgg5, z5 := Try.sizeOf5, v5 := Try.zeroValue5, infoByte := by kernel_rfl, cellsByte := by kernel_rfl, sizeByte := by kernel_rfl, neB5 := by decide }
theorem Try.bx169 : Builder.Extra Try.prog Try.Lays_n169_ren := { sizeBuilder := by kernel_rfl, liesBuilder := by kernel_rfl, t5 := Try.underlying5, a5 := Try.isAgg5, z5 := Try.sizeOf5, v5 := Try.zeroValue5, infoByte := by kernel_rfl, cellsByte := by kernel_rfl, sizeByte := by kernel_rfl, neB5 := by decide }
end Go.Proofs
namespace Go.Proofs.Ytmlkmhonpmnenaa
open Go.RowKit

/-! ### What a text is read as: tags, and the bytes between them -/
abbrev Tok := TagP ⊕ UInt8
def toksP : Nat → List UInt8 → List Tok
  | 0, _ => []
  | _ + 1, [] => []
  | k + 1, b :: r => if (readP (b :: r)).2 = 0 then .inr b :: toksP k r else .inl (readP (b :: r)).1 :: toksP k ((b :: r).drop (readP (b :: r)).2)
theorem toksP_more : ∀ (k k' : Nat) (l : List UInt8), l.length ≤ k → l.length ≤ k' → toksP k l = toksP k' l
  | 0, 0, _, _, _ => rfl
  | 0, k' + 1, l, h, _ => by
    obtain rfl : l = [] := List.eq_nil_of_length_eq_zero (by omega)
    rfl
  | k + 1, 0, l, _, h => by
    obtain rfl : l = [] := List.eq_nil_of_length_eq_zero (by omega)
    rfl
  | k + 1, k' + 1, [], _, _ => rfl
  | k + 1, k' + 1, b :: r, h, h' => by
    unfold toksP
    simp only [List.length_cons] at h h'
    split
    · rw [toksP_more k k' r (by omega) (by omega)]
    · rename_i hn
      rw [toksP_more k k' _ (by simp; omega) (by simp; omega)]
def toks (l : List UInt8) : List Tok := toksP l.length l
theorem toks_nil : toks [] = [] := rfl
theorem toks_byte {b : UInt8} {r : List UInt8} (h : (readP (b :: r)).2 = 0) : toks (b :: r) = .inr b :: toks r := by
  unfold toks
  simp only [List.length_cons, toksP, h, if_true]
theorem toks_tag {l : List UInt8} (h0 : l ≠ []) (h : (readP l).2 ≠ 0) : toks l = .inl (readP l).1 :: toks (l.drop (readP l).2) := by
  unfold toks
  rcases l with _ | ⟨b, r⟩
  · exact absurd rfl h0
  · simp only [List.length_cons, toksP, h, if_false]
    rw [toksP_more r.length _ _ (by simp; omega) (Nat.le_refl _)]
def textT (ts : List Tok) : List UInt8 := ts.filterMap fun t => match t with | .inr b => some b | .inl _ => none
def idsT (ts : List Tok) : List (List UInt8) := ts.flatMap fun t => match t with | .inl T => (T.attrs.filter fun a => a.1 == [105, 100]).map (·.2) | .inr _ => []
def tagStep (T : TagP) (st : List (List UInt8)) : Option (List (List UInt8)) :=
  if T.ends then (match st with | [] => none | n :: st' => if n == T.name then some st' else none) else if T.void then some st else some (T.name :: st)
def checkT : List Tok → List (List UInt8) → Bool
  | [], st => st.isEmpty
  | .inr b :: ts, st => b != 60 && b != 62 && checkT ts st
  | .inl T :: ts, st => match tagStep T st with | some st' => checkT ts st' | none => false

/-! ### The builder -/
abbrev IsB (B : Nat) (l : List UInt8) (w : World) : Prop := Lib.IsBuilder 84 5 B B (Lib.byteCells l) w
theorem isB_new (w : World) : IsB w.heap.size [] (w.alloc (.cells #[.pointer none, .slice none 0 0] 84)) :=
  .inl ⟨Nat.le_refl _, .slice none 0 0, heap_alloc_new w _, World.ownsRow_nil _ _ _ _, by simp [Value.ownBlock]⟩
theorem isB_below {B : Nat} {l : List UInt8} {w w' : World} (h : IsB B l w) (hb : Below w.heap.size w w') : IsB B l w' := by
  rcases h with ⟨h0, v, h1, h2, h3⟩ | ⟨h0, v, h1, h2, h3⟩
  · exact .inl ⟨h0, v, (hb.block B (Array.getElem?_eq_some_iff.1 h1).1).trans h1, own_keep h2 hb, h3⟩
  · exact .inr ⟨h0, v, (hb.block B (Array.getElem?_eq_some_iff.1 h1).1).trans h1, own_keep h2 hb, h3⟩
theorem writeByte (B : Nat) (l : List UInt8) (b : UInt8) (w : World) (h : IsB B l w) (hl : l.length ≤ 1073741824) (hB : B ≤ w.heap.size) :
    Calls Try.prog 57 #[.pointer (some ⟨B, 0, none⟩), .int .u8 (b.toNat : Int)] w fun e w' => e = .returned .nilIface ∧ IsB B (l ++ [b]) w' ∧ Below B w w' := by
  refine (Any.Builder_WriteByte Try.Lays_n167 Try.bx167 B B (Lib.byteCells l) (b.toNat : Int) w h (by simp [Lib.byteCells]; omega) hB).mono ?_
  rintro e w' ⟨he, h1, h2⟩
  have e : Lib.byteCells (l ++ [b]) = Lib.byteCells l ++ [.int .u8 (b.toNat : Int)] := by simp [Lib.byteCells]
  refine ⟨he, .inr ?_, h2⟩
  rw [e]
  exact h1
theorem builderString (B : Nat) (l : List UInt8) (w : World) (h : IsB B l w) (hB : B ≤ w.heap.size) :
    Calls Try.prog 58 #[.pointer (some ⟨B, 0, none⟩)] w fun e w' => e = .returned (.string ⟨l.toArray⟩) ∧ Below B w w' :=
  Any.Builder_String_any Try.Lays_n169 Try.bx169 B B l w h hB

/-! ### 23 -/
def textJ (B : Nat) (w : World) (L : List UInt8) (n : Nat) (r : List UInt8) (W : World) : Prop := ∃ out, IsB B out W ∧ Below B w W ∧ L = out ++ textT (toks r) ∧ out.length + r.length ≤ n
set_option maxRecDepth 100000 in
theorem text_tag (T : TagP) (A : Option Addr) (n c : Nat) (w : World) :
    Calls Try.prog 55 (#[tagV T (.slice A n c)] ++ #[]) w fun e w' => e = .returned (.tuple #[]) ∧ Below w.heap.size w w' := by
  unfold tagV
  go_enter Try.func55, Try.ntmps55
  go_wp2
  go_end0
  exact ⟨rfl, (by repeat (first | with_reducible refine below_drewN ?_ _ | with_reducible refine Below.drew ?_ | ((with_reducible refine Below.alloc ?_ ?_ _); rotate_left; focus (first | exact Nat.le_refl _ | omega | (simp; done) | (simp; omega))) | ((with_reducible refine Below.setCell ?_ ?_ _); rotate_left; focus (first | exact Nat.le_refl _ | omega | (simp; done) | (simp; omega))) | with_reducible exact Below.refl _ _ | with_reducible assumption))⟩
set_option maxRecDepth 100000 in
theorem text_byte (B : Nat) (l : List UInt8) (b : UInt8) (w : World) (h : IsB B l w) (hl : l.length ≤ 1073741824) (hB : B ≤ w.heap.size) :
    Calls Try.prog 56 (#[.int .u8 (b.toNat : Int)] ++ #[.pointer (some ⟨B, 0, none⟩)]) w fun e w' => e = .returned (.tuple #[]) ∧ IsB B (l ++ [b]) w' ∧ Below B w w' := by
  go_enter Try.func56, Try.ntmps56
  go_wp2_with fail
  refine (writeByte B l b _ h hl hB).mono ?_
  rintro e w2 ⟨rfl, h1, h2⟩
  have H1 := Lib.hid h1
  go_wp2
  go_end0
  exact ⟨rfl, H1.out, h2⟩
set_option maxRecDepth 100000 in
set_option maxHeartbeats 4000000 in
theorem text_any (l : List UInt8) (w : World) (hs : l.length ≤ 1073741824) :
    Calls Try.prog 23 #[.string ⟨l.toArray⟩] w fun e w' => e = .returned (.string ⟨(textT (toks l)).toArray⟩) ∧ Below w.heap.size w w' := by
  have e1 : ∀ args w, (callFunc 55 args).run Try.prog w = .ok (.enter 55 args) w := enters_of Try.func55 (by kernel_rfl) rfl
  have e2 : ∀ args w, (callFunc 56 args).run Try.prog w = .ok (.enter 56 args) w := enters_of Try.func56 (by kernel_rfl) rfl
  have hmf : ∀ (fn : Fn) (first cap : Array Value) (w : World), (Instr.makeFunc fn first cap).run Try.prog w = .ok (.func fn first cap) w := fun _ _ _ _ => rfl
  have HE := Lib.hid (each_any 55 56 #[] #[.pointer (some ⟨w.heap.size, 0, none⟩)] e1 e2 (textJ w.heap.size w (textT (toks l)) l.length) (fun _ _ => False)
    (fun r W W' ⟨out, h1, h2, h3, h4⟩ hb => ⟨out, isB_below h1 hb, h2.trans (hb.mono h2.size), h3, h4⟩)
    (fun r W A c ⟨out, h1, h2, h3, h4⟩ hr hrl hn _ => by
      refine (text_tag _ _ _ _ W).mono ?_
      rintro e W' ⟨rfl, hb⟩
      refine .inl ⟨_, rfl, out, isB_below h1 hb, h2.trans (hb.mono h2.size), by rw [h3, toks_tag hr hn]; rfl, by simp; omega⟩)
    (fun b r W ⟨out, h1, h2, h3, h4⟩ hrl hn => by
      refine (text_byte w.heap.size out b W h1 (by simp at h4; omega) h2.size).mono ?_
      rintro e W' ⟨rfl, h1', hb⟩
      refine .inl ⟨_, rfl, out ++ [b], h1', h2.trans hb, by rw [h3, toks_byte hn, List.append_assoc]; rfl, by simp at h4 ⊢; omega⟩)
    l (w.alloc (.cells #[.pointer none, .slice none 0 0] 84)) hs ⟨[], isB_new w, (by repeat (first | with_reducible refine below_drewN ?_ _ | with_reducible refine Below.drew ?_ | ((with_reducible refine Below.alloc ?_ ?_ _); rotate_left; focus (first | exact Nat.le_refl _ | omega | (simp; done) | (simp; omega))) | ((with_reducible refine Below.setCell ?_ ?_ _); rotate_left; focus (first | exact Nat.le_refl _ | omega | (simp; done) | (simp; omega))) | with_reducible exact Below.refl _ _ | with_reducible assumption)), rfl, by simp⟩)
  clear e1 e2
  go_enter Try.func23, Try.ntmps23
  go_wp2_with fail
  refine HE.out.mono ?_
  rintro e w2 (⟨v, rfl, hj⟩ | ⟨ch, _, hx⟩)
  · obtain ⟨out, h1, h2, h3, h4⟩ := hj
    have h3' : textT (toks l) = out := by rw [h3, toks_nil]; simp [textT]
    have H3 := Lib.hid h3'
    clear h3 h3' h4 HE
    go_wp2_with fail
    refine (builderString _ out _ h1 h2.size).mono ?_
    rintro e w3 ⟨rfl, hb3⟩
    go_wp2
    go_ret
    exact ⟨by rw [H3.out]; rfl, h2.trans hb3⟩
  · exact hx.elim
end Go.Proofs.Ytmlkmhonpmnenaa
