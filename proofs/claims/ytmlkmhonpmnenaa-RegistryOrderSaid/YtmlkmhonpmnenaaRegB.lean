/- The registry in memory: a hook's five cells, the map of hooks, what a registry's block holds. -/
import Derived.Test.YtmlkmhonpmnenaaRegL
import Derived.Test.YtmlkmhonpmnenaaRegM
import Derived.Test.YtmlkmhonpmnenaaProg
import Derived.Maps.OwnSet
import Derived.Maps.RangeWalk
import Derived.Sort.KeysCollected
import Derived.WalkKit
import Derived.WalkLawsBesides
import Derived.WalkSpells
namespace Go.Proofs.Ytmlkmhonpmnenaa
open Go.RowKit Go.Maps

def hkC (h : Hk) : List Value := [.string ⟨h.name.toArray⟩, .int .i64 h.phase, .int .i64 h.prio, .string ⟨h.trig.toArray⟩, .int .i64 h.bit]
def hkV (h : Hk) : Value := .agg (hkC h).toArray
def hkCells (L : List Hk) : List Value := L.flatMap hkC
theorem hkC_len (h : Hk) : (hkC h).length = 5 := rfl
theorem hkCells_len : ∀ L : List Hk, (hkCells L).length = L.length * 5
  | [] => rfl
  | h :: L => by
    have := hkCells_len L
    simp only [hkCells, List.flatMap_cons, List.length_append, hkC_len, List.length_cons] at this ⊢
    omega
theorem hkCells_append (L M : List Hk) : hkCells (L ++ M) = hkCells L ++ hkCells M := by simp [hkCells]
theorem hkC_one (h : Hk) : ∀ u ∈ hkC h, u.oneCell' = true := by
  intro u hu
  simp only [hkC, List.mem_cons, List.not_mem_nil, or_false] at hu
  rcases hu with rfl | rfl | rfl | rfl | rfl <;> rfl
theorem hkCells_one (L : List Hk) : ∀ u ∈ hkCells L, u.oneCell' = true := by
  intro u hu
  obtain ⟨h, _, hu⟩ := List.mem_flatMap.1 hu
  exact hkC_one h u hu
theorem hkCells_at : ∀ (L : List Hk) (i j : Nat) (hi : i < L.length) (_ : j < 5), (hkCells L)[i * 5 + j]? = (hkC L[i])[j]?
  | h :: L, 0, j, _, hj => by
    simp only [hkCells, List.flatMap_cons, Nat.zero_mul, Nat.zero_add, List.getElem_cons_zero]
    rw [List.getElem?_append_left (by rw [hkC_len]; exact hj)]
  | h :: L, i + 1, j, hi, hj => by
    have ih := hkCells_at L i j (by simpa using hi) hj
    simp only [hkCells, List.flatMap_cons, List.getElem_cons_succ] at ih ⊢
    rw [List.getElem?_append_right (by rw [hkC_len]; omega), hkC_len, show (i + 1) * 5 + j - 5 = i * 5 + j by omega]
    exact ih
theorem hkCells_take (L : List Hk) (k : Nat) : hkCells (L.take k) = (hkCells L).take (k * 5) := by
  induction L generalizing k with
  | nil => simp [hkCells]
  | cons h L ih =>
    cases k with
    | zero => simp [hkCells]
    | succ k =>
      have := ih k
      simp only [hkCells, List.take_succ_cons, List.flatMap_cons] at this ⊢
      rw [this, show (k + 1) * 5 = 5 + k * 5 by omega, ← hkC_len h, List.take_length_add_append]
theorem hkCells_drop (L : List Hk) (k : Nat) : hkCells (L.drop k) = (hkCells L).drop (k * 5) := by
  induction L generalizing k with
  | nil => simp [hkCells]
  | cons h L ih =>
    cases k with
    | zero => simp [hkCells]
    | succ k =>
      have := ih k
      simp only [hkCells, List.drop_succ_cons, List.flatMap_cons] at this ⊢
      rw [this, show (k + 1) * 5 = 5 + k * 5 by omega, ← hkC_len h, List.drop_length_add_append]

/-! ### a hook in the map -/
def hkD (h : Hk) : DataW Unit := .agg [.lit (.string h.name), .lit (.int .i64 h.phase), .lit (.int .i64 h.prio), .lit (.string h.trig), .lit (.int .i64 h.bit)]
theorem hkD_inj {g h : Hk} (e : hkD g = hkD h) : g = h := by
  obtain ⟨a, b, c, d, f⟩ := g
  obtain ⟨a', b', c', d', f'⟩ := h
  simp only [hkD, DataW.agg.injEq, List.cons.injEq, DataW.lit.injEq, Lit.string.injEq, Lit.int.injEq, true_and, and_true] at e
  obtain ⟨rfl, rfl, rfl, rfl, rfl⟩ := e
  rfl
def RHl : List Value → Option (DataW Unit × List MemPlace)
  | [.string a, .int .i64 b, .int .i64 c, .string d, .int .i64 e] => some (hkD ⟨a.data.toList, b, c, d.data.toList, e⟩, [])
  | _ => none
/-- How a hook in the map reads. -/
def RH : Value → Option (DataW Unit × List MemPlace)
  | .agg cs => RHl cs.toList
  | _ => none
theorem RH_mk (h : Hk) : RH (hkV h) = some (hkD h, []) := rfl
theorem RHl_inv {l : List Value} {y : DataW Unit × List MemPlace} (e : RHl l = some y) : ∃ h, l = hkC h ∧ y = (hkD h, []) := by
  unfold RHl at e
  split at e
  · rename_i a b c d f
    cases e
    exact ⟨⟨a.data.toList, b, c, d.data.toList, f⟩, rfl, rfl⟩
  · cases e
theorem RH_inv (v : Value) (y : DataW Unit × List MemPlace) (e : RH v = some y) : ∃ h, v = hkV h ∧ y = (hkD h, []) := by
  unfold RH at e
  split at e
  · obtain ⟨h, hl, hy⟩ := RHl_inv e
    exact ⟨h, by unfold hkV; rw [← hl], hy⟩
  · cases e

theorem key9 : Keyed Try.prog 9 := string_keyed Try.underlying9

/-- The datum D of the map is the list L of hooks, of unlike names. -/
structure Rep (D : DataW Unit) (L : List Hk) : Prop where
  has : ∀ k, Maps.has D (.string k) = L.any (fun h => h.name == k)
  at_ : ∀ h ∈ L, ∀ z, D.atKey (.string h.name) z = hkD h
  dist : Dist L
theorem Rep.nil : Rep (.map []) [] := ⟨fun _ => rfl, fun h hh => by simp at hh, List.Pairwise.nil⟩
theorem Rep.has_false {D : DataW Unit} {L : List Hk} (h : Rep D L) {k : List UInt8} (hk : Maps.has D (.string k) = false) : ∀ g ∈ L, g.name ≠ k := by
  rw [h.has k] at hk
  intro g hg e
  have := List.any_eq_false.1 hk g hg
  simp [e] at this
theorem Rep.put {D : DataW Unit} {L : List Hk} (h : Rep D L) (hm : Maps.IsMap D) (g : Hk) (hg : Maps.has D (.string g.name) = false) : Rep (D.put (.string g.name) (hkD g)) (L ++ [g]) := by
  have hne := h.has_false hg
  refine ⟨fun k => ?_, fun x hx z => ?_, List.pairwise_append.2 ⟨h.dist, List.pairwise_singleton _ _, fun a ha b hb => ?_⟩⟩
  · rw [List.any_append]
    by_cases e : k = g.name
    · subst e
      rw [Maps.has_put_same hm (show WideAt.IsKeyLit (.string g.name) from trivial)]
      simp
    · rw [Maps.has_put_other (fun e' => e (by injection e')), h.has k]
      have : (g.name == k) = false := by simpa using Ne.symm e
      simp [this]
  · rcases List.mem_append.1 hx with hx | hx
    · rw [Maps.atKey_put_other (fun e' => hne x hx (by injection e')), h.at_ x hx]
    · simp only [List.mem_singleton] at hx
      subst hx
      rw [Maps.atKey_put_same hm (show WideAt.IsKeyLit (.string x.name) from trivial)]
  · simp only [List.mem_singleton] at hb
    subst hb
    exact hne a ha

/-! ### what has been met of a map under way -/
theorem perm_out {h : Hk} : ∀ {M : List Hk}, Dist M → h ∈ M → M.Perm (h :: M.filter (fun g => !(g.name == h.name)))
  | x :: M, hd, hm => by
    have hx := List.pairwise_cons.1 hd
    rcases List.mem_cons.1 hm with rfl | hm
    · have e : M.filter (fun g => !(g.name == h.name)) = M := by
        refine List.filter_eq_self.2 fun g hg => ?_
        have := hx.1 g hg
        simpa using Ne.symm this
      simp [e]
    · have hne : x.name ≠ h.name := hx.1 h hm
      have e : (x.name == h.name) = false := by simpa using hne
      rw [List.filter_cons_of_pos (by simp [e])]
      exact ((perm_out hx.2 hm).cons x).trans (List.Perm.swap h x _)
/-- S has been met: what is left of L and S are L. -/
def Met (L : List Hk) (left : Lit → Bool) (S : List Hk) : Prop := L.Perm (S ++ L.filter fun h => left (.string h.name))
theorem Met.start {D : DataW Unit} {L : List Hk} (h : Rep D L) : Met L (Maps.has D) [] := by
  have e : L.filter (fun g => Maps.has D (.string g.name)) = L := by
    refine List.filter_eq_self.2 fun g hg => ?_
    rw [h.has]
    exact List.any_eq_true.2 ⟨g, hg, by simp⟩
  unfold Met
  rw [e]
  exact List.Perm.refl _
theorem Met.step {D : DataW Unit} {L S : List Hk} {left : Lit → Bool} (h : Rep D L) (hS : Met L left S) {x : List UInt8} {y : DataW Unit} {g : Hk} (hlk : left (.string x) = true) (hat : ∀ zd, D.atKey (.string x) zd = y) (hy : y = hkD g) :
    g ∈ L ∧ g.name = x ∧ Met L (fun z => left z && !z.sameKey (.string x)) (S ++ [g]) := by
  have hhas := Maps.has_true_of_atKey hat
  rw [h.has] at hhas
  obtain ⟨g', hg', e'⟩ := List.any_eq_true.1 hhas
  have e' : g'.name = x := by simpa using e'
  have : g' = g := hkD_inj (by rw [← hy, ← hat (.map []), ← e', h.at_ g' hg'])
  subst this
  refine ⟨hg', e', ?_⟩
  have hf : g' ∈ L.filter (fun h => left (.string h.name)) := List.mem_filter.2 ⟨hg', by rw [e']; exact hlk⟩
  have hd : Dist (L.filter (fun h => left (.string h.name))) := h.dist.sublist List.filter_sublist
  have hp := perm_out hd hf
  have ef : L.filter (fun h => left (.string h.name) && !(Lit.string h.name).sameKey (.string x)) = (L.filter (fun h => left (.string h.name))).filter (fun g => !(g.name == g'.name)) := by
    rw [List.filter_filter]
    refine List.filter_congr fun a _ => ?_
    rw [e', Bool.and_comm]
    rfl
  unfold Met at hS ⊢
  rw [ef, List.append_assoc, List.singleton_append]
  exact hS.trans (hp.append_left S)
theorem Met.done {L S : List Hk} {left : Lit → Bool} (h : Met L left S) (hl : ∀ kl, left kl = false) : S.Perm L := by
  have e : L.filter (fun h => left (.string h.name)) = [] := List.filter_eq_nil_iff.2 fun g _ => by rw [hl]; simp
  unfold Met at h
  rw [e, List.append_nil] at h
  exact h.symm
theorem Met.len {L S : List Hk} {left : Lit → Bool} (h : Met L left S) : S.length ≤ L.length := by
  have := h.length_eq
  rw [List.length_append] at this
  omega

/-! ### a registry -/
/-- The cells of a registry's block: mask, map, the Once's three, sealed, sorted, steps. -/
def regCs (m : Int) (mb : Nat) (d s : Int) (sealed : Bool) (sv : Value) (st : Int) : Array Value :=
  #[.int .i64 m, .map (some mb), .int .u32 d, .int .i32 s, .int .u32 0, .bool sealed, sv, .int .i64 st]
abbrev HT : Nat := 43
abbrev RT : Nat := 105
/-- A registry that is not sealed: its map holds the hooks L. -/
def RegO (w : World) (base b mb : Nat) (m : Int) (L : List Hk) (st : Int) : Prop :=
  base ≤ b ∧ base ≤ mb ∧ mb ≠ b ∧ Blk w b RT (regCs m mb 0 0 false (.slice none 0 0) st) ∧ ∃ D, w.ownsMap Try.prog 9 RH mb L.length D ∧ Rep D L
/-- A registry that is sealed: S are its hooks that are on, in order. -/
def RegS (w : World) (base b : Nat) (m : Int) (S : List Hk) (st : Int) : Prop :=
  base ≤ b ∧ ∃ mb sv, Blk w b RT (regCs m mb 1 0 true sv st) ∧ w.ownsRow base HT 5 sv S.length (hkCells S)
/-- A registry of the hooks L, sealed or not. -/
def Reg (w : World) (base b mb : Nat) (m : Int) (L : List Hk) (sealed : Bool) (st : Int) : Prop :=
  if sealed then RegS w base b m (srt (L.filter (onB m))) st ∧ Dist L else RegO w base b mb m L st
section
variable {w w' : World} {base b mb : Nat} {m st : Int} {L S : List Hk} {sealed : Bool} {row : Option Nat}
theorem RegO.kept (h : RegO w base b mb m L st) (hg : w.grownBy w' row) (h1 : some b ≠ row) (h2 : some mb ≠ row) : RegO w' base b mb m L st := by
  obtain ⟨a1, a2, a3, hb, D, hm, hR⟩ := h
  exact ⟨a1, a2, a3, hb.grown hg h1, D, hm.kept hg h2, hR⟩
theorem RegO.dist (h : RegO w base b mb m L st) : Dist L := by
  obtain ⟨_, _, _, _, D, _, hR⟩ := h
  exact hR.dist
theorem RegO.lt (h : RegO w base b mb m L st) : b < w.heap.size ∧ mb < w.heap.size := by
  obtain ⟨a1, a2, a3, hb, D, hm, hR⟩ := h
  exact ⟨hb.lt, hm.lt⟩
theorem RegS.kept (h : RegS w base b m S st) (hg : w.grownBy w' none) : RegS w' base b m S st := by
  obtain ⟨a1, mb, sv, hb, hr⟩ := h
  exact ⟨a1, mb, sv, hb.grown hg (by simp), hr.kept hg (by cases h : sv.ownBlock <;> simp)⟩
theorem Reg.kept (h : Reg w base b mb m L sealed st) (hg : w.grownBy w' none) : Reg w' base b mb m L sealed st := by
  unfold Reg at *
  split at h
  · rw [if_pos (by assumption)]; exact ⟨h.1.kept hg, h.2⟩
  · rw [if_neg (by assumption)]; exact h.kept hg (by simp) (by simp)
end
end Go.Proofs.Ytmlkmhonpmnenaa
