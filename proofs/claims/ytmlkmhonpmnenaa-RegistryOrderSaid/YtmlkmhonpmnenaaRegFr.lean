/- Hooks that come in as an argument: a slice of structs of five plain fields, opened to the list of hooks that it holds. -/
import Derived.Test.YtmlkmhonpmnenaaRegQ
import Derived.Deep.Slices
import Derived.Deep.Fields
import Derived.ChangeSame
import Derived.OpenShut
namespace Go.Proofs.Ytmlkmhonpmnenaa
open Go.ChangeShapes Go.WideShapes Go.Deep Go.RowKit

section
variable {H : Type} {enc : TypeId × Value → H} {P : Program} {w : World} {base : Nat} {spare : Nat → Bool} {held : Bool}
theorem open_slice_fields' {t e : TypeId} {fs : Array Field} {fuel : Nat} {cs : List Value} {x : DataW H × List MemPlace} (ht : P.underlying t = some (.slice e)) (he : P.underlying e = some (.struct fs))
    (hone : oneCellFields P fs = true) (hC : P.cellsOf e = fs.size) (h : DataW.trod enc P w base spare held fuel t cs = some x) :
    (cs = [.slice none 0 0] ∧ x = (.nil, [])) ∨
    ∃ (a : Addr) (len cap m : Nat) (D : Nat → DataW H) (Pl : Nat → List MemPlace), cs = [.slice (some a) len cap] ∧ base ≤ a.block ∧ len ≤ cap ∧ cap ≤ maxLen ∧ m = (if spare a.block then cap else len) ∧
      x = (.slice ((List.range len).map D) ((List.range (m - len)).map fun j => D (len + j)), MemPlace.row a (m * fs.size) ++ (List.range m).flatMap Pl) ∧
      ∀ i, i < m → ∃ (ys : List (DataW H × List MemPlace)) (n : Nat), D i = .agg (ys.map (·.1)) ∧ Pl i = ys.flatMap (·.2) ∧ ys.length = fs.size ∧
        ∀ (j : Nat) (f : Field), fs[j]? = some f → ∃ (v : Value) (y : DataW H × List MemPlace), w.cell? (a.add (i * fs.size + j)) = some v ∧ ys[j]? = some y ∧ DataW.trod enc P w base spare held n f.type [v] = some y := by
  rcases open_slice ht h with h0 | ⟨a, len, cap, m, n, D, Pl, hcs, hb, hl, hm, hmm, hx, hi⟩
  · exact .inl h0
  · refine .inr ⟨a, len, cap, m, D, Pl, hcs, hb, hl, hm, hmm, by rw [hC] at hx; exact hx, fun i him => ?_⟩
    obtain ⟨cs', hc, ht'⟩ := hi i him
    rw [hC] at hc
    obtain ⟨ys, n', hn', hy, hlen, hyl, hf⟩ := DataW.trod_struct he ht'
    obtain ⟨_, hcl, hat⟩ := World.cells?_some hc
    simp only [Prod.mk.injEq] at hy
    refine ⟨ys, n', hy.1, hy.2, hyl, fun j f hj => ?_⟩
    obtain ⟨ho, hk⟩ := hone_of hone j f hj
    have hjl : j < fs.size := (Array.getElem?_eq_some_iff.1 hj).1
    have hcell := hat j hjl
    have hv : cs'[j]? = some (cs'[j]'(by omega)) := List.getElem?_eq_getElem (by omega)
    have h1 := hf j f hj
    rw [ho, hk] at h1
    have hone' : (cs'.drop j).take 1 = [cs'[j]'(by omega)] := by
      rw [List.drop_eq_getElem_cons (by omega)]
      rfl
    rw [hone'] at h1
    have hys : ys[j]? = some (ys[j]'(by omega)) := List.getElem?_eq_getElem (by omega)
    refine ⟨_, _, ?_, hys, h1.trans hys⟩
    rw [← Go.Deep.add_add, hcell, hv]
end

/-- The five cells of one hook from a place on. -/
def HkAt (w : World) (b o : Nat) (x : Hk) : Prop :=
  w.cell? ⟨b, o, none⟩ = some (.string ⟨x.name.toArray⟩) ∧ w.cell? ⟨b, o + 1, none⟩ = some (.int .i64 x.phase) ∧ w.cell? ⟨b, o + 2, none⟩ = some (.int .i64 x.prio) ∧
    w.cell? ⟨b, o + 3, none⟩ = some (.string ⟨x.trig.toArray⟩) ∧ w.cell? ⟨b, o + 4, none⟩ = some (.int .i64 x.bit)
theorem open_hooks {H : Type} {enc : TypeId × Value → H} {w : World} {base : Nat} {spare : Nat → Bool} {held : Bool} {fuel : Nat} {cs : List Value} {x : DataW H × List MemPlace}
    (h : DataW.trod enc Try.prog w base spare held fuel 39 cs = some x) : ∃ (A : Option Addr) (S : List Hk) (cap : Nat), cs = [.slice A S.length cap] ∧ HkIn w A S := by
  rcases open_slice_fields' Try.underlying39 Try.underlying43 (by kernel_rfl) (by kernel_rfl) h with ⟨rfl, _⟩ | ⟨a, len, cap, m, D, Pl, hcs, _, hl, hm, hmm, _, hi⟩
  · exact ⟨none, [], 0, rfl, .inl rfl⟩
  · have hlm : len ≤ m := by rw [hmm]; split <;> omega
    rcases Nat.eq_zero_or_pos len with h0 | h0
    · exact ⟨some a, [], cap, by rw [hcs, h0]; rfl, .inl rfl⟩
    · obtain ⟨b, off, spot⟩ := a
      have key : ∀ i, i < len → ∃ x : Hk, w.cell? ((⟨b, off, spot⟩ : Addr).add (i * 5)) = some (.string ⟨x.name.toArray⟩) ∧ w.cell? ((⟨b, off, spot⟩ : Addr).add (i * 5 + 1)) = some (.int .i64 x.phase) ∧ w.cell? ((⟨b, off, spot⟩ : Addr).add (i * 5 + 2)) = some (.int .i64 x.prio) ∧
          w.cell? ((⟨b, off, spot⟩ : Addr).add (i * 5 + 3)) = some (.string ⟨x.trig.toArray⟩) ∧ w.cell? ((⟨b, off, spot⟩ : Addr).add (i * 5 + 4)) = some (.int .i64 x.bit) := fun i hil => by
        obtain ⟨ys, n, _, _, _, hf⟩ := hi i (by omega)
        obtain ⟨v0, y0, c0, _, t0⟩ := hf 0 _ rfl
        obtain ⟨v1, y1, c1, _, t1⟩ := hf 1 _ rfl
        obtain ⟨v2, y2, c2, _, t2⟩ := hf 2 _ rfl
        obtain ⟨v3, y3, c3, _, t3⟩ := hf 3 _ rfl
        obtain ⟨v4, y4, c4, _, t4⟩ := hf 4 _ rfl
        obtain ⟨s0, e0, _, _⟩ := DataW.trod_string Try.underlying9 t0
        obtain ⟨n1, e1, _, _⟩ := DataW.trod_int Try.underlying3 t1
        obtain ⟨n2, e2, _, _⟩ := DataW.trod_int Try.underlying3 t2
        obtain ⟨s3, e3, _, _⟩ := DataW.trod_string Try.underlying9 t3
        obtain ⟨n4, e4, _, _⟩ := DataW.trod_int Try.underlying3 t4
        simp only [List.cons.injEq, and_true] at e0 e1 e2 e3 e4
        subst e0 e1 e2 e3 e4
        exact ⟨⟨s0.data.toList, n1, n2, s3.data.toList, n4⟩, c0, c1, c2, c3, c4⟩
      have hspot : spot = none := by
        obtain ⟨x, c0, _⟩ := key 0 h0
        have h1 := World.cell?_spot c0
        simpa [Addr.add] using h1
      subst hspot
      have hadd : ∀ j, (⟨b, off, none⟩ : Addr).add j = ⟨b, off + j, none⟩ := fun j => Go.WideShapes.add_plain ..
      have key2 : ∀ i, ∃ x : Hk, i < len → HkAt w b (off + i * 5) x := fun i => by
        by_cases hil : i < len
        · obtain ⟨x, h⟩ := key i hil
          simp only [hadd] at h
          exact ⟨x, fun _ => by unfold HkAt; simpa only [Nat.add_assoc] using h⟩
        · exact ⟨default, fun h => absurd h hil⟩
      obtain ⟨f, hf⟩ := Classical.skolem.1 key2
      have hlen : ((List.range len).map f).length = len := by simp
      refine ⟨some ⟨b, off, none⟩, (List.range len).map f, cap, by rw [hcs, hlen], .inr ⟨b, off, rfl, ?_, fun k hk => ?_⟩⟩
      · exact World.block_lt_of_cell? w _ (hf 0 h0).1
      · have hk' : k < len := by simpa using hk
        have h1 := hf k hk'
        have e : ((List.range len).map f)[k] = f k := by simp
        rw [e]
        exact h1

/-- The slice at A holds numbers, z's first ones. -/
def IntsIn (w : World) (A : Option Addr) (len : Nat) (z : List Int) : Prop :=
  len = 0 ∨ ∃ b off, A = some ⟨b, off, none⟩ ∧ b < w.heap.size ∧ ∀ j, j < len → w.cell? ⟨b, off + j, none⟩ = some (.int .i64 (z.getD j 0))
theorem open_intsIn {H : Type} {enc : TypeId × Value → H} {w : World} {base : Nat} {spare : Nat → Bool} {held : Bool} {fuel : Nat} {cs : List Value} {x : DataW H × List MemPlace}
    (h : DataW.trod enc Try.prog w base spare held fuel 50 cs = some x) : ∃ (A : Option Addr) (len cap : Nat) (z : List Int), cs = [.slice A len cap] ∧ IntsIn w A len z := by
  rcases open_ints Try.underlying50 Try.underlying3 (by kernel_rfl) h with ⟨hcs, _⟩ | ⟨x, l, c, zs, hcs, _, hl, hm, hz, _, hcell, hwz⟩
  · exact ⟨none, 0, 0, [], hcs, .inl rfl⟩
  · rcases Nat.eq_zero_or_pos l with h0 | h0
    · exact ⟨_, l, c, zs, hcs, .inl h0⟩
    · have hzl : l ≤ zs.length := by rw [hz]; split <;> omega
      obtain ⟨b, off, rfl, hc⟩ := ints_at hcell (by omega)
      exact ⟨_, l, c, zs, hcs, .inr ⟨b, off, rfl, World.block_lt_of_cell? w _ (hc 0 (by omega)), fun j hj => hc j (by omega)⟩⟩
theorem u8_of {n : Int} (h : (Lit.int .u8 n).wf = true) : ∃ a : UInt8, n = (a.toNat : Int) := by
  have h1 : 0 ≤ n ∧ n ≤ 255 := by
    have := h
    simp [Lit.wf, IntKind.min, IntKind.max, IntKind.bits, IntKind.signed] at this
    omega
  refine ⟨UInt8.ofNat n.toNat, ?_⟩
  have h2 : (UInt8.ofNat n.toNat).toNat = n.toNat := by simp [UInt8.toNat_ofNat']; omega
  rw [h2]
  omega
end Go.Proofs.Ytmlkmhonpmnenaa
