/- Hooks that came in as a slice: what the walks of the laws are told of it. -/
import Derived.Test.YtmlkmhonpmnenaaRegP
namespace Go.Proofs.Ytmlkmhonpmnenaa
open Go.RowKit Go.Lib Go.Maps

/-- The slice at A holds the hooks S. -/
def HkIn (w : World) (A : Option Addr) (S : List Hk) : Prop :=
  S = [] ∨ ∃ b off, A = some ⟨b, off, none⟩ ∧ b < w.heap.size ∧ ∀ (k : Nat) (hk : k < S.length),
    w.cell? ⟨b, off + k * 5, none⟩ = some (.string ⟨S[k].name.toArray⟩) ∧ w.cell? ⟨b, off + k * 5 + 1, none⟩ = some (.int .i64 S[k].phase) ∧ w.cell? ⟨b, off + k * 5 + 2, none⟩ = some (.int .i64 S[k].prio) ∧
      w.cell? ⟨b, off + k * 5 + 3, none⟩ = some (.string ⟨S[k].trig.toArray⟩) ∧ w.cell? ⟨b, off + k * 5 + 4, none⟩ = some (.int .i64 S[k].bit)
theorem HkIn.below {w w' : World} {A : Option Addr} {S : List Hk} (h : HkIn w A S) (hb : Below w.heap.size w w') : HkIn w' A S := by
  rcases h with h | ⟨b, off, hA, hl, hc⟩
  · exact .inl h
  · refine .inr ⟨b, off, hA, Nat.lt_of_lt_of_le hl hb.size, fun k hk => ?_⟩
    obtain ⟨c0, c1, c2, c3, c4⟩ := hc k hk
    exact ⟨(hb.cell (p := ⟨b, _, none⟩) hl).trans c0, (hb.cell (p := ⟨b, _, none⟩) hl).trans c1, (hb.cell (p := ⟨b, _, none⟩) hl).trans c2, (hb.cell (p := ⟨b, _, none⟩) hl).trans c3, (hb.cell (p := ⟨b, _, none⟩) hl).trans c4⟩
theorem HkIn.at_ {w : World} {A : Option Addr} {S : List Hk} (h : HkIn w A S) {k : Nat} (hk : k < S.length) (x : Hk) (hx : S[k] = x) :
    ∃ b off, A = some ⟨b, off, none⟩ ∧ b < w.heap.size ∧ w.cell? ⟨b, off + k * 5, none⟩ = some (.string ⟨x.name.toArray⟩) ∧ w.cell? ⟨b, off + k * 5 + 1, none⟩ = some (.int .i64 x.phase) ∧ w.cell? ⟨b, off + k * 5 + 2, none⟩ = some (.int .i64 x.prio) ∧
      w.cell? ⟨b, off + k * 5 + 3, none⟩ = some (.string ⟨x.trig.toArray⟩) ∧ w.cell? ⟨b, off + k * 5 + 4, none⟩ = some (.int .i64 x.bit) := by
  subst hx
  rcases h with h | ⟨b, off, hA, hl, hc⟩
  · rw [h] at hk; exact absurd hk (by simp)
  · exact ⟨b, off, hA, hl, hc k hk⟩
theorem ba_sz (l : List UInt8) : (⟨l.toArray⟩ : ByteArray).size = l.length := by simp [ByteArray.size]
/-- Two registries that lie apart. -/
structure Apart (b mb b2 mb2 : Nat) : Prop where
  h1 : b ≠ b2
  h2 : b ≠ mb2
  h3 : mb ≠ b2
  h4 : mb ≠ mb2
end Go.Proofs.Ytmlkmhonpmnenaa
