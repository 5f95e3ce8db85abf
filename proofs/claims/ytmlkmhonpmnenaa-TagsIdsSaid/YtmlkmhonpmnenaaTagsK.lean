import Derived.Test.YtmlkmhonpmnenaaTagsJ
namespace Go.Proofs.Ytmlkmhonpmnenaa
open Go.RowKit

set_option maxRecDepth 100000 in
set_option maxHeartbeats 4000000 in
theorem catch_idle (B : Nat) (w : World) :
    CallsD Try.prog 48 #[.pointer (some ⟨B, 0, none⟩)] .returning w fun e u' w' => e = .returned (.tuple #[]) ∧ u' = .returning ∧ w = w' := by
  refine callsD_of_wpS Try.func48 rfl fun c₀ cs hu => ?_
  apply wpS_seq
  apply wpS_region
  simp [wpOpsS, go_sem, recoverD, hu, Try.ntmps48, Exit.thenS]
  refine wpS_of_wp ?_
  go_wp2
  cases c₀
  simp_all [bodyPostS, results, Try.results48]
set_option maxRecDepth 100000 in
set_option maxHeartbeats 4000000 in
theorem catch_wrong (B : Nat) (b : Bool) (w : World) (hc : w.cell? ⟨B, 0, none⟩ = some (.bool b)) (hz : w.frozen? ⟨B, 0, none⟩ = false) (hB : B < w.heap.size) :
    CallsD Try.prog 48 #[.pointer (some ⟨B, 0, none⟩)] (.panicking wrongP) w fun e u' w' =>
      e = .returned (.tuple #[]) ∧ u' = .panicking [{ v := wrongV, recovered := true }] ∧ w' = (w.setCell ⟨B, 0, none⟩ (.bool false)).alloc (.cells #[] 75) := by
  unfold wrongP wrongV
  refine callsD_of_wpS Try.func48 rfl fun c₀ cs hu => ?_
  have hta : ∀ w, (Instr.typeAssert (.iface 75 (.agg #[])) 20 75 true).run Try.prog w = .ok (.tuple #[.agg #[], .bool true]) w := fun _ => by kernel_rfl
  simp only [Try.ntmps48, List.size_toArray, List.length_cons, List.length_nil, Nat.reduceAdd, Nat.reduceSub, Array.replicate_succ, Array.replicate_zero, List.push_toArray, List.append_toArray, List.nil_append, List.cons_append]
  apply wpS_seq
  apply wpS_region
  simp [wpOpsS, go_sem, recoverD, hu, Exit.thenS]
  refine wpS_of_wp ?_
  go_wp2
  clear hta hc hz
  cases c₀
  simp_all [bodyPostS, results, Try.results48]

def checkJ (B : Nat) (w : World) (L : Bool) (n : Nat) (r : List UInt8) (W : World) : Prop :=
  ∃ st, Stack (B + 1) st W ∧ W.heap[B]? = some (.cells #[.bool false] 4 (0, 0)) ∧ Below B w W ∧ L = checkT (toks r) st ∧ st.length + r.length ≤ n
def checkX (B : Nat) (w : World) (L : Bool) (ch : List PanicEntry) (W : World) : Prop := ch = wrongP ∧ L = false ∧ W.heap[B]? = some (.cells #[.bool false] 4 (0, 0)) ∧ Below B w W
theorem check_tag (T : TagP) (av : Value) (B : Nat) (st : List (List UInt8)) (w : World) (hav : ∃ A n c, av = .slice A n c) (h : Stack B st w) (hl : st.length ≤ 1073741824) :
    Calls Try.prog 50 (#[tagV T av] ++ #[.pointer (some ⟨B, 0, none⟩)]) w fun e w' =>
      (∃ st', tagStep T st = some st' ∧ e = .returned (.tuple #[]) ∧ Stack B st' w' ∧ Below B w w') ∨ (tagStep T st = none ∧ e = .panicked wrongP ∧ Below B w w') := by
  cases he : T.ends
  · exact check_begin T av B st w hav h hl he
  · exact check_end T av B st w hav h hl he
theorem tagStep_len {T : TagP} {st st' : List (List UInt8)} (h : tagStep T st = some st') : st'.length ≤ st.length + 1 := by
  unfold tagStep at h
  split at h
  · rcases st with _ | ⟨n, s⟩
    · cases h
    · simp only at h
      split at h
      · cases h; simp only [List.length_cons]; omega
      · cases h
  · split at h <;> cases h <;> simp

set_option maxRecDepth 100000 in
set_option maxHeartbeats 4000000 in
theorem check_any (l : List UInt8) (w : World) (hs : l.length ≤ 1073741824) :
    Calls Try.prog 18 #[.string ⟨l.toArray⟩] w fun e w' => e = .returned (.bool (checkT (toks l) [])) ∧ Below w.heap.size w w' := by
  have e1 : ∀ args w, (callFunc 50 args).run Try.prog w = .ok (.enter 50 args) w := enters_of Try.func50 (by kernel_rfl) rfl
  have e2 : ∀ args w, (callFunc 52 args).run Try.prog w = .ok (.enter 52 args) w := enters_of Try.func52 (by kernel_rfl) rfl
  have hmf : ∀ (fn : Fn) (first cap : Array Value) (w : World), (Instr.makeFunc fn first cap).run Try.prog w = .ok (.func fn first cap) w := fun _ _ _ _ => rfl
  have HE := Lib.hid (each_any 50 52 #[.pointer (some ⟨w.heap.size + 1, 0, none⟩)] #[] e1 e2 (checkJ w.heap.size w (checkT (toks l) []) l.length) (checkX w.heap.size w (checkT (toks l) []))
    (fun r W W' ⟨st, h1, h2, h3, h4, h5⟩ hb => ⟨st, strs_below h1 hb, (hb.block _ (Array.getElem?_eq_some_iff.1 h2).1).trans h2, h3.trans (hb.mono h3.size), h4, h5⟩)
    (fun r W A c ⟨st, h1, h2, h3, h4, h5⟩ hr hrl hn hrow => by
      have hle := readP_le r
      refine (check_tag (readP r).1 _ (w.heap.size + 1) st W ⟨_, _, _, rfl⟩ h1 (by omega)).mono ?_
      rintro e W' (⟨st', hts, rfl, h1', hb⟩ | ⟨hts, rfl, hb⟩)
      · have := tagStep_len hts
        refine .inl ⟨_, rfl, st', h1', (hb.block _ (Nat.lt_succ_self _)).trans h2, h3.trans (hb.mono (Nat.le_succ _)), ?_, by simp; omega⟩
        rw [h4, toks_tag hr hn, checkT, hts]
      · refine .inr ⟨_, rfl, rfl, ?_, (hb.block _ (Nat.lt_succ_self _)).trans h2, h3.trans (hb.mono (Nat.le_succ _))⟩
        rw [h4, toks_tag hr hn, checkT, hts])
    (fun b r W ⟨st, h1, h2, h3, h4, h5⟩ hrl hn => by
      refine (check_byte b W).mono ?_
      rintro e W' ⟨he, rfl⟩
      rw [toks_byte hn, checkT] at h4
      cases hb : (b != 60 && b != 62)
      · rw [hb] at he h4
        simp only [Bool.false_eq_true, if_false] at he
        exact .inr ⟨_, he, rfl, by rw [h4]; rfl, h2, h3⟩
      · rw [hb] at he h4
        simp only [if_true] at he
        exact .inl ⟨_, he, st, h1, h2, h3, by rw [h4, Bool.true_and], by simp at h5; omega⟩)
    l ((w.alloc (.cells #[.bool false] 4)).alloc (.cells #[.slice none 0 0] 35)) hs
    ⟨[], ⟨none, 0, heap_new_at _ (by simp), World.ownsRow_nil _ _ _ _⟩, (Below.heap_alloc _ _ _ (by simp)).trans (heap_alloc_new w _), (by repeat (first | with_reducible refine below_drewN ?_ _ | with_reducible refine Below.drew ?_ | ((with_reducible refine Below.alloc ?_ ?_ _); rotate_left; focus (first | exact Nat.le_refl _ | omega | (simp; done) | (simp; omega))) | ((with_reducible refine Below.setCell ?_ ?_ _); rotate_left; focus (first | exact Nat.le_refl _ | omega | (simp; done) | (simp; omega))) | with_reducible exact Below.refl _ _ | with_reducible assumption)), rfl, by simp⟩)
  clear e1 e2
  go_enter_defers Try.func18, Try.ntmps18
  go_wp2_with fail
  refine HE.out.mono ?_
  rintro e w2 (⟨v, rfl, hj⟩ | ⟨ch, rfl, hx⟩)
  · obtain ⟨st, ⟨A, c, hbx, hrow⟩, h2, h3, h4, h5⟩ := hj
    have h4' : checkT (toks l) [] = st.isEmpty := by rw [h4, toks_nil]; rfl
    have H4 := Lib.hid h4'
    clear h4 h4' HE
    have c0 : w2.cell? ⟨w.heap.size, 0, none⟩ = some (.bool false) := cell_of_one h2
    have f0 : w2.frozen? ⟨w.heap.size, 0, none⟩ = false := free_of_one h2
    have c1 : w2.cell? ⟨w.heap.size + 1, 0, none⟩ = some (.slice A st.reverse.length c) := cell_of_one hbx
    have hdec : ((st.length : Int) == 0) = st.isEmpty := by cases st <;> simp <;> omega
    go_wp2
    refine leaves_cons (f := 48) (args := #[.pointer (some ⟨w.heap.size, 0, none⟩)]) (by simp) (by simp [go_sem]) ?_
    refine (catch_idle _ _).mono ?_
    rintro e u' w'' ⟨rfl, rfl, rfl⟩
    refine ⟨.bool st.isEmpty, ?_, by rw [H4.out], (by repeat (first | with_reducible refine below_drewN ?_ _ | with_reducible refine Below.drew ?_ | ((with_reducible refine Below.alloc ?_ ?_ _); rotate_left; focus (first | exact Nat.le_refl _ | omega | (simp; done) | (simp; omega))) | ((with_reducible refine Below.setCell ?_ ?_ _); rotate_left; focus (first | exact Nat.le_refl _ | omega | (simp; done) | (simp; omega))) | with_reducible exact Below.refl _ _ | with_reducible assumption))⟩
    simp [results, Try.results18, go_sem, c0]
  · obtain ⟨rfl, hL, h2, h3⟩ := hx
    clear HE
    have HL := Lib.hid hL
    clear hL
    have c0 : w2.cell? ⟨w.heap.size, 0, none⟩ = some (.bool false) := cell_of_one h2
    have f0 : w2.frozen? ⟨w.heap.size, 0, none⟩ = false := free_of_one h2
    have hlt : w.heap.size < w2.heap.size := (Array.getElem?_eq_some_iff.1 h2).1
    go_wp2
    refine leaves_cons (f := 48) (args := #[.pointer (some ⟨w.heap.size, 0, none⟩)]) (by simp) (by simp [go_sem]) ?_
    refine (catch_wrong w.heap.size false _ c0 f0 hlt).mono ?_
    rintro e u' w'' ⟨rfl, rfl, rfl⟩
    refine ⟨.bool false, ?_, by rw [HL.out], (by repeat (first | with_reducible refine below_drewN ?_ _ | with_reducible refine Below.drew ?_ | ((with_reducible refine Below.alloc ?_ ?_ _); rotate_left; focus (first | exact Nat.le_refl _ | omega | (simp; done) | (simp; omega))) | ((with_reducible refine Below.setCell ?_ ?_ _); rotate_left; focus (first | exact Nat.le_refl _ | omega | (simp; done) | (simp; omega))) | with_reducible exact Below.refl _ _ | with_reducible assumption))⟩
    simp [results, Try.results18, go_sem, c0, hlt]
end Go.Proofs.Ytmlkmhonpmnenaa
