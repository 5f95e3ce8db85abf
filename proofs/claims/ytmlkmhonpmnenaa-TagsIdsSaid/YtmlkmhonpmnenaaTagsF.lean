import Derived.Test.YtmlkmhonpmnenaaTagsE
namespace Go.Proofs.Ytmlkmhonpmnenaa
open Go.RowKit

theorem readP_le (l : List UInt8) : (readP l).2 ≤ l.length := by
  unfold readP
  split
  · split
    · exact Nat.sub_le _ _
    · exact Nat.zero_le _
  · exact Nat.zero_le _

theorem ext_drop (l : List UInt8) (n m : Nat) (h : m = l.length) : (⟨l.toArray⟩ : ByteArray).extract n m = ⟨(l.drop n).toArray⟩ := by
  subst h
  rw [Lib.extract_eq, mkb_toList, List.take_of_length_le (by simp)]

set_option maxRecDepth 100000 in
set_option maxHeartbeats 4000000 in
theorem each_any (g1 g2 : FuncId) (c1 c2 : Array Value) (hE1 : ∀ args w, (callFunc g1 args).run Try.prog w = .ok (.enter g1 args) w) (hE2 : ∀ args w, (callFunc g2 args).run Try.prog w = .ok (.enter g2 args) w)
    (J : List UInt8 → World → Prop) (X : List PanicEntry → World → Prop) (hJ : ∀ r W W', J r W → Below W.heap.size W W' → J r W')
    (hT : ∀ r W A c, J r W → r ≠ [] → r.length ≤ 1073741824 → (readP r).2 ≠ 0 → W.ownsRow 0 71 2 (.slice A (readP r).1.attrs.length c) (readP r).1.attrs.length (pairCells (readP r).1.attrs) →
      Calls Try.prog g1 (#[tagV (readP r).1 (.slice A (readP r).1.attrs.length c)] ++ c1) W fun e W' => (∃ v, e = .returned v ∧ J (r.drop (readP r).2) W') ∨ (∃ ch, e = .panicked ch ∧ X ch W'))
    (hO : ∀ b r W, J (b :: r) W → r.length ≤ 1073741824 → (readP (b :: r)).2 = 0 →
      Calls Try.prog g2 (#[.int .u8 (b.toNat : Int)] ++ c2) W fun e W' => (∃ v, e = .returned v ∧ J r W') ∨ (∃ ch, e = .panicked ch ∧ X ch W'))
    (l : List UInt8) (w : World) (hl : l.length ≤ 1073741824) (h0 : J l w) :
    Calls Try.prog 49 #[.string ⟨l.toArray⟩, .func (.func g1) #[] c1, .func (.func g2) #[] c2] w fun e w' => (∃ v, e = .returned v ∧ J [] w') ∨ (∃ ch, e = .panicked ch ∧ X ch w') := by
  have HT := Lib.hid hT
  have HO := Lib.hid hO
  have HJ := Lib.hid hJ
  clear hT hO hJ
  go_enter Try.func49, Try.ntmps49
  go_wp2_with fail
  go_loopw [0] (fun s0 wr => ∃ r : List UInt8, s0 = .string ⟨r.toArray⟩ ∧ r.length ≤ l.length ∧ Hid (J r wr)) (fun s0 _ => match s0 with | .string s => s.size | _ => 0)
  case atStart => exact ⟨l, rfl, Nat.le_refl _, h0⟩
  case round =>
    obtain ⟨r, rfl, hrl, hj⟩ := hrel
    rcases r with _ | ⟨b, r⟩
    · go_wp2
      go_end0
      exact .inl ⟨_, rfl, hj⟩
    · have hrl' : (b :: r).length ≤ 1073741824 := by omega
      obtain ⟨T, hT⟩ : ∃ T, (readP (b :: r)).1 = T := ⟨_, rfl⟩
      obtain ⟨n, hn⟩ : ∃ n, (readP (b :: r)).2 = n := ⟨_, rfl⟩
      have R := read_any (b :: r) wr hrl'
      have hnl := readP_le (b :: r)
      rw [hn] at R hnl
      rw [hT] at R
      unfold tagV at R
      have HR := Lib.hid R
      have HN := Lib.hid hn
      have HTT := Lib.hid hT
      clear R hn hT
      go_wp2_with fail
      refine HR.out.mono ?_
      rintro e w2 ⟨av, rfl, hown, hb⟩
      clear HR
      obtain ⟨A, c, rfl⟩ := own_sl hown
      have hj2 : Hid (J (b :: r) w2) := HJ.out _ _ _ hj hb
      have hj3 : ∀ o, Hid (J (b :: r) (w2.alloc o)) := fun o => HJ.out _ _ _ hj2 (by repeat (first | with_reducible refine below_drewN ?_ _ | with_reducible refine Below.drew ?_ | ((with_reducible refine Below.alloc ?_ ?_ _); rotate_left; focus (first | exact Nat.le_refl _ | omega | (simp; done) | (simp; omega))) | ((with_reducible refine Below.setCell ?_ ?_ _); rotate_left; focus (first | exact Nat.le_refl _ | omega | (simp; done) | (simp; omega))) | with_reducible exact Below.refl _ _ | with_reducible assumption))
      have HJ3 := Lib.hid hj3
      clear hj3 hj2 hj
      by_cases h0n : n = 0
      · subst h0n
        go_wp2_with fail
        refine (HO.out b r _ (HJ3.out _) (by simp at hrl'; omega) HN.out).mono ?_
        rintro e w3 (⟨v, rfl, hj4⟩ | ⟨ch, rfl, hx⟩)
        · have Hj4 : Hid (J r w3) := hj4
          have hlo : (0 : Int) ≤ 1 := by omega
          have hhi : (1 : Int) ≤ ((b :: r).length : Int) := by simp; omega
          clear hj4
          go_wp2
          go_roundw
          case rel => exact ⟨r, by rw [ext_drop (b :: r) 1 (r.length + 1) rfl]; rfl, by simp at hrl; omega, Hj4⟩
          case measure => rw [ext_drop (b :: r) 1 (r.length + 1) rfl]; simp [mkb_size]
        · go_wp2
          exact ⟨rfl, .inr ⟨ch, rfl, hx⟩⟩
      · have hn' : ((n : Int) == 0) = false := by simp; omega
        go_wp2_with fail
        have hTc := HT.out (b :: r) (w2.alloc (Obj.cells #[Value.string { data := T.name.toArray }, Value.bool T.ends, Value.bool T.void, Value.slice A T.attrs.length c] 25)) A c (HJ3.out _) (by simp) (by omega) (by rw [HN.out]; exact h0n)
        rw [HTT.out, HN.out] at hTc
        unfold tagV at hTc
        refine (hTc ((own_base_le hown (Nat.zero_le _)).alloc _)).mono ?_
        clear hTc
        rintro e w3 (⟨v, rfl, hj4⟩ | ⟨ch, rfl, hx⟩)
        · have Hj4 : Hid (J ((b :: r).drop n) w3) := hj4
          have hlo : (0 : Int) ≤ (n : Int) := by omega
          have hhi : (n : Int) ≤ ((b :: r).length : Int) := by omega
          clear hj4
          go_wp2
          go_roundw
          case rel => exact ⟨(b :: r).drop n, by rw [ext_drop (b :: r) n (r.length + 1) rfl], by simp at hrl ⊢; omega, Hj4⟩
          case measure => rw [ext_drop (b :: r) n (r.length + 1) rfl]; simp [mkb_size]; omega
        · go_wp2
          exact ⟨rfl, .inr ⟨ch, rfl, hx⟩⟩
end Go.Proofs.Ytmlkmhonpmnenaa
