/- those: the hooks of which something is so, in order. -/
import Derived.Test.YtmlkmhonpmnenaaRegH
namespace Go.Proofs.Ytmlkmhonpmnenaa
open Go.RowKit Go.Lib Go.Maps

theorem hk_cell {w : World} {base g n cap : Nat} {S : List Hk} (h : w.ownsRow base HT 5 (.slice (some ⟨g, 0, none⟩) n cap) n (hkCells S)) {k : Nat} (hk : k < S.length) (x : Hk) (hx : S[k] = x) :
    w.cell? ⟨g, k * 5, none⟩ = some (.string ⟨x.name.toArray⟩) ∧ w.cell? ⟨g, k * 5 + 1, none⟩ = some (.int .i64 x.phase) ∧ w.cell? ⟨g, k * 5 + 2, none⟩ = some (.int .i64 x.prio) ∧
      w.cell? ⟨g, k * 5 + 3, none⟩ = some (.string ⟨x.trig.toArray⟩) ∧ w.cell? ⟨g, k * 5 + 4, none⟩ = some (.int .i64 x.bit) := by
  subst hx
  have hc := h.cells (g := g) rfl
  have hadd : ∀ j, (⟨g, 0, none⟩ : Addr).add j = ⟨g, j, none⟩ := fun j => by unfold Addr.add; split <;> simp_all
  have key : ∀ j (u : Value), j < 5 → (hkC S[k])[j]? = some u → w.cell? ⟨g, k * 5 + j, none⟩ = some u := fun j u hj hu => by
    have h1 := hc (k * 5 + j) u ((hkCells_at S k j hk hj).trans hu)
    rwa [hadd] at h1
  exact ⟨key 0 _ (by omega) rfl, key 1 _ (by omega) rfl, key 2 _ (by omega) rfl, key 3 _ (by omega) rfl, key 4 _ (by omega) rfl⟩

set_option maxRecDepth 100000 in
set_option maxHeartbeats 4000000 in
theorem those_any (base b mb g : Nat) (cb : Array Value) (p : Hk → Bool) (m st : Int) (L : List Hk) (sealed : Bool) (w : World) (hR : Reg w base b mb m L sealed st) (hL : L.length ≤ 1000000)
    (eg : ∀ args w, (callFunc g args).run Try.prog w = .ok (.enter g args) w)
    (hcl : ∀ (W : World) (x : Hk), w.grownBy W (some b) → Calls Try.prog g (#[hkV x] ++ cb) W fun e w' => e = .returned (.bool (p x)) ∧ W.grownBy w' none) :
    Calls Try.prog 60 #[.pointer (some ⟨b, 0, none⟩), .func (.func g) #[] cb] w fun e w' => ∃ A c, e = .returned (.slice A ((srt (L.filter (onB m))).filter p).length c) ∧
      Reg w' base b mb m L true st ∧ w'.ownsRow w.heap.size HT 5 (.slice A ((srt (L.filter (onB m))).filter p).length c) ((srt (L.filter (onB m))).filter p).length (hkCells ((srt (L.filter (onB m))).filter p)) ∧ w.grownBy w' (some b) := by
  obtain ⟨i0, hi0, hz0, hz1, hz2⟩ := info_parts info43
  have hSl : (srt (L.filter (onB m))).length ≤ 1000000 := by rw [(srt_perm _).length_eq]; exact Nat.le_trans (List.length_filter_le _ _) hL
  obtain ⟨S, hS⟩ : ∃ S, srt (L.filter (onB m)) = S := ⟨_, rfl⟩
  have hlt : b < w.heap.size := by
    cases sealed with
    | false => exact (show RegO w base b mb m L st by simpa [Reg] using hR).lt.1
    | true =>
      obtain ⟨⟨_, _, _, hb, _⟩, _⟩ := (show RegS w base b m (srt (L.filter (onB m))) st ∧ Dist L by simpa [Reg] using hR)
      exact hb.lt
  have HC := Lib.hid (close_any base b mb m st L sealed w hR hL)
  have HCL := Lib.hid hcl
  clear hR hcl
  go_enter Try.func60, Try.ntmps60
  go_wp2_with fail
  refine HC.out.mono ?_
  rintro e w1 ⟨rfl, hR1, hg1⟩
  obtain ⟨⟨q1, mb', sv, hb1, hr1⟩, hdist⟩ := (show RegS w1 base b m (srt (L.filter (onB m))) st ∧ Dist L by simpa [Reg] using hR1)
  have HR1 := Lib.hid hR1
  have HG1 := Lib.hid hg1
  rw [hS] at hr1 hSl
  have hs1 : w.heap.size ≤ w1.heap.size := hg1.size
  have b6 := hb1.cell 6
  simp only [regCs] at b6
  have HS := Lib.hid hS
  clear hR1 hg1 HC hS hdist hb1
  rcases hr1.2 with ⟨rfl, hn⟩ | ⟨gs, cap, cur, rfl, hbase, hgs, hn1, hn2, hn3, hn4⟩
  · have hS0 : S = [] := List.eq_nil_of_length_eq_zero hn
    subst hS0
    clear hn hr1
    go_wp2
    refine wp_loop_rounds 1 ?_
    rw [rounds_succ]
    go_wp2
    go_ret
    rw [HS.out]
    exact ⟨none, 0, rfl, HR1.out, World.ownsRow_nil _ _ _ _, HG1.out⟩
  · clear hgs hn4
    have HRW := Lib.hid hr1
    clear hr1
    go_wp2
    have hSl' : (S.length : Int) ≤ 1000000 := by omega
    go_loopw [5, 17] (fun out i wr => ∃ (k : Nat) (A : Option Addr) (c : Nat), i = .int .i64 k ∧ k ≤ S.length ∧ out = .slice A ((S.take k).filter p).length c ∧ wr.ownsRow w1.heap.size HT 5 (.slice A ((S.take k).filter p).length c) ((S.take k).filter p).length (hkCells ((S.take k).filter p)) ∧ w1.grownBy wr none)
      (fun _ i _ => S.length - (intOf i).toNat)
    case atStart => exact ⟨0, none, 0, rfl, Nat.zero_le _, rfl, World.ownsRow_nil _ _ _ _, only_refl _ _⟩
    case round =>
      obtain ⟨k, A, c, rfl, hk, rfl, hout, hgw⟩ := hrel
      by_cases hlt' : k < S.length
      · obtain ⟨x, hx⟩ : ∃ x, S[k] = x := ⟨_, rfl⟩
        have htk : S.take (k + 1) = S.take k ++ [x] := by rw [List.take_succ_eq_append_getElem hlt', hx]
        have hrw := own_kept_none HRW.out hgw
        obtain ⟨c0, c1, c2, c3, c4⟩ := hk_cell hrw hlt' x hx
        have hgo : w.grownBy wr (some b) := only_then HG1.out hgw (fun j hj => by cases hj)
        have hsz : w1.heap.size ≤ wr.heap.size := hgw.size
        have hol : ((S.take k).filter p).length ≤ k := Nat.le_trans (List.length_filter_le _ _) (List.length_take_le _ _)
        have hcall := HCL.out (wr.alloc (.cells (hkC x).toArray HT)) x (only_alloc hgo _)
        have hout1 := hout.alloc (.cells (hkC x).toArray HT)
        have hgw1 := only_alloc hgw (.cells (hkC x).toArray HT)
        have hh := Blk.new wr HT (hkC x).toArray
        have HH := Lib.hid hh
        have HO := Lib.hid hout1
        have HGW := Lib.hid hgw1
        have HTK := Lib.hid htk
        clear hh hout hout1 hgw1 hgw hrw hgo htk hx
        cases hp : p x with
        | false =>
          rw [hp] at hcall
          have HCA := Lib.hid hcall
          have HPX := Lib.hid hp
          clear hcall hp
          obtain ⟨xn, xp, xr, xt, xb⟩ := x
          simp only [hkV, hkC] at HCA HGW HO HH
          go_wp2_with fail
          refine HCA.out.mono ?_
          rintro e w3 ⟨rfl, hg3⟩
          go_wp2
          go_roundw
          case rel => exact ⟨k + 1, A, c, by go_num, by omega, by rw [HTK.out, List.filter_append, List.filter_cons_of_neg (by rw [HPX.out]; simp), List.filter_nil, List.append_nil], by rw [HTK.out, List.filter_append, List.filter_cons_of_neg (by rw [HPX.out]; simp), List.filter_nil, List.append_nil]; exact own_kept_none HO.out hg3, only_then HGW.out hg3 (fun j hj => by cases hj)⟩
          case measure => simp [intOf]; omega
        | true =>
          rw [hp] at hcall
          have HCA := Lib.hid hcall
          have HPX := Lib.hid hp
          clear hcall hp
          obtain ⟨xn, xp, xr, xt, xb⟩ := x
          simp only [hkV, hkC] at HCA HGW HO HH
          go_wp2_with fail
          refine HCA.out.mono ?_
          rintro e w3 ⟨rfl, hg3⟩
          have ho3 := own_kept_none HO.out hg3
          have hg4 := only_then HGW.out hg3 (fun j hj => by cases hj)
          have hh3 := HH.out.grown hg3 (by simp)
          have h0 := hh3.cell 0
          have h1 := hh3.cell 1
          have h2 := hh3.cell 2
          have h3 := hh3.cell 3
          have h4 := hh3.cell 4
          have hs3 : w1.heap.size ≤ w3.heap.size := hg4.size
          have HO3 := Lib.hid ho3
          have HG4 := Lib.hid hg4
          clear ho3 hg4 hh3 hg3 HO HGW HH
          go_wp2_with (at_builtin; refine wpList_append_own _ rfl (.tmp 24) (.tmp 26) 39 rfl w1.heap.size HT i0 _ 5 56 Try.underlying39 hi0 hz0 hz1 hz2 rfl (by decide) _ _ _ rfl (HO3.out.alloc _) ⟨w3.heap.size, 0, none⟩ 1 1 (hkC ⟨xn, xp, xr, xt, xb⟩) rfl rfl (World.news_of_block (cs := (hkC ⟨xn, xp, xr, xt, xb⟩).toArray) (t := HT) (fr := (0, 0)) (heap_alloc_new w3 _)) (hkC_one _) (by unfold maxLen; omega) (by omega) (by simp; omega) ?_; intro v5 w5 hown5 hgrow5 hnil5)
          obtain ⟨A5, c5, hv5⟩ := own_slice hown5
          have e1 : (S.take (k + 1)).filter p = (S.take k).filter p ++ [⟨xn, xp, xr, xt, xb⟩] := by rw [HTK.out, List.filter_append, List.filter_cons_of_pos HPX.out, List.filter_nil]
          have e2 : ((S.take (k + 1)).filter p).length = ((S.take k).filter p).length + 1 := by rw [e1, List.length_append, List.length_singleton]
          have e3 : hkCells ((S.take (k + 1)).filter p) = hkCells ((S.take k).filter p) ++ hkC ⟨xn, xp, xr, xt, xb⟩ := by rw [e1, hkCells_append]; simp [hkCells]
          have hR : v5 = .slice A5 ((S.take (k + 1)).filter p).length c5 ∧ w5.ownsRow w1.heap.size HT 5 (.slice A5 ((S.take (k + 1)).filter p).length c5) ((S.take (k + 1)).filter p).length (hkCells ((S.take (k + 1)).filter p)) ∧ w1.grownBy w5 none := by
            rw [e3, e2, ← hv5]
            exact ⟨rfl, hown5, only_then (only_alloc HG4.out _) hgrow5 (fun j hj => .inl (HO3.out.lt j hj).1)⟩
          have HRR := Lib.hid hR
          clear hR e1 e2 e3 hv5 hown5 hgrow5 hnil5
          go_wp2
          go_roundw
          case rel => first | exact ⟨k + 1, A5, c5, by go_num, by omega, HRR.out⟩ | ((repeat apply Exists.intro); exact ⟨⟨k + 1, A5, c5, by go_num, by omega, HRR.out⟩, rfl⟩)
          case measure => simp [intOf]; omega
      · have hke : k = S.length := by omega
        subst hke
        have hout2 := own_lower hout hs1
        rw [List.take_length] at hout2
        have hgw2 := only_then HG1.out hgw (fun j hj => by cases hj)
        have hreg := HR1.out.kept hgw
        have HF := Lib.hid hout2
        have HG2 := Lib.hid hgw2
        have HRG := Lib.hid hreg
        clear hout2 hgw2 hreg hout hgw
        go_wp2
        go_ret
        rw [HS.out]
        exact ⟨A, c, by rw [List.take_length]; rfl, HRG.out, HF.out, HG2.out⟩
end Go.Proofs.Ytmlkmhonpmnenaa
