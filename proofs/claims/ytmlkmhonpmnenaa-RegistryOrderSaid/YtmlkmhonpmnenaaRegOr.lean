/- RegistryOrder's walk: hooks of unlike names, added in any order, are told in one order. -/
import Derived.Test.YtmlkmhonpmnenaaRegOw
import Derived.Test.YtmlkmhonpmnenaaRegFr
namespace Go.Proofs.Ytmlkmhonpmnenaa
open Go.RowKit Go.Lib Go.Maps

section
variable {P : Program} (w : World)
theorem step_append_any' {ops : Array Oper} {o : Oper} {a : Act} {K : Act → World → Prop} {Q : Exit → Act → World → Prop} {E : Prop} (hgd : o.guard = none) (s x : Operand) (t : TypeId)
    (ho : o.op = .call { callee := .builtin .append, args := #[s, x], argTypes := #[t, t] })
    (base : Nat) (e : TypeId) (i : TypeInfo) (z : Value) (size bytes : Nat) (ht : P.underlying t = some (.slice e)) (hi : P.info? e = some i) (hz : i.zero = some z)
    (hsize : i.size = size) (hby : i.bytes = bytes) (hzs : z.cells.size = size) (hsz : 0 < size)
    (v : Value) (n : Nat) (xs : List Value) (hs : a.eval s = v) (hown : w.ownsRow base e size v n xs)
    (B : Nat) (A : Option Addr) (m c : Nat) (news : List Value) (hx : a.eval x = .slice A m c) (hr : Reads w B size A m news) (h1 : ∀ u ∈ news, u.oneCell' = true)
    (h63 : n + m ≤ maxLen) (hbytes : (n + m) * bytes ≤ 140737488355328) (hbase : base ≤ w.heap.size)
    (h : ∀ v' w', w'.ownsRow base e size v' (n + m) (xs ++ news) → w.grownBy w' v.ownBlock → (v' = .slice none 0 0 ↔ v = .slice none 0 0 ∧ m = 0) → (v'.ownBlock = v.ownBlock ∨ v'.ownBlock = some w.heap.size) → K (a.put o.dst v') w') :
    if Region.wanted o (yielded ops a.tmps) = true then Oper.wp P o a w K Q else E := by
  have hw : Region.wanted o (yielded ops a.tmps) = true := by simp [Region.wanted, hgd]
  rw [if_pos hw]
  exact wp_append_any' w s x t ho base e i z size bytes ht hi hz hsize hby hzs hsz v n xs hs hown B A m c news hx hr h1 h63 hbytes hbase h
end

/-- A row of hooks is none of a registry's blocks. -/
theorem RegO.off {w : World} {base b mb : Nat} {m st : Int} {L : List Hk} (h : RegO w base b mb m L st) {base' n : Nat} {v : Value} {xs : List Value} (ho : w.ownsRow base' HT 5 v n xs) : some b ≠ v.ownBlock ∧ some mb ≠ v.ownBlock := by
  obtain ⟨_, _, _, hb, D, hm, _⟩ := h
  obtain ⟨es, clk, hbk, -⟩ := hm
  exact ⟨Ne.symm (own_blk_ne ho hb (by decide)), Ne.symm (own_map_ne ho hbk)⟩
theorem reads_take {w : World} {base g cap n : Nat} {M : List Hk} (h : w.ownsRow base HT 5 (.slice (some ⟨g, 0, none⟩) n cap) n (hkCells M)) {j : Nat} (hj : j ≤ M.length) (hg : g < w.heap.size) :
    Reads w w.heap.size 5 (some ⟨g, 0, none⟩) j (hkCells (M.take j)) := by
  refine ⟨by rw [hkCells_len, List.length_take, Nat.min_eq_left hj], fun _ => ⟨_, rfl, hg, fun t u hu => ?_⟩⟩
  rw [hkCells_take] at hu
  have ht : t < j * 5 := by
    have h1 := (List.getElem?_eq_some_iff.1 hu).1
    rw [List.length_take] at h1
    omega
  rw [List.getElem?_take_of_lt ht] at hu
  exact h.cells (g := g) rfl t u hu
theorem reads_drop {w : World} {base g cap n : Nat} {M : List Hk} (h : w.ownsRow base HT 5 (.slice (some ⟨g, 0, none⟩) n cap) n (hkCells M)) (hn : M.length = n) {j : Nat} (hj : j < M.length) (hg : g < w.heap.size) (A : Option Addr) (hA : A = if cap = j + 1 then some ⟨g, 0, none⟩ else some ⟨g, (j + 1) * 5, none⟩) (hc : n ≤ cap) :
    Reads w w.heap.size 5 A (M.length - (j + 1)) (hkCells (M.drop (j + 1))) := by
  subst hn
  subst hA
  refine ⟨by rw [hkCells_len, List.length_drop], fun h0 => ?_⟩
  rw [if_neg (by omega)]
  refine ⟨_, rfl, hg, fun t u hu => ?_⟩
  rw [hkCells_drop, List.getElem?_drop] at hu
  have h1 := h.cells (g := g) rfl _ u hu
  have hadd : ∀ j, (⟨g, 0, none⟩ : Addr).add j = ⟨g, j, none⟩ := fun j => by unfold Addr.add; split <;> simp_all
  have hadd2 : (⟨g, (j + 1) * 5, none⟩ : Addr).add t = ⟨g, (j + 1) * 5 + t, none⟩ := by unfold Addr.add; split <;> simp_all
  rw [hadd2]
  rwa [hadd] at h1
theorem own_empty {w : World} {base : Nat} (h : base ≤ w.heap.size) : (w.alloc (.cells #[] HT)).ownsRow base HT 5 (.slice (some ⟨w.heap.size, 0, none⟩) 0 0) 0 [] :=
  ⟨by simp, .inr ⟨w.heap.size, 0, #[], rfl, h, heap_alloc_new w _, Nat.le_refl _, by unfold maxLen; omega, rfl, rfl⟩⟩
/-- A row stays what it is while a row that was laid behind it grows. -/
theorem own_after {w w' : World} {base n : Nat} {v : Value} {xs : List Value} {o : Obj} (h : w.ownsRow base HT 5 v n xs) (hg : (w.alloc o).drew.grownBy w' (Value.slice (some ⟨w.heap.size, 0, none⟩) 0 0).ownBlock) : w'.ownsRow base HT 5 v n xs := by
  refine World.ownsRow.kept (w := (w.alloc o).drew) (h.alloc o) hg ?_
  cases hv : v.ownBlock with
  | none => exact .inl rfl
  | some k => right; have := (h.lt k hv).2; simp [Value.ownBlock]; omega
/-- Hooks that can all be added. -/
def Good (L : List Hk) : Prop := Dist L ∧ ∀ h ∈ L, h.name.isEmpty = false ∧ h.name.length ≤ 300
theorem Good.add {L : List Hk} (h : Good L) {x : Hk} (hx : addB L x = true) (hl : x.name.length ≤ 300) : Good (L ++ [x]) := by
  have hd := addL_dist x h.1
  rw [addL_of hx, if_pos rfl] at hd
  refine ⟨hd, fun g hg => ?_⟩
  rcases List.mem_append.1 hg with hg | hg
  · exact h.2 g hg
  · simp only [List.mem_singleton] at hg
    subst hg
    refine ⟨?_, hl⟩
    unfold addB at hx
    cases he : g.name.isEmpty with
    | false => rfl
    | true => rw [he] at hx; cases hx
/-- What is left can be added to what was. -/
theorem Good.next {L T M : List Hk} (h : Good L) (hp : L.Perm (T ++ M)) {p : Nat} (hpl : p < M.length) :
    addB T M[p] = true ∧ M[p].name.length ≤ 300 ∧ L.Perm ((T ++ [M[p]]) ++ (M.take p ++ M.drop (p + 1))) := by
  have hd : Dist (T ++ M) := h.1.perm hp
  have hm : M[p] ∈ M := List.getElem_mem hpl
  have hmL : M[p] ∈ L := hp.mem_iff.2 (List.mem_append_right _ hm)
  obtain ⟨h1, h2⟩ := h.2 _ hmL
  refine ⟨?_, h2, ?_⟩
  · unfold addB
    rw [h1]
    have : (T.any fun g => g.name == M[p].name) = false := List.any_eq_false.2 fun g hg => by
      have := (List.pairwise_append.1 hd).2.2 g hg _ hm
      simpa using this
    rw [this]; rfl
  · have e : M.take p ++ M.drop (p + 1) = M.eraseIdx p := (List.eraseIdx_eq_take_drop_succ ..).symm
    rw [e, List.append_assoc, List.singleton_append]
    exact hp.trans ((cons_eraseIdx_perm hpl).symm.append_left T)
theorem order_told {L T : List Hk} (h : Good L) (hp : L.Perm T) (m : Int) : srt (T.filter (onB m)) = srt (L.filter (onB m)) := by
  have hd : Dist (L.filter (onB m)) := h.1.sublist List.filter_sublist
  exact (srt_perm_eq hd (hp.filter _)).symm

set_option maxRecDepth 200000 in
set_option maxHeartbeats 8000000 in
theorem orderLaw_walk (m : Int) (A : Option Addr) (cap : Nat) (S : List Hk) (Ap : Option Addr) (lenp capp : Nat) (zp : List Int) (ch : UInt8) (w : World) (h : HkIn w A S) (hz : IntsIn w Ap lenp zp) :
    Calls Try.prog 10 #[.int .i64 m, .slice A S.length cap, .slice Ap lenp capp, .int .u8 (ch.toNat : Int)] w fun e w' => e = .returned (.bool true) ∧ Below w.heap.size w w' := by
  have HH := Lib.hid h
  have HZ := Lib.hid hz
  clear h hz
  by_cases h2 : 40 < S.length
  · have h2' : (40 : Int) < (S.length : Int) := by omega
    go_enter Try.func10, Try.ntmps10
    go_wp2_with fail
    refine (awake7_any _).mono ?_
    rintro e w1 ⟨rfl, hb1⟩
    go_wp2
    go_ret
    exact ⟨rfl, hb1⟩
  · have h2' : (S.length : Int) ≤ 40 := by omega
    obtain ⟨i0, hi0, hz0, hz1, hz2⟩ := info_parts info43
    have HN1 := Lib.hid (fun w => new_any m w)
    go_enter Try.func10, Try.ntmps10
    go_wp2_with fail
    refine (awake7_any _).mono ?_
    rintro e w1 ⟨rfl, b1⟩
    have B1 := Lib.hid b1
    have hs1 := b1.size
    clear b1
    go_wp2_with fail
    refine (HN1.out _).mono ?_
    rintro e w2 ⟨b, mb, rfl, r2, b2⟩
    have b2' : Below w.heap.size w w2 := B1.out.trans (b2.mono hs1)
    have B2 := Lib.hid b2'
    have R2 := Lib.hid r2
    have q1 := r2.1
    have q2 := r2.2.1
    have q3 := r2.lt
    have hs2 := b2.size
    clear r2 b2 b2' B1
    go_wp2_with fail
    refine (HN1.out _).mono ?_
    rintro e w3 ⟨c, mc, rfl, r3, b3⟩
    have b3' : Below w.heap.size w w3 := B2.out.trans (b3.mono (Nat.le_trans hs1 hs2))
    have q4 := r3.1
    have q5 := r3.2.1
    have q6 := r3.lt
    have hs3 := b3.size
    have r23 : RegO w3 w1.heap.size b mb (bits .and .i64 m 127) [] 0 := R2.out.kept (only_of_below b3 none) (by simp) (by simp)
    have hap : Apart b mb c mc := ⟨by omega, by omega, by omega, by omega⟩
    have HAP := Lib.hid hap
    have B3 := Lib.hid b3'
    have R3 := Lib.hid r23
    have R4 := Lib.hid r3
    clear r3 r23 b3 b3' B2 R2 hap HN1
    go_wp2_with fail
    go_loopw [12, 13] (fun lf i wr => ∃ (k : Nat) (L : List Hk) (Al : Option Addr) (cl : Nat), i = .int .i64 k ∧ k ≤ S.length ∧ lf = .slice Al L.length cl ∧ L.length ≤ k ∧ (k = 0 → L = []) ∧ Good L ∧ w3.heap.size ≤ wr.heap.size ∧ wr.ownsRow w3.heap.size HT 5 (.slice Al L.length cl) L.length (hkCells L) ∧
      RegO wr w1.heap.size b mb (bits .and .i64 m 127) L 0 ∧ RegO wr w2.heap.size c mc (bits .and .i64 m 127) [] 0 ∧ Below w.heap.size w wr) (fun _ i _ => S.length - (intOf i).toNat)
    case atStart => exact ⟨0, [], none, 0, rfl, Nat.zero_le _, rfl, Nat.le_refl _, fun _ => rfl, ⟨List.Pairwise.nil, fun _ h => by simp at h⟩, Nat.le_refl _, World.ownsRow_nil _ _ _ _, R3.out, R4.out, B3.out⟩
    case round =>
      obtain ⟨k, L, Al, cl, rfl, hk, rfl, hLk, hL0, hG, hsz3, hO, hr1, hr2, hB⟩ := hrel
      by_cases hlt : k < S.length
      · have hkl : (k : Int) < (S.length : Int) := by omega
        obtain ⟨x, hx⟩ : ∃ x, S[k] = x := ⟨_, rfl⟩
        have hin := HH.out.below hB
        obtain ⟨bk, off, rfl, hbk, c0, c1, c2, c3, c4⟩ := hin.at_ hlt x hx
        have hbw : bk < w.heap.size := by
          rcases HH.out with h | ⟨b', o', hA, hl, _⟩
          · rw [h] at hlt; exact absurd hlt (by simp)
          · injection hA with hA; injection hA with hA; omega
        have HB := Lib.hid hB
        have HR1 := Lib.hid hr1
        have HR2 := Lib.hid hr2
        have HO := Lib.hid hO
        have HGd := Lib.hid hG
        have hws : w.heap.size ≤ wr.heap.size := hB.size
        clear hin hx hB hr1 hr2 hO hG
        obtain ⟨xn, xp, xr, xt, xb⟩ := x
        simp only at c0 c1 c2 c3 c4
        by_cases hn3 : 300 < xn.length
        · have hn3'' : (300 : Int) < (xn.length : Int) := by omega
          go_wp2
          go_ret
          exact ⟨rfl, HB.out⟩
        · have hn3'' : (xn.length : Int) ≤ 300 := by omega
          by_cases ht3 : 300 < xt.length
          · have ht3'' : (300 : Int) < (xt.length : Int) := by omega
            go_wp2
            go_ret
            exact ⟨rfl, HB.out⟩
          · have ht3'' : (xt.length : Int) ≤ 300 := by omega
            have hA1 := add_open w1.heap.size b mb (bits .and .i64 m 127) 0 L ⟨xn, xp, xr, xt, xb⟩ wr HR1.out (by unfold maxLen; omega) (by show xn.length ≤ maxLen; unfold maxLen; omega)
            have nb := HR1.out.lt
            obtain ⟨D1, om1, -⟩ := HR1.out.2.2.2.2
            have hnm : (Value.slice Al L.length cl).ownBlock ≠ some mb := by
              obtain ⟨es, clk, hbk', -⟩ := om1
              exact own_map_ne HO.out hbk'
            obtain ⟨p1, p2, p3, p4⟩ := HAP.out
            cases ht : addB L ⟨xn, xp, xr, xt, xb⟩ with
            | false =>
              rw [ht, addL_of ht] at hA1
              simp only [Bool.false_eq_true, if_false] at hA1
              have HA1 := Lib.hid hA1
              simp only [hkV, hkC] at HA1
              clear hA1 HR1 ht om1
              go_wp2_with fail
              refine HA1.out.mono ?_
              rintro e w4 ⟨rfl, r4, g4⟩
              have b4 := below_only HB.out g4 (Nat.le_refl _) (fun j hj => by cases hj; omega)
              have r24 := HR2.out.kept g4 (by simpa using Ne.symm p3) (by simpa using Ne.symm p4)
              have o4 := HO.out.kept g4 (.inr hnm)
              have hs4 : w3.heap.size ≤ w4.heap.size := Nat.le_trans hsz3 g4.size
              have R4' := Lib.hid r4
              have R24 := Lib.hid r24
              have O4 := Lib.hid o4
              have B4 := Lib.hid b4
              clear r4 g4 b4 r24 o4 HB HA1 HR2 HO
              go_wp2
              go_roundw
              case rel => first
                | exact ⟨k + 1, L, Al, cl, by go_num, by omega, rfl, by omega, by omega, HGd.out, hs4, O4.out, R4'.out, R24.out, B4.out⟩
                | ((repeat apply Exists.intro); exact ⟨⟨k + 1, L, Al, cl, by go_num, by omega, rfl, by omega, by omega, HGd.out, hs4, O4.out, R4'.out, R24.out, B4.out⟩, rfl⟩)
              case measure => simp [intOf]; omega
            | true =>
              have hGn := HGd.out.add ht (by show xn.length ≤ 300; omega)
              rw [ht, addL_of ht] at hA1
              simp only [if_true] at hA1
              have HA1 := Lib.hid hA1
              have HGN := Lib.hid hGn
              simp only [hkV, hkC] at HA1
              clear hA1 HR1 ht om1 hGn
              go_wp2_with fail
              refine HA1.out.mono ?_
              rintro e w4 ⟨rfl, r4, g4⟩
              have b4 := below_only HB.out g4 (Nat.le_refl _) (fun j hj => by cases hj; omega)
              have r24 := HR2.out.kept g4 (by simpa using Ne.symm p3) (by simpa using Ne.symm p4)
              have o4 := HO.out.kept g4 (.inr hnm)
              have hbm : some bk ≠ some mb := by simp; omega
              have d0 := (g4.cell_far ⟨bk, off + k * 5, none⟩ (by show bk < _; omega) hbm).trans c0
              have d1 := (g4.cell_far ⟨bk, off + k * 5 + 1, none⟩ (by show bk < _; omega) hbm).trans c1
              have d2 := (g4.cell_far ⟨bk, off + k * 5 + 2, none⟩ (by show bk < _; omega) hbm).trans c2
              have d3 := (g4.cell_far ⟨bk, off + k * 5 + 3, none⟩ (by show bk < _; omega) hbm).trans c3
              have d4 := (g4.cell_far ⟨bk, off + k * 5 + 4, none⟩ (by show bk < _; omega) hbm).trans c4
              have hs4 : w3.heap.size ≤ w4.heap.size := Nat.le_trans hsz3 g4.size
              have R4' := Lib.hid r4
              have R24 := Lib.hid r24
              have O4 := Lib.hid o4
              have B4 := Lib.hid b4
              clear r4 g4 b4 r24 o4 HB HA1 HR2 HO c0 c1 c2 c3 c4
              go_wp2_with (at_builtin; refine wpList_append_own _ rfl (.tmp 55) (.tmp 60) 39 rfl w3.heap.size HT i0 _ 5 56 Try.underlying39 hi0 hz0 hz1 hz2 rfl (by decide) _ _ _ rfl (O4.out.alloc _) ⟨w4.heap.size, 0, none⟩ 1 1 (hkC ⟨xn, xp, xr, xt, xb⟩) rfl rfl (World.news_of_block (cs := (hkC ⟨xn, xp, xr, xt, xb⟩).toArray) (t := HT) (fr := (0, 0)) (heap_alloc_new w4 _)) (hkC_one _) (by unfold maxLen; omega) (by omega) (by simp; omega) ?_; intro v5 w5 hown5 hgrow5 hnil5)
              obtain ⟨A5, c5, hv5⟩ := own_slice hown5
              have e2 : (L ++ [(⟨xn, xp, xr, xt, xb⟩ : Hk)]).length = L.length + 1 := by simp
              have e3 : hkCells (L ++ [(⟨xn, xp, xr, xt, xb⟩ : Hk)]) = hkCells L ++ hkC ⟨xn, xp, xr, xt, xb⟩ := by rw [hkCells_append]; simp [hkCells]
              have hg45 : w4.grownBy w5 (Value.slice Al L.length cl).ownBlock := only_then (only_alloc (only_refl w4 _) _) hgrow5 (fun j hj => .inr hj)
              obtain ⟨o1, o2⟩ := R4'.out.off O4.out
              obtain ⟨o3, o4⟩ := R24.out.off O4.out
              have hF : v5 = .slice A5 (L ++ [(⟨xn, xp, xr, xt, xb⟩ : Hk)]).length c5 ∧ (L ++ [(⟨xn, xp, xr, xt, xb⟩ : Hk)]).length ≤ k + 1 ∧ (k + 1 = 0 → L ++ [(⟨xn, xp, xr, xt, xb⟩ : Hk)] = []) ∧ Good (L ++ [⟨xn, xp, xr, xt, xb⟩]) ∧ w3.heap.size ≤ w5.heap.size ∧
                  w5.ownsRow w3.heap.size HT 5 (.slice A5 (L ++ [(⟨xn, xp, xr, xt, xb⟩ : Hk)]).length c5) (L ++ [(⟨xn, xp, xr, xt, xb⟩ : Hk)]).length (hkCells (L ++ [⟨xn, xp, xr, xt, xb⟩])) ∧
                  RegO w5 w1.heap.size b mb (bits .and .i64 m 127) (L ++ [⟨xn, xp, xr, xt, xb⟩]) 0 ∧ RegO w5 w2.heap.size c mc (bits .and .i64 m 127) [] 0 ∧ Below w.heap.size w w5 := by
                rw [e3, e2]
                exact ⟨hv5, by omega, by omega, HGN.out, Nat.le_trans hs4 hg45.size, by rw [← hv5]; exact hown5, R4'.out.kept hg45 o1 o2, R24.out.kept hg45 o3 o4, below_only B4.out hg45 (Nat.le_refl _) (fun j hj => by have := (O4.out.lt j hj).1; omega)⟩
              have HF := Lib.hid hF
              clear hF e2 e3 hv5 hown5 hgrow5 hnil5 hg45
              go_wp2
              go_roundw
              case rel => first
                | exact ⟨k + 1, _, A5, c5, by go_num, by omega, HF.out⟩
                | ((repeat apply Exists.intro); exact ⟨⟨k + 1, _, A5, c5, by go_num, by omega, HF.out⟩, rfl⟩)
              case measure => simp [intOf]; omega
      · have hke : k = S.length := by omega
        subst hke
        have HB := Lib.hid hB
        have HR1 := Lib.hid hr1
        have HR2 := Lib.hid hr2
        have HO := Lib.hid hO
        have HGd := Lib.hid hG
        have HL0 := Lib.hid hL0
        have hws : w.heap.size ≤ wr.heap.size := hB.size
        clear hB hr1 hr2 hO hG hL0
        go_wp2_with fail
        go_loopw [12, 14] (fun lf i wq => ∃ (t : Nat) (M T : List Hk) (Al : Option Addr) (cl : Nat), i = .int .i64 t ∧ t + M.length = L.length ∧ lf = .slice Al M.length cl ∧ L.Perm (T ++ M) ∧ T.length + M.length = L.length ∧ w3.heap.size ≤ wq.heap.size ∧ wq.ownsRow w3.heap.size HT 5 (.slice Al M.length cl) M.length (hkCells M) ∧
          RegO wq w1.heap.size b mb (bits .and .i64 m 127) L 0 ∧ RegO wq w2.heap.size c mc (bits .and .i64 m 127) T 0 ∧ Below w.heap.size w wq) (fun lf _ _ => match lf with | .slice _ n _ => n | _ => 0)
        case atStart => exact ⟨0, L, [], Al, cl, rfl, by omega, rfl, List.Perm.refl _, by simp, hsz3, HO.out, HR1.out, HR2.out, HB.out⟩
        case round =>
          obtain ⟨t, M, T, Am, cm, rfl, htM, rfl, hp, hTM, hsz4, hO4, hr14, hr24, hB4⟩ := hrel
          by_cases hM0 : M.length = 0
          · have hMe : M = [] := List.eq_nil_of_length_eq_zero hM0
            subst hMe
            rw [List.append_nil] at hp
            have hTl : T.length = L.length := by simpa using hTM
            have htold := order_told HGd.out hp (bits .and .i64 m 127)
            have HT := Lib.hid htold
            have R0 := Lib.hid (reg_of_open hr14)
            have R1 := Lib.hid (reg_of_open hr24)
            have BB := Lib.hid hB4
            have q7 : w.heap.size ≤ w1.heap.size := hs1
            have q8 : w.heap.size ≤ w2.heap.size := Nat.le_trans hs1 hs2
            clear hp htold hO4 hr14 hr24 hB4 hTM hM0 htM
            go_wp2_with fail
            go_loopw [16] (fun i wq => ∃ k : Nat, i = .int .i64 k ∧ k ≤ S.length ∧ (k = 0 → Reg wq w1.heap.size b mb (bits .and .i64 m 127) L false 0) ∧ (0 < k → Reg wq w1.heap.size b mb (bits .and .i64 m 127) L true 0) ∧ (∃ s, Reg wq w2.heap.size c mc (bits .and .i64 m 127) T s 0) ∧ Below w.heap.size w wq) (fun i _ => S.length - (intOf i).toNat)
            case atStart => exact ⟨0, rfl, Nat.zero_le _, fun _ => R0.out, fun h => absurd h (by omega), ⟨_, R1.out⟩, BB.out⟩
            case round =>
              obtain ⟨k, rfl, hk, hk0, hk1, hrt, hB⟩ := hrel
              by_cases hlt : k < S.length
              · obtain ⟨x, hx⟩ : ∃ x, S[k] = x := ⟨_, rfl⟩
                have hin := HH.out.below hB
                obtain ⟨bk, off, rfl, -, c0, c1, -, -, -⟩ := hin.at_ hlt x hx
                have hbw : bk < w.heap.size := by
                  rcases HH.out with h | ⟨b', o', hA, hl, _⟩
                  · rw [h] at hlt; exact absurd hlt (by simp)
                  · injection hA with hA; injection hA with hA; omega
                have hrb : ∃ s, Reg wr w1.heap.size b mb (bits .and .i64 m 127) L s 0 := by
                  rcases Nat.eq_zero_or_pos k with h | h
                  · exact ⟨_, hk0 h⟩
                  · exact ⟨_, hk1 h⟩
                obtain ⟨p1, p2, p3, p4⟩ := HAP.out
                have hS0 : OW w w1.heap.size w2.heap.size b mb c mc (bits .and .i64 m 127) L T ⟨bk, off + k * 5 + 1, none⟩ ⟨bk, off + k * 5, none⟩ x.phase x.name wr.drew :=
                  OW.drew ⟨c1, c0, hbw, hbw, q7, q8, p1, p2, p3, p4, hB, hrb, hrt⟩
                have hLm : L.length ≤ 1000000 := by omega
                have hTm : T.length ≤ 1000000 := by omega
                obtain ⟨RS, hRS⟩ : ∃ R, (srt (L.filter (onB (bits .and .i64 m 127)))).filter (fun y => y.phase == x.phase) = R := ⟨_, rfl⟩
                obtain ⟨RF, hRF⟩ : ∃ R, (srt (L.filter (onB (bits .and .i64 m 127)))).filter (forB x.phase ch) = R := ⟨_, rfl⟩
                obtain ⟨v, hv⟩ : ∃ v, (srt (L.filter (onB (bits .and .i64 m 127)))).any (fun y => y.name == x.name) = v := ⟨_, rfl⟩
                have hll : (srt (L.filter (onB (bits .and .i64 m 127)))).length ≤ 1000000 := by rw [(srt_perm _).length_eq]; exact Nat.le_trans (List.length_filter_le _ _) hLm
                have hRSl : RS.length ≤ 1000000 := by rw [← hRS]; exact Nat.le_trans (List.length_filter_le _ _) hll
                have hRFl : RF.length ≤ 1000000 := by rw [← hRF]; exact Nat.le_trans (List.length_filter_le _ _) hll
                have hRST := HT.out ▸ hRS
                have hRFT := HT.out ▸ hRF
                have hvT := HT.out ▸ hv
                obtain ⟨W0, hW0⟩ : ∃ W0, wr = W0 := ⟨_, rfl⟩
                have E1 := Lib.hid (fun W h => ow_sortedR (w := w) (B1 := w1.heap.size) (B2 := w2.heap.size) (b := b) (mb := mb) (c := c) (mc := mc) (m := bits .and .i64 m 127) (L := L) (T := T) (pa := ⟨bk, off + k * 5 + 1, none⟩) (pn := ⟨bk, off + k * 5, none⟩) (ph := x.phase) (nm := x.name) (W := W) hLm h RS hRS)
                have E2 := Lib.hid (fun W A d h ho => ow_sortedT (w := w) (B1 := w1.heap.size) (B2 := w2.heap.size) (b := b) (mb := mb) (c := c) (mc := mc) (m := bits .and .i64 m 127) (L := L) (T := T) (pa := ⟨bk, off + k * 5 + 1, none⟩) (pn := ⟨bk, off + k * 5, none⟩) (ph := x.phase) (nm := x.name) (W := W) (A := A) (d := d) hTm h RS hRST ho)
                have E3 := Lib.hid (fun W h => ow_forR (w := w) (B1 := w1.heap.size) (B2 := w2.heap.size) (b := b) (mb := mb) (c := c) (mc := mc) (m := bits .and .i64 m 127) (L := L) (T := T) (pa := ⟨bk, off + k * 5 + 1, none⟩) (pn := ⟨bk, off + k * 5, none⟩) (ph := x.phase) (nm := x.name) (W := W) ch hLm h RF hRF)
                have E4 := Lib.hid (fun W A d h ho => ow_forT (w := w) (B1 := w1.heap.size) (B2 := w2.heap.size) (b := b) (mb := mb) (c := c) (mc := mc) (m := bits .and .i64 m 127) (L := L) (T := T) (pa := ⟨bk, off + k * 5 + 1, none⟩) (pn := ⟨bk, off + k * 5, none⟩) (ph := x.phase) (nm := x.name) (W := W) (A := A) (d := d) ch hTm h RF hRFT ho)
                have E5 := Lib.hid (fun W A d A' d' R hRl h h1 h2 => ow_same (w := w) (B1 := w1.heap.size) (B2 := w2.heap.size) (b := b) (mb := mb) (c := c) (mc := mc) (m := bits .and .i64 m 127) (L := L) (T := T) (pa := ⟨bk, off + k * 5 + 1, none⟩) (pn := ⟨bk, off + k * 5, none⟩) (ph := x.phase) (nm := x.name) (W := W) (A := A) (d := d) (A' := A') (d' := d') R hRl h h1 h2)
                have E6 := Lib.hid (fun W h => ow_hasR (w := w) (B1 := w1.heap.size) (B2 := w2.heap.size) (b := b) (mb := mb) (c := c) (mc := mc) (m := bits .and .i64 m 127) (L := L) (T := T) (pa := ⟨bk, off + k * 5 + 1, none⟩) (pn := ⟨bk, off + k * 5, none⟩) (ph := x.phase) (nm := x.name) (W := W) hLm h v hv)
                have E7 := Lib.hid (fun W h hr => ow_hasT (w := w) (B1 := w1.heap.size) (B2 := w2.heap.size) (b := b) (mb := mb) (c := c) (mc := mc) (m := bits .and .i64 m 127) (L := L) (T := T) (pa := ⟨bk, off + k * 5 + 1, none⟩) (pn := ⟨bk, off + k * 5, none⟩) (ph := x.phase) (nm := x.name) (W := W) hTm h v hvT hr)
                have hvv : (v != v) = false := by cases v <;> rfl
                have hki : (k : Int) < (S.length : Int) := by omega
                have hki0 : (0 : Int) ≤ (k : Int) := by omega
                clear hRS hRF hv hRST hRFT hvT hk0 hk1 hrt hrb hB c0 c1 hin hx hll hW0
                go_wp2_with fail
                trace "HELD"
                go_region_held3 (fun w' => w'.cell? ⟨bk, off + k * 5 + 1, none⟩ = some (.int .i64 x.phase) ∧ w'.cell? ⟨bk, off + k * 5, none⟩ = some (.string ⟨x.name.toArray⟩) ∧ OWr w w1.heap.size w2.heap.size b mb c mc (bits .and .i64 m 127) L T ⟨bk, off + k * 5 + 1, none⟩ ⟨bk, off + k * 5, none⟩ w') (first | exact hS0 | assumption)
                  (first
                    | (go_at_call 31; refine (E1.out _ (by assumption)).mono ?_; rintro e w' ⟨A1, d1, rfl, h1, hS⟩)
                    | (go_at_call 31; refine (E2.out _ _ _ (by assumption) (by assumption)).mono ?_; rintro e w' ⟨A2, d2, rfl, h2', h1', hS⟩)
                    | (go_at_call 34; refine (E3.out _ (by assumption)).mono ?_; rintro e w' ⟨A3, d3, rfl, h3, hS⟩)
                    | (go_at_call 34; refine (E4.out _ _ _ (by assumption) (by assumption)).mono ?_; rintro e w' ⟨A4, d4, rfl, h4, h3', hS⟩)
                    | (go_at_call 27; refine (E5.out _ _ _ _ _ _ (by assumption) (by assumption) (by assumption) (by assumption)).mono ?_; rintro e w' ⟨rfl, hS⟩)
                    | (go_at_call 35; refine (E6.out _ (by assumption)).mono ?_; rintro e w' ⟨rfl, hrt, hS⟩)
                    | (go_at_call 35; refine (E7.out _ (by assumption) (by assumption)).mono ?_; rintro e w' ⟨rfl, hrt, hS⟩))
                all_goals
                  have hO : OW w w1.heap.size w2.heap.size b mb c mc (bits .and .i64 m 127) L T ⟨bk, off + k * 5 + 1, none⟩ ⟨bk, off + k * 5, none⟩ x.phase x.name _ := hS
                  obtain ⟨-, -, -, -, -, -, -, -, -, -, hB9, -, ht9⟩ := hO
                  have HB9 := Lib.hid hB9
                  have HT9 := Lib.hid ht9
                  have HR9 := Lib.hid hrt
                  clear hB9 ht9
                  go_wp2
                  go_roundw
                  case rel => first
                    | exact ⟨k + 1, by go_num, by omega, fun h => absurd h (by omega), fun _ => HR9.out, HT9.out, HB9.out⟩
                    | ((repeat apply Exists.intro); exact ⟨⟨k + 1, by go_num, by omega, fun h => absurd h (by omega), fun _ => HR9.out, HT9.out, HB9.out⟩, rfl⟩)
                  case measure => simp [intOf]; omega
              · have hke : k = S.length := by omega
                subst hke
                have HBE := Lib.hid hB
                rcases Nat.eq_zero_or_pos S.length with h0 | h0
                · have hr0 := hk0 h0
                  have hLe := HL0.out h0
                  rw [hLe] at hr0
                  have hA := add_open w1.heap.size b mb (bits .and .i64 m 127) 0 [] ⟨[122, 122, 122], 0, 0, [], 0⟩ wr (reg_open hr0) (by decide) (by decide)
                  rw [show addB [] ⟨[122, 122, 122], 0, 0, [], 0⟩ = true by kernel_rfl] at hA
                  have HA := Lib.hid hA
                  have hbm := (reg_open hr0).2.1
                  have hz : (S.length : Int) ≤ 0 := by omega
                  clear hA hr0 hLe hk0 hk1 hrt hB
                  simp only [hkV, hkC] at HA
                  go_wp2_with fail
                  refine HA.out.mono ?_
                  rintro e w9 ⟨rfl, -, g9⟩
                  go_wp2
                  go_ret
                  exact ⟨by first | rfl | simp, below_only HBE.out g9 (Nat.le_refl _) (fun j hj => by cases hj; omega)⟩
                · obtain ⟨⟨_, mb9, sv9, hb9, _⟩, _⟩ := (show RegS wr w1.heap.size b (bits .and .i64 m 127) (srt (L.filter (onB (bits .and .i64 m 127)))) 0 ∧ Dist L by simpa [Reg] using hk1 h0)
                  have hA := add_shut b ⟨[122, 122, 122], 0, 0, [], 0⟩ _ wr hb9 rfl
                  have HA := Lib.hid hA
                  have hz : (0 : Int) < (S.length : Int) := by omega
                  clear hA hb9 hk0 hk1 hrt hB
                  simp only [hkV, hkC] at HA
                  go_wp2_with fail
                  refine HA.out.mono ?_
                  rintro e w9 ⟨rfl, g9⟩
                  go_wp2
                  go_ret
                  exact ⟨by first | rfl | simp, below_only HBE.out g9 (Nat.le_refl _) (fun j hj => by cases hj)⟩
          · obtain ⟨gm, c1, e4, -, l4⟩ := hO4.form (by omega)
            obtain ⟨rfl, rfl⟩ : Am = some ⟨gm, 0, none⟩ ∧ cm = c1 := by injection e4 with h1 _ h2; exact ⟨h1, h2⟩
            have hMi : (0 : Int) < (M.length : Int) := by omega
            have htl : (t : Int) ≤ 40 := by omega
            have hcap : M.length ≤ cm := by
              rcases hO4.2 with ⟨h, _⟩ | ⟨g, cap, cur, h, _, _, h5, _⟩
              · cases h
              · injection h with _ _ h; omega
            by_cases htp : t < lenp
            · obtain ⟨bp, offp, rfl, hbp, hzc⟩ := (HZ.out).resolve_left (by omega)
              obtain ⟨pk, hpk⟩ : ∃ pk, zp.getD t 0 = pk := ⟨_, rfl⟩
              have hck := (hB4.cell (p := ⟨bp, offp + t, none⟩) hbp).trans (hzc t htp)
              rw [hpk] at hck
              obtain ⟨m0, m1⟩ : 0 ≤ bits .and .i64 pk 65535 ∧ bits .and .i64 pk 65535 ≤ 65535 := bits_and_range pk 65535 (by decide)
              obtain ⟨y, hy⟩ : ∃ y, bits .and .i64 pk 65535 = y := ⟨_, rfl⟩
              rw [hy] at m0 m1
              have hj0 := Int.emod_nonneg y (show (M.length : Int) ≠ 0 by omega)
              have hj1 := Int.emod_lt_of_pos y hMi
              obtain ⟨j, hj⟩ : ∃ j : Nat, y % (M.length : Int) = (j : Int) := ⟨(y % (M.length : Int)).toNat, by omega⟩
              rw [hj] at hj1
              have hjM : j < M.length := by omega
              obtain ⟨f1, f2, f3⟩ := HGd.out.next hp hjM
              obtain ⟨x, hx⟩ : ∃ x, M[j] = x := ⟨_, rfl⟩
              obtain ⟨a0, a1, a2, a3, a4⟩ := hk_cell hO4 hjM x hx
              rw [hx] at f1 f2 f3
              have hA := add_open w2.heap.size c mc (bits .and .i64 m 127) 0 T x wr hr24 (by unfold maxLen; omega) (by unfold maxLen; omega)
              rw [f1, addL_of f1, if_pos rfl] at hA
              obtain ⟨o1, o2⟩ := hr14.off hO4
              obtain ⟨o3, o4⟩ := hr24.off hO4
              have HA := Lib.hid hA
              have HP := Lib.hid f3
              have HO4 := Lib.hid hO4
              have HR14 := Lib.hid hr14
              have HB4 := Lib.hid hB4
              have htp' : (t : Int) < (lenp : Int) := by omega
              obtain ⟨p1, p2, p3, p4⟩ := HAP.out
              clear hA f1 f2 f3 hO4 hr14 hr24 hB4 e4 hpk hzc hj0 hp hx
              obtain ⟨xn, xp, xr, xt, xb⟩ := x
              simp only at a0 a1 a2 a3 a4
              simp only [hkV, hkC] at HA
              go_wp2_with fail
              refine HA.out.mono ?_
              rintro e w5 ⟨rfl, r5, g5⟩
              have o5 := HO4.out.kept g5 (.inr (Ne.symm o4))
              have r15 := HR14.out.kept g5 (by simpa using p2) (by simpa using p4)
              have b5 := below_only HB4.out g5 (Nat.le_refl _) (fun j hj => by cases hj; omega)
              have hs5 : w3.heap.size ≤ w5.heap.size := Nat.le_trans hsz4 g5.size
              have hg5 : gm < w5.heap.size := Nat.lt_of_lt_of_le l4 g5.size
              have O5 := Lib.hid o5
              have R15 := Lib.hid r15
              have R25 := Lib.hid r5
              have B5 := Lib.hid b5
              have hjz : (0 : Int) ≤ (j : Int) := by omega
              have hjc : (j : Int) ≤ (cm : Int) := by omega
              have hjz1 : (0 : Int) ≤ (j : Int) + 1 := by omega
              have hjm1 : (j : Int) + 1 ≤ (M.length : Int) := by omega
              have hjw : IntKind.i64.wrap ((j : Int) + 1) = (j : Int) + 1 := by rw [IntKind.wrap_i64]; omega
              have hjt : ((j : Int) + 1).toNat = j + 1 := by omega
              have HCAP := Lib.hid hcap
              clear o5 r15 r5 b5 g5 HO4 HR14 HB4 HA a0 a1 a2 a3 a4 hck hy hcap
              go_wp2_with fail
              go_region_law (first | (refine step_append_any' _ (by rfl) (.tmp 86) (.tmp 89) _ (by rfl) w3.heap.size HT i0 _ 5 56 Try.underlying39 hi0 hz0 hz1 hz2 rfl (by omega) (.slice (some ⟨w5.heap.size, 0, none⟩) 0 0) 0 [] (by rfl) (World.ownsRow.drew (own_empty hs5)) _ (some ⟨gm, 0, none⟩) j cm (hkCells (M.take j)) (by rfl) ((reads_take (O5.out.alloc _) (by omega) (by simp; omega)).drew) (hkCells_one _) (by unfold maxLen; omega) (by omega) (by simp; omega) ?_; intro v6 w6 hown6 hgrow6 hnil6 hat6) | (refine step_append_any' _ (by rfl) (.tmp 90) (.tmp 94) _ (by rfl) w3.heap.size HT i0 _ 5 56 Try.underlying39 hi0 hz0 hz1 hz2 rfl (by omega) v6 (0 + j) ([] ++ hkCells (M.take j)) (by rfl) hown6 _ _ (M.length - (j + 1)) (cm - (j + 1)) (hkCells (M.drop (j + 1))) (by rfl) (reads_drop (own_after O5.out hgrow6) rfl (by omega) (by have := hgrow6.size; simp at this; omega) _ rfl HCAP.out) (hkCells_one _) (by unfold maxLen; omega) (by omega) (by have := hgrow6.size; simp at this; omega) ?_; intro v7 w7 hown7 hgrow7 hnil7 hat7))
              all_goals
                obtain ⟨A7, c7, hv7⟩ := own_slice hown7
                have hl7 : 0 + j + (M.length - (j + 1)) = (M.take j ++ M.drop (j + 1)).length := by rw [List.length_append, List.length_take, List.length_drop]; omega
                have hx7 : [] ++ hkCells (M.take j) ++ hkCells (M.drop (j + 1)) = hkCells (M.take j ++ M.drop (j + 1)) := by rw [hkCells_append]; rfl
                have hm7 : (M.take j ++ M.drop (j + 1)).length + 1 = M.length := by rw [← hl7]; omega
                have hg57 : w5.grownBy w7 none := by
                  refine only_then (only_then (only_drew (only_alloc (only_refl w5 none) _)) hgrow6 (fun k hk => .inl (by simp [Value.ownBlock] at hk; omega))) hgrow7 (fun k hk => .inl ?_)
                  rcases hat6 with h | h
                  · rw [h] at hk; simp [Value.ownBlock] at hk; omega
                  · rw [h] at hk; simp at hk; omega
                have hF : v7 = .slice A7 (M.take j ++ M.drop (j + 1)).length c7 ∧ L.Perm ((T ++ [(⟨xn, xp, xr, xt, xb⟩ : Hk)]) ++ (M.take j ++ M.drop (j + 1))) ∧ (T ++ [(⟨xn, xp, xr, xt, xb⟩ : Hk)]).length + (M.take j ++ M.drop (j + 1)).length = L.length ∧ w3.heap.size ≤ w7.heap.size ∧
                    w7.ownsRow w3.heap.size HT 5 (.slice A7 (M.take j ++ M.drop (j + 1)).length c7) (M.take j ++ M.drop (j + 1)).length (hkCells (M.take j ++ M.drop (j + 1))) ∧ RegO w7 w1.heap.size b mb (bits .and .i64 m 127) L 0 ∧ RegO w7 w2.heap.size c mc (bits .and .i64 m 127) (T ++ [⟨xn, xp, xr, xt, xb⟩]) 0 ∧ Below w.heap.size w w7 := by
                  rw [hl7] at hv7
                  rw [hl7, hx7] at hown7
                  exact ⟨hv7, HP.out, by rw [List.length_append, List.length_singleton]; omega, Nat.le_trans hs5 hg57.size, by rw [← hv7]; exact hown7, R15.out.kept hg57 (by simp) (by simp), R25.out.kept hg57 (by simp) (by simp), below_only B5.out hg57 (Nat.le_refl _) (fun j hj => by cases hj)⟩
                have HF := Lib.hid hF
                clear hF hl7 hx7 hv7 hown7 hgrow7 hnil7 hat7 hown6 hgrow6 hnil6 hat6 hg57
                go_wp2
                go_roundw
                case rel => first
                  | exact ⟨t + 1, _, _, A7, c7, by go_num, by omega, HF.out⟩
                  | ((repeat apply Exists.intro); exact ⟨⟨t + 1, _, _, A7, c7, by go_num, by omega, HF.out⟩, rfl⟩)
                case measure =>
                  have hv := HF.out.1
                  subst hv
                  show (M.take j ++ M.drop (j + 1)).length < M.length
                  omega
            · have hjM : 0 < M.length := by omega
              have htp' : (lenp : Int) ≤ (t : Int) := by omega
              obtain ⟨f1, f2, f3⟩ := HGd.out.next hp hjM
              obtain ⟨x, hx⟩ : ∃ x, M[0] = x := ⟨_, rfl⟩
              obtain ⟨a0, a1, a2, a3, a4⟩ := hk_cell hO4 hjM x hx
              rw [hx] at f1 f2 f3
              have hA := add_open w2.heap.size c mc (bits .and .i64 m 127) 0 T x wr hr24 (by unfold maxLen; omega) (by unfold maxLen; omega)
              rw [f1, addL_of f1, if_pos rfl] at hA
              obtain ⟨o1, o2⟩ := hr14.off hO4
              obtain ⟨o3, o4⟩ := hr24.off hO4
              have HA := Lib.hid hA
              have HP := Lib.hid f3
              have HO4 := Lib.hid hO4
              have HR14 := Lib.hid hr14
              have HB4 := Lib.hid hB4
              obtain ⟨p1, p2, p3, p4⟩ := HAP.out
              clear hA f1 f2 f3 hO4 hr14 hr24 hB4 e4 hp hx
              obtain ⟨xn, xp, xr, xt, xb⟩ := x
              simp only [Nat.zero_mul, Nat.zero_add] at a0 a1 a2 a3 a4
              simp only [hkV, hkC] at HA
              go_wp2_with fail
              refine HA.out.mono ?_
              rintro e w5 ⟨rfl, r5, g5⟩
              have o5 := HO4.out.kept g5 (.inr (Ne.symm o4))
              have r15 := HR14.out.kept g5 (by simpa using p2) (by simpa using p4)
              have b5 := below_only HB4.out g5 (Nat.le_refl _) (fun jj hjj => by cases hjj; omega)
              have hs5 : w3.heap.size ≤ w5.heap.size := Nat.le_trans hsz4 g5.size
              have hg5 : gm < w5.heap.size := Nat.lt_of_lt_of_le l4 g5.size
              have O5 := Lib.hid o5
              have R15 := Lib.hid r15
              have R25 := Lib.hid r5
              have B5 := Lib.hid b5
              have hjz : (0 : Int) ≤ (0 : Int) := by omega
              have hjc : (0 : Int) ≤ (cm : Int) := by omega
              have hjz1 : (0 : Int) ≤ (0 : Int) + 1 := by omega
              have hjm1 : (0 : Int) + 1 ≤ (M.length : Int) := by omega
              have hjw : IntKind.i64.wrap ((0 : Int) + 1) = (0 : Int) + 1 := by rw [IntKind.wrap_i64]; omega
              have hjt : ((0 : Int) + 1).toNat = 0 + 1 := by omega
              have hjw1 : IntKind.i64.wrap 1 = 1 := by decide
              have hjm2 : (1 : Int) ≤ (M.length : Int) := by omega
              have HCAP := Lib.hid hcap
              clear o5 r15 r5 b5 g5 HO4 HR14 HB4 HA a0 a1 a2 a3 a4 hcap
              go_wp2_with fail
              go_region_law (first | (refine step_append_any' _ (by rfl) (.tmp 86) (.tmp 89) _ (by rfl) w3.heap.size HT i0 _ 5 56 Try.underlying39 hi0 hz0 hz1 hz2 rfl (by omega) (.slice (some ⟨w5.heap.size, 0, none⟩) 0 0) 0 [] (by rfl) (World.ownsRow.drew (own_empty hs5)) _ (some ⟨gm, 0, none⟩) 0 cm (hkCells (M.take 0)) (by rfl) ((reads_take (O5.out.alloc _) (by omega) (by simp; omega)).drew) (hkCells_one _) (by unfold maxLen; omega) (by omega) (by simp; omega) ?_; intro v6 w6 hown6 hgrow6 hnil6 hat6) | (refine step_append_any' _ (by rfl) (.tmp 90) (.tmp 94) _ (by rfl) w3.heap.size HT i0 _ 5 56 Try.underlying39 hi0 hz0 hz1 hz2 rfl (by omega) v6 (0 + 0) ([] ++ hkCells (M.take 0)) (by rfl) hown6 _ _ (M.length - (0 + 1)) (cm - (0 + 1)) (hkCells (M.drop (0 + 1))) (by rfl) (reads_drop (own_after O5.out hgrow6) rfl (by omega) (by have := hgrow6.size; simp at this; omega) _ rfl HCAP.out) (hkCells_one _) (by unfold maxLen; omega) (by omega) (by have := hgrow6.size; simp at this; omega) ?_; intro v7 w7 hown7 hgrow7 hnil7 hat7))
              all_goals
                obtain ⟨A7, c7, hv7⟩ := own_slice hown7
                have hl7 : 0 + 0 + (M.length - (0 + 1)) = (M.take 0 ++ M.drop (0 + 1)).length := by rw [List.length_append, List.length_take, List.length_drop]; omega
                have hx7 : [] ++ hkCells (M.take 0) ++ hkCells (M.drop (0 + 1)) = hkCells (M.take 0 ++ M.drop (0 + 1)) := by rw [hkCells_append]; rfl
                have hm7 : (M.take 0 ++ M.drop (0 + 1)).length + 1 = M.length := by rw [← hl7]; omega
                have hg57 : w5.grownBy w7 none := by
                  refine only_then (only_then (only_drew (only_alloc (only_refl w5 none) _)) hgrow6 (fun k hk => .inl (by simp [Value.ownBlock] at hk; omega))) hgrow7 (fun k hk => .inl ?_)
                  rcases hat6 with h | h
                  · rw [h] at hk; simp [Value.ownBlock] at hk; omega
                  · rw [h] at hk; simp at hk; omega
                have hF : v7 = .slice A7 (M.take 0 ++ M.drop (0 + 1)).length c7 ∧ L.Perm ((T ++ [(⟨xn, xp, xr, xt, xb⟩ : Hk)]) ++ (M.take 0 ++ M.drop (0 + 1))) ∧ (T ++ [(⟨xn, xp, xr, xt, xb⟩ : Hk)]).length + (M.take 0 ++ M.drop (0 + 1)).length = L.length ∧ w3.heap.size ≤ w7.heap.size ∧
                    w7.ownsRow w3.heap.size HT 5 (.slice A7 (M.take 0 ++ M.drop (0 + 1)).length c7) (M.take 0 ++ M.drop (0 + 1)).length (hkCells (M.take 0 ++ M.drop (0 + 1))) ∧ RegO w7 w1.heap.size b mb (bits .and .i64 m 127) L 0 ∧ RegO w7 w2.heap.size c mc (bits .and .i64 m 127) (T ++ [⟨xn, xp, xr, xt, xb⟩]) 0 ∧ Below w.heap.size w w7 := by
                  rw [hl7] at hv7
                  rw [hl7, hx7] at hown7
                  exact ⟨hv7, HP.out, by rw [List.length_append, List.length_singleton]; omega, Nat.le_trans hs5 hg57.size, by rw [← hv7]; exact hown7, R15.out.kept hg57 (by simp) (by simp), R25.out.kept hg57 (by simp) (by simp), below_only B5.out hg57 (Nat.le_refl _) (fun jj hjj => by cases hjj)⟩
                have HF := Lib.hid hF
                clear hF hl7 hx7 hv7 hown7 hgrow7 hnil7 hat7 hown6 hgrow6 hnil6 hat6 hg57
                go_wp2
                go_roundw
                case rel => first
                  | exact ⟨t + 1, _, _, A7, c7, by go_num, by omega, HF.out⟩
                  | ((repeat apply Exists.intro); exact ⟨⟨t + 1, _, _, A7, c7, by go_num, by omega, HF.out⟩, rfl⟩)
                case measure =>
                  have hv := HF.out.1
                  subst hv
                  show (M.take 0 ++ M.drop (0 + 1)).length < M.length
                  omega
end Go.Proofs.Ytmlkmhonpmnenaa
