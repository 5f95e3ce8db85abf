/- registry.New and Add. -/
import Derived.Test.YtmlkmhonpmnenaaRegE
namespace Go.Proofs.Ytmlkmhonpmnenaa
open Go.RowKit Go.Lib Go.Maps

theorem regO_block {w : World} {base b mb : Nat} {m st : Int} {L : List Hk} (h : RegO w base b mb m L st) : Blk w b RT (regCs m mb 0 0 false (.slice none 0 0) st) := h.2.2.2.1

set_option maxRecDepth 100000 in
set_option maxHeartbeats 1000000 in
theorem new_any (m : Int) (w : World) :
    Calls Try.prog 29 #[.int .i64 m] w fun e w' => ∃ b mb : Nat, e = .returned (.pointer (some ⟨b, 0, none⟩)) ∧ RegO w' w.heap.size b mb (bits .and .i64 m 127) [] 0 ∧ Below w.heap.size w w' := by
  have hmm := @run_makeMap Try.prog
  go_enter Try.func29, Try.ntmps29
  go_wp2
  go_ret
  refine ⟨w.heap.size + 1, w.heap.size, rfl, ⟨by omega, Nat.le_refl _, by omega, ?_, .map [], ?_, Rep.nil⟩, ?_⟩
  · show ((w.alloc (.map #[] 0)).alloc (.cells (regCs (bits .and .i64 m 127) w.heap.size 0 0 false (.slice none 0 0) 0) RT)).heap[w.heap.size + 1]? = _
    have h := Blk.new (w.alloc (.map #[] 0)) RT (regCs (bits .and .i64 m 127) w.heap.size 0 0 false (.slice none 0 0) 0)
    simp at h
    exact h
  · exact (World.ownsMap_made w Try.prog 9 RH).alloc _
  · exact (by repeat (first | with_reducible refine below_drewN ?_ _ | with_reducible refine Below.drew ?_ | ((with_reducible refine Below.alloc ?_ ?_ _); rotate_left; focus (first | exact Nat.le_refl _ | omega | (simp; done) | (simp; omega))) | ((with_reducible refine Below.setCell ?_ ?_ _); rotate_left; focus (first | exact Nat.le_refl _ | omega | (simp; done) | (simp; omega))) | with_reducible exact Below.refl _ _ | with_reducible assumption))

set_option maxRecDepth 100000 in
set_option maxHeartbeats 2000000 in
/-- Add to a registry that is sealed: nothing is added. -/
theorem add_shut (b : Nat) (x : Hk) (cs : Array Value) (w : World) (hb : Blk w b RT cs) (h5 : cs[5]? = some (.bool true)) :
    Calls Try.prog 30 #[.pointer (some ⟨b, 0, none⟩), hkV x] w fun e w' => e = .returned (.bool false) ∧ w.grownBy w' none := by
  have hc : w.cell? ⟨b, 5, none⟩ = some (.bool true) := (hb.cell 5).trans h5
  have hlt := hb.lt
  obtain ⟨xn, xp, xr, xt, xb⟩ := x
  simp only [hkV, hkC]
  have hc1 : (w.alloc (.cells #[.string ⟨xn.toArray⟩, .int .i64 xp, .int .i64 xr, .string ⟨xt.toArray⟩, .int .i64 xb] HT)).cell? ⟨b, 5, none⟩ = some (.bool true) := by
    rw [World.cell?_alloc_past _ _ _ hlt]; exact hc
  clear hb h5
  go_enter Try.func30, Try.ntmps30
  go_wp2
  go_ret
  exact ⟨rfl, only_alloc (only_refl _ _) _⟩

theorem zero43 (w : World) : (zeroValue HT).run Try.prog w = .ok (hkV ⟨[], 0, 0, [], 0⟩) w := Try.zeroValue43 w
theorem isEmpty_arr (l : List UInt8) : (⟨l.toArray⟩ : ByteArray).toList.isEmpty = l.isEmpty := by rw [Lib.toList_data]
theorem addB_of {L : List Hk} {x : Hk} {D : DataW Unit} (hR : Rep D L) (hne : x.name.isEmpty = false) {t : Bool} (ht : Maps.has D (.string x.name) = t) : addB L x = !t := by
  unfold addB
  rw [← hR.has, ht, hne]; rfl
theorem addL_of {L : List Hk} {x : Hk} {t : Bool} (h : addB L x = t) : addL L x = if t then L ++ [x] else L := by
  unfold addL; rw [h]

theorem look_reg {D : DataW Unit} {mb n0 : Nat} {w0 : World} {key : Value} {kl : Lit} (h0 : w0.ownsMap Try.prog 9 RH mb n0 D) (hkey : keyOf Try.prog 9 key = some kl) :
    ∃ g : Hk, ∀ (W : World) (n : Nat), W.ownsMap Try.prog 9 RH mb n D → (Instr.lookup 89 (.map (some mb)) key true).run Try.prog W = .ok (.tuple #[hkV g, .bool (Maps.has D kl)]) W := by
  obtain ⟨v, ps, _, hRv⟩ := h0.look_ok key9 Try.underlying89 (zero43 _) (RH_mk _) hkey
  obtain ⟨g, rfl, hg⟩ := RH_inv _ _ hRv
  refine ⟨g, fun W n h => ?_⟩
  obtain ⟨v', ps', hrun', hRv'⟩ := h.look_ok key9 Try.underlying89 (zero43 _) (RH_mk _) hkey
  obtain ⟨g', rfl, hg'⟩ := RH_inv _ _ hRv'
  have e : hkD g' = hkD g := (congrArg Prod.fst hg').symm.trans (congrArg Prod.fst hg)
  rw [hrun', hkD_inj e]

set_option maxRecDepth 100000 in
set_option maxHeartbeats 4000000 in
/-- Add to a registry that is not sealed. -/
theorem add_open (base b mb : Nat) (m st : Int) (L : List Hk) (x : Hk) (w : World) (hR : RegO w base b mb m L st) (hL : L.length < maxLen) (hn : x.name.length ≤ maxLen) :
    Calls Try.prog 30 #[.pointer (some ⟨b, 0, none⟩), hkV x] w fun e w' => e = .returned (.bool (addB L x)) ∧ RegO w' base b mb m (addL L x) st ∧ w.grownBy w' (some mb) := by
  have hR0 := hR
  obtain ⟨q1, q2, q3, hb, D, hm, hD⟩ := hR
  have hlt := hb.lt
  have hkey : keyOf Try.prog 9 (.string ⟨x.name.toArray⟩) = some (.string x.name) := Go.WideMaps.keyOf_string_mk (s := ⟨x.name.toArray⟩) Try.underlying9 (by simpa [ByteArray.size] using hn)
  cases he : x.name.isEmpty with
  | true =>
    have e1 : addB L x = false := by unfold addB; rw [he]; rfl
    rw [e1, addL_of e1]
    have hb' := hb.alloc (.cells (hkC x).toArray HT)
    have c1 := hb'.cell 1
    have c5 := hb'.cell 5
    obtain ⟨xn, xp, xr, xt, xb⟩ := x
    simp only [hkV, hkC, regCs] at c1 c5 he ⊢
    have hRE := Lib.hid hR0
    clear hb hb' hm hD e1 hR0 hkey
    go_enter Try.func30, Try.ntmps30
    go_wp2
    go_ret
    exact ⟨rfl, hRE.out.kept (only_alloc (only_refl _ none) _) (by simp) (by simp), only_alloc (only_refl _ _) _⟩
  | false =>
    obtain ⟨g, hlook⟩ := look_reg hm hkey
    have hown := hm.alloc (.cells (hkC x).toArray HT)
    have hrun := hlook _ _ hown.drew
    have hrun2 := hlook _ _ (hown.alloc (.cells (hkC ⟨[], 0, 0, [], 0⟩).toArray HT)).drew
    have hb' := (hb.alloc (.cells (hkC x).toArray HT))
    have c1 := hb'.cell 1
    have c5 := hb'.cell 5
    have hlt' := hb'.lt
    cases ht : Maps.has D (.string x.name) with
    | true =>
      have e1 := addB_of hD he ht
      rw [e1, addL_of e1]
      rw [ht] at hrun hrun2
      obtain ⟨gn, gp, gr, gt, gb⟩ := g
      obtain ⟨xn, xp, xr, xt, xb⟩ := x
      simp only [hkV, hkC, regCs] at c1 c5 he hrun hrun2 ⊢
      have hRE := Lib.hid hR0
      clear hb hb' hm hD e1 hR0 hkey hown hlook ht
      go_enter Try.func30, Try.ntmps30
      go_wp2_with fail
      go_region
      all_goals go_wp2
      all_goals go_ret
      all_goals exact ⟨rfl, hRE.out.kept (row := none) (by repeat (first | with_reducible refine only_drewN ?_ _ | with_reducible refine only_drew ?_ | with_reducible refine only_alloc ?_ _ | ((with_reducible refine only_new ?_ ?_ _); rotate_left; focus (first | exact Nat.le_refl _ | omega | (simp; done) | (simp; omega))) | with_reducible exact only_refl _ _ | with_reducible assumption)) (by simp) (by simp), (by repeat (first | with_reducible refine only_drewN ?_ _ | with_reducible refine only_drew ?_ | with_reducible refine only_alloc ?_ _ | ((with_reducible refine only_new ?_ ?_ _); rotate_left; focus (first | exact Nat.le_refl _ | omega | (simp; done) | (simp; omega))) | with_reducible exact only_refl _ _ | with_reducible assumption))⟩
    | false =>
      have e1 := addB_of hD he ht
      rw [e1, addL_of e1]
      rw [ht] at hrun hrun2
      obtain ⟨gn, gp, gr, gt, gb⟩ := g
      obtain ⟨xn, xp, xr, xt, xb⟩ := x
      simp only [hkV, hkC, regCs] at c1 c5 he hrun hrun2 ⊢
      have HM := Lib.hid hm
      have HD := Lib.hid hD
      have HB := Lib.hid hb
      have HK := Lib.hid hkey
      have HT0 := Lib.hid ht
      clear hb hb' hD e1 hR0 hown hlook ht hm hkey
      go_enter Try.func30, Try.ntmps30
      go_wp2_with fail
      go_region
      all_goals go_wp2_with fail
      all_goals
        refine wp_region_still_tail 7 (by kernel_rfl) (by kernel_rfl) ?_
        simp only [List.take_succ_cons, List.take_zero, List.drop_succ_cons, List.drop_zero]
        change wpStill _ _ (World.drew _) _ _ _
        repeat ((with_reducible refine wpStill_step ?_); intro K hK; have HK := Lib.hid hK; clear hK; go_simp; (with_reducible refine HK.out _ ?_); clear HK K)
        (with_reducible refine wpStill_nil ?_)
        change wpList _ _ _ _ _ (World.drew _)
        go_wp2_with (at_mapUpdate; (refine wpList_mapUpdate_own _ rfl _ _ _ 89 rfl 9 HT key9 Try.underlying89 RH mb L.length D rfl ((HM.out.alloc _).alloc _).drew.drew hL _ (hkV ⟨xn, xp, xr, xt, xb⟩) (.string xn) rfl rfl HK.out (hkD ⟨xn, xp, xr, xt, xb⟩) [] (RH_mk ⟨xn, xp, xr, xt, xb⟩) ?_; intro w1 hown1 hgrow1))
        go_ret
        have h1 := ((HB.out.alloc (.cells #[.string ⟨xn.toArray⟩, .int .i64 xp, .int .i64 xr, .string ⟨xt.toArray⟩, .int .i64 xb] HT)).alloc (.cells #[.string ⟨gn.toArray⟩, .int .i64 gp, .int .i64 gr, .string ⟨gt.toArray⟩, .int .i64 gb] HT)).drewN 2
        have hg : w.grownBy w1 (some mb) := only_then (row := some mb) (by repeat (first | with_reducible refine only_drewN ?_ _ | with_reducible refine only_drew ?_ | with_reducible refine only_alloc ?_ _ | ((with_reducible refine only_new ?_ ?_ _); rotate_left; focus (first | exact Nat.le_refl _ | omega | (simp; done) | (simp; omega))) | with_reducible exact only_refl _ _ | with_reducible assumption)) hgrow1 (fun j hj => .inr hj)
        exact ⟨rfl, ⟨q1, q2, q3, h1.grown hgrow1 (by simp; omega), _, by simpa using hown1, HD.out.put (HM.out.isMap) ⟨xn, xp, xr, xt, xb⟩ HT0.out⟩, hg⟩
end Go.Proofs.Ytmlkmhonpmnenaa
