/- The closure of close that compares two hooks; on. -/
import Derived.Test.YtmlkmhonpmnenaaRegD
import Derived.StillTailTactics
namespace Go.Proofs.Ytmlkmhonpmnenaa
open Go.RowKit Go.Lib Go.Sort

theorem cmpI_still (x y : Int) (w : World) : Calls Try.prog 89 #[.int .i64 x, .int .i64 y] w fun e w' => e = .returned (.int .i64 (compareInt x y)) ∧ w' = w :=
  (cmpI_any x y w).mono fun _ _ ⟨he, hw⟩ => ⟨he, hw.symm⟩
theorem cmpS_still (s t : ByteArray) (w : World) : Calls Try.prog 90 #[.string s, .string t] w fun e w' => e = .returned (.int .i64 (cmpS s.data.toList t.data.toList)) ∧ w' = w :=
  (cmpS_any s t w).mono fun _ _ ⟨he, hw⟩ => ⟨he, hw.symm⟩

theorem cell_at_new {w : World} {n : Nat} (hn : n = w.heap.size) (cs : Array Value) (t : TypeId) (i : Nat) : (w.alloc (.cells cs t)).cell? ⟨n, i, none⟩ = cs[i]? := by
  subst hn
  exact (Blk.new w t cs).cell i

set_option maxRecDepth 100000 in
set_option maxHeartbeats 2000000 in
theorem cmpH_any (x y : Hk) (W : World) :
    Calls Try.prog 87 #[hkV x, hkV y] W fun e w' => e = .returned (.int .i64 (cfH x y)) ∧ ∃ q os', w' = grow (W.drewN q) os' := by
  obtain ⟨xn, xp, xr, xt, xb⟩ := x
  obtain ⟨yn, yp, yr, yt, yb⟩ := y
  unfold cfH
  simp only [hkV, hkC]
  obtain ⟨ci, hci⟩ : ∃ c, compareInt xr yr = c := ⟨_, rfl⟩
  obtain ⟨cs, hcs⟩ : ∃ c, cmpS xn yn = c := ⟨_, rfl⟩
  have hI := fun w => cmpI_still xr yr w
  have hS := fun w => cmpS_still ⟨xn.toArray⟩ ⟨yn.toArray⟩ w
  simp only [] at hS
  rw [hci] at hI ⊢
  rw [hcs] at hS ⊢
  obtain ⟨r, hr⟩ : ∃ r, (if ci = 0 then cs else ci) = r := ⟨_, rfl⟩
  have hO := fun g w h0 h1 => or2_any ci cs g w h0 h1
  rw [hr] at hO ⊢
  have HI := Lib.hid hI
  have HS := Lib.hid hS
  have HO := Lib.hid hO
  clear hI hS hci hcs hr hO
  go_enter Try.func87, Try.ntmps87
  go_wp2_with fail
  refine wp_region_still_tail 10 (by kernel_rfl) (by kernel_rfl) ?_
  simp only [List.take_succ_cons, List.take_zero, List.drop_succ_cons, List.drop_zero]
  change wpStill _ _ (World.drew _) _ _ _
  repeat ((with_reducible refine wpStill_step ?_); intro K hK; have HK := Lib.hid hK; clear hK; go_simp; (first | (with_reducible refine HK.out _ ?_) | (refine ⟨_, HI.out _, HK.out _ ?_⟩) | (refine ⟨_, HS.out _, HK.out _ ?_⟩)); clear HK K)
  (with_reducible refine wpStill_nil ?_)
  change wpList _ _ _ _ _ (World.drew _)
  go_wp2_with fail
  refine (HO.out _ _ ?_ ?_).mono ?_
  · exact cell_at_new (by simp) _ _ _
  · exact cell_at_new (by simp) _ _ _
  rintro e w' ⟨rfl, rfl⟩
  go_wp2
  go_ret
  exact ⟨rfl, 1, _, by rw [alloc_eq_grow, alloc_eq_grow, alloc_eq_grow, grow_grow, grow_grow]; rfl⟩

theorem bnot_ne (x : Int) : (x != 0) = !(x == 0) := rfl
set_option maxRecDepth 100000 in
set_option maxHeartbeats 2000000 in
theorem on_any (m : Int) (b : Nat) (cs : Array Value) (x : Hk) (w : World) (hb : Blk w b RT cs) (h0 : cs[0]? = some (.int .i64 m)) :
    Calls Try.prog 85 #[.pointer (some ⟨b, 0, none⟩), hkV x] w fun e w' => e = .returned (.bool (onB m x)) ∧ w.grownBy w' none := by
  have hc : w.cell? ⟨b, 0, none⟩ = some (.int .i64 m) := (hb.cell 0).trans h0
  have hlt := hb.lt
  obtain ⟨xn, xp, xr, xt, xb⟩ := x
  unfold onB
  simp only [hkV, hkC]
  have hbb : (b : Nat) ≠ w.heap.size := by omega
  have hc1 : (w.alloc (.cells #[.string ⟨xn.toArray⟩, .int .i64 xp, .int .i64 xr, .string ⟨xt.toArray⟩, .int .i64 xb] HT)).cell? ⟨b, 0, none⟩ = some (.int .i64 m) := by
    rw [World.cell?_alloc_past _ _ _ hlt]; exact hc
  clear hb h0
  by_cases hz : xb = 0
  · have e : (xb == 0) = true := by simpa using hz
    rw [e]
    clear hz
    go_enter Try.func85, Try.ntmps85
    go_wp2_with fail
    go_quiet (fail)
    go_wp2
    go_ret
    exact ⟨rfl, only_drewN (only_alloc (only_refl _ _) _) _⟩
  · have e : (xb == 0) = false := by simpa using hz
    rw [e]
    clear hz
    go_enter Try.func85, Try.ntmps85
    go_wp2_with fail
    go_quiet (fail)
    go_wp2
    go_ret
    exact ⟨rfl, only_drewN (only_alloc (only_refl _ _) _) _⟩
end Go.Proofs.Ytmlkmhonpmnenaa
