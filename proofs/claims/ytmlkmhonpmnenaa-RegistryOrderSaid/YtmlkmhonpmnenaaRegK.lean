/- Step and Steps. -/
import Derived.Test.YtmlkmhonpmnenaaRegJ
namespace Go.Proofs.Ytmlkmhonpmnenaa
open Go.RowKit Go.Lib Go.Maps

theorem load64 (a : Addr) (st : Int) (w : World) (hc : w.cell? a = some (.int .i64 st)) :
    Calls Try.prog 63 #[.pointer (some a)] w fun e w' => e = .returned (.int .i64 st) ∧ w' = w := by
  have hl := run_call_load (P := Try.prog) Try.func75 (by kernel_rfl) (by kernel_rfl) (by kernel_rfl) .i64 (by kernel_rfl) hc
  go_enter Try.func63, Try.ntmps63
  go_wp2
  go_ret
  exact ⟨rfl, rfl⟩
theorem add64 (a : Addr) (st d : Int) (w : World) (hc : w.cell? a = some (.int .i64 st)) (hz : w.frozen? a = false) (h0 : -9223372036854775808 ≤ st + d) (h1 : st + d ≤ 9223372036854775807) :
    Calls Try.prog 62 #[.pointer (some a), .int .i64 d] w fun e w' => e = .returned (.int .i64 (st + d)) ∧ w' = w.setCell a (.int .i64 (st + d)) := by
  have hadd := run_call_add (P := Try.prog) Try.func74 (by kernel_rfl) (by kernel_rfl) (by kernel_rfl) .i64 (by kernel_rfl) (y := d) (s := st + d) hc hz (by simp [go_sem, IntKind.wrap_i64]; omega)
  go_enter Try.func62, Try.ntmps62
  go_wp2
  go_ret
  exact ⟨rfl, rfl⟩
theorem Reg.block {w : World} {base b mb : Nat} {m st : Int} {L : List Hk} {sealed : Bool} (h : Reg w base b mb m L sealed st) : ∃ cs, Blk w b RT cs ∧ cs[7]? = some (.int .i64 st) := by
  cases sealed with
  | false => exact ⟨_, (show RegO w base b mb m L st by simpa [Reg] using h).2.2.2.1, rfl⟩
  | true =>
    obtain ⟨⟨_, _, _, hb, _⟩, _⟩ := (show RegS w base b m (srt (L.filter (onB m))) st ∧ Dist L by simpa [Reg] using h)
    exact ⟨_, hb, rfl⟩
theorem Reg.steps {w : World} {base b mb : Nat} {m st : Int} {L : List Hk} {sealed : Bool} (h : Reg w base b mb m L sealed st) (st' : Int) : Reg (w.setCell ⟨b, 7, none⟩ (.int .i64 st')) base b mb m L sealed st' := by
  cases sealed with
  | false =>
    obtain ⟨q1, q2, q3, hb, D, hm, hD⟩ := (show RegO w base b mb m L st by simpa [Reg] using h)
    have h1 : Blk (w.setCell ⟨b, 7, none⟩ (.int .i64 st')) b RT (regCs m mb 0 0 false (.slice none 0 0) st') := hb.set_ 7 (.int .i64 st')
    simpa [Reg] using (show RegO _ base b mb m L st' from ⟨q1, q2, q3, h1, D, hm.setCell q3 _, hD⟩)
  | true =>
    obtain ⟨⟨q1, mb', sv, hb, hr⟩, hd⟩ := (show RegS w base b m (srt (L.filter (onB m))) st ∧ Dist L by simpa [Reg] using h)
    have h1 : Blk (w.setCell ⟨b, 7, none⟩ (.int .i64 st')) b RT (regCs m mb' 1 0 true sv st') := hb.set_ 7 (.int .i64 st')
    have hne : sv.ownBlock ≠ some b := own_blk_ne hr hb (by decide)
    have hg : w.grownBy (w.setCell ⟨b, 7, none⟩ (.int .i64 st')) (some b) := only_setCell (only_refl w (some b)) (p := ⟨b, 7, none⟩) (.inl rfl) (.int .i64 st')
    simpa [Reg] using (show RegS _ base b m (srt (L.filter (onB m))) st' ∧ Dist L from ⟨⟨q1, mb', sv, h1, hr.kept hg (.inr hne)⟩, hd⟩)
/-- What Step makes of the steps. -/
def stepN (st n : Int) : Int := if 0 < n then st + min n (4611686018427387904 - st) else st
theorem stepN_range {st n : Int} (h0 : 0 ≤ st) (h1 : st ≤ 4611686018427387904) : 0 ≤ stepN st n ∧ stepN st n ≤ 4611686018427387904 := by
  unfold stepN
  split <;> omega
theorem steps_any (base b mb : Nat) (m st : Int) (L : List Hk) (sealed : Bool) (w : World) (hR : Reg w base b mb m L sealed st) :
    Calls Try.prog 33 #[.pointer (some ⟨b, 0, none⟩)] w fun e w' => e = .returned (.int .i64 st) ∧ w' = w := by
  obtain ⟨cs, hb, h7⟩ := hR.block
  have hl := load64 ⟨b, 7, none⟩ st w ((hb.cell 7).trans h7)
  have HL := Lib.hid hl
  clear hl hb h7 hR
  go_enter Try.func33, Try.ntmps33
  go_wp2_with (go_at_call 63; refine HL.out.mono ?_; rintro e w' ⟨rfl, rfl⟩)
  go_ret
  exact ⟨rfl, rfl⟩
set_option maxRecDepth 100000 in
set_option maxHeartbeats 2000000 in
theorem step_any (n : Int) (base b mb : Nat) (m st : Int) (L : List Hk) (sealed : Bool) (w : World) (hR : Reg w base b mb m L sealed st) (h0 : 0 ≤ st) (h1 : st ≤ 4611686018427387904) :
    Calls Try.prog 32 #[.pointer (some ⟨b, 0, none⟩), .int .i64 n] w fun e w' => e = .returned (.tuple #[]) ∧ Reg w' base b mb m L sealed (stepN st n) ∧ w.grownBy w' (some b) := by
  by_cases hn : 0 < n
  · obtain ⟨cs, hb, h7⟩ := hR.block
    have hc := (hb.cell 7).trans h7
    have hz := hb.frozen 7
    have hst : stepN st n = st + min n (4611686018427387904 - st) := by unfold stepN; rw [if_pos hn]
    have hl := fun w h => load64 ⟨b, 7, none⟩ st w h
    have HL := Lib.hid hl
    have HR := Lib.hid hR
    have HZ := Lib.hid hst
    clear hl hb h7 hR hst
    go_enter Try.func32, Try.ntmps32
    go_wp2_with fail
    refine wp_region_still_tail 10 (by kernel_rfl) (by kernel_rfl) ?_
    simp only [List.take_succ_cons, List.take_zero, List.drop_succ_cons, List.drop_zero]
    change wpStill _ _ (World.drew _) _ _ _
    repeat ((with_reducible refine wpStill_step ?_); intro K hK; have HK := Lib.hid hK; clear hK; go_simp; (first | (with_reducible refine HK.out _ ?_) | (refine ⟨_, HL.out _ (by first | exact hc | simpa using hc), HK.out _ ?_⟩)); clear HK K)
    (with_reducible refine wpStill_nil ?_)
    change wpList _ _ _ _ _ (World.drew _)
    go_wp2_with fail
    refine (add64 ⟨b, 7, none⟩ st _ _ (by simpa using hc) (by simpa using hz) (by omega) (by omega)).mono ?_
    rintro e w' ⟨rfl, rfl⟩
    go_wp2
    go_end0
    rw [HZ.out]
    exact ⟨rfl, (HR.out.kept (only_drew (only_refl w none))).steps _, only_setCell (only_drew (only_refl w (some b))) (p := ⟨b, 7, none⟩) (.inl rfl) _⟩
  · have hst : stepN st n = st := by unfold stepN; rw [if_neg hn]
    have HR := Lib.hid hR
    rw [hst]
    clear hR hst
    go_enter Try.func32, Try.ntmps32
    go_wp2
    go_end0
    exact ⟨rfl, HR.out, only_refl _ _⟩
end Go.Proofs.Ytmlkmhonpmnenaa
