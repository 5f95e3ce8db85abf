/- The closure of close: the hooks that are on are collected out of the map, in whatever order, and sorted. -/
import Derived.Test.YtmlkmhonpmnenaaRegF
import Derived.Deep.RegionLaw
import Derived.Deep.RegionHeld3
import Derived.Sort.EncStr
namespace Go.Proofs.Ytmlkmhonpmnenaa
open Go.RowKit Go.Lib Go.Maps

theorem info43 : (Try.prog.info? HT).map (fun i => (i.zero, i.size, i.bytes)) = some (some (hkV ⟨[], 0, 0, [], 0⟩), 5, 56) := by kernel_rfl
def Closed (w : World) (b mb : Nat) (m st : Int) (S : List Hk) (w' : World) : Prop :=
  ∃ sv, Blk w' b RT (regCs m mb 0 1 true sv st) ∧ w'.ownsRow w.heap.size HT 5 sv S.length (hkCells S) ∧ w.grownBy w' (some b)
theorem own_kept_none {w w' : World} {base : Nat} {e : TypeId} {size n : Nat} {v : Value} {xs : List Value} (h : w.ownsRow base e size v n xs) (hg : w.grownBy w' none) : w'.ownsRow base e size v n xs :=
  h.kept hg (by cases hv : v.ownBlock with | none => exact .inl rfl | some k => exact .inr (by simp))
theorem size_setCell' (w : World) (a : Addr) (v : Value) : (w.setCell a v).heap.size = w.heap.size := by simp [World.setCell]

/-- A round in which a hook that is on has been laid behind the others. -/
theorem round_on {b mb gg cap : Nat} {m st : Int} {L S : List Hk} {D : DataW Unit} {left : Lit → Bool} {cnt : Nat} {sv : Value} {c : Hk} {w w3 w5 : World}
    (hmb : mb ≠ b) (hbl : b < w.heap.size) (RG4 : w3.ranges Try.prog 9 RH mb w.heap.size L.length D left cnt) (R4 : w3.ownsRow w.heap.size HT 5 sv (S.filter (onB m)).length (hkCells (S.filter (onB m)))) (G4 : w.grownBy w3 (some b))
    (HMET : Met L left (S ++ [c])) (HF : onB m c = true) (A : Obj) (hgrow5 : (w3.alloc A).drew.grownBy w5 sv.ownBlock)
    (hown5 : w5.ownsRow w.heap.size HT 5 (.slice (some ⟨gg, 0, none⟩) ((S.filter (onB m)).length + 1) cap) ((S.filter (onB m)).length + 1) (hkCells (S.filter (onB m)) ++ hkC c)) (hb5 : Blk w5 b RT (regCs m mb 0 1 true sv st)) {u : Value} (hu : u = .slice (some ⟨gg, 0, none⟩) ((S.filter (onB m)).length + 1) cap) :
    (w5.setCell ⟨b, 6, none⟩ u).rangeLeft mb w.heap.size = cnt ∧ ∃ (left : Lit → Bool) (cnt : Nat) (S : List Hk) (sv : Value), (w5.setCell ⟨b, 6, none⟩ u).ranges Try.prog 9 RH mb w.heap.size L.length D left cnt ∧ Met L left S ∧ Blk (w5.setCell ⟨b, 6, none⟩ u) b RT (regCs m mb 0 1 true sv st) ∧
      (w5.setCell ⟨b, 6, none⟩ u).ownsRow w.heap.size HT 5 sv (S.filter (onB m)).length (hkCells (S.filter (onB m))) ∧ w.grownBy (w5.setCell ⟨b, 6, none⟩ u) (some b) := by
  subst hu
  have hset : w5.grownBy (w5.setCell ⟨b, 6, none⟩ (.slice (some ⟨gg, 0, none⟩) ((S.filter (onB m)).length + 1) cap)) (some b) := only_setCell (only_refl _ _) (.inl rfl) _
  have hgb : some gg ≠ some b := own_blk_ne hown5 hb5 (by decide)
  have hw35 : w3.grownBy w5 sv.ownBlock := only_then (only_drew (only_alloc (only_refl w3 sv.ownBlock) _)) hgrow5 (fun j hj => .inr hj)
  have hmbi : sv.ownBlock ≠ some mb := by
    obtain ⟨es, clk, hbk, -⟩ := RG4.owns
    exact own_map_ne R4 hbk
  have hrg6 := (RG4.kept hw35 (Ne.symm hmbi) (row_ne_iter R4 RG4)).kept hset (by simpa using hmb) (by simp; omega)
  have hG6 : w.grownBy (w5.setCell ⟨b, 6, none⟩ (.slice (some ⟨gg, 0, none⟩) ((S.filter (onB m)).length + 1) cap)) (some b) := only_then (only_then G4 hw35 (fun j hj => .inl (R4.lt j hj).1)) hset (fun j hj => .inr hj)
  have hrow6 := hown5.kept hset (.inr hgb)
  exact ⟨hrg6.left_eq, _, cnt, S ++ [c], .slice (some ⟨gg, 0, none⟩) ((S.filter (onB m)).length + 1) cap, hrg6, HMET, hb5.set_ 6 _, by rw [List.filter_append, List.filter_cons_of_pos HF, List.filter_nil, List.length_append, List.length_singleton, hkCells_append]; simpa [hkCells] using hrow6, hG6⟩

set_option maxRecDepth 100000 in
set_option maxHeartbeats 4000000 in
theorem close1_any (b mb p : Nat) (m st : Int) (L : List Hk) (D : DataW Unit) (w : World)
    (hp : Blk w p 44 #[.pointer (some ⟨b, 0, none⟩)]) (hpb : p ≠ b) (hmb : mb ≠ b)
    (hb : Blk w b RT (regCs m mb 0 1 false (.slice none 0 0) st)) (hm : w.ownsMap Try.prog 9 RH mb L.length D) (hD : Rep D L) (hL : L.length ≤ 1000000) :
    Calls Try.prog 84 #[.pointer (some ⟨p, 0, none⟩)] w fun e w' => e = .returned (.tuple #[]) ∧ Closed w b mb m st (srt (L.filter (onB m))) w' := by
  obtain ⟨i0, hi0, hz0, hz1, hz2⟩ := info_parts info43
  have c5 := hb.cell 5
  have f5 := hb.frozen 5
  have hb5 : Blk (w.setCell ⟨b, 5, none⟩ (.bool true)) b RT (regCs m mb 0 1 true (.slice none 0 0) st) := hb.set_ 5 (.bool true)
  have hp5 : Blk (w.setCell ⟨b, 5, none⟩ (.bool true)) p 44 #[.pointer (some ⟨b, 0, none⟩)] := hp.far (p := ⟨b, 5, none⟩) hpb _
  have hm5 := hm.setCell (a := ⟨b, 5, none⟩) hmb (.bool true)
  have hg5 : w.grownBy (w.setCell ⟨b, 5, none⟩ (.bool true)) (some b) := only_setCell (only_refl _ _) (.inl rfl) _
  have d1 := hb5.cell 1
  have e0 := hp5.cell 0
  have e1 := hp.cell 0
  have hs5 := size_setCell' w ⟨b, 5, none⟩ (.bool true)
  simp only [regCs] at c5 d1
  have HB := Lib.hid hb5
  have HP := Lib.hid hp5
  have HM := Lib.hid hm5
  have HG := Lib.hid hg5
  have HS := Lib.hid hs5
  have HD := Lib.hid hD
  have HPW := Lib.hid hp
  have HPl := hp.lt
  have HBl := hb.lt
  have HMl := hm.lt
  clear hb5 hp5 hm5 hg5 hs5 hb hp hm hD
  go_enter Try.func84, Try.ntmps84
  go_wp2_with (at_range; refine wpList_range_own _ rfl _ 89 rfl 9 HT key9 Try.underlying89 RH mb L.length D rfl HM.out ?_; intro w0 hrg0 hg0 hs0)
  rw [HS.out] at hrg0 hs0 ⊢
  have hb0 := HB.out.grown hg0 (by simp)
  have hp0 := HP.out.grown hg0 (by simp)
  have hG0 : w.grownBy w0 (some b) := only_then HG.out hg0 (fun j hj => by cases hj)
  clear c5 f5 d1 e0 e1 hg0
  go_frame
  go_loopw [2] (fun _ wr => ∃ (left : Lit → Bool) (cnt : Nat) (S : List Hk) (sv : Value), wr.ranges Try.prog 9 RH mb w.heap.size L.length D left cnt ∧ Met L left S ∧ Blk wr b RT (regCs m mb 0 1 true sv st) ∧
      wr.ownsRow w.heap.size HT 5 sv (S.filter (onB m)).length (hkCells (S.filter (onB m))) ∧ w.grownBy wr (some b)) (fun _ wr => wr.rangeLeft mb w.heap.size)
  case atStart => exact ⟨_, _, [], .slice none 0 0, hrg0, Met.start HD.out, hb0, World.ownsRow_nil _ _ _ _, hG0⟩
  case round =>
    obtain ⟨left, cnt, S, sv, hrg, hmet, hb1, hrow, hgw⟩ := hrel
    go_wp2_with (at_next; (refine wpList_next_ranges _ rfl _ rfl 9 key9 RH encStr hkV (fun key kl hk => by obtain ⟨x, hx, _⟩ := Maps.keyOf_str Try.underlying9 hk; exact ⟨x, hx⟩) (fun v y hv => by obtain ⟨h, e, _⟩ := RH_inv v y hv; exact ⟨h, e⟩) mb w.heap.size L.length D left cnt rfl hrg ?_ ?_))
    · intro hc0 hl0
      have hperm := hmet.done hl0
      have hpf : (S.filter (onB m)).Perm (L.filter (onB m)) := hperm.filter _
      have hdf : Dist (S.filter (onB m)) := (HD.out.dist.perm hperm.symm).sublist List.filter_sublist
      have hlen : (S.filter (onB m)).length ≤ 1000000 := by rw [hpf.length_eq]; exact Nat.le_trans (List.length_filter_le _ _) hL
      have hso := sort_own hdf hrow (by omega) cmpH_any
      rw [srt_perm_eq hdf hpf, hpf.length_eq, ← (srt_perm (L.filter (onB m))).length_eq] at hso
      have hp1 := (HPW.out.grown hgw (by simpa using hpb)).cell 0
      have hb6 := hb1.cell 6
      simp only [regCs] at hb6
      have HSO := Lib.hid hso
      have hne : sv.ownBlock ≠ some b := own_blk_ne hrow hb1 (by decide)
      have hlow := hrow.lt
      have HB1 := Lib.hid hb1
      clear hso hdf hpf hperm hlen hmet hrg hb1 hrow
      go_wp2_with (go_at_call 86; refine HSO.out.mono ?_; rintro e w' ⟨rfl, ho, hgs⟩)
      go_end0
      exact ⟨rfl, sv, HB1.out.grown hgs (Ne.symm hne), ho, only_then hgw hgs (fun j hj => .inl (hlow j hj).1)⟩
    · intro x c kl yd yp w2 cnt2 hkey hlk hv hat hrg2 hlt hg2 hs2 hen
      obtain ⟨x', ex, rfl, -⟩ := Maps.keyOf_str Try.underlying9 hkey
      obtain rfl : x = x' := encStr_inj ex
      have hyd : yd = hkD c := by rw [RH_mk] at hv; cases hv; rfl
      obtain ⟨-, -, hmet2⟩ := hmet.step HD.out hlk hat hyd
      have hlt2 : wr.heap.size ≤ w2.heap.size := hg2.size
      have hbl : some b ≠ some w.heap.size := by simp; omega
      have hb2 := hb1.grown hg2 hbl
      have hp2 := (HPW.out.grown hgw (by simpa using hpb)).grown hg2 (by simp; omega)
      have hrow2 := hrow.kept hg2 (.inr (Ne.symm (row_ne_iter hrow hrg)))
      have hgw2 : w.grownBy w2 (some b) := only_then hgw hg2 (fun j hj => by cases hj; exact .inl (Nat.le_refl _))
      have hml := hmet2.len
      have hmeas : w2.rangeLeft mb w.heap.size < wr.rangeLeft mb w.heap.size := by rw [hrg2.left_eq, hrg.left_eq]; exact hlt
      have HME := Lib.hid hmeas
      clear hkey hv hat hyd hlk ex hmet hrg hb1 hrow hgw hg2 hs2 hlt hmeas
      have hon0 := fun W h => on_any m b (regCs m mb 0 1 true sv st) c W h rfl
      have p2 := hp2.cell 0
      have hp3 := hp2.alloc (.cells (hkC c).toArray HT)
      have p3 := hp3.cell 0
      have hb3 := hb2.alloc (.cells (hkC c).toArray HT)
      have hrow3 := hrow2.alloc (.cells (hkC c).toArray HT)
      have hgw3 := only_alloc hgw2 (.cells (hkC c).toArray HT)
      have hrg3 := hrg2.alloc (.cells (hkC c).toArray HT)
      have hh3 := Blk.new w2 HT (hkC c).toArray
      have HB3 := Lib.hid hb3
      have HP3 := Lib.hid hp3
      have HR3 := Lib.hid hrow3
      have HG3 := Lib.hid hgw3
      have HRG := Lib.hid hrg3
      have HRG2 := Lib.hid hrg2
      have HMET := Lib.hid hmet2
      have HH3 := Lib.hid hh3
      clear hb3 hp3 hrow3 hgw3 hrg3 hrg2 hb2 hp2 hrow2 hgw2 hmet2 hh3
      cases honb : onB m c with
      | false =>
        have hon : ∀ W, Blk W b RT (regCs m mb 0 1 true sv st) → Calls Try.prog 85 #[.pointer (some ⟨b, 0, none⟩), hkV c] W fun e w' => e = .returned (.bool false) ∧ W.grownBy w' none := fun W h => by
          have h1 := hon0 W h
          rw [honb] at h1
          exact h1
        have HON := Lib.hid hon
        have HF := Lib.hid honb
        clear hon hon0 honb
        obtain ⟨cn, cp, cr, ct, cb⟩ := c
        simp only [hkV, hkC, encStr] at hen p3 HON HB3
        go_wp2_with (go_at_call 85; refine (HON.out _ HB3.out).mono ?_; rintro e w3 ⟨rfl, hg3⟩)
        have hrg4 := HRG.out.kept hg3 (by simp) (by simp)
        go_roundw
        case rel => exact ⟨_, cnt2, S ++ [⟨cn, cp, cr, ct, cb⟩], sv, hrg4, HMET.out, HB3.out.grown hg3 (by simp), by rw [List.filter_append, List.filter_cons_of_neg (by rw [HF.out]; simp), List.filter_nil, List.append_nil]; exact own_kept_none HR3.out hg3, only_then HG3.out hg3 (fun j hj => by cases hj)⟩
        case measure => have h1 := HME.out; rw [HRG2.out.left_eq] at h1; rw [hrg4.left_eq]; exact h1
      | true =>
        have hon : ∀ W, Blk W b RT (regCs m mb 0 1 true sv st) → Calls Try.prog 85 #[.pointer (some ⟨b, 0, none⟩), hkV c] W fun e w' => e = .returned (.bool true) ∧ W.grownBy w' none := fun W h => by
          have h1 := hon0 W h
          rw [honb] at h1
          exact h1
        have HON := Lib.hid hon
        have HF := Lib.hid honb
        clear hon hon0 honb
        obtain ⟨cn, cp, cr, ct, cb⟩ := c
        have hml2 : (S.filter (onB m)).length + 1 ≤ 1000000 := by
          have h1 := List.length_filter_le (onB m) S
          rw [List.length_append, List.length_singleton] at hml
          omega
        simp only [hkV, hkC, encStr] at hen p3 HON HB3
        go_wp2_with (go_at_call 85; refine (HON.out _ HB3.out).mono ?_; rintro e w3 ⟨rfl, hg3⟩)
        have hrg4 := HRG.out.kept hg3 (by simp) (by simp)
        have hb4 := HB3.out.grown hg3 (by simp)
        have hp4 := HP3.out.grown hg3 (by simp)
        have hh4 := HH3.out.grown hg3 (by simp)
        have hr4 := own_kept_none HR3.out hg3
        have hG4 : w.grownBy w3 (some b) := only_then HG3.out hg3 (fun j hj => by cases hj)
        have hsz4 : w.heap.size ≤ w3.heap.size := hG4.size
        have q0 := hp4.cell 0
        have q6 := hb4.cell 6
        have z6 := hb4.frozen 6
        have h0 := hh4.cell 0
        have h1 := hh4.cell 1
        have h2 := hh4.cell 2
        have h3 := hh4.cell 3
        have h4 := hh4.cell 4
        simp only [regCs, hkC] at q6 h0 h1 h2 h3 h4
        have lp := hp4.lt
        have lb := hb4.lt
        have lh := hh4.lt
        have B4 := Lib.hid hb4
        have P4 := Lib.hid hp4
        have R4 := Lib.hid hr4
        have G4 := Lib.hid hG4
        have RG4 := Lib.hid hrg4
        have nb : sv.ownBlock ≠ some b := own_blk_ne hr4 hb4 (by decide)
        clear hrg4 hb4 hp4 hh4 hr4 hG4 hg3 HON HB3 HP3 HR3 HG3 HRG HH3
        go_region_law (refine step_append_lies _ (by rfl) (.tmp 22) (.tmp 24) _ (by rfl) w.heap.size HT i0 _ 5 56 Try.underlying39 hi0 hz0 hz1 hz2 rfl (by omega) sv (S.filter (onB m)).length (hkCells (S.filter (onB m))) (by rfl) ((R4.out.alloc _).drew) ⟨w3.heap.size, 0, none⟩ 1 1 (hkC ⟨cn, cp, cr, ct, cb⟩) (by rfl) (by rfl) (World.news_of_block (cs := (hkC ⟨cn, cp, cr, ct, cb⟩).toArray) (t := HT) (fr := (0, 0)) (heap_alloc_new w3 _)) (hkC_one _) (by omega) (by unfold maxLen; omega) (by omega) (by simp; omega) (w3.heap.size + 1) (by simp) ?_; intro gg cap w5 hown5 hgrow5 hat5 hlt5; have hb5 := (B4.out.alloc _).drew.grown hgrow5 (Ne.symm nb); have hp5 := (P4.out.alloc _).drew.grown hgrow5 (fun e => by have := (R4.out.lt p e.symm).1; omega); have q5 := hb5.cell 6; have z5 := hb5.frozen 6; have r5 := hp5.cell 0; simp only [regCs] at q5)
        all_goals
          have hR := round_on hmb HBl RG4.out R4.out G4.out HMET.out HF.out _ hgrow5 hown5 hb5 rfl
          have hmm := HME.out
          rw [HRG2.out.left_eq, ← hR.1] at hmm
          have HMM := Lib.hid hmm
          have HR := Lib.hid hR.2
          clear hR hmm
          go_roundw
          case rel => first | exact HR.out | ((repeat apply Exists.intro); exact ⟨HR.out, rfl⟩)
          case measure => exact HMM.out
end Go.Proofs.Ytmlkmhonpmnenaa
