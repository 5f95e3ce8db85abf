/- close: a registry of the hooks L, sealed or not, is sealed behind it, its hooks that are on in order. -/
import Derived.Test.YtmlkmhonpmnenaaRegG
namespace Go.Proofs.Ytmlkmhonpmnenaa
open Go.RowKit Go.Lib Go.Maps

theorem own_lower {w : World} {b b' : Nat} {e : TypeId} {size n : Nat} {v : Value} {xs : List Value} (h : w.ownsRow b e size v n xs) (hb : b' ≤ b) : w.ownsRow b' e size v n xs := by
  refine ⟨h.1, ?_⟩
  rcases h.2 with h | ⟨g, cap, cur, h1, h2, h3⟩
  · exact .inl h
  · exact .inr ⟨g, cap, cur, h1, Nat.le_trans hb h2, h3⟩
theorem own_slice {w : World} {b : Nat} {e : TypeId} {size n : Nat} {v : Value} {xs : List Value} (h : w.ownsRow b e size v n xs) : ∃ A c, v = .slice A n c := by
  rcases h.2 with ⟨rfl, rfl⟩ | ⟨g, cap, _, h1, _⟩
  · exact ⟨none, 0, rfl⟩
  · exact ⟨_, cap, h1⟩
theorem Reg.lt {w : World} {base b mb : Nat} {m st : Int} {L : List Hk} {sealed : Bool} (h : Reg w base b mb m L sealed st) : b < w.heap.size := by
  cases sealed with
  | false => exact (show RegO w base b mb m L st by simpa [Reg] using h).lt.1
  | true =>
    obtain ⟨⟨_, _, _, hb, _⟩, _⟩ := (show RegS w base b m (srt (L.filter (onB m))) st ∧ Dist L by simpa [Reg] using h)
    exact hb.lt
theorem regS_of_closed {W w1 : World} {base b mb : Nat} {m st : Int} {S : List Hk} (hc : Closed W b mb m st S w1) (hbase : base ≤ b) (hW : base ≤ W.heap.size) :
    RegS ((w1.drew.setCell ⟨b, 2, none⟩ (.int .u32 1)).setCell ⟨b, 3, none⟩ (.int .i32 0)) base b m S st := by
  obtain ⟨sv, hb, hr, hg⟩ := hc
  have h1 : Blk w1.drew b RT (regCs m mb 0 1 true sv st) := hb.drew
  have h2 : Blk (w1.drew.setCell ⟨b, 2, none⟩ (.int .u32 1)) b RT (regCs m mb 1 1 true sv st) := h1.set_ 2 (.int .u32 1)
  have h3 : Blk ((w1.drew.setCell ⟨b, 2, none⟩ (.int .u32 1)).setCell ⟨b, 3, none⟩ (.int .i32 0)) b RT (regCs m mb 1 0 true sv st) := h2.set_ 3 (.int .i32 0)
  have hne : sv.ownBlock ≠ some b := own_blk_ne hr hb (by decide)
  have hgr : w1.grownBy ((w1.drew.setCell ⟨b, 2, none⟩ (.int .u32 1)).setCell ⟨b, 3, none⟩ (.int .i32 0)) (some b) := only_setCell (only_setCell (only_drew (only_refl w1 (some b))) (p := ⟨b, 2, none⟩) (.inl rfl) (.int .u32 1)) (p := ⟨b, 3, none⟩) (.inl rfl) (.int .i32 0)
  exact ⟨hbase, mb, sv, h3, own_lower (hr.kept hgr (.inr hne)) hW⟩

set_option maxRecDepth 100000 in
set_option maxHeartbeats 2000000 in
theorem close_open (base b mb : Nat) (m st : Int) (L : List Hk) (w : World) (hR : RegO w base b mb m L st) (hL : L.length ≤ 1000000) :
    Calls Try.prog 73 #[.pointer (some ⟨b, 0, none⟩)] w fun e w' => e = .returned (.tuple #[]) ∧ RegS w' base b m (srt (L.filter (onB m))) st ∧ w.grownBy w' (some b) := by
  obtain ⟨q1, q2, q3, hb, D, hm, hD⟩ := hR
  have hlt := hb.lt
  have hmf : ∀ (fn : Fn) (first cap : Array Value) (w : World), (Instr.makeFunc fn first cap).run Try.prog w = .ok (.func fn first cap) w := fun _ _ _ _ => rfl
  have eg : ∀ args w, (callFunc 84 args).run Try.prog w = .ok (.enter 84 args) w := enters_of Try.func84 (by kernel_rfl) rfl
  have hb1 := hb.alloc (.cells #[.pointer (some ⟨b, 0, none⟩)] 44)
  have hp1 := Blk.new w 44 #[.pointer (some ⟨b, 0, none⟩)]
  have hm1 := hm.alloc (.cells #[.pointer (some ⟨b, 0, none⟩)] 44)
  have hb2 : Blk ((w.alloc (.cells #[.pointer (some ⟨b, 0, none⟩)] 44)).setCell ⟨b, 3, none⟩ (.int .i32 1)) b RT (regCs m mb 0 1 false (.slice none 0 0) st) := hb1.set_ 3 (.int .i32 1)
  have hpb : w.heap.size ≠ b := by omega
  have hp2 := hp1.far (p := ⟨b, 3, none⟩) hpb (.int .i32 1)
  have hm2 := hm1.setCell (a := ⟨b, 3, none⟩) q3 (.int .i32 1)
  have hcl := close1_any b mb w.heap.size m st L D _ hp2 hpb q3 hb2 hm2 hD hL
  have hdo := do_first b 2 84 #[.pointer (some ⟨w.heap.size, 0, none⟩)] _ (w.alloc (.cells #[.pointer (some ⟨b, 0, none⟩)] 44)) (hb1.cell 2) (hb1.cell 3) (hb1.frozen 3) eg hcl
    (fun w' ⟨sv, h1, _⟩ => ⟨h1.cell 2, h1.cell 3, h1.frozen 2, h1.frozen 3⟩)
  have HDO := Lib.hid hdo
  clear hdo hcl hm2 hp2 hb2 hb1 hm1 hp1 eg hb hm hD
  go_enter Try.func73, Try.ntmps73
  go_wp2_with (go_at_call 83; refine HDO.out.mono ?_; rintro e w' ⟨rfl, w1, hc, rfl⟩)
  go_end0
  refine ⟨rfl, regS_of_closed hc q1 (by simp [World.setCell]; omega), ?_⟩
  obtain ⟨sv, -, -, hg⟩ := hc
  have h0 : w.grownBy ((w.alloc (.cells #[.pointer (some ⟨b, 0, none⟩)] 44)).setCell ⟨b, 3, none⟩ (.int .i32 1)) (some b) := only_setCell (only_alloc (only_refl _ _) _) (.inl rfl) _
  have h1 := only_then h0 hg (fun j hj => .inr hj)
  exact only_setCell (only_setCell (only_drew h1) (.inl rfl) _) (.inl rfl) _

set_option maxRecDepth 100000 in
theorem close_shut (base b : Nat) (m st : Int) (S : List Hk) (w : World) (hR : RegS w base b m S st) :
    Calls Try.prog 73 #[.pointer (some ⟨b, 0, none⟩)] w fun e w' => e = .returned (.tuple #[]) ∧ RegS w' base b m S st ∧ w.grownBy w' none := by
  have hR0 := Lib.hid hR
  obtain ⟨q1, mb, sv, hb, hr⟩ := hR
  have hmf : ∀ (fn : Fn) (first cap : Array Value) (w : World), (Instr.makeFunc fn first cap).run Try.prog w = .ok (.func fn first cap) w := fun _ _ _ _ => rfl
  have hb1 := hb.alloc (.cells #[.pointer (some ⟨b, 0, none⟩)] 44)
  have hdo := fun fv => do_done ⟨b, 2, none⟩ 1 (by decide) fv (w.alloc (.cells #[.pointer (some ⟨b, 0, none⟩)] 44)) (hb1.cell 2)
  have HDO := Lib.hid hdo
  clear hdo hb1 hb hr
  go_enter Try.func73, Try.ntmps73
  go_wp2_with (go_at_call 83; refine (HDO.out _).mono ?_; rintro e w' ⟨rfl, rfl⟩)
  go_end0
  exact ⟨rfl, hR0.out.kept (only_alloc (only_refl _ _) _), only_alloc (only_refl _ _) _⟩

theorem close_any (base b mb : Nat) (m st : Int) (L : List Hk) (sealed : Bool) (w : World) (hR : Reg w base b mb m L sealed st) (hL : L.length ≤ 1000000) :
    Calls Try.prog 73 #[.pointer (some ⟨b, 0, none⟩)] w fun e w' => e = .returned (.tuple #[]) ∧ Reg w' base b mb m L true st ∧ w.grownBy w' (some b) := by
  cases sealed with
  | false =>
    have h : RegO w base b mb m L st := by simpa [Reg] using hR
    exact (close_open base b mb m st L w h hL).mono fun _ _ ⟨he, h1, h2⟩ => ⟨he, by simpa [Reg] using ⟨h1, h.dist⟩, h2⟩
  | true =>
    have h : RegS w base b m (srt (L.filter (onB m))) st ∧ Dist L := by simpa [Reg] using hR
    exact (close_shut base b m st _ w h.1).mono fun _ _ ⟨he, h1, h2⟩ => ⟨he, by simpa [Reg] using ⟨h1, h.2⟩, h2.but _⟩
end Go.Proofs.Ytmlkmhonpmnenaa
