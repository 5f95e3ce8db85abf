/- Sorted, For and Has of a registry. -/
import Derived.Test.YtmlkmhonpmnenaaRegI
import Derived.Lib.Bytealg
import Derived.Lib.IndexMore
namespace Go.Proofs.Ytmlkmhonpmnenaa
open Go.RowKit Go.Lib Go.Maps

set_option maxRecDepth 100000 in
theorem idxStringslite (s : ByteArray) (c : Int) (w : World) :
    Calls Try.prog 76 #[.string s, .int .u8 c] w fun e w' => e = .returned (.int .i64 (Lib.indexByte s.data.toList c.toNat.toUInt8)) ∧ w = w' := by
  go_enter Try.func76, Try.ntmps76
  go_wp2
  rw [run_callFunc_extern Try.func91 (by kernel_rfl) (by kernel_rfl) (by kernel_rfl) (e := Extern.BytealgIndexByte.indexByte) (by kernel_rfl), Lib.run_indexByteString]
  simp only [Result.andThen]
  rw [Oper.upon_value]
  go_wp2
  go_ret
  exact ⟨rfl, rfl⟩
theorem idxStrings (s : ByteArray) (c : Int) (w : World) :
    Calls Try.prog 65 #[.string s, .int .u8 c] w fun e w' => e = .returned (.int .i64 (Lib.indexByte s.data.toList c.toNat.toUInt8)) ∧ w = w' := by
  go_enter Try.func65, Try.ntmps65
  go_wp2_with (go_at_call 76; refine (idxStringslite _ _ _).mono ?_; rintro e w' ⟨rfl, rfl⟩)
  go_ret
  exact ⟨rfl, rfl⟩
theorem idx_ge (c : UInt8) : ∀ l : List UInt8, -1 ≤ Lib.indexByte l c ∧ decide (0 ≤ Lib.indexByte l c) = l.any (fun x => x.toNat == c.toNat)
  | [] => ⟨Int.le_refl _, rfl⟩
  | b :: l => by
    obtain ⟨h1, h2⟩ := idx_ge c l
    unfold Lib.indexByte
    by_cases hb : b = c
    · subst hb
      simp
    · have e : (b == c) = false := by simpa using hb
      have e2 : (b.toNat == c.toNat) = false := by simpa [UInt8.toNat_inj] using hb
      rw [List.any_cons, e2, Bool.false_or, ← h2, e]
      simp only [Bool.false_eq_true, if_false]
      by_cases h3 : Lib.indexByte l c = -1
      · rw [h3]; simp
      · have e3 : (Lib.indexByte l c == -1) = false := by simpa using h3
        rw [e3]
        simp only [Bool.false_eq_true, if_false]
        refine ⟨by omega, ?_⟩
        rw [decide_eq_decide]
        omega

set_option maxRecDepth 100000 in
theorem sorted1_any (ph : Int) (pb : Nat) (x : Hk) (W : World) (hp : W.cell? ⟨pb, 0, none⟩ = some (.int .i64 ph)) (hl : pb < W.heap.size) :
    Calls Try.prog 61 (#[hkV x] ++ #[.pointer (some ⟨pb, 0, none⟩)]) W fun e w' => e = .returned (.bool (x.phase == ph)) ∧ W.grownBy w' none := by
  obtain ⟨xn, xp, xr, xt, xb⟩ := x
  simp only [hkV, hkC]
  have hp1 : (W.alloc (.cells #[.string ⟨xn.toArray⟩, .int .i64 xp, .int .i64 xr, .string ⟨xt.toArray⟩, .int .i64 xb] HT)).cell? ⟨pb, 0, none⟩ = some (.int .i64 ph) := by
    rw [World.cell?_alloc_past _ _ _ hl]; exact hp
  clear hp
  show Calls Try.prog 61 #[.agg #[.string ⟨xn.toArray⟩, .int .i64 xp, .int .i64 xr, .string ⟨xt.toArray⟩, .int .i64 xb], .pointer (some ⟨pb, 0, none⟩)] W _
  go_enter Try.func61, Try.ntmps61
  go_wp2
  go_ret
  exact ⟨rfl, only_alloc (only_refl _ _) _⟩
set_option maxRecDepth 100000 in
theorem has1_any (nm : List UInt8) (pb : Nat) (x : Hk) (W : World) (hp : W.cell? ⟨pb, 0, none⟩ = some (.string ⟨nm.toArray⟩)) (hl : pb < W.heap.size) :
    Calls Try.prog 66 (#[hkV x] ++ #[.pointer (some ⟨pb, 0, none⟩)]) W fun e w' => e = .returned (.bool (x.name == nm)) ∧ W.grownBy w' none := by
  obtain ⟨xn, xp, xr, xt, xb⟩ := x
  simp only [hkV, hkC]
  have hp1 : (W.alloc (.cells #[.string ⟨xn.toArray⟩, .int .i64 xp, .int .i64 xr, .string ⟨xt.toArray⟩, .int .i64 xb] HT)).cell? ⟨pb, 0, none⟩ = some (.string ⟨nm.toArray⟩) := by
    rw [World.cell?_alloc_past _ _ _ hl]; exact hp
  clear hp
  show Calls Try.prog 66 #[.agg #[.string ⟨xn.toArray⟩, .int .i64 xp, .int .i64 xr, .string ⟨xt.toArray⟩, .int .i64 xb], .pointer (some ⟨pb, 0, none⟩)] W _
  go_enter Try.func66, Try.ntmps66
  go_wp2
  go_ret
  exact ⟨rfl, only_alloc (only_refl _ _) _⟩

set_option maxRecDepth 100000 in
set_option maxHeartbeats 1000000 in
theorem sorted_any (ph : Int) (base b mb : Nat) (m st : Int) (L : List Hk) (sealed : Bool) (w : World) (hR : Reg w base b mb m L sealed st) (hL : L.length ≤ 1000000) :
    Calls Try.prog 31 #[.pointer (some ⟨b, 0, none⟩), .int .i64 ph] w fun e w' => ∃ A c, e = .returned (.slice A ((srt (L.filter (onB m))).filter (fun x => x.phase == ph)).length c) ∧
      Reg w' base b mb m L true st ∧ w'.ownsRow w.heap.size HT 5 (.slice A ((srt (L.filter (onB m))).filter (fun x => x.phase == ph)).length c) ((srt (L.filter (onB m))).filter (fun x => x.phase == ph)).length (hkCells ((srt (L.filter (onB m))).filter (fun x => x.phase == ph))) ∧ w.grownBy w' (some b) := by
  have hmf : ∀ (fn : Fn) (first cap : Array Value) (w : World), (Instr.makeFunc fn first cap).run Try.prog w = .ok (.func fn first cap) w := fun _ _ _ _ => rfl
  have eg : ∀ args w, (callFunc 61 args).run Try.prog w = .ok (.enter 61 args) w := enters_of Try.func61 (by kernel_rfl) rfl
  have hb0 : b < w.heap.size := hR.lt
  have hp := Blk.new w 3 #[.int .i64 ph]
  have hT := those_any base b mb 61 #[.pointer (some ⟨w.heap.size, 0, none⟩)] (fun x => x.phase == ph) m st L sealed (w.alloc (.cells #[.int .i64 ph] 3)) (hR.kept (only_alloc (only_refl _ _) _)) hL eg
    (fun W x hg => sorted1_any ph w.heap.size x W ((hp.grown hg (by simp; omega)).cell 0) (hp.grown hg (by simp; omega)).lt)
  obtain ⟨R, hR0⟩ : ∃ R, (srt (L.filter (onB m))).filter (fun x => x.phase == ph) = R := ⟨_, rfl⟩
  rw [hR0] at hT ⊢
  have HT1 := Lib.hid hT
  clear hT hp eg hR hR0
  go_enter Try.func31, Try.ntmps31
  go_wp2_with fail
  refine HT1.out.mono ?_
  rintro e w1 ⟨A, c, rfl, h1, h2, h3⟩
  go_wp2
  go_ret
  exact ⟨A, c, rfl, h1, own_lower h2 (by simp), only_then (only_alloc (only_refl w (some b)) _) h3 (fun j hj => .inr hj)⟩

theorem any_len {α : Type} (p : α → Bool) (l : List α) : decide (0 < (l.filter p).length) = l.any p := by
  rw [Bool.eq_iff_iff]
  simp only [decide_eq_true_eq, List.any_eq_true]
  constructor
  · intro h
    obtain ⟨a, ha⟩ := List.exists_mem_of_length_pos h
    exact ⟨a, (List.mem_filter.1 ha).1, (List.mem_filter.1 ha).2⟩
  · rintro ⟨a, ha, hp⟩
    exact List.length_pos_of_mem (List.mem_filter.2 ⟨ha, hp⟩)
set_option maxRecDepth 100000 in
set_option maxHeartbeats 1000000 in
theorem has_any (nm : List UInt8) (base b mb : Nat) (m st : Int) (L : List Hk) (sealed : Bool) (w : World) (hR : Reg w base b mb m L sealed st) (hL : L.length ≤ 1000000) :
    Calls Try.prog 35 #[.pointer (some ⟨b, 0, none⟩), .string ⟨nm.toArray⟩] w fun e w' => e = .returned (.bool ((srt (L.filter (onB m))).any (fun x => x.name == nm))) ∧
      Reg w' base b mb m L true st ∧ w.grownBy w' (some b) := by
  have hmf : ∀ (fn : Fn) (first cap : Array Value) (w : World), (Instr.makeFunc fn first cap).run Try.prog w = .ok (.func fn first cap) w := fun _ _ _ _ => rfl
  have eg : ∀ args w, (callFunc 66 args).run Try.prog w = .ok (.enter 66 args) w := enters_of Try.func66 (by kernel_rfl) rfl
  have hb0 : b < w.heap.size := hR.lt
  have hp := Blk.new w 9 #[.string ⟨nm.toArray⟩]
  have hT := those_any base b mb 66 #[.pointer (some ⟨w.heap.size, 0, none⟩)] (fun x => x.name == nm) m st L sealed (w.alloc (.cells #[.string ⟨nm.toArray⟩] 9)) (hR.kept (only_alloc (only_refl _ _) _)) hL eg
    (fun W x hg => has1_any nm w.heap.size x W ((hp.grown hg (by simp; omega)).cell 0) (hp.grown hg (by simp; omega)).lt)
  have hal := any_len (fun x => x.name == nm) (srt (L.filter (onB m)))
  obtain ⟨R, hR0⟩ : ∃ R, (srt (L.filter (onB m))).filter (fun x => x.name == nm) = R := ⟨_, rfl⟩
  rw [hR0] at hT hal
  rw [← hal]
  have HT1 := Lib.hid hT
  clear hT hp eg hR hR0 hal
  go_enter Try.func35, Try.ntmps35
  go_wp2_with fail
  refine HT1.out.mono ?_
  rintro e w1 ⟨A, c, rfl, h1, h2, h3⟩
  have H := Lib.hid h1
  clear h1 h2
  go_wp2
  go_ret
  exact ⟨rfl, H.out, only_then (only_alloc (only_refl w (some b)) _) h3 (fun j hj => .inr hj)⟩

/-- What For asks of a hook. -/
def forB (ph : Int) (c : UInt8) (x : Hk) : Bool := x.phase == ph && trigB c.toNat x
set_option maxRecDepth 100000 in
set_option maxHeartbeats 1000000 in
theorem for1_any (ph : Int) (c : UInt8) (pa pb : Nat) (x : Hk) (W : World) (hp : W.cell? ⟨pa, 0, none⟩ = some (.int .i64 ph)) (hq : W.cell? ⟨pb, 0, none⟩ = some (.int .u8 (c.toNat : Int))) (hl : pa < W.heap.size) (hl2 : pb < W.heap.size) :
    Calls Try.prog 64 (#[hkV x] ++ #[.pointer (some ⟨pa, 0, none⟩), .pointer (some ⟨pb, 0, none⟩)]) W fun e w' => e = .returned (.bool (forB ph c x)) ∧ W.grownBy w' none := by
  obtain ⟨xn, xp, xr, xt, xb⟩ := x
  simp only [hkV, hkC]
  have hp1 : (W.alloc (.cells #[.string ⟨xn.toArray⟩, .int .i64 xp, .int .i64 xr, .string ⟨xt.toArray⟩, .int .i64 xb] HT)).cell? ⟨pa, 0, none⟩ = some (.int .i64 ph) := by
    rw [World.cell?_alloc_past _ _ _ hl]; exact hp
  have hq1 : (W.alloc (.cells #[.string ⟨xn.toArray⟩, .int .i64 xp, .int .i64 xr, .string ⟨xt.toArray⟩, .int .i64 xb] HT)).cell? ⟨pb, 0, none⟩ = some (.int .u8 (c.toNat : Int)) := by
    rw [World.cell?_alloc_past _ _ _ hl2]; exact hq
  clear hp hq
  show Calls Try.prog 64 #[.agg #[.string ⟨xn.toArray⟩, .int .i64 xp, .int .i64 xr, .string ⟨xt.toArray⟩, .int .i64 xb], .pointer (some ⟨pa, 0, none⟩), .pointer (some ⟨pb, 0, none⟩)] W _
  unfold forB trigB
  cases e1 : (xp == ph) with
  | false =>
    simp only [Bool.false_and]
    go_enter Try.func64, Try.ntmps64
    go_wp2
    go_ret
    exact ⟨rfl, only_alloc (only_refl _ _) _⟩
  | true =>
    simp only [Bool.true_and]
    cases e2 : xt.isEmpty with
    | true =>
      simp only [Bool.true_or]
      go_enter Try.func64, Try.ntmps64
      go_wp2
      go_ret
      exact ⟨rfl, only_alloc (only_refl _ _) _⟩
    | false =>
      simp only [Bool.false_or]
      have hi := fun w => idxStrings ⟨xt.toArray⟩ (c.toNat : Int) w
      have hge := (idx_ge c xt).2
      have hc : ((c.toNat : Int)).toNat.toUInt8 = c := by simp
      simp only [hc] at hi
      rw [← hge]
      obtain ⟨k, hk⟩ : ∃ k, Lib.indexByte xt c = k := ⟨_, rfl⟩
      rw [hk] at hi ⊢
      have HI := Lib.hid hi
      clear hi hge hc hk
      go_enter Try.func64, Try.ntmps64
      go_wp2_with fail
      refine (HI.out _).mono ?_
      rintro e w1 ⟨rfl, rfl⟩
      go_wp2
      go_ret
      exact ⟨rfl, only_alloc (only_refl _ _) _⟩

set_option maxRecDepth 100000 in
set_option maxHeartbeats 1000000 in
theorem for_any (ph : Int) (ch : UInt8) (base b mb : Nat) (m st : Int) (L : List Hk) (sealed : Bool) (w : World) (hR : Reg w base b mb m L sealed st) (hL : L.length ≤ 1000000) :
    Calls Try.prog 34 #[.pointer (some ⟨b, 0, none⟩), .int .i64 ph, .int .u8 (ch.toNat : Int)] w fun e w' => ∃ A c, e = .returned (.slice A ((srt (L.filter (onB m))).filter (forB ph ch)).length c) ∧
      Reg w' base b mb m L true st ∧ w'.ownsRow w.heap.size HT 5 (.slice A ((srt (L.filter (onB m))).filter (forB ph ch)).length c) ((srt (L.filter (onB m))).filter (forB ph ch)).length (hkCells ((srt (L.filter (onB m))).filter (forB ph ch))) ∧ w.grownBy w' (some b) := by
  have hmf : ∀ (fn : Fn) (first cap : Array Value) (w : World), (Instr.makeFunc fn first cap).run Try.prog w = .ok (.func fn first cap) w := fun _ _ _ _ => rfl
  have eg : ∀ args w, (callFunc 64 args).run Try.prog w = .ok (.enter 64 args) w := enters_of Try.func64 (by kernel_rfl) rfl
  have hb0 : b < w.heap.size := hR.lt
  have hp := (Blk.new w 3 #[.int .i64 ph]).alloc (.cells #[.int .u8 (ch.toNat : Int)] 5)
  have hq := Blk.new (w.alloc (.cells #[.int .i64 ph] 3)) 5 #[.int .u8 (ch.toNat : Int)]
  have es : (w.alloc (.cells #[.int .i64 ph] 3)).heap.size = w.heap.size + 1 := by simp
  rw [es] at hq
  have hT := those_any base b mb 64 #[.pointer (some ⟨w.heap.size, 0, none⟩), .pointer (some ⟨w.heap.size + 1, 0, none⟩)] (forB ph ch) m st L sealed ((w.alloc (.cells #[.int .i64 ph] 3)).alloc (.cells #[.int .u8 (ch.toNat : Int)] 5)) (hR.kept (only_alloc (only_alloc (only_refl _ _) _) _)) hL eg
    (fun W x hg => for1_any ph ch w.heap.size (w.heap.size + 1) x W ((hp.grown hg (by simp; omega)).cell 0) ((hq.grown hg (by simp; omega)).cell 0) (hp.grown hg (by simp; omega)).lt (hq.grown hg (by simp; omega)).lt)
  obtain ⟨R, hR0⟩ : ∃ R, (srt (L.filter (onB m))).filter (forB ph ch) = R := ⟨_, rfl⟩
  rw [hR0] at hT ⊢
  have HT1 := Lib.hid hT
  clear hT hp hq eg hR hR0 es
  go_enter Try.func34, Try.ntmps34
  go_wp2_with fail
  refine HT1.out.mono ?_
  rintro e w1 ⟨A, c, rfl, h1, h2, h3⟩
  go_wp2
  go_ret
  exact ⟨A, c, rfl, h1, own_lower h2 (by simp; omega), only_then (only_alloc (only_alloc (only_refl w (some b)) _) _) h3 (fun j hj => .inr hj)⟩
end Go.Proofs.Ytmlkmhonpmnenaa
