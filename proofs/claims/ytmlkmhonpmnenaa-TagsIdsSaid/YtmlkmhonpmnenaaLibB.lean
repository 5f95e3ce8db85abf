import Derived.Test.YtmlkmhonpmnenaaLibA
import Derived.Shelf.Strings.Builder1
import Derived.Shelf.Strings.Builder2
import Derived.Shelf.Strings.IndexAnyAll
import Derived.Laws.Runes
import Derived.Laws.RangeAny
import Derived.WalkMore
import Derived.ScopeJumps
import Derived.LoopN
import Derived.WalkSmall
namespace Go.Proofs
open Go.Shelf
def Try.Lays_n240_ren : Go.Shelf.Ren := ⟨fun | 240 => 72 | 276 => 82 | n => n, fun | 0 => 0 | 4 => 4 | 9 => 9 | 20 => 20 | 37 => 82 | 70 => 81 | 72 => 84 | 164 => 123 | n => n, fun n => n⟩
theorem Try.Lays_n240 : Go.Proofs.Lays.n240 Try.prog Try.Lays_n240_ren := {
  mixed := by kernel_rfl
  f240 := Try.func72.trans (congrArg some (by kernel_rfl))
  f276 := Try.func82.trans (congrArg some (by kernel_rfl))
  t0 := Try.underlying0
  a0 := Try.isAgg0
  z0 := Try.sizeOf0
  v0 := Try.zeroValue0
  t4 := Try.underlying4
  a4 := Try.isAgg4
  z4 := Try.sizeOf4
  v4 := Try.zeroValue4
  t9 := Try.underlying9
  a9 := Try.isAgg9
  z9 := Try.sizeOf9
  v9 := Try.zeroValue9
  t20 := Try.underlying20
  a20 := Try.isAgg20
  z20 := Try.sizeOf20
  v20 := Try.zeroValue20
  t70 := Try.underlying81
  a70 := Try.isAgg81
  z70 := Try.sizeOf81
  v70 := Try.zeroValue81
  t72 := Try.underlying84
  a72 := Try.isAgg84
  z72 := Try.sizeOf84
  v72 := Try.zeroValue84
  t164 := Try.underlying123
  a164 := Try.isAgg123
  z164 := Try.sizeOf123
  v164 := Try.zeroValue123
}
def Try.Lays_n167_ren : Go.Shelf.Ren := ⟨fun | 167 => 57 | 240 => 72 | 276 => 82 | n => n, fun | 0 => 0 | 4 => 4 | 5 => 5 | 9 => 9 | 20 => 20 | 37 => 82 | 70 => 81 | 72 => 84 | 75 => 86 | 80 => 88 | 164 => 123 | n => n, fun n => n⟩
theorem Try.Lays_n167 : Go.Proofs.Lays.n167 Try.prog Try.Lays_n167_ren := {
  mixed := by kernel_rfl
  f167 := Try.func57.trans (congrArg some (by kernel_rfl))
  f240 := Try.func72.trans (congrArg some (by kernel_rfl))
  f276 := Try.func82.trans (congrArg some (by kernel_rfl))
  t0 := Try.underlying0
  a0 := Try.isAgg0
  z0 := Try.sizeOf0
  v0 := Try.zeroValue0
  t4 := Try.underlying4
  a4 := Try.isAgg4
  z4 := Try.sizeOf4
  v4 := Try.zeroValue4
  t5 := Try.underlying5
  a5 := Try.isAgg5
  z5 := Try.sizeOf5
  v5 := Try.zeroValue5
  t9 := Try.underlying9
  a9 := Try.isAgg9
  z9 := Try.sizeOf9
  v9 := Try.zeroValue9
  t20 := Try.underlying20
  a20 := Try.isAgg20
  z20 := Try.sizeOf20
  v20 := Try.zeroValue20
  t37 := Try.underlying82
  a37 := Try.isAgg82
  z37 := Try.sizeOf82
  v37 := Try.zeroValue82
  t70 := Try.underlying81
  a70 := Try.isAgg81
  z70 := Try.sizeOf81
  v70 := Try.zeroValue81
  t72 := Try.underlying84
  a72 := Try.isAgg84
  z72 := Try.sizeOf84
  v72 := Try.zeroValue84
  t75 := Try.underlying86
  a75 := Try.isAgg86
  z75 := Try.sizeOf86
  v75 := Try.zeroValue86
  t164 := Try.underlying123
  a164 := Try.isAgg123
  z164 := Try.sizeOf123
  v164 := Try.zeroValue123
}
def Try.Lays_n169_ren : Go.Shelf.Ren := ⟨fun | 169 => 58 | n => n, fun | 0 => 0 | 3 => 3 | 5 => 5 | 9 => 9 | 37 => 82 | 70 => 81 | 72 => 84 | 127 => 116 | n => n, fun n => n⟩
theorem Try.Lays_n169 : Go.Proofs.Lays.n169 Try.prog Try.Lays_n169_ren := {
  mixed := by kernel_rfl
  f169 := Try.func58.trans (congrArg some (by kernel_rfl))
  t0 := Try.underlying0
  a0 := Try.isAgg0
  z0 := Try.sizeOf0
  v0 := Try.zeroValue0
  t3 := Try.underlying3
  a3 := Try.isAgg3
  z3 := Try.sizeOf3
  v3 := Try.zeroValue3
  t9 := Try.underlying9
  a9 := Try.isAgg9
  z9 := Try.sizeOf9
  v9 := Try.zeroValue9
  t37 := Try.underlying82
  a37 := Try.isAgg82
  z37 := Try.sizeOf82
  v37 := Try.zeroValue82
  t70 := Try.underlying81
  a70 := Try.isAgg81
  z70 := Try.sizeOf81
  v70 := Try.zeroValue81
  t72 := Try.underlying84
  a72 := Try.isAgg84
  z72 := Try.sizeOf84
  v72 := Try.zeroValue84
  t127 := Try.underlying116
  a127 := Try.isAgg116
  z127 := Try.sizeOf116
  v127 := Try.zeroValue116
}
def Try.Lays_n153_ren : Go.Shelf.Ren := ⟨fun | 119 => 123 | 137 => 65 | 152 => 102 | 153 => 94 | 217 => 76 | 224 => 121 | 225 => 120 | 226 => 103 | 227 => 104 | 228 => 105 | 266 => 91 | n => n, fun | 0 => 0 | 3 => 3 | 4 => 4 | 5 => 5 | 9 => 9 | 21 => 21 | 46 => 134 | 116 => 137 | 117 => 138 | 124 => 156 | n => n, fun n => n⟩
theorem Try.Lays_n153 : Go.Proofs.Lays.n153 Try.prog Try.Lays_n153_ren := {
  mixed := by kernel_rfl
  f119 := Try.func123.trans (congrArg some (by kernel_rfl))
  f137 := Try.func65.trans (congrArg some (by kernel_rfl))
  f152 := Try.func102.trans (congrArg some (by kernel_rfl))
  f153 := Try.func94.trans (congrArg some (by kernel_rfl))
  f217 := Try.func76.trans (congrArg some (by kernel_rfl))
  f224 := Try.func121.trans (congrArg some (by kernel_rfl))
  f225 := Try.func120.trans (congrArg some (by kernel_rfl))
  f226 := Try.func103.trans (congrArg some (by kernel_rfl))
  f227 := Try.func104.trans (congrArg some (by kernel_rfl))
  f228 := Try.func105.trans (congrArg some (by kernel_rfl))
  f266 := Try.func91.trans (congrArg some (by kernel_rfl))
  t0 := Try.underlying0
  a0 := Try.isAgg0
  z0 := Try.sizeOf0
  v0 := Try.zeroValue0
  t3 := Try.underlying3
  a3 := Try.isAgg3
  z3 := Try.sizeOf3
  v3 := Try.zeroValue3
  t4 := Try.underlying4
  a4 := Try.isAgg4
  z4 := Try.sizeOf4
  v4 := Try.zeroValue4
  t5 := Try.underlying5
  a5 := Try.isAgg5
  z5 := Try.sizeOf5
  v5 := Try.zeroValue5
  t9 := Try.underlying9
  a9 := Try.isAgg9
  z9 := Try.sizeOf9
  v9 := Try.zeroValue9
  t21 := Try.underlying21
  a21 := Try.isAgg21
  z21 := Try.sizeOf21
  v21 := Try.zeroValue21
  t46 := Try.underlying134
  a46 := Try.isAgg134
  z46 := Try.sizeOf134
  v46 := Try.zeroValue134
  t116 := Try.underlying137
  a116 := Try.isAgg137
  z116 := Try.sizeOf137
  t117 := Try.underlying138
  a117 := Try.isAgg138
  z117 := Try.sizeOf138
  v117 := Try.zeroValue138
  t124 := Try.underlying156
  a124 := Try.isAgg156
  z124 := Try.sizeOf156
  v124 := Try.zeroValue156
}
def Try.Lays_n152_ren : Go.Shelf.Ren := ⟨fun | 119 => 123 | 137 => 65 | 152 => 102 | 217 => 76 | 224 => 121 | 225 => 120 | 266 => 91 | n => n, fun | 0 => 0 | 3 => 3 | 4 => 4 | 5 => 5 | 9 => 9 | 21 => 21 | 46 => 134 | n => n, fun n => n⟩
theorem Try.Lays_n152 : Go.Proofs.Lays.n152 Try.prog Try.Lays_n152_ren := {
  mixed := by kernel_rfl
  f119 := Try.func123.trans (congrArg some (by kernel_rfl))
  f137 := Try.func65.trans (congrArg some (by kernel_rfl))
  f152 := Try.func102.trans (congrArg some (by kernel_rfl))
  f217 := Try.func76.trans (congrArg some (by kernel_rfl))
  f224 := Try.func121.trans (congrArg some (by kernel_rfl))
  f225 := Try.func120.trans (congrArg some (by kernel_rfl))
  f266 := Try.func91.trans (congrArg some (by kernel_rfl))
  t0 := Try.underlying0
  a0 := Try.isAgg0
  z0 := Try.sizeOf0
  v0 := Try.zeroValue0
  t3 := Try.underlying3
  a3 := Try.isAgg3
  z3 := Try.sizeOf3
  v3 := Try.zeroValue3
  t4 := Try.underlying4
  a4 := Try.isAgg4
  z4 := Try.sizeOf4
  v4 := Try.zeroValue4
  t5 := Try.underlying5
  a5 := Try.isAgg5
  z5 := Try.sizeOf5
  v5 := Try.zeroValue5
  t9 := Try.underlying9
  a9 := Try.isAgg9
  z9 := Try.sizeOf9
  v9 := Try.zeroValue9
  t21 := Try.underlying21
  a21 := Try.isAgg21
  z21 := Try.sizeOf21
  v21 := Try.zeroValue21
  t46 := Try.underlying134
  a46 := Try.isAgg134
  z46 := Try.sizeOf134
  v46 := Try.zeroValue134
}
end Go.Proofs
namespace Go.Proofs.Ytmlkmhonpmnenaa
open Go.RowKit

theorem qadd {P : Program} {f : FuncId} {args : Array Value} {w : World} {a n : Nat} {v : Value}
    (h : Calls P f args (w.drewN (a + n)) fun e w' => e = .returned v ∧ w.drewN (a + n) = w') :
    Calls P f args (w.drewN (a + n)) fun e w'' => e = .returned v ∧ ∃ m, w'' = w.drewN (a + m) :=
  h.mono fun _ _ ⟨he, hm⟩ => ⟨he, n, hm.symm⟩
theorem qleft {P : Program} {f : FuncId} {args : Array Value} {w : World} {n : Nat} {v : Value}
    (h : Calls P f args (w.drewN n) fun e w' => e = .returned v ∧ w.drewN n = w') : Calls P f args (w.drewN n) fun e w'' => e = .returned v ∧ ∃ m, w'' = w.drewN m :=
  h.mono fun _ _ ⟨he, hm⟩ => ⟨he, n, hm.symm⟩
theorem idx_none (l : List UInt8) (c : UInt8) (h : ∀ b ∈ l, b ≠ c) : Lib.indexByte l c = -1 := by
  induction l with
  | nil => rfl
  | cons b l ih =>
    unfold Lib.indexByte
    have hb : (b == c) = false := by simpa using h b (List.mem_cons_self ..)
    rw [hb, ih (fun x hx => h x (List.mem_cons_of_mem _ hx))]
    rfl
theorem strIndexByte (s : ByteArray) (c : Int) (w : World) :
    Calls Try.prog 65 #[.string s, .int .u8 c] w fun e w' => e = .returned (.int .i64 (Lib.indexByte s.data.toList c.toNat.toUInt8)) ∧ w = w' := by
  go_enter Try.func65, Try.ntmps65
  go_wp2_with (go_at_call 76; refine (slIndexByte _ _ _).mono ?_; rintro e w' ⟨rfl, rfl⟩)
  go_ret
  exact ⟨rfl, rfl⟩
theorem ret_b {a b : Bool} (h : a = b) : Ending.returned (.bool a) = .returned (.bool b) := by rw [h]
theorem validRune_any (r : Int) (w : World) :
    Calls Try.prog 123 #[.int .i32 r] w fun e w' => e = .returned (.bool (Utf8.valid r)) ∧ w = w' := by
  rw [validRune_eq]
  go_enter Try.func123, Try.ntmps123
  go_wp2
  all_goals
    go_ret
    refine ⟨ret_b ?_, rfl⟩
    simp only [validRune, decide_eq_true_eq, decide_eq_false_iff_not, eq_comm (a := true), eq_comm (a := false)]
    omega

set_option maxRecDepth 100000 in
set_option maxHeartbeats 4000000 in
theorem indexRune_valid (s : ByteArray) (r : Int) (w : World) (_hs : s.size ≤ 100) (ha : ∀ b ∈ s.data.toList, b.toNat < 128) (h1 : 128 ≤ r) (h2 : ¬ r = 65533) (hv : Utf8.valid r = true) :
    Calls Try.prog 102 #[.string s, .int .i32 r] w fun e w' => e = .returned (.int .i64 (-1)) ∧ ∃ n, w' = w.drewN n := by
  obtain ⟨m2, m4, hlast⟩ := encode_facts r hv h1
  have hsm : ((Utf8.encode r).size : Int) ≤ 4 := by omega
  have hs2 : (2 : Int) ≤ ((Utf8.encode r).size : Int) := by omega
  have HA := Lib.hid ha
  have HL := Lib.hid hlast
  have HV := Lib.hid hv
  clear ha hlast hv
  have hr1 : decide (r < 128) = false := by simp; omega
  have hr2 : (r == 65533) = false := by simp; omega
  go_enter Try.func102, Try.ntmps102
  go_wp2_with (go_at_call 123; refine (validRune_any _ _).mono ?_; rintro e w' ⟨rfl, rfl⟩; rw [HV.out])
  go_step3
  go_wp2
  generalize ht : Utf8.encode r = t at *
  clear ht
  obtain ⟨m, hm⟩ : ∃ m, t.size = m + 1 := ⟨t.size - 1, by omega⟩
  have e : (t.size : Int) - 1 = (m : Int) := by omega
  rw [e]
  clear e
  have hm1 : m < t.size := by omega
  have hmi : (m : Int) < (t.size : Int) := by omega
  have hm4 : (m : Int) ≤ 3 := by omega
  have HT : Hid (128 ≤ (t[m]'hm1).toNat) := by
    have h := HL.out (by omega)
    have e : t.size - 1 = m := by omega
    simp only [e] at h
    exact h
  clear HL hm
  by_cases hlt : m < s.size
  · have hlt1 : (m : Int) < (s.size : Int) := by omega
    have hne : (((s[m]'hlt).toNat : Int) == ((t[m]'hm1).toNat : Int)) = false := by
      have h1 := HT.out
      have h2 := HA.out (s[m]'hlt) (Array.getElem_mem_toList (xs := s.data) hlt)
      simp; omega
    have hneg : Lib.indexByte (List.take (s.size - (m + 1)) (List.drop (m + 1) s.data.toList)) (t[m]'hm1) < 0 := by
      rw [idx_none _ _ (fun b hb => ?_)]
      · decide
      · have h := HA.out b (List.mem_of_mem_drop (List.mem_of_mem_take hb))
        have h' := HT.out
        intro e
        subst e
        omega
    have hback : (((t[m]'hm1).toNat : Int)).toNat.toUInt8 = t[m]'hm1 := by simp
    have hlo : (0 : Int) ≤ (m : Int) + 1 := by omega
    have hhi : (m : Int) + 1 ≤ (s.size : Int) := by omega
    refine wp_loop_rounds 1 ?_
    rw [rounds_succ]
    go_wp2
    go_step3
    go_wp2
    go_quiet (fail)
    go_wp2
    go_quiet ((go_at_call 65; exact qadd (strIndexByte _ _ _)))
    go_wp2
    repeat (first | rw [Exit.noGoto_ret] | simp only [Exit.inBlock, Exit.then])
    go_ret
    exact ⟨rfl, _, rfl⟩
  · refine wp_loop_rounds 1 ?_
    rw [rounds_succ]
    go_wp2
    try rw [Exit.noGoto_ret]
    go_ret
    exact ⟨rfl, 0, rfl⟩

set_option maxRecDepth 100000 in
set_option maxHeartbeats 4000000 in
theorem indexRune_invalid (s : ByteArray) (r : Int) (w : World) (h1 : 128 ≤ r) (h2 : ¬ r = 65533) (hv : Utf8.valid r = false) :
    Calls Try.prog 102 #[.string s, .int .i32 r] w fun e w' => e = .returned (.int .i64 (-1)) ∧ w = w' := by
  have HV := Lib.hid hv
  clear hv
  have hr1 : decide (r < 128) = false := by simp; omega
  have hr2 : (r == 65533) = false := by simp; omega
  go_enter Try.func102, Try.ntmps102
  go_wp2_with (go_at_call 123; refine (validRune_any _ _).mono ?_; rintro e w' ⟨rfl, rfl⟩; rw [HV.out])
  repeat (first | rw [Exit.noGoto_ret] | simp only [Exit.inBlock, Exit.then])
  go_ret
  exact ⟨rfl, rfl⟩

set_option maxRecDepth 100000 in
set_option maxHeartbeats 4000000 in
theorem indexRune_error (s : ByteArray) (w : World) (ha : ∀ b ∈ s.data.toList, b.toNat < 128) :
    Calls Try.prog 102 #[.string s, .int .i32 65533] w fun e w' => e = .returned (.int .i64 (-1)) ∧ Below w.heap.size w w' := by
  have HA := Lib.hid ha
  clear ha
  go_enter Try.func102, Try.ntmps102
  go_wp2_with fail
  go_loopg [5, 6] s.size (fun g _ _ wx => ∃ i : Nat, i + g = s.size ∧ wx = w.iter s i)
  case atStart => exact ⟨0, by omega, rfl⟩
  case round =>
    obtain ⟨i, hig, rfl⟩ := hrel
    cases gk with
    | zero =>
      obtain rfl : i = s.size := by omega
      have hnx := run_next_end (P := Try.prog) w s s.size
      go_wp2
      repeat (first | rw [Exit.noGoto_ret] | simp only [Exit.inBlock, Exit.then])
      go_ret
      exact ⟨rfl, (Below.refl _ _).alloc (Nat.le_refl _) _⟩
    | succ g =>
      have hi : i < s.size := by omega
      obtain ⟨x, hx⟩ : ∃ x : UInt8, s[i]'hi = x := ⟨_, rfl⟩
      have hx128 : x.toNat < 128 := HA.out x (by rw [← hx]; exact Array.getElem_mem_toList (xs := s.data) hi)
      have hnx := fun ty => run_next_ascii (P := Try.prog) w s i ty hi (by rw [hx]; exact hx128)
      rw [hx] at hnx
      have hne : ((x.toNat : Int) == 65533) = false := by simp; omega
      clear hx
      go_wp2
      go_roundg g
      case measure => omega
      case rel => exact ⟨i + 1, by omega, rfl⟩

/-- A character beyond ASCII is in no ASCII text. -/
theorem indexRune_high (s : ByteArray) (r : Int) (w : World) (hs : s.size ≤ 100) (ha : ∀ b ∈ s.data.toList, b.toNat < 128) (h1 : 128 ≤ r) :
    Calls Try.prog 102 #[.string s, .int .i32 r] w fun e w' => e = .returned (.int .i64 (-1)) ∧ Below w.heap.size w w' := by
  by_cases h2 : r = 65533
  · subst h2
    exact indexRune_error s w ha
  · rcases hv : Utf8.valid r with _ | _
    · exact (indexRune_invalid s r w h1 h2 hv).mono fun e w' ⟨he, hw⟩ => ⟨he, hw ▸ Below.refl _ _⟩
    · exact (indexRune_valid s r w hs ha h1 h2 hv).mono fun e w' ⟨he, n, hw⟩ => ⟨he, hw ▸ below_drewN (Below.refl _ _) n⟩
theorem indexRune_ascii (s : ByteArray) (r : Int) (w : World) (h0 : 0 ≤ r) (h1 : r < 128) :
    Calls Try.prog 102 #[.string s, .int .i32 r] w fun e w' => e = .returned (.int .i64 (Lib.indexByte s.data.toList r.toNat.toUInt8)) ∧ w' = w := Any.strings_IndexRune_ascii Try.Lays_n152 s r w h0 h1
end Go.Proofs.Ytmlkmhonpmnenaa
