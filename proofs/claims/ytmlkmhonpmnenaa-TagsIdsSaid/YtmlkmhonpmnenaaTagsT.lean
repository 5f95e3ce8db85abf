import Derived.Test.YtmlkmhonpmnenaaTagsS
namespace Go.Proofs.Ytmlkmhonpmnenaa
open Go.RowKit

def rattrV (l : List UInt8) : Value := match attrP l with
  | some (n, v, r) => .tuple #[.agg #[.string ⟨n.toArray⟩, .string ⟨v.toArray⟩], .int .i64 ((l.length - r.length : Nat) : Int)]
  | none => .tuple #[.agg #[.string ⟨#[]⟩, .string ⟨#[]⟩], .int .i64 0]
theorem scanQ_stop {b : UInt8} {l : List UInt8} (h : (b == 60 || b == 62) = true) : scanQ (b :: l) = none := by simp [scanQ, h]
theorem scanQ_end {b : UInt8} {l : List UInt8} (h : (b == 60 || b == 62) = false) (h2 : (b == 34) = true) : scanQ (b :: l) = some ([], l) := by simp [scanQ, h, h2]
theorem scanQ_go {b : UInt8} {l : List UInt8} (h : (b == 60 || b == 62) = false) (h2 : (b == 34) = false) : scanQ (b :: l) = (scanQ l).map fun p => (b :: p.1, p.2) := by simp [scanQ, h, h2]
theorem eqB (c : UInt8) : ∀ b : UInt8, ((b.toNat : Int) == (c.toNat : Int)) = (b == c) := fun b => by
  rw [Bool.eq_iff_iff]; simp only [beq_iff_eq]
  constructor
  · intro h; apply UInt8.toNat_inj.1; omega
  · rintro rfl; rfl

set_option maxRecDepth 100000 in
set_option maxHeartbeats 4000000 in
theorem rattr_scan (s : ByteArray) (w : World) (hs : s.size ≤ 1073741824) (h : Lib.hasPrefix s.data.toList [32] = true)
    (h2 : 0 < nameN true true (s.data.toList.drop 1)) (h3 : Lib.hasPrefix ((s.data.toList.drop 1).drop (nameN true true (s.data.toList.drop 1))) [61, 34] = true) :
    Calls Try.prog 47 #[.string s] w fun e w' => e = .returned (rattrV s.data.toList) ∧ Below w.heap.size w w' := by
  obtain ⟨L, hL⟩ : ∃ L, s.data.toList = L := ⟨_, rfl⟩
  have hLs : L.length = s.size := by rw [← hL, Lib.size_eq]
  rw [hL] at h h2 h3 ⊢
  have hz' : s.toList.isEmpty = false := by
    rw [Lib.toList_data, hL]
    cases L with
    | nil => cases h
    | cons _ _ => rfl
  have hsz : 0 < s.size := by have := hasPrefix_len h; simp at this; omega
  have hget : ∀ i (hi : i < s.size), L[i]? = some (s[i]'hi) := fun i hi => by rw [← hL]; exact Lib.data_getElem? s i hi
  have hne : ((s[0].toNat : Int) != 32) = false := by
    have h0 := hget 0 hsz
    rw [hp_one] at h
    cases L with
    | nil => cases h
    | cons b q =>
      simp at h h0
      rw [← h0, h]; rfl
  have hsz' : (0 : Int) < (s.size : Int) := by omega
  have hsz1 : (1 : Int) ≤ (s.size : Int) := by omega
  obtain ⟨n, hn⟩ : ∃ n, nameN true true (L.drop 1) = n := ⟨_, rfl⟩
  have hv : rattrV L = match scanQ ((L.drop 1).drop n |>.drop 2) with
      | some (v, r) => .tuple #[.agg #[.string ⟨((L.drop 1).take n).toArray⟩, .string ⟨v.toArray⟩], .int .i64 ((L.length - r.length : Nat) : Int)]
      | none => .tuple #[.agg #[.string ⟨#[]⟩, .string ⟨#[]⟩], .int .i64 0] := by
    unfold rattrV
    rw [attrP_scan, if_pos ⟨h, h2, h3⟩, hn]
    rcases scanQ ((L.drop 1).drop n |>.drop 2) with _ | ⟨v, r⟩ <;> rfl
  rw [hn] at h2 h3
  have h3l := hasPrefix_len h3
  have hn3 : n + 3 ≤ s.size := by simp at h3l; omega
  obtain ⟨q, hq⟩ : ∃ q, L.drop (n + 3) = q := ⟨_, rfl⟩
  have hq' : ((L.drop 1).drop n).drop 2 = q := by rw [← hq, List.drop_drop, List.drop_drop]; congr 1; omega
  rw [hq'] at hv
  have hext : (s.extract 1 s.size).data.toList = L.drop 1 := by rw [Lib.extract_data, hL, List.take_of_length_le (by simp; omega)]
  have hext2 : (s.extract (1 + n) s.size).data.toList = (L.drop 1).drop n := by rw [Lib.extract_data, hL, List.take_of_length_le (by simp; omega), List.drop_drop]
  have HV := Lib.hid hv
  have HN := Lib.hid hn
  have HP := Lib.hid h3
  have HE := Lib.hid hext
  have HE2 := Lib.hid hext2
  have HG := Lib.hid hget
  have HQ := Lib.hid hq
  have HL := Lib.hid hL
  have HLS := Lib.hid hLs
  have hn1 : (1 : Int) + (n : Int) ≤ (s.size : Int) := by omega
  have hn0 : (0 : Int) ≤ 1 + (n : Int) := by omega
  have hnz : ((n : Int) == 0) = false := by simp; omega
  clear hv hn h3 hext hext2 hget hq hq' hL hLs h h3l
  go_enter Try.func47, Try.ntmps47
  go_wp2_with fail
  refine (rname_any true _ _ (by rw [Lib.size_eq, HE.out, List.length_drop, HLS.out]; omega)).mono ?_
  rw [HE.out, HN.out]
  rintro e w' ⟨rfl, rfl⟩
  go_wp2_with fail
  refine (begins_any _ _ _).mono ?_
  rw [HE2.out]
  rintro e w' ⟨rfl, rfl⟩
  rw [show (⟨#[61, 34]⟩ : ByteArray).data.toList = [61, 34] from rfl, HP.out]
  go_wp2_with fail
  go_loop [5] (fun s5 => ∃ i : Nat, n + 3 ≤ i ∧ i ≤ s.size ∧ s5 = .int .i64 i ∧ Hid (scanQ q = (scanQ (L.drop i)).map fun p => (q.take (i - (n + 3)) ++ p.1, p.2))) (fun s5 => s.size - (intOf s5).toNat)
  case atStart =>
    refine ⟨n + 3, Nat.le_refl _, hn3, by go_num, ?_⟩
    show _ = _
    rw [HQ.out, Nat.sub_self]
    rcases scanQ q with _ | ⟨v, r⟩ <;> rfl
  case round =>
    obtain ⟨i, hi1, hi2, rfl, HS⟩ := hrel
    by_cases hlt : i < s.size
    · obtain ⟨b, hb⟩ : ∃ b, s[i]'hlt = b := ⟨_, rfl⟩
      have hd : L.drop i = b :: L.drop (i + 1) := by
        have h1 := HG.out i hlt
        rw [hb] at h1
        have hiL : i < L.length := by rw [HLS.out]; exact hlt
        rw [List.drop_eq_getElem_cons hiL]
        congr 1
        rw [List.getElem?_eq_getElem hiL] at h1
        exact Option.some.inj h1
      have hqi : q[i - (n + 3)]? = some b := by
        have h1 := HG.out i hlt
        rw [hb] at h1
        rw [← HQ.out, List.getElem?_drop, show n + 3 + (i - (n + 3)) = i by omega]
        exact h1
      have hs1 := HS.out
      rw [hd] at hs1
      have HD := Lib.hid hd
      have HS1 := Lib.hid hs1
      have HQI := Lib.hid hqi
      have hsi : s[i]'hlt = b := hb
      have hli : (i : Int) < (s.size : Int) := by omega
      have q60 := eqB 60 b
      have q62 := eqB 62 b
      have q34 := eqB 34 b
      simp only [show ((60 : UInt8).toNat : Int) = 60 from rfl, show ((62 : UInt8).toNat : Int) = 62 from rfl, show ((34 : UInt8).toNat : Int) = 34 from rfl] at q60 q62 q34
      clear hs1 hd hqi HS hb
      cases e60 : b == 60
      · cases e62 : b == 62
        · cases e34 : b == 34
          · rw [e60] at q60
            rw [e62] at q62
            rw [e34] at q34
            have H3 := Lib.hid (show (b == 60 || b == 62) = false by rw [e60, e62]; rfl)
            have H4 := Lib.hid e34
            clear e60 e62 e34
            go_wp2
            go_round
            case rel =>
              refine ⟨i + 1, by omega, by omega, by go_num, ?_⟩
              show _ = _
              rw [HS1.out, scanQ_go H3.out H4.out, show i + 1 - (n + 3) = (i - (n + 3)) + 1 by omega, List.take_add_one, HQI.out]
              rcases scanQ (L.drop (i + 1)) with _ | ⟨v, r⟩
              · rfl
              · simp
            case measure => simp [intOf]; omega
          · rw [e60] at q60
            rw [e62] at q62
            rw [e34] at q34
            have hfin : rattrV L = .tuple #[.agg #[.string ⟨((L.drop 1).take n).toArray⟩, .string ⟨(q.take (i - (n + 3))).toArray⟩], .int .i64 ((i + 1 : Nat) : Int)] := by
              rw [HV.out, HS1.out, scanQ_end (show (b == 60 || b == 62) = false by rw [e60, e62]; rfl) e34]
              simp only [Option.map_some, List.append_nil]
              rw [show L.length - (L.drop (i + 1)).length = i + 1 by rw [List.length_drop, HLS.out]; omega]
            have hx1 : s.extract 1 (1 + n) = ⟨((L.drop 1).take n).toArray⟩ := by rw [Lib.extract_eq, HL.out, show 1 + n - 1 = n by omega]
            have hx2 : s.extract (n + 3) i = ⟨(q.take (i - (n + 3))).toArray⟩ := by rw [Lib.extract_eq, HL.out, HQ.out]
            have HF := Lib.hid hfin
            have HX1 := Lib.hid hx1
            have HX2 := Lib.hid hx2
            have b1 : (1 : Int) ≤ 1 + (n : Int) := by omega
            have b2 : (0 : Int) ≤ (n : Int) + 3 := by omega
            have b3 : (n : Int) + 3 ≤ (i : Int) := by omega
            clear e60 e62 e34 hfin hx1 hx2
            go_wp2
            go_region
            go_wp2
            refine bodyPost_ret (v := .tuple #[.agg #[.string (s.extract 1 (1 + n)), .string (s.extract (n + 3) i)], .int .i64 ((i : Int) + 1)]) (by simp [results, Try.results47, go_sem]) rfl ⟨by rw [HF.out, HX1.out, HX2.out]; rfl, ?_⟩
            exact (by repeat (first | with_reducible refine below_drewN ?_ _ | with_reducible refine Below.drew ?_ | ((with_reducible refine Below.alloc ?_ ?_ _); rotate_left; focus (first | exact Nat.le_refl _ | omega | (simp; done) | (simp; omega))) | ((with_reducible refine Below.setCell ?_ ?_ _); rotate_left; focus (first | exact Nat.le_refl _ | omega | (simp; done) | (simp; omega))) | with_reducible exact Below.refl _ _ | with_reducible assumption))
        · have hz : rattrV L = .tuple #[.agg #[.string ⟨#[]⟩, .string ⟨#[]⟩], .int .i64 0] := by rw [HV.out, HS1.out, scanQ_stop (show (b == 60 || b == 62) = true by rw [e60, e62]; rfl)]; rfl
          rw [e60] at q60
          rw [e62] at q62
          have HZ := Lib.hid hz
          clear e60 e62 hz
          go_wp2
          refine bodyPost_ret (v := .tuple #[.agg #[.string ⟨#[]⟩, .string ⟨#[]⟩], .int .i64 0]) (by simp [results, Try.results47, go_sem]) rfl ⟨by rw [HZ.out], ?_⟩
          exact (by repeat (first | with_reducible refine below_drewN ?_ _ | with_reducible refine Below.drew ?_ | ((with_reducible refine Below.alloc ?_ ?_ _); rotate_left; focus (first | exact Nat.le_refl _ | omega | (simp; done) | (simp; omega))) | ((with_reducible refine Below.setCell ?_ ?_ _); rotate_left; focus (first | exact Nat.le_refl _ | omega | (simp; done) | (simp; omega))) | with_reducible exact Below.refl _ _ | with_reducible assumption))
      · have hz : rattrV L = .tuple #[.agg #[.string ⟨#[]⟩, .string ⟨#[]⟩], .int .i64 0] := by rw [HV.out, HS1.out, scanQ_stop (show (b == 60 || b == 62) = true by rw [e60]; rfl)]; rfl
        rw [e60] at q60
        have HZ := Lib.hid hz
        clear e60 hz
        go_wp2
        refine bodyPost_ret (v := .tuple #[.agg #[.string ⟨#[]⟩, .string ⟨#[]⟩], .int .i64 0]) (by simp [results, Try.results47, go_sem]) rfl ⟨by rw [HZ.out], ?_⟩
        exact (by repeat (first | with_reducible refine below_drewN ?_ _ | with_reducible refine Below.drew ?_ | ((with_reducible refine Below.alloc ?_ ?_ _); rotate_left; focus (first | exact Nat.le_refl _ | omega | (simp; done) | (simp; omega))) | ((with_reducible refine Below.setCell ?_ ?_ _); rotate_left; focus (first | exact Nat.le_refl _ | omega | (simp; done) | (simp; omega))) | with_reducible exact Below.refl _ _ | with_reducible assumption))
    · have hz : rattrV L = .tuple #[.agg #[.string ⟨#[]⟩, .string ⟨#[]⟩], .int .i64 0] := by
        have : L.drop i = [] := List.drop_eq_nil_of_le (by rw [HLS.out]; omega)
        rw [HV.out, HS.out, this]; rfl
      have HZ := Lib.hid hz
      clear hz
      go_wp2
      refine bodyPost_ret (v := .tuple #[.agg #[.string ⟨#[]⟩, .string ⟨#[]⟩], .int .i64 0]) (by simp [results, Try.results47, go_sem]) rfl ⟨by rw [HZ.out], ?_⟩
      exact (by repeat (first | with_reducible refine below_drewN ?_ _ | with_reducible refine Below.drew ?_ | ((with_reducible refine Below.alloc ?_ ?_ _); rotate_left; focus (first | exact Nat.le_refl _ | omega | (simp; done) | (simp; omega))) | ((with_reducible refine Below.setCell ?_ ?_ _); rotate_left; focus (first | exact Nat.le_refl _ | omega | (simp; done) | (simp; omega))) | with_reducible exact Below.refl _ _ | with_reducible assumption))

theorem attrP_none {l : List UInt8} (h : ¬ (Lib.hasPrefix l [32] = true ∧ 0 < nameN true true (l.drop 1) ∧ Lib.hasPrefix ((l.drop 1).drop (nameN true true (l.drop 1))) [61, 34] = true)) : attrP l = none := by
  rw [attrP_scan, if_neg h]
theorem rattr_any (s : ByteArray) (w : World) (hs : s.size ≤ 1073741824) :
    Calls Try.prog 47 #[.string s] w fun e w' => e = .returned (rattrV s.data.toList) ∧ Below w.heap.size w w' := by
  cases h : Lib.hasPrefix s.data.toList [32]
  · have hv : rattrV s.data.toList = .tuple #[.agg #[.string ⟨#[]⟩, .string ⟨#[]⟩], .int .i64 0] := by
      rw [rattrV, attrP_none (by rw [h]; simp)]
    rw [hv]
    exact rattr_none0 s w hs h
  · by_cases h2 : 0 < nameN true true (s.data.toList.drop 1) ∧ Lib.hasPrefix ((s.data.toList.drop 1).drop (nameN true true (s.data.toList.drop 1))) [61, 34] = true
    · exact rattr_scan s w hs h h2.1 h2.2
    · have hv : rattrV s.data.toList = .tuple #[.agg #[.string ⟨#[]⟩, .string ⟨#[]⟩], .int .i64 0] := by
        rw [rattrV, attrP_none (fun h3 => h2 h3.2)]
      rw [hv]
      exact rattr_none1 s w hs h h2
end Go.Proofs.Ytmlkmhonpmnenaa
