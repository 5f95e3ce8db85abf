import Derived.Test.YtmlkmhonpmnenaaTagsX
namespace Go.Proofs.Ytmlkmhonpmnenaa
open Go.RowKit

theorem idsT_byte (b : UInt8) (ts : List Tok) : idsT (.inr b :: ts) = idsT ts := rfl
theorem idsT_tag (T : TagP) (ts : List Tok) : idsT (.inl T :: ts) = idIds T.attrs ++ idsT ts := rfl
theorem ids_step {l : List UInt8} {T : TagP} {n : Nat} (h0 : l ≠ []) (hr : readP l = (T, n)) : idsT (toks l) = idIds T.attrs ++ idsT (toks (l.drop (max n 1))) := by
  by_cases hn : n = 0
  · have hc := readP_cnt l
    rw [hr] at hc
    have hT : T.attrs = [] := List.eq_nil_of_length_eq_zero (by simp at hc; omega)
    rcases l with _ | ⟨b, r⟩
    · exact absurd rfl h0
    · rw [toks_byte (by rw [hr]; exact hn), idsT_byte, hT, hn]; rfl
  · rw [toks_tag h0 (by rw [hr]; exact hn), idsT_tag, hr, show max n 1 = n by omega]

set_option maxRecDepth 100000 in
set_option maxHeartbeats 8000000 in
theorem rids_any (s : ByteArray) (w : World) (hs : s.size ≤ 1073741824) :
    Calls Try.prog 22 #[.string s] w fun e w' => ∃ A c, e = .returned (.slice A (idsT (toks s.data.toList)).length c) ∧
      w'.ownsRow w.heap.size 9 1 (.slice A (idsT (toks s.data.toList)).length c) (idsT (toks s.data.toList)).length (strCells (idsT (toks s.data.toList))) ∧ Below w.heap.size w w' := by
  obtain ⟨i0, hi0, iz, isz, iby⟩ := info_parts info_str
  obtain ⟨L, hL⟩ : ∃ L, idsT (toks s.data.toList) = L := ⟨_, rfl⟩
  rw [hL]
  have HL := Lib.hid hL
  clear hL
  go_enter Try.func22, Try.ntmps22
  go_wp2_with fail
  go_loopw [0, 3] (fun s0 s3 wr => ∃ (sr : ByteArray) (out : List (List UInt8)) (A : Option Addr) (c : Nat), s0 = .string sr ∧ s3 = .slice A out.length c ∧ out.length + sr.size ≤ s.size ∧ Hid (L = out ++ idsT (toks sr.data.toList)) ∧
      wr.ownsRow w.heap.size 9 1 (.slice A out.length c) out.length (strCells out) ∧ Below w.heap.size w wr) (fun s0 _ _ => match s0 with | .string s => s.size | _ => 0)
  case atStart => exact ⟨s, [], none, 0, rfl, rfl, by show 0 + s.size ≤ s.size; omega, HL.out.symm, World.ownsRow_nil _ _ _ _, Below.refl _ _⟩
  case round =>
    obtain ⟨sr, out, A, c, rfl, rfl, hsz, hat, hrow, hB⟩ := hrel
    by_cases he : sr.size = 0
    · obtain ⟨hd, hz⟩ := ba_empty he
      have hout : L = out := by rw [hat.out, hd, toks_nil]; simp [idsT]
      have HO := Lib.hid hout
      clear hat hd hout he
      go_wp2
      go_ret
      exact ⟨A, c, by rw [HO.out]; rfl, by rw [HO.out]; exact hrow, hB⟩
    · obtain ⟨b, r, hbr, hz, hget, hd1⟩ := ba_split he
      obtain ⟨⟨nm, en, vd, ps⟩, n, hr⟩ : ∃ T n, readP sr.data.toList = (T, n) := ⟨_, _, rfl⟩
      have hnl := readP_le sr.data.toList
      have hcn := readP_cnt sr.data.toList
      rw [hr, ← Lib.size_eq] at hnl
      rw [hr] at hcn
      have hpsn : ps.length ≤ n := hcn
      have hnl' : n ≤ sr.size := hnl
      have h1 := hat.out
      rw [ids_step (by rw [hbr]; simp) hr] at h1
      have hwl := hB.size
      have HR := Lib.hid (rread_T sr wr (by omega) _ n hr)
      have H1 := Lib.hid h1
      clear h1 hat hbr hr hd1 hget hcn hnl
      go_wp2_with fail
      refine HR.out.mono ?_
      rintro e w2 ⟨A2, c2, rfl, hown, hb⟩
      have hrow2 := own_keep hrow hb
      have hB2 : Below w.heap.size w w2 := hB.trans (hb.mono hB.size)
      have hown2 := own_base_le hown (Nat.zero_le _)
      have hsB := hB2.size
      clear hb hown HR hrow hB
      go_wp2_with fail
      go_loopw [3, 6] (fun s3 s6 wq => ∃ (k : Nat) (ys : List (List UInt8)) (A' : Option Addr) (c' : Nat), s3 = .slice A' ys.length c' ∧ s6 = .int .i64 k ∧ k ≤ ps.length ∧ ys.length ≤ out.length + k ∧ Hid (ys = out ++ idIds (ps.take k)) ∧
          wq.heap[w2.heap.size]? = some (.cells #[.string ⟨nm.toArray⟩, .bool en, .bool vd, .slice A2 ps.length c2] 28 (0, 0)) ∧
          wq.ownsRow 0 71 2 (.slice A2 ps.length c2) ps.length (pairCells ps) ∧ wq.ownsRow w.heap.size 9 1 (.slice A' ys.length c') ys.length (strCells ys) ∧ Below w.heap.size w wq ∧ w2.heap.size < wq.heap.size)
        (fun _ s6 _ => ps.length - (intOf s6).toNat)
      case atStart => exact ⟨0, out, A, c, rfl, rfl, Nat.zero_le _, Nat.le_refl _, by show _ = _; simp [idIds], heap_alloc_new w2 _, hown2.alloc _, hrow2.alloc _, (by repeat (first | with_reducible refine below_drewN ?_ _ | with_reducible refine Below.drew ?_ | ((with_reducible refine Below.alloc ?_ ?_ _); rotate_left; focus (first | exact Nat.le_refl _ | omega | (simp; done) | (simp; omega))) | ((with_reducible refine Below.setCell ?_ ?_ _); rotate_left; focus (first | exact Nat.le_refl _ | omega | (simp; done) | (simp; omega))) | with_reducible exact Below.refl _ _ | with_reducible assumption)), by simp⟩
      case round =>
        obtain ⟨k, ys, A', c', rfl, rfl, hk, hyl, HYS, hbx, hrp, hro, hBq, hsq⟩ := hrel
        obtain ⟨d0, d1, d2, d3, g0, g1, g2, g3⟩ := blk4 hbx
        by_cases hlt2 : k < ps.length
        · obtain ⟨p, hp⟩ : ∃ p, ps[k]? = some p := ⟨ps[k], List.getElem?_eq_getElem hlt2⟩
          obtain ⟨e1, e2⟩ := pairCells_at _ _ _ hp
          obtain ⟨g, c1, hv, hg⟩ := own_some hrp (by omega)
          obtain ⟨rfl, rfl⟩ : A2 = some ⟨g, 0, none⟩ ∧ c2 = c1 := by injection hv with h1 _ h2; exact ⟨h1, h2⟩
          have q0 := (hrp.cellAt (k * 2) (by omega)).trans e1
          have q1 := (hrp.cellAt (k * 2 + 1) (by omega)).trans e2
          have htk : idIds (ps.take (k + 1)) = idIds (ps.take k) ++ (if p.1 == [105, 100] then [p.2] else []) := by
            rw [List.take_add_one, hp]; exact idIds_snoc _ _
          have HTK := Lib.hid htk
          clear hv htk e1 e2
          have hbl : (ys.length + 1) * 16 ≤ 140737488355328 := by omega
          rcases hid : p.1 == [105, 100] with _ | _
          · have HID := Lib.hid hid
            go_wp2_with fail
            go_roundw
            case rel => exact ⟨k + 1, ys, A', c', rfl, by go_num, by omega, by omega, by show _ = _; rw [HTK.out, HID.out]; simp only [Bool.false_eq_true, if_false, List.append_nil]; exact HYS.out, hbx, hrp, hro, hBq, hsq⟩
            case measure => simp [intOf]; omega
          · have HID := Lib.hid hid
            go_wp2_with (at_builtin; refine wpList_append_own _ rfl _ _ 35 rfl w.heap.size 9 i0 _ 1 16 Try.underlying35 hi0 iz isz iby rfl (by decide) _ _ _ rfl (hro.alloc _) ⟨wr.heap.size, 0, none⟩ 1 1 [.string ⟨p.2.toArray⟩] rfl rfl ?c1 ?c2 ?c3 ?c4 ?c5 ?_)
            case c1 =>
              intro j u hj
              match j, hj with
              | 0, hj => simp at hj; subst hj; simp [go_sem]
            case c2 => intro u hu; simp at hu; subst hu; rfl
            case c3 => simp only [maxLen]; omega
            case c4 => exact hbl
            case c5 => simp; omega
            intro v' w1 hown1 hgrow _
            obtain ⟨g', c1', rfl, hg'⟩ := own_some hown1 (by omega)
            have hbx1 := (hgrow.block w2.heap.size (by simp; omega) (fun e => own_box_ne hro hbx (by decide) e.symm)).trans ((Below.heap_alloc _ _ _ (by omega)).trans hbx)
            have hr1 := (hrp.alloc (.cells #[.string ⟨p.2.toArray⟩] 9)).kept hgrow (own_ne hrp hro (by decide))
            have hsz1 : w2.heap.size < w1.heap.size := by have := hgrow.size; simp at this; omega
            have hB1 : Below w.heap.size w w1 := Below.grown (w := (wr.alloc (.cells #[.string ⟨p.2.toArray⟩] 9))) (by repeat (first | with_reducible refine below_drewN ?_ _ | with_reducible refine Below.drew ?_ | ((with_reducible refine Below.alloc ?_ ?_ _); rotate_left; focus (first | exact Nat.le_refl _ | omega | (simp; done) | (simp; omega))) | ((with_reducible refine Below.setCell ?_ ?_ _); rotate_left; focus (first | exact Nat.le_refl _ | omega | (simp; done) | (simp; omega))) | with_reducible exact Below.refl _ _ | with_reducible assumption)) hgrow (by simp; omega) (fun j hj => by have := (hro.lt j hj).1; omega)
            clear hgrow hro hrp hbx q0 q1 d0 d1 d2 d3 g0 g1 g2 g3 hBq
            go_wp2
            go_roundw
            case rel =>
              refine ⟨k + 1, ys ++ [p.2], some ⟨g', 0, none⟩, c1', by simp, by go_num, by omega, by simp; omega, ?_, hbx1, hr1, ?_, hB1, hsz1⟩
              · show _ = _
                rw [HTK.out, HID.out, HYS.out]
                simp
              · simp only [List.length_append, List.length_cons, List.length_nil, strCells, List.map_append]; exact hown1
            case measure => simp [intOf]; omega
        · obtain rfl : k = ps.length := by omega
          have hys := HYS.out
          rw [List.take_length] at hys
          have hidl := idIds_len ps
          have hyl2 : ys.length ≤ out.length + ps.length := hyl
          have h2 : L = ys ++ idsT (toks (sr.data.toList.drop (max n 1))) := by rw [H1.out, hys, List.append_assoc]
          have hmx : max n 1 ≤ sr.size := by omega
          have hyz : ys.length + (sr.size - max n 1) ≤ s.size := by omega
          obtain ⟨m, hm⟩ : ∃ m, max n 1 = m := ⟨_, rfl⟩
          rw [hm] at h2 hmx hyz
          have hmi : max (n : Int) 1 = (m : Int) := by omega
          have hm1 : 1 ≤ m := by omega
          have H2 := Lib.hid h2
          have HD := Lib.hid (ba_drop sr m)
          clear h2 hys HYS H1
          go_wp2_with fail
          go_roundw
          case rel =>
            refine ⟨_, ys, A', c', rfl, rfl, ?_, ?_, hro, hBq⟩
            · simp; omega
            · show _ = _
              rw [HD.out, H2.out]
          case measure => simp; omega
end Go.Proofs.Ytmlkmhonpmnenaa
