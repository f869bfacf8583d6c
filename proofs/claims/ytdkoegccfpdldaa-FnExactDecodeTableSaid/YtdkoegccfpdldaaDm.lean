/- The table of a binary form at the program: the main way. Conditions: as each contract says. -/
import Derived.Test.YtdkoegccfpdldaaDk
import Derived.Test.YtdkoegccfpdldaaPg
import Derived.Deep.RegionHeld3
namespace Go.Proofs.Ytdkoegccfpdldaa
open Go.RowKit

theorem rows_short (s : ByteArray) (n : Nat) : ∀ i, i < (rowsOf s n).length → ((rowsOf s n).getD i []).length ≤ s.size := by
  intro i hi
  unfold rowsOf at hi ⊢
  rw [List.getD_eq_getElem?_getD, List.getElem?_eq_getElem hi]
  simp only [List.getElem_map, Option.getD_some]
  rw [numsOf_len, ByteArray.size_extract]
  omega
theorem nil_rows (s : ByteArray) : rowsOf s 0 = [] := rfl
theorem impl_end (s : ByteArray) (hsz : s.size = szOf s) (hb : 12 ≤ s.size) : (unOk (nibsIn s) (cntOf s) = false → ¬ (encOk (decT s) = true ∧ encS (decT s) = s)) ∧ (unOk (nibsIn s) (cntOf s) = true → unV (nibsIn s) (cntOf s) = unb (nibsIn s) (cntOf s)) ∧ (encS (decT s) = s → encOk (decT s) = true) := by
  refine ⟨fun h1 h2 => ?_, fun h => ?_, fun h => ?_⟩
  · rw [ok_of hsz h2.1 h2.2] at h1
    cases h1
  · rw [unV_yes h, unL, if_pos h, Int.toNat_natCast]
  · cases h2 : encOk (decT s) with
    | true => rfl
    | false =>
      rw [encS, if_neg (by rw [h2]; decide)] at h
      rw [← h] at hb
      have : (⟨#[]⟩ : ByteArray).size = 0 := rfl
      omega
set_option maxRecDepth 100000 in
set_option maxHeartbeats 4000000 in
theorem implDecMain (s : ByteArray) (w : World) (hs : s.size ≤ 1048576) (h : 12 ≤ s.size) (h2 : s.extract 0 4 = ⟨#[80, 68, 66, 49]⟩) (h3 : 7 + wdOf s ≤ s.size) (H4 : Hid (s.size = szOf s)) :
    Calls Try.prog 11 #[.string s] w (DecI s w) := by
  have h12 : ¬ (s.size : Int) < 12 := by omega
  have d0 : (0 : Int) ≤ 4 := by omega
  have d1 : (4 : Int) ≤ (s.size : Int) := by omega
  have d2 : (4 : Int) < (s.size : Int) := by omega
  have HC : Hid (decCode s = if ckStr s ≠ s.extract (szOf s - 4) s.size then 4 else if encOk (decT s) = true ∧ encS (decT s) = s then 0 else 5) := by
    unfold Hid
    rw [decCode, if_neg (by omega), if_neg (by simp [h2]), if_neg (by omega), if_neg (by have := H4.out; omega), if_neg (by have := H4.out; omega)]
  have hne := magic_yes h2
  obtain ⟨wd, n1, n2, cn, m, sz, N⟩ := nums_of s
  have hb4 : s[4].toNat = wd := by rw [← N.e1]; exact byteN_is s 4 (by omega)
  have c0 : (0 : Int) ≤ (wd : Int) := by omega
  have c1 : (wd : Int) ≤ 255 := by have := N.b1; omega
  rw [N.e1] at h3
  have c2 : ¬ (s.size : Int) < 5 + (wd : Int) + 2 := by omega
  have e1 : (0 : Int) ≤ 5 + (wd : Int) + 2 - 2 := by omega
  have e2 : 5 + (wd : Int) + 2 - 2 < (s.size : Int) := by omega
  have e3 : (0 : Int) ≤ 5 + (wd : Int) + 2 - 1 := by omega
  have e4 : 5 + (wd : Int) + 2 - 1 < (s.size : Int) := by omega
  have e5 : (0 : Int) ≤ 5 + (wd : Int) := by omega
  have e6 : 5 + (wd : Int) < (s.size : Int) := by omega
  have e7 : (0 : Int) ≤ 5 + (wd : Int) + 1 := by omega
  have e8 : 5 + (wd : Int) + 1 < (s.size : Int) := by omega
  have w1 : IntKind.i64.wrap (5 + (wd : Int)) = 5 + (wd : Int) := IntWalk.i64_in _ (by omega)
  have w2 : IntKind.i64.wrap (5 + (wd : Int) + 1) = 5 + (wd : Int) + 1 := IntWalk.i64_in _ (by omega)
  have w3 : IntKind.i64.wrap (5 + (wd : Int) + 2 - 1) = 5 + (wd : Int) + 1 := by rw [IntWalk.i64_in _ (by omega)]; omega
  have g1 : (s[(5 + (wd : Int)).toNat]'(by omega)).toNat = n1 := by
    rw [← N.k1, ← byteN_is s _ (by omega)]
    congr 2 <;> omega
  have g2 : (s[(5 + (wd : Int) + 1).toNat]'(by omega)).toNat = n2 := by
    rw [← N.k2, ← byteN_is s _ (by omega)]
    congr 2 <;> omega
  have y1 : (n1 : Int) ≤ 255 := by have := N.b2; omega
  have y2 : (n2 : Int) ≤ 255 := by have := N.b3; omega
  have y3 : (cn : Int) ≤ 65535 := by have := N.k3; omega
  have y4 : (m : Int) ≤ 16711425 := by have := N.b4; omega
  have w4 : IntKind.i64.wrap (n1 : Int) = n1 := IntWalk.i64_in _ (by omega)
  have w5 : IntKind.i64.wrap (n2 : Int) = n2 := IntWalk.i64_in _ (by omega)
  have w6 : IntKind.i64.wrap ((n1 : Int) * 256) = (n1 : Int) * 256 := IntWalk.i64_in _ (by omega)
  have w7 : IntKind.i64.wrap ((n1 : Int) * 256 + n2) = (cn : Int) := by have := N.k3; rw [IntWalk.i64_in _ (by omega)]; omega
  have w8 : (cn : Int) * (wd : Int) = (m : Int) := by rw [← N.e5]; exact (Int.natCast_mul _ _).symm
  obtain ⟨q, hq⟩ : ∃ q, szOf s - 4 = q := ⟨_, rfl⟩
  obtain ⟨hf, hhf⟩ : ∃ hf, (cn + 1) / 2 = hf := ⟨_, rfl⟩
  have hqv : 5 + wd + 2 + m + hf = q := by have := N.k4; have := N.e4; omega
  have w9 : ((cn : Int) + 1) / 2 = (hf : Int) := by omega
  have hsq : s.size = q + 4 := by have := N.k4; have := N.e4; have := H4.out; omega
  have c3 : ¬ (s.size : Int) < 5 + (wd : Int) + 2 + (m : Int) + (hf : Int) + 4 := by omega
  have c4 : ¬ 5 + (wd : Int) + 2 + (m : Int) + (hf : Int) + 4 < (s.size : Int) := by omega
  have q0 : (0 : Int) ≤ 5 + (wd : Int) + 2 + (m : Int) + (hf : Int) := by omega
  have q1 : 5 + (wd : Int) + 2 + (m : Int) + (hf : Int) ≤ (s.size : Int) := by omega
  have q2 : (5 + (wd : Int) + 2 + (m : Int) + (hf : Int)).toNat = q := by omega
  have q3 : IntKind.i64.wrap (5 + (wd : Int) + 2 + (m : Int) + (hf : Int)) = 5 + (wd : Int) + 2 + (m : Int) + (hf : Int) := IntWalk.i64_in _ (by omega)
  have HQ := Lib.hid hq
  have HHF := Lib.hid hhf
  have HQV := Lib.hid hqv
  have HSQ := Lib.hid hsq
  have HN := Lib.hid N
  have hqs : (s.extract 0 q).size ≤ 1048576 := by rw [ByteArray.size_extract]; omega
  have hcb := ck_bd (s.extract 0 q).data.toList
  obtain ⟨K, hK⟩ : ∃ K, cksum (s.extract 0 q).data.toList = K := ⟨_, rfl⟩
  have HSUM := Lib.hid (fun wx => implSum (s.extract 0 q) wx hqs)
  rw [hK] at HSUM hcb
  have HK := Lib.hid hK
  have HCK : Hid (ckStr s = strOfNums (bytesBy (numAt K 4) 4)) := by unfold Hid; rw [ckStr, HQ.out, HK.out]
  obtain ⟨ck, hck⟩ : ∃ ck, strOfNums (bytesBy (numAt K 4) 4) = ck := ⟨_, rfl⟩
  have HNUM : Hid (∀ wx, Calls Try.prog 26 #[.int .i64 K, .int .i64 4] wx fun e w' => e = .returned (.string ck) ∧ Below wx.heap.size wx w') := by unfold Hid; rw [← hck]; exact fun wx => numberOf K 4 wx (by decide)
  rw [hck] at HCK
  clear hck
  clear h2 hq hhf hqv hsq N hqs hK
  go_enter Try.func11, Try.ntmps11
  go_wp2_with fail
  go_quiet (fail)
  clear w1 w2 w3 w4 w5 w6 w7 g1 g2 hb4
  go_wp2_with fail
  go_region_with (first | (go_at_call 32; refine (HSUM.out _).mono ?_; rintro e wa ⟨rfl, rfl⟩) | (go_at_call 26; refine (HNUM.out _).mono ?_; rintro e wb ⟨rfl, hb1⟩))
  obtain ⟨wa, hwa⟩ : ∃ wa, (w.alloc (.cells #[.slice none 0 0, .slice none 0 0, .slice none 0 0] 29)).drewN (nq + 1) = wa := ⟨_, rfl⟩
  have hBa : Below w.heap.size w wa := by rw [← hwa]; exact (by repeat (first | exact Below.refl _ _ | assumption | refine Below.setCell ?_ (by first | omega | (simp <;> omega)) _ | refine Below.alloc ?_ (by first | omega | (simp <;> omega)) _ | refine Below.drew ?_ | refine belowDrewN ?_ _))
  have ra : wa.heap[w.heap.size]? = some (.cells #[.slice none 0 0, .slice none 0 0, .slice none 0 0] 29 (0, 0)) := by
    rw [← hwa]
    exact heap_alloc_new _ _
  rw [hwa] at hb1
  clear hwa
  have hB1 := belowStep hb1 hBa
  have HR0 := Lib.hid (rowB hb1 ra)
  clear hb1 hBa ra hcb HSUM HNUM
  by_cases hck : ck = s.extract q s.size
  rotate_left
  · have hneq : (!ck.toList == (s.extract q s.size).toList) = true := by rw [str_eq, decide_eq_false hck]; rfl
    have HC1 : Hid (decCode s = 4) := by unfold Hid; rw [HC.out, HCK.out, HQ.out, if_pos hck]
    rw [hneq]
    obtain ⟨p0, p1, p2, pf, -⟩ := row3 HR0.out
    have pf0 := pf 0
    have pf1 := pf 1
    have pf2 := pf 2
    clear hck pf hneq
    go_wp2_with fail
    refine bodyPost_ret (v := .tuple #[.agg #[.slice none 0 0, .slice none 0 0, .slice none 0 0], .int .i64 4]) (by simp [results, Try.results11, go_sem, p0, p1, p2]) rfl ?_
    exact DecI.bare HC1.out (by decide) (by repeat (first | exact Below.refl _ _ | assumption | refine Below.setCell ?_ (by first | omega | (simp <;> omega)) _ | refine Below.alloc ?_ (by first | omega | (simp <;> omega)) _ | refine Below.drew ?_ | refine belowDrewN ?_ _))
  have hneq : (!ck.toList == (s.extract q s.size).toList) = false := by rw [str_eq, decide_eq_true hck]; rfl
  rw [hneq]
  have HC1 : Hid (decCode s = if encOk (decT s) = true ∧ encS (decT s) = s then 0 else 5) := by unfold Hid; rw [HC.out, HCK.out, HQ.out, if_neg (fun h => h hck)]
  obtain ⟨p5, hp5⟩ : ∃ p5, 5 + wd = p5 := ⟨_, rfl⟩
  have hx5 : (s.extract 5 p5).size ≤ 1048576 := by rw [ByteArray.size_extract]; omega
  have hl5 : (numsOf (s.extract 5 p5)).length = wd := by rw [numsOf_len, ByteArray.size_extract]; omega
  obtain ⟨xs, hxs⟩ : ∃ xs, numsOf (s.extract 5 p5) = xs := ⟨_, rfl⟩
  have HB5 := Lib.hid (fun wx => implBytes (s.extract 5 p5) wx hx5)
  rw [hxs] at HB5 hl5
  have HXS := Lib.hid hxs
  have HL5 := Lib.hid hl5
  have HP5 := Lib.hid hp5
  clear hck hneq hx5 hl5 hxs HC HCK HK
  go_wp2_with fail
  rw [hp5]
  clear hp5
  refine (HB5.out _).mono ?_
  rintro e w1 ⟨v1, rfl, hF1, hb1⟩
  have hB2 := belowStep hb1 hB1
  have HR1 := Lib.hid (rowB hb1 HR0.out)
  obtain ⟨A1, k1, hk1, rfl, -⟩ := hF1.capped
  have HF1 := Lib.hid hF1
  have HU1 := Lib.hid hF1.under
  have hzw : w.heap.size < w1.heap.size := row_lt HR1.out
  have hzb : w.heap.size < wb.heap.size := row_lt HR0.out
  clear hF1 hb1 hB1 HR0
  go_wp2_with fail
  obtain ⟨w2, hw2⟩ : ∃ w2, w1.alloc (.cells #[.slice A1 xs.length k1, .slice none 0 0, .slice none 0 0] 29) = w2 := ⟨_, rfl⟩
  have hb2 : Below w1.heap.size w1 w2 := by rw [← hw2]; exact (by repeat (first | exact Below.refl _ _ | assumption | refine Below.setCell ?_ (by first | omega | (simp <;> omega)) _ | refine Below.alloc ?_ (by first | omega | (simp <;> omega)) _ | refine Below.drew ?_))
  have r2 : w2.heap[w1.heap.size]? = some (.cells #[.slice A1 xs.length k1, .slice none 0 0, .slice none 0 0] 29 (0, 0)) := by
    rw [← hw2]
    exact heap_alloc_new _ _
  have hz2 : w1.heap.size + 1 ≤ w2.heap.size := row_lt r2
  rw [hw2]
  clear hw2
  obtain ⟨T, hT⟩ : ∃ T, w1.heap.size = T := ⟨_, rfl⟩
  rw [hT] at r2 hz2 hb2 hzw ⊢
  rw [hT] at HU1
  have HT := Lib.hid hT
  clear hT
  have HR2 := Lib.hid r2
  have HB2 := Lib.hid hb2
  have HP2 := Lib.hid (PgAt.nil (T + 1) none w2 hz2)
  clear r2 hz2 hb2
  go_loopw [91] (fun i wr => ∃ (k : Nat) (v2 : Value) (ls : List (List Int)) (B : Nat → Nat), k ≤ cn ∧ i = .int .i64 k ∧ Hid (rowsOf s k = ls) ∧ Hid (wr.heap[T]? = some (.cells #[.slice A1 xs.length k1, v2, .slice none 0 0] 29 (0, 0))) ∧ Hid (PgAt (T + 1) none wr v2 ls B) ∧ Hid (Below T w1 wr)) (fun i _ => cn - (intOf i).toNat)
  case atStart => exact ⟨0, _, [], _, Nat.zero_le _, rfl, nil_rows s, HR2, HP2, HB2⟩
  case round =>
    obtain ⟨k, v2, ls, B, hk, rfl, HLS, HROW, HP, HB⟩ := hrel
    clear HR2 HP2 HB2
    obtain ⟨A2, k2, rfl, hk2, -⟩ := HP.out.shape
    have hll : ls.length ≤ 1048576 := by rw [← HLS.out, rowsOf_len]; omega
    have hTr : T < wr.heap.size := row_lt HROW.out
    obtain ⟨p0, p1, p2, pf, -⟩ := row3 HROW.out
    have pf1 := pf 1
    have pf2 := pf 2
    clear pf
    by_cases hlt : k < cn
    · obtain ⟨u, hu⟩ : ∃ u, k * wd = u := ⟨_, rfl⟩
      obtain ⟨u2, hu2⟩ : ∃ u2, (k + 1) * wd = u2 := ⟨_, rfl⟩
      have hu12 : u2 = u + wd := by rw [← hu, ← hu2, Nat.succ_mul]
      have hum : u2 ≤ m := by rw [← hu2, ← HN.out.e5]; exact Nat.mul_le_mul_right _ hlt
      have huI : (k : Int) * (wd : Int) = (u : Int) := by rw [← hu]; exact (Int.natCast_mul _ _).symm
      have hu2I : ((k : Int) + 1) * (wd : Int) = (u2 : Int) := by rw [← hu2]; exact (Int.natCast_mul _ _).symm
      obtain ⟨a, ha⟩ : ∃ a, 7 + wd + u = a := ⟨_, rfl⟩
      obtain ⟨b, hb⟩ : ∃ b, 7 + wd + u2 = b := ⟨_, rfl⟩
      have hxe : (s.extract a b).size ≤ 1048576 := by rw [ByteArray.size_extract]; omega
      obtain ⟨ys, hys⟩ : ∃ ys, numsOf (s.extract a b) = ys := ⟨_, rfl⟩
      have HCALL := Lib.hid (fun wx => implBytes (s.extract a b) wx hxe)
      rw [hys] at HCALL
      have HLN : Hid (rowsOf s (k + 1) = ls ++ [ys]) := by unfold Hid; rw [rowsOf_more, HLS.out, HN.out.e1, hu, hu2, ha, hb, hys]
      have r0 : (0 : Int) ≤ 5 + (wd : Int) + 2 + (u : Int) := by omega
      have r1 : 5 + (wd : Int) + 2 + (u : Int) ≤ 5 + (wd : Int) + 2 + (u2 : Int) := by omega
      have r3 : 5 + (wd : Int) + 2 + (u2 : Int) ≤ (s.size : Int) := by omega
      have t0 : (5 + (wd : Int) + 2 + (u : Int)).toNat = a := by omega
      have t1 : (5 + (wd : Int) + 2 + (u2 : Int)).toNat = b := by omega
      have z0 : IntKind.i64.wrap ((k : Int) + 1) = (k : Int) + 1 := IntWalk.i64_in _ (by omega)
      have z1 : IntKind.i64.wrap (u : Int) = (u : Int) := IntWalk.i64_in _ (by omega)
      have z2 : IntKind.i64.wrap (u2 : Int) = (u2 : Int) := IntWalk.i64_in _ (by omega)
      have z3 : IntKind.i64.wrap (5 + (wd : Int) + 2 + (u : Int)) = 5 + (wd : Int) + 2 + (u : Int) := IntWalk.i64_in _ (by omega)
      have z4 : IntKind.i64.wrap (5 + (wd : Int) + 2 + (u2 : Int)) = 5 + (wd : Int) + 2 + (u2 : Int) := IntWalk.i64_in _ (by omega)
      have k0 : (0 : Int) ≤ (k : Int) := by omega
      have k1' : (k : Int) < (cn : Int) := by omega
      have hPB := HP.out.2.2.1
      have HVB := Lib.hid (fun b hb => (HP.out.block b hb).2)
      have hTT : T < T + 1 := Nat.lt_succ_self T
      have hTr' : T + 1 ≤ wr.heap.size := hTr
      clear hu hu2 ha hb hys hxe q2 q3 hu12
      go_wp2_with fail
      go_region_law (first
        | (refine step_append_pg (by rfl) (.tmp 95) (.tmp 110) (by rfl) (T + 1) none B (.slice A2 ls.length k2) ls ys (.slice A3 ys.length k3) (by rfl) (hP3.al _) w3.heap.size (by rfl) (by simp) wr.heap.size w3.heap.size (hF3.alc _) hPB (by exact hb3.size) (by simp) hu3 HVB.out (fun b hb => by cases hb) hll ?_; intro v4 w4 B4 hP4 hg4 hb4; obtain ⟨A4, k4, he4, -, -⟩ := hP4.shape; obtain ⟨n4, hn4⟩ : ∃ n4, (ls ++ [ys]).length = n4 := ⟨_, rfl⟩; rw [hn4] at he4; subst he4; clear hn4
            ; have hbC4 : Below (T + 1) wr w4 := (hbC3.alloc hT3 _).trans hb4; have v4' := (hbC4.cell (p := ⟨T, 1, none⟩) hTT).trans p1; have f4' := (hbC4.frozen (p := ⟨T, 1, none⟩) hTT).trans pf1)
        | (go_simp; go_at_call 36; refine (HCALL.out _).mono ?_; rintro e w3 ⟨v3, rfl, hF3, hb3⟩; obtain ⟨A3, k3, -, rfl, -⟩ := hF3.capped; have hP3 := (PgAt.dr HP.out).below hb3; have hu3 := hF3.under
            ; have hbC3 : Below (T + 1) wr w3 := ((Below.refl _ _).drew).trans (hb3.mono hTr'); have hT3 : T + 1 ≤ w3.heap.size := Nat.le_trans hTr' hb3.size; have hT3s : T < w3.heap.size := hT3; have v3' := (hbC3.cell (p := ⟨T, 1, none⟩) hTT).trans p1))
      all_goals
        have hrow4 := rowSet (p := 1) (.slice A4 n4 k4) ((hbC4.block T hTT).trans HROW.out)
        have hP5 := hP4.set (a := ⟨T, 1, none⟩) hTT (.slice A4 n4 k4)
        have hB5 : Below T w1 (w4.setCell ⟨T, 1, none⟩ (.slice A4 n4 k4)) := (HB.out.trans (hbC4.mono (Nat.le_succ _))).setCell (Nat.le_refl _) _
        have HR5 := Lib.hid hrow4
        have HP5' := Lib.hid hP5
        have HB5' := Lib.hid hB5
        clear hg4 hb4 hP4 hbC4 v4' f4' hb3 hF3 hP3 hu3 hbC3 hT3 hT3s v3' hrow4 hP5 hB5 huI hu2I t0 t1 z0 z1 z2 z3 z4
        go_wp2_with fail
        go_roundw
        case rel => exact ⟨k + 1, _, ls ++ [ys], B4, by omega, by go_num, HLN, HR5, HP5', HB5'⟩
        case measure => simp [intOf]; omega
    · obtain rfl : k = cn := by omega
      have hrd : (7 + wd + m) ≤ q := by have := HQV.out; omega
      obtain ⟨ed, hed⟩ : ∃ ed, 7 + wd + m = ed := ⟨_, rfl⟩
      have t0 : (0 : Int) ≤ 5 + (wd : Int) + 2 + (m : Int) := by omega
      have t1 : 5 + (wd : Int) + 2 + (m : Int) ≤ 5 + (wd : Int) + 2 + (m : Int) + (hf : Int) := by omega
      have t2 : (5 + (wd : Int) + 2 + (m : Int)).toNat = ed := by omega
      obtain ⟨nb, hnb⟩ : ∃ nb, s.extract ed q = nb := ⟨_, rfl⟩
      have HNB : Hid (nibsIn s = nb) := by unfold Hid; rw [nibsIn, HN.out.e3, hed, HQ.out, hnb]
      have hns : nb.size ≤ 1048576 := by rw [← hnb, ByteArray.size_extract]; omega
      have HUN := Lib.hid (fun wx => unpacked4 nb (k : Int) wx hns)
      have hdl := unV_len nb (k : Int)
      obtain ⟨ds, hds⟩ : ∃ ds, unV nb (k : Int) = ds := ⟨_, rfl⟩
      obtain ⟨ok, hok⟩ : ∃ ok, unOk nb (k : Int) = ok := ⟨_, rfl⟩
      rw [hds, hok] at HUN
      rw [hds] at hdl
      have HDS := Lib.hid hds
      have HOK := Lib.hid hok
      have HEND := Lib.hid (impl_end s H4.out h)
      obtain ⟨M, hM⟩ : ∃ M, wr.heap.size = M := ⟨_, rfl⟩
      have HMB : Hid (B ls.length ≤ M) := by unfold Hid; rw [← hM]; exact HP.out.2.2.1
      have HMV : Hid (∀ b, (Value.slice A2 ls.length k2).ownBlock = some b → b < M) := by unfold Hid; rw [← hM]; exact fun b hb => (HP.out.block b hb).2
      have HM := Lib.hid hM
      clear hrd hed hns hds hok hM
      go_wp2_with fail
      clear hnb
      refine (HUN.out _).mono ?_
      rintro e w3 ⟨v3, rfl, hF3, hb3⟩
      obtain ⟨A3, k3, -, rfl, -⟩ := hF3.capped
      have hrow3 := rowB hb3 HROW.out
      obtain ⟨p0', p1', p2', pf', -⟩ := row3 hrow3
      have pf2' := pf' 2
      have hP3 := HP.out.below hb3
      have hB3 : Below T w1 w3 := HB.out.trans (hb3.mono (Nat.le_of_lt hTr))
      have HF3 : Hid (Fresh M w3 (.slice A3 ds.length k3) ds) := by unfold Hid; rw [← HM.out]; exact hF3
      have HU3 := Lib.hid hF3.under
      obtain ⟨w4, hw4⟩ : ∃ w4, w3.setCell ⟨T, 2, none⟩ (.slice A3 ds.length k3) = w4 := ⟨_, rfl⟩
      have hM3 : M ≤ w3.heap.size := by rw [← HM.out]; exact hb3.size
      have hTM : T < M := by rw [← HM.out]; exact hTr
      have HF4 : Hid (Fresh M w4 (.slice A3 ds.length k3) ds) := by rw [← hw4]; exact HF3.out.setCell (a := ⟨T, 2, none⟩) hTM _
      have HP4 : Hid (PgAt (T + 1) none w4 (.slice A2 ls.length k2) ls B) := by rw [← hw4]; exact hP3.set (a := ⟨T, 2, none⟩) (Nat.lt_succ_self T) _
      have HB4 : Hid (Below T w1 w4) := by rw [← hw4]; exact hB3.setCell (Nat.le_refl _) _
      have HROW4 : Hid (w4.heap[T]? = some (.cells #[.slice A1 xs.length k1, .slice A2 ls.length k2, .slice A3 ds.length k3] 29 (0, 0))) := by rw [← hw4]; exact rowSet (p := 2) _ hrow3
      have HZ4 : Hid (w4.heap.size = w3.heap.size) := by rw [← hw4]; unfold Hid; simp
      obtain ⟨c40, c41, c42, -, -⟩ := row3 HROW4.out
      have hS : ShortT ⟨xs, ls, ds⟩ := ⟨by have := HL5.out; show xs.length ≤ _; omega, hll, fun i hi => by show (ls.getD i []).length ≤ _; have h5 := rows_short s k i (by rw [HLS.out]; exact hi); rw [HLS.out] at h5; omega, by show ds.length ≤ _; omega⟩
      have hI1 : IntsAt w4 A1 xs := (HF1.out.below (by rw [HT.out]; exact HB4.out)).intsAt
      have hI2 : LAt w4 A2 ls := (HP4.out.fls HMB.out).lat
      have hI3 : IntsAt w4 A3 ds := HF4.out.intsAt
      have henc := implEnc A1 A2 A3 k1 k2 k3 ⟨xs, ls, ds⟩ w4 hI1 hI2 hI3 hS
      dsimp only at henc
      obtain ⟨E0, hE0⟩ : ∃ E0, encS ⟨xs, ls, ds⟩ = E0 := ⟨_, rfl⟩
      obtain ⟨E1, hE1⟩ : ∃ E1, encOk ⟨xs, ls, ds⟩ = E1 := ⟨_, rfl⟩
      rw [hE0, hE1] at henc
      have HENC := Lib.hid henc
      have HE0 := Lib.hid hE0
      have HE1 := Lib.hid hE1
      have HDT : Hid (ok = true → decT s = ⟨xs, ls, ds⟩) := fun ho => by
        have h5 := HEND.out.2.1
        rw [HN.out.e2, HNB.out, HOK.out, HDS.out] at h5
        rw [decT, HN.out.e1, HN.out.e2, HNB.out, HP5.out, HXS.out, HLS.out, ← h5 ho]
      have HNO : Hid (ok = false → decCode s = 5) := fun ho => by
        have h5 := HEND.out.1
        rw [HN.out.e2, HNB.out, HOK.out] at h5
        rw [HC1.out, if_neg (h5 ho)]
      clear p0 p1 p2 pf1 pf2 pf' hS hI1 hI2 hI3 henc hE0 hE1 hb3 hF3 hP3 hB3 hrow3 HUN HF3 HB HP HROW w8 w9 t2
      go_wp2_with fail
      clear hw4 p0' p1' p2' pf2' c40 c41 c42
      refine HENC.out.mono ?_
      rintro e w5 ⟨rfl, hb5⟩
      have hz45 : w3.heap.size ≤ w5.heap.size := by have := hb5.size; rw [HZ4.out] at this; exact this
      have hT4 : T ≤ w4.heap.size := Nat.le_of_lt (row_lt HROW4.out)
      have hB5 : Below T w1 w5 := HB4.out.trans (hb5.mono hT4)
      have hrow5 := rowB hb5 HROW4.out
      have hres5 := (hB5.block w.heap.size hzw).trans HR1.out
      have hBw5 : Below w.heap.size w w5 := hB2.trans (hB5.mono (Nat.le_of_lt hzw))
      have HF5 : Hid (Fresh M w5 (.slice A3 ds.length k3) ds) := HF4.out.below hb5
      have HP5' : Hid (PgAt (T + 1) none w5 (.slice A2 ls.length k2) ls B) := HP4.out.below hb5
      have HG5 : Hid (Fresh wb.heap.size w5 (.slice A1 xs.length k1) xs) := HF1.out.below (by rw [HT.out]; exact hB5)
      obtain ⟨q50, q51, q52, qf5, -⟩ := row3 hres5
      have qf50 := qf5 0
      have qf51 := qf5 1
      have qf52 := qf5 2
      obtain ⟨t50, t51, t52, -, -⟩ := row3 hrow5
      have HRES := Lib.hid hres5
      have HBW5 := Lib.hid hBw5
      have hneT : w.heap.size ≠ T := by omega
      have hneT' : T ≠ w.heap.size := by omega
      clear qf5 hres5 hrow5 hB5 hb5 HENC hB2 hBw5
      cases ok with
      | false =>
        have HC5 := Lib.hid (HNO.out rfl)
        go_wp2_with fail
        refine bodyPost_ret (v := .tuple #[.agg #[.slice none 0 0, .slice none 0 0, .slice none 0 0], .int .i64 5]) (by simp [results, Try.results11, go_sem, q50, q51, q52]) rfl ?_
        exact DecI.bare HC5.out (by decide) (((HBW5.out.setCell (p := ⟨w.heap.size, 0, none⟩) (Nat.le_refl _) _).setCell (p := ⟨w.heap.size, 1, none⟩) (Nat.le_refl _) _).setCell (p := ⟨w.heap.size, 2, none⟩) (Nat.le_refl _) _)
      | true =>
        have HD := Lib.hid (HDT.out rfl)
        by_cases he : E0 = s
        · have hstr : (!E0.toList == s.toList) = false := by rw [str_eq, decide_eq_true he]; rfl
          have HC0 : Hid (decCode s = 0) := by
            have h5 := HEND.out.2.2
            rw [HD.out, HE0.out] at h5
            rw [Hid, HC1.out, if_pos]
            rw [HD.out, HE0.out]
            exact ⟨h5 he, he⟩
          have HDO : Hid (decOf s = ⟨xs, ls, ds⟩) := by rw [Hid, decOf, if_pos HC0.out, HD.out]
          clear he
          go_wp2_with fail
          have r1 := rowSet (p := 0) (.slice A1 xs.length k1) HRES.out
          have r2 := rowSet (p := 1) (.slice A2 ls.length k2) r1
          have r3 := rowSet (p := 2) (.slice A3 ds.length k3) r2
          obtain ⟨z, hz⟩ : ∃ z, ((w5.setCell ⟨w.heap.size, 0, none⟩ (.slice A1 xs.length k1)).setCell ⟨w.heap.size, 1, none⟩ (.slice A2 ls.length k2)).setCell ⟨w.heap.size, 2, none⟩ (.slice A3 ds.length k3) = z := ⟨_, rfl⟩
          have hbz : Below w.heap.size w z := by
            rw [← hz]
            exact ((HBW5.out.setCell (p := ⟨w.heap.size, 0, none⟩) (Nat.le_refl _) _).setCell (p := ⟨w.heap.size, 1, none⟩) (Nat.le_refl _) _).setCell (p := ⟨w.heap.size, 2, none⟩) (Nat.le_refl _) _
          have hzz : z.heap.size = w5.heap.size := by rw [← hz]; simp
          have hT1 : w.heap.size < T + 1 := by omega
          have hwM : w.heap.size < M := by omega
          have f1 : Fresh wb.heap.size z (.slice A1 xs.length k1) xs := by
            rw [← hz]
            exact ((HG5.out.setCell (a := ⟨w.heap.size, 0, none⟩) hzb _).setCell (a := ⟨w.heap.size, 1, none⟩) hzb _).setCell (a := ⟨w.heap.size, 2, none⟩) hzb _
          have f2 : PgAt (T + 1) none z (.slice A2 ls.length k2) ls B := by
            rw [← hz]
            exact ((HP5'.out.set (a := ⟨w.heap.size, 0, none⟩) hT1 _).set (a := ⟨w.heap.size, 1, none⟩) hT1 _).set (a := ⟨w.heap.size, 2, none⟩) hT1 _
          have f3 : Fresh M z (.slice A3 ds.length k3) ds := by
            rw [← hz]
            exact ((HF5.out.setCell (a := ⟨w.heap.size, 0, none⟩) hwM _).setCell (a := ⟨w.heap.size, 1, none⟩) hwM _).setCell (a := ⟨w.heap.size, 2, none⟩) hwM _
          rw [hz] at r3 ⊢
          obtain ⟨y0, y1, y2, -, -⟩ := row3 (a := .slice A1 xs.length k1) (b := .slice A2 ls.length k2) (c := .slice A3 ds.length k3) r3
          clear hz r1 r2 r3
          refine bodyPost_ret (v := .tuple #[.agg #[.slice A1 xs.length k1, .slice A2 ls.length k2, .slice A3 ds.length k3], .int .i64 0]) (by simp [results, Try.results11, go_sem, y0, y1, y2]) rfl ?_
          unfold DecI
          rw [HDO.out, HC0.out]
          exact ⟨A1, k1, A2, k2, A3, k3, T + 1, M, rfl, ⟨f1.mono (Nat.le_of_lt hzb), fun b hb => Nat.lt_succ_of_lt (HU1.out b hb), f2.fls HMB.out, fun g off s' e => HMV.out g (by rw [e]; rfl), f3, fun b hb => by have := HU3.out b hb; omega, by omega, by omega, by omega⟩, hbz⟩
        · have hstr : (!E0.toList == s.toList) = true := by rw [str_eq, decide_eq_false he]; rfl
          have HC5 : Hid (decCode s = 5) := by
            rw [Hid, HC1.out, if_neg]
            rw [HD.out, HE0.out]
            exact fun h => he h.2
          clear he
          go_wp2_with fail
          refine bodyPost_ret (v := .tuple #[.agg #[.slice none 0 0, .slice none 0 0, .slice none 0 0], .int .i64 5]) (by simp [results, Try.results11, go_sem, q50, q51, q52]) rfl ?_
          exact DecI.bare HC5.out (by decide) (((HBW5.out.setCell (p := ⟨w.heap.size, 0, none⟩) (Nat.le_refl _) _).setCell (p := ⟨w.heap.size, 1, none⟩) (Nat.le_refl _) _).setCell (p := ⟨w.heap.size, 2, none⟩) (Nat.le_refl _) _)
theorem implDec (s : ByteArray) (w : World) (hs : s.size ≤ 1048576) : Calls Try.prog 11 #[.string s] w (DecI s w) := by
  by_cases h : s.size < 12
  · exact implDec12 s w h
  by_cases h2 : s.extract 0 4 = ⟨#[80, 68, 66, 49]⟩
  rotate_left
  · exact implDecMagic s w (by omega) h2
  by_cases h3 : s.size < 7 + wdOf s
  · exact implDecHead s w hs (by omega) h2 h3
  by_cases h4 : s.size = szOf s
  · exact implDecMain s w hs (by omega) h2 (by omega) h4
  · exact implDecLens s w hs (by omega) h2 (by omega) h4
end Go.Proofs.Ytdkoegccfpdldaa
