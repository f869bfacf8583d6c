/- The table of a binary form at the reference: the main way. Conditions: as each contract says. -/
import Derived.Test.YtdkoegccfpdldaaDs
import Derived.Test.YtdkoegccfpdldaaDm
namespace Go.Proofs.Ytdkoegccfpdldaa
open Go.RowKit

theorem PgAt.step {lo : Nat} {z z' : Option Nat} {w w' : World} {v : Value} {ls : List (List Int)} {B : Nat → Nat} (h : PgAt lo z w v ls B) (hg : w.grownBy w' z) (hz : z' = z ∨ z' = some w.heap.size) : PgAt lo z' w' v ls B := by
  have hblk := h.block
  rcases hz with rfl | rfl
  · exact h.grown hg (fun g e => .inr e)
  obtain ⟨⟨cs, h1, h2⟩, h3, h4, h5, h6⟩ := h
  refine ⟨⟨cs, World.ownsRow.kept h1 hg ?_, fun j hj => ?_⟩, h3, Nat.le_trans h4 hg.size, h5, fun b hb e => ?_⟩
  · cases hv : v.ownBlock with
    | none => exact .inl rfl
    | some b => exact .inr (fun e => h6 b hv e.symm)
  · obtain ⟨u, e, hu, hs⟩ := h2 j hj
    refine ⟨u, e, World.ownsRow.kept hu hg ?_, fun b hb => ⟨(hs b hb).1, (hs b hb).2.1, fun e2 => ?_⟩⟩
    · cases hv : u.ownBlock with
      | none => exact .inl rfl
      | some b => exact .inr (fun e => (hs b hv).2.2 e.symm)
    · have := (World.ownsRow.lt hu b hb).2
      injection e2 with e2
      omega
  · have := (hblk b hb).2
    injection e with e
    omega
theorem append_z {w : World} {ops : Array Oper} {rest : List Oper} {o : Oper} {a : Act} {Q : Exit → Act → World → Prop} (hgd : o.guard = none) (s x : Operand)
    (hop : o.op = Op.call { callee := Callee.builtin Builtin.append, args := #[s, x], argTypes := #[22, 22] })
    (B : Nat) (v : Value) (xs : List Int) (n : Int) (hs : a.eval s = v) (hown : Fresh B w v xs) (g : Nat) (hx : a.eval x = .slice (some ⟨g, 0, none⟩) 1 1)
    (hcell : w.cell? ⟨g, 0, none⟩ = some (.int .i64 n)) (hl : xs.length ≤ 1048576) (hB : B ≤ w.heap.size)
    (h : ∀ v' w', Fresh B w' v' (xs ++ [n]) → w.grownBy w' v.ownBlock → (v'.ownBlock = v.ownBlock ∨ v'.ownBlock = some w.heap.size) → Below B w w' → wpList Try.prog ops Q rest (a.put o.dst v') w') : wpList Try.prog ops Q (o :: rest) a w := by
  refine wpList_plain hgd fun K hK => ?_
  obtain ⟨i0, hi, hz0, hz1, hz2⟩ := info_parts intInfo
  obtain ⟨v', w', hr, hown', hgrow, -, hat⟩ := run_append_own_at (P := Try.prog) w B 22 o.type 2 i0 (.int .i64 0) 1 8 Try.underlying22 hi hz0 hz1 hz2 rfl (by decide) v xs.length (xs.map (Value.int .i64)) hown ⟨g, 0, none⟩ 1 1 [.int .i64 n] rfl
    (by intro j u2 hj; match j, hj with
        | 0, hj => simp at hj; subst hj; simpa [Addr.add] using hcell)
    (by intro u2 hu2; simp at hu2; subst hu2; rfl) (by unfold maxLen; omega) (by omega) hB
  have hbel : Below B w w' := (Below.refl _ _).grown hgrow hB hown.block
  unfold Oper.wp execOp
  simp only [hop, resolve, invoke, builtin, Sem.run_bind, Sem.run_pure, Result.andThen_ok, List.map_toArray, List.map_cons, List.map_nil, hs, hx, hr]
  exact hK _ _ (h v' w' (by simpa [Fresh] using hown') hgrow hat hbel)
theorem byte_in (s : ByteArray) (a b j : Nat) (h1 : a + j < b) (h2 : b ≤ s.size) : byteAt (s.extract a b) j = (byteN s (a + j) : Int) := by
  have h3 : j < (s.extract a b).size := by rw [ByteArray.size_extract]; omega
  rw [byteAt_is _ j h3, ← byteN_is s (a + j) (by omega)]
  congr 2
  exact ByteArray.getElem_extract h3
set_option maxRecDepth 100000 in
set_option maxHeartbeats 4000000 in
theorem specDecMain (s : ByteArray) (w : World) (hs : s.size ≤ 1048576) (h : 12 ≤ s.size) (h2 : s.extract 0 4 = ⟨#[80, 68, 66, 49]⟩) (h3 : 7 + wdOf s ≤ s.size) (H4 : Hid (s.size = szOf s)) :
    Calls Try.prog 10 #[.string s] w (DecS s w) := by
  have h12 : ¬ (s.size : Int) < 12 := by omega
  have d0 : (0 : Int) ≤ 4 := by omega
  have d1 : (4 : Int) ≤ (s.size : Int) := by omega
  have d2 : (4 : Int) < (s.size : Int) := by omega
  have HC : Hid (decCode s = if ckStr s ≠ s.extract (szOf s - 4) s.size then 4 else if encOk (decT s) = true ∧ encS (decT s) = s then 0 else 5) := by
    unfold Hid
    rw [decCode, if_neg (by omega), if_neg (by simp [h2]), if_neg (by omega), if_neg (by have := H4.out; omega), if_neg (by have := H4.out; omega)]
  have hne := magic_yes h2
  obtain ⟨wd, n1, n2, cn, m, sz, N⟩ := nums_of s
  have hb4 : s[4].toNat = wd := by rw [← N.e1]; exact byteN_is s 4 (by omega)
  have c0 : (0 : Int) ≤ (wd : Int) := by omega
  have c1 : (wd : Int) ≤ 255 := by have := N.b1; omega
  rw [N.e1] at h3
  have c2 : ¬ (s.size : Int) < 5 + (wd : Int) + 2 := by omega
  have e5 : (0 : Int) ≤ 5 + (wd : Int) := by omega
  have e6 : 5 + (wd : Int) < (s.size : Int) := by omega
  have e7 : (0 : Int) ≤ 6 + (wd : Int) := by omega
  have e8 : 6 + (wd : Int) < (s.size : Int) := by omega
  have w1 : IntKind.i64.wrap (5 + (wd : Int)) = 5 + (wd : Int) := IntWalk.i64_in _ (by omega)
  have w2 : IntKind.i64.wrap (6 + (wd : Int)) = 6 + (wd : Int) := IntWalk.i64_in _ (by omega)
  have g1 : (s[(5 + (wd : Int)).toNat]'(by omega)).toNat = n1 := by
    rw [← N.k1, ← byteN_is s _ (by omega)]
    congr 2 <;> omega
  have g2 : (s[(6 + (wd : Int)).toNat]'(by omega)).toNat = n2 := by
    rw [← N.k2, ← byteN_is s _ (by omega)]
    congr 2 <;> omega
  have y1 : (n1 : Int) ≤ 255 := by have := N.b2; omega
  have y2 : (n2 : Int) ≤ 255 := by have := N.b3; omega
  have y3 : (cn : Int) ≤ 65535 := by have := N.k3; omega
  have y4 : (m : Int) ≤ 16711425 := by have := N.b4; omega
  have w4 : IntKind.i64.wrap (n1 : Int) = n1 := IntWalk.i64_in _ (by omega)
  have w5 : IntKind.i64.wrap (n2 : Int) = n2 := IntWalk.i64_in _ (by omega)
  have w6 : IntKind.i64.wrap ((n1 : Int) * 256) = (n1 : Int) * 256 := IntWalk.i64_in _ (by omega)
  have w7 : IntKind.i64.wrap ((n1 : Int) * 256 + n2) = (cn : Int) := by have := N.k3; rw [IntWalk.i64_in _ (by omega)]; omega
  have w8 : (cn : Int) * (wd : Int) = (m : Int) := by rw [← N.e5]; exact (Int.natCast_mul _ _).symm
  obtain ⟨q, hq⟩ : ∃ q, szOf s - 4 = q := ⟨_, rfl⟩
  obtain ⟨hf, hhf⟩ : ∃ hf, (cn + 1) / 2 = hf := ⟨_, rfl⟩
  have hqv : 7 + wd + m + hf = q := by have := N.k4; have := N.e4; omega
  have w9 : ((cn : Int) + 1) / 2 = (hf : Int) := by omega
  have hsq : s.size = q + 4 := by have := N.k4; have := N.e4; have := H4.out; omega
  have c3 : ¬ (s.size : Int) < 7 + (wd : Int) + (m : Int) + (hf : Int) + 4 := by omega
  have c4 : ¬ 7 + (wd : Int) + (m : Int) + (hf : Int) + 4 < (s.size : Int) := by omega
  have q0 : (0 : Int) ≤ 7 + (wd : Int) + (m : Int) + (hf : Int) := by omega
  have q1 : 7 + (wd : Int) + (m : Int) + (hf : Int) ≤ (s.size : Int) := by omega
  have q2 : (7 + (wd : Int) + (m : Int) + (hf : Int)).toNat = q := by omega
  have q3 : IntKind.i64.wrap (7 + (wd : Int) + (m : Int) + (hf : Int)) = 7 + (wd : Int) + (m : Int) + (hf : Int) := IntWalk.i64_in _ (by omega)
  have HQ := Lib.hid hq
  have HHF := Lib.hid hhf
  have HQV := Lib.hid hqv
  have HSQ := Lib.hid hsq
  have HN := Lib.hid N
  have hqs : (s.extract 0 q).size ≤ 1048576 := by rw [ByteArray.size_extract]; omega
  have hcb := ck_bd (s.extract 0 q).data.toList
  obtain ⟨K, hK⟩ : ∃ K, cksum (s.extract 0 q).data.toList = K := ⟨_, rfl⟩
  have HSUM := Lib.hid (fun wx => specSum (s.extract 0 q) wx hqs)
  rw [hK] at HSUM hcb
  have HK := Lib.hid hK
  have HCK : Hid (ckStr s = strOfNums (bytesBy (numAt K 4) 4)) := by unfold Hid; rw [ckStr, HQ.out, HK.out]
  obtain ⟨ck, hck⟩ : ∃ ck, strOfNums (bytesBy (numAt K 4) 4) = ck := ⟨_, rfl⟩
  have HNUM : Hid (∀ wx, Calls Try.prog 19 #[.int .i64 K] wx fun e w' => e = .returned (.string ck) ∧ Below wx.heap.size wx w') := by unfold Hid; rw [← hck]; exact fun wx => number4 K wx hcb.1 hcb.2
  rw [hck] at HCK
  clear hck
  clear h2 hq hhf hqv hsq N hqs hK
  go_enter Try.func10, Try.ntmps10
  go_wp2_with fail
  go_quiet (fail)
  clear w1 w2 w4 w5 w6 w7 g1 g2 hb4
  go_wp2_with fail
  go_region_with (first | (go_at_call 20; refine (HSUM.out _).mono ?_; rintro e wa ⟨rfl, rfl⟩) | (go_at_call 19; refine (HNUM.out _).mono ?_; rintro e wb ⟨rfl, hb1⟩))
  obtain ⟨wa, hwa⟩ : ∃ wa, (w.alloc (.cells #[.slice none 0 0, .slice none 0 0, .slice none 0 0] 29)).drewN (nq + 1) = wa := ⟨_, rfl⟩
  have hBa : Below w.heap.size w wa := by rw [← hwa]; exact (by repeat (first | exact Below.refl _ _ | assumption | refine Below.setCell ?_ (by first | omega | (simp <;> omega)) _ | refine Below.alloc ?_ (by first | omega | (simp <;> omega)) _ | refine Below.drew ?_ | refine belowDrewN ?_ _))
  have ra : wa.heap[w.heap.size]? = some (.cells #[.slice none 0 0, .slice none 0 0, .slice none 0 0] 29 (0, 0)) := by
    rw [← hwa]
    exact heap_alloc_new _ _
  rw [hwa] at hb1
  clear hwa
  have hB1 := belowStep hb1 hBa
  have HR0 := Lib.hid (rowB hb1 ra)
  clear hb1 hBa ra hcb HSUM HNUM
  by_cases hck : ck = s.extract q s.size
  rotate_left
  · have hneq : (!(s.extract q s.size).toList == ck.toList) = true := by rw [str_eq, decide_eq_false (fun e => hck e.symm)]; rfl
    have HC1 : Hid (decCode s = 4) := by unfold Hid; rw [HC.out, HCK.out, HQ.out, if_pos hck]
    rw [hneq]
    obtain ⟨p0, p1, p2, pf, -⟩ := row3 HR0.out
    have pf0 := pf 0
    have pf1 := pf 1
    have pf2 := pf 2
    clear hck pf hneq
    go_wp2_with fail
    refine bodyPost_ret (v := .tuple #[.agg #[.slice none 0 0, .slice none 0 0, .slice none 0 0], .int .i64 4]) (by simp [results, Try.results10, go_sem, p0, p1, p2]) rfl ?_
    exact DecS.bare HC1.out (by decide) (by repeat (first | exact Below.refl _ _ | assumption | refine Below.setCell ?_ (by first | omega | (simp <;> omega)) _ | refine Below.alloc ?_ (by first | omega | (simp <;> omega)) _ | refine Below.drew ?_ | refine belowDrewN ?_ _))
  have hneq : (!(s.extract q s.size).toList == ck.toList) = false := by rw [str_eq, decide_eq_true hck.symm]; rfl
  rw [hneq]
  have HC1 : Hid (decCode s = if encOk (decT s) = true ∧ encS (decT s) = s then 0 else 5) := by unfold Hid; rw [HC.out, HCK.out, HQ.out, if_neg (fun h => h hck)]
  obtain ⟨p5, hp5⟩ : ∃ p5, 5 + wd = p5 := ⟨_, rfl⟩
  have hx5 : (s.extract 5 p5).size ≤ 1048576 := by rw [ByteArray.size_extract]; omega
  have hl5 : (numsOf (s.extract 5 p5)).length = wd := by rw [numsOf_len, ByteArray.size_extract]; omega
  obtain ⟨xs, hxs⟩ : ∃ xs, numsOf (s.extract 5 p5) = xs := ⟨_, rfl⟩
  have HB5 := Lib.hid (fun wx => specBytes (s.extract 5 p5) wx hx5)
  rw [hxs] at HB5 hl5
  have HXS := Lib.hid hxs
  have HL5 := Lib.hid hl5
  have HP5 := Lib.hid hp5
  clear hck hneq hx5 hl5 hxs HC HCK HK
  go_wp2_with fail
  rw [hp5]
  clear hp5
  refine (HB5.out _).mono ?_
  rintro e w1 ⟨v1, rfl, hF1, hb1⟩
  have hB2 := belowStep hb1 hB1
  have HR1 := Lib.hid (rowB hb1 HR0.out)
  obtain ⟨A1, k1, hk1, rfl, -⟩ := hF1.capped
  have HF1 := Lib.hid hF1
  have HU1 := Lib.hid hF1.under
  have hzw : w.heap.size < w1.heap.size := row_lt HR1.out
  have hzb : w.heap.size < wb.heap.size := row_lt HR0.out
  clear hF1 hb1 hB1 HR0
  go_wp2_with fail
  obtain ⟨w2, hw2⟩ : ∃ w2, w1.alloc (.cells #[.slice A1 xs.length k1, .slice none 0 0, .slice none 0 0] 29) = w2 := ⟨_, rfl⟩
  have hb2 : Below w1.heap.size w1 w2 := by rw [← hw2]; exact (by repeat (first | exact Below.refl _ _ | assumption | refine Below.setCell ?_ (by first | omega | (simp <;> omega)) _ | refine Below.alloc ?_ (by first | omega | (simp <;> omega)) _ | refine Below.drew ?_))
  have r2 : w2.heap[w1.heap.size]? = some (.cells #[.slice A1 xs.length k1, .slice none 0 0, .slice none 0 0] 29 (0, 0)) := by
    rw [← hw2]
    exact heap_alloc_new _ _
  have hz2 : w1.heap.size + 1 ≤ w2.heap.size := row_lt r2
  rw [hw2]
  clear hw2
  obtain ⟨T, hT⟩ : ∃ T, w1.heap.size = T := ⟨_, rfl⟩
  rw [hT] at r2 hz2 hb2 hzw ⊢
  rw [hT] at HU1
  have HT := Lib.hid hT
  clear hT
  have HR2 := Lib.hid r2
  have HB2 := Lib.hid hb2
  have HP2 := Lib.hid (PgAt.nil (T + 1) none w2 hz2)
  have HD2 : Hid (Fresh (T + 1) w2 (.slice none 0 0) []) := Fresh.nil _ _
  obtain ⟨ed, hed⟩ : ∃ ed, 7 + wd + m = ed := ⟨_, rfl⟩
  obtain ⟨nb, hnb⟩ : ∃ nb, s.extract ed q = nb := ⟨_, rfl⟩
  have HNB : Hid (nibsIn s = nb) := by unfold Hid; rw [nibsIn, HN.out.e3, hed, HQ.out, hnb]
  have HNX := Lib.hid hnb
  have HED := Lib.hid hed
  clear hed hnb
  clear r2 hz2 hb2
  go_loopw [10] (fun i wr => ∃ (k : Nat) (v2 v3 : Value) (ls : List (List Int)) (ds : List Int) (B : Nat → Nat), k ≤ cn ∧ i = .int .i64 k ∧ Hid (rowsOf s k = ls) ∧ Hid (unb nb k = ds) ∧ Hid (wr.heap[T]? = some (.cells #[.slice A1 xs.length k1, v2, v3] 29 (0, 0))) ∧ Hid (PgAt (T + 1) v3.ownBlock wr v2 ls B) ∧ Hid (Fresh (T + 1) wr v3 ds) ∧ Hid (Below T w1 wr)) (fun i _ => cn - (intOf i).toNat)
  case atStart => exact ⟨0, _, _, [], [], _, Nat.zero_le _, rfl, nil_rows s, rfl, HR2, HP2, HD2, HB2⟩
  case round =>
    obtain ⟨k, v2, v3, ls, ds, B, hk, rfl, HLS, HDS, HROW, HP, HD, HB⟩ := hrel
    clear HR2 HP2 HB2 HD2
    obtain ⟨A2, k2, rfl, hk2, -⟩ := HP.out.shape
    obtain ⟨A3, k3, hk3, rfl, -⟩ := HD.out.capped
    have hll : ls.length ≤ 1048576 := by rw [← HLS.out, rowsOf_len]; omega
    have hdl : ds.length ≤ 1048576 := by rw [← HDS.out, unb_len]; omega
    have hTr : T < wr.heap.size := row_lt HROW.out
    obtain ⟨p0, p1, p2, pf, -⟩ := row3 HROW.out
    have pf1 := pf 1
    have pf2 := pf 2
    clear pf
    by_cases hlt : k < cn
    · obtain ⟨u, hu⟩ : ∃ u, k * wd = u := ⟨_, rfl⟩
      obtain ⟨u2, hu2⟩ : ∃ u2, (k + 1) * wd = u2 := ⟨_, rfl⟩
      have hu12 : u2 = u + wd := by rw [← hu, ← hu2, Nat.succ_mul]
      have hum : u2 ≤ m := by rw [← hu2, ← HN.out.e5]; exact Nat.mul_le_mul_right _ hlt
      have huI : (k : Int) * (wd : Int) = (u : Int) := by rw [← hu]; exact (Int.natCast_mul _ _).symm
      have hu2I : ((k : Int) + 1) * (wd : Int) = (u2 : Int) := by rw [← hu2]; exact (Int.natCast_mul _ _).symm
      obtain ⟨a, ha⟩ : ∃ a, 7 + wd + u = a := ⟨_, rfl⟩
      obtain ⟨b, hb⟩ : ∃ b, 7 + wd + u2 = b := ⟨_, rfl⟩
      have hxe : (s.extract a b).size ≤ 1048576 := by rw [ByteArray.size_extract]; omega
      obtain ⟨ys, hys⟩ : ∃ ys, numsOf (s.extract a b) = ys := ⟨_, rfl⟩
      have HCALL := Lib.hid (fun wx => specBytes (s.extract a b) wx hxe)
      rw [hys] at HCALL
      have HLN : Hid (rowsOf s (k + 1) = ls ++ [ys]) := by unfold Hid; rw [rowsOf_more, HLS.out, HN.out.e1, hu, hu2, ha, hb, hys]
      have r0 : (0 : Int) ≤ 7 + (wd : Int) + (u : Int) := by omega
      have r1 : 7 + (wd : Int) + (u : Int) ≤ 7 + (wd : Int) + (u2 : Int) := by omega
      have r3 : 7 + (wd : Int) + (u2 : Int) ≤ (s.size : Int) := by omega
      have t0 : (7 + (wd : Int) + (u : Int)).toNat = a := by omega
      have t1 : (7 + (wd : Int) + (u2 : Int)).toNat = b := by omega
      have z0 : IntKind.i64.wrap ((k : Int) + 1) = (k : Int) + 1 := IntWalk.i64_in _ (by omega)
      have z1 : IntKind.i64.wrap (u : Int) = (u : Int) := IntWalk.i64_in _ (by omega)
      have z2 : IntKind.i64.wrap (u2 : Int) = (u2 : Int) := IntWalk.i64_in _ (by omega)
      have z3 : IntKind.i64.wrap (7 + (wd : Int) + (u : Int)) = 7 + (wd : Int) + (u : Int) := IntWalk.i64_in _ (by omega)
      have z4 : IntKind.i64.wrap (7 + (wd : Int) + (u2 : Int)) = 7 + (wd : Int) + (u2 : Int) := IntWalk.i64_in _ (by omega)
      have k0 : (0 : Int) ≤ (k : Int) := by omega
      have k1' : (k : Int) < (cn : Int) := by omega
      have hPB := HP.out.2.2.1
      have HVB := Lib.hid (fun b hb => (HP.out.block b hb).2)
      have HZB := Lib.hid HD.out.under
      have hTT : T < T + 1 := Nat.lt_succ_self T
      have hTr' : T + 1 ≤ wr.heap.size := hTr
      obtain ⟨j, hj⟩ : ∃ j, k / 2 = j := ⟨_, rfl⟩
      have hjI : (k : Int) / 2 = (j : Int) := by omega
      have hjq : 7 + wd + m + j < q := by have := HQV.out; have := HHF.out; omega
      have HJQ := Lib.hid hjq
      have HJ := Lib.hid hj
      have j0 : (0 : Int) ≤ 7 + (wd : Int) + (m : Int) + (j : Int) := by omega
      have j1 : 7 + (wd : Int) + (m : Int) + (j : Int) < (s.size : Int) := by omega
      obtain ⟨x, hx⟩ : ∃ x, byteN s (ed + j) = x := ⟨_, rfl⟩
      have hjs : (7 + (wd : Int) + (m : Int) + (j : Int)).toNat < s.size := by omega
      have hgx : (s[(7 + (wd : Int) + (m : Int) + (j : Int)).toNat]'hjs).toNat = x := by
        rw [← hx, ← byteN_is s _ (by have := HED.out; have := HQV.out; omega)]
        have := HED.out
        congr 2 <;> omega
      have x0 : (0 : Int) ≤ (x : Int) := by omega
      have x1 : (x : Int) ≤ 255 := by have := byteN_lt s (ed + j); omega
      have HX : Hid (byteAt nb j = (x : Int)) := by
        unfold Hid
        rw [← HNX.out, byte_in s ed q j (by rw [← HED.out]; exact hjq) (by have := HSQ.out; omega), hx]
      have HDN : Hid (unb nb (k + 1) = ds ++ [if k % 2 = 0 then (x : Int) / 16 % 16 else (x : Int) % 16]) := by unfold Hid; rw [unb_more, HDS.out, unAt, HJ.out, HX.out]
      clear hu hu2 ha hb hys hxe q2 q3 hu12 hj hx hjq
      go_wp2_with fail
      go_region_law (first
        | (refine step_append_pg (by rfl) (.tmp 96) (.tmp 111) (by rfl) (T + 1) (Value.slice A3 ds.length k3).ownBlock B (.slice A2 ls.length k2) ls ys (.slice A4 ys.length k4) (by rfl) (hP3.al _) w3.heap.size (by rfl) (by simp) wr.heap.size w3.heap.size (hF3.alc _) hPB (by exact hb3.size) (by simp) hu3 HVB.out HZB.out hll ?_; intro v5 w4 B4 hP4 hg4 hb4; obtain ⟨A5, k5, he5, -, -⟩ := hP4.shape; obtain ⟨n5, hn5⟩ : ∃ n5, (ls ++ [ys]).length = n5 := ⟨_, rfl⟩; rw [hn5] at he5; subst he5; clear hn5
            ; have hbC4 : Below (T + 1) wr w4 := (hbC3.alloc hT3 _).trans hb4; have v4' := (hbC4.cell (p := ⟨T, 1, none⟩) hTT).trans p1; have f4' := (hbC4.frozen (p := ⟨T, 1, none⟩) hTT).trans pf1)
        | (go_simp; go_at_call 35; refine (HCALL.out _).mono ?_; rintro e w3 ⟨v4, rfl, hF3, hb3⟩; obtain ⟨A4, k4, -, rfl, -⟩ := hF3.capped; have hP3 := (PgAt.dr HP.out).below hb3; have hu3 := hF3.under
            ; have hD3 := Fresh.below (w := World.drew wr) HD.out hb3
            ; have hbC3 : Below (T + 1) wr w3 := ((Below.refl _ _).drew).trans (hb3.mono hTr'); have hT3 : T + 1 ≤ w3.heap.size := Nat.le_trans hTr' hb3.size; have hT3s : T < w3.heap.size := hT3; have v3' := (hbC3.cell (p := ⟨T, 1, none⟩) hTT).trans p1))
      all_goals
        have hrow4 := rowSet (p := 1) (.slice A5 n5 k5) ((hbC4.block T hTT).trans HROW.out)
        have hP5 := hP4.set (a := ⟨T, 1, none⟩) hTT (.slice A5 n5 k5)
        have hB5 : Below T w1 (w4.setCell ⟨T, 1, none⟩ (.slice A5 n5 k5)) := (HB.out.trans (hbC4.mono (Nat.le_succ _))).setCell (Nat.le_refl _) _
        have hD4 : Fresh (T + 1) w4 (.slice A3 ds.length k3) ds := by
          refine World.ownsRow.kept (hD3.alc _) hg4 ?_
          cases hv : (Value.slice A2 ls.length k2).ownBlock with
          | none =>
            cases hv3 : (Value.slice A3 ds.length k3).ownBlock with
            | none => exact .inl rfl
            | some b => exact .inr (fun e => by cases e)
          | some b => exact .inr (fun e => HP.out.2.2.2.2 b hv e)
        have hD5 := hD4.setCell (a := ⟨T, 1, none⟩) hTT (.slice A5 n5 k5)
        have hz5 : T + 1 ≤ (w4.setCell ⟨T, 1, none⟩ (.slice A5 n5 k5)).heap.size := row_lt hrow4
        obtain ⟨w5, hw5⟩ : ∃ w5, w4.setCell ⟨T, 1, none⟩ (.slice A5 n5 k5) = w5 := ⟨_, rfl⟩
        rw [hw5] at hrow4 hP5 hB5 hD5 hz5 ⊢
        have HR5 := Lib.hid hrow4
        have HP5' := Lib.hid hP5
        have HB5' := Lib.hid hB5
        have HD5 := Lib.hid hD5
        clear hg4 hb4 hP4 hbC4 v4' f4' hb3 hF3 hP3 hu3 hbC3 hT3 hT3s v3' hP5 hB5 huI hu2I t0 t1 z1 z2 z3 z4 hD3 hD4 hD5 hw5
        obtain ⟨p50, p51, p52, pf5, -⟩ := row3 (a := .slice A1 xs.length k1) (b := .slice A5 n5 k5) (c := .slice A3 ds.length k3) hrow4
        have pf52 := pf5 2
        clear pf5 p0 p1 p2 pf1 pf2 hrow4
        have hw5z : T < w5.heap.size := hz5
        by_cases he : k % 2 = 0
        · have hr2 : (k : Int) % 2 = 0 := by omega
          have HDN2 : Hid (unb nb (k + 1) = ds ++ [(x : Int) / 16 % 16]) := by unfold Hid; rw [HDN.out, if_pos he]
          have d0 : (0 : Int) ≤ (x : Int) / 16 := by omega
          have d1 : (x : Int) / 16 ≤ 15 := by omega
          clear he
          go_wp2_with (first | (at_builtin; refine append_z rfl (.tmp 127) (.tmp 130) rfl (T + 1) _ ds ((x : Int) / 16 % 16) rfl (HD5.out.alc _) w5.heap.size rfl (by simp) hdl (by simp; omega) ?_; intro v7 w7 hD7 hg7 hat7 hb7; obtain ⟨A7, k7, -, he7, -⟩ := hD7.capped; obtain ⟨n7, hn7⟩ : ∃ n7, (ds ++ [(x : Int) / 16 % 16]).length = n7 := ⟨_, rfl⟩; rw [hn7] at he7; subst he7; clear hn7; have hbC7 : Below (T + 1) w5 w7 := ((Below.refl _ _).alloc hz5 _).trans hb7; have p72 := (hbC7.cell (p := ⟨T, 2, none⟩) hTT).trans p52; have f72 := (hbC7.frozen (p := ⟨T, 2, none⟩) hTT).trans pf52))
          have HRN := Lib.hid (rowSet (p := 2) (.slice A7 n7 k7) ((hbC7.block T hTT).trans HR5.out))
          have HPN := Lib.hid (((HP5'.out.al _).step hg7 hat7).set (a := ⟨T, 2, none⟩) hTT (.slice A7 n7 k7))
          have HDD := Lib.hid (hD7.setCell (a := ⟨T, 2, none⟩) hTT (.slice A7 n7 k7))
          have HBN : Hid (Below T w1 (w7.setCell ⟨T, 2, none⟩ (.slice A7 n7 k7))) := (HB5'.out.trans (hbC7.mono (Nat.le_succ _))).setCell (Nat.le_refl _) _
          clear hr2 hjI hgx hD7 hg7 hat7 hb7 hbC7 p72 f72
          go_wp2_with fail
          go_roundw
          case rel => exact ⟨k + 1, _, _, ls ++ [ys], _, B4, by omega, by go_num, HLN, HDN2, HRN, HPN, HDD, HBN⟩
          case measure => simp [intOf]; omega
        · have hr2 : (k : Int) % 2 = 1 := by omega
          have HDN2 : Hid (unb nb (k + 1) = ds ++ [(x : Int) % 16]) := by unfold Hid; rw [HDN.out, if_neg he]
          clear he
          go_wp2_with (first | (at_builtin; refine append_z rfl (.tmp 127) (.tmp 130) rfl (T + 1) _ ds ((x : Int) % 16) rfl (HD5.out.alc _) w5.heap.size rfl (by simp) hdl (by simp; omega) ?_; intro v7 w7 hD7 hg7 hat7 hb7; obtain ⟨A7, k7, -, he7, -⟩ := hD7.capped; obtain ⟨n7, hn7⟩ : ∃ n7, (ds ++ [(x : Int) % 16]).length = n7 := ⟨_, rfl⟩; rw [hn7] at he7; subst he7; clear hn7; have hbC7 : Below (T + 1) w5 w7 := ((Below.refl _ _).alloc hz5 _).trans hb7; have p72 := (hbC7.cell (p := ⟨T, 2, none⟩) hTT).trans p52; have f72 := (hbC7.frozen (p := ⟨T, 2, none⟩) hTT).trans pf52))
          have HRN := Lib.hid (rowSet (p := 2) (.slice A7 n7 k7) ((hbC7.block T hTT).trans HR5.out))
          have HPN := Lib.hid (((HP5'.out.al _).step hg7 hat7).set (a := ⟨T, 2, none⟩) hTT (.slice A7 n7 k7))
          have HDD := Lib.hid (hD7.setCell (a := ⟨T, 2, none⟩) hTT (.slice A7 n7 k7))
          have HBN : Hid (Below T w1 (w7.setCell ⟨T, 2, none⟩ (.slice A7 n7 k7))) := (HB5'.out.trans (hbC7.mono (Nat.le_succ _))).setCell (Nat.le_refl _) _
          clear hr2 hjI hgx hD7 hg7 hat7 hb7 hbC7 p72 f72
          go_wp2_with fail
          go_roundw
          case rel => exact ⟨k + 1, _, _, ls ++ [ys], _, B4, by omega, by go_num, HLN, HDN2, HRN, HPN, HDD, HBN⟩
          case measure => simp [intOf]; omega
    · obtain rfl : k = cn := by omega
      have hS : ShortT ⟨xs, ls, ds⟩ := ⟨by have := HL5.out; show xs.length ≤ _; omega, hll, fun i hi => by show (ls.getD i []).length ≤ _; have h5 := rows_short s k i (by rw [HLS.out]; exact hi); rw [HLS.out] at h5; omega, by show ds.length ≤ _; omega⟩
      have hI1 : IntsAt wr A1 xs := (HF1.out.below (by rw [HT.out]; exact HB.out)).intsAt
      have hI2 : LAt wr A2 ls := (HP.out.fls (Nat.le_refl _)).lat
      have hI3 : IntsAt wr A3 ds := HD.out.intsAt
      have henc := specEnc A1 A2 A3 k1 k2 k3 ⟨xs, ls, ds⟩ wr hI1 hI2 hI3 hS
      dsimp only at henc
      obtain ⟨E0, hE0⟩ : ∃ E0, encS ⟨xs, ls, ds⟩ = E0 := ⟨_, rfl⟩
      obtain ⟨E1, hE1⟩ : ∃ E1, encOk ⟨xs, ls, ds⟩ = E1 := ⟨_, rfl⟩
      rw [hE0, hE1] at henc
      have HENC := Lib.hid henc
      have HE0 := Lib.hid hE0
      have HE1 := Lib.hid hE1
      have HDT : Hid (decT s = ⟨xs, ls, ds⟩) := by rw [Hid, decT, HN.out.e1, HN.out.e2, HNB.out, HP5.out, HXS.out, HLS.out, HDS.out]
      have hT4 : T ≤ wr.heap.size := Nat.le_of_lt hTr
      clear hS hI1 hI2 hI3 henc hE0 hE1 w8 w9
      go_wp2_with fail
      refine HENC.out.mono ?_
      rintro e w5 ⟨rfl, hb5⟩
      have hB5 : Below T w1 w5 := HB.out.trans (hb5.mono hT4)
      have hrow5 := rowB hb5 HROW.out
      have hres5 := (hB5.block w.heap.size hzw).trans HR1.out
      have hBw5 : Below w.heap.size w w5 := hB2.trans (hB5.mono (Nat.le_of_lt hzw))
      have HF5 : Hid (Fresh (T + 1) w5 (.slice A3 ds.length k3) ds) := HD.out.below hb5
      have HP5' : Hid (PgAt (T + 1) (Value.slice A3 ds.length k3).ownBlock w5 (.slice A2 ls.length k2) ls B) := HP.out.below hb5
      have HG5 : Hid (Fresh wb.heap.size w5 (.slice A1 xs.length k1) xs) := HF1.out.below (by rw [HT.out]; exact hB5)
      obtain ⟨q50, q51, q52, qf5, -⟩ := row3 hres5
      have qf50 := qf5 0
      have qf51 := qf5 1
      have qf52 := qf5 2
      obtain ⟨t50, t51, t52, -, -⟩ := row3 hrow5
      have HRES := Lib.hid hres5
      have HBW5 := Lib.hid hBw5
      have hneT : w.heap.size ≠ T := by omega
      have hneT' : T ≠ w.heap.size := by omega
      clear qf5 hres5 hrow5 hB5 hb5 HENC hB2 hBw5 p0 p1 p2 pf1 pf2
      cases E1 with
      | false =>
        have HC5 : Hid (decCode s = 5) := by
          rw [Hid, HC1.out, if_neg]
          rw [HDT.out, HE1.out]
          exact fun h => by cases h.1
        go_wp2_with fail
        refine bodyPost_ret (v := .tuple #[.agg #[.slice none 0 0, .slice none 0 0, .slice none 0 0], .int .i64 5]) (by simp [results, Try.results10, go_sem, q50, q51, q52]) rfl ?_
        exact DecS.bare HC5.out (by decide) (((HBW5.out.setCell (p := ⟨w.heap.size, 0, none⟩) (Nat.le_refl _) _).setCell (p := ⟨w.heap.size, 1, none⟩) (Nat.le_refl _) _).setCell (p := ⟨w.heap.size, 2, none⟩) (Nat.le_refl _) _)
      | true =>
        by_cases he : E0 = s
        · have hstr : (!E0.toList == s.toList) = false := by rw [str_eq, decide_eq_true he]; rfl
          have HC0 : Hid (decCode s = 0) := by
            rw [Hid, HC1.out, if_pos]
            rw [HDT.out, HE0.out, HE1.out]
            exact ⟨rfl, he⟩
          have HDO : Hid (decOf s = ⟨xs, ls, ds⟩) := by rw [Hid, decOf, if_pos HC0.out, HDT.out]
          clear he
          go_wp2_with fail
          have r1 := rowSet (p := 0) (.slice A1 xs.length k1) HRES.out
          have r2 := rowSet (p := 1) (.slice A2 ls.length k2) r1
          have r3 := rowSet (p := 2) (.slice A3 ds.length k3) r2
          obtain ⟨z, hz⟩ : ∃ z, ((w5.setCell ⟨w.heap.size, 0, none⟩ (.slice A1 xs.length k1)).setCell ⟨w.heap.size, 1, none⟩ (.slice A2 ls.length k2)).setCell ⟨w.heap.size, 2, none⟩ (.slice A3 ds.length k3) = z := ⟨_, rfl⟩
          have hbz : Below w.heap.size w z := by
            rw [← hz]
            exact ((HBW5.out.setCell (p := ⟨w.heap.size, 0, none⟩) (Nat.le_refl _) _).setCell (p := ⟨w.heap.size, 1, none⟩) (Nat.le_refl _) _).setCell (p := ⟨w.heap.size, 2, none⟩) (Nat.le_refl _) _
          have hT1 : w.heap.size < T + 1 := by omega
          have f1 : Fresh wb.heap.size z (.slice A1 xs.length k1) xs := by
            rw [← hz]
            exact ((HG5.out.setCell (a := ⟨w.heap.size, 0, none⟩) hzb _).setCell (a := ⟨w.heap.size, 1, none⟩) hzb _).setCell (a := ⟨w.heap.size, 2, none⟩) hzb _
          have f2 : PgAt (T + 1) (Value.slice A3 ds.length k3).ownBlock z (.slice A2 ls.length k2) ls B := by
            rw [← hz]
            exact ((HP5'.out.set (a := ⟨w.heap.size, 0, none⟩) hT1 _).set (a := ⟨w.heap.size, 1, none⟩) hT1 _).set (a := ⟨w.heap.size, 2, none⟩) hT1 _
          have f3 : Fresh (T + 1) z (.slice A3 ds.length k3) ds := by
            rw [← hz]
            exact ((HF5.out.setCell (a := ⟨w.heap.size, 0, none⟩) hT1 _).setCell (a := ⟨w.heap.size, 1, none⟩) hT1 _).setCell (a := ⟨w.heap.size, 2, none⟩) hT1 _
          rw [hz] at r3 ⊢
          obtain ⟨y0, y1, y2, -, -⟩ := row3 (a := .slice A1 xs.length k1) (b := .slice A2 ls.length k2) (c := .slice A3 ds.length k3) r3
          clear hz r1 r2 r3
          refine bodyPost_ret (v := .tuple #[.agg #[.slice A1 xs.length k1, .slice A2 ls.length k2, .slice A3 ds.length k3], .int .i64 0]) (by simp [results, Try.results10, go_sem, y0, y1, y2]) rfl ?_
          unfold DecS
          rw [HDO.out, HC0.out]
          exact ⟨A1, k1, A2, k2, A3, k3, rfl, f1.intsAt, (f2.fls f2.2.2.1).lat, f3.intsAt, hbz⟩
        · have hstr : (!E0.toList == s.toList) = true := by rw [str_eq, decide_eq_false he]; rfl
          have HC5 : Hid (decCode s = 5) := by
            rw [Hid, HC1.out, if_neg]
            rw [HDT.out, HE0.out]
            exact fun h => he h.2
          clear he
          go_wp2_with fail
          refine bodyPost_ret (v := .tuple #[.agg #[.slice none 0 0, .slice none 0 0, .slice none 0 0], .int .i64 5]) (by simp [results, Try.results10, go_sem, q50, q51, q52]) rfl ?_
          exact DecS.bare HC5.out (by decide) (((HBW5.out.setCell (p := ⟨w.heap.size, 0, none⟩) (Nat.le_refl _) _).setCell (p := ⟨w.heap.size, 1, none⟩) (Nat.le_refl _) _).setCell (p := ⟨w.heap.size, 2, none⟩) (Nat.le_refl _) _)
theorem specDec (s : ByteArray) (w : World) (hs : s.size ≤ 1048576) : Calls Try.prog 10 #[.string s] w (DecS s w) := by
  by_cases h : s.size < 12
  · exact specDec12 s w h
  by_cases h2 : s.extract 0 4 = ⟨#[80, 68, 66, 49]⟩
  rotate_left
  · exact specDecMagic s w (by omega) h2
  by_cases h3 : s.size < 7 + wdOf s
  · exact specDecHead s w hs (by omega) h2 h3
  by_cases h4 : s.size = szOf s
  · exact specDecMain s w hs (by omega) h2 (by omega) h4
  · exact specDecLens s w hs (by omega) h2 (by omega) h4
end Go.Proofs.Ytdkoegccfpdldaa
