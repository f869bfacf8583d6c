/- The binary form of a table at the program. Conditions: as each contract says. -/
import Derived.Test.YtdkoegccfpdldaaEb
namespace Go.Proofs.Ytdkoegccfpdldaa
open Go.RowKit

theorem lenInts (A : Option Addr) (n c : Nat) (w : World) : Calls Try.prog 27 #[.slice A n c] w fun e w' => e = .returned (.int .i64 n) ∧ w = w' := by
  go_enter Try.func27, Try.ntmps27
  go_wp2_with fail
  go_ret
  exact ⟨rfl, rfl⟩
theorem encHead : (⟨#[80, 68, 66, 49]⟩ : ByteArray) = strOfNums [80, 68, 66, 49] := by decide
theorem buWriteS (B b : Nat) (X Y : List Int) (s : ByteArray) (w : World) (h : BuN B b X w) (hs : s = strOfNums Y) (hlen : X.length + Y.length ≤ 4194304) (hBw : B ≤ w.heap.size) :
    Calls Try.prog 25 #[.pointer (some ⟨b, 0, none⟩), .string s] w fun e w' => (∃ v, e = .returned v) ∧ BuN B b (X ++ Y) w' ∧ Below B w w' := by
  subst hs
  refine (buWriteN B b X Y w h hlen hBw).mono ?_
  rintro e w' ⟨rfl, h1, h2⟩
  exact ⟨⟨_, rfl⟩, h1, h2⟩
theorem sz_small {a b c : ByteArray} {n : Nat} (ha : a.size ≤ n) (hb : b.size ≤ n) (hc : c.size ≤ n) (hn : n ≤ 100000) : (¬ 9223372036854775807 < (⟨#[80, 68, 66, 49]⟩ : ByteArray).size + a.size) ∧ (¬ 9223372036854775807 < 4 + a.size) ∧ (¬ 9223372036854775807 < 4 + a.size + b.size) ∧ (¬ 9223372036854775807 < 4 + a.size + b.size + c.size) ∧ (¬ 9223372036854775807 < ((⟨#[80, 68, 66, 49]⟩ : ByteArray) ++ a).size + b.size) ∧ (¬ 9223372036854775807 < ((⟨#[80, 68, 66, 49]⟩ : ByteArray) ++ a ++ b).size + c.size) := by
  have : (⟨#[80, 68, 66, 49]⟩ : ByteArray).size = 4 := rfl
  refine ⟨by omega, by omega, by omega, by omega, ?_, ?_⟩
  · rw [ByteArray.size_append]; omega
  · rw [ByteArray.size_append, ByteArray.size_append]; omega
set_option maxRecDepth 100000 in
set_option maxHeartbeats 2000000 in
theorem implEnc (A1 A2 A3 : Option Addr) (c1 c2 c3 : Nat) (t : Tb) (w : World) (h1 : IntsAt w A1 t.trk) (h2 : LAt w A2 t.pats) (h3 : IntsAt w A3 t.dist) (hs : ShortT t) :
    Calls Try.prog 8 #[.agg #[.slice A1 t.trk.length c1, .slice A2 t.pats.length c2, .slice A3 t.dist.length c3]] w fun e w' => e = .returned (.tuple #[.string (encS t), .bool (encOk t)]) ∧ Below w.heap.size w w' := by
  obtain ⟨b0, hb0⟩ : ∃ b0, encOk t = b0 := ⟨_, rfl⟩
  obtain ⟨s0, hs0⟩ : ∃ s0, encS t = s0 := ⟨_, rfl⟩
  rw [hb0, hs0]
  have HB0 := Lib.hid hb0
  have HS0 := Lib.hid hs0
  clear hb0 hs0
  have HW := Lib.hid (fun wx a b c => implWf A1 A2 A3 c1 c2 c3 t wx a b c hs)
  obtain ⟨bw, hbw⟩ : ∃ bw, wfQ t = bw := ⟨_, rfl⟩
  rw [hbw] at HW
  have HBW := Lib.hid hbw
  clear hbw
  obtain ⟨xs, ls, ys⟩ := t
  obtain ⟨s1, s2, s3, s4⟩ := hs
  dsimp only at h1 h2 h3 s1 s2 s3 s4 HW ⊢
  have H1 := Lib.hid h1
  have H2 := Lib.hid h2
  have H3 := Lib.hid h3
  have S3 := Lib.hid s3
  clear h1 h2 h3 s3
  go_enter Try.func8, Try.ntmps8
  go_wp2_with fail
  obtain ⟨w0, hw0⟩ : ∃ w0, w.alloc (.cells #[.slice A1 xs.length c1, .slice A2 ls.length c2, .slice A3 ys.length c3] 29) = w0 := ⟨_, rfl⟩
  have hb0 : Below w.heap.size w w0 := by rw [← hw0]; exact (by repeat (first | exact Below.refl _ _ | assumption | refine Below.setCell ?_ (by first | omega | (simp <;> omega)) _ | refine Below.alloc ?_ (by first | omega | (simp <;> omega)) _ | refine Below.drew ?_))
  have r0 : w0.heap[w.heap.size]? = some (.cells #[.slice A1 xs.length c1, .slice A2 ls.length c2, .slice A3 ys.length c3] 29 (0, 0)) := by
    rw [← hw0, heap_alloc_new]
  rw [hw0]
  clear hw0
  have HR0 := Lib.hid r0
  clear r0
  refine (HW.out _ (by exact H1.out.below hb0) (by exact H2.out.below hb0) (by exact H3.out.below hb0)).mono ?_
  rintro e w1 ⟨rfl, hb1⟩
  have hr := rowB hb1 HR0.out
  have hB1 := belowStep hb1 hb0
  clear hb1
  obtain ⟨p0, p1, p2, -, -⟩ := row3 hr
  have HR := Lib.hid hr
  clear hr HR0 hb0 HW
  cases bw with
  | false =>
    have HF : Hid (false = b0 ∧ (⟨#[]⟩ : ByteArray) = s0) := ⟨by rw [← HB0.out, encOk, HBW.out]; rfl, by rw [← HS0.out, encS, encOk, HBW.out]; rfl⟩
    go_wp2_with fail
    go_ret2
    exact ⟨ret_sb HF.out.2 HF.out.1, hB1⟩
  | true =>
    obtain ⟨ba, hba⟩ : ∃ ba, allIn ys 15 = ba := ⟨_, rfl⟩
    have HA := Lib.hid (fun wx h => implAllIn A3 c3 ys 15 wx h s4)
    rw [hba] at HA
    have HBA := Lib.hid hba
    clear hba
    go_wp2_with fail
    refine (HA.out _ (by exact H3.out.below hB1)).mono ?_
    rintro e w2 ⟨rfl, hb2⟩
    have hr := rowB hb2 HR.out
    have hB2 := belowStep hb2 hB1
    clear hb2 p0 p1 p2
    obtain ⟨p0, p1, p2, -, -⟩ := row3 hr
    have HR := Lib.hid hr
    clear hr hB1
    cases ba with
    | false =>
      have HF : Hid (false = b0 ∧ (⟨#[]⟩ : ByteArray) = s0) := ⟨by rw [← HB0.out, encOk, HBW.out, HBA.out]; rfl, by rw [← HS0.out, encS, encOk, HBW.out, HBA.out]; rfl⟩
      go_wp2_with fail
      go_ret2
      exact ⟨ret_sb HF.out.2 HF.out.1, hB2⟩
    | true =>
      have G := Lib.hid (good_of HBW.out)
      have HF : Hid (true = b0 ∧ strOfNums (encL ⟨xs, ls, ys⟩) = s0) := ⟨by rw [← HB0.out, encOk, HBW.out, HBA.out]; rfl, by rw [← HS0.out, encS, encOk, HBW.out, HBA.out]; rfl⟩
      have hN0 := BuN.fresh w2
      go_wp2_with fail
      obtain ⟨w3, hw3⟩ : ∃ w3, w2.alloc (.cells #[.pointer none, .slice none 0 0] 49) = w3 := ⟨_, rfl⟩
      have hb3 : Below w2.heap.size w2 w3 := by rw [← hw3]; exact (by repeat (first | exact Below.refl _ _ | assumption | refine Below.setCell ?_ (by first | omega | (simp <;> omega)) _ | refine Below.alloc ?_ (by first | omega | (simp <;> omega)) _ | refine Below.drew ?_))
      have hlt3 : w2.heap.size < w3.heap.size := by rw [← hw3]; simp
      rw [hw3] at hN0 ⊢
      clear hw3
      have hr := rowB hb3 HR.out
      have hB3 := belowStep hb3 hB2
      have hlow := row_lt HR.out
      clear p0 p1 p2 hb3
      obtain ⟨p0, p1, p2, -, -⟩ := row3 hr
      have hlow3 := row_lt hr
      have HR := Lib.hid hr
      clear hr hB2
      obtain ⟨B, hBB⟩ : ∃ B, w2.heap.size = B := ⟨_, rfl⟩
      rw [hBB] at hN0 hlt3 hlow ⊢
      clear hBB
      have HG := G.out
      have hl20 : xs.length ≤ 20 := HG.l2
      have hl3 : ls.length ≤ 3000 := HG.p2
      have HXV := Lib.hid HG.tv
      clear HG
      have HK1 := Lib.hid (fun wx => numberOf (xs.length : Int) 1 wx (by decide))
      have HK3 := Lib.hid (fun wx => numberOf (ls.length : Int) 2 wx (by decide))
      have HK2 := Lib.hid (fun wx h => keyOf A1 c1 xs wx h (by omega) HXV.out)
      obtain ⟨z0, z1, z4, z5, z2, z3⟩ := sz_small (a := strOfNums (bytesBy (numAt (xs.length : Int) 1) 1)) (b := strOfNums xs) (c := strOfNums (bytesBy (numAt (ls.length : Int) 2) 2)) (n := 30) (by rw [strOfNums_size, bytesBy_len]; omega) (by rw [strOfNums_size]; omega) (by rw [strOfNums_size, bytesBy_len]; omega) (by omega)
      have HY : Hid ((⟨#[80, 68, 66, 49]⟩ : ByteArray) ++ strOfNums (bytesBy (numAt (xs.length : Int) 1) 1) ++ strOfNums xs ++ strOfNums (bytesBy (numAt (ls.length : Int) 2) 2) = strOfNums (hdL ⟨xs, ls, ys⟩ ++ xs ++ mdL ⟨xs, ls, ys⟩)) := by
        unfold Hid
        rw [encHead, strOfNums_add, strOfNums_add, strOfNums_add, num1, num2, hdL, mdL]
        dsimp only
        rw [show (xs.length : Int) % 256 = xs.length from by omega, show (ls.length : Int) / 256 % 256 = (ls.length : Int) / 256 from by omega]
      obtain ⟨S1, hS1⟩ : ∃ S1, strOfNums (bytesBy (numAt (xs.length : Int) 1) 1) = S1 := ⟨_, rfl⟩
      obtain ⟨S2, hS2⟩ : ∃ S2, strOfNums xs = S2 := ⟨_, rfl⟩
      obtain ⟨S3', hS3⟩ : ∃ S3', strOfNums (bytesBy (numAt (ls.length : Int) 2) 2) = S3' := ⟨_, rfl⟩
      rw [hS1] at HK1 HY z0 z1 z2 z3 z4 z5
      rw [hS2] at HK2 HY z2 z3 z4 z5
      rw [hS3] at HK3 HY z3 z5
      clear hS1 hS2 hS3
      have hPl : (hdL ⟨xs, ls, ys⟩ ++ xs ++ mdL ⟨xs, ls, ys⟩).length ≤ 27 := by simp [hdL, mdL]; omega
      obtain ⟨P, hP⟩ : ∃ P, hdL ⟨xs, ls, ys⟩ ++ xs ++ mdL ⟨xs, ls, ys⟩ = P := ⟨_, rfl⟩
      rw [hP] at HY hPl
      have HP := Lib.hid hP
      have HN0 := Lib.hid hN0
      clear hP hN0
      go_region_held3 (fun w' => w'.cell? ⟨w.heap.size, 0, none⟩ = some (.slice A1 xs.length c1) ∧ w'.cell? ⟨w.heap.size, 1, none⟩ = some (.slice A2 ls.length c2))
        (first | go_keep | exact ⟨g40, g41⟩ | exact ⟨g50, g51⟩ | exact ⟨g60, g61⟩ | exact ⟨g70, g71⟩)
        (first | (go_at_call 27; refine (lenInts _ _ _ _).mono ?_; rintro e w' ⟨rfl, rfl⟩) | (go_at_call 29; refine (lenLists _ _ _ _).mono ?_; rintro e w' ⟨rfl, rfl⟩) | (go_at_call 26; have kn := hn5; clear kn; refine (HK3.out _).mono ?_; rintro e w6 ⟨rfl, hb6⟩; have g60 := (hb6.cell (p := ⟨w.heap.size, 0, none⟩) hlow5).trans g50; have g61 := (hb6.cell (p := ⟨w.heap.size, 1, none⟩) hlow5).trans g51; have hn6 := BuN.below hn5 hb6; have hB6 := belowStep hb6 hB5; have hlow6 := Nat.lt_of_lt_of_le hlow5 hb6.size; have hbs6 : B ≤ w6.heap.size := Nat.le_trans hbs5 hb6.size; have g62 := (hb6.cell (p := ⟨w.heap.size, 2, none⟩) hlow5).trans ((hb5.cell (p := ⟨w.heap.size, 2, none⟩) hlow4).trans ((hb4.cell (p := ⟨w.heap.size, 2, none⟩) hlow3).trans p2))) | (go_at_call 26; refine (HK1.out _).mono ?_; rintro e w4 ⟨rfl, hb4⟩; have g40 := (hb4.cell (p := ⟨w.heap.size, 0, none⟩) hlow3).trans p0; have g41 := (hb4.cell (p := ⟨w.heap.size, 1, none⟩) hlow3).trans p1; have hn4 := BuN.below (w := World.drew _) HN0.out hb4; have hB4 := belowStep hb4 hB3.drew; have hlow4 := Nat.lt_of_lt_of_le hlow3 hb4.size; have hbs4 : B ≤ w4.heap.size := Nat.le_trans (Nat.le_of_lt hlt3) hb4.size) | (go_at_call 28; refine (HK2.out _ (by exact H1.out.below hB4)).mono ?_; rintro e w5 ⟨rfl, hb5⟩; have g50 := (hb5.cell (p := ⟨w.heap.size, 0, none⟩) hlow4).trans g40; have g51 := (hb5.cell (p := ⟨w.heap.size, 1, none⟩) hlow4).trans g41; have hn5 := BuN.below hn4 hb5; have hB5 := belowStep hb5 hB4; have hlow5 := Nat.lt_of_lt_of_le hlow4 hb5.size; have hbs5 : B ≤ w5.heap.size := Nat.le_trans hbs4 hb5.size) | (go_at_call 25; refine (buWriteS B B [] P _ _ hn6 HY.out (by simp; omega) hbs6).mono ?_; rintro e w7 ⟨⟨v7, rfl⟩, hn7, hb7⟩; have g70 := (hb7.cell (p := ⟨w.heap.size, 0, none⟩) hlow).trans g60; have g71 := (hb7.cell (p := ⟨w.heap.size, 1, none⟩) hlow).trans g61))
      have hn7 : BuN B B (P ++ (ls.take 0).flatten) w7 := by simpa using hn7
      have hB7 : Below w.heap.size w w7 := hB6.trans (hb7.mono (Nat.le_of_lt hlow))
      have g72 := (hb7.cell (p := ⟨w.heap.size, 2, none⟩) hlow).trans g62
      have hbs7 := Nat.le_trans hbs6 hb7.size
      clear hb4 hb5 hb6 hb7 g40 g41 g50 g51 g60 g61 g62 hn4 hn5 hn6 hB4 hB5 hB6 hlow4 hlow5 hlow6 hbs4 hbs5 hbs6 hlt3 hlow3 p0 p1 p2 z0 z1 z2 z3 z4 z5 HK1 HK2 HK3 HN0 hB3
      have hT := Lib.hid (show ∀ wr, Below B w7 wr → Below w.heap.size w wr ∧ wr.cell? ⟨w.heap.size, 2, none⟩ = some (.slice A3 ys.length c3) ∧ B ≤ wr.heap.size from fun wr hb => by
        refine ⟨hB7.trans (hb.mono (Nat.le_of_lt hlow)), ?_, ?_⟩
        · exact (hb.cell (p := ⟨w.heap.size, 2, none⟩) hlow).trans g72
        · have := hb.size; omega)
      clear hB7
      have HFL := Lib.hid (flat_len (ls := ls) (m := 20) (fun i hi => by have := G.out.rl i hi; dsimp only at this; omega))
      go_wp2_with fail
      go_loopw [34] (fun i wr => ∃ k : Nat, k ≤ ls.length ∧ i = .int .i64 k ∧ BuN B B (P ++ (ls.take k).flatten) wr ∧ Below B w7 wr) (fun i _ => ls.length - (intOf i).toNat)
      case atStart => exact ⟨0, Nat.zero_le _, rfl, hn7, Below.refl _ _⟩
      case round =>
        obtain ⟨k, hk, rfl, hn, hB⟩ := hrel
        clear hn7
        obtain ⟨hBw, p2, hsz⟩ := hT.out _ hB
        by_cases hlt : k < ls.length
        · obtain ⟨b, off, Ai, ci, zs, rfl, hb, hcap, hc0, hI, HX⟩ := (H2.out.below hBw).at_ hlt
          have q0 : (0 : Int) ≤ (k : Int) := by omega
          have q1 : (k : Int) < (ls.length : Int) := by omega
          have hz20 : zs.length ≤ 20 := by have := G.out.rl k hlt; dsimp only at this; rw [HX.out] at this; omega
          have HZV := Lib.hid (show ∀ k, k < zs.length → 0 ≤ zs.getD k 0 ∧ zs.getD k 0 ≤ 255 from fun m hm => by have := G.out.rv k hlt; dsimp only at this; rw [HX.out] at this; exact this m hm)
          have hQl : (P ++ (ls.take k).flatten).length ≤ 100000 := by have := HFL.out k hk; rw [List.length_append]; omega
          have HN : Hid (P ++ (ls.take (k + 1)).flatten = (P ++ (ls.take k).flatten) ++ zs) := by unfold Hid; rw [flat_more hlt, HX.out, List.append_assoc]
          obtain ⟨Q, hQ⟩ : ∃ Q, P ++ (ls.take k).flatten = Q := ⟨_, rfl⟩
          rw [hQ] at hn hQl
          have HQ := Lib.hid hQ
          clear hQ
          go_wp2_with fail
          refine (keyOf Ai ci zs _ hI (by omega) HZV.out).mono ?_
          rintro e w8 ⟨rfl, hb8⟩
          have hn8 := hn.below hb8
          have hB8 := hB.trans (hb8.mono hsz)
          have hs8 := hb8.size
          clear hn hB hb8
          go_wp2_with fail
          refine (buWriteS B B Q zs _ _ hn8 rfl (by omega) (by omega)).mono ?_
          rintro e w9 ⟨⟨v9, rfl⟩, hn9, hb9⟩
          have hB9 := hB8.trans hb9
          clear hn8 hB8 hb9
          go_wp2_with fail
          go_roundw
          case rel => exact ⟨k + 1, by omega, by go_num, by rw [HN.out, HQ.out]; exact hn9, hB9⟩
          case measure => simp [intOf]; omega
        · obtain rfl : k = ls.length := by omega
          rw [List.take_length] at hn
          obtain ⟨a1, a2⟩ := allIn_at HBA.out
          have HA2 := Lib.hid a2
          have hLl : (P ++ ls.flatten).length ≤ 100000 := by have := HFL.out ls.length (Nat.le_refl _); rw [List.take_length] at this; rw [List.length_append]; omega
          clear a2
          go_wp2_with fail
          refine (packed4 A3 c3 ys _ (H3.out.below hBw) a1 HA2.out).mono ?_
          rintro e w8 ⟨rfl, hb8⟩
          have hn8 := hn.below hb8
          have hB8 := belowStep hb8 hBw
          have hs8 := hb8.size
          have HPN := Lib.hid (strOfNums_add (P ++ ls.flatten) (bytesBy (nib ys) ((ys.length + 1) / 2)))
          have HE := Lib.hid (show encL ⟨xs, ls, ys⟩ = (P ++ ls.flatten ++ bytesBy (nib ys) ((ys.length + 1) / 2)) ++ bytesBy (numAt (cksum (strOfNums (P ++ ls.flatten ++ bytesBy (nib ys) ((ys.length + 1) / 2))).data.toList) 4) 4 from by
            have : bodyL ⟨xs, ls, ys⟩ = P ++ ls.flatten ++ bytesBy (nib ys) ((ys.length + 1) / 2) := by rw [← HP.out]; rfl
            rw [encL, this])
          have hNl : (bytesBy (nib ys) ((ys.length + 1) / 2)).length ≤ 100000 := by rw [bytesBy_len]; omega
          obtain ⟨N, hN⟩ : ∃ N, bytesBy (nib ys) ((ys.length + 1) / 2) = N := ⟨_, rfl⟩
          rw [hN] at HPN HE hNl ⊢
          clear hn hB hb8 hBw hN p2
          go_wp2_with fail
          refine (buWriteS B B (P ++ ls.flatten) N _ _ hn8 rfl (by omega) (by omega)).mono ?_
          rintro e w9 ⟨⟨v9, rfl⟩, hn9, hb9⟩
          have hML : (P ++ ls.flatten ++ N).length ≤ 200000 := by rw [List.length_append]; omega
          obtain ⟨M, hM⟩ : ∃ M, P ++ ls.flatten ++ N = M := ⟨_, rfl⟩
          rw [hM] at hn9 HE hML
          have hB9 := hB8.trans (hb9.mono (Nat.le_of_lt hlow))
          have hs9 := hb9.size
          clear hn8 hB8 hb9 hM
          go_wp2_with fail
          refine (buStrF B B M _ hn9.f (by omega)).mono ?_
          rintro e wa ⟨rfl, hfa, hba⟩
          have hBa := hB9.trans (hba.mono (Nat.le_of_lt hlow))
          have hsa := hba.size
          clear hn9 hB9 hba
          go_wp2_with fail
          refine (buStrF B B M _ hfa (by omega)).mono ?_
          rintro e wb ⟨rfl, hfb, hbb⟩
          have hBb := hBa.trans (hbb.mono (Nat.le_of_lt hlow))
          clear hfa hfb hBa hbb
          go_wp2_with fail
          refine (implSum _ _ (by rw [strOfNums_size]; omega)).mono ?_
          rintro e wc ⟨rfl, rfl⟩
          obtain ⟨k0, k1⟩ := ck_bd (strOfNums M).data.toList
          obtain ⟨ck, hck⟩ : ∃ ck, cksum (strOfNums M).data.toList = ck := ⟨_, rfl⟩
          rw [hck] at k0 k1 HE ⊢
          clear hck
          go_wp2_with fail
          refine (numberOf ck 4 _ (by decide)).mono ?_
          rintro e wd ⟨rfl, hbd⟩
          have hBd := belowStep hbd hBb
          have hz2 : ¬ 9223372036854775807 < (strOfNums M).size + (strOfNums (bytesBy (numAt ck 4) 4)).size := by rw [strOfNums_size, strOfNums_size, bytesBy_len]; omega
          have HA3 := Lib.hid (strOfNums_add M (bytesBy (numAt ck 4) 4))
          clear hbd hBb
          obtain ⟨V, hV⟩ : ∃ V, bytesBy (numAt ck 4) 4 = V := ⟨_, rfl⟩
          rw [hV] at HA3 HE hz2 ⊢
          clear hV
          go_wp2_with fail
          go_ret2
          exact ⟨ret_sb (by rw [HA3.out, ← HE.out]; exact HF.out.2) HF.out.1, hBd⟩
end Go.Proofs.Ytdkoegccfpdldaa
