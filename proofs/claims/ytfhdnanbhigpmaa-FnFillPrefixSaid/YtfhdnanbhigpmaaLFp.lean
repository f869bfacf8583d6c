/- FnFillPrefix: for every code the law returns true. No conditions. -/
import Derived.Test.YtfhdnanbhigpmaaWb
import Derived.Test.YtfhdnanbhigpmaaOpen
import Derived.Deep.RegionHeld3
import Derived.Deep.RegionWith
import Derived.Deep.CutRange
namespace Go.Proofs.Ytfhdnanbhigpmaa.lawFp
open Go.RowKit Go.ChangeShapes Go.WideShapes Go.ChangeAt Grp
set_option maxRecDepth 100000
set_option maxHeartbeats 8000000 in
theorem walk (A : Option Addr) (c : Nat) (xs : List Int) (w : World) (hx : BytesAt w A xs) (_hm : xs.length ≤ maxLen) :
    Calls Try.prog 6 #[.slice A xs.length c] w fun e w' => e = .returned (.bool true) ∧ Below w.heap.size w w' := by
  by_cases hl : 4096 < xs.length
  · have hd : decide (4096 < xs.length) = true := by simpa using hl
    go_enter Try.func6, Try.ntmps6
    go_wp2_with (first | (go_at_call 10; refine (big_any _ _ _ _).mono ?_; rintro e w' ⟨rfl, rfl⟩))
    go_ret
    exact ⟨rfl, Below.refl _ _⟩
  have hd : decide (4096 < xs.length) = false := by simpa using hl
  have hl4 : xs.length ≤ 4096 := by omega
  have HX := Lib.hid hx
  clear hl hx
  go_enter Try.func6, Try.ntmps6
  go_wp2_with (first | (go_at_call 10; refine (big_any _ _ _ _).mono ?_; rintro e w' ⟨rfl, rfl⟩))
  refine (rollG A c xs 912 w HX.out hl4).mono ?_
  rintro e w1 ⟨g, hg0, rfl, hD1, hg1, hb1⟩
  have HD1 := Lib.hid hD1
  have HB1 := Lib.hid hb1
  clear hd hD1 hb1
  go_wp2_with fail
  refine (drawPzl g A c xs w1 HD1.out hl4).mono ?_
  rintro e w2 ⟨n, nm, AP, ms, cP, rfl, hn3, hn5, hlm, hj1, hj3, hnm, hmv, hG2, hD2, hg2⟩
  have hQ := fun l (q : IsTrk l) => drawn_q hn3 hn5 hlm hj1 hj3 hnm hmv q
  have hS := drawn_rows hn5 hmv
  obtain ⟨p, hp⟩ : ∃ p : Pz, p = ⟨(n : Int), nm, ms⟩ := ⟨_, rfl⟩
  have e1 : (n : Int) = p.pts := by rw [hp]
  have e2 : nm = p.names := by rw [hp]
  have e3 : ms = p.moves := by rw [hp]
  have hml : p.moves.length ≤ 1048576 := by rw [← e3]; omega
  have hnl : p.names.size ≤ 1048576 := by rw [← e2]; omega
  rw [← hp] at hQ
  rw [e3] at hG2 hS
  rw [e1, e2, e3]
  have HQ := Lib.hid hQ
  have HS := Lib.hid hS
  have HG2 := Lib.hid hG2
  have HR2 := Lib.hid hg2
  obtain ⟨w3, hw3⟩ : ∃ w3, w2.alloc (.cells #[.int .i64 p.pts, .string p.names, .slice AP p.moves.length cP] 29) = w3 := ⟨_, rfl⟩
  have hb3 : Below w2.heap.size w2 w3 := by rw [← hw3]; exact (by repeat (first | exact Below.refl _ _ | assumption | refine Below.setCell ?_ (by first | omega | (simp <;> omega)) _ | refine Below.alloc ?_ (by first | omega | (simp <;> omega)) _ | refine Below.drew ?_))
  have RP3 : Hid (w3.heap[w2.heap.size]? = some (.cells #[.int .i64 p.pts, .string p.names, .slice AP p.moves.length cP] 29 (0, 0))) := by rw [← hw3]; exact heap_alloc_new _ _
  have HB3 := Lib.hid hb3
  have HD3 := Lib.hid (hD2.below hb3)
  have HW3 := Lib.hid hw3
  clear hn3 hn5 hlm hj1 hj3 hnm hmv hG2 hD2 hg2 hQ hS hp e1 e2 e3 hw3 hb3
  go_wp2_with fail
  rw [HW3.out]
  obtain ⟨P, hP⟩ : ∃ P, w2.heap.size = P := ⟨_, rfl⟩
  have HPE := Lib.hid hP
  have hPg : g < P := by have := HR2.out.size; omega
  rw [hP] at RP3 ⊢
  clear hP HW3
  refine (drawTrk g A c xs w3 HD3.out hl4).mono ?_
  rintro e w4 ⟨v4, trk, rfl, hT, hF4, hD4, hg4⟩
  obtain ⟨AT, cT, -, rfl, -⟩ := hF4.capped
  have HK4 := Lib.hid (lawK_drawn HX.out hg0 hg1 HB1.out HR2.out HG2.out HB3.out HPE.out.symm RP3.out hg4 hF4 hD4 hml HS.out hnl)
  have hq := HQ.out trk hT
  obtain ⟨lim, hlim⟩ : ∃ lim, w4.heap.size = lim := ⟨_, rfl⟩
  have hl4' : lim ≤ w4.heap.size := by omega
  rw [hlim] at HK4
  have HQT := Lib.hid hq
  have htl : trk.length ≤ 1048576 := by have := hq.len; omega
  have HK4z : g < w4.heap.size := HK4.out.gsz
  have hPl : P < lim := by have := row_lt RP3.out; have := hg4.size; omega
  clear hlim hT hF4 hD4 hg4 hq HQ HS HG2 HR2 HB3 RP3 HD3 HPE HD1 HB1
  obtain ⟨p0, p1, p2, -, -⟩ := row3 HK4.out.at_.row
  go_wp2_with fail
  refine (implStartFill AP cP p AT cT trk w4 HK4.out.at_.pz HK4.out.at_.tr htl).mono ?_
  intro e w5 hst
  rw [if_pos HQT.out.bld] at hst
  obtain ⟨At, ct, Al, Ad, lo, m1, m2, hi, hlo, rfl, hFT, hhi, hb5⟩ := hst
  have HT5 := Lib.hid (hFT.safe hhi)
  have HK5 := Lib.hid (HK4.out.below hb5)
  have hz5 := hb5.size
  clear hFT hhi hb5 p0 p1 p2 HK4
  have hi0 : chOk (mvsOf p.moves) trk 0 := fun j hj => absurd hj (Nat.not_lt_zero _)
  have HRN : Hid (∀ wx (y : Int), LawK w g lim A c xs (DrP P AP cP p AT trk) wx → TbS lo At Al Ad (chT p trk 0) wx → 0 ≤ y → Calls Try.prog 30 #[.agg #[.int .i64 p.pts, .string p.names, .slice AP p.moves.length cP], .agg #[.slice At trk.length ct, .slice Al 1 1, .slice Ad 1 1, .int .i64 0, .string ⟨#[]⟩, .int .i64 0], .int .i64 y] wx (RunK p trk 0 0 y wx)) := fun wx y k1 k2 k3 => runK HQT.out 0 0 y At Al Ad ct 1 1 k1.at_.pz k2 hi0 (by show (⟨#[]⟩ : ByteArray).size ≤ 60000; decide) (by decide) (by show (0 : Int) ≤ (((⟨#[]⟩ : ByteArray).size : Nat) : Int); decide) k3
  obtain ⟨nt, hnt⟩ : ∃ nt, trk.length = nt := ⟨_, rfl⟩
  obtain ⟨np, hnp⟩ : ∃ np, p.moves.length = np := ⟨_, rfl⟩
  rw [hnt, hnp] at HRN
  rw [hnt]
  have HNT := Lib.hid hnt
  have HNP := Lib.hid hnp
  obtain ⟨w6, hw6⟩ : ∃ w6, w5.alloc (.cells #[.slice At nt ct, .slice Al 1 1, .slice Ad 1 1, .int .i64 0, .string ⟨#[]⟩, .int .i64 0] 45) = w6 := ⟨_, rfl⟩
  have hb6 : Below w5.heap.size w5 w6 := by rw [← hw6]; exact (by repeat (first | exact Below.refl _ _ | assumption | refine Below.setCell ?_ (by first | omega | (simp <;> omega)) _ | refine Below.alloc ?_ (by first | omega | (simp <;> omega)) _ | refine Below.drew ?_))
  have RJ6 : Hid (w6.heap[w5.heap.size]? = some (.cells #[.slice At nt ct, .slice Al 1 1, .slice Ad 1 1, .int .i64 0, .string ⟨#[]⟩, .int .i64 0] 45 (0, 0))) := by rw [← hw6]; exact heap_alloc_new _ _
  have HK6 := Lib.hid (HK5.out.below hb6)
  have HT6 := Lib.hid (HT5.out.below hb6)
  have HW6 := Lib.hid hw6
  have hJl : lim ≤ w5.heap.size := HK5.out.limle
  have hgl := HK5.out.glt
  clear hw6 hb6 hnt hnp HK5 HT5
  go_upto_region 9 with fail
  rw [HW6.out]
  obtain ⟨J, hJ⟩ : ∃ J, w5.heap.size = J := ⟨_, rfl⟩
  rw [hJ] at RJ6 hJl ⊢
  clear hJ hz5 HW6
  have hJz := row_lt RJ6.out
  have hlo6 : g < lo := by have := HK4z; omega
  have HK6d := Lib.hid (HK6.out.below ((Below.refl _ _).drew))
  have HT6d := Lib.hid (HT6.out.below ((Below.refl _ _).drew))
  have hrp := HK6.out.at_.row
  rw [HNP.out] at hrp
  have RP6 := Lib.hid hrp
  clear hrp
  obtain ⟨p0, p1, p2, -, pl⟩ := row3 RP6.out
  obtain ⟨j0, j1, j2, j3, j4, j5, -, jl⟩ := row6 RJ6.out
  go_cut [8] from 14 to 112 (fun v wx => ∃ (i : Nat) (A1 : Option Addr) (c1 : Nat) (A2 : Option Addr) (c2 : Nat) (A3 : Option Addr) (c3 : Nat), v = .int .i64 (i : Int) ∧ chOk (mvsOf p.moves) trk i ∧ (chF (mvsOf p.moves) trk i).2.size ≤ 60000 ∧ DrJ J p trk i 0 (J + 1) A1 c1 A2 c2 A3 c3 wx ∧ LawK w g lim A c xs (DrP P AP cP p AT trk) wx)
  case first =>
    go_region_with (first
      | (go_at_call 31; refine (diceBelow g A c xs 8 _ (by first | exact HK6d.out.dice | exact HK6.out.dice) hl4 (by decide) (by decide)).mono ?_; rintro e w7 ⟨y, rfl, y0, y1, hD7, hg7⟩; have HK7 := Lib.hid (LawK.roll (by first | exact HK6d.out | exact HK6.out) hD7 hg7); have HT7 := Lib.hid (TbS.roll (by first | exact HT6d.out | exact HT6.out) hg7 hlo6); have hz7 := hg7.size; have RJ7 : Hid (w7.heap[J]? = some (.cells #[.slice At nt ct, .slice Al 1 1, .slice Ad 1 1, .int .i64 0, .string ⟨#[]⟩, .int .i64 0] 45 (0, 0))) := rowR hg7 (by exact RJ6.out) (fun e => by injection e with e; omega); have RP7 : Hid (w7.heap[P]? = some (.cells #[.int .i64 p.pts, .string p.names, .slice AP np cP] 29 (0, 0))) := rowR hg7 (by exact RP6.out) (fun e => by injection e with e; omega); obtain ⟨q0, q1, q2, -, -⟩ := row3 RP7.out; obtain ⟨k0, k1, k2, k3, k4, k5, -, kl⟩ := row6 RJ7.out)
      | (go_at_call 30; refine (HRN.out _ y (by first | exact HK7.out | exact HK7.out.below ((Below.refl _ _).drew)) (by first | exact HT7.out | exact HT7.out.below ((Below.refl _ _).drew)) y0).mono ?_; rintro e w8 ⟨c8, i8, B1, b1, B2, b2, B3, b3, hi8, hcs, hok8, hs8, -, rfl, hT8, hb8⟩; unfold jobV; obtain ⟨l1, hl1⟩ : ∃ l, (chT p trk i8).trk.length = l := ⟨_, rfl⟩; obtain ⟨l2, hl2⟩ : ∃ l, (chT p trk i8).pats.length = l := ⟨_, rfl⟩; obtain ⟨l3, hl3⟩ : ∃ l, (chT p trk i8).dist.length = l := ⟨_, rfl⟩; obtain ⟨lg8, hlg8⟩ : ∃ l, (chF (mvsOf p.moves) trk i8).2 = l := ⟨_, rfl⟩; rw [hl1, hl2, hl3, hlg8]; have HL1 := Lib.hid hl1; have HL2 := Lib.hid hl2; have HL3 := Lib.hid hl3; have HLG8 := Lib.hid hlg8; clear hl1 hl2 hl3 hlg8; have RJ8 := Lib.hid (rowB hb8 RJ7.out); have HB8 := Lib.hid hb8; have HT8 := Lib.hid hT8; have hz8 := hb8.size; obtain ⟨z0, z1, z2, -, -⟩ := row3 (rowB hb8 RP7.out); obtain ⟨x0, x1, x2, x3, x4, x5, xF, xl⟩ := row6 RJ8.out))
    all_goals
      go_wp2_with fail
      go_meet
      obtain rfl : i8 = c8 := by omega
      obtain rfl := HL1.out
      obtain rfl := HL2.out
      obtain rfl := HL3.out
      obtain rfl := HLG8.out
      have hgr := grown6 w8 J (.slice B1 (chT p trk i8).trk.length b1) (.slice B2 (chT p trk i8).pats.length b2) (.slice B3 (chT p trk i8).dist.length b3) (.int .i64 (i8 : Int)) (.string (chF (mvsOf p.moves) trk i8).2) (.int .i64 0)
      exact ⟨i8, B1, b1, B2, b2, B3, b3, rfl, hok8, hs8, ⟨row6S RJ8.out _ _ _ _ _ _, (HT8.out.roll hgr (by omega)).less (by omega)⟩, (HK7.out.below HB8.out).put hgr hJl⟩
  case rest =>
  obtain ⟨i, A1, c1, A2, c2, A3, c3, rfl, hok, hsz, ⟨hrow, hTJ⟩, hKc⟩ := hcut
  obtain ⟨wd, hwd⟩ : ∃ wd, wc = wd := ⟨_, rfl⟩
  rw [hwd] at hrow hTJ hKc ⊢
  have HOK := Lib.hid hok
  have HSELF := Lib.hid (rec_self hok)
  have HCUT := Lib.hid (fun (k m : Nat) (q1 : k ≤ (chF (mvsOf p.moves) trk i).2.size) (q2 : RecAt (mvsOf p.moves) trk ((chF (mvsOf p.moves) trk i).2.extract 0 k) m) => rec_cut hok q1 q2)
  have HSH := Lib.hid (short_ch HQT.out.bld hok)
  have hsm := (fun (B1 B2 B3 D1 D2 D3 : Option Addr) (b1 b2 b3 d1 d2 d3 l1 l2 : Nat) (wx : World) (q1 : TbS l1 B1 B2 B3 (chT p trk i) wx) (q2 : TbS l2 D1 D2 D3 (chT p trk i) wx) => sameK HSH.out B1 B2 B3 D1 D2 D3 b1 b2 b3 d1 d2 d3 q1 q2)
  have hrc := (fun (lg : ByteArray) (wx : World) (q1 : LawK w g lim A c xs (DrP P AP cP p AT trk) wx) (q2 : lg.size ≤ 60000) => recK (c := cP) HQT.out AT cT lg q1.at_.pz q1.at_.tr q2)
  have HTJ := Lib.hid hTJ
  obtain ⟨l1, hl1⟩ : ∃ l, (chT p trk i).trk.length = l := ⟨_, rfl⟩
  obtain ⟨l2, hl2⟩ : ∃ l, (chT p trk i).pats.length = l := ⟨_, rfl⟩
  obtain ⟨l3, hl3⟩ : ∃ l, (chT p trk i).dist.length = l := ⟨_, rfl⟩
  obtain ⟨lg, hlg⟩ : ∃ l, (chF (mvsOf p.moves) trk i).2 = l := ⟨_, rfl⟩
  rw [hl1, hl2, hl3, hlg] at hrow
  rw [hlg] at hsz HCUT HSELF
  rw [hl1, hl2, hl3] at hsm
  have HSAME := Lib.hid hsm
  rw [HNT.out, HNP.out] at hrc
  have HRC := Lib.hid hrc
  clear hsm hrc
  have HL1 := Lib.hid hl1
  have HL2 := Lib.hid hl2
  have HL3 := Lib.hid hl3
  have HLG := Lib.hid hlg
  have HKc := Lib.hid hKc
  have RJc := Lib.hid hrow
  have hw1 : IntKind.i64.wrap ((lg.size : Int) + 1) = (lg.size : Int) + 1 := IntWalk.i64_in _ (by omega)
  have n0 : ¬ (i : Int) < 0 := by omega
  clear hwd hok hrow hTJ hKc hl1 hl2 hl3 hlg p0 p1 p2 pl j0 j1 j2 j3 j4 j5 jl HK6 HT6 HK6d HT6d RJ6 RP6 HRN hi0 hJz
  obtain ⟨j0, j1, j2, j3, j4, j5, -, jl⟩ := row6 RJc.out
  go_wp2_with fail
  refine (diceBelow g A c xs ((lg.size : Int) + 1) wd HKc.out.dice hl4 (by omega) (by omega)).mono ?_
  rintro e w9 ⟨y, rfl, y0, y1, hD9, hg9⟩
  obtain ⟨a, rfl⟩ : ∃ a : Nat, y = (a : Int) := ⟨y.toNat, by omega⟩
  have ha1 : (a : Int) ≤ (lg.size : Int) := by omega
  have HK9 := Lib.hid (HKc.out.roll hD9 hg9)
  have HT9 := Lib.hid (HTJ.out.roll hg9 (by omega))
  have RJ9 := Lib.hid (rowR hg9 RJc.out (fun e => by injection e with e; omega))
  have hJ9 := row_lt RJ9.out
  clear hD9 hg9 j0 j1 j2 j3 j4 j5 jl RJc HKc HTJ hw1
  have hrp := HK9.out.at_.row
  rw [HNP.out] at hrp
  have RP9 := Lib.hid hrp
  clear hrp
  obtain ⟨p0, p1, p2, -, pl⟩ := row3 RP9.out
  obtain ⟨j0, j1, j2, j3, j4, j5, -, jl⟩ := row6 RJ9.out
  have ha0 : (0 : Int) ≤ (a : Int) := by omega
  have hcs9 : (lg.extract 0 a).size ≤ 60000 := by rw [ByteArray.size_extract]; omega
  have HCS9 := Lib.hid hcs9
  have HK9d := Lib.hid (HK9.out.below ((Below.refl _ _).drew))
  have HK9a := Lib.hid (HK9.out.below (((Below.refl _ _).alloc (Nat.le_refl _) (.cells #[.slice none 0 0, .slice none 0 0, .slice none 0 0, .int .i64 0, .string ⟨#[]⟩, .int .i64 0] 45)).drew))
  clear hcs9
  go_upto_region 13 with fail
  go_cut [10, 11] from 14 to 112 (fun x v wx => ∃ (X m : Nat) (B1 : Option Addr) (b1 : Nat) (B2 : Option Addr) (b2 : Nat) (B3 : Option Addr) (b3 : Nat), x = .pointer (some ⟨X, 0, none⟩) ∧ v = .bool true ∧ RecAt (mvsOf p.moves) trk (lg.extract 0 a) m ∧ DrJ X p trk m ((chF (mvsOf p.moves) trk m).2.size : Int) w9.heap.size B1 b1 B2 b2 B3 b3 wx ∧ Below w9.heap.size w9 wx)
  case first =>
    go_region_with ((go_at_call 36; refine (HRC.out _ _ (by first | exact HK9d.out | exact HK9a.out | exact HK9.out) HCS9.out).mono ?_; rintro e w10 ⟨m, B1, b1, B2, b2, B3, b3, hrec, rfl, hT10, hb10⟩; unfold jobV; obtain ⟨l1', hl1'⟩ : ∃ l, (chT p trk m).trk.length = l := ⟨_, rfl⟩; obtain ⟨l2', hl2'⟩ : ∃ l, (chT p trk m).pats.length = l := ⟨_, rfl⟩; obtain ⟨l3', hl3'⟩ : ∃ l, (chT p trk m).dist.length = l := ⟨_, rfl⟩; obtain ⟨lg', hlg'⟩ : ∃ l, (chF (mvsOf p.moves) trk m).2 = l := ⟨_, rfl⟩; rw [hl1', hl2', hl3', hlg']; have HL1' := Lib.hid hl1'; have HL2' := Lib.hid hl2'; have HL3' := Lib.hid hl3'; have HLG' := Lib.hid hlg'; clear hl1' hl2' hl3' hlg'; have T10 : Below w9.heap.size w9 w10 := belowStep hb10 (by first | exact (Below.refl _ _).drew | exact ((Below.refl _ _).alloc (Nat.le_refl _) _).drew | exact Below.refl _ _); have HT10 := Lib.hid hT10; (try (have RX : w10.heap[w9.heap.size]? = some (.cells #[.slice none 0 0, .slice none 0 0, .slice none 0 0, .int .i64 0, .string ⟨#[]⟩, .int .i64 0] 45 (0, 0)) := rowB hb10 (by exact heap_alloc_new w9 _))); (try (have RR := row6 RX; obtain ⟨x0, x1, x2, x3, x4, x5, xF, xl⟩ := RR; have HRX := Lib.hid RX; clear RX)); obtain ⟨q0, q1, q2, -, -⟩ := row3 (rowB T10 RP9.out); obtain ⟨-, -, -, -, k4, -, -, -⟩ := row6 (rowB T10 RJ9.out)))
    all_goals (go_wp2_with fail)
    all_goals
      go_meet
      obtain rfl := HL1'.out
      obtain rfl := HL2'.out
      obtain rfl := HL3'.out
      obtain rfl := HLG'.out
      first
        | (have _t := HRX; exact ⟨w9.heap.size, m, B1, b1, B2, b2, B3, b3, rfl, rfl, hrec, ⟨row6S HRX.out _ _ _ _ _ _, (HT10.out.roll (grown6 _ _ _ _ _ _ _ _) (by simp)).less (by simp)⟩, T10.grown (grown6 _ _ _ _ _ _ _ _) T10.size (fun b e => by injection e with e; subst e; exact Nat.le_refl _)⟩)
        | exact ⟨w10.heap.size, m, B1, b1, B2, b2, B3, b3, rfl, rfl, hrec, ⟨heap_alloc_new _ _, (HT10.out.below ((Below.refl _ _).alloc (Nat.le_refl _) _)).less (Nat.le_refl _)⟩, T10.alloc T10.size _⟩
  case rest =>
  obtain ⟨X, m, B1, b1, B2, b2, B3, b3, rfl, rfl, hrec, ⟨hrx, htx⟩, hbx⟩ := hcut
  obtain ⟨we, hwe⟩ : ∃ we, wc = we := ⟨_, rfl⟩
  rw [hwe] at hrx htx hbx ⊢
  obtain ⟨hmi, hma, hml⟩ := HCUT.out a m (by omega) hrec
  have hokm := hrec.ok
  have hszm : (chF (mvsOf p.moves) trk m).2.size ≤ 60000 := by omega
  have hvl := (fun (wx : World) (q1 : LawK w g lim A c xs (DrP P AP cP p AT trk) wx) (q2 : TbS w9.heap.size B1 B2 B3 (chT p trk m) wx) => validK (c := cP) HQT.out m ((chF (mvsOf p.moves) trk m).2.size : Int) B1 B2 B3 b1 b2 b3 q1.at_.pz q2 hokm hszm (by omega) (Int.le_refl _))
  unfold jobV at hvl
  obtain ⟨m1', hm1⟩ : ∃ l, (chT p trk m).trk.length = l := ⟨_, rfl⟩
  obtain ⟨m2', hm2⟩ : ∃ l, (chT p trk m).pats.length = l := ⟨_, rfl⟩
  obtain ⟨m3', hm3⟩ : ∃ l, (chT p trk m).dist.length = l := ⟨_, rfl⟩
  obtain ⟨lgm, hlgm⟩ : ∃ l, (chF (mvsOf p.moves) trk m).2 = l := ⟨_, rfl⟩
  rw [hm1, hm2, hm3, hlgm, HNP.out] at hvl
  rw [hm1, hm2, hm3, hlgm] at hrx
  rw [hlgm] at hma hml
  have HVL := Lib.hid hvl
  have HKe := Lib.hid (HK9.out.below hbx)
  have HTe := Lib.hid (HT9.out.below hbx)
  have HXe := Lib.hid htx
  have RJe := Lib.hid (rowB hbx RJ9.out)
  have RXe := Lib.hid hrx
  have RPe := Lib.hid (rowB hbx RP9.out)
  have HML := Lib.hid hml
  have hma' : (lgm.size : Int) ≤ (a : Int) := by omega
  have hlm0 : (0 : Int) ≤ (lgm.size : Int) := by omega
  have hlm1 : (lgm.size : Int) ≤ (lg.size : Int) := by omega
  have hmi' : (m : Int) ≤ (i : Int) := by omega
  have hze := hbx.size
  have hXe := row_lt hrx
  clear hwe hrx htx hbx hrec hokm hszm hvl hm1 hm2 hm3 hlgm hml hmi hma p0 p1 p2 pl j0 j1 j2 j3 j4 j5 jl HK9 HT9 RJ9 RP9 HK9d HK9a HCUT HCS9
  obtain ⟨p0, p1, p2, -, pl⟩ := row3 RPe.out
  obtain ⟨j0, j1, j2, j3, j4, j5, -, jl⟩ := row6 RJe.out
  go_wp2_with fail
  refine (HRC.out lg we HKe.out hsz).mono ?_
  rintro e wf ⟨i2, D1, d1, D2, d2, D3, d3, hrec2, rfl, hTf, hbf⟩
  obtain rfl := hrec2.one HSELF.out
  unfold jobV
  rw [HL1.out, HL2.out, HL3.out, HLG.out]
  obtain ⟨wg, hwg⟩ : ∃ wg, wf.alloc (.cells #[.slice D1 l1 d1, .slice D2 l2 d2, .slice D3 l3 d3, .int .i64 (i2 : Int), .string lg, .int .i64 (lg.size : Int)] 45) = wg := ⟨_, rfl⟩
  have hbg : Below wf.heap.size wf wg := by rw [← hwg]; exact (by repeat (first | exact Below.refl _ _ | assumption | refine Below.setCell ?_ (by first | omega | (simp <;> omega)) _ | refine Below.alloc ?_ (by first | omega | (simp <;> omega)) _ | refine Below.drew ?_))
  have RYg : Hid (wg.heap[wf.heap.size]? = some (.cells #[.slice D1 l1 d1, .slice D2 l2 d2, .slice D3 l3 d3, .int .i64 (i2 : Int), .string lg, .int .i64 (lg.size : Int)] 45 (0, 0))) := by rw [← hwg]; exact heap_alloc_new _ _
  have hbg' := belowStep hbg hbf
  have HKg := Lib.hid (HKe.out.below hbg')
  have HTg := Lib.hid (HTe.out.below hbg')
  have HXg := Lib.hid (HXe.out.below hbg')
  have HYg := Lib.hid (hTf.below hbg)
  have RJg := Lib.hid (rowB hbg' RJe.out)
  have RXg := Lib.hid (rowB hbg' RXe.out)
  have RPg := Lib.hid (rowB hbg' RPe.out)
  have HWG := Lib.hid hwg
  clear hwg hbg hbg' hbf hTf hrec2 p0 p1 p2 pl j0 j1 j2 j3 j4 j5 jl HKe HTe HXe RJe RXe RPe
  go_upto_region 15 with fail
  rw [HWG.out]
  obtain ⟨Y, hY⟩ : ∃ Y, wf.heap.size = Y := ⟨_, rfl⟩
  rw [hY] at RYg ⊢
  clear hY HWG
  obtain ⟨p0, p1, p2, -, pl⟩ := row3 RPg.out
  obtain ⟨j0, j1, j2, j3, j4, j5, -, jl⟩ := row6 RJg.out
  obtain ⟨x0, x1, x2, x3, x4, x5, -, xl⟩ := row6 RXg.out
  obtain ⟨y0', y1', y2, y3, y4, y5, -, yl⟩ := row6 RYg.out
  have hstr : (lgm.toList == (lg.extract 0 lgm.size).toList) = true := by rw [HML.out]; simp
  go_region_held3 (fun w' => w'.cell? ⟨P, 0, none⟩ = some (.int .i64 p.pts) ∧ w'.cell? ⟨P, 1, none⟩ = some (.string p.names) ∧ w'.cell? ⟨P, 2, none⟩ = some (.slice AP np cP) ∧ w'.cell? ⟨X, 0, none⟩ = some (.slice B1 m1' b1) ∧ w'.cell? ⟨X, 1, none⟩ = some (.slice B2 m2' b2) ∧ w'.cell? ⟨X, 2, none⟩ = some (.slice B3 m3' b3) ∧ w'.cell? ⟨X, 3, none⟩ = some (.int .i64 (m : Int)) ∧ w'.cell? ⟨X, 4, none⟩ = some (.string lgm) ∧ w'.cell? ⟨X, 5, none⟩ = some (.int .i64 (lgm.size : Int)) ∧ w'.cell? ⟨Y, 0, none⟩ = some (.slice D1 l1 d1) ∧ w'.cell? ⟨Y, 1, none⟩ = some (.slice D2 l2 d2) ∧ w'.cell? ⟨Y, 2, none⟩ = some (.slice D3 l3 d3) ∧ w'.cell? ⟨Y, 3, none⟩ = some (.int .i64 (i2 : Int)) ∧ w'.cell? ⟨J, 0, none⟩ = some (.slice A1 l1 c1) ∧ w'.cell? ⟨J, 1, none⟩ = some (.slice A2 l2 c2) ∧ w'.cell? ⟨J, 2, none⟩ = some (.slice A3 l3 c3) ∧ w'.cell? ⟨J, 3, none⟩ = some (.int .i64 (i2 : Int)) ∧ w'.cell? ⟨J, 4, none⟩ = some (.string lg)) (first | go_keep | exact ⟨p0, p1, p2, x0, x1, x2, x3, x4, x5, y0', y1', y2, y3, j0, j1, j2, j3, j4⟩ | exact ⟨p0a, p1a, p2a, x0a, x1a, x2a, x3a, x4a, x5a, y0a', y1a', y2a, y3a, j0a, j1a, j2a, j3a, j4a⟩ | exact ⟨p0b, p1b, p2b, x0b, x1b, x2b, x3b, x4b, x5b, y0b', y1b', y2b, y3b, j0b, j1b, j2b, j3b, j4b⟩) (first
    | (go_at_call 37; refine (HVL.out _ (by first | exact HKg.out | exact HKg.out.below ((Below.refl _ _).drew) | exact HKg.out.below TB) (by first | exact HXg.out | exact HXg.out.below ((Below.refl _ _).drew) | exact HXg.out.below TB)).mono ?_; rintro e wh ⟨rfl, hbh⟩; have TA : Below wg.heap.size wg wh := belowStep hbh (by first | exact (Below.refl _ _).drew | exact Below.refl _ _); obtain ⟨p0a, p1a, p2a, -, -⟩ := row3 (rowB TA RPg.out); obtain ⟨j0a, j1a, j2a, j3a, j4a, j5a, -, -⟩ := row6 (rowB TA RJg.out); obtain ⟨x0a, x1a, x2a, x3a, x4a, x5a, -, -⟩ := row6 (rowB TA RXg.out); obtain ⟨y0a', y1a', y2a, y3a, y4a, y5a, -, -⟩ := row6 (rowB TA RYg.out))
    | (go_at_call 35; refine (HSAME.out _ _ _ _ _ _ _ _ _ _ _ _ _ _ _ (by first | exact HYg.out.below TA | exact HYg.out | exact HYg.out.below ((Below.refl _ _).drew)) (by first | exact HTg.out.below TA | exact HTg.out | exact HTg.out.below ((Below.refl _ _).drew))).mono ?_; rintro e wi ⟨rfl, hbi⟩; have TB : Below wg.heap.size wg wi := belowStep hbi (by first | exact TA | exact (Below.refl _ _).drew | exact Below.refl _ _); obtain ⟨p0b, p1b, p2b, -, -⟩ := row3 (rowB TB RPg.out); obtain ⟨j0b, j1b, j2b, j3b, j4b, j5b, -, -⟩ := row6 (rowB TB RJg.out); obtain ⟨x0b, x1b, x2b, x3b, x4b, x5b, -, -⟩ := row6 (rowB TB RXg.out); obtain ⟨y0b', y1b', y2b, y3b, y4b, y5b, -, -⟩ := row6 (rowB TB RYg.out)))
  go_wp2_with fail
  go_ret
  exact ⟨rfl, (HKg.out.below TB).bel⟩
theorem own : ownKnob Try.prog.godebug = none := by kernel_rfl
theorem laidOut : laidOutB Try.prog = true := by kernel_rfl
set_option maxRecDepth 100000 in
theorem lifted (os : Os) (started : os.Started) (H : Type) (enc : TypeId × Value → H) :
    ReturnsInHanded {} Try.checked os 6 .any (Rows.fnFillPrefixSpec.pre6 enc Try.prog Try.f6 Rows.fnFillPrefixRow.domain false) (Rows.fnFillPrefixSpec.post enc Try.prog Try.f6 false true false false) := by
  refine returnsInHanded_of_change (C := Try.checked) own started (by kernel_rfl) Try.func6
    (ChangeSpec.witness6 (enc := enc) (C := Try.checked) false ⟨#[], #[.slice none 0 0], []⟩ 8 (by kernel_rfl) (by kernel_rfl) (by kernel_rfl) (by kernel_rfl)) ?_
  intro W base args ds gs before hval0 hW hcnd _
  have hval : ∀ (j : Nat) t v, Try.f6.params[j]? = some t → args[j]? = some v → Value.okWide Try.prog W .any base t v := hval0
  have hW' := hW
  obtain ⟨p, q, hA0, hV, rfl, hfz, hnd⟩ := hW
  have hA : DataW.TrodAll enc Try.prog W 0 (fun _ => true) true Try.f6.params.toList args.toList ds p := hA0
  rw [Try.params6] at hA hval
  obtain ⟨v0, vs0, d0, ds0, p0, q0, hargs, rfl, rfl, h0, r0⟩ := trodAll_cons hA
  obtain ⟨rfl, rfl, rfl⟩ := trodAll_nil r0
  obtain rfl : args = #[v0] := by cases args; simp_all
  obtain ⟨rfl, rfl⟩ := trodVars_none hV
  have lt0 : ∀ x ∈ p0, x.block < W.heap.size := by obtain ⟨m, hm⟩ := h0; exact DataW.trod_lt m _ _ _ hm
  obtain ⟨A0, c0, x0, rfl, i0, m0⟩ := arg_bytes (hval 0 22 v0 rfl rfl) h0
  clear hA0 hval0
  refine (walk A0 c0 x0 W i0 m0).mono fun e W' ⟨he, bel⟩ => ?_
  subst he
  exact ⟨_, rfl, _, _, _, [], _, [], hW', trodAll_mk1 (shut_bool Try.underlying4 _), (trodAll_cons_mk (Below.trod laidOut (by kernel_rfl) (of_decide_eq_true (by kernel_rfl)) h0 bel lt0) trodAll_mk0), rfl, bel.frame _, fun h => by cases h⟩
theorem fact_wf : Rows.fnFillPrefixRow.wf (OpenSpec.ofChange Rows.fnFillPrefixSpec) = true := by kernel_rfl
theorem fact_pars : Try.f6.params.all (Try.prog.readableRec ·) = true := by kernel_rfl
theorem fact_tie : namedTie Try.prog Rows.fnFillPrefixRow.named Rows.fnFillPrefixSpec.vars = true := by kernel_rfl
theorem fact_st : (Rows.fnFillPrefixRow.stops == []) = true := by kernel_rfl
theorem fact_kn : (Rows.fnFillPrefixRow.knobs == []) = true := by kernel_rfl
theorem fact_inp : (Rows.fnFillPrefixRow.inPlace == Try.prog.inPlace 6) = true := by kernel_rfl
theorem fact_unf : (Rows.fnFillPrefixRow.unfollowed == Try.prog.unfollowed 6) = true := by kernel_rfl
theorem fact_rec : (Rows.fnFillPrefixRow.recurses == Try.prog.recurses 6) = true := by kernel_rfl
theorem fact_nam : (Rows.fnFillPrefixRow.named == Try.prog.varsNamed 6) = true := by kernel_rfl
theorem fact_mp : (Rows.fnFillPrefixRow.maps == (Try.f6.params.toList ++ Rows.fnFillPrefixSpec.plain.varTypes Try.prog).any (Try.prog.mapsRec ·)) = true := by kernel_rfl
theorem fact_ifc : (Rows.fnFillPrefixRow.ifaces == (Try.f6.params.toList ++ Rows.fnFillPrefixSpec.plain.varTypes Try.prog).any (Try.prog.ifacesRec ·)) = true := by kernel_rfl
theorem fact_mo : (Rows.fnFillPrefixRow.mapsOut == Try.prog.mapsAmong Try.f6.resultTypes.toList) = true := by kernel_rfl
theorem fact_lo : (Rows.fnFillPrefixRow.loops == (Try.f6.params.toList ++ Rows.fnFillPrefixSpec.plain.varTypes Try.prog).any (Try.prog.loopsFrom ·)) = true := by kernel_rfl
theorem fact_wk : (Rows.fnFillPrefixRow.wideKeys == (Try.f6.params.toList ++ Rows.fnFillPrefixSpec.plain.varTypes Try.prog ++ Try.f6.resultTypes.toList).any (Try.prog.wideKeysFrom ·)) = true := by kernel_rfl
theorem fact_vs : Rows.fnFillPrefixSpec.vars.all (Try.prog.varReadable ·) = true := by kernel_rfl
theorem fact_res : Try.f6.resultTypes.all (fun t => Try.prog.readableRec t && decide (t < Try.prog.types.size)) = true := by kernel_rfl
theorem fact_io : (Rows.fnFillPrefixRow.ifacesOut == Try.f6.resultTypes.toList.any (Try.prog.ifacesRec ·)) = true := by kernel_rfl
theorem fact_loo : (Rows.fnFillPrefixRow.loopsOut == Try.f6.resultTypes.toList.any (Try.prog.loopsFrom ·)) = true := by kernel_rfl
theorem fact_pk : (Rows.fnFillPrefixRow.plainKeys == Try.prog.plainKeys) = true := by kernel_rfl
theorem fact_sh : Rows.fnFillPrefixRow.shortTexts.isNone = true := by kernel_rfl
theorem fact_li : (Rows.fnFillPrefixRow.lifted == Try.prog.liftsFinal) = true := by rw [fact_finals]; rfl
theorem fact_mk : (Try.prog.make == some Rows.fnFillPrefixRow.make) = true := by rw [fact_make]; rfl
theorem fact_kd : (Rows.fnFillPrefixRow.kinds == (if Rows.fnFillPrefixRow.domain.isEmpty then [] else Try.f6.params.toList.map fun t => match Try.prog.underlying t with | some (.int k) => some k | _ => none)) = true := by kernel_rfl
theorem fact_pi : (Rows.fnFillPrefixRow.pinned == Rows.fnFillPrefixRow.pinnedBy) = true := by kernel_rfl
theorem fact_ve : (Rows.fnFillPrefixRow.veiled == (Try.f6.params.toList ++ Rows.fnFillPrefixSpec.plain.varTypes Try.prog ++ Try.f6.resultTypes.toList).any (Try.prog.veiledRec ·)) = true := by kernel_rfl
theorem fact_vf : Rows.fnFillPrefixRow.veiledFits Try.prog Try.f6.params.toList (Try.f6.params.toList ++ Rows.fnFillPrefixSpec.plain.varTypes Try.prog ++ Try.f6.resultTypes.toList) = true := by kernel_rfl
set_option maxRecDepth 100000 in
theorem facts : joinedFacts Try.prog 6 Try.f6 Rows.fnFillPrefixSpec Rows.fnFillPrefixRow = true := facts_of fact_wf fact_laid fact_rowed fact_pars fact_tie fact_st fact_pst fact_kn fact_pkn fact_inp fact_unf fact_rec fact_nam fact_mp fact_ifc fact_mo fact_lo fact_wk fact_vs fact_res fact_io fact_loo fact_pk fact_sh fact_hd fact_me fact_li fact_mk fact_kd fact_pi fact_ve fact_vf
theorem fact_fn : Try.prog.funcNamed Rows.fnFillPrefixRow.func = some 6 := by kernel_rfl
theorem fact_inst : Try.f6.isInstance Try.prog Rows.fnFillPrefixRow.origin Rows.fnFillPrefixRow.targs := of_decide_eq_true (by kernel_rfl)
theorem fact_wrap : Try.f6.isWrapper Try.prog Rows.fnFillPrefixRow.wrapper Rows.fnFillPrefixRow.mainSum := by unfold Func.isWrapper; first | (rw [if_pos (by decide +kernel)]; kernel_rfl) | (rw [if_neg (by decide +kernel)]; exact ⟨rfl, rfl⟩)
theorem over : Rows.fnFillPrefixRow.holds Try.pinned (OpenSpec.ofChange Rows.fnFillPrefixSpec) :=
  OpenClaim.holds_of_wide 6 Try.f6 rfl rfl rfl rfl rfl rfl rfl ⟨rfl, rfl, rfl, rfl, rfl⟩ rfl rfl rfl rfl rfl fact_fn Try.func6 facts fact_inst fact_wrap
    (fun os started H enc _ => lifted os started H enc)
theorem proved : Rows.FnFillPrefixSaid := over
#print axioms proved
end Go.Proofs.Ytfhdnanbhigpmaa.lawFp
