/- FnFillCrashes: for every code the law returns true. No conditions. -/
import Derived.Test.YtfhdnanbhigpmaaWc
import Derived.Test.YtfhdnanbhigpmaaOpen
import Derived.Deep.RegionHeld3
import Derived.Deep.RegionWith
import Derived.Deep.CutRange
namespace Go.Proofs.Ytfhdnanbhigpmaa.lawFk
open Go.RowKit Go.ChangeShapes Go.WideShapes Go.ChangeAt Grp
set_option maxRecDepth 100000
set_option maxHeartbeats 8000000 in
theorem walk (A : Option Addr) (c : Nat) (xs : List Int) (w : World) (hx : BytesAt w A xs) (_hm : xs.length ≤ maxLen) :
    Calls Try.prog 5 #[.slice A xs.length c] w fun e w' => e = .returned (.bool true) ∧ Below w.heap.size w w' := by
  by_cases hl : 4096 < xs.length
  · have hd : decide (4096 < xs.length) = true := by simpa using hl
    go_enter Try.func5, Try.ntmps5
    go_wp2_with (first | (go_at_call 10; refine (big_any _ _ _ _).mono ?_; rintro e w' ⟨rfl, rfl⟩))
    go_ret
    exact ⟨rfl, Below.refl _ _⟩
  have hd : decide (4096 < xs.length) = false := by simpa using hl
  have hl4 : xs.length ≤ 4096 := by omega
  have HX := Lib.hid hx
  clear hl hx
  go_enter Try.func5, Try.ntmps5
  go_wp2_with (first | (go_at_call 10; refine (big_any _ _ _ _).mono ?_; rintro e w' ⟨rfl, rfl⟩))
  refine (rollG A c xs 911 w HX.out hl4).mono ?_
  rintro e w1 ⟨g, hg0, rfl, hD1, hg1, hb1⟩
  have HD1 := Lib.hid hD1
  have HB1 := Lib.hid hb1
  clear hd hD1 hb1
  go_wp2_with fail
  refine (drawPzl g A c xs w1 HD1.out hl4).mono ?_
  rintro e w2 ⟨n, nm, AP, ms, cP, rfl, hn3, hn5, hlm, hj1, hj3, hnm, hmv, hG2, hD2, hg2⟩
  have hQ := fun l (q : IsTrk l) => drawn_q hn3 hn5 hlm hj1 hj3 hnm hmv q
  have hS := drawn_rows hn5 hmv
  obtain ⟨p, hp⟩ : ∃ p : Pz, p = ⟨(n : Int), nm, ms⟩ := ⟨_, rfl⟩
  have e1 : (n : Int) = p.pts := by rw [hp]
  have e2 : nm = p.names := by rw [hp]
  have e3 : ms = p.moves := by rw [hp]
  have hml : p.moves.length ≤ 1048576 := by rw [← e3]; omega
  have hnl : p.names.size ≤ 1048576 := by rw [← e2]; omega
  rw [← hp] at hQ
  rw [e3] at hG2 hS
  rw [e1, e2, e3]
  have HQ := Lib.hid hQ
  have HS := Lib.hid hS
  have HG2 := Lib.hid hG2
  have HR2 := Lib.hid hg2
  obtain ⟨w3, hw3⟩ : ∃ w3, w2.alloc (.cells #[.int .i64 p.pts, .string p.names, .slice AP p.moves.length cP] 29) = w3 := ⟨_, rfl⟩
  have hb3 : Below w2.heap.size w2 w3 := by rw [← hw3]; exact (by repeat (first | exact Below.refl _ _ | assumption | refine Below.setCell ?_ (by first | omega | (simp <;> omega)) _ | refine Below.alloc ?_ (by first | omega | (simp <;> omega)) _ | refine Below.drew ?_))
  have RP3 : Hid (w3.heap[w2.heap.size]? = some (.cells #[.int .i64 p.pts, .string p.names, .slice AP p.moves.length cP] 29 (0, 0))) := by rw [← hw3]; exact heap_alloc_new _ _
  have HB3 := Lib.hid hb3
  have HD3 := Lib.hid (hD2.below hb3)
  have HW3 := Lib.hid hw3
  clear hn3 hn5 hlm hj1 hj3 hnm hmv hG2 hD2 hg2 hQ hS hp e1 e2 e3 hw3 hb3
  go_wp2_with fail
  rw [HW3.out]
  obtain ⟨P, hP⟩ : ∃ P, w2.heap.size = P := ⟨_, rfl⟩
  have HPE := Lib.hid hP
  have hPg : g < P := by have := HR2.out.size; omega
  rw [hP] at RP3 ⊢
  clear hP HW3
  refine (drawTrk g A c xs w3 HD3.out hl4).mono ?_
  rintro e w4 ⟨v4, trk, rfl, hT, hF4, hD4, hg4⟩
  obtain ⟨AT, cT, -, rfl, -⟩ := hF4.capped
  have HK4 := Lib.hid (lawK_drawn HX.out hg0 hg1 HB1.out HR2.out HG2.out HB3.out HPE.out.symm RP3.out hg4 hF4 hD4 hml HS.out hnl)
  have hq := HQ.out trk hT
  obtain ⟨lim, hlim⟩ : ∃ lim, w4.heap.size = lim := ⟨_, rfl⟩
  have hl4' : lim ≤ w4.heap.size := by omega
  rw [hlim] at HK4
  have HQT := Lib.hid hq
  have htl : trk.length ≤ 1048576 := by have := hq.len; omega
  have HK4z : g < w4.heap.size := HK4.out.gsz
  have hPl : P < lim := by have := row_lt RP3.out; have := hg4.size; omega
  clear hlim hT hF4 hD4 hg4 hq HQ HS HG2 HR2 HB3 RP3 HD3 HPE HD1 HB1
  obtain ⟨p0, p1, p2, -, -⟩ := row3 HK4.out.at_.row
  go_wp2_with fail
  refine (builtK HQT.out AT cT HK4.out.at_.pz HK4.out.at_.tr).mono ?_
  rintro e w5 ⟨r, E1, e1, E2, e2, E3, e3, hrs, rfl, hT5, hb5⟩
  have HRS := Lib.hid hrs
  have HT5 := Lib.hid hT5
  have HK5 := Lib.hid (HK4.out.below hb5)
  have hz5 := hb5.size
  obtain ⟨nt, hnt⟩ : ∃ nt, trk.length = nt := ⟨_, rfl⟩
  obtain ⟨np, hnp⟩ : ∃ np, p.moves.length = np := ⟨_, rfl⟩
  obtain ⟨r2, hr2⟩ : ∃ l, r.ls.length = l := ⟨_, rfl⟩
  obtain ⟨r3, hr3⟩ : ∃ l, r.ds.length = l := ⟨_, rfl⟩
  obtain ⟨lw, hlw⟩ : ∃ l, w4.heap.size = l := ⟨_, rfl⟩
  rw [hlw] at HT5 HK4z hl4' hz5
  rw [hnt, hr2, hr3]
  obtain ⟨w6, hw6⟩ : ∃ w6, w5.alloc (.cells #[.slice E1 nt e1, .slice E2 r2 e2, .slice E3 r3 e3] 34) = w6 := ⟨_, rfl⟩
  have hb6 : Below w5.heap.size w5 w6 := by rw [← hw6]; exact (by repeat (first | exact Below.refl _ _ | assumption | refine Below.setCell ?_ (by first | omega | (simp <;> omega)) _ | refine Below.alloc ?_ (by first | omega | (simp <;> omega)) _ | refine Below.drew ?_))
  have RW6 : w6.heap[w5.heap.size]? = some (.cells #[.slice E1 nt e1, .slice E2 r2 e2, .slice E3 r3 e3] 34 (0, 0)) := by rw [← hw6]; exact heap_alloc_new _ _
  have hk6 := LawK.table (HK5.out.below hb6) (HT5.out.below hb6) HK4z RW6 (by omega)
  obtain ⟨F, hF⟩ : ∃ F : World → Prop, (fun wx : World => DrP P AP cP p AT trk wx ∧ wx.heap[w5.heap.size]? = some (.cells #[.slice E1 nt e1, .slice E2 r2 e2, .slice E3 r3 e3] 34 (0, 0)) ∧ TbS lw E1 E2 E3 ⟨trk, r.ls, r.ds⟩ wx) = F := ⟨_, rfl⟩
  rw [hF] at hk6
  have HFA := Lib.hid (fun (wx : World) (q : F wx) => (show DrP P AP cP p AT trk wx ∧ wx.heap[w5.heap.size]? = some (.cells #[.slice E1 nt e1, .slice E2 r2 e2, .slice E3 r3 e3] 34 (0, 0)) ∧ TbS lw E1 E2 E3 ⟨trk, r.ls, r.ds⟩ wx by rw [← hF] at q; exact q))
  clear hF
  have HK6 := Lib.hid hk6
  have hlm6 := (HK5.out.below hb6).limle
  have HW6 := Lib.hid hw6
  have hrp := HK5.out.at_.row
  rw [hnp] at hrp
  have RP5 := Lib.hid hrp
  have HNT := Lib.hid hnt
  have HNP := Lib.hid hnp
  have HR2 := Lib.hid hr2
  have HR3 := Lib.hid hr3
  clear hrs hT5 hb5 hnt hnp hr2 hr3 hlw hw6 hb6 hk6 hrp p0 p1 p2 HK4 HK5 HT5
  obtain ⟨p0, p1, p2, -, pl⟩ := row3 RP5.out
  go_wp2_with fail
  rw [HW6.out]
  obtain ⟨W, hW⟩ : ∃ W, w5.heap.size = W := ⟨_, rfl⟩
  rw [hW] at HFA RW6 ⊢
  have hWl := row_lt RW6
  obtain ⟨li6, hli6⟩ : ∃ l, w6.heap.size = l := ⟨_, rfl⟩
  rw [hli6] at HK6 hWl
  have hlw6 : li6 ≤ w6.heap.size := by omega
  have hlim6 : lim ≤ li6 := by omega
  have hPl6 : P < li6 := by omega
  clear hli6 hW HW6 hlm6 RW6
  have hst := implStartFill AP cP p AT cT trk w6 (HFA.out _ HK6.out.at_).1.pz (HFA.out _ HK6.out.at_).1.tr htl
  rw [HNT.out, HNP.out] at hst
  refine hst.mono ?_
  clear hst
  intro e w7 hst
  rw [if_pos HQT.out.bld] at hst
  obtain ⟨At, ct, Al, Ad, lo, m1, m2, hi, hlo, rfl, hFT, hhi, hb7⟩ := hst
  have HT7 := Lib.hid (hFT.safe hhi)
  have HK7 := Lib.hid (HK6.out.below hb7)
  have hz7 := hb7.size
  rw [HNT.out]
  clear hFT hhi hb7 p0 p1 p2 pl HK6 RP5
  obtain ⟨w8, hw8⟩ : ∃ w8, w7.alloc (.cells #[.slice At nt ct, .slice Al 1 1, .slice Ad 1 1, .int .i64 0, .string ⟨#[]⟩, .int .i64 0] 45) = w8 := ⟨_, rfl⟩
  have hb8 : Below w7.heap.size w7 w8 := by rw [← hw8]; exact (by repeat (first | exact Below.refl _ _ | assumption | refine Below.setCell ?_ (by first | omega | (simp <;> omega)) _ | refine Below.alloc ?_ (by first | omega | (simp <;> omega)) _ | refine Below.drew ?_))
  have RJ8 : Hid (w8.heap[w7.heap.size]? = some (.cells #[.slice At nt ct, .slice Al 1 1, .slice Ad 1 1, .int .i64 0, .string ⟨#[]⟩, .int .i64 0] 45 (0, 0))) := by rw [← hw8]; exact heap_alloc_new _ _
  have HK8 := Lib.hid (HK7.out.below hb8)
  have HT8 := Lib.hid (HT7.out.below hb8)
  have HW8 := Lib.hid hw8
  have hJl : li6 ≤ w7.heap.size := HK7.out.limle
  have HK6z : g < w6.heap.size := by omega
  have hgl := HK7.out.glt
  have hlo6 : w7.heap.size < w8.heap.size := row_lt RJ8.out
  have RP7 := Lib.hid (HFA.out _ HK7.out.at_).1.row
  rw [HNP.out] at RP7
  clear hw8 hb8 HT7
  obtain ⟨p0, p1, p2, -, pl⟩ := row3 RP7.out
  go_wp2_with fail
  rw [HW8.out]
  obtain ⟨J, hJ⟩ : ∃ J, w7.heap.size = J := ⟨_, rfl⟩
  rw [hJ] at RJ8 hJl hlo6 ⊢
  have HCR : Hid (CrI w g li6 A c xs F J p trk w8) := ⟨0, 0, lo, At, ct, Al, 1, Ad, 1, fun j hj => absurd hj (Nat.not_lt_zero _), by show (⟨#[]⟩ : ByteArray).size ≤ 60000; decide, Int.le_refl _, by show (0 : Int) ≤ (((⟨#[]⟩ : ByteArray).size : Nat) : Int); decide, by have := HK6z; omega, ⟨by rw [ch_zero, HNT.out]; exact RJ8.out, HT8.out⟩, HK8.out⟩
  clear hJ HW8 HK7 RP7 RJ8 HK8 HT8 p0 p1 p2 pl
  go_loopw [10] (fun v wr => ∃ k : Nat, k ≤ 5 ∧ v = .int .i64 (k : Int) ∧ Hid (CrI w g li6 A c xs F J p trk wr)) (fun v _ => 5 - (intOf v).toNat)
  case atStart => exact ⟨0, by omega, rfl, HCR.out⟩
  case round =>
    obtain ⟨k, hk, rfl, HCR2⟩ := hrel
    obtain ⟨i, sy, lo2, A1, c1, A2, c2, A3, c3, hok, hsz, hs0, hs1, hglo, ⟨hrow, hT⟩, hK⟩ := HCR2.out
    clear HCR HCR2
    have HOK := Lib.hid hok
    have hrn := fun (wx : World) (y : Int) (q1 : LawK w g li6 A c xs F wx) (q2 : TbS lo2 A1 A2 A3 (chT p trk i) wx) (q3 : 0 ≤ y) => runK (c := cP) HQT.out i sy y A1 A2 A3 c1 c2 c3 (HFA.out _ q1.at_).1.pz q2 hok hsz hs0 hs1 q3
    unfold jobV at hrn
    have hmono := fun i2 (q : i ≤ i2) => ch_size (mvs := mvsOf p.moves) (trk := trk) i (i2 - i)
    have hmn : ∀ i2, i ≤ i2 → (chF (mvsOf p.moves) trk i).2.size ≤ (chF (mvsOf p.moves) trk i2).2.size := fun i2 q => by
      have := hmono i2 q
      rwa [show i + (i2 - i) = i2 from by omega] at this
    obtain ⟨l1, hl1⟩ : ∃ l, (chT p trk i).trk.length = l := ⟨_, rfl⟩
    obtain ⟨l2, hl2⟩ : ∃ l, (chT p trk i).pats.length = l := ⟨_, rfl⟩
    obtain ⟨l3, hl3⟩ : ∃ l, (chT p trk i).dist.length = l := ⟨_, rfl⟩
    obtain ⟨lg, hlg⟩ : ∃ l, (chF (mvsOf p.moves) trk i).2 = l := ⟨_, rfl⟩
    rw [hl1, hl2, hl3, hlg, HNP.out] at hrn
    rw [hl1, hl2, hl3, hlg] at hrow
    rw [hlg] at hmn hs1 hsz
    have HRN := Lib.hid hrn
    have HMN := Lib.hid hmn
    have HT := Lib.hid hT
    have HK := Lib.hid hK
    have RJ := Lib.hid hrow
    have HL1 := Lib.hid hl1
    have HL2 := Lib.hid hl2
    have HL3 := Lib.hid hl3
    have HLG := Lib.hid hlg
    have RP : Hid (wr.heap[P]? = some (.cells #[.int .i64 p.pts, .string p.names, .slice AP np cP] 29 (0, 0))) := by
      have := (HFA.out _ HK.out.at_).1.row
      rwa [HNP.out] at this
    have hJw := row_lt hrow
    have hliw := hK.limle
    clear hok hT hK hrow hrn hmono hmn hl1 hl2 hl3 hlg
    by_cases hlt : k < 5
    · have q0 : (k : Int) < 5 := by omega
      have HKd := Lib.hid (HK.out.below ((Below.refl _ _).drew))
      have HTd := Lib.hid (HT.out.below ((Below.refl _ _).drew))
      have HKa := Lib.hid (HK.out.below (((Below.refl _ _).alloc (Nat.le_refl _) (.cells #[.slice none 0 0, .slice none 0 0, .slice none 0 0, .int .i64 0, .string ⟨#[]⟩, .int .i64 0] 45)).drew))
      have HTa := Lib.hid (HT.out.below (((Below.refl _ _).alloc (Nat.le_refl _) (.cells #[.slice none 0 0, .slice none 0 0, .slice none 0 0, .int .i64 0, .string ⟨#[]⟩, .int .i64 0] 45)).drew))
      obtain ⟨p0, p1, p2, -, pl⟩ := row3 RP.out
      obtain ⟨j0, j1, j2, j3, j4, j5, -, jl⟩ := row6 RJ.out
      go_upto_region 13 with fail
      go_cut [11, 12] from 48 to 116 (fun x v wx => ∃ (R m i2 : Nat) (B1 : Option Addr) (b1 : Nat) (B2 : Option Addr) (b2 : Nat) (B3 : Option Addr) (b3 : Nat), x = .pointer (some ⟨R, 0, none⟩) ∧ v = .int .i64 (m : Int) ∧ i ≤ i2 ∧ chOk (mvsOf p.moves) trk i2 ∧ (chF (mvsOf p.moves) trk i2).2.size ≤ 60000 ∧ DrJ R p trk i2 sy (J + 1) B1 b1 B2 b2 B3 b3 wx ∧ R ≠ J ∧ wx.heap[J]? = some (.cells #[.slice A1 l1 c1, .slice A2 l2 c2, .slice A3 l3 c3, .int .i64 (i : Int), .string lg, .int .i64 sy] 45 (0, 0)) ∧ LawK w g li6 A c xs F wx)
      case first =>
        go_region_held3 (fun w' => w'.cell? ⟨P, 0, none⟩ = some (.int .i64 p.pts) ∧ w'.cell? ⟨P, 1, none⟩ = some (.string p.names) ∧ w'.cell? ⟨P, 2, none⟩ = some (.slice AP np cP) ∧ w'.cell? ⟨J, 0, none⟩ = some (.slice A1 l1 c1) ∧ w'.cell? ⟨J, 1, none⟩ = some (.slice A2 l2 c2) ∧ w'.cell? ⟨J, 2, none⟩ = some (.slice A3 l3 c3) ∧ w'.cell? ⟨J, 3, none⟩ = some (.int .i64 (i : Int)) ∧ w'.cell? ⟨J, 4, none⟩ = some (.string lg) ∧ w'.cell? ⟨J, 5, none⟩ = some (.int .i64 sy)) (first | with_reducible exact ⟨s0, s1, s2, r0, r1, r2', r3', r4, r5⟩ | with_reducible exact ⟨z0, z1, z2, y0', y1', y2, y3, y4, y5⟩ | with_reducible exact ⟨q0', q1, q2, k0, k1, k2, k3, k4, k5⟩ | with_reducible exact ⟨p0, p1, p2, j0, j1, j2, j3, j4, j5⟩ | go_keep) (first
          | (go_at_call 31; refine (diceBelow g A c xs 5 _ (by first | exact HKd.out.dice | exact HKa.out.dice) hl4 (by decide) (by decide)).mono ?_; rintro e x7 ⟨y, rfl, y0, y1, hD7, hg7⟩; have HK7 := Lib.hid (LawK.roll (by first | exact HKd.out | exact HKa.out) hD7 hg7); have HT7 := Lib.hid (TbS.roll (by first | exact HTd.out | exact HTa.out) hg7 hglo); have hz7 : wr.heap.size ≤ x7.heap.size := Nat.le_trans (by first | exact Nat.le_refl _ | simp) hg7.size; have RJ7 : Hid (x7.heap[J]? = some (.cells #[.slice A1 l1 c1, .slice A2 l2 c2, .slice A3 l3 c3, .int .i64 (i : Int), .string lg, .int .i64 sy] 45 (0, 0))) := rowR hg7 (by first | exact RJ.out | exact rowB (((Below.refl _ _).alloc (Nat.le_refl _) (.cells #[.slice none 0 0, .slice none 0 0, .slice none 0 0, .int .i64 0, .string ⟨#[]⟩, .int .i64 0] 45)).drew) RJ.out) (fun e => by injection e with e; omega); have RP7 : Hid (x7.heap[P]? = some (.cells #[.int .i64 p.pts, .string p.names, .slice AP np cP] 29 (0, 0))) := rowR hg7 (by first | exact RP.out | exact rowB (((Below.refl _ _).alloc (Nat.le_refl _) (.cells #[.slice none 0 0, .slice none 0 0, .slice none 0 0, .int .i64 0, .string ⟨#[]⟩, .int .i64 0] 45)).drew) RP.out) (fun e => by injection e with e; omega); (try (have RX : x7.heap[wr.heap.size]? = some (.cells #[.slice none 0 0, .slice none 0 0, .slice none 0 0, .int .i64 0, .string ⟨#[]⟩, .int .i64 0] 45 (0, 0)) := rowR hg7 (by exact heap_alloc_new wr _) (fun e => by injection e with e; omega))); (try (have hXl := row_lt RX)); obtain ⟨q0', q1, q2, -, ql⟩ := row3 RP7.out; obtain ⟨k0, k1, k2, k3, k4, k5, -, kl⟩ := row6 RJ7.out)
          | (go_at_call 30; refine (HRN.out _ y (by first | exact HK7.out | exact HK7.out.below ((Below.refl _ _).alloc (Nat.le_refl _) _)) (by first | exact HT7.out | exact HT7.out.below ((Below.refl _ _).alloc (Nat.le_refl _) _)) y0).mono ?_; rintro e x8 ⟨c8, i8, B1, b1, B2, b2, B3, b3, hi8, hcs, hok8, hs8, -, rfl, hT8, hb8⟩; unfold jobV; obtain ⟨m1', hl1'⟩ : ∃ l, (chT p trk i8).trk.length = l := ⟨_, rfl⟩; obtain ⟨m2', hl2'⟩ : ∃ l, (chT p trk i8).pats.length = l := ⟨_, rfl⟩; obtain ⟨m3', hl3'⟩ : ∃ l, (chT p trk i8).dist.length = l := ⟨_, rfl⟩; obtain ⟨lg8, hlg8⟩ : ∃ l, (chF (mvsOf p.moves) trk i8).2 = l := ⟨_, rfl⟩; rw [hl1', hl2', hl3', hlg8]; have HM1 := Lib.hid hl1'; have HM2 := Lib.hid hl2'; have HM3 := Lib.hid hl3'; have HLG8 := Lib.hid hlg8; have HI8 := Lib.hid hi8; clear hl1' hl2' hl3' hlg8 hi8; have T8 : Below x7.heap.size x7 x8 := belowStep hb8 (by first | exact Below.refl _ _ | exact (Below.refl _ _).alloc (Nat.le_refl _) _); have HT8 := Lib.hid hT8; have RJ8 := Lib.hid (rowB T8 RJ7.out); have HK8 := Lib.hid (HK7.out.below T8); have hz8 := hb8.size; have HLO8 : Hid (TbS x7.heap.size B1 B2 B3 (chT p trk i8) x8) := hT8.less (by first | exact Nat.le_refl _ | simp); (try (replace RX := rowB T8 RX)); (try (have RX : x8.heap[x7.heap.size]? = some (.cells #[.slice none 0 0, .slice none 0 0, .slice none 0 0, .int .i64 0, .string ⟨#[]⟩, .int .i64 0] 45 (0, 0)) := rowB hb8 (by exact heap_alloc_new x7 _))); (try (have RR := row6 RX; obtain ⟨x0, x1, x2, x3, x4, x5, xF, xl⟩ := RR; have HRX := Lib.hid RX; clear RX)); obtain ⟨z0, z1, z2, -, zl⟩ := row3 (rowB T8 RP7.out); obtain ⟨y0', y1', y2, y3, y4, y5, -, yl⟩ := row6 RJ8.out; (try (have RR := row3 (rowKeep HRX.out (rowB T8 RP7.out) (by omega) (.slice B1 m1' b1) (.slice B2 m2' b2) (.slice B3 m3' b3) (.int .i64 (i8 : Int)) (.string lg8) (.int .i64 sy)); obtain ⟨s0, s1, s2, -, -⟩ := RR; have RQ := row6 (rowKeep HRX.out RJ8.out (by omega) (.slice B1 m1' b1) (.slice B2 m2' b2) (.slice B3 m3' b3) (.int .i64 (i8 : Int)) (.string lg8) (.int .i64 sy)); obtain ⟨r0, r1, r2', r3', r4, r5, -, -⟩ := RQ))))
        all_goals (go_wp2_with fail)
        all_goals
          go_meet
          obtain rfl := HM1.out
          obtain rfl := HM2.out
          obtain rfl := HM3.out
          obtain rfl := HLG8.out
          have hi8 := HI8.out
          first
            | (have _t := HRX; exact ⟨_, c8, i8, B1, b1, B2, b2, B3, b3, rfl, rfl, by omega, hok8, hs8, ⟨row6S HRX.out _ _ _ _ _ _, (HT8.out.roll (grown6 _ _ _ _ _ _ _ _) (by first | omega | (simp; done))).less (by first | omega | (simp; omega))⟩, by omega, rowKeep HRX.out RJ8.out (by omega) _ _ _ _ _ _, HK8.out.put (grown6 _ _ _ _ _ _ _ _) (by omega)⟩)
            | exact ⟨x8.heap.size, c8, i8, B1, b1, B2, b2, B3, b3, rfl, rfl, by omega, hok8, hs8, ⟨heap_alloc_new _ _, (HLO8.out.below ((Below.refl _ _).alloc (Nat.le_refl _) _)).less (by omega)⟩, by omega, rowB ((Below.refl _ _).alloc (Nat.le_refl _) _) RJ8.out, HK8.out.below ((Below.refl _ _).alloc (Nat.le_refl _) _)⟩
      case rest =>
      obtain ⟨R, m, i2, B1, b1, B2, b2, B3, b3, rfl, rfl, hii, hok2, hs2, ⟨hrr, hTR⟩, hRJ, hrj, hK2⟩ := hcut
      obtain ⟨wd, hwd⟩ : ∃ wd, wc = wd := ⟨_, rfl⟩
      rw [hwd] at hrr hTR hrj hK2 ⊢
      have hsy2 : sy ≤ ((chF (mvsOf p.moves) trk i2).2.size : Int) := by have := HMN.out i2 hii; omega
      have HCR3 := Lib.hid (CrI.of (b1 := b1) (b2 := b2) (b3 := b3) hK2 hJl hrj hTR (Nat.lt_succ_self J) hok2 hs2 hs0 hsy2 rfl rfl rfl rfl)
      obtain ⟨m1', hm1⟩ : ∃ l, (chT p trk i2).trk.length = l := ⟨_, rfl⟩
      obtain ⟨m2', hm2⟩ : ∃ l, (chT p trk i2).pats.length = l := ⟨_, rfl⟩
      obtain ⟨m3', hm3⟩ : ∃ l, (chT p trk i2).dist.length = l := ⟨_, rfl⟩
      obtain ⟨lg2, hlg2⟩ : ∃ l, (chF (mvsOf p.moves) trk i2).2 = l := ⟨_, rfl⟩
      rw [hm1, hm2, hm3, hlg2] at hrr HCR3
      rw [hlg2] at hsy2 hs2
      obtain ⟨x0, x1, x2, x3, x4, x5, -, xl⟩ := row6 hrr
      clear p0 p1 p2 pl j0 j1 j2 j3 j4 j5 jl HKd HTd HKa HTa HRN HMN HT HK RJ RP HL1 HL2 HL3 HLG HOK hs1 hsz hwd
      obtain ⟨j0, j1, j2, j3, j4, j5, jF, jl⟩ := row6 hrj
      have RR := Lib.hid hrr
      have HTR := Lib.hid hTR
      have HK2 := Lib.hid hK2
      have HOK2 := Lib.hid hok2
      have RJd := Lib.hid hrj
      have HM1 := Lib.hid hm1
      have HM2 := Lib.hid hm2
      have HM3 := Lib.hid hm3
      have HLG2 := Lib.hid hlg2
      have hm0 : ¬ (m : Int) < 0 := by omega
      clear hrr hTR hK2 hok2 hrj hm1 hm2 hm3 hlg2
      obtain ⟨we, hwe⟩ : ∃ we, ((((((wd.setCell ⟨J, 0, none⟩ (.slice B1 m1' b1)).setCell ⟨J, 1, none⟩ (.slice B2 m2' b2)).setCell ⟨J, 2, none⟩ (.slice B3 m3' b3)).setCell ⟨J, 3, none⟩ (.int .i64 (i2 : Int))).setCell ⟨J, 4, none⟩ (.string lg2)).setCell ⟨J, 5, none⟩ (.int .i64 sy)) = we := ⟨_, rfl⟩
      rw [hwe] at HCR3
      have hgr := grown6 wd J (.slice B1 m1' b1) (.slice B2 m2' b2) (.slice B3 m3' b3) (.int .i64 (i2 : Int)) (.string lg2) (.int .i64 sy)
      rw [hwe] at hgr
      have HWE := Lib.hid hwe
      have hwz : wd.heap.size ≤ we.heap.size := hgr.size
      clear hwe hgr
      go_wp2_with fail
      rw [HWE.out]
      have HKe := Lib.hid (by obtain ⟨_, _, _, _, _, _, _, _, _, _, _, _, _, _, _, q⟩ := HCR3.out; exact q : LawK w g li6 A c xs F we)
      refine (diceBelow g A c xs 3 we HKe.out.dice hl4 (by decide) (by decide)).mono ?_
      rintro e wf ⟨y, rfl, y0, y1, hDf, hgf⟩
      have RJe := row6S RJd.out (.slice B1 m1' b1) (.slice B2 m2' b2) (.slice B3 m3' b3) (.int .i64 (i2 : Int)) (.string lg2) (.int .i64 sy)
      have HTe := HTR.out.roll (grown6 wd J (.slice B1 m1' b1) (.slice B2 m2' b2) (.slice B3 m3' b3) (.int .i64 (i2 : Int)) (.string lg2) (.int .i64 sy)) (Nat.lt_succ_self J)
      rw [HWE.out] at RJe HTe
      have RJf : Hid (wf.heap[J]? = some (.cells #[.slice B1 m1' b1, .slice B2 m2' b2, .slice B3 m3' b3, .int .i64 (i2 : Int), .string lg2, .int .i64 sy] 45 (0, 0))) := rowR hgf RJe (fun e => by injection e with e; omega)
      have HTf := Lib.hid (HTe.roll hgf (by omega))
      have HKf := Lib.hid (HKe.out.roll hDf hgf)
      have hJf := row_lt RJf.out
      have hsz3 : (chF (mvsOf p.moves) trk i2).2.size ≤ 60000 := by rw [HLG2.out]; exact hs2
      have hsy3 : sy ≤ ((chF (mvsOf p.moves) trk i2).2.size : Int) := by rw [HLG2.out]; exact hsy2
      have RPf : Hid (wf.heap[P]? = some (.cells #[.int .i64 p.pts, .string p.names, .slice AP np cP] 29 (0, 0))) := by
        have := (HFA.out _ HKf.out.at_).1.row
        rwa [HNP.out] at this
      clear RJe HTe hDf hgf HCR3 HWE HKe RR HTR HK2 RJd x0 x1 x2 x3 x4 x5 xl j0 j1 j2 j3 j4 j5 jF jl
      have hy : y = 0 ∨ y = 1 ∨ y = 2 := by omega
      rcases hy with rfl | rfl | rfl
      · have hsyn := fun (wx : World) (q1 : LawK w g li6 A c xs F wx) (q2 : TbS (J + 1) B1 B2 B3 (chT p trk i2) wx) => syncK (c := cP) HQT.out i2 sy B1 B2 B3 b1 b2 b3 (HFA.out _ q1.at_).1.pz q2 HOK2.out hsz3 hs0 hsy3
        unfold jobV at hsyn
        rw [HM1.out, HM2.out, HM3.out, HLG2.out, HNP.out] at hsyn
        have HSYN := Lib.hid hsyn
        clear hsyn hsz3 hsy3
        obtain ⟨p0, p1, p2, -, pl⟩ := row3 RPf.out
        obtain ⟨j0, j1, j2, j3, j4, j5, -, jl⟩ := row6 RJf.out
        go_wp2_with fail
        refine (HSYN.out wf HKf.out HTf.out).mono ?_
        rintro e wg ⟨D1, d1, D2, d2, D3, d3, rfl, hTg, hbg⟩
        unfold jobV
        rw [HM1.out, HM2.out, HM3.out, HLG2.out]
        clear p0 p1 p2 pl j0 j1 j2 j3 j4 j5 jl
        obtain ⟨wh, hwh⟩ : ∃ wh, wg.alloc (.cells #[.slice D1 m1' d1, .slice D2 m2' d2, .slice D3 m3' d3, .int .i64 (i2 : Int), .string lg2, .int .i64 (lg2.size : Int)] 45) = wh := ⟨_, rfl⟩
        have hbh : Below wg.heap.size wg wh := by rw [← hwh]; exact (by repeat (first | exact Below.refl _ _ | assumption | refine Below.setCell ?_ (by first | omega | (simp <;> omega)) _ | refine Below.alloc ?_ (by first | omega | (simp <;> omega)) _ | refine Below.drew ?_))
        have hrs : wh.heap[wg.heap.size]? = some (.cells #[.slice D1 m1' d1, .slice D2 m2' d2, .slice D3 m3' d3, .int .i64 (i2 : Int), .string lg2, .int .i64 (lg2.size : Int)] 45 (0, 0)) := by rw [← hwh]; exact heap_alloc_new _ _
        have HKh := Lib.hid ((HKf.out.below hbg).below hbh)
        have HTh := Lib.hid (hTg.below hbh)
        have RJg := Lib.hid (rowB hbg RJf.out)
        have RJh := Lib.hid (rowB hbh RJg.out)
        obtain ⟨s0, s1, s2, s3, s4, s5, -, sl⟩ := row6 hrs
        obtain ⟨j0, j1, j2, j3, j4, j5, jF, jl⟩ := row6 RJh.out
        have hne : J ≠ wg.heap.size := by have := row_lt RJg.out; omega
        clear hTg hbg hbh hrs
        go_wp2_with fail
        clear s0 s1 s2 s3 s4 s5 sl j0 j1 j2 j3 j4 j5 jF jl hwh
        go_roundw
        case rel => exact ⟨k + 1, by omega, by go_num, CrI.of HKh.out hJl RJh.out HTh.out hJf HOK2.out (by rw [HLG2.out]; exact hs2) (by omega) (Int.le_refl _) HM1.out HM2.out HM3.out HLG2.out⟩
        case measure => simp [intOf]; omega
      · have hcr := fun (kk : Nat) (wx : World) (q1 : LawK w g li6 A c xs F wx) (q2 : TbS (J + 1) B1 B2 B3 (chT p trk i2) wx) (q3 : sy ≤ (kk : Int)) (q4 : kk ≤ (chF (mvsOf p.moves) trk i2).2.size) => crashK (c := cP) HQT.out i2 sy B1 B2 B3 b1 b2 b3 kk (HFA.out _ q1.at_).1.pz q2 HOK2.out hsz3 hs0 hsy3 q3 q4
        have hcut := fun (kk m2 : Nat) (q1 : kk ≤ (chF (mvsOf p.moves) trk i2).2.size) (q2 : RecAt (mvsOf p.moves) trk ((chF (mvsOf p.moves) trk i2).2.extract 0 kk) m2) => rec_cut HOK2.out q1 q2
        unfold jobV at hcr
        rw [HM1.out, HM2.out, HM3.out, HLG2.out, HNP.out] at hcr
        rw [HLG2.out] at hcut
        have HCRA := Lib.hid hcr
        have HCUT := Lib.hid hcut
        clear hcr hcut hsz3 hsy3
        obtain ⟨p0, p1, p2, -, pl⟩ := row3 RPf.out
        obtain ⟨j0, j1, j2, j3, j4, j5, -, jl⟩ := row6 RJf.out
        go_upto_if 89 with fail
        go_cut [15] from 48 to 116 (fun v wx => ∃ kk : Nat, v = .int .i64 (kk : Int) ∧ sy ≤ (kk : Int) ∧ kk ≤ lg2.size ∧ wx.heap[J]? = some (.cells #[.slice B1 m1' b1, .slice B2 m2' b2, .slice B3 m3' b3, .int .i64 (i2 : Int), .string lg2, .int .i64 sy] 45 (0, 0)) ∧ TbS (J + 1) B1 B2 B3 (chT p trk i2) wx ∧ LawK w g li6 A c xs F wx)
        case first =>
          by_cases hss : sy < (lg2.size : Int)
          · have hwa : IntKind.i64.wrap ((lg2.size : Int) - sy) = (lg2.size : Int) - sy := IntWalk.i64_in _ (by omega)
            have hwb : IntKind.i64.wrap ((lg2.size : Int) - sy + 1) = (lg2.size : Int) - sy + 1 := IntWalk.i64_in _ (by omega)
            have HKfd := Lib.hid (HKf.out.below ((Below.refl _ _).drew))
            go_wp2_with fail
            go_region_held3 (fun w' => w'.cell? ⟨J, 5, none⟩ = some (.int .i64 sy)) (first | with_reducible exact v5 | exact j5 | go_keep) ((go_at_call 31; refine (diceBelow g A c xs ((lg2.size : Int) - sy + 1) _ (by first | exact HKfd.out.dice | exact HKf.out.dice) hl4 (by omega) (by omega)).mono ?_; rintro e wk ⟨z, rfl, z0, z1, hDk, hgk⟩; have HKk := Lib.hid (LawK.roll (by first | exact HKfd.out | exact HKf.out) hDk hgk); have RJk : Hid (wk.heap[J]? = some (.cells #[.slice B1 m1' b1, .slice B2 m2' b2, .slice B3 m3' b3, .int .i64 (i2 : Int), .string lg2, .int .i64 sy] 45 (0, 0))) := rowR hgk (by exact RJf.out) (fun e => by injection e with e; omega); have HTk := Lib.hid (TbS.roll (by first | exact HTf.out | exact HTf.out.below ((Below.refl _ _).drew)) hgk (by omega)); have hwc : IntKind.i64.wrap (sy + z) = sy + z := IntWalk.i64_in _ (by omega); obtain ⟨-, -, -, -, -, v5, -, -⟩ := row6 RJk.out))
            go_wp2_with fail
            go_meet
            exact ⟨(sy + z).toNat, by rw [Int.toNat_of_nonneg (by omega)], by omega, by omega, RJk.out, HTk.out, HKk.out⟩
          · have hss2 : (lg2.size : Int) ≤ sy := by omega
            go_wp2_with fail
            go_meet
            exact ⟨lg2.size, rfl, hsy2, Nat.le_refl _, RJf.out, HTf.out, HKf.out⟩
        case rest =>
        obtain ⟨kk, rfl, hk0, hk1, hrj, htj, hkj⟩ := hcut
        obtain ⟨wg, hwg⟩ : ∃ wg, wc = wg := ⟨_, rfl⟩
        rw [hwg] at hrj htj hkj ⊢
        have RJg := Lib.hid hrj
        have HTg := Lib.hid htj
        have HKg := Lib.hid hkj
        have RPg : Hid (wg.heap[P]? = some (.cells #[.int .i64 p.pts, .string p.names, .slice AP np cP] 29 (0, 0))) := by
          have := (HFA.out _ HKg.out.at_).1.row
          rwa [HNP.out] at this
        have hJg := row_lt hrj
        clear hwg hrj htj hkj p0 p1 p2 pl j0 j1 j2 j3 j4 j5 jl RJf HTf HKf RPf
        obtain ⟨p0, p1, p2, -, pl⟩ := row3 RPg.out
        obtain ⟨j0, j1, j2, j3, j4, j5, -, jl⟩ := row6 RJg.out
        go_wp2_with fail
        refine (HCRA.out kk wg HKg.out HTg.out hk0 hk1).mono ?_
        rintro e wh ⟨m2, D1, d1, D2, d2, D3, d3, hrec, rfl, hTh, hbh⟩
        obtain ⟨hmi, hmk, -⟩ := HCUT.out kk m2 hk1 hrec
        have hokm := hrec.ok
        obtain ⟨n1', hn1⟩ : ∃ l, (chT p trk m2).trk.length = l := ⟨_, rfl⟩
        obtain ⟨n2', hn2⟩ : ∃ l, (chT p trk m2).pats.length = l := ⟨_, rfl⟩
        obtain ⟨n3', hn3⟩ : ∃ l, (chT p trk m2).dist.length = l := ⟨_, rfl⟩
        obtain ⟨lg3, hlg3⟩ : ∃ l, (chF (mvsOf p.moves) trk m2).2 = l := ⟨_, rfl⟩
        unfold jobV
        rw [hn1, hn2, hn3, hlg3]
        rw [hlg3] at hmk
        have HOKM := Lib.hid hokm
        have HN1 := Lib.hid hn1
        have HN2 := Lib.hid hn2
        have HN3 := Lib.hid hn3
        have HLG3 := Lib.hid hlg3
        obtain ⟨wi, hwi⟩ : ∃ wi, wh.alloc (.cells #[.slice D1 n1' d1, .slice D2 n2' d2, .slice D3 n3' d3, .int .i64 (m2 : Int), .string lg3, .int .i64 (lg3.size : Int)] 45) = wi := ⟨_, rfl⟩
        have hbi : Below wh.heap.size wh wi := by rw [← hwi]; exact (by repeat (first | exact Below.refl _ _ | assumption | refine Below.setCell ?_ (by first | omega | (simp <;> omega)) _ | refine Below.alloc ?_ (by first | omega | (simp <;> omega)) _ | refine Below.drew ?_))
        have hrs : wi.heap[wh.heap.size]? = some (.cells #[.slice D1 n1' d1, .slice D2 n2' d2, .slice D3 n3' d3, .int .i64 (m2 : Int), .string lg3, .int .i64 (lg3.size : Int)] 45 (0, 0)) := by rw [← hwi]; exact heap_alloc_new _ _
        have HKi := Lib.hid ((HKg.out.below hbh).below hbi)
        have HTi := Lib.hid (hTh.below hbi)
        have RJh := Lib.hid (rowB hbh RJg.out)
        have RJi := Lib.hid (rowB hbi RJh.out)
        have hne : J ≠ wh.heap.size := by have := row_lt RJh.out; omega
        have hmi2 : ¬ (i2 : Int) < (m2 : Int) := by omega
        clear hokm hn1 hn2 hn3 hlg3 hTh hbh hbi hrec hmi p0 p1 p2 pl j0 j1 j2 j3 j4 j5 jl
        obtain ⟨s0, s1, s2, s3, s4, s5, -, sl⟩ := row6 hrs
        obtain ⟨j0, j1, j2, j3, j4, j5, jF, jl⟩ := row6 RJi.out
        clear hrs
        go_wp2_with fail
        clear s0 s1 s2 s3 s4 s5 sl j0 j1 j2 j3 j4 j5 jF jl hwi
        go_roundw
        case rel => exact ⟨k + 1, by omega, by go_num, CrI.of HKi.out hJl RJi.out HTi.out hJg HOKM.out (by rw [HLG3.out]; omega) (by omega) (Int.le_refl _) HN1.out HN2.out HN3.out HLG3.out⟩
        case measure => simp [intOf]; omega
      · have HCR4 : Hid (CrI w g li6 A c xs F J p trk wf) := ⟨i2, sy, J + 1, B1, b1, B2, b2, B3, b3, HOK2.out, hsz3, hs0, hsy3, by omega, ⟨by rw [HM1.out, HM2.out, HM3.out, HLG2.out]; exact RJf.out, HTf.out⟩, HKf.out⟩
        clear hsz3 hsy3
        go_wp2_with fail
        go_roundw
        case rel => exact ⟨k + 1, by omega, by go_num, HCR4.out⟩
        case measure => simp [intOf]; omega
    · have hk5 : ¬ (k : Int) < 5 := by omega
      have hW := (HFA.out _ HK.out.at_).2
      have HTW := Lib.hid hW.2
      have RW := Lib.hid hW.1
      obtain ⟨q0, q1, q2, -, ql⟩ := row3 RW.out
      obtain ⟨p0, p1, p2, -, pl⟩ := row3 RP.out
      obtain ⟨j0, j1, j2, j3, j4, j5, -, jl⟩ := row6 RJ.out
      clear hW
      go_wp2_with fail
      refine (HRN.out wr (r2 : Int) HK.out HT.out (by omega)).mono ?_
      rintro e wa ⟨c8, i8, B1, b1, B2, b2, B3, b3, hi8, hcs, hok8, hs8, hend, rfl, hTa, hba⟩
      have hfin := ch_fin HQT.out.bld HRS.out hok8 (by
        rcases hend with q | q
        · left; have := HR2.out; omega
        · exact .inr q)
      have hct : chT p trk i8 = ⟨trk, r.ls, r.ds⟩ := by unfold chT; rw [hfin.1]
      have hsy8 : sy ≤ ((chF (mvsOf p.moves) trk i8).2.size : Int) := by have := HMN.out i8 (by omega); omega
      have hfi := fun (wx : World) (q1 : LawK w g li6 A c xs F wx) (q2 : TbS wr.heap.size B1 B2 B3 (chT p trk i8) wx) => finK (c := cP) HQT.out i8 sy B1 B2 B3 b1 b2 b3 (HFA.out _ q1.at_).1.pz q2 hok8 hs8 hs0 hsy8 (by rw [hfin.1]; exact hfin.2)
      have hsm := fun (C1 C2 C3 D1 D2 D3 : Option Addr) (k1 k2 k3 d1 d2 d3 la lb : Nat) (wx : World) (q1 : TbS la C1 C2 C3 (chT p trk i8) wx) (q2 : TbS lb D1 D2 D3 (chT p trk i8) wx) => sameK (short_ch HQT.out.bld hok8) C1 C2 C3 D1 D2 D3 k1 k2 k3 d1 d2 d3 q1 q2
      obtain ⟨lg8, hlg8⟩ : ∃ l, (chF (mvsOf p.moves) trk i8).2 = l := ⟨_, rfl⟩
      have e1' : (chT p trk i8).trk.length = nt := HNT.out
      have e2' : (chT p trk i8).pats.length = r2 := by rw [hct]; exact HR2.out
      have e3' : (chT p trk i8).dist.length = r3 := by rw [hct]; exact HR3.out
      unfold jobV FinK at hfi
      rw [e1', e2', e3', hlg8, HNP.out] at hfi
      rw [e1', e2', e3'] at hsm
      unfold jobV
      rw [e1', e2', e3', hlg8]
      have HFI := Lib.hid hfi
      have HSM := Lib.hid hsm
      have HCT := Lib.hid hct
      clear hfi hsm hct hlg8 e1' e2' e3' hfin hsy8 hend hok8 hs8 hi8 hcs p0 p1 p2 pl j0 j1 j2 j3 j4 j5 jl q0 q1 q2 ql
      obtain ⟨wb, hwb⟩ : ∃ wb, wa.alloc (.cells #[.slice B1 nt b1, .slice B2 r2 b2, .slice B3 r3 b3, .int .i64 (i8 : Int), .string lg8, .int .i64 sy] 45) = wb := ⟨_, rfl⟩
      have hbb : Below wa.heap.size wa wb := by rw [← hwb]; exact (by repeat (first | exact Below.refl _ _ | assumption | refine Below.setCell ?_ (by first | omega | (simp <;> omega)) _ | refine Below.alloc ?_ (by first | omega | (simp <;> omega)) _ | refine Below.drew ?_))
      have hrl : wb.heap[wa.heap.size]? = some (.cells #[.slice B1 nt b1, .slice B2 r2 b2, .slice B3 r3 b3, .int .i64 (i8 : Int), .string lg8, .int .i64 sy] 45 (0, 0)) := by rw [← hwb]; exact heap_alloc_new _ _
      have hbb' := belowStep hbb hba
      have HKb := Lib.hid (HK.out.below hbb')
      have HTb := Lib.hid (hTa.below hbb)
      have HTWb := Lib.hid (HTW.out.below hbb')
      have RWb := Lib.hid (rowB hbb' RW.out)
      have RPb := Lib.hid (rowB hbb' RP.out)
      have hc8 : (0 : Int) ≤ (c8 : Int) := by omega
      clear hbb hba hTa hbb'
      obtain ⟨p0, p1, p2, -, pl⟩ := row3 RPb.out
      obtain ⟨s0, s1, s2, s3, s4, s5, -, sl⟩ := row6 hrl
      clear hrl
      go_wp2_with fail
      refine (HFI.out wb HKb.out HTb.out).mono ?_
      rintro e wd ⟨F1, f1, F2, f2, F3, f3, rfl, hTd, hbd⟩
      obtain ⟨we, hwe⟩ : ∃ we, wd.alloc (.cells #[.slice F1 nt f1, .slice F2 r2 f2, .slice F3 r3 f3] 34) = we := ⟨_, rfl⟩
      have hbe : Below wd.heap.size wd we := by rw [← hwe]; exact (by repeat (first | exact Below.refl _ _ | assumption | refine Below.setCell ?_ (by first | omega | (simp <;> omega)) _ | refine Below.alloc ?_ (by first | omega | (simp <;> omega)) _ | refine Below.drew ?_))
      have hrf : we.heap[wd.heap.size]? = some (.cells #[.slice F1 nt f1, .slice F2 r2 f2, .slice F3 r3 f3] 34 (0, 0)) := by rw [← hwe]; exact heap_alloc_new _ _
      have hbe' := belowStep hbe hbd
      have HTe := Lib.hid (hTd.below hbe)
      have htw := HTWb.out.below hbe'
      rw [← HCT.out] at htw
      have HTWe := Lib.hid htw
      have RWe := Lib.hid (rowB hbe' RWb.out)
      have HKe := Lib.hid (HKb.out.below hbe')
      clear hbe hbd hTd hbe' htw p0 p1 p2 pl s0 s1 s2 s3 s4 s5 sl
      obtain ⟨q0, q1, q2, -, ql⟩ := row3 RWe.out
      obtain ⟨s0, s1, s2, -, sl⟩ := row3 hrf
      clear hrf
      go_wp2_with fail
      refine (HSM.out _ _ _ _ _ _ _ _ _ _ _ _ _ _ _ HTe.out HTWe.out).mono ?_
      rintro e wf ⟨rfl, hbf⟩
      have hB := (HKe.out.below hbf).bel
      clear q0 q1 q2 ql s0 s1 s2 sl hwe hwb
      go_wp2_with fail
      go_ret
      exact ⟨rfl, hB⟩
theorem own : ownKnob Try.prog.godebug = none := by kernel_rfl
theorem laidOut : laidOutB Try.prog = true := by kernel_rfl
set_option maxRecDepth 100000 in
theorem lifted (os : Os) (started : os.Started) (H : Type) (enc : TypeId × Value → H) :
    ReturnsInHanded {} Try.checked os 5 .any (Rows.fnFillCrashesSpec.pre6 enc Try.prog Try.f5 Rows.fnFillCrashesRow.domain false) (Rows.fnFillCrashesSpec.post enc Try.prog Try.f5 false true false false) := by
  refine returnsInHanded_of_change (C := Try.checked) own started (by kernel_rfl) Try.func5
    (ChangeSpec.witness6 (enc := enc) (C := Try.checked) false ⟨#[], #[.slice none 0 0], []⟩ 8 (by kernel_rfl) (by kernel_rfl) (by kernel_rfl) (by kernel_rfl)) ?_
  intro W base args ds gs before hval0 hW hcnd _
  have hval : ∀ (j : Nat) t v, Try.f5.params[j]? = some t → args[j]? = some v → Value.okWide Try.prog W .any base t v := hval0
  have hW' := hW
  obtain ⟨p, q, hA0, hV, rfl, hfz, hnd⟩ := hW
  have hA : DataW.TrodAll enc Try.prog W 0 (fun _ => true) true Try.f5.params.toList args.toList ds p := hA0
  rw [Try.params5] at hA hval
  obtain ⟨v0, vs0, d0, ds0, p0, q0, hargs, rfl, rfl, h0, r0⟩ := trodAll_cons hA
  obtain ⟨rfl, rfl, rfl⟩ := trodAll_nil r0
  obtain rfl : args = #[v0] := by cases args; simp_all
  obtain ⟨rfl, rfl⟩ := trodVars_none hV
  have lt0 : ∀ x ∈ p0, x.block < W.heap.size := by obtain ⟨m, hm⟩ := h0; exact DataW.trod_lt m _ _ _ hm
  obtain ⟨A0, c0, x0, rfl, i0, m0⟩ := arg_bytes (hval 0 22 v0 rfl rfl) h0
  clear hA0 hval0
  refine (walk A0 c0 x0 W i0 m0).mono fun e W' ⟨he, bel⟩ => ?_
  subst he
  exact ⟨_, rfl, _, _, _, [], _, [], hW', trodAll_mk1 (shut_bool Try.underlying4 _), (trodAll_cons_mk (Below.trod laidOut (by kernel_rfl) (of_decide_eq_true (by kernel_rfl)) h0 bel lt0) trodAll_mk0), rfl, bel.frame _, fun h => by cases h⟩
theorem fact_wf : Rows.fnFillCrashesRow.wf (OpenSpec.ofChange Rows.fnFillCrashesSpec) = true := by kernel_rfl
theorem fact_pars : Try.f5.params.all (Try.prog.readableRec ·) = true := by kernel_rfl
theorem fact_tie : namedTie Try.prog Rows.fnFillCrashesRow.named Rows.fnFillCrashesSpec.vars = true := by kernel_rfl
theorem fact_st : (Rows.fnFillCrashesRow.stops == []) = true := by kernel_rfl
theorem fact_kn : (Rows.fnFillCrashesRow.knobs == []) = true := by kernel_rfl
theorem fact_inp : (Rows.fnFillCrashesRow.inPlace == Try.prog.inPlace 5) = true := by kernel_rfl
theorem fact_unf : (Rows.fnFillCrashesRow.unfollowed == Try.prog.unfollowed 5) = true := by kernel_rfl
theorem fact_rec : (Rows.fnFillCrashesRow.recurses == Try.prog.recurses 5) = true := by kernel_rfl
theorem fact_nam : (Rows.fnFillCrashesRow.named == Try.prog.varsNamed 5) = true := by kernel_rfl
theorem fact_mp : (Rows.fnFillCrashesRow.maps == (Try.f5.params.toList ++ Rows.fnFillCrashesSpec.plain.varTypes Try.prog).any (Try.prog.mapsRec ·)) = true := by kernel_rfl
theorem fact_ifc : (Rows.fnFillCrashesRow.ifaces == (Try.f5.params.toList ++ Rows.fnFillCrashesSpec.plain.varTypes Try.prog).any (Try.prog.ifacesRec ·)) = true := by kernel_rfl
theorem fact_mo : (Rows.fnFillCrashesRow.mapsOut == Try.prog.mapsAmong Try.f5.resultTypes.toList) = true := by kernel_rfl
theorem fact_lo : (Rows.fnFillCrashesRow.loops == (Try.f5.params.toList ++ Rows.fnFillCrashesSpec.plain.varTypes Try.prog).any (Try.prog.loopsFrom ·)) = true := by kernel_rfl
theorem fact_wk : (Rows.fnFillCrashesRow.wideKeys == (Try.f5.params.toList ++ Rows.fnFillCrashesSpec.plain.varTypes Try.prog ++ Try.f5.resultTypes.toList).any (Try.prog.wideKeysFrom ·)) = true := by kernel_rfl
theorem fact_vs : Rows.fnFillCrashesSpec.vars.all (Try.prog.varReadable ·) = true := by kernel_rfl
theorem fact_res : Try.f5.resultTypes.all (fun t => Try.prog.readableRec t && decide (t < Try.prog.types.size)) = true := by kernel_rfl
theorem fact_io : (Rows.fnFillCrashesRow.ifacesOut == Try.f5.resultTypes.toList.any (Try.prog.ifacesRec ·)) = true := by kernel_rfl
theorem fact_loo : (Rows.fnFillCrashesRow.loopsOut == Try.f5.resultTypes.toList.any (Try.prog.loopsFrom ·)) = true := by kernel_rfl
theorem fact_pk : (Rows.fnFillCrashesRow.plainKeys == Try.prog.plainKeys) = true := by kernel_rfl
theorem fact_sh : Rows.fnFillCrashesRow.shortTexts.isNone = true := by kernel_rfl
theorem fact_li : (Rows.fnFillCrashesRow.lifted == Try.prog.liftsFinal) = true := by rw [fact_finals]; rfl
theorem fact_mk : (Try.prog.make == some Rows.fnFillCrashesRow.make) = true := by rw [fact_make]; rfl
theorem fact_kd : (Rows.fnFillCrashesRow.kinds == (if Rows.fnFillCrashesRow.domain.isEmpty then [] else Try.f5.params.toList.map fun t => match Try.prog.underlying t with | some (.int k) => some k | _ => none)) = true := by kernel_rfl
theorem fact_pi : (Rows.fnFillCrashesRow.pinned == Rows.fnFillCrashesRow.pinnedBy) = true := by kernel_rfl
theorem fact_ve : (Rows.fnFillCrashesRow.veiled == (Try.f5.params.toList ++ Rows.fnFillCrashesSpec.plain.varTypes Try.prog ++ Try.f5.resultTypes.toList).any (Try.prog.veiledRec ·)) = true := by kernel_rfl
theorem fact_vf : Rows.fnFillCrashesRow.veiledFits Try.prog Try.f5.params.toList (Try.f5.params.toList ++ Rows.fnFillCrashesSpec.plain.varTypes Try.prog ++ Try.f5.resultTypes.toList) = true := by kernel_rfl
set_option maxRecDepth 100000 in
theorem facts : joinedFacts Try.prog 5 Try.f5 Rows.fnFillCrashesSpec Rows.fnFillCrashesRow = true := facts_of fact_wf fact_laid fact_rowed fact_pars fact_tie fact_st fact_pst fact_kn fact_pkn fact_inp fact_unf fact_rec fact_nam fact_mp fact_ifc fact_mo fact_lo fact_wk fact_vs fact_res fact_io fact_loo fact_pk fact_sh fact_hd fact_me fact_li fact_mk fact_kd fact_pi fact_ve fact_vf
theorem fact_fn : Try.prog.funcNamed Rows.fnFillCrashesRow.func = some 5 := by kernel_rfl
theorem fact_inst : Try.f5.isInstance Try.prog Rows.fnFillCrashesRow.origin Rows.fnFillCrashesRow.targs := of_decide_eq_true (by kernel_rfl)
theorem fact_wrap : Try.f5.isWrapper Try.prog Rows.fnFillCrashesRow.wrapper Rows.fnFillCrashesRow.mainSum := by unfold Func.isWrapper; first | (rw [if_pos (by decide +kernel)]; kernel_rfl) | (rw [if_neg (by decide +kernel)]; exact ⟨rfl, rfl⟩)
theorem over : Rows.fnFillCrashesRow.holds Try.pinned (OpenSpec.ofChange Rows.fnFillCrashesSpec) :=
  OpenClaim.holds_of_wide 5 Try.f5 rfl rfl rfl rfl rfl rfl rfl ⟨rfl, rfl, rfl, rfl, rfl⟩ rfl rfl rfl rfl rfl fact_fn Try.func5 facts fact_inst fact_wrap
    (fun os started H enc _ => lifted os started H enc)
theorem proved : Rows.FnFillCrashesSaid := over
#print axioms proved
end Go.Proofs.Ytfhdnanbhigpmaa.lawFk
