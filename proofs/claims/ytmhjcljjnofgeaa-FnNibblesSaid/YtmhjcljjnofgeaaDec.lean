/- Decoding of hexadecimal form, at both packages. Conditions: as each contract says. -/
import Derived.Test.YtmhjcljjnofgeaaHex
import Derived.Test.YtmhjcljjnofgeaaShelf
namespace Go.Proofs.Ytmhjcljjnofgeaa
open Go.RowKit
attribute [local go_sem high] fold_hex

def valD (c : Int) : Int := if 48 ≤ c ∧ c ≤ 57 then c - 48 else if 97 ≤ c ∧ c ≤ 102 then c - 87 else -1
theorem valD_bd (c : Int) : -1 ≤ valD c ∧ valD c ≤ 15 := by
  unfold valD
  split
  · omega
  · split <;> omega
theorem idx_all : ∀ n : Fin 256, Lib.indexByte hexS.data.toList (UInt8.ofNat n.val) = valD (n.val : Int) := by decide +kernel
theorem idx_is (c : Int) (h0 : 0 ≤ c) (h1 : c ≤ 255) : Lib.indexByte hexS.data.toList c.toNat.toUInt8 = valD c := by
  obtain ⟨n, rfl⟩ := Int.eq_ofNat_of_zero_le h0
  have := idx_all ⟨n, by omega⟩
  simpa using this
set_option maxHeartbeats 1000000 in
theorem specDigit (c x : Int) (w : World) (h0 : 0 ≤ c) (h1 : c ≤ 255) (hx : Hid (valD c = x)) : Calls Try.prog 41 #[.int .u8 c] w fun e w' => e = .returned (.int .i64 x) ∧ w = w' := by
  by_cases a1 : 48 ≤ c
  · by_cases a2 : c ≤ 57
    · have hw : IntKind.u8.wrap (c - 48) = c - 48 := IntWalk.u8_in _ (by omega)
      go_enter Try.func41, Try.ntmps41
      go_wp2
      go_ret
      exact ⟨ret_int (by rw [← hx.out, valD, if_pos ⟨a1, a2⟩]), rfl⟩
    · by_cases a3 : 97 ≤ c
      · by_cases a4 : c ≤ 102
        · have hw : IntKind.u8.wrap (c - 97) = c - 97 := IntWalk.u8_in _ (by omega)
          have d1 : decide (c ≤ 57) = false := by simpa using a2
          go_enter Try.func41, Try.ntmps41
          go_wp2
          go_ret
          exact ⟨ret_int (by rw [← hx.out, valD, if_neg (by omega), if_pos ⟨a3, a4⟩]; omega), rfl⟩
        · have d1 : decide (c ≤ 57) = false := by simpa using a2
          have d2 : decide (c ≤ 102) = false := by simpa using a4
          go_enter Try.func41, Try.ntmps41
          go_wp2
          go_ret
          exact ⟨ret_int (by rw [← hx.out, valD, if_neg (by omega), if_neg (by omega)]), rfl⟩
      · have d1 : decide (c ≤ 57) = false := by simpa using a2
        have d2 : decide (97 ≤ c) = false := by simpa using a3
        go_enter Try.func41, Try.ntmps41
        go_wp2
        go_ret
        exact ⟨ret_int (by rw [← hx.out, valD, if_neg (by omega), if_neg (by omega)]), rfl⟩
  · have a3 : ¬ 97 ≤ c := by omega
    have d1 : decide (48 ≤ c) = false := by simpa using a1
    have d2 : decide (97 ≤ c) = false := by simpa using a3
    go_enter Try.func41, Try.ntmps41
    go_wp2
    go_ret
    exact ⟨ret_int (by rw [← hx.out, valD, if_neg (by omega), if_neg (by omega)]), rfl⟩
theorem implDigit (c x : Int) (w : World) (h0 : 0 ≤ c) (h1 : c ≤ 255) (hx : Hid (valD c = x)) : Calls Try.prog 42 #[.string hexS, .int .u8 c] w fun e w' => e = .returned (.int .i64 x) ∧ w = w' :=
  (Try.strings_IndexByte hexS c w).mono fun e w' ⟨he, hw⟩ => ⟨by rw [he, idx_is c h0 h1, hx.out], hw.symm⟩

def byteAt (s : ByteArray) (j : Nat) : Int := (s.data.toList.getD j 0).toNat
theorem byteAt_is (s : ByteArray) (j : Nat) (h : j < s.size) : byteAt s j = (s[j].toNat : Int) := by
  unfold byteAt
  rw [List.getD_eq_getElem?_getD, List.getElem?_eq_getElem (by simpa using h)]
  rfl
def goodD (c : UInt8) : Bool := decide (0 ≤ valD (c.toNat : Int))
def goodTo (s : ByteArray) (m : Nat) : Bool := (s.data.toList.take m).all goodD
def pairsTo (s : ByteArray) (m : Nat) : List Int := (List.range (m / 2)).map fun j => 16 * valD (byteAt s (2 * j)) + valD (byteAt s (2 * j + 1))
def decOk (s : ByteArray) : Bool := decide (s.size % 2 = 0) && decide (s.size ≤ 40000) && goodTo s s.size
def decS (s : ByteArray) : ByteArray := if decOk s then strOfNums (pairsTo s s.size) else ⟨#[]⟩
theorem goodTo_more {s : ByteArray} {m : Nat} (h : goodTo s m = true) (hm : m + 1 < s.size) (h1 : 0 ≤ valD (s[m].toNat : Int)) (h2 : 0 ≤ valD (s[m + 1].toNat : Int)) : goodTo s (m + 2) = true := by
  unfold goodTo at *
  rw [show m + 2 = (m + 1) + 1 from rfl, take_snoc s (m + 1) hm, take_snoc s m (by omega), List.all_append, List.all_append, h]
  simp [goodD, h1, h2]
theorem goodTo_bad {s : ByteArray} {m : Nat} (hm : m < s.size) (h1 : valD (s[m].toNat : Int) < 0) : goodTo s s.size = false := by
  unfold goodTo
  rw [List.take_of_length_le (by simp), Bool.eq_false_iff]
  intro h
  rw [List.all_eq_true] at h
  have := h s[m] (by
    have e : s[m] = s.data.toList[m]'(by simpa using hm) := rfl
    rw [e]
    exact List.getElem_mem _)
  simp [goodD] at this
  omega
theorem pairsTo_more {s : ByteArray} {m : Nat} (hp : m % 2 = 0) (hm : m + 1 < s.size) {x y : Int} (h1 : valD (s[m].toNat : Int) = x) (h2 : valD (s[m + 1].toNat : Int) = y) : pairsTo s (m + 2) = pairsTo s m ++ [16 * x + y] := by
  unfold pairsTo
  rw [show (m + 2) / 2 = m / 2 + 1 from by omega, List.range_succ, List.map_append]
  congr 1
  simp only [List.map_cons, List.map_nil]
  rw [show 2 * (m / 2) = m from by omega, byteAt_is s m (by omega), byteAt_is s (m + 1) hm, h1, h2]
theorem pairsTo_len (s : ByteArray) (m : Nat) : (pairsTo s m).length = m / 2 := by simp [pairsTo]

set_option maxRecDepth 100000 in
set_option maxHeartbeats 2000000 in
theorem specDec (s : ByteArray) (w : World) (hs : s.size ≤ 1048576) :
    Calls Try.prog 16 #[.string s] w fun e w' => e = .returned (.tuple #[.string (decS s), .bool (decOk s)]) ∧ Below w.heap.size w w' := by
  by_cases h1 : s.size % 2 = 0
  · by_cases h2 : s.size ≤ 40000
    · have H1 := Lib.hid h1
      have e1 : ((s.size : Int) % 2 == 1) = false := by simpa using (by omega : (s.size : Int) % 2 ≠ 1)
      have e2 : ((s.size : Int) % 2 != 0) = false := by simpa using (by omega : (s.size : Int) % 2 = 0)
      have e3 : decide (40000 < (s.size : Int)) = false := by simpa using (by omega : (s.size : Int) ≤ 40000)
      clear h1
      obtain ⟨i0, hi, hz0, hz1, hz2⟩ := info_parts byteInfo
      go_enter Try.func16, Try.ntmps16
      have hE : BFresh w.heap.size (w.alloc (.cells #[] 5)) (.slice (some ⟨w.heap.size, 0, none⟩) 0 0) [] := BFresh.empty (Nat.le_refl _)
      have hB0 : Below w.heap.size w (w.alloc (.cells #[] 5)) := (by repeat (first | exact Below.refl _ _ | assumption | refine Below.setCell ?_ (by first | omega | (simp <;> omega)) _ | refine Below.alloc ?_ (by first | omega | (simp <;> omega)) _ | refine Below.drew ?_))
      go_wp2_with fail
      clear e1 e2 e3
      go_loopw [4, 5] (fun v i wr => ∃ (m : Nat) (xs : List Int), m ≤ s.size ∧ Hid (m % 2 = 0) ∧ i = .int .i64 m ∧ BFresh w.heap.size wr v xs ∧ Below w.heap.size w wr ∧ Hid (goodTo s m = true) ∧ Hid (pairsTo s m = xs)) (fun _ i _ => s.size - (intOf i).toNat)
      case atStart => exact ⟨0, [], Nat.zero_le _, rfl, rfl, hE, hB0, rfl, rfl⟩
      case round =>
        obtain ⟨m, xs, hk, HM, rfl, hF, hB, HG, HP⟩ := hrel
        clear hE hB0
        have hxl : xs.length ≤ 4194304 := by rw [← HP.out, pairsTo_len]; omega
        by_cases hlt : m < s.size
        · have hlt2 : m + 1 < s.size := by have := HM.out; have := H1.out; omega
          have c0 : (0 : Int) ≤ (s[m].toNat : Int) := by omega
          have c1 : (s[m].toNat : Int) ≤ 255 := by have := s[m].toNat_lt; omega
          have f0 : (0 : Int) ≤ (s[m + 1].toNat : Int) := by omega
          have f1 : (s[m + 1].toNat : Int) ≤ 255 := by have := s[m + 1].toNat_lt; omega
          have p0 : (0 : Int) ≤ (m : Int) := by omega
          have p1 : (m : Int) < (s.size : Int) := by omega
          have p2 : (m : Int) + 1 < (s.size : Int) := by omega
          have p3 : (0 : Int) ≤ (m : Int) + 1 := by omega
          have p4 : ((m : Int) + 1).toNat = m + 1 := by omega
          have p5 : IntKind.i64.wrap ((m : Int) + 1) = (m : Int) + 1 := IntWalk.i64_in _ (by omega)
          obtain ⟨x, hx⟩ : ∃ x, valD (s[m].toNat : Int) = x := ⟨_, rfl⟩
          obtain ⟨y, hy⟩ : ∃ y, valD (s[m + 1].toNat : Int) = y := ⟨_, rfl⟩
          have bx := valD_bd (s[m].toNat : Int)
          have by_ := valD_bd (s[m + 1].toNat : Int)
          rw [hx] at bx
          rw [hy] at by_
          have HX := Lib.hid hx
          have HY := Lib.hid hy
          clear hx hy
          have x1 := bx.2
          have y1 := by_.2
          by_cases gx : x < 0
          · have HBad : Hid (goodTo s s.size = false) := goodTo_bad hlt (by rw [HX.out]; exact gx)
            go_wp2_with fail
            ((with_reducible refine (specDigit _ x _ c0 c1 HX).mono ?_); rintro e w' ⟨rfl, rfl⟩)
            go_wp2_with fail
            ((with_reducible refine (specDigit _ y _ f0 f1 HY).mono ?_); rintro e w' ⟨rfl, rfl⟩)
            go_wp2_with fail
            go_ret2
            exact ⟨ret_sb (by simp [decS, decOk, HBad.out]) (by simp [decOk, HBad.out]), hB⟩
          · have gx1 : decide (x < 0) = false := by simpa using gx
            by_cases gy : y < 0
            · have HBad : Hid (goodTo s s.size = false) := goodTo_bad hlt2 (by rw [HY.out]; exact gy)
              go_wp2_with fail
              ((with_reducible refine (specDigit _ x _ c0 c1 HX).mono ?_); rintro e w' ⟨rfl, rfl⟩)
              go_wp2_with fail
              ((with_reducible refine (specDigit _ y _ f0 f1 HY).mono ?_); rintro e w' ⟨rfl, rfl⟩)
              go_wp2_with fail
              go_ret2
              exact ⟨ret_sb (by simp [decS, decOk, HBad.out]) (by simp [decOk, HBad.out]), hB⟩
            · have gy1 : decide (y < 0) = false := by simpa using gy
              have x0 : 0 ≤ x := by omega
              have y0 : 0 ≤ y := by omega
              have HGN : Hid (goodTo s (m + 2) = true) := goodTo_more HG.out hlt2 (by rw [HX.out]; exact x0) (by rw [HY.out]; exact y0)
              have HPN : Hid (pairsTo s (m + 2) = xs ++ [16 * x + y]) := by unfold Hid; rw [pairsTo_more HM.out hlt2 HX.out HY.out, HP.out]
              have HMN : Hid ((m + 2) % 2 = 0) := by unfold Hid; have := HM.out; omega
              have hle : m + 2 ≤ s.size := by omega
              go_wp2_with fail
              ((with_reducible refine (specDigit _ x _ c0 c1 HX).mono ?_); rintro e w' ⟨rfl, rfl⟩)
              go_wp2_with fail
              ((with_reducible refine (specDigit _ y _ f0 f1 HY).mono ?_); rintro e w' ⟨rfl, rfl⟩)
              have hw : IntKind.u8.wrap (16 * x + y) = 16 * x + y := IntWalk.u8_in _ (by omega)
              have hBz := hB.size
              go_wp2_with (first | (at_builtin; refine append_by1 rfl (.tmp 39) (.tmp 45) rfl w.heap.size _ xs (16 * x + y) rfl (hF.al _) _ rfl (by simp) hxl (by simp; omega) ?_; intro v1 w1 hF1 hg1 hb1))
              clear hw
              go_roundw
              case rel => exact ⟨m + 2, _, hle, HMN, by go_num, hF1, (hB.alloc hB.size _).trans hb1, HGN, HPN⟩
              case measure => simp [intOf]; omega
        · have hke : m = s.size := by omega
          have HP2 := HP.out
          have HG2 := HG.out
          rw [hke] at HP2 HG2
          have HP3 := Lib.hid HP2
          have HG3 := Lib.hid HG2
          have hcv := hF.str
          clear hke HP2 HG2
          go_wp2_with fail
          go_ret2
          have hok : decOk s = true := by simp [decOk, H1.out, HG3.out, h2]
          exact ⟨ret_sb (by rw [decS, hok, if_pos rfl, HP3.out]) hok.symm, hB⟩
    · have e3 : decide (40000 < (s.size : Int)) = true := by simpa using (by omega : 40000 < (s.size : Int))
      have e1 : ((s.size : Int) % 2 == 1) = false := by simpa using (by omega : (s.size : Int) % 2 ≠ 1)
      have e2 : ((s.size : Int) % 2 != 0) = false := by simpa using (by omega : (s.size : Int) % 2 = 0)
      have hok : decOk s = false := by simp [decOk, h2]
      have HK := Lib.hid hok
      clear hok h1
      go_enter Try.func16, Try.ntmps16
      go_wp2_with fail
      go_ret2
      exact ⟨ret_sb (by simp [decS, HK.out]) HK.out.symm, Below.refl _ _⟩
  · have e1 : ((s.size : Int) % 2 == 1) = true := by simpa using (by omega : (s.size : Int) % 2 = 1)
    have e2 : ((s.size : Int) % 2 != 0) = true := by simpa using (by omega : (s.size : Int) % 2 ≠ 0)
    have hok : decOk s = false := by simp [decOk, h1]
    have HK := Lib.hid hok
    clear hok h1
    go_enter Try.func16, Try.ntmps16
    go_wp2_with fail
    go_ret2
    exact ⟨ret_sb (by simp [decS, HK.out]) HK.out.symm, Below.refl _ _⟩

set_option maxRecDepth 100000 in
set_option maxHeartbeats 2000000 in
theorem implDec (s : ByteArray) (w : World) (hs : s.size ≤ 1048576) :
    Calls Try.prog 17 #[.string s] w fun e w' => e = .returned (.tuple #[.string (decS s), .bool (decOk s)]) ∧ Below w.heap.size w w' := by
  by_cases h1 : s.size % 2 = 0
  · by_cases h2 : s.size ≤ 40000
    · have H1 := Lib.hid h1
      have e1 : ((s.size : Int) % 2 == 1) = false := by simpa using (by omega : (s.size : Int) % 2 ≠ 1)
      have e2 : ((s.size : Int) % 2 != 0) = false := by simpa using (by omega : (s.size : Int) % 2 = 0)
      have e3 : decide (40000 < (s.size : Int)) = false := by simpa using (by omega : (s.size : Int) ≤ 40000)
      clear h1
      obtain ⟨i0, hi, hz0, hz1, hz2⟩ := info_parts byteInfo
      go_enter Try.func17, Try.ntmps17
      go_wp2_with (first | (at_make; refine wpList_make_own _ rfl _ _ 36 rfl w.heap.size 5 i0 (.int .u8 0) 1 Try.underlying36 hi hz0 hz1 _ _ _ (s.size / 2) rfl rfl (by omega) (by rw [hz2]; omega) (by unfold maxLen; omega) (Nat.le_refl _) ?_; intro w0 hown hgrow))
      have hE : BFresh w.heap.size w0 (.slice (some ⟨w.heap.size, 0, none⟩) 0 (s.size / 2)) [] := hown
      have hB0 : Below w.heap.size w w0 := (Below.refl _ _).grown hgrow (Nat.le_refl _) (by simp)
      clear hown hgrow
      go_wp2_with fail
      clear e1 e2 e3
      go_loopw [4, 5] (fun v i wr => ∃ (m : Nat) (xs : List Int), m ≤ s.size ∧ Hid (m % 2 = 0) ∧ i = .int .i64 m ∧ BFresh w.heap.size wr v xs ∧ Below w.heap.size w wr ∧ Hid (goodTo s m = true) ∧ Hid (pairsTo s m = xs)) (fun _ i _ => s.size - (intOf i).toNat)
      case atStart => exact ⟨0, [], Nat.zero_le _, rfl, rfl, hE, hB0, rfl, rfl⟩
      case round =>
        obtain ⟨m, xs, hk, HM, rfl, hF, hB, HG, HP⟩ := hrel
        clear hE hB0
        have hxl : xs.length ≤ 4194304 := by rw [← HP.out, pairsTo_len]; omega
        by_cases hlt : m < s.size
        · have hlt2 : m + 1 < s.size := by have := HM.out; have := H1.out; omega
          have c0 : (0 : Int) ≤ (s[m].toNat : Int) := by omega
          have c1 : (s[m].toNat : Int) ≤ 255 := by have := s[m].toNat_lt; omega
          have f0 : (0 : Int) ≤ (s[m + 1].toNat : Int) := by omega
          have f1 : (s[m + 1].toNat : Int) ≤ 255 := by have := s[m + 1].toNat_lt; omega
          have p0 : (0 : Int) ≤ (m : Int) := by omega
          have p1 : (m : Int) < (s.size : Int) := by omega
          have p2 : (m : Int) + 1 < (s.size : Int) := by omega
          have p3 : (0 : Int) ≤ (m : Int) + 1 := by omega
          have p4 : ((m : Int) + 1).toNat = m + 1 := by omega
          have p5 : IntKind.i64.wrap ((m : Int) + 1) = (m : Int) + 1 := IntWalk.i64_in _ (by omega)
          obtain ⟨x, hx⟩ : ∃ x, valD (s[m].toNat : Int) = x := ⟨_, rfl⟩
          obtain ⟨y, hy⟩ : ∃ y, valD (s[m + 1].toNat : Int) = y := ⟨_, rfl⟩
          have bx := valD_bd (s[m].toNat : Int)
          have by_ := valD_bd (s[m + 1].toNat : Int)
          rw [hx] at bx
          rw [hy] at by_
          have HX := Lib.hid hx
          have HY := Lib.hid hy
          clear hx hy
          have x1 := bx.2
          have y1 := by_.2
          by_cases gx : x < 0
          · have HBad : Hid (goodTo s s.size = false) := goodTo_bad hlt (by rw [HX.out]; exact gx)
            go_wp2_with fail
            go_quiet (first | (go_at_call 42; with_reducible exact Calls.quiet_of_same ((implDigit _ x _ c0 c1 HX).mono fun e w' ⟨he, hw⟩ => ⟨he, hw.symm⟩)) | (go_at_call 42; with_reducible exact Calls.quiet_of_same ((implDigit _ y _ f0 f1 HY).mono fun e w' ⟨he, hw⟩ => ⟨he, hw.symm⟩)))
            go_wp2_with fail
            go_ret2
            exact ⟨ret_sb (by simp [decS, decOk, HBad.out]) (by simp [decOk, HBad.out]), belowDrewN hB nq⟩
          · have gx1 : decide (x < 0) = false := by simpa using gx
            by_cases gy : y < 0
            · have HBad : Hid (goodTo s s.size = false) := goodTo_bad hlt2 (by rw [HY.out]; exact gy)
              go_wp2_with fail
              go_quiet (first | (go_at_call 42; with_reducible exact Calls.quiet_of_same ((implDigit _ x _ c0 c1 HX).mono fun e w' ⟨he, hw⟩ => ⟨he, hw.symm⟩)) | (go_at_call 42; with_reducible exact Calls.quiet_of_same ((implDigit _ y _ f0 f1 HY).mono fun e w' ⟨he, hw⟩ => ⟨he, hw.symm⟩)))
              go_wp2_with fail
              go_ret2
              exact ⟨ret_sb (by simp [decS, decOk, HBad.out]) (by simp [decOk, HBad.out]), belowDrewN hB nq⟩
            · have gy1 : decide (y < 0) = false := by simpa using gy
              have x0 : 0 ≤ x := by omega
              have y0 : 0 ≤ y := by omega
              have HGN : Hid (goodTo s (m + 2) = true) := goodTo_more HG.out hlt2 (by rw [HX.out]; exact x0) (by rw [HY.out]; exact y0)
              have HPN : Hid (pairsTo s (m + 2) = xs ++ [16 * x + y]) := by unfold Hid; rw [pairsTo_more HM.out hlt2 HX.out HY.out, HP.out]
              have HMN : Hid ((m + 2) % 2 = 0) := by unfold Hid; have := HM.out; omega
              have hle : m + 2 ≤ s.size := by omega
              go_wp2_with fail
              go_quiet (first | (go_at_call 42; with_reducible exact Calls.quiet_of_same ((implDigit _ x _ c0 c1 HX).mono fun e w' ⟨he, hw⟩ => ⟨he, hw.symm⟩)) | (go_at_call 42; with_reducible exact Calls.quiet_of_same ((implDigit _ y _ f0 f1 HY).mono fun e w' ⟨he, hw⟩ => ⟨he, hw.symm⟩)))
              have hw : IntKind.u8.wrap (16 * x + y) = 16 * x + y := IntWalk.u8_in _ (by omega)
              have hFd := hF.drewN nq
              have hBd := belowDrewN hB nq
              clear hF hB
              generalize wr.drewN nq = w2 at *
              have hBz := hBd.size
              go_wp2_with (first | (at_builtin; refine append_by1 rfl (.tmp 42) (.tmp 48) rfl w.heap.size _ xs (16 * x + y) rfl (hFd.al _) _ rfl (by simp) hxl (by simp; omega) ?_; intro v1 w1 hF1 hg1 hb1))
              clear hw
              go_roundw
              case rel => exact ⟨m + 2, _, hle, HMN, by go_num, hF1, (hBd.alloc hBd.size _).trans hb1, HGN, HPN⟩
              case measure => simp [intOf]; omega
        · have hke : m = s.size := by omega
          have HP2 := HP.out
          have HG2 := HG.out
          rw [hke] at HP2 HG2
          have HP3 := Lib.hid HP2
          have HG3 := Lib.hid HG2
          have hcv := hF.str
          clear hke HP2 HG2
          go_wp2_with fail
          go_ret2
          have hok : decOk s = true := by simp [decOk, H1.out, HG3.out, h2]
          exact ⟨ret_sb (by rw [decS, hok, if_pos rfl, HP3.out]) hok.symm, hB⟩
    · have e3 : decide (40000 < (s.size : Int)) = true := by simpa using (by omega : 40000 < (s.size : Int))
      have e1 : ((s.size : Int) % 2 == 1) = false := by simpa using (by omega : (s.size : Int) % 2 ≠ 1)
      have e2 : ((s.size : Int) % 2 != 0) = false := by simpa using (by omega : (s.size : Int) % 2 = 0)
      have hok : decOk s = false := by simp [decOk, h2]
      have HK := Lib.hid hok
      clear hok h1
      go_enter Try.func17, Try.ntmps17
      go_wp2_with fail
      go_ret2
      exact ⟨ret_sb (by simp [decS, HK.out]) HK.out.symm, Below.refl _ _⟩
  · have e1 : ((s.size : Int) % 2 == 1) = true := by simpa using (by omega : (s.size : Int) % 2 = 1)
    have e2 : ((s.size : Int) % 2 != 0) = true := by simpa using (by omega : (s.size : Int) % 2 ≠ 0)
    have hok : decOk s = false := by simp [decOk, h1]
    have HK := Lib.hid hok
    clear hok h1
    go_enter Try.func17, Try.ntmps17
    go_wp2_with fail
    go_ret2
    exact ⟨ret_sb (by simp [decS, HK.out]) HK.out.symm, Below.refl _ _⟩

end Go.Proofs.Ytmhjcljjnofgeaa
