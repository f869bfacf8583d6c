/- Codes drawn; lists compared; packed nibbles unpack to their values. Conditions: as each contract says. -/
import Derived.Test.YtmhjcljjnofgeaaDraw
import Derived.Test.YtmhjcljjnofgeaaUi
namespace Go.Proofs.Ytmhjcljjnofgeaa
open Go.RowKit

set_option maxHeartbeats 1000000 in
theorem likeAny (A B : Option Addr) (c d : Nat) (xs ys : List Int) (w : World) (hx : IntsAt w A xs) (hy : IntsAt w B ys) (hl : xs.length ≤ 1048576) :
    Calls Try.prog 30 #[.slice A xs.length c, .slice B ys.length d] w (Quiet (.bool (sameB xs ys)) w) := by
  by_cases hlen : xs.length = ys.length
  · have hne : ((xs.length : Int) != (ys.length : Int)) = false := by simp [hlen]
    have HL := Lib.hid hlen
    clear hlen
    go_enter Try.func30, Try.ntmps30
    go_wp2_with fail
    go_loopw [5] (fun i wr => ∃ k n : Nat, k ≤ xs.length ∧ i = .int .i64 k ∧ EqAt xs ys k ∧ wr = w.drewN n) (fun i _ => xs.length - (intOf i).toNat)
    case atStart => exact ⟨0, 0, Nat.zero_le _, rfl, fun j hj => by omega, rfl⟩
    case round =>
      obtain ⟨k, n, hk, rfl, heq, rfl⟩ := hrel
      by_cases hlt : k < xs.length
      · have hlt2 : k < ys.length := by have := HL.out; omega
        obtain ⟨b, off, x, rfl, hb, hc, HX⟩ := hx.at_ hlt
        obtain ⟨b', off', y, rfl, hb', hc', HY⟩ := hy.at_ hlt2
        have p1 : (0 : Int) ≤ (k : Int) := by omega
        have p2 : (k : Int) < (xs.length : Int) := by omega
        have p3 : (k : Int) < (ys.length : Int) := by omega
        by_cases he : x = y
        · subst he
          go_wp2_with fail
          go_quiet (fail)
          go_wp2
          go_roundw
          case rel => exact ⟨k + 1, n + nq, by omega, by go_num, heq.more (HX.out.trans HY.out.symm), rfl⟩
          case measure => simp [intOf]; omega
        · have hb1 : (x != y) = true := by simpa using he
          have HE := Lib.hid he
          clear he
          go_wp2_with fail
          go_quiet (fail)
          go_wp2
          go_ret
          exact ⟨ret_bool (by rw [sameB_no (fun h => HE.out (by rw [← HX.out, ← HY.out, h]))]), n + nq, World.drewN_drewN _ _ _⟩
      · go_wp2
        go_ret
        exact ⟨ret_bool (by rw [sameB_yes (eq_of_getD HL.out (fun j hj => heq j (by omega)))]), n, rfl⟩
  · have hne : ((xs.length : Int) != (ys.length : Int)) = true := by simp; omega
    go_enter Try.func30, Try.ntmps30
    go_wp2_with fail
    go_ret
    exact ⟨ret_bool (by rw [sameB_no (fun h => hlen (by rw [h]))]), 0, rfl⟩

theorem strOfNums_sz (xs : List Int) : (strOfNums xs).size = xs.length := strOfNums_size xs
/-- Packed nibbles, unpacked. -/
theorem unb_nib {vals : List Int} (h : allIn vals 15 = true) : unb (nibS vals) vals.length = vals := by
  obtain ⟨hl, hv⟩ := allIn_at h
  refine List.ext_getElem (by rw [unb_len]) fun i h1 h2 => ?_
  have h3 : i / 2 < (vals.length + 1) / 2 := by omega
  have hb : byteAt (nibS vals) (i / 2) = nib vals (i / 2) := by
    unfold byteAt nibS
    rw [h, if_pos rfl, strOfNums_data, List.getD_eq_getElem?_getD, List.getElem?_map]
    have : (bytesBy (nib vals) ((vals.length + 1) / 2))[i / 2]? = some (nib vals (i / 2)) := by simp [bytesBy, h3]
    rw [this]
    have a0 := hv (2 * (i / 2)) (by omega)
    have a1 : 0 ≤ vals.getD (2 * (i / 2) + 1) 15 ∧ vals.getD (2 * (i / 2) + 1) 15 ≤ 15 := by
      rcases Nat.lt_or_ge (2 * (i / 2) + 1) vals.length with hk | hk
      · rw [getD_any 15 0 hk]; exact hv _ hk
      · rw [List.getD_eq_getElem?_getD, List.getElem?_eq_none hk]; decide
    rw [← getD_any 15 0 (show 2 * (i / 2) < vals.length by omega)] at a0
    simp only [Option.map_some, Option.getD_some, nib]
    rw [UInt8.toNat_ofNat_of_lt' (by show _ < 256; omega)]
    omega
  simp only [unb, List.getElem_map, List.getElem_range, unAt, hb, nib]
  have ai := hv i h2
  rw [getD_at _ _ h2] at ai
  by_cases he : i % 2 = 0
  · rw [if_pos he, show 2 * (i / 2) = i from by omega, getD_any 15 0 h2, getD_at _ _ h2]
    have a1 : 0 ≤ vals.getD (i + 1) 15 ∧ vals.getD (i + 1) 15 ≤ 15 := by
      rcases Nat.lt_or_ge (i + 1) vals.length with hk | hk
      · rw [getD_any 15 0 hk]; exact hv _ hk
      · rw [List.getD_eq_getElem?_getD, List.getElem?_eq_none hk]; decide
    omega
  · rw [if_neg he, show 2 * (i / 2) + 1 = i from by omega, getD_any 15 0 h2, getD_at _ _ h2]
    omega
theorem nibS_size {vals : List Int} (h : allIn vals 15 = true) : (nibS vals).size = (vals.length + 1) / 2 := by
  rw [nibS, h, if_pos rfl, strOfNums_size, bytesBy_len]
theorem nibS_le (vals : List Int) : (nibS vals).size ≤ 3000 := by
  cases h : allIn vals 15
  · rw [nibS, h, if_neg (by decide)]; decide
  · rw [nibS_size h]; have := (allIn_at h).1; omega
theorem nib_un {vals : List Int} (h : allIn vals 15 = true) : unOk (nibS vals) (vals.length : Int) = true ∧ unL (nibS vals) (vals.length : Int) = vals := by
  obtain ⟨hl, hv⟩ := allIn_at h
  have h1 : inR (vals.length : Int) 0 3000 = true := inR_iff.2 ⟨by omega, by omega⟩
  have h2 : unP (nibS vals) vals.length = nibS vals := by
    rw [unP, unb_nib h]
    conv => rhs; rw [nibS, h, if_pos rfl]
  have h3 : unOk (nibS vals) (vals.length : Int) = true := by
    rw [unOk, h1, nibS_size h, Int.toNat_natCast, h2]
    simp
  exact ⟨h3, by rw [unL, h3, if_pos rfl, Int.toNat_natCast, unb_nib h]⟩
/-- Every string that unpacks is the packed form of its values. -/
theorem un_nib {u : ByteArray} {n : Int} (h : unOk u n = true) : nibS (unL u n) = u ∧ ((unL u n).length : Int) = n := by
  have h0 := h
  simp only [unOk, Bool.and_eq_true, decide_eq_true_eq] at h
  obtain ⟨⟨h1, h2⟩, h3⟩ := h
  have hb := inR_iff.1 h1
  rw [unL, h0, if_pos rfl]
  refine ⟨?_, by rw [unb_len]; omega⟩
  rw [nibS, unb_allIn u _ (by omega), if_pos rfl, unb_len]
  exact h3
theorem BFresh.grownNew {B : Nat} {w w' : World} {v : Value} {xs : List Int} {row : Option Nat} (h : BFresh B w v xs) (hg : w.grownBy w' row) (hrow : ∀ g, row = some g → g < B) : BFresh B w' v xs := by
  refine World.ownsRow.kept h hg ?_
  cases hv : v.ownBlock with
  | none => exact .inl rfl
  | some k =>
    refine .inr fun e => ?_
    have h1 := h.block k hv
    have h2 := hrow k e.symm
    omega
def DrawnStr (g : Nat) (A : Option Addr) (c : Nat) (xs : List Int) (w : World) (e : Ending) (w' : World) : Prop :=
  ∃ u : ByteArray, e = .returned (.string u) ∧ u.size ≤ 1048576 ∧ SrcAt w' g A c xs ∧ w.grownBy w' (some g)
set_option maxRecDepth 100000 in
set_option maxHeartbeats 2000000 in
theorem drawBytes (g : Nat) (A : Option Addr) (c : Nat) (xs : List Int) (w : World) (hd : SrcAt w g A c xs) (hl : xs.length ≤ 4096) :
    Calls Try.prog 52 #[.pointer (some ⟨g, 0, none⟩)] w (DrawnStr g A c xs w) := by
  have hlow := Lib.hid hd.low
  have hgw := hd.lt
  have hE : BFresh w.heap.size (w.alloc (.cells #[] 5)) (.slice (some ⟨w.heap.size, 0, none⟩) 0 0) [] := BFresh.empty (Nat.le_refl _)
  have hg0 : w.grownBy (w.alloc (.cells #[] 5)) (some g) := World.grownBy_alloc _ _ _
  have hd0 : SrcAt (w.alloc (.cells #[] 5)) g A c xs := hd.below (by repeat (first | exact Below.refl _ _ | assumption | refine Below.setCell ?_ (by first | omega | (simp <;> omega)) _ | refine Below.alloc ?_ (by first | omega | (simp <;> omega)) _ | refine Below.drew ?_))
  clear hd
  go_enter Try.func52, Try.ntmps52
  go_wp2_with fail
  refine (srcBelow g A c xs 9 _ hd0 hl (by omega) (by omega)).mono ?_
  rintro e w1 ⟨k0, rfl, hk0, hk1, hd1, hg1⟩
  have hG1 := grownTrans hg0 hg1
  have hF1 := hE.grownNew hg1 (fun k hk => by injection hk with hk; omega)
  clear hE hg0 hd0 hg1
  go_wp2_with fail
  go_loopw [3, 4] (fun v q wr => ∃ (ys : List Int) (k : Int), q = .int .i64 k ∧ 0 ≤ k ∧ (ys.length : Int) + k ≤ 8 ∧ BFresh w.heap.size wr v ys ∧ SrcAt wr g A c xs ∧ w.grownBy wr (some g)) (fun _ q _ => (intOf q).toNat)
  case atStart => exact ⟨[], k0, rfl, hk0, by simp; omega, hF1, hd1, hG1⟩
  case round =>
    obtain ⟨ys, k, rfl, hk0', hk1', hF, hD, hG⟩ := hrel
    clear hF1 hd1 hG1 hk0 hk1
    by_cases hpos : 0 < k
    · go_wp2_with fail
      refine (srcBelow g A c xs 256 _ hD hl (by omega) (by omega)).mono ?_
      rintro e w2 ⟨y, rfl, y0, y1, hD2, hg2⟩
      have hG2 := grownTrans hG hg2
      have hF2 := hF.grownNew hg2 (fun k hk => by injection hk with hk; omega)
      have hyl : ys.length ≤ 4194304 := by omega
      have hz2' := hG2.size
      have hw : IntKind.u8.wrap y = y := IntWalk.u8_in _ (by omega)
      clear hD hg2 hF hG
      go_wp2_with (first | (at_builtin; refine append_by1 rfl (.tmp 12) (.tmp 16) rfl w.heap.size _ ys y rfl (hF2.al _) _ rfl (by simp) hyl (by simp; omega) ?_; intro v3 w3 hF3 hg3 hb3))
      clear hw
      have hb4 : Below w.heap.size w2 w3 := ((Below.refl _ _).alloc hz2' _).trans hb3
      have hD3 := hD2.keep hb4 hgw hlow.out
      have hG3 := grownThen hG2 hb4
      go_roundw
      case rel => exact ⟨ys ++ [y], k - 1, by go_num, by omega, by simp; omega, hF3, hD3, hG3⟩
      case measure => simp [intOf]; omega
    · have hyl : ys.length ≤ 8 := by omega
      have hcv := hF.str
      go_wp2_with fail
      go_ret
      exact ⟨_, rfl, by rw [strOfNums_size]; omega, hD, hG⟩
def DrewInts (w : World) (e : Ending) (w' : World) : Prop := ∃ v ys, e = .returned v ∧ Fresh w.heap.size w' v ys ∧ ys.length ≤ 3001 ∧ InVals ys ∧ Below w.heap.size w w'
theorem belowSrc {w w1 w2 : World} (hb : Below w.heap.size w w1) (hg : w1.grownBy w2 (some w.heap.size)) : Below w.heap.size w w2 :=
  belowGrown hb hg hb.size (fun k hk => by injection hk with hk; omega)
set_option maxHeartbeats 1000000 in
theorem drawPack (A : Option Addr) (c : Nat) (xs : List Int) (w : World) (hx : BytesAt w A xs) (hl : xs.length ≤ 4096) :
    Calls Try.prog 29 #[.slice A xs.length c] w (DrewInts w) := by
  go_enter Try.func29, Try.ntmps29
  go_wp2_with fail
  refine (newSrc A c xs _ hx hl).mono ?_
  rintro e w1 ⟨rfl, hd1, hb1⟩
  go_wp2_with fail
  refine (drawValues w.heap.size A c xs _ hd1 hl).mono ?_
  rintro e w2 ⟨v, ys, rfl, hF, hyl, hv, hd2, hg2⟩
  have hv2 := Lib.hid hv
  clear hv
  go_wp2_with fail
  go_ret
  exact ⟨v, ys, rfl, Fresh.mono hF hb1.size, hyl, hv2.out, belowSrc hb1 hg2⟩
def DrewStrInt (w : World) (e : Ending) (w' : World) : Prop := ∃ (u : ByteArray) (n : Int), e = .returned (.tuple #[.string u, .int .i64 n]) ∧ u.size ≤ 1048576 ∧ Below w.heap.size w w'
set_option maxRecDepth 100000 in
set_option maxHeartbeats 2000000 in
theorem drawUnpack (A : Option Addr) (c : Nat) (xs : List Int) (w : World) (hx : BytesAt w A xs) (hl : xs.length ≤ 4096) :
    Calls Try.prog 31 #[.slice A xs.length c] w (DrewStrInt w) := by
  go_enter Try.func31, Try.ntmps31
  go_wp2_with fail
  refine (newSrc A c xs _ hx hl).mono ?_
  rintro e w1 ⟨rfl, hd1, hb1⟩
  go_wp2_with fail
  refine (drawValues w.heap.size A c xs _ hd1 hl).mono ?_
  rintro e w2 ⟨v, ys, rfl, hF, hyl, hv, hd2, hg2⟩
  obtain ⟨A2, c2, rfl, hI, -⟩ := hF.ints
  have hb2 := belowSrc hb1 hg2
  have hsz := nibS_le ys
  clear hv hF hg2 hb1 hd1
  obtain ⟨S, hS⟩ : ∃ S, nibS ys = S := ⟨_, rfl⟩
  rw [hS] at hsz
  have HS := Lib.hid hS
  clear hS
  go_wp2_with fail
  refine (specNibs A2 c2 ys _ hI (by omega)).mono ?_
  rintro e w3 ⟨rfl, hb3⟩
  rw [HS.out]
  have hd3 := hd2.below hb3
  have hB3 := belowStep hb3 hb2
  clear hd2 hb2 hI hb3
  go_wp2_with fail
  refine (srcOneIn _ A c xs 5 _ hd3 hl (by omega) (by omega)).mono ?_
  rintro e w4 ⟨b4, rfl, hd4, hg4⟩
  have hB4 := belowSrc hB3 hg4
  clear hd3 hB3 hg4
  cases b4
  · go_wp2_with fail
    refine (srcOneIn _ A c xs 8 _ hd4 hl (by omega) (by omega)).mono ?_
    rintro e w5 ⟨b5, rfl, hd5, hg5⟩
    have hB5 := belowSrc hB4 hg5
    clear hd4 hB4 hg5
    cases b5
    · go_wp2_with fail
      go_ret2
      exact ⟨S, _, rfl, by omega, hB5⟩
    · go_wp2_with fail
      refine (srcBetween _ A c xs (-1) 1 _ hd5 hl (by omega) (by omega) (by omega) (by omega)).mono ?_
      rintro e w6 ⟨x, rfl, x0, x1, hd6, hg6⟩
      have hB6 := belowSrc hB5 hg6
      go_wp2_with fail
      go_ret2
      exact ⟨S, _, rfl, by omega, hB6⟩
  · go_wp2_with fail
    refine (drawBytes _ A c xs _ hd4 hl).mono ?_
    rintro e w5 ⟨u, rfl, hu, hd5, hg5⟩
    have hB5 := belowSrc hB4 hg5
    clear hd4 hB4 hg5
    go_wp2_with fail
    refine (srcBelow _ A c xs 12 _ hd5 hl (by omega) (by omega)).mono ?_
    rintro e w6 ⟨x, rfl, x0, x1, hd6, hg6⟩
    have hB6 := belowSrc hB5 hg6
    go_wp2_with fail
    go_ret2
    exact ⟨u, x, rfl, hu, hB6⟩
end Go.Proofs.Ytmhjcljjnofgeaa
