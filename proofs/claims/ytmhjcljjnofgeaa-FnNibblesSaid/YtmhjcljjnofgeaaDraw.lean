/- Values, bytes and codes drawn from a source. Conditions: as each contract says. -/
import Derived.Test.YtmhjcljjnofgeaaSrc
namespace Go.Proofs.Ytmhjcljjnofgeaa
open Go.RowKit

def InVals (ys : List Int) : Prop := ∀ x ∈ ys, -1 ≤ x ∧ x ≤ 16
theorem InVals.nil : InVals [] := fun x hx => by simp at hx
theorem InVals.snoc {ys : List Int} (h : InVals ys) {y : Int} (h0 : -1 ≤ y) (h1 : y ≤ 16) : InVals (ys ++ [y]) := by
  intro x hx
  rcases List.mem_append.1 hx with h2 | h2
  · exact h x h2
  · simp at h2; subst h2; exact ⟨h0, h1⟩
theorem InVals.fits {ys : List Int} (h : InVals ys) : Fits ys := fun x hx => by have := h x hx; omega
def DrawnInts (g : Nat) (A : Option Addr) (c : Nat) (xs : List Int) (w : World) (e : Ending) (w' : World) : Prop :=
  ∃ v ys, e = .returned v ∧ Fresh w.heap.size w' v ys ∧ ys.length ≤ 3001 ∧ InVals ys ∧ SrcAt w' g A c xs ∧ w.grownBy w' (some g)
theorem made_repl (n : Nat) : (madeCells (Value.int .i64 0).cells (n * 1)).toList = (List.replicate n (0 : Int)).map (Value.int .i64) := by rw [Nat.mul_one]; exact made_ints n
set_option maxRecDepth 100000 in
set_option maxHeartbeats 2000000 in
theorem drawValues (g : Nat) (A : Option Addr) (c : Nat) (xs : List Int) (w : World) (hd : SrcAt w g A c xs) (hl : xs.length ≤ 4096) :
    Calls Try.prog 50 #[.pointer (some ⟨g, 0, none⟩), .int .i64 15] w (DrawnInts g A c xs w) := by
  obtain ⟨i0, hi, hz0, hz1, hz2⟩ := info_parts intInfo
  have hlow := Lib.hid hd.low
  have hgw := hd.lt
  have hE : Fresh w.heap.size (w.alloc (.cells #[] 2)) (.slice (some ⟨w.heap.size, 0, none⟩) 0 0) [] := Fresh.empty (Nat.le_refl _)
  have hg0 : w.grownBy (w.alloc (.cells #[] 2)) (some g) := World.grownBy_alloc _ _ _
  have hd0 : SrcAt (w.alloc (.cells #[] 2)) g A c xs := hd.below (by repeat (first | exact Below.refl _ _ | assumption | refine Below.setCell ?_ (by first | omega | (simp <;> omega)) _ | refine Below.alloc ?_ (by first | omega | (simp <;> omega)) _ | refine Below.drew ?_))
  clear hd
  go_enter Try.func50, Try.ntmps50
  go_wp2_with fail
  refine (srcBelow g A c xs 9 _ hd0 hl (by omega) (by omega)).mono ?_
  rintro e w1 ⟨k0, rfl, hk0, hk1, hd1, hg1⟩
  have hG1 := grownTrans hg0 hg1
  have hF1 := hE.grownNew hg1 (fun k hk => by injection hk with hk; omega)
  clear hE hg0 hd0 hg1
  go_wp2_with fail
  go_loopw [5, 6] (fun v q wr => ∃ (ys : List Int) (k : Int), q = .int .i64 k ∧ 0 ≤ k ∧ (ys.length : Int) + k ≤ 8 ∧ Fresh w.heap.size wr v ys ∧ InVals ys ∧ SrcAt wr g A c xs ∧ w.grownBy wr (some g)) (fun _ q _ => (intOf q).toNat)
  case atStart => exact ⟨[], k0, rfl, hk0, by simp; omega, hF1, InVals.nil, hd1, hG1⟩
  case round =>
    obtain ⟨ys, k, rfl, hk0', hk1', hF, HV, hD, hG⟩ := hrel
    clear hF1 hd1 hG1 hk0 hk1
    by_cases hpos : 0 < k
    · have HVH := Lib.hid HV
      clear HV
      go_wp2_with fail
      refine (srcBelow g A c xs 16 _ hD hl (by omega) (by omega)).mono ?_
      rintro e w2 ⟨y, rfl, y0, y1, hD2, hg2⟩
      have hG2 := grownTrans hG hg2
      have hF2 := hF.grownNew hg2 (fun k hk => by injection hk with hk; omega)
      have hyl : ys.length ≤ 1048576 := by omega
      have hz2' := hG2.size
      clear hD hg2 hF hG
      go_wp2_with (first | (at_builtin; refine append_one rfl (.tmp 14) (.tmp 19) rfl w.heap.size _ ys y rfl (hF2.below (by repeat (first | exact Below.refl _ _ | assumption | refine Below.setCell ?_ (by first | omega | (simp <;> omega)) _ | refine Below.alloc ?_ (by first | omega | (simp <;> omega)) _ | refine Below.drew ?_))) w2.heap.size rfl (by simp) hyl (by simp; omega) ?_; intro v3 w3 hF3 hg3 hb3))
      have hb4 : Below w.heap.size w2 w3 := ((Below.refl _ _).alloc hz2' _).trans hb3
      have hD3 := hD2.keep hb4 hgw hlow.out
      have hG3 := grownThen hG2 hb4
      go_roundw
      case rel => exact ⟨ys ++ [y], k - 1, by go_num, by omega, by simp; omega, hF3, HVH.out.snoc (by omega) (by omega), hD3, hG3⟩
      case measure => simp [intOf]; omega
    · have HVH := Lib.hid HV
      clear HV
      have hyl : ys.length ≤ 8 := by omega
      go_wp2_with fail
      refine (srcOneIn g A c xs 10 _ hD hl (by omega) (by omega)).mono ?_
      rintro e w2 ⟨b, rfl, hD2, hg2⟩
      have hG2 := grownTrans hG hg2
      have hF2 := hF.grownNew hg2 (fun k hk => by injection hk with hk; omega)
      have hz2' := hG2.size
      clear hD hg2 hF hG
      have key : ∀ (v5 : Value) (zs : List Int) (w5 : World), Fresh w.heap.size w5 v5 zs → zs.length ≤ 9 → InVals zs → SrcAt w5 g A c xs → w.grownBy w5 (some g) → True := fun _ _ _ _ _ _ _ _ => trivial
      clear key
      cases b
      · go_wp2_with fail
        refine (srcOneIn g A c xs 40 _ hD2 hl (by omega) (by omega)).mono ?_
        rintro e w3 ⟨b3, rfl, hD3, hg3⟩
        have hG3 := grownTrans hG2 hg3
        have hF3 := hF2.grownNew hg3 (fun k hk => by injection hk with hk; omega)
        have hz3 := hG3.size
        clear hD2 hg3 hF2 hG2
        cases b3
        · go_wp2_with fail
          go_ret
          exact ⟨_, ys, rfl, hF3, by omega, HVH.out, hD3, hG3⟩
        · go_wp2_with fail
          refine (srcBelow g A c xs 2 _ hD3 hl (by omega) (by omega)).mono ?_
          rintro e w4 ⟨y, rfl, y0, y1, hD4, hg4⟩
          have hG4 := grownTrans hG3 hg4
          obtain ⟨m, rfl⟩ := Int.eq_ofNat_of_zero_le y0
          have hz4 := hG4.size
          clear hD3 hg4 hF3 hG3
          go_wp2_with (first | (at_make; refine wpList_make_full _ rfl _ _ 27 rfl w.heap.size 2 i0 (.int .i64 0) 1 Try.underlying27 hi hz0 hz1 _ _ _ _ (3000 + m) rfl rfl (by omega) (by omega) (by rw [hz2]; omega) (by unfold maxLen; omega) hz4 ?_; intro w5 hown hgrow))
          rw [made_repl] at hown
          have hF5 : Fresh w.heap.size w5 (.slice (some ⟨w4.heap.size, 0, none⟩) (3000 + m) (3000 + m)) (List.replicate (3000 + m) 0) := by simpa [Fresh] using hown
          have hb5 : Below w.heap.size w4 w5 := (Below.refl _ _).grown hgrow hz4 (by simp)
          clear hown hgrow
          go_wp2_with fail
          go_ret
          exact ⟨_, _, rfl, hF5, by simp; omega, fun x hx => by have := (List.mem_replicate.1 hx).2; omega, hD4.keep hb5 hgw hlow.out, grownThen hG4 hb5⟩
      · go_wp2_with fail
        refine (srcBetween g A c xs (-1) 16 _ hD2 hl (by omega) (by omega) (by omega) (by omega)).mono ?_
        rintro e w3 ⟨y, rfl, y0, y1, hD3, hg3⟩
        have hG3 := grownTrans hG2 hg3
        have hF3 := hF2.grownNew hg3 (fun k hk => by injection hk with hk; omega)
        have hz3 := hG3.size
        have hyl2 : ys.length ≤ 1048576 := by omega
        clear hD2 hg3 hF2 hG2
        go_wp2_with (first | (at_builtin; refine append_one rfl (.tmp 23) (.tmp 28) rfl w.heap.size _ ys y rfl (hF3.below (by repeat (first | exact Below.refl _ _ | assumption | refine Below.setCell ?_ (by first | omega | (simp <;> omega)) _ | refine Below.alloc ?_ (by first | omega | (simp <;> omega)) _ | refine Below.drew ?_))) w3.heap.size rfl (by simp) hyl2 (by simp; omega) ?_; intro v4 w4 hF4 hg4 hb4))
        have hb5 : Below w.heap.size w3 w4 := ((Below.refl _ _).alloc hz3 _).trans hb4
        have hD4 := hD3.keep hb5 hgw hlow.out
        have hG4 := grownThen hG3 hb5
        have HV4 := Lib.hid (HVH.out.snoc (by omega) y1)
        have hz4 := hG4.size
        clear hD3 hG3 hb4 hb5 hg4 hF3
        refine (srcOneIn g A c xs 40 _ hD4 hl (by omega) (by omega)).mono ?_
        rintro e w5 ⟨b3, rfl, hD5, hg5⟩
        have hG5 := grownTrans hG4 hg5
        have hF5 := hF4.grownNew hg5 (fun k hk => by injection hk with hk; omega)
        clear hD4 hg5 hF4 hG4
        cases b3
        · go_wp2_with fail
          go_ret
          exact ⟨_, _, rfl, hF5, by simp; omega, HV4.out, hD5, hG5⟩
        · go_wp2_with fail
          refine (srcBelow g A c xs 2 _ hD5 hl (by omega) (by omega)).mono ?_
          rintro e w6 ⟨y', rfl, y0', y1', hD6, hg6⟩
          have hG6 := grownTrans hG5 hg6
          obtain ⟨m, rfl⟩ := Int.eq_ofNat_of_zero_le y0'
          have hz6 := hG6.size
          clear hD5 hg6 hF5 hG5
          go_wp2_with (first | (at_make; refine wpList_make_full _ rfl _ _ 27 rfl w.heap.size 2 i0 (.int .i64 0) 1 Try.underlying27 hi hz0 hz1 _ _ _ _ (3000 + m) rfl rfl (by omega) (by omega) (by rw [hz2]; omega) (by unfold maxLen; omega) hz6 ?_; intro w7 hown hgrow))
          rw [made_repl] at hown
          have hF7 : Fresh w.heap.size w7 (.slice (some ⟨w6.heap.size, 0, none⟩) (3000 + m) (3000 + m)) (List.replicate (3000 + m) 0) := by simpa [Fresh] using hown
          have hb7 : Below w.heap.size w6 w7 := (Below.refl _ _).grown hgrow hz6 (by simp)
          clear hown hgrow
          go_wp2_with fail
          go_ret
          exact ⟨_, _, rfl, hF7, by simp; omega, fun x hx => by have := (List.mem_replicate.1 hx).2; omega, hD6.keep hb7 hgw hlow.out, grownThen hG6 hb7⟩
end Go.Proofs.Ytmhjcljjnofgeaa
