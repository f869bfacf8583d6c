/- Numbers, results and lists of results drawn from a source. Conditions: as each contract says. -/
import Derived.Test.YtmfmkalgalmbcaaSrc
import Derived.Test.YtmfmkalgalmbcaaMark
namespace Go.Proofs.Ytmfmkalgalmbcaa
open Go.RowKit

def SrcInt (g : Nat) (A : Option Addr) (c : Nat) (xs : List Int) (w : World) (e : Ending) (w' : World) : Prop := ∃ x : Int, e = .returned (.int .i64 x) ∧ SrcAt w' g A c xs ∧ w.grownBy w' (some g)
def SrcNat (n : Int) (g : Nat) (A : Option Addr) (c : Nat) (xs : List Int) (w : World) (e : Ending) (w' : World) : Prop := ∃ x : Int, e = .returned (.int .i64 x) ∧ 0 ≤ x ∧ x < n ∧ SrcAt w' g A c xs ∧ w.grownBy w' (some g)
set_option maxHeartbeats 2000000 in
theorem srcBelowL (g : Nat) (A : Option Addr) (c : Nat) (xs : List Int) (n : Int) (w : World) (hd : SrcAt w g A c xs) (hl : xs.length ≤ 4096) (h0 : 1 ≤ n) (h1 : n ≤ 400000) :
    Calls Try.prog 37 #[.pointer (some ⟨g, 0, none⟩), .int .i64 n] w (SrcNat n g A c xs w) := by
  by_cases h2 : n ≤ 256
  · exact srcBelow g A c xs n w hd hl h0 h2
  go_enter Try.func37, Try.ntmps37
  go_wp2_with fail
  refine (nextByte g A c xs _ hd hl).mono ?_
  rintro e w1 ⟨x1, rfl, x10, x11, hd1, hg1⟩
  go_wp2_with fail
  refine (nextByte g A c xs _ hd1 hl).mono ?_
  rintro e w2 ⟨x2, rfl, x20, x21, hd2, hg2⟩
  have hg2 := grownTrans hg1 hg2
  go_wp2_with fail
  refine (nextByte g A c xs _ hd2 hl).mono ?_
  rintro e w3 ⟨x3, rfl, x30, x31, hd3, hg3⟩
  have hg3 := grownTrans hg2 hg3
  go_wp2_with fail
  refine (nextByte g A c xs _ hd3 hl).mono ?_
  rintro e w4 ⟨x4, rfl, x40, x41, hd4, hg4⟩
  have hg4 := grownTrans hg3 hg4
  go_wp2_with fail
  go_ret
  exact ⟨_, rfl, Int.emod_nonneg _ (by omega), Int.emod_lt_of_pos _ (by omega), hd4, hg4⟩
/-- One of a row's numbers. -/
theorem pick_at {w : World} {b m : Nat} {T : TypeId} {cs : Array Value} (l : List Int) (h : w.heap[b]? = some (.cells cs T (0, 0))) (hcs : cs = (l.map (Value.int .i64)).toArray) (hm : m < l.length) : w.cell? ⟨b, m, none⟩ = some (.int .i64 (l.getD m 0)) := by
  rw [cell_of_row w b m _ _ (0, 0) h, hcs, List.getElem?_toArray, List.getElem?_map, List.getElem?_eq_getElem hm, getD_at _ _ hm]; rfl
def extremes : List Int := [-1, 0, 1, 2147483648, -2147483648, 1099511627776, 4611686018427387904, -4611686018427387904, 9223372036854775807, -9223372036854775808]
set_option maxHeartbeats 2000000 in
theorem srcExtreme (g : Nat) (A : Option Addr) (c : Nat) (xs : List Int) (w : World) (hd : SrcAt w g A c xs) (hl : xs.length ≤ 4096) :
    Calls Try.prog 45 #[.pointer (some ⟨g, 0, none⟩)] w fun e w' => ∃ x : Int, e = .returned (.int .i64 x) ∧ -9223372036854775808 ≤ x ∧ x ≤ 9223372036854775807 ∧ SrcAt w' g A c xs ∧ w.grownBy w' (some g) := by
  have hgw := hd.lt
  obtain ⟨w0, hw0⟩ : ∃ w0, w.alloc (.cells #[.int .i64 (-1), .int .i64 0, .int .i64 1, .int .i64 2147483648, .int .i64 (-2147483648), .int .i64 1099511627776, .int .i64 4611686018427387904, .int .i64 (-4611686018427387904), .int .i64 9223372036854775807, .int .i64 (-9223372036854775808)] 2) = w0 := ⟨_, rfl⟩
  have hr0 : w0.heap[w.heap.size]? = some (.cells (extremes.map (Value.int .i64)).toArray 2 (0, 0)) := by rw [← hw0, heap_alloc_new]; rfl
  have hd0 : SrcAt w0 g A c xs := by rw [← hw0]; exact hd.below (by repeat (first | exact Below.refl _ _ | assumption | refine Below.setCell ?_ (by first | omega | (simp <;> omega)) _ | refine Below.alloc ?_ (by first | omega | (simp <;> omega)) _ | refine Below.drew ?_))
  have hg0 : w.grownBy w0 (some g) := by rw [← hw0]; exact World.grownBy_alloc _ _ _
  go_enter Try.func45, Try.ntmps45
  go_wp2_with fail
  refine (srcBelow g A c xs 10 _ hd0 hl (by omega) (by omega)).mono ?_
  rintro e w1 ⟨y, rfl, y0, y1, hd1, hg1⟩
  obtain ⟨m, rfl⟩ := Int.eq_ofNat_of_zero_le y0
  have hr1 := (hg1.block w.heap.size (Array.getElem?_eq_some_iff.1 hr0).1 (fun e => by injection e with e; omega)).trans hr0
  have hcc := pick_at (m := m) extremes hr1 rfl (by simp [extremes]; omega)
  have hbd : -9223372036854775808 ≤ extremes.getD m 0 ∧ extremes.getD m 0 ≤ 9223372036854775807 := by
    have : m < 10 := by omega
    match m, this with
    | 0, _ | 1, _ | 2, _ | 3, _ | 4, _ | 5, _ | 6, _ | 7, _ | 8, _ | 9, _ => simp [extremes]
  obtain ⟨x, hx⟩ : ∃ x, extremes.getD m 0 = x := ⟨_, rfl⟩
  rw [hx] at hcc hbd
  have HBD := Lib.hid hbd
  clear hx hbd hr1 hr0
  go_wp2_with fail
  go_ret
  exact ⟨x, rfl, HBD.out.1, HBD.out.2, hd1, grownTrans hg0 hg1⟩
set_option maxHeartbeats 4000000 in
theorem srcUpTo (g : Nat) (A : Option Addr) (c : Nat) (xs : List Int) (n : Int) (w : World) (hd : SrcAt w g A c xs) (hl : xs.length ≤ 4096) (h0 : 0 ≤ n) (h1 : n ≤ 360000) :
    Calls Try.prog 39 #[.pointer (some ⟨g, 0, none⟩), .int .i64 n] w (SrcInt g A c xs w) := by
  go_enter Try.func39, Try.ntmps39
  go_wp2_with fail
  refine (srcOneIn g A c xs 10 _ hd hl (by omega) (by omega)).mono ?_
  rintro e w1 ⟨b1, rfl, hd1, hg1⟩
  cases b1
  · go_wp2_with fail
    refine (srcOneIn g A c xs 2 _ hd1 hl (by omega) (by omega)).mono ?_
    rintro e w2 ⟨b2, rfl, hd2, hg2⟩
    have hg2 := grownTrans hg1 hg2
    cases b2
    · go_wp2_with fail
      refine (srcBelowL g A c xs (n + 1) _ hd2 hl (by omega) (by omega)).mono ?_
      rintro e w3 ⟨x, rfl, x0, x1, hd3, hg3⟩
      go_wp2_with fail
      go_ret
      exact ⟨x, rfl, hd3, grownTrans hg2 hg3⟩
    · by_cases h4 : n ≤ 4
      · go_wp2_with fail
        refine (srcBelowL g A c xs (n + 1) _ hd2 hl (by omega) (by omega)).mono ?_
        rintro e w3 ⟨x, rfl, x0, x1, hd3, hg3⟩
        go_wp2_with fail
        go_ret
        exact ⟨x, rfl, hd3, grownTrans hg2 hg3⟩
      · go_wp2_with fail
        refine (srcBelowL g A c xs 5 _ hd2 hl (by omega) (by omega)).mono ?_
        rintro e w3 ⟨x, rfl, x0, x1, hd3, hg3⟩
        go_wp2_with fail
        go_ret
        exact ⟨x, rfl, hd3, grownTrans hg2 hg3⟩
  · go_wp2_with fail
    refine (srcExtreme g A c xs _ hd1 hl).mono ?_
    rintro e w2 ⟨x, rfl, x0, x1, hd2, hg2⟩
    have hg2 := grownTrans hg1 hg2
    have hgw := hd2.lt
    obtain ⟨w3, hw3⟩ : ∃ w3, w2.alloc (.cells #[.int .i64 (-1), .int .i64 n, .int .i64 (n + 1), .int .i64 x] 2) = w3 := ⟨_, rfl⟩
    have hr3 : w3.heap[w2.heap.size]? = some (.cells (([-1, n, n + 1, x] : List Int).map (Value.int .i64)).toArray 2 (0, 0)) := by rw [← hw3, heap_alloc_new]; rfl
    have hd3 : SrcAt w3 g A c xs := by rw [← hw3]; exact hd2.below (by repeat (first | exact Below.refl _ _ | assumption | refine Below.setCell ?_ (by first | omega | (simp <;> omega)) _ | refine Below.alloc ?_ (by first | omega | (simp <;> omega)) _ | refine Below.drew ?_))
    have hg3 : w2.grownBy w3 (some g) := by rw [← hw3]; exact World.grownBy_alloc _ _ _
    have hg3 := grownTrans hg2 hg3
    go_wp2_with fail
    refine (srcBelow g A c xs 4 _ hd3 hl (by omega) (by omega)).mono ?_
    rintro e w4 ⟨y, rfl, y0, y1, hd4, hg4⟩
    obtain ⟨m, rfl⟩ := Int.eq_ofNat_of_zero_le y0
    have hr4 := (hg4.block w2.heap.size (Array.getElem?_eq_some_iff.1 hr3).1 (fun e => by injection e with e; omega)).trans hr3
    have hcc := pick_at (m := m) [-1, n, n + 1, x] hr4 rfl (by simp; omega)
    obtain ⟨z, hz⟩ : ∃ z, ([-1, n, n + 1, x] : List Int).getD m 0 = z := ⟨_, rfl⟩
    rw [hz] at hcc
    clear hz hr3 hr4
    go_wp2_with fail
    go_ret
    exact ⟨z, rfl, hd4, grownTrans hg3 hg4⟩
def DrawnTimes (n : Nat) (g : Nat) (A : Option Addr) (c : Nat) (xs : List Int) (w : World) (e : Ending) (w' : World) : Prop :=
  ∃ v ys, e = .returned v ∧ Fresh w.heap.size w' v ys ∧ ys.length ≤ n + 1 ∧ SrcAt w' g A c xs ∧ w.grownBy w' (some g)
end Go.Proofs.Ytmfmkalgalmbcaa
