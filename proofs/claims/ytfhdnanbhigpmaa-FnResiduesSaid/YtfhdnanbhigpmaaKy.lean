/- Numbers as bytes: a list's key, a number of some bytes, at both packages. Conditions: as each contract says. -/
import Derived.Test.YtfhdnanbhigpmaaLs
import Derived.Test.YtfhdnanbhigpmaaPk
namespace Go.Proofs.Ytfhdnanbhigpmaa
open Go.RowKit

def upTo (f : Nat → Int) (k j : Nat) : Int := if j < k then f j else 0
theorem upTo_at (f : Nat → Int) (k : Nat) : upTo f (k + 1) k = f k := by simp [upTo]
theorem upTo_ne (f : Nat → Int) (k : Nat) : ∀ i, i ≠ k → upTo f (k + 1) i = upTo f k i := fun i hi => by
  unfold upTo
  split <;> split <;> first | rfl | omega
theorem upTo_all (f : Nat → Int) (n : Nat) : bytesBy (upTo f n) n = bytesBy f n := by
  unfold bytesBy
  refine List.map_congr_left fun i hi => ?_
  simp [upTo, List.mem_range.1 hi]
theorem made_by (f : Nat → Int) (n : Nat) : (madeCells #[Value.int .u8 0] n).toList = cellsBy (upTo f 0) n := by
  rw [toList_madeCells_one]
  unfold cellsBy bytesBy
  rw [List.map_map]
  refine (List.eq_replicate_iff.2 ⟨by simp, fun b hb => ?_⟩).symm
  obtain ⟨a, _, rfl⟩ := List.mem_map.1 hb
  simp [upTo]
theorem bytesBy_self (xs : List Int) : bytesBy (fun j => xs.getD j 0) xs.length = xs := by
  refine List.ext_getElem (by simp [bytesBy]) fun i h1 h2 => ?_
  simp [bytesBy, List.getD_eq_getElem?_getD, List.getElem?_eq_getElem h2]
/-- The bytes of a whole block as a string. -/
theorem rowStr {w : World} {B g n : Nat} {f : Nat → Int} (hB : B ≤ g) (hn : n ≤ 4194304) (h : w.heap[g]? = some (.cells (cellsBy f n).toArray 5 (0, 0))) :
    (convert 22 9 (.slice (some ⟨g, 0, none⟩) n n)).run Try.prog w = .ok (.string (strOfNums (bytesBy f n))) w := by
  have h3 : BFresh B w (.slice (some ⟨g, 0, none⟩) n n) (bytesBy f n) := by
    have := made_of_whole (B := B) hB (by unfold maxLen; omega) h (cellsBy_len _ _)
    unfold BFresh
    rw [show (bytesBy f n).length = n from by simp [bytesBy]]
    exact this
  exact h3.str
set_option maxHeartbeats 1000000 in
theorem keyOf (A : Option Addr) (c : Nat) (xs : List Int) (w : World) (hx : IntsAt w A xs) (hl : xs.length ≤ 1048576) (hv : ∀ k, k < xs.length → 0 ≤ xs.getD k 0 ∧ xs.getD k 0 ≤ 255) :
    Calls Try.prog 86 #[.slice A xs.length c] w fun e w' => e = .returned (.string (strOfNums xs)) ∧ Below w.heap.size w w' := by
  obtain ⟨i1, hi1, hy0, hy1, hy2⟩ := info_parts byteInfo
  have HV := Lib.hid hv
  clear hv
  go_enter Try.func86, Try.ntmps86
  go_wp2_with (first | (at_make; refine wpList_make_full _ rfl _ _ 22 rfl w.heap.size 5 i1 (.int .u8 0) 1 Try.underlying22 hi1 hy0 hy1 _ _ _ _ xs.length rfl rfl rfl rfl ?_ ?_ ?_ ?_))
  · rw [hy2]; omega
  · unfold maxLen; omega
  · simp
  intro w1 hown hgrow
  rw [made_by (fun j => xs.getD j 0)] at hown
  have hB1 : Below w.heap.size w w1 := (Below.refl _ _).grown hgrow (Nat.le_refl _) (by simp)
  have hr1 := made_whole hown
  clear hown hgrow
  go_wp2_with fail
  go_loopw [11] (fun i wr => ∃ k : Nat, k ≤ xs.length ∧ i = .int .i64 k ∧ wr.heap[w.heap.size]? = some (.cells (cellsBy (upTo (fun j => xs.getD j 0) k) xs.length).toArray 5 (0, 0)) ∧ Below w.heap.size w wr) (fun i _ => xs.length - (intOf i).toNat)
  case atStart => exact ⟨0, Nat.zero_le _, rfl, hr1, hB1⟩
  case round =>
    obtain ⟨k, hk, rfl, hr, hB⟩ := hrel
    clear hB1 hr1
    by_cases hlt : k < xs.length
    · obtain ⟨b, off, y, rfl, hb, hc0, HX⟩ := (hx.below hB).at_ hlt
      have p0 : (0 : Int) ≤ (k : Int) := by omega
      have p1 : (k : Int) < (xs.length : Int) := by omega
      have hwr : IntKind.u8.wrap y = y := IntWalk.u8_in _ (by have := HV.out k hlt; rw [HX.out] at this; omega)
      have c1 : wr.cell? ⟨w.heap.size, k, none⟩ = some (.int .u8 (upTo (fun j => xs.getD j 0) k k)) := list_cell hr (cellsBy_get _ _ _ hlt)
      have f1 : wr.frozen? ⟨w.heap.size, k, none⟩ = false := row_free hr
      have HR := Lib.hid (list_store (p := k) (.int .u8 y) hr)
      have HH := Lib.hid (cellsBy_set (upTo (fun j => xs.getD j 0) k) (upTo (fun j => xs.getD j 0) (k + 1)) xs.length k y (by rw [upTo_at]; exact HX.out) (upTo_ne _ k))
      clear hr
      go_wp2_with fail
      go_roundw
      case rel => exact ⟨k + 1, by omega, by go_num, by rw [← HH.out]; exact HR.out, hB.setCell (by simp) _⟩
      case measure => simp [intOf]; omega
    · obtain rfl : k = xs.length := by omega
      have hcv := rowStr (B := 0) (Nat.zero_le _) (by omega) hr
      rw [upTo_all, bytesBy_self] at hcv
      go_wp2_with fail
      go_ret
      exact ⟨rfl, hB⟩
end Go.Proofs.Ytfhdnanbhigpmaa
