/- The bytes of a string as numbers, at both packages. Conditions: the string is no longer than the law allows. -/
import Derived.Test.YtdkoegccfpdldaaSum
namespace Go.Proofs.Ytdkoegccfpdldaa
open Go.RowKit

def numsOf (s : ByteArray) : List Int := s.data.toList.map (fun b => (b.toNat : Int))
theorem numsOf_len (s : ByteArray) : (numsOf s).length = s.size := by unfold numsOf; rw [List.length_map]; rfl
theorem numsOf_more (s : ByteArray) (k : Nat) (h : k < s.size) : (numsOf s).take (k + 1) = (numsOf s).take k ++ [(s[k].toNat : Int)] := by
  unfold numsOf
  rw [← List.map_take, ← List.map_take, take_snoc s k h, List.map_append]
  rfl
set_option maxHeartbeats 1000000 in
theorem specBytes (s : ByteArray) (w : World) (hs : s.size ≤ 1048576) :
    Calls Try.prog 35 #[.string s] w fun e w' => ∃ v, e = .returned v ∧ Fresh w.heap.size w' v (numsOf s) ∧ Below w.heap.size w w' := by
  have hB0 : Below w.heap.size w (w.alloc (.cells #[] 2)) := (by repeat (first | exact Below.refl _ _ | assumption | refine Below.setCell ?_ (by first | omega | (simp <;> omega)) _ | refine Below.alloc ?_ (by first | omega | (simp <;> omega)) _ | refine Below.drew ?_))
  go_enter Try.func35, Try.ntmps35
  go_wp2_with fail
  go_loopw [3, 4] (fun v i wr => ∃ k : Nat, k ≤ s.size ∧ i = .int .i64 k ∧ Fresh w.heap.size wr v ((numsOf s).take k) ∧ Below w.heap.size w wr) (fun _ i _ => s.size - (intOf i).toNat)
  case atStart => exact ⟨0, Nat.zero_le _, rfl, Fresh.empty (Nat.le_refl _), hB0⟩
  case round =>
    obtain ⟨k, hk, rfl, hF, hB⟩ := hrel
    clear hB0
    by_cases hlt : k < s.size
    · have HN := Lib.hid (numsOf_more s k hlt)
      have c0 : (0 : Int) ≤ (s[k].toNat : Int) := by omega
      have c1 : (s[k].toNat : Int) ≤ 255 := by have := s[k].toNat_lt; omega
      have hzl : ((numsOf s).take k).length ≤ 1048576 := by rw [List.length_take]; omega
      obtain ⟨zs, hzs⟩ : ∃ zs, (numsOf s).take k = zs := ⟨_, rfl⟩
      rw [hzs] at hF hzl
      have HZ := Lib.hid hzs
      have hsz := hB.size
      clear hzs
      go_wp2_with (first | (at_builtin; refine append_one rfl (.tmp 12) (.tmp 17) rfl w.heap.size _ zs (s[k].toNat : Int) rfl (hF.below (by repeat (first | exact Below.refl _ _ | assumption | refine Below.setCell ?_ (by first | omega | (simp <;> omega)) _ | refine Below.alloc ?_ (by first | omega | (simp <;> omega)) _ | refine Below.drew ?_))) wr.heap.size rfl (by simp) hzl (by simp; omega) ?_; intro v1 w1 hF1 hg1 hb1))
      go_roundw
      case rel => exact ⟨k + 1, by omega, by go_num, by rw [HN.out, HZ.out]; exact hF1, (hB.alloc hsz _).trans hb1⟩
      case measure => simp [intOf]; omega
    · obtain rfl : k = s.size := by omega
      rw [List.take_of_length_le (by rw [numsOf_len]; omega)] at hF
      go_wp2_with fail
      go_ret
      exact ⟨_, rfl, hF, hB⟩
set_option maxHeartbeats 1000000 in
theorem implBytes (s : ByteArray) (w : World) (hs : s.size ≤ 1048576) :
    Calls Try.prog 36 #[.string s] w fun e w' => ∃ v, e = .returned v ∧ Fresh w.heap.size w' v (numsOf s) ∧ Below w.heap.size w w' := by
  have hB0 : Below w.heap.size w w := Below.refl _ _
  go_enter Try.func36, Try.ntmps36
  go_wp2_with fail
  go_loopw [3, 7] (fun v i wr => ∃ k : Nat, k ≤ s.size ∧ i = .int .i64 k ∧ Fresh w.heap.size wr v ((numsOf s).take k) ∧ Below w.heap.size w wr) (fun _ i _ => s.size - (intOf i).toNat)
  case atStart => exact ⟨0, Nat.zero_le _, rfl, Fresh.nil _ _, hB0⟩
  case round =>
    obtain ⟨k, hk, rfl, hF, hB⟩ := hrel
    clear hB0
    by_cases hlt : k < s.size
    · have HN := Lib.hid (numsOf_more s k hlt)
      have c0 : (0 : Int) ≤ (s[k].toNat : Int) := by omega
      have c1 : (s[k].toNat : Int) ≤ 255 := by have := s[k].toNat_lt; omega
      have hzl : ((numsOf s).take k).length ≤ 1048576 := by rw [List.length_take]; omega
      obtain ⟨zs, hzs⟩ : ∃ zs, (numsOf s).take k = zs := ⟨_, rfl⟩
      rw [hzs] at hF hzl
      have HZ := Lib.hid hzs
      have hsz := hB.size
      clear hzs
      go_wp2_with (first | (at_builtin; refine append_one rfl (.tmp 10) (.tmp 15) rfl w.heap.size _ zs (s[k].toNat : Int) rfl (hF.below (by repeat (first | exact Below.refl _ _ | assumption | refine Below.setCell ?_ (by first | omega | (simp <;> omega)) _ | refine Below.alloc ?_ (by first | omega | (simp <;> omega)) _ | refine Below.drew ?_))) wr.heap.size rfl (by simp) hzl (by simp; omega) ?_; intro v1 w1 hF1 hg1 hb1))
      go_roundw
      case rel => exact ⟨k + 1, by omega, by go_num, by rw [HN.out, HZ.out]; exact hF1, (hB.alloc hsz _).trans hb1⟩
      case measure => simp [intOf]; omega
    · obtain rfl : k = s.size := by omega
      rw [List.take_of_length_le (by rw [numsOf_len]; omega)] at hF
      go_wp2_with fail
      go_ret
      exact ⟨_, rfl, hF, hB⟩
end Go.Proofs.Ytdkoegccfpdldaa
