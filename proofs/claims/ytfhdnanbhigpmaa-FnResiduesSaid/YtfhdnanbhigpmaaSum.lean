/- The checksum of a string, at both packages. Conditions: the string's length is a number of int64. -/
import Derived.Test.YtfhdnanbhigpmaaBy
namespace Go.Proofs.Ytfhdnanbhigpmaa
open Go.RowKit

def ckStep (p : Int × Int) (c : UInt8) : Int × Int := ((p.1 + (c.toNat : Int)) % 65521, (p.2 + (p.1 + (c.toNat : Int)) % 65521) % 65521)
def ckTo (l : List UInt8) : Int × Int := l.foldl ckStep (1, 0)
def cksum (l : List UInt8) : Int := (ckTo l).2 * 65536 + (ckTo l).1
theorem take_snoc (s : ByteArray) (k : Nat) (h : k < s.size) : s.data.toList.take (k + 1) = s.data.toList.take k ++ [s[k]] := by
  rw [List.take_succ_eq_append_getElem (by simpa using h)]; rfl
theorem ckTo_snoc (l : List UInt8) (c : UInt8) {a b : Int} (h : ckTo l = (a, b)) : ckTo (l ++ [c]) = ((a + (c.toNat : Int)) % 65521, (b + (a + (c.toNat : Int)) % 65521) % 65521) := by
  unfold ckTo at *
  rw [List.foldl_append, h]
  rfl
set_option maxHeartbeats 1000000 in
theorem specSum (s : ByteArray) (w : World) (hs : s.size ≤ 1048576) :
    Calls Try.prog 106 #[.string s] w fun e w' => e = .returned (.int .i64 (cksum s.data.toList)) ∧ w = w' := by
  go_enter Try.func106, Try.ntmps106
  go_wp2
  go_loop [3, 4, 5] (fun a b i => ∃ (k : Nat) (x y : Int), k ≤ s.size ∧ i = .int .i64 k ∧ a = .int .i64 x ∧ b = .int .i64 y ∧ 0 ≤ x ∧ x ≤ 65521 ∧ 0 ≤ y ∧ y ≤ 65521 ∧ Hid (ckTo (s.data.toList.take k) = (x, y))) (fun _ _ i => s.size - (intOf i).toNat)
  case atStart => exact ⟨0, 1, 0, Nat.zero_le _, rfl, rfl, rfl, by omega, by omega, by omega, by omega, rfl⟩
  case round =>
    obtain ⟨k, x, y, hk, rfl, rfl, rfl, x0, x1, y0, y1, HC⟩ := hrel
    by_cases hlt : k < s.size
    · have hts := take_snoc s k hlt
      have HN : Hid (ckTo (s.data.toList.take (k + 1)) = ((x + (s[k].toNat : Int)) % 65521, (y + (x + (s[k].toNat : Int)) % 65521) % 65521)) := by rw [hts]; exact ckTo_snoc _ _ HC.out
      clear hts
      have c0 : (0 : Int) ≤ (s[k].toNat : Int) := by omega
      have c1 : (s[k].toNat : Int) ≤ 255 := by have := s[k].toNat_lt; omega
      go_wp2
      go_round
      case rel => exact ⟨k + 1, _, _, by omega, by go_num, rfl, rfl, by omega, by omega, by omega, by omega, HN⟩
      case measure => simp [intOf]; omega
    · go_wp2
      go_ret
      have HC2 := HC.out
      rw [List.take_of_length_le (by simp; omega)] at HC2
      exact ⟨ret_int (by rw [cksum, HC2]), rfl⟩
set_option maxHeartbeats 1000000 in
theorem implSum (s : ByteArray) (w : World) (hs : s.size ≤ 1048576) :
    Calls Try.prog 99 #[.string s] w fun e w' => e = .returned (.int .i64 (cksum s.data.toList)) ∧ w = w' := by
  go_enter Try.func99, Try.ntmps99
  go_wp2
  go_loop [3, 4, 8] (fun a b i => ∃ (k : Nat) (x y : Int), k ≤ s.size ∧ i = .int .i64 k ∧ a = .int .i64 x ∧ b = .int .i64 y ∧ 0 ≤ x ∧ x ≤ 65521 ∧ 0 ≤ y ∧ y ≤ 65521 ∧ Hid (ckTo (s.data.toList.take k) = (x, y))) (fun _ _ i => s.size - (intOf i).toNat)
  case atStart => exact ⟨0, 1, 0, Nat.zero_le _, rfl, rfl, rfl, by omega, by omega, by omega, by omega, rfl⟩
  case round =>
    obtain ⟨k, x, y, hk, rfl, rfl, rfl, x0, x1, y0, y1, HC⟩ := hrel
    by_cases hlt : k < s.size
    · have hts := take_snoc s k hlt
      have HN : Hid (ckTo (s.data.toList.take (k + 1)) = ((x + (s[k].toNat : Int)) % 65521, (y + (x + (s[k].toNat : Int)) % 65521) % 65521)) := by rw [hts]; exact ckTo_snoc _ _ HC.out
      clear hts
      have c0 : (0 : Int) ≤ (s[k].toNat : Int) := by omega
      have c1 : (s[k].toNat : Int) ≤ 255 := by have := s[k].toNat_lt; omega
      go_wp2
      go_round
      case rel => exact ⟨k + 1, _, _, by omega, by go_num, rfl, rfl, by omega, by omega, by omega, by omega, HN⟩
      case measure => simp [intOf]; omega
    · go_wp2
      go_ret
      have HC2 := HC.out
      rw [List.take_of_length_le (by simp; omega)] at HC2
      exact ⟨ret_int (by rw [cksum, HC2]), rfl⟩
end Go.Proofs.Ytfhdnanbhigpmaa
