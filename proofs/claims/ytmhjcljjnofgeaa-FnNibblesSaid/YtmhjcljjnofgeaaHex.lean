/- Hexadecimal form, at both packages. Conditions: as each contract says. -/
import Derived.Test.YtmhjcljjnofgeaaSum
import Derived.StillTailTactics
import Derived.Outline
import Derived.Laws.BitsLemmas
namespace Go.Proofs.Ytmhjcljjnofgeaa
open Go.RowKit

theorem mask15 (x : Int) (h0 : 0 ≤ x) (h1 : x < 256) : bits BinOp.and IntKind.u8 x 15 = x % 16 := bits_mask .u8 8 (by decide) wraps_u8 4 (by decide) x h0 h1
def hexS : ByteArray := ⟨#[48, 49, 50, 51, 52, 53, 54, 55, 56, 57, 97, 98, 99, 100, 101, 102]⟩
theorem hexS_size : hexS.size = 16 := by decide +kernel
def hexD (i : Int) : Int := ((hexS[i.toNat]?).getD 0).toNat
theorem fold_hex : (⟨#[48, 49, 50, 51, 52, 53, 54, 55, 56, 57, 97, 98, 99, 100, 101, 102]⟩ : ByteArray) = hexS := rfl
theorem run_index_hex {P : Program} (w : World) (t : TypeId) (k : IntKind) (i : Int) (h : P.underlying t = some .string) (h0 : 0 ≤ i) (h1 : i ≤ 15) :
    (Instr.index t (.string hexS) (.int k i)).run P w = .ok (.int .u8 (hexD i)) w := by
  have hi : 0 ≤ i ∧ i < (hexS.size : Int) := by rw [hexS_size]; omega
  have h2 : i.toNat < hexS.size := by rw [hexS_size]; omega
  rw [run_index_string w t hexS k i h, dif_pos hi]
  simp only [hexD, ByteArray.getElem?_lt' _ _ h2, Option.getD_some]
theorem ret_str {a b : ByteArray} (h : a = b) : Ending.returned (.string a) = .returned (.string b) := by rw [h]
theorem ret_sb {a b : ByteArray} {p q : Bool} (h : a = b) (h2 : p = q) : Ending.returned (.tuple #[.string a, .bool p]) = .returned (.tuple #[.string b, .bool q]) := by rw [h, h2]
attribute [local go_sem high] fold_hex run_index_hex
def hexOf (l : List UInt8) : List Int := l.flatMap fun c => [hexD ((c.toNat : Int) / 16), hexD ((c.toNat : Int) % 16)]
theorem hexOf_len (l : List UInt8) : (hexOf l).length = 2 * l.length := by
  induction l with
  | nil => rfl
  | cons c l ih => simp [hexOf] at *; omega
theorem hexOf_snoc (l : List UInt8) (c : UInt8) : hexOf (l ++ [c]) = hexOf l ++ [hexD ((c.toNat : Int) / 16), hexD ((c.toNat : Int) % 16)] := by simp [hexOf]

set_option maxRecDepth 100000 in
set_option maxHeartbeats 1000000 in
theorem specEnc (s : ByteArray) (w : World) (hs : s.size ≤ 20000) :
    Calls Try.prog 14 #[.string s] w fun e w' => e = .returned (.string (strOfNums (hexOf s.data.toList))) ∧ Below w.heap.size w w' := by
  have h1 : ¬ (20000 : Int) < (s.size : Int) := by omega
  have hE : BFresh w.heap.size (w.alloc (.cells #[] 5)) (.slice (some ⟨w.heap.size, 0, none⟩) 0 0) [] := BFresh.empty (Nat.le_refl _)
  have hB0 : Below w.heap.size w (w.alloc (.cells #[] 5)) := (by repeat (first | exact Below.refl _ _ | assumption | refine Below.setCell ?_ (by first | omega | (simp <;> omega)) _ | refine Below.alloc ?_ (by first | omega | (simp <;> omega)) _ | refine Below.drew ?_))
  go_enter Try.func14, Try.ntmps14
  go_wp2_with fail
  go_loopw [4, 5] (fun v i wr => ∃ (k : Nat) (xs : List Int), k ≤ s.size ∧ i = .int .i64 k ∧ BFresh w.heap.size wr v xs ∧ Below w.heap.size w wr ∧ Hid (hexOf (s.data.toList.take k) = xs)) (fun _ i _ => s.size - (intOf i).toNat)
  case atStart => exact ⟨0, [], Nat.zero_le _, rfl, hE, hB0, rfl⟩
  case round =>
    obtain ⟨k, xs, hk, rfl, hF, hB, HL⟩ := hrel
    clear hE hB0
    have hxl : xs.length ≤ 4194304 := by rw [← HL.out, hexOf_len, List.length_take]; omega
    by_cases hlt : k < s.size
    · have c0 : (0 : Int) ≤ (s[k].toNat : Int) := by omega
      have c1 : (s[k].toNat : Int) ≤ 255 := by have := s[k].toNat_lt; omega
      have p0 : (0 : Int) ≤ (k : Int) := by omega
      have p1 : (k : Int) < (s.size : Int) := by omega
      have d0 : (0 : Int) ≤ (s[k].toNat : Int) / 16 := by omega
      have d1 : (s[k].toNat : Int) / 16 ≤ 15 := by omega
      have d2 : (0 : Int) ≤ (s[k].toNat : Int) % 16 := by omega
      have d3 : (s[k].toNat : Int) % 16 ≤ 15 := by omega
      have HN : Hid (hexOf (s.data.toList.take (k + 1)) = xs ++ [hexD ((s[k].toNat : Int) / 16), hexD ((s[k].toNat : Int) % 16)]) := by unfold Hid; rw [take_snoc s k hlt, hexOf_snoc, HL.out]
      go_wp2_with fail
      have hw1 : IntKind.u8.wrap ((s[k].toNat : Int) / 16) = (s[k].toNat : Int) / 16 := IntWalk.u8_in _ (by omega)
      have hw2 : ((s[k].toNat : Int)).tmod 16 = (s[k].toNat : Int) % 16 := IntWalk.rem_in _ _ (by omega)
      have hBz := hB.size
      go_region_held3 (fun w' => True) (trivial) ((refine step_append_by (by rfl) _ _ (by rfl) w.heap.size _ xs [hexD ((s[k].toNat : Int) / 16), hexD ((s[k].toNat : Int) % 16)] 2 rfl (by rfl) (hF.ad _) wr.heap.size (by rfl) (cells_two (by simp) (by simp)) hxl (by omega) (by simp; omega) ?_; intro v1 w1 hF1 hg1 hb1))
      all_goals
        clear hw1 hw2
        go_wp2_with fail
        go_roundw
        case rel => exact ⟨k + 1, _, by omega, by go_num, hF1, ((hB.alloc hB.size _).drew).trans hb1, HN⟩
        case measure => simp [intOf]; omega
    · have hke : k = s.size := by omega
      have HL2 := HL.out
      rw [hke, List.take_of_length_le (by simp)] at HL2
      have hcv := hF.str
      have HK := Lib.hid hke
      have HL3 := Lib.hid HL2
      clear hke HL2
      go_wp2_with fail
      go_ret
      exact ⟨ret_str (by rw [HL3.out]), hB⟩

set_option maxRecDepth 100000 in
set_option maxHeartbeats 1000000 in
theorem implEnc (s : ByteArray) (w : World) (hs : s.size ≤ 20000) :
    Calls Try.prog 15 #[.string s] w fun e w' => e = .returned (.string (strOfNums (hexOf s.data.toList))) ∧ Below w.heap.size w w' := by
  have h1 : ¬ (20000 : Int) < (s.size : Int) := by omega
  obtain ⟨i0, hi, hz0, hz1, hz2⟩ := info_parts byteInfo
  go_enter Try.func15, Try.ntmps15
  go_wp2_with (first | (at_make; refine wpList_make_own _ rfl _ _ 36 rfl w.heap.size 5 i0 (.int .u8 0) 1 Try.underlying36 hi hz0 hz1 _ _ _ (2 * s.size) rfl rfl (by omega) (by rw [hz2]; omega) (by unfold maxLen; omega) (Nat.le_refl _) ?_; intro w0 hown hgrow))
  have hE : BFresh w.heap.size w0 (.slice (some ⟨w.heap.size, 0, none⟩) 0 (2 * s.size)) [] := hown
  have hB0 : Below w.heap.size w w0 := (Below.refl _ _).grown hgrow (Nat.le_refl _) (by simp)
  clear hown hgrow
  go_wp2_with fail
  go_loopw [3, 14] (fun v i wr => ∃ (k : Nat) (xs : List Int), k ≤ s.size ∧ i = .int .i64 k ∧ BFresh w.heap.size wr v xs ∧ Below w.heap.size w wr ∧ Hid (hexOf (s.data.toList.take k) = xs)) (fun _ i _ => s.size - (intOf i).toNat)
  case atStart => exact ⟨0, [], Nat.zero_le _, rfl, hE, hB0, rfl⟩
  case round =>
    obtain ⟨k, xs, hk, rfl, hF, hB, HL⟩ := hrel
    clear hE hB0
    have hxl : xs.length ≤ 4194304 := by rw [← HL.out, hexOf_len, List.length_take]; omega
    by_cases hlt : k < s.size
    · have c0 : (0 : Int) ≤ (s[k].toNat : Int) := by omega
      have c1 : (s[k].toNat : Int) ≤ 255 := by have := s[k].toNat_lt; omega
      have p0 : (0 : Int) ≤ (k : Int) := by omega
      have p1 : (k : Int) < (s.size : Int) := by omega
      have d0 : (0 : Int) ≤ (s[k].toNat : Int) / 16 := by omega
      have d1 : (s[k].toNat : Int) / 16 ≤ 15 := by omega
      have d2 : (0 : Int) ≤ (s[k].toNat : Int) % 16 := by omega
      have d3 : (s[k].toNat : Int) % 16 ≤ 15 := by omega
      have HN : Hid (hexOf (s.data.toList.take (k + 1)) = xs ++ [hexD ((s[k].toNat : Int) / 16), hexD ((s[k].toNat : Int) % 16)]) := by unfold Hid; rw [take_snoc s k hlt, hexOf_snoc, HL.out]
      go_wp2_with fail
      have hw1 : IntKind.u8.wrap ((s[k].toNat : Int) / 16) = (s[k].toNat : Int) / 16 := IntWalk.u8_in _ (by omega)
      have hw3 : bits BinOp.and IntKind.u8 (s[k].toNat : Int) 15 = (s[k].toNat : Int) % 16 := mask15 _ c0 (by omega)
      have hBz := hB.size
      go_region_held3 (fun w' => True) (trivial) ((refine step_append_by (by rfl) _ _ (by rfl) w.heap.size _ xs [hexD ((s[k].toNat : Int) / 16), hexD ((s[k].toNat : Int) % 16)] 2 rfl (by rfl) (hF.ad _) wr.heap.size (by rfl) (cells_two (by simp) (by simp)) hxl (by omega) (by simp; omega) ?_; intro v1 w1 hF1 hg1 hb1))
      all_goals
        clear hw1 hw3
        go_wp2_with fail
        go_roundw
        case rel => exact ⟨k + 1, _, by omega, by go_num, hF1, ((hB.alloc hB.size _).drew).trans hb1, HN⟩
        case measure => simp [intOf]; omega
    · have hke : k = s.size := by omega
      have HL2 := HL.out
      rw [hke, List.take_of_length_le (by simp)] at HL2
      have hcv := hF.str
      have HK := Lib.hid hke
      have HL3 := Lib.hid HL2
      clear hke HL2
      go_wp2_with fail
      go_ret
      exact ⟨ret_str (by rw [HL3.out]), hB⟩
end Go.Proofs.Ytmhjcljjnofgeaa
