/- What a binary form of a table says: plain facts. -/
import Derived.Test.YtdkoegccfpdldaaEl
import Derived.Test.YtdkoegccfpdldaaUi
import Derived.Test.YtdkoegccfpdldaaBo
namespace Go.Proofs.Ytdkoegccfpdldaa
open Go.RowKit

def byteN (s : ByteArray) (j : Nat) : Nat := (s.data.toList.getD j 0).toNat
theorem byteN_is (s : ByteArray) (j : Nat) (h : j < s.size) : s[j].toNat = byteN s j := by
  have := byteAt_is s j h
  unfold byteAt at this
  unfold byteN
  omega
theorem byteN_lt (s : ByteArray) (j : Nat) : byteN s j ≤ 255 := by
  unfold byteN
  have := (s.data.toList.getD j 0).toNat_lt
  omega
def wdOf (s : ByteArray) : Nat := byteN s 4
def cntOf (s : ByteArray) : Nat := byteN s (5 + wdOf s) * 256 + byteN s (6 + wdOf s)
def endOf (s : ByteArray) : Nat := 7 + wdOf s + cntOf s * wdOf s
def szOf (s : ByteArray) : Nat := endOf s + (cntOf s + 1) / 2 + 4
def rowsOf (s : ByteArray) (n : Nat) : List (List Int) := (List.range n).map fun i => numsOf (s.extract (7 + wdOf s + i * wdOf s) (7 + wdOf s + (i + 1) * wdOf s))
theorem rowsOf_len (s : ByteArray) (n : Nat) : (rowsOf s n).length = n := by simp [rowsOf]
theorem rowsOf_more (s : ByteArray) (n : Nat) : rowsOf s (n + 1) = rowsOf s n ++ [numsOf (s.extract (7 + wdOf s + n * wdOf s) (7 + wdOf s + (n + 1) * wdOf s))] := by simp [rowsOf, List.range_succ]
def nibsIn (s : ByteArray) : ByteArray := s.extract (endOf s) (szOf s - 4)
def decT (s : ByteArray) : Tb := ⟨numsOf (s.extract 5 (5 + wdOf s)), rowsOf s (cntOf s), unb (nibsIn s) (cntOf s)⟩
def ckStr (s : ByteArray) : ByteArray := strOfNums (bytesBy (numAt (cksum (s.extract 0 (szOf s - 4)).data.toList) 4) 4)
noncomputable def decCode (s : ByteArray) : Int :=
  if s.size < 12 then 1 else if s.extract 0 4 ≠ ⟨#[80, 68, 66, 49]⟩ then 2 else if s.size < 7 + wdOf s then 1 else if s.size < szOf s then 1 else if szOf s < s.size then 3
  else if ckStr s ≠ s.extract (szOf s - 4) s.size then 4 else if encOk (decT s) = true ∧ encS (decT s) = s then 0 else 5
noncomputable def decOf (s : ByteArray) : Tb := if decCode s = 0 then decT s else ⟨[], [], []⟩
theorem cnt_le (s : ByteArray) : cntOf s ≤ 65535 := by
  have h1 := byteN_lt s (5 + wdOf s)
  have h2 := byteN_lt s (6 + wdOf s)
  unfold cntOf
  omega
theorem ext_len (s : ByteArray) (i j : Nat) (h : j ≤ s.size) : (s.extract i j).size = j - i := by
  rw [ByteArray.size_extract]
  omega
theorem decT_len (s : ByteArray) : (decT s).pats.length = cntOf s ∧ (decT s).dist.length = cntOf s := ⟨rowsOf_len _ _, unb_len _ _⟩
theorem numsOf_get (s : ByteArray) (k : Nat) (h : k < s.size) : (numsOf s).getD k 0 = byteN s k := by
  unfold numsOf byteN
  have h2 : k < s.data.toList.length := by simpa using h
  rw [List.getD_eq_getElem?_getD, List.getD_eq_getElem?_getD, List.getElem?_map, List.getElem?_eq_getElem h2]
  rfl
theorem nums_bd (s : ByteArray) (k : Nat) (h : k < (numsOf s).length) : 0 ≤ (numsOf s).getD k 0 ∧ (numsOf s).getD k 0 ≤ 255 := by
  rw [numsOf_get s k (by rwa [numsOf_len] at h)]
  have := byteN_lt s k
  omega
theorem strOfNums_nums (s : ByteArray) : strOfNums (numsOf s) = s := by
  apply ByteArray.ext
  unfold strOfNums numsOf
  rw [List.map_map]
  have : (s.data.toList.map ((fun n : Int => UInt8.ofNat n.toNat) ∘ fun b : UInt8 => (b.toNat : Int))) = s.data.toList := by
    conv => rhs; rw [← List.map_id s.data.toList]
    refine List.map_congr_left fun b _ => ?_
    simp
  rw [this]
end Go.Proofs.Ytdkoegccfpdldaa
