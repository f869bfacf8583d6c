/- slices.Repeat of the one byte 255. Conditions: as the contract says. -/
import Derived.Test.YtfhdnanbhigpmaaGreatHex
import Derived.Test.YtfhdnanbhigpmaaGreatShelf
import Derived.Laws.CopyOwn
namespace Go.Proofs.YtfhdnanbhigpmaaGreat
open Go.RowKit

def repC (k n : Nat) : List Value := List.replicate k (.int .u8 255) ++ List.replicate (n - k) (.int .u8 0)
theorem repC_len (k n : Nat) (h : k ≤ n) : (repC k n).length = n := by simp [repC]; omega
theorem repC_splice (k m n : Nat) (h : k + m ≤ n) : splice (repC k n) k (List.replicate m (.int .u8 255)) = repC (k + m) n := by
  unfold splice repC
  rw [List.length_replicate, List.take_left' (by simp), List.drop_append, List.drop_eq_nil_of_le (by simp), List.nil_append, List.drop_replicate, List.length_replicate, ← List.append_assoc, List.replicate_append_replicate]
  congr 2
  omega
theorem repC_zero (n : Nat) : repC 0 n = List.replicate n (.int .u8 0) := by simp [repC]
theorem byteSize : (Tryz.prog.info? 5).map (·.size) = some 1 := by kernel_rfl
theorem cell_of_rep {w : World} {g k n : Nat} {e : TypeId} (h : w.heap[g]? = some (.cells (repC k n).toArray e (0, 0))) (j : Nat) (hj : j < k) : w.cell? ⟨g, j, none⟩ = some (.int .u8 255) := by
  rw [cell_of_row w g j _ _ (0, 0) h]
  unfold repC
  rw [List.getElem?_toArray, List.getElem?_append_left (by simpa using hj), List.getElem?_replicate, if_pos hj]
theorem whole_of_made {w : World} {B g n : Nat} {xs : List Value} (h : w.ownsRow B 5 1 (.slice (some ⟨g, 0, none⟩) n n) n xs) : w.heap[g]? = some (.cells xs.toArray 5 (0, 0)) := by
  rcases h.2 with ⟨he, _⟩ | ⟨g', cap, cur, he, _, hg, _, _, hcs, htake⟩
  · simp at he
  · simp only [Value.slice.injEq, Option.some.injEq, Addr.mk.injEq] at he
    obtain ⟨⟨rfl, _⟩, _, rfl⟩ := he
    have e : cur.toList = xs := by
      rw [← htake, List.take_of_length_le]
      simp [hcs]
    rw [hg, ← e]
theorem made_of_whole {w : World} {B g n : Nat} {xs : List Value} (hB : B ≤ g) (hm : n ≤ maxLen) (hg : w.heap[g]? = some (.cells xs.toArray 5 (0, 0))) (hl : xs.length = n) : w.ownsRow B 5 1 (.slice (some ⟨g, 0, none⟩) n n) n xs :=
  ⟨by simp [hl], .inr ⟨g, n, xs.toArray, rfl, hB, hg, Nat.le_refl _, hm, by simp [hl], by rw [← hl]; simp⟩⟩
theorem news255 {w : World} {g : Nat} (h : w.cell? ⟨g, 0, none⟩ = some (.int .u8 255)) : ∀ (j : Nat) (v : Value), (List.replicate 1 (Value.int .u8 255))[j]? = some v → w.cell? ((⟨g, 0, none⟩ : Addr).add j) = some v := by
  intro j v hv
  have hj : j < 1 := by simpa using (List.getElem?_eq_some_iff.1 hv).1
  obtain rfl : j = 0 := by omega
  rw [Addr.add_lit, h]
  simpa using hv
theorem all255 (m : Nat) : ∀ v ∈ List.replicate m (Value.int .u8 255), v.oneCell' = true := by
  intro v hv
  rw [(List.mem_replicate.1 hv).2]
  rfl
theorem one255 : ∀ v ∈ List.replicate 1 (Value.int .u8 255), v.oneCell' = true := all255 1
theorem news255s {w : World} {g k n m : Nat} {e : TypeId} (h : w.heap[g]? = some (.cells (repC k n).toArray e (0, 0))) (hm : m ≤ k) : ∀ (j : Nat) (v : Value), (List.replicate m (Value.int .u8 255))[j]? = some v → w.cell? ((⟨g, 0, none⟩ : Addr).add j) = some v := by
  intro j v hv
  have hj : j < m := by simpa using (List.getElem?_eq_some_iff.1 hv).1
  rw [Addr.add_lit, Nat.zero_add, cell_of_rep h j (by omega)]
  rw [List.getElem?_replicate, if_pos hj] at hv
  exact hv
def RepPost (n : Nat) (w : World) (e : Ending) (w' : World) : Prop := e = .returned (.slice (some ⟨w.heap.size, 0, none⟩) n n) ∧ w'.heap[w.heap.size]? = some (.cells (repC n n).toArray 5 (0, 0)) ∧ Below w.heap.size w w'
end Go.Proofs.YtfhdnanbhigpmaaGreat
