/- Entries drawn for ranks from a code. Conditions: the code is short. -/
import Derived.Test.YtejacbgogcjbnaaDi
namespace Go.Proofs.Ytejacbgogcjbnaa
open Go.RowKit

def CodeEnts (w : World) (e : Ending) (w' : World) : Prop := ∃ A' c' es, e = .returned (.slice A' (es : List Ent).length c') ∧ es.length ≤ c' ∧ es.length ≤ 40 ∧ EntsAt w' A' es ∧ Tiny es ∧ Below w.heap.size w w'
set_option maxHeartbeats 1000000 in
theorem drawRanks (A : Option Addr) (c : Nat) (xs : List Int) (w : World) (hx : BytesAt w A xs) (hl : xs.length ≤ 4096) : Calls Try.prog 16 #[.slice A xs.length c] w (CodeEnts w) := by
  go_enter Try.func16, Try.ntmps16
  go_wp2_with fail
  refine (newSrc A c xs _ hx hl).mono ?_
  rintro e w1 ⟨rfl, hd1, hb1⟩
  go_wp2_with fail
  refine (srcEntries w.heap.size A c xs _ hd1 hl).mono ?_
  rintro e w2 ⟨v2, es, rfl, hE, hT, h40, hd2, hg2⟩
  obtain ⟨A', c', rfl, hlc, hEA⟩ := hE.entsW.ents
  have hB : Below w.heap.size w w2 := belowGrown hb1 hg2 hb1.size (fun k hk => by injection hk with hk; omega)
  go_wp2_with fail
  go_ret
  exact ⟨A', c', es, rfl, hlc, h40, hEA, hT, hB⟩
theorem entLess_cmp {es : List Ent} (h : comparable es = true) {i j : Nat} (hi : i < es.length) (hj : j < es.length) {k1 k2 : Int} {xs ys : List Int} (h1 : es.getD i (0, []) = (k1, xs)) (h2 : es.getD j (0, []) = (k2, ys)) : entLess k1 xs k2 ys = lessE xs ys ∧ xs.length = ys.length := by
  rw [comparable, Bool.and_eq_true] at h
  have o1 := (entsOk_parts h.1).2 i hi
  have o2 := (entsOk_parts h.1).2 j hj
  have s1 := sameLen_at h.2 hi
  have s2 := sameLen_at h.2 hj
  rw [h1] at o1 s1
  rw [h2] at o2 s2
  have hl : xs.length = ys.length := s1.trans s2.symm
  exact ⟨by rw [entLess, o1, o2, decide_eq_true hl]; rfl, hl⟩
end Go.Proofs.Ytejacbgogcjbnaa
