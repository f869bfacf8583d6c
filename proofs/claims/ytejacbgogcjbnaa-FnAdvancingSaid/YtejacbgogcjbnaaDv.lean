/- A round drawn from a code. Conditions: as the contract says. -/
import Derived.Test.YtejacbgogcjbnaaDl
namespace Go.Proofs.Ytejacbgogcjbnaa
open Go.RowKit

def DrawnAdv (w : World) (e : Ending) (w' : World) : Prop :=
  ∃ (r : RR) (v : Value) (es : List Ent), e = .returned (.tuple #[.agg #[.int .i64 r.att, .int .i64 r.lim, .int .i64 r.catt, .int .i64 r.cut, .int .i64 r.adv], v]) ∧ EntsB w.heap.size w' v es ∧ Tiny es ∧ es.length ≤ 40 ∧ Below w.heap.size w w'
set_option maxRecDepth 100000 in
set_option maxHeartbeats 8000000 in
theorem drawAdv (A : Option Addr) (c : Nat) (xs : List Int) (w : World) (hx : BytesAt w A xs) (hl : xs.length ≤ 4096) : Calls Try.prog 7 #[.slice A xs.length c] w (DrawnAdv w) := by
  obtain ⟨w0, hw0⟩ : ∃ w0, w.alloc (.cells #[.int .i64 0, .int .i64 0, .int .i64 0, .int .i64 0, .int .i64 0] 25) = w0 := ⟨_, rfl⟩
  have rH0 : RRow w0 w.heap.size .zero := by rw [← hw0]; exact heap_alloc_new w _
  have hB0 : Below w.heap.size w w0 := by rw [← hw0]; exact (by repeat (first | exact Below.refl _ _ | assumption | refine Below.setCell ?_ (by first | omega | (simp <;> omega)) _ | refine Below.alloc ?_ (by first | omega | (simp <;> omega)) _ | refine Below.drew ?_))
  have hz0 : w.heap.size < w0.heap.size := (Array.getElem?_eq_some_iff.1 rH0).1
  have hx0 := hx.below hB0
  go_enter Try.func7, Try.ntmps7
  go_wp2_with fail
  refine (newSrc A c xs _ hx0 hl).mono ?_
  rintro e w1 ⟨rfl, hd1, hb1⟩
  have rH1 : RRow w1 w.heap.size .zero := rowB hb1 rH0
  have hB1 := belowStep hb1 hB0
  have hz1 := hb1.size
  have hneH : w.heap.size ≠ w0.heap.size := by omega
  clear hb1 rH0 hB0 hw0
  go_wp2_with fail
  refine (srcRound w0.heap.size A c xs _ hd1 hl).mono ?_
  rintro e w2 ⟨r, v, es, rfl, hE2, hT2, hl2, hd2, hg2⟩
  have rH2 : RRow w2 w.heap.size .zero := rowG hg2 rH1 hneH
  have hB2 : Below w.heap.size w w2 := belowGrown hB1 hg2 hB1.size (fun k hk => by injection hk with hk; omega)
  obtain ⟨j0, j1, j2, j3, j4⟩ := rcells rH2
  have f0 : w2.frozen? ⟨w.heap.size, 0, none⟩ = false := row_free rH2
  have f1 : w2.frozen? ⟨w.heap.size, 1, none⟩ = false := row_free rH2
  have f2 : w2.frozen? ⟨w.heap.size, 2, none⟩ = false := row_free rH2
  have f3 : w2.frozen? ⟨w.heap.size, 3, none⟩ = false := row_free rH2
  have f4 : w2.frozen? ⟨w.heap.size, 4, none⟩ = false := row_free rH2
  have HR := Lib.hid (rcells (set5_row rH2 r))
  have HEE := Lib.hid ((hE2.grown (set5_grown w2 w.heap.size r) (show w.heap.size < w1.heap.size by omega)).mono (show w.heap.size ≤ w1.heap.size by omega))
  have HBB := Lib.hid (set5_below hB2 (Nat.le_refl _) r)
  obtain ⟨Az, cz, rfl, -⟩ := ents_cap hE2
  unfold Set5 at HR HEE HBB
  clear hE2 hd2 hg2 rH1 rH2 hB1 hB2
  go_wp2_with fail
  obtain ⟨q0, q1, q2, q3, q4⟩ := HR.out
  exact bodyPost_ret (v := .tuple #[.agg #[.int .i64 r.att, .int .i64 r.lim, .int .i64 r.catt, .int .i64 r.cut, .int .i64 r.adv], .slice Az es.length cz]) (by simp only [results, Try.results7]; simp [go_sem, q0, q1, q2, q3, q4]) rfl ⟨r, _, es, rfl, HEE.out, hT2, hl2, HBB.out⟩
end Go.Proofs.Ytejacbgogcjbnaa
