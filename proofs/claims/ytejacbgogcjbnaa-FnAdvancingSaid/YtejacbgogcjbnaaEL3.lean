/- EntryLess at the implementation. Conditions: as each contract says. -/
import Derived.Test.YtejacbgogcjbnaaEL2
namespace Go.Proofs.Ytejacbgogcjbnaa
open Go.RowKit

def orI (a b : Int) : Int := if a = 0 then b else a
theorem cmpOr2 (g : Nat) (a b : Int) (w : World) (ha : w.cell? ⟨g, 0, none⟩ = some (.int .i64 a)) (hb : w.cell? ⟨g, 1, none⟩ = some (.int .i64 b)) :
    Calls Try.prog 49 #[.slice (some ⟨g, 0, none⟩) 2 2] w fun e w' => e = .returned (.int .i64 (orI a b)) ∧ w = w' := by
  by_cases h0 : a = 0
  · subst h0
    by_cases h1 : b = 0
    · subst h1
      go_enter Try.func49, Try.ntmps49
      go_wp2
      refine wp_loop_rounds 3 ?_
      iterate 3 (rw [rounds_succ]; go_wp2)
      go_ret
      exact ⟨rfl, rfl⟩
    · have e1 : (b != 0) = true := by simpa using h1
      go_enter Try.func49, Try.ntmps49
      go_wp2
      refine wp_loop_rounds 2 ?_
      iterate 2 (rw [rounds_succ]; go_wp2)
      go_ret
      exact ⟨rfl, rfl⟩
  · have e0 : (a != 0) = true := by simpa using h0
    go_enter Try.func49, Try.ntmps49
    go_wp2
    refine wp_loop_rounds 1 ?_
    rw [rounds_succ]
    go_wp2
    go_ret
    exact ⟨ret_int (by simp [orI, h0]), rfl⟩
theorem cmpR_zero (a b : Int) : cmpR a b = 0 ↔ a = b := by
  unfold cmpR
  constructor
  · intro h
    split at h
    · assumption
    · exfalso
      split at h
      · omega
      · split at h
        · omega
        · split at h <;> omega
  · intro h; rw [if_pos h]
theorem or_less5 {xs ys : List Int} (h1 : xs.length = 5) (hx : xs.all isRes = true) (h2 : ys.length = 5) (hy : ys.all isRes = true) :
    decide (orI (cmpR (avgRes xs) (avgRes ys)) (cmpR (bestOf xs) (bestOf ys)) < 0) = lessE xs ys := by
  have e1 : avgRes xs = avgOf xs := by rw [avgRes, okTimes, h1, hx]; rfl
  have e2 : avgRes ys = avgOf ys := by rw [avgRes, okTimes, h2, hy]; rfl
  rw [e1, e2, lessE, orI]
  by_cases ha : avgOf xs = avgOf ys
  · rw [if_pos ((cmpR_zero _ _).2 ha), if_neg (by rw [ha]; simp), cmpR_neg]
  · rw [if_neg (fun h => ha ((cmpR_zero _ _).1 h)), if_pos ⟨h1, ha⟩, cmpR_neg]
theorem or_less {xs ys : List Int} (h1 : xs.length ≠ 5) : decide (orI 0 (cmpR (bestOf xs) (bestOf ys)) < 0) = lessE xs ys := by
  rw [lessE, if_neg (fun h => h1 h.1), orI, if_pos rfl, cmpR_neg]
theorem implTrimmed5 (A : Option Addr) (c : Nat) (xs : List Int) (h5 : xs.length = 5) (w : World) (hx : IntsAt w A xs) :
    Calls Try.prog 48 #[.slice A 5 c] w fun e w' => e = .returned (.int .i64 (avgRes xs)) ∧ Below w.heap.size w w' := by
  have h := implTrimmed A c xs w hx (by omega)
  rw [h5] at h
  exact h
theorem implBestM (A : Option Addr) (c n : Nat) (xs : List Int) (hn : xs.length = n) (w : World) (hx : IntsAt w A xs) (hl : n ≤ 5) :
    Calls Try.prog 50 #[.slice A n c] w fun e w' => e = .returned (.int .i64 (bestOf xs)) ∧ w = w' := by
  subst hn
  exact implBest A c xs w hx (by omega)
theorem implTrimmedO (A : Option Addr) (c : Nat) (xs : List Int) (w : World) (hx : IntsAt w A xs) (h5 : xs.length = 5) :
    Calls Try.prog 48 #[.slice A 5 c] w fun e w' => e = .returned (.int .i64 (avgRes xs)) ∧ Below w.heap.size w w' := implTrimmed5 A c xs h5 w hx
theorem implBestO (A : Option Addr) (c n : Nat) (xs : List Int) (w : World) (hx : IntsAt w A xs) (hn : xs.length = n) (hl : n ≤ 5) :
    Calls Try.prog 50 #[.slice A n c] w fun e w' => e = .returned (.int .i64 (bestOf xs)) ∧ w = w' := implBestM A c n xs hn w hx hl
end Go.Proofs.Ytejacbgogcjbnaa
