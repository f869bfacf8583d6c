/- Plain facts on the fill jobs of drawn puzzles. Conditions: as each theorem says. -/
import Derived.Test.YtfhdnanbhigpmaaPf
import Derived.Test.YtfhdnanbhigpmaaXv
import Derived.Test.YtfhdnanbhigpmaaRw
namespace Go.Proofs.Ytfhdnanbhigpmaa
open Go.RowKit Grp

theorem valid_ch {p : Pz} {trk : List Int} {i : Nat} {sy : Int} (hq : buildQ p trk = true) (hi : chOk (mvsOf p.moves) trk i) (hs : (chF (mvsOf p.moves) trk i).2.size ≤ 60000) (h0 : 0 ≤ sy) (h1 : sy ≤ ((chF (mvsOf p.moves) trk i).2.size : Int)) : validF p (chT p trk i) (i : Int) (chF (mvsOf p.moves) trk i).2 sy = true :=
  validF_iff.2 ⟨hs, by omega, h0, h1, hq, by simpa [chT] using hi, by simp [chT], by simp [chT], by simp [chT]⟩
theorem short_ch {p : Pz} {trk : List Int} {i : Nat} (hq : buildQ p trk = true) (hi : chOk (mvsOf p.moves) trk i) : ShortT (chT p trk i) := by
  obtain ⟨N, g1, g2, g3, g4, g5, g6⟩ := ch_full hq
  have := (g6 i hi).1
  unfold chT
  exact ⟨by dsimp only; omega, by dsimp only; have := this.cap; omega, fun j hj => by dsimp only at hj ⊢; have := (this.rows j hj).1; omega, by dsimp only; rw [this.len]; have := this.cap; omega⟩
theorem ch_zero {p : Pz} {trk : List Int} : chT p trk 0 = ⟨trk, [trk], [0]⟩ := rfl
theorem ch_le {p : Pz} {trk : List Int} {i : Nat} (hq : buildQ p trk = true) (hi : chOk (mvsOf p.moves) trk i) : i ≤ 3000 := by
  obtain ⟨N, g1, g2, g3, g4, g5, g6⟩ := ch_full hq
  have := g6 i hi
  have := this.1.cap
  omega
theorem pref_cut (b : ByteArray) (k : Nat) : prefB (b.extract 0 k) b := by
  unfold prefB
  rw [ba_ext, List.drop_zero]
  exact List.take_prefix _ _
/-- The whole log gives back its job. -/
theorem rec_self {mvs : List (List Int)} {trk : List Int} {i : Nat} (hi : chOk mvs trk i) : RecAt mvs trk (chF mvs trk i).2 i :=
  ⟨hi, pref_self _, fun q => by have := q.2.size; have := ch_grow (mvs := mvs) (trk := trk) i; omega⟩
/-- What a prefix of a log gives is no more than what the log gives, its log lies in both. -/
theorem rec_cut {mvs : List (List Int)} {trk : List Int} {i k m : Nat} (hi : chOk mvs trk i) (hk : k ≤ (chF mvs trk i).2.size) (h : RecAt mvs trk ((chF mvs trk i).2.extract 0 k) m) : m ≤ i ∧ (chF mvs trk m).2.size ≤ k ∧ (chF mvs trk i).2.extract 0 (chF mvs trk m).2.size = (chF mvs trk m).2 := by
  have h1 : prefB (chF mvs trk m).2 (chF mvs trk i).2 := h.pre.trans (pref_cut _ _)
  refine ⟨(rec_self hi).max h.ok h1, ?_, (pref_take.1 h1).2⟩
  have := h.pre.size
  rw [ByteArray.size_extract] at this
  omega
theorem addB_len {s s' : Bs} {x : List Int} {d : Int} (h : addB s x d = some s') : s.ls.length ≤ s'.ls.length := by
  unfold addB at h
  split at h
  · injection h with h; rw [h]; exact Nat.le_refl _
  · split at h
    · cases h
    · injection h with h; rw [← h]; simp
theorem innB_len {k : Nat} : ∀ (mvs : List (List Int)) (s s' : Bs), innB k mvs s = some s' → s.ls.length ≤ s'.ls.length := by
  intro mvs
  induction mvs with
  | nil => intro s s' h; simp only [innB, Option.some.injEq] at h; rw [h]; exact Nat.le_refl _
  | cons m r ih =>
    intro s s' h
    simp only [innB] at h
    cases hq : addB s (nextOf k m s) (depOf k s) with
    | none => rw [hq] at h; cases h
    | some t => rw [hq] at h; exact Nat.le_trans (addB_len hq) (ih t s' h)
theorem bfsB_len {mvs : List (List Int)} : ∀ (f k : Nat) (s r : Bs), bfsB mvs f k s = some r → s.ls.length ≤ r.ls.length := by
  intro f
  induction f with
  | zero => intro k s r h; simp only [bfsB, Option.some.injEq] at h; rw [h]; exact Nat.le_refl _
  | succ f ih =>
    intro k s r h
    simp only [bfsB] at h
    split at h
    · cases hq : innB k mvs s with
      | none => rw [hq] at h; cases h
      | some t => rw [hq] at h; exact Nat.le_trans (innB_len _ _ _ hq) (ih _ t r h)
    · injection h with h; rw [h]; exact Nat.le_refl _
/-- Where the job ends, its table is the one that is built. -/
theorem ch_fin {p : Pz} {trk : List Int} {r : Bs} (hq : buildQ p trk = true) (hr : searchB (mvsOf p.moves) trk = some r) {i : Nat} (hi : chOk (mvsOf p.moves) trk i) (h : r.ls.length ≤ i ∨ (chF (mvsOf p.moves) trk i).1.ls.length ≤ i) : (chF (mvsOf p.moves) trk i).1 = r ∧ i = r.ls.length := by
  have ht : trkQ p trk = true := by
    unfold buildQ at hq
    rw [Bool.and_eq_true] at hq
    exact hq.1
  obtain ⟨N, -, -, h3, -, h5, -⟩ := trk_parts ht
  obtain ⟨g1, g2, g3⟩ := ch_bfs h3.all h5 hr i hi
  have g4 := bfsB_len _ _ _ _ g2
  have g5 := g1.cap
  rw [bfs_end (by omega) (by omega)] at g2
  injection g2 with g2
  rw [g2] at g3 g4 h
  exact ⟨g2, by omega⟩
end Go.Proofs.Ytfhdnanbhigpmaa
