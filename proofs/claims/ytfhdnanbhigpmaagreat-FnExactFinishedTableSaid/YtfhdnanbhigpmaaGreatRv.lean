/- Jobs recovered from a log, impl. Conditions: as each contract says. -/
import Derived.Test.YtfhdnanbhigpmaaGreatRu
namespace Go.Proofs.YtfhdnanbhigpmaaGreat
open Go.RowKit Grp

/-- The bytes of a begin those of b. -/
def prefB (a b : ByteArray) : Prop := a.data.toList <+: b.data.toList
theorem ba_list (a : ByteArray) : a.data.toList.length = a.size := by rw [Array.length_toList]; rfl
theorem ba_app (a b : ByteArray) : (a ++ b).data.toList = a.data.toList ++ b.data.toList := by simp
theorem ba_ext (b : ByteArray) (i j : Nat) : (b.extract i j).data.toList = (b.data.toList.take j).drop i := by
  rw [ByteArray.data_extract]
  simp [Array.toList_extract, List.drop_take]
theorem ba_eq {a b : ByteArray} (h : a.data.toList = b.data.toList) : a = b := ByteArray.ext (Array.toList_inj.1 h)
theorem pref_nil (b : ByteArray) : prefB ⟨#[]⟩ b := by unfold prefB; simp
theorem pref_self (b : ByteArray) : prefB b b := List.prefix_refl _
theorem prefB.size {a b : ByteArray} (h : prefB a b) : a.size ≤ b.size := by
  have := h.length_le
  rwa [ba_list, ba_list] at this
theorem prefB.trans {a b c : ByteArray} (h : prefB a b) (g : prefB b c) : prefB a c := List.IsPrefix.trans h g
theorem pref_app (a b : ByteArray) : prefB a (a ++ b) := by unfold prefB; rw [ba_app]; exact List.prefix_append _ _
theorem pref_ext {a b x : ByteArray} (h : prefB a b) : prefB (a ++ x) b ↔ a.size + x.size ≤ b.size ∧ b.extract a.size (a.size + x.size) = x := by
  obtain ⟨r, hr⟩ := h
  have hb : b.size = a.size + r.length := by rw [← ba_list b, ← hr, List.length_append, ba_list]
  have he : (b.extract a.size (a.size + x.size)).data.toList = r.take x.size := by
    rw [ba_ext, ← hr, ← ba_list a, List.take_length_add_append, List.drop_left]
  unfold prefB
  rw [ba_app, ← hr, List.prefix_append_right_inj]
  constructor
  · intro q
    have q1 := q.length_le
    rw [ba_list] at q1
    refine ⟨by omega, ba_eq ?_⟩
    rw [he, ← ba_list x]
    exact (List.prefix_iff_eq_take.1 q).symm
  · rintro ⟨q1, q2⟩
    rw [List.prefix_iff_eq_take, ba_list, ← he, q2]
theorem pref_take {a b : ByteArray} : prefB a b ↔ a.size ≤ b.size ∧ b.extract 0 a.size = a := by
  have := pref_ext (x := a) (pref_nil b)
  have e : (⟨#[]⟩ : ByteArray) ++ a = a := ba_eq (by rw [ba_app]; simp)
  have e0 : (⟨#[]⟩ : ByteArray).size = 0 := rfl
  rw [e, e0, Nat.zero_add] at this
  exact this
/-- The job that the records of a log give. -/
structure RecAt (mvs : List (List Int)) (trk : List Int) (log : ByteArray) (i : Nat) : Prop where
  ok : chOk mvs trk i
  pre : prefB (chF mvs trk i).2 log
  last : ¬ (i < (chF mvs trk i).1.ls.length ∧ prefB (chF mvs trk (i + 1)).2 log)
theorem ch_pref {mvs : List (List Int)} {trk : List Int} (i : Nat) : ∀ j, prefB (chF mvs trk i).2 (chF mvs trk (i + j)).2 := by
  intro j
  induction j with
  | zero => exact pref_self _
  | succ j ih => exact ih.trans (pref_app _ _)
theorem RecAt.max {mvs : List (List Int)} {trk : List Int} {log : ByteArray} {i j : Nat} (h : RecAt mvs trk log i) (h1 : chOk mvs trk j) (h2 : prefB (chF mvs trk j).2 log) : j ≤ i := by
  rcases Nat.lt_or_ge i j with e | e
  · exfalso
    refine h.last ⟨h1 i e, ?_⟩
    have := ch_pref (mvs := mvs) (trk := trk) (i + 1) (j - (i + 1))
    rw [show i + 1 + (j - (i + 1)) = j from by omega] at this
    exact this.trans h2
  · exact e
theorem RecAt.one {mvs : List (List Int)} {trk : List Int} {log : ByteArray} {i j : Nat} (h : RecAt mvs trk log i) (g : RecAt mvs trk log j) : i = j :=
  Nat.le_antisymm (g.max h.ok h.pre) (h.max g.ok g.pre)
def RecYes (p : Pz) (trk : List Int) (log : ByteArray) (w : World) (e : Ending) (w' : World) : Prop :=
  ∃ (i : Nat) (A1 : Option Addr) (c1 : Nat) (A2 : Option Addr) (c2 : Nat) (A3 : Option Addr) (c3 : Nat), RecAt (mvsOf p.moves) trk log i ∧
    e = .returned (.tuple #[jobV A1 A2 A3 c1 c2 c3 (chT p trk i) (i : Int) (chF (mvsOf p.moves) trk i).2 ((chF (mvsOf p.moves) trk i).2.size : Int), .bool true]) ∧ FTo w.heap.size w' A1 c1 A2 A3 c3 (chT p trk i) ∧ Below w.heap.size w w'
def RecNo (w : World) (e : Ending) (w' : World) : Prop := e = .returned (.tuple #[noJob, .bool false]) ∧ Below w.heap.size w w'
end Go.Proofs.YtfhdnanbhigpmaaGreat
