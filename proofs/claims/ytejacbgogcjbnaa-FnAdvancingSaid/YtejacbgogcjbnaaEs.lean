/- The law file's helpers over slices of entries. Conditions: as each contract says. -/
import Derived.Test.YtejacbgogcjbnaaEnts
namespace Go.Proofs.Ytejacbgogcjbnaa
open Go.RowKit

def SzPost (es : List Ent) (w : World) (e : Ending) (w' : World) : Prop := ∃ q : Int, e = .returned (.int .i64 q) ∧ (0 ≤ q → es.length ≤ 1048576 ∧ Short es) ∧ Below w.heap.size w w'
theorem szLeft_pos {lf : Int} {n : Nat} (h0 : 0 ≤ lf) (h1 : lf ≤ 1048576) (h : ¬ szLeft lf n < 0) : 0 ≤ szLeft lf n ∧ szLeft lf n ≤ 1048576 ∧ n ≤ 1048576 := by
  unfold szLeft at *
  split at h
  · omega
  · rename_i h2
    rw [if_neg h2]
    omega
end Go.Proofs.Ytejacbgogcjbnaa
