/- The law file's helpers over slices of entries. Conditions: as each contract says. -/
import Derived.Test.YtpaaolnkmopiiaaEnts
namespace Go.Proofs.Ytpaaolnkmopiiaa
open Go.RowKit

def SzPost (es : List Ent) (w : World) (e : Ending) (w' : World) : Prop := ∃ q : Int, e = .returned (.int .i64 q) ∧ (0 ≤ q → es.length ≤ 1048576 ∧ Short es) ∧ Below w.heap.size w w'
theorem szLeft_pos {lf : Int} {n : Nat} (h0 : 0 ≤ lf) (h1 : lf ≤ 1048576) (h : ¬ szLeft lf n < 0) : 0 ≤ szLeft lf n ∧ szLeft lf n ≤ 1048576 ∧ n ≤ 1048576 := by
  unfold szLeft at *
  split at h
  · omega
  · rename_i h2
    rw [if_neg h2]
    omega
set_option maxRecDepth 3000 in
set_option maxHeartbeats 1000000 in
theorem szEnts (A : Option Addr) (c : Nat) (es : List Ent) (w : World) (hx : EntsAt w A es) (hn : es.length ≤ 9223372036854775807) (hm : ∀ i, i < es.length → (es.getD i (0, [])).2.length ≤ 9223372036854775807) :
    Calls Try.prog 13 #[.slice A es.length c, .int .i64 1048576] w (SzPost es w) := by
  have HM := Lib.hid hm
  clear hm
  by_cases hl : es.length ≤ 1048576
  · have h1 : ¬ (1048576 : Int) - (es.length : Int) < 0 := by omega
    go_enter Try.func13, Try.ntmps13
    go_wp2_with fail
    go_loopw [1, 5] (fun q i wr => ∃ (k : Nat) (lf : Int), k ≤ es.length ∧ i = .int .i64 k ∧ q = .int .i64 lf ∧ 0 ≤ lf ∧ lf ≤ 1048576 ∧ Hid (∀ j, j < k → (es.getD j (0, [])).2.length ≤ 1048576) ∧ Below w.heap.size w wr) (fun _ i _ => es.length - (intOf i).toNat)
    case atStart => exact ⟨0, _, Nat.zero_le _, rfl, rfl, by omega, by omega, fun j hj => by omega, Below.refl _ _⟩
    case round =>
      obtain ⟨k, lf, hk, rfl, rfl, l0, l1, HS, hB⟩ := hrel
      by_cases hlt : k < es.length
      · obtain ⟨b, off, e1, Ai, ci, ys, rfl, hb, hc0, hc1, hI, hcap, HX⟩ := (hx.below hB).at_ hlt
        have p0 : (0 : Int) ≤ (k : Int) := by omega
        have p1 : (k : Int) < (es.length : Int) := by omega
        have hyl : ys.length ≤ 9223372036854775807 := by have := HM.out k hlt; rw [HX.out] at this; exact this
        go_wp2_with fail
        refine (szEnt e1 Ai ci ys lf _ hyl l0 l1).mono ?_
        rintro e w1 ⟨rfl, hb1⟩
        obtain ⟨q, hq⟩ : ∃ q, szLeft lf ys.length = q := ⟨_, rfl⟩
        have HQ := Lib.hid hq
        rw [hq]
        clear hq
        by_cases hneg : q < 0
        · go_wp2_with fail
          go_ret
          exact ⟨-1, rfl, fun h => by omega, belowStep hb1 hB⟩
        · have hb := szLeft_pos l0 l1 (by rw [HQ.out]; exact hneg)
          rw [HQ.out] at hb
          have HB := Lib.hid hb
          clear hb
          go_wp2_with fail
          go_roundw
          case rel =>
            refine ⟨k + 1, q, by omega, by go_num, rfl, HB.out.1, HB.out.2.1, fun j hj => ?_, belowStep hb1 hB⟩
            rcases Nat.lt_or_ge j k with h | h
            · exact HS.out j h
            · rw [show j = k from by omega, HX.out]; exact HB.out.2.2
          case measure => simp [intOf]; omega
      · go_wp2_with fail
        go_ret
        exact ⟨lf, rfl, fun _ => ⟨hl, fun i hi => HS.out i (by omega)⟩, hB⟩
  · have h1 : (1048576 : Int) - (es.length : Int) < 0 := by omega
    go_enter Try.func13, Try.ntmps13
    go_wp2_with fail
    go_ret
    exact ⟨-1, rfl, fun h => by omega, Below.refl _ _⟩
end Go.Proofs.Ytpaaolnkmopiiaa
