/- A chain in memory, bundled; how many members lie below a level, at both packages. Conditions: as each contract says. -/
import Derived.Test.YtpcnbjfkobeibaaBld
import Derived.Test.YtpcnbjfkobeibaaWt
import Derived.Test.YtpcnbjfkobeibaaGi
import Derived.Test.YtpcnbjfkobeibaaWm
namespace Go.Proofs.Ytpcnbjfkobeibaa
open Go.RowKit Grp

/-- Block C is a chain with the table T: at the program, and at the reference. -/
def CI (w : World) (C n : Nat) (T : Tab) : Prop := ∃ B s Gs, TopI w C n s ∧ Body (fun _ => True) B n w s T Gs
def CS (w : World) (C n : Nat) (T : Tab) : Prop := ∃ B s Gs, TopS w C n s ∧ Body (fun _ => True) B n w s T Gs
theorem CI.below {w w' : World} {C n : Nat} {T : Tab} (h : CI w C n T) (hb : Below w.heap.size w w') : CI w' C n T := by
  obtain ⟨B, s, Gs, h1, h2⟩ := h
  exact ⟨B, s, Gs, rowB hb h1, h2.below hb⟩
theorem CS.below {w w' : World} {C n : Nat} {T : Tab} (h : CS w C n T) (hb : Below w.heap.size w w') : CS w' C n T := by
  obtain ⟨B, s, Gs, h1, h2⟩ := h
  exact ⟨B, s, Gs, rowB hb h1, h2.below hb⟩
theorem CI.lt {w : World} {C n : Nat} {T : Tab} (h : CI w C n T) : C < w.heap.size := by
  obtain ⟨B, s, Gs, h1, h2⟩ := h
  exact row_lt h1
theorem CI.cells {w : World} {C n : Nat} {T : Tab} (h : CI w C n T) : ∃ s : Sh, w.cell? ⟨C, 0, none⟩ = some (.int .i64 (n : Int)) ∧ w.cell? ⟨C, 2, none⟩ = some (.slice (some ⟨s.Rb, 0, none⟩) n s.cr) ∧ (∀ i, i < n → w.cell? ⟨s.Rb, i, none⟩ = some (.slice (some ⟨s.R i, 0, none⟩) n n)) ∧
    (n ≤ 20 → ∀ i, i < n → Calls Try.prog 91 #[.slice (some ⟨s.R i, 0, none⟩) n n] w (CompPost (orb n T i) w)) := by
  obtain ⟨B, s, Gs, h1, h2⟩ := h
  exact ⟨s, cell_of_row w C 0 _ _ (0, 0) h1, cell_of_row w C 2 _ _ (0, 0) h1, fun i hi => h2.readRb hi, fun hn i hi => implOrbit B n i s T Gs w h2 hi hn⟩
theorem CS.cells {w : World} {C n : Nat} {T : Tab} (h : CS w C n T) : ∃ s : Sh, w.cell? ⟨C, 0, none⟩ = some (.int .i64 (n : Int)) ∧ w.cell? ⟨C, 1, none⟩ = some (.slice (some ⟨s.Rb, 0, none⟩) n s.cr) ∧ (∀ i, i < n → w.cell? ⟨s.Rb, i, none⟩ = some (.slice (some ⟨s.R i, 0, none⟩) n n)) ∧
    (∀ i y, i < n → y < n → ∃ v, w.cell? ⟨s.R i, y, none⟩ = some v ∧ RepV (fun _ => True) w v n (T i y)) := by
  obtain ⟨B, s, Gs, h1, h2⟩ := h
  exact ⟨s, cell_of_row w C 0 _ _ (0, 0) h1, cell_of_row w C 1 _ _ (0, 0) h1, fun i hi => h2.readRb hi, fun i y hi hy => by
    obtain ⟨v, a, b, -⟩ := h2.readRow hi hy
    exact ⟨v, a, b⟩⟩
theorem implChoice {w : World} {C n : Nat} {T : Tab} {G : List Nat → Prop} (h : CI w C n T) (hc : Chain n T 0 G) (hn : n ≤ 20) {W i : Nat} {u : List Nat} (hw : WalkAt w W C n i u) (hu : IsP n u) (hi : i < n) (x : Int) (hx0 : -9223372036854775808 ≤ x) (hx1 : x ≤ 9223372036854775807) :
    Calls Try.prog 85 #[.pointer (some ⟨W, 0, none⟩), .int .i64 x] w (TakePost n T C W i u x w) := by
  obtain ⟨B, s, Gs, h1, h2⟩ := h
  exact implTake B n C W i s T Gs u x w h1 h2 hw hu (fun y t ht => hc.1.1 t ((hc.2.2 i (Nat.zero_le _) hi).1 y t ht).1) hi hn hx0 hx1
theorem implUnder {w : World} {C n : Nat} {T : Tab} (h : CI w C n T) (hn : n ≤ 20) {W i : Nat} {u : List Nat} (hw : WalkAt w W C n i u) (hu : IsP n u) (hi : i < n) (x : Int) :
    Calls Try.prog 133 #[.pointer (some ⟨W, 0, none⟩), .int .i64 x] w (BelowPost n T i u x w) := by
  obtain ⟨B, s, Gs, h1, h2⟩ := h
  exact implBelow B n C W i s T Gs u x w h1 h2 hw hu hi hn
theorem specVals {w : World} {C n : Nat} {T : Tab} (h : CS w C n T) (hn : n ≤ 20) {ok' : Nat → Prop} {v : Value} {u : List Nat} (hv : PermV ok' w v n u) (hu : IsP n u) {i : Nat} (hi : i < n) :
    Calls Try.prog 81 #[.pointer (some ⟨C, 0, none⟩), .int .i64 (i : Int), v] w (InsPost (vals n T i u) w) := by
  obtain ⟨B, s, Gs, h1, h2⟩ := h
  exact specChoices B n C i s T Gs v u w h1 h2 hv hu hi hn
theorem specStep {w : World} {C n : Nat} {T : Tab} {G : List Nat → Prop} (h : CS w C n T) (hc : Chain n T 0 G) (hn : n ≤ 20) {ok' : Nat → Prop} {v : Value} {u : List Nat} (hv : PermV ok' w v n u) (hu : IsP n u) {i : Nat} (hi : i < n) {x : Nat} (hx : x ∈ vals n T i u) :
    Calls Try.prog 82 #[.pointer (some ⟨C, 0, none⟩), .int .i64 (i : Int), v, .int .i64 (x : Int)] w (CompPost (Grp.step T i u x) w) := by
  obtain ⟨B, s, Gs, h1, h2⟩ := h
  exact specWith B n C i s T Gs v u x w h1 h2 hv hu (fun y t ht => hc.1.1 t ((hc.2.2 i (Nat.zero_le _) hi).1 y t ht).1) hi hn hx
def ReadsNat (x : Nat) (w : World) (e : Ending) (w' : World) : Prop := e = .returned (.int .i64 (x : Int)) ∧ Below w.heap.size w w'
theorem wrapNat {x : Nat} (h : x ≤ 2432902008176640000) : IntKind.i64.wrap (x : Int) = (x : Int) := IntWalk.i64_in _ (by omega)
theorem mulLe {o L r t : Nat} (h : o * L * r = t) (hr : 0 < r) : o * L ≤ t := by rw [← h]; exact Nat.le_mul_of_pos_right _ hr
set_option maxRecDepth 100000 in
set_option maxHeartbeats 4000000 in
theorem implOrder {G : List Nat → Prop} (C n i0 : Nat) (T : Tab) (w : World) (hC : CI w C n T) (hc : Chain n T 0 G) (hi : i0 ≤ n) (hnl : n ≤ 20) :
    Calls Try.prog 113 #[.pointer (some ⟨C, 0, none⟩), .int .i64 (i0 : Int)] w (ReadsNat (ordG n T i0) w) := by
  obtain ⟨r, hr⟩ : ∃ r, ordG n T i0 = r := ⟨_, rfl⟩
  have hrb := (ordG_bound hc hnl hi).2
  rw [hr] at hrb
  rw [hr]
  have HR := Lib.hid hr
  have HC := Lib.hid hC
  have HCH := Lib.hid hc
  clear hr hC hc
  go_enter Try.func113, Try.ntmps113
  go_wp2_with fail
  go_loopw [5, 6] (fun o i wr => ∃ (k m : Nat), i0 ≤ k ∧ k ≤ n ∧ i = .int .i64 (k : Int) ∧ o = .int .i64 (m : Int) ∧ Hid (m * ordG n T k = r) ∧ Below w.heap.size w wr) (fun _ i _ => n - (intOf i).toNat)
  case atStart => exact ⟨i0, 1, Nat.le_refl _, hi, rfl, rfl, by unfold Hid; rw [Nat.one_mul, HR.out], Below.refl _ _⟩
  case round =>
    obtain ⟨k, m, hk0, hk, rfl, rfl, HM, hB⟩ := hrel
    obtain ⟨s, t0, t2, hrb2, horb⟩ := (HC.out.below hB).cells
    have HO := Lib.hid (horb hnl)
    clear horb
    by_cases hlt : k < n
    · have hrk := hrb2 k hlt
      have p0 : (0 : Int) ≤ (k : Int) := by omega
      have p1 : (k : Int) < (n : Int) := by omega
      clear hrb2
      go_wp2_with fail
      refine (HO.out k hlt).mono ?_
      rintro e w1 ⟨v1, rfl, hF1, hb1⟩
      obtain ⟨A1, c1, rfl, -, -⟩ := hF1.ints
      obtain ⟨L, hL⟩ : ∃ L, (natI (orb n T k)).length = L := ⟨_, rfl⟩
      rw [hL]
      have hM2 : m * L * ordG n T (k + 1) = r := by
        have := HM.out
        rw [ordG_step hlt, ← Nat.mul_assoc] at this
        rw [natI_len] at hL
        rw [hL] at this
        exact this
      have hml : m * L ≤ 2432902008176640000 := Nat.le_trans (mulLe hM2 (ordG_bound HCH.out hnl (show k + 1 ≤ n by omega)).1) hrb
      have q1 : IntKind.i64.wrap ((m : Int) * (L : Int)) = ((m * L : Nat) : Int) := by rw [← Int.natCast_mul]; exact wrapNat hml
      have HM2 := Lib.hid hM2
      have hB1 := belowStep hb1 hB
      clear hM2 hF1 hb1 hL hml t0 t2 hrk
      go_wp2_with (first | (go_at_call 74; refine (implLength _ _ _ _).mono ?_; rintro e w' ⟨rfl, rfl⟩))
      go_roundw
      case rel => exact ⟨k + 1, m * L, by omega, by omega, by go_num, by first | rfl | rw [q1], HM2, hB1⟩
      case measure => simp [intOf]; omega
    · obtain rfl : k = n := by omega
      have hm := HM.out
      rw [ordG_end, Nat.mul_one] at hm
      subst hm
      clear hrb2
      go_wp2_with fail
      go_ret
      exact ⟨rfl, hB⟩
end Go.Proofs.Ytpcnbjfkobeibaa
