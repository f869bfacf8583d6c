/- Permutations in memory: composed, inverted, the identity, at both packages. Conditions: as each contract says. -/
import Derived.Test.YtfhdnanbhigpmaaMark
import Derived.Test.YtfhdnanbhigpmaaGB
namespace Go.Proofs.Ytfhdnanbhigpmaa
open Go.RowKit Grp

def natI (p : List Nat) : List Int := p.map fun x : Nat => (x : Int)
theorem natI_len (p : List Nat) : (natI p).length = p.length := by simp [natI]
theorem natI_getD (p : List Nat) (i : Nat) : (natI p).getD i 0 = ((app p i : Nat) : Int) := by
  unfold natI app
  rw [List.getD_eq_getElem?_getD, List.getD_eq_getElem?_getD, List.getElem?_map]
  cases p[i]? <;> rfl
theorem natI_ext {p : List Nat} {ys : List Int} (hl : ys.length = p.length) (h : ∀ i, i < p.length → ys.getD i 0 = ((app p i : Nat) : Int)) : ys = natI p := by
  refine List.ext_getElem (by rw [natI_len, hl]) fun i h1 h2 => ?_
  have e1 := h i (by omega)
  rw [← natI_getD] at e1
  rwa [getD_at _ _ h1, getD_at _ _ h2] at e1
/-- One number of a permutation in memory. -/
theorem perm_at {w : World} {A : Option Addr} {p : List Nat} (h : IntsAt w A (natI p)) {i : Nat} (hi : i < p.length) :
    ∃ b off, A = some ⟨b, off, none⟩ ∧ b < w.heap.size ∧ w.cell? ⟨b, off + i, none⟩ = some (.int .i64 ((app p i : Nat) : Int)) := by
  obtain ⟨b, off, e, hb, hc⟩ := h i (by rw [natI_len]; exact hi)
  rw [natI_getD] at hc
  exact ⟨b, off, e, hb, hc⟩
def CompPost (r : List Nat) (w : World) (e : Ending) (w' : World) : Prop := ∃ v, e = .returned v ∧ Fresh w.heap.size w' v (natI r) ∧ Below w.heap.size w w'
/-- A made slice, partly filled. -/
def Filled (B : Nat) (w : World) (g n : Nat) (ys : List Int) : Prop := ys.length = n ∧ w.ownsRow B 2 1 (.slice (some ⟨g, 0, none⟩) n n) n (ys.map (Value.int .i64))
theorem Filled.cell {B : Nat} {w : World} {g n : Nat} {ys : List Int} (h : Filled B w g n ys) {k : Nat} (hk : k < n) : w.cell? ⟨g, k, none⟩ = some (.int .i64 (ys.getD k 0)) := by
  rw [h.2.cellAt k (by omega), List.getElem?_map, List.getElem?_eq_getElem (by rw [h.1]; exact hk), getD_at _ _ (by rw [h.1]; exact hk)]; rfl
theorem Filled.store {B : Nat} {w : World} {g n : Nat} {ys : List Int} (h : Filled B w g n ys) (k : Nat) (x : Int) : Filled B (w.setCell ⟨g, k, none⟩ (.int .i64 x)) g n (ys.set k x) := by
  refine ⟨by rw [List.length_set]; exact h.1, ?_⟩
  have := (h.2.stored k (.int .i64 x)).1
  rwa [← List.map_set] at this
theorem set_getD (ys : List Int) (k j : Nat) (x : Int) (hk : k < ys.length) : (ys.set k x).getD j 0 = if j = k then x else ys.getD j 0 := by
  rw [List.getD_eq_getElem?_getD, List.getElem?_set]
  by_cases h : k = j
  · subst h; simp [hk]
  · rw [if_neg h, if_neg (fun e => h e.symm), List.getD_eq_getElem?_getD]
/-- An inverse in the making. -/
def InvTo (p : List Nat) (k : Nat) (ys : List Int) : Prop := ∀ j, j < k → ys.getD (app p j) 0 = (j : Int)
theorem inv_of_to {n : Nat} {p : List Nat} (hp : IsP n p) {ys : List Int} (hl : ys.length = n) (h : InvTo p n ys) : ys = natI (inv p) := by
  refine natI_ext (by rw [hl, inv_len, hp.len]) fun i hi => ?_
  rw [inv_len, hp.len] at hi
  have := h _ (hp.inv_lt hi)
  rwa [hp.app_inv_self hi] at this
set_option maxHeartbeats 1000000 in
theorem implInverse (A : Option Addr) (c n : Nat) (p : List Nat) (w : World) (hx : IntsAt w A (natI p)) (hp : IsP n p) (hn : n ≤ 1048576) :
    Calls Try.prog 119 #[.slice A n c] w (CompPost (inv p) w) := by
  obtain ⟨i0, hi, hz0, hz1, hz2⟩ := info_parts intInfo
  have HP := Lib.hid hp
  clear hp
  go_enter Try.func119, Try.ntmps119
  go_wp2_with (first | (at_make; refine wpList_make_full _ rfl _ _ 31 rfl w.heap.size 2 i0 (.int .i64 0) 1 Try.underlying31 hi hz0 hz1 _ _ _ _ n rfl rfl rfl rfl ?_ ?_ ?_ ?_))
  · rw [hz2]; omega
  · unfold maxLen; omega
  · simp
  intro w1 hown hgrow
  rw [made_ints] at hown
  have hB0 : Below w.heap.size w w1 := (Below.refl _ _).grown hgrow (Nat.le_refl _) (by simp)
  have hF0 : Filled w.heap.size w1 w.heap.size n (List.replicate n 0) := ⟨by simp, hown⟩
  clear hgrow hown
  go_wp2_with fail
  go_loopw [11] (fun i wr => ∃ (k : Nat) (ys : List Int), k ≤ n ∧ i = .int .i64 k ∧ Filled w.heap.size wr w.heap.size n ys ∧ Hid (InvTo p k ys) ∧ Below w.heap.size w wr) (fun i _ => n - (intOf i).toNat)
  case atStart => exact ⟨0, _, Nat.zero_le _, rfl, hF0, fun j hj => by omega, hB0⟩
  case round =>
    obtain ⟨k, ys, hk, rfl, hF, HY, hB⟩ := hrel
    clear hF0 hB0
    by_cases hlt : k < n
    · have hx2 := HP.out.lt hlt
      obtain ⟨b, off, rfl, hb, hc⟩ := perm_at (hx.below hB) (i := k) (by rw [HP.out.len]; exact hlt)
      obtain ⟨x, hxx⟩ : ∃ x, app p k = x := ⟨_, rfl⟩
      rw [hxx] at hc hx2
      have hcell := hF.cell hx2
      have hfr := hF.2.frozenAt x
      have hF2 := hF.store x (k : Int)
      have HF := Lib.hid hF2
      have HYN : Hid (InvTo p (k + 1) (ys.set x (k : Int))) := by
        intro j hj
        rw [set_getD _ _ _ _ (by rw [hF.1]; exact hx2)]
        by_cases e : j = k
        · subst e; rw [if_pos hxx]
        · rw [if_neg (fun e2 => e (HP.out.inj (by omega) hlt (by rw [e2, hxx])))]; exact HY.out j (by omega)
      have p0 : (0 : Int) ≤ (k : Int) := by omega
      have p1 : (k : Int) < (n : Int) := by omega
      have p2 : (0 : Int) ≤ (x : Int) := by omega
      have p3 : (x : Int) < (n : Int) := by omega
      clear hxx hF hF2
      go_wp2_with fail
      go_roundw
      case rel => exact ⟨k + 1, _, by omega, by go_num, HF.out, HYN, hB.setCell (by simp) _⟩
      case measure => simp [intOf]; omega
    · obtain rfl : k = n := by omega
      have he := inv_of_to HP.out hF.1 HY.out
      have HFR : Hid (Fresh w.heap.size wr (.slice (some ⟨w.heap.size, 0, none⟩) k k) (natI (inv p))) := by
        unfold Hid Fresh
        rw [natI_len, inv_len, HP.out.len, ← he]
        exact hF.2
      clear he hF
      go_wp2_with fail
      go_ret
      exact ⟨_, rfl, HFR.out, hB⟩
set_option maxHeartbeats 1000000 in
theorem specInverse (A : Option Addr) (c n : Nat) (p : List Nat) (w : World) (hx : IntsAt w A (natI p)) (hp : IsP n p) (hn : n ≤ 1048576) :
    Calls Try.prog 142 #[.slice A n c] w (CompPost (inv p) w) := by
  obtain ⟨i0, hi, hz0, hz1, hz2⟩ := info_parts intInfo
  have HP := Lib.hid hp
  clear hp
  go_enter Try.func142, Try.ntmps142
  go_wp2_with (first | (at_make; refine wpList_make_full _ rfl _ _ 31 rfl w.heap.size 2 i0 (.int .i64 0) 1 Try.underlying31 hi hz0 hz1 _ _ _ _ n rfl rfl rfl rfl ?_ ?_ ?_ ?_))
  · rw [hz2]; omega
  · unfold maxLen; omega
  · simp
  intro w1 hown hgrow
  rw [made_ints] at hown
  have hB0 : Below w.heap.size w w1 := (Below.refl _ _).grown hgrow (Nat.le_refl _) (by simp)
  have hF0 : Filled w.heap.size w1 w.heap.size n (List.replicate n 0) := ⟨by simp, hown⟩
  clear hgrow hown
  go_wp2_with fail
  go_loopw [4] (fun i wr => ∃ (k : Nat) (ys : List Int), k ≤ n ∧ i = .int .i64 k ∧ Filled w.heap.size wr w.heap.size n ys ∧ Hid (InvTo p k ys) ∧ Below w.heap.size w wr) (fun i _ => n - (intOf i).toNat)
  case atStart => exact ⟨0, _, Nat.zero_le _, rfl, hF0, fun j hj => by omega, hB0⟩
  case round =>
    obtain ⟨k, ys, hk, rfl, hF, HY, hB⟩ := hrel
    clear hF0 hB0
    by_cases hlt : k < n
    · have hx2 := HP.out.lt hlt
      obtain ⟨b, off, rfl, hb, hc⟩ := perm_at (hx.below hB) (i := k) (by rw [HP.out.len]; exact hlt)
      obtain ⟨x, hxx⟩ : ∃ x, app p k = x := ⟨_, rfl⟩
      rw [hxx] at hc hx2
      have hcell := hF.cell hx2
      have hfr := hF.2.frozenAt x
      have hF2 := hF.store x (k : Int)
      have HF := Lib.hid hF2
      have HYN : Hid (InvTo p (k + 1) (ys.set x (k : Int))) := by
        intro j hj
        rw [set_getD _ _ _ _ (by rw [hF.1]; exact hx2)]
        by_cases e : j = k
        · subst e; rw [if_pos hxx]
        · rw [if_neg (fun e2 => e (HP.out.inj (by omega) hlt (by rw [e2, hxx])))]; exact HY.out j (by omega)
      have p0 : (0 : Int) ≤ (k : Int) := by omega
      have p1 : (k : Int) < (n : Int) := by omega
      have p2 : (0 : Int) ≤ (x : Int) := by omega
      have p3 : (x : Int) < (n : Int) := by omega
      clear hxx hF hF2
      go_wp2_with fail
      go_roundw
      case rel => exact ⟨k + 1, _, by omega, by go_num, HF.out, HYN, hB.setCell (by simp) _⟩
      case measure => simp [intOf]; omega
    · obtain rfl : k = n := by omega
      have he := inv_of_to HP.out hF.1 HY.out
      have HFR : Hid (Fresh w.heap.size wr (.slice (some ⟨w.heap.size, 0, none⟩) k k) (natI (inv p))) := by
        unfold Hid Fresh
        rw [natI_len, inv_len, HP.out.len, ← he]
        exact hF.2
      clear he hF
      go_wp2_with fail
      go_ret
      exact ⟨_, rfl, HFR.out, hB⟩
end Go.Proofs.Ytfhdnanbhigpmaa
