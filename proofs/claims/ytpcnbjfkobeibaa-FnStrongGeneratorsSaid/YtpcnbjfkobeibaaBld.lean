/- The chain of generators, at the reference. Conditions: as the contract says. -/
import Derived.Test.YtpcnbjfkobeibaaNewS
import Derived.Test.YtpcnbjfkobeibaaApp
namespace Go.Proofs.Ytpcnbjfkobeibaa
open Go.RowKit Grp

set_option maxHeartbeats 1000000 in
theorem specCopy (A : Option Addr) (c n : Nat) (xs : List Int) (w : World) (hx : IntsAt w A xs) (hn : xs.length = n) (hl : n ≤ 1048576) :
    Calls Try.prog 129 #[.slice A n c] w fun e w' => ∃ v, e = .returned v ∧ Fresh w.heap.size w' v xs ∧ Below w.heap.size w w' := by
  subst hn
  have hE : Fresh w.heap.size (w.alloc (.cells #[] 2)) (.slice (some ⟨w.heap.size, 0, none⟩) 0 0) [] := Fresh.empty (Nat.le_refl _)
  go_enter Try.func129, Try.ntmps129
  go_wp2_with (first | (at_builtin; refine append_ints rfl _ _ rfl w.heap.size _ [] xs rfl hE A xs.length c rfl rfl (by exact hx.below (by repeat (first | exact Below.refl _ _ | assumption | refine Below.setCell ?_ (by first | omega | (simp <;> omega)) _ | refine Below.alloc ?_ (by first | omega | (simp <;> omega)) _ | refine Below.drew ?_))) (by simpa using hl) (by simp) ?_; intro v1 w1 hF1 hg1 hb1))
  go_ret
  exact ⟨_, rfl, hF1, ((Below.refl _ _).alloc (Nat.le_refl _) _).trans hb1⟩
def BuildS (n : Nat) (l : List (List Nat)) (w : World) (e : Ending) (w' : World) : Prop :=
  ∃ (C : Nat) (s : Sh) (T : Tab) (Gs : Nat → List (List Nat)), e = .returned (.pointer (some ⟨C, 0, none⟩)) ∧ TopS w' C n s ∧ Body (fun _ => True) w.heap.size n w' s T Gs ∧ Full n T Gs 0 ∧ (∀ x, GenL n (Gs 0) x ↔ GenL n l x) ∧ Below w.heap.size w w'
theorem awayNone (n : Nat) (w : World) (s : Sh) : Away (fun _ => False) n w s := ⟨fun _ h => h.elim, fun _ _ h => h, fun h => h, fun _ _ _ _ _ _ h => h⟩
set_option maxRecDepth 100000 in
set_option maxHeartbeats 8000000 in
theorem specBuild (n : Nat) (A : Option Addr) (c : Nat) (l : List (List Nat)) (w : World) (hl : PermsAt w A n l) (hP : ∀ p, p ∈ l → IsP n p) (hn : 0 < n) (hnl : n ≤ 20) (hll : l.length ≤ 1000) :
    Calls Try.prog 71 #[.int .i64 (n : Int), .slice A l.length c] w (BuildS n l w) := by
  have HL := Lib.hid hl
  have HP := Lib.hid hP
  clear hl hP
  go_enter Try.func71, Try.ntmps71
  go_wp2_with fail
  refine (specEmpty n _ hn hnl).mono ?_
  rintro e w1 ⟨C, s, rfl, hT, hb, hB⟩
  have HT0 : Hid (TopS w1 C n s) := hT
  have HB0 := Lib.hid hb
  have HF0 := Lib.hid (fullStart n)
  have HC0 : Hid (∀ j, 0 ≤ j → j ≤ n → ([] : List (List Nat)).length ≤ orbSum n (idT n) j (n - j)) := fun j _ _ => Nat.zero_le _
  have HG0 : Hid (∀ x, GenL n ([] : List (List Nat)) x ↔ GenL n (l.take 0) x) := fun x => by rw [List.take_zero]
  clear hT hb
  go_wp2_with fail
  go_loopw [6] (fun j wr => ∃ (i : Nat) (T : Tab) (Gs : Nat → List (List Nat)), j = .int .i64 i ∧ i ≤ l.length ∧ Hid (TopS wr C n s) ∧ Hid (Body (fun _ => True) w.heap.size n wr s T Gs) ∧ Hid (Full n T Gs 0) ∧ Hid (∀ j, 0 ≤ j → j ≤ n → (Gs j).length ≤ orbSum n T j (n - j)) ∧ Hid (∀ x, GenL n (Gs 0) x ↔ GenL n (l.take i) x) ∧ Below w.heap.size w wr) (fun j _ => l.length - (intOf j).toNat)
  case atStart => exact ⟨0, _, _, rfl, Nat.zero_le _, HT0, HB0, HF0, HC0, HG0, hB⟩
  case round =>
    obtain ⟨i, T, Gs, rfl, hi', HT, HBD, HF, HCN, HGN, hBr⟩ := hrel
    clear HT0 HB0 HF0 HC0 HG0
    by_cases hli : i < l.length
    · obtain ⟨b, off, u, rfl, hbl, hcu, hpu⟩ := (HL.out.below hBr) i hli
      have hpm := getD_mem hli
      have hpP := HP.out _ hpm
      obtain ⟨p, hpp⟩ : ∃ p, l.getD i [] = p := ⟨_, rfl⟩
      rw [hpp] at hpu hpP
      obtain ⟨gu, cu, rfl, hIu, hul⟩ := hpu.ints
      have hG := specGen w.heap.size n C s hn hnl n 0 (by omega)
      have hG1 : ∀ (v : Value) (w0 : World), w0.heap[C]? = some (.cells (tcS n s) 106 (0, 0)) → Body (fun _ => True) w.heap.size n w0 s T Gs → PermV (fun _ => True) w0 v n p → Calls Try.prog 128 #[.pointer (some ⟨C, 0, none⟩), .int .i64 0, v] w0 (GenPost (fun _ => False) w.heap.size n 0 C s T Gs p w0) := by
        intro v w0 h1 h2 h3
        have := hG (fun _ => False) T Gs v p w0 h1 h2 (awayNone _ _ _) h3 hpP (fun i hi => by omega) HF.out HCN.out
        rwa [show ((0 : Nat) : Int) = 0 from rfl] at this
      have HG1 := Lib.hid hG1
      have HPP := Lib.hid hpp
      have HPI := Lib.hid hpP
      have HIU := Lib.hid hIu
      have HUL := Lib.hid hul
      have q0 : (0 : Int) ≤ (i : Int) := by omega
      have q1 : (i : Int) < (l.length : Int) := by omega
      clear hpu hpm hpP hpp hG hG1 hIu hul
      go_wp2_with fail
      refine (specCopy _ cu n (natI p) _ (by exact HIU.out) (by rw [natI_len]; exact HUL.out) (by omega)).mono ?_
      rintro e w4 ⟨v4, rfl, hF4, hb4⟩
      have HPV4 := Lib.hid (hF4.perm (ok := fun _ => True) (n := n) HUL.out hn (fun _ _ _ => trivial))
      have HT4 : Hid (TopS w4 C n s) := rowB hb4 HT.out
      have HB4 := Lib.hid (HBD.out.below hb4)
      have hB4 := belowStep hb4 hBr
      clear hF4 hb4 hcu
      go_wp2_with fail
      refine (HG1.out v4 w4 HT4.out HB4.out HPV4.out).mono ?_
      rintro e w8 ⟨rfl, T', Gs', x1, x3⟩
      have HT8 : Hid (TopS w8 C n s) := x1.top
      have HB8 := Lib.hid x1.body
      have HF8 := Lib.hid x3.full
      have HC8 := Lib.hid x3.cnt
      have HG8 : Hid (∀ x, GenL n (Gs' 0) x ↔ GenL n (l.take (i + 1)) x) := fun x => by
        rw [x3.grp x, take_snoc l i hli, HPP.out]
        exact ⟨genSnoc (fun s hs => HP.out s (List.mem_of_mem_take hs)) HPI.out (fun y => (HGN.out y).1) x, genSnoc (fun s hs => (HF.out.gens 0 (Nat.le_refl _) (by omega) s hs).1) HPI.out (fun y => (HGN.out y).2) x⟩
      have hB8 := hB4.trans x1.below
      clear x1 x3 HG1
      go_wp2_with fail
      go_roundw
      case rel => exact ⟨i + 1, T', Gs', by go_num, by omega, HT8, HB8, HF8, HC8, HG8, hB8⟩
      case measure => simp [intOf]; omega
    · obtain rfl : i = l.length := by omega
      have hgn := HGN.out
      rw [List.take_of_length_le (Nat.le_refl _)] at hgn
      have HGE := Lib.hid hgn
      clear hgn
      go_wp2_with fail
      go_ret
      exact ⟨C, s, T, Gs, rfl, HT.out, HBD.out, HF.out, HGE.out, hBr⟩
end Go.Proofs.Ytpcnbjfkobeibaa
