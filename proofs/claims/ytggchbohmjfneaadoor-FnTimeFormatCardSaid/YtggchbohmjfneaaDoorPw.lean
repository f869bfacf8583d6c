/- Strings and times drawn from a source. Conditions: as each contract says. -/
import Derived.Test.YtggchbohmjfneaaDoorPh
import Derived.Test.YtggchbohmjfneaaDoorDr
namespace Go.Proofs.YtggchbohmjfneaaDoor
open Go.RowKit

theorem pick_str {w : World} {b m : Nat} {T : TypeId} {cs : Array Value} (l : List ByteArray) (h : w.heap[b]? = some (.cells cs T (0, 0))) (hcs : cs = (l.map Value.string).toArray) (hm : m < l.length) : w.cell? ⟨b, m, none⟩ = some (.string (l.getD m ⟨#[]⟩)) := by
  rw [cell_of_row w b m _ _ (0, 0) h, hcs, List.getElem?_toArray, List.getElem?_map, List.getElem?_eq_getElem hm, List.getD_eq_getElem?_getD, List.getElem?_eq_getElem hm]; rfl
def texts16 : List ByteArray := [⟨#[]⟩, ⟨#[68, 78, 70]⟩, ⟨#[100, 110, 102]⟩, ⟨#[49, 46, 53]⟩, ⟨#[48, 49, 46, 53, 48]⟩, ⟨#[48, 58, 53, 57, 46, 57, 57]⟩, ⟨#[49, 58, 53, 46, 48, 48]⟩, ⟨#[49, 58, 54, 48, 46, 48, 48]⟩, ⟨#[54, 48, 46, 48, 48]⟩, ⟨#[51, 54, 48, 48, 46, 48, 48]⟩, ⟨#[54, 48, 58, 48, 48, 46, 48, 48]⟩, ⟨#[54, 48, 58, 48, 48, 46, 48, 49]⟩, ⟨#[45, 49, 46, 48, 48]⟩, ⟨#[49, 46, 50, 51, 52]⟩, ⟨#[49, 46, 48, 48, 32]⟩, ⟨#[48, 46, 48, 48]⟩]
theorem texts16_small : (texts16.all fun b => decide (b.size ≤ 100)) = true := by decide
theorem texts16_len (m : Nat) (hm : m < 16) : (texts16.getD m ⟨#[]⟩).size ≤ 100 := by
  have h : m < texts16.length := hm
  have := (List.all_eq_true.1 texts16_small) _ (List.getElem_mem h)
  rw [List.getD_eq_getElem?_getD, List.getElem?_eq_getElem h]
  simpa using this
theorem fmtS_small (n : Int) : (fmtS n).size ≤ 100 := by
  rw [fmtS_size]
  by_cases h1 : n = -1
  · subst h1
    decide
  cases h : inR n 0 360000 with
  | false =>
    unfold fmtL
    rw [if_neg h1, if_pos h]
    decide
  | true =>
    have hb := inR_iff.1 h
    have := (fmtL_len n.toNat (by omega)).2
    rw [show ((n.toNat : Nat) : Int) = n from by omega] at this
    omega
set_option maxHeartbeats 1000000 in
theorem srcTimeT (g : Nat) (A : Option Addr) (c : Nat) (xs : List Int) (w : World) (hd : SrcAt w g A c xs) (hl : xs.length ≤ 4096) :
    Calls Tryd.prog 23 #[.pointer (some ⟨g, 0, none⟩)] w (SrcInt g A c xs w) := by
  go_enter Tryd.func23, Tryd.ntmps23
  go_wp2_with fail
  refine (srcBelow g A c xs 4 _ hd hl (by omega) (by omega)).mono ?_
  rintro e w1 ⟨x, rfl, x0, x1, hd1, hg1⟩
  by_cases h0 : x = 0
  · subst h0
    go_wp2_with fail
    refine (srcBetween g A c xs (-2) 12 _ hd1 hl (by omega) (by omega) (by omega) (by omega)).mono ?_
    rintro e w2 ⟨y, rfl, y0, y1, hd2, hg2⟩
    go_wp2_with fail
    go_ret
    exact ⟨_, rfl, hd2, grownTrans hg1 hg2⟩
  have f0 : (x == 0) = false := by simpa using h0
  by_cases h1 : x = 1
  · subst h1
    go_wp2_with fail
    refine (srcBelow g A c xs 30 _ hd1 hl (by omega) (by omega)).mono ?_
    rintro e w2 ⟨y, rfl, y0, y1, hd2, hg2⟩
    go_wp2_with fail
    go_ret
    exact ⟨_, rfl, hd2, grownTrans hg1 hg2⟩
  have f1 : (x == 1) = false := by simpa using h1
  by_cases h2 : x = 2
  · subst h2
    go_wp2_with fail
    refine (srcUpTo g A c xs 360000 _ hd1 hl (by omega) (by omega)).mono ?_
    rintro e w2 ⟨y, rfl, hd2, hg2⟩
    go_wp2_with fail
    go_ret
    exact ⟨_, rfl, hd2, grownTrans hg1 hg2⟩
  have f2 : (x == 2) = false := by simpa using h2
  clear h0 h1 h2
  go_wp2_with fail
  refine (srcBelowL g A c xs 9000 _ hd1 hl (by omega) (by omega)).mono ?_
  rintro e w2 ⟨y, rfl, y0, y1, hd2, hg2⟩
  go_wp2_with fail
  go_ret
  exact ⟨_, rfl, hd2, grownTrans hg1 hg2⟩
def DrawnS (w : World) (e : Ending) (w' : World) : Prop := ∃ s : ByteArray, e = .returned (.string s) ∧ s.size ≤ 100 ∧ Below w.heap.size w w'
theorem belowOfGrown {w w1 w2 : World} {g : Nat} (h1 : Below w.heap.size w w1) (hg : w1.grownBy w2 (some g)) (hgw : w.heap.size ≤ g) : Below w.heap.size w w2 :=
  h1.grown hg h1.size (fun b hb => by injection hb with hb; omega)
set_option maxHeartbeats 1000000 in
theorem drawS (A : Option Addr) (c : Nat) (xs : List Int) (w : World) (hx : BytesAt w A xs) (hl : xs.length ≤ 4096) :
    Calls Tryd.prog 11 #[.slice A xs.length c] w (DrawnS w) := by
  go_enter Tryd.func11, Tryd.ntmps11
  go_wp2_with fail
  refine (newSrc A c xs _ hx hl).mono ?_
  rintro e w1 ⟨rfl, hd1, hb1⟩
  go_wp2_with fail
  refine (srcOneIn w.heap.size A c xs 4 _ hd1 hl (by omega) (by omega)).mono ?_
  rintro e w2 ⟨b, rfl, hd2, hg2⟩
  have hB2 := belowOfGrown hb1 hg2 (Nat.le_refl _)
  have hgw := hd2.lt
  clear hb1 hg2 hd1
  cases b
  · go_wp2_with fail
    refine (srcTimeT w.heap.size A c xs _ hd2 hl).mono ?_
    rintro e w3 ⟨y, rfl, hd3, hg3⟩
    have hB3 := belowOfGrown hB2 hg3 (Nat.le_refl _)
    go_wp2_with fail
    refine (specFmt y _).mono ?_
    rintro e w4 ⟨rfl, hb4⟩
    have hB4 := belowStep hb4 hB3
    go_wp2_with fail
    go_ret
    exact ⟨_, rfl, fmtS_small y, hB4⟩
  · obtain ⟨w3, hw3⟩ : ∃ w3, w2.alloc (.cells #[.string ⟨#[]⟩, .string ⟨#[68, 78, 70]⟩, .string ⟨#[100, 110, 102]⟩, .string ⟨#[49, 46, 53]⟩, .string ⟨#[48, 49, 46, 53, 48]⟩, .string ⟨#[48, 58, 53, 57, 46, 57, 57]⟩, .string ⟨#[49, 58, 53, 46, 48, 48]⟩, .string ⟨#[49, 58, 54, 48, 46, 48, 48]⟩, .string ⟨#[54, 48, 46, 48, 48]⟩, .string ⟨#[51, 54, 48, 48, 46, 48, 48]⟩, .string ⟨#[54, 48, 58, 48, 48, 46, 48, 48]⟩, .string ⟨#[54, 48, 58, 48, 48, 46, 48, 49]⟩, .string ⟨#[45, 49, 46, 48, 48]⟩, .string ⟨#[49, 46, 50, 51, 52]⟩, .string ⟨#[49, 46, 48, 48, 32]⟩, .string ⟨#[48, 46, 48, 48]⟩] 9) = w3 := ⟨_, rfl⟩
    have hr3 : w3.heap[w2.heap.size]? = some (.cells (texts16.map Value.string).toArray 9 (0, 0)) := by rw [← hw3, heap_alloc_new]; rfl
    have hb3 : Below w2.heap.size w2 w3 := by rw [← hw3]; exact (by repeat (first | exact Below.refl _ _ | assumption | refine Below.setCell ?_ (by first | omega | (simp <;> omega)) _ | refine Below.alloc ?_ (by first | omega | (simp <;> omega)) _ | refine Below.drew ?_))
    have hd3 := hd2.below hb3
    have hB3 := belowStep hb3 hB2
    go_wp2_with fail
    clear hw3
    refine (srcBelow w.heap.size A c xs 16 _ hd3 hl (by omega) (by omega)).mono ?_
    rintro e w4 ⟨y, rfl, y0, y1, hd4, hg4⟩
    obtain ⟨m, rfl⟩ := Int.eq_ofNat_of_zero_le y0
    have hm : m < 16 := by omega
    have hr4 := (hg4.block w2.heap.size (Array.getElem?_eq_some_iff.1 hr3).1 (fun e => by injection e with e; omega)).trans hr3
    have hcc := pick_str (m := m) texts16 hr4 rfl hm
    have HS := Lib.hid (texts16_len m hm)
    obtain ⟨z, hz⟩ : ∃ z, texts16.getD m ⟨#[]⟩ = z := ⟨_, rfl⟩
    rw [hz] at hcc HS
    have hB4 := belowOfGrown hB3 hg4 (Nat.le_refl _)
    clear hz hr3 hr4
    go_wp2_with fail
    go_ret
    exact ⟨z, rfl, HS.out, hB4⟩
end Go.Proofs.YtggchbohmjfneaaDoor
