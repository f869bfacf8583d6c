/- A time read from its display form, at the program. Conditions: the string is no longer than the law allows. -/
import Derived.Test.YtggchbohmjfneaaDoorPf
import Derived.Shelf.Lays
namespace Go.Proofs.YtggchbohmjfneaaDoor
open Go.RowKit

theorem cloGives (x : Nat) (hx : x ≤ 1114111) (w : World) : Calls Tryd.prog 15 #[.int .i32 x] w fun e w' => e = .returned (.bool (sepP x)) ∧ ∃ q, w' = w.drewN q := by
  by_cases h1 : x = 58
  · subst h1
    go_enter Tryd.func15, Tryd.ntmps15
    go_wp2_with fail
    go_ret
    exact ⟨ret_bool rfl, 0, rfl⟩
  · have f1 : ((x : Int) == 58) = false := by simp; omega
    by_cases h2 : x = 46
    · subst h2
      go_enter Tryd.func15, Tryd.ntmps15
      go_wp2_with fail
      go_ret
      exact ⟨ret_bool rfl, 0, rfl⟩
    · have f2 : ((x : Int) == 46) = false := by simp; omega
      have HF : Hid (sepP x = false) := by unfold Hid sepP; rw [beq_eq_false_iff_ne.2 h1, beq_eq_false_iff_ne.2 h2]; rfl
      clear h1 h2
      go_enter Tryd.func15, Tryd.ntmps15
      go_wp2_with fail
      go_ret
      exact ⟨ret_bool HF.out.symm, 0, rfl⟩
theorem fieldsOf (s : ByteArray) (w : World) (hs : s.size ≤ 1048576) : Calls Tryd.prog 14 #[.string s, .func (.func 15) #[] #[]] w fun e w' => ∃ A, e = .returned (.slice (some ⟨A, 0, none⟩) (Lib.goFieldsP sepP s).length (Lib.goFieldsP sepP s).length) ∧ w.heap.size ≤ A ∧
      (∀ i, i < (Lib.goFieldsP sepP s).length → w'.cell? ⟨A, i, none⟩ = some (.string ((Lib.goFieldsP sepP s).getD i ⟨#[]⟩))) ∧ (Lib.goFieldsP sepP s).length ≤ 9223372036854775807 ∧ Below w.heap.size w w' := by
  refine (Tryd.strings_FieldsFunc_runes 15 #[] (enters_of Tryd.func15 (by kernel_rfl) rfl) sepP s w (by omega) ?_).mono ?_
  · intro W x hx _
    unfold FnGives
    exact cloGives x hx W
  · rintro e w' ⟨A, rfl, hA, hown, hb⟩
    refine ⟨A, rfl, hA, fun i hi => ?_, ?_, hb⟩
    rotate_left
    · rcases hown.2 with ⟨_, hn⟩ | ⟨g, cap, cur, _, _, _, h1, h2, _⟩
      · omega
      · unfold maxLen at h2
        omega
    rw [World.ownsRow.cellAt hown i (by omega), List.getElem?_map, List.getElem?_eq_getElem hi, List.getD_eq_getElem?_getD, List.getElem?_eq_getElem hi]
    rfl
end Go.Proofs.YtggchbohmjfneaaDoor
