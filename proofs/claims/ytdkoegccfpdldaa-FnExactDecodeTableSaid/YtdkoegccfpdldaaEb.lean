/- A builder that holds the bytes of a list of numbers. Conditions: as each contract says. -/
import Derived.Test.YtdkoegccfpdldaaBu
import Derived.Test.YtdkoegccfpdldaaEl
namespace Go.Proofs.Ytdkoegccfpdldaa
open Go.RowKit

def BuN (B b : Nat) (X : List Int) (w : World) : Prop := Lib.IsBuilder 49 5 B b (Lib.byteCells (strOfNums X).data.toList) w
def BuF (B b : Nat) (X : List Int) (w : World) : Prop := Lib.IsBuilderF 49 5 B b (Lib.byteCells (strOfNums X).data.toList) w
theorem BuN.fresh (w : World) : BuN w.heap.size w.heap.size [] (w.alloc (.cells #[.pointer none, .slice none 0 0] 49)) := Lib.fresh_isBuilder 49 5 w
theorem ownsBelow {B n : Nat} {e : TypeId} {w w' : World} {v : Value} {xs : List Value} (h : w.ownsRow B e 1 v n xs) (hb : Below w.heap.size w w') : w'.ownsRow B e 1 v n xs := by
  refine ⟨h.1, ?_⟩
  rcases h.2 with hn | ⟨g, cap, cur, rfl, hbg, hgg, rest⟩
  · exact .inl hn
  · exact .inr ⟨g, cap, cur, rfl, hbg, by rw [hb.block g (Array.getElem?_eq_some_iff.1 hgg).1]; exact hgg, rest⟩
theorem BuN.below {B b : Nat} {X : List Int} {w w' : World} (h : BuN B b X w) (hb : Below w.heap.size w w') : BuN B b X w' := by
  rcases h with ⟨hB, v, h1, hown, hne⟩ | ⟨hB, v, h1, hown, hne⟩
  · exact .inl ⟨hB, v, rowB hb h1, ownsBelow hown hb, hne⟩
  · exact .inr ⟨hB, v, rowB hb h1, ownsBelow hown hb, hne⟩
theorem BuN.drew {B b : Nat} {X : List Int} {w : World} (h : BuN B b X w) : BuN B b X w.drew := h
theorem BuN.f {B b : Nat} {X : List Int} {w : World} (h : BuN B b X w) : BuF B b X w := Lib.IsBuilderF.of h
theorem buWriteN (B b : Nat) (X Y : List Int) (w : World) (h : BuN B b X w) (hlen : X.length + Y.length ≤ 4194304) (hBw : B ≤ w.heap.size) :
    Calls Try.prog 25 #[.pointer (some ⟨b, 0, none⟩), .string (strOfNums Y)] w fun e w' => e = .returned (.tuple #[.int .i64 (strOfNums Y).size, .nilIface]) ∧ BuN B b (X ++ Y) w' ∧ Below B w w' := by
  refine (buWrite B b _ (strOfNums Y) w h (by rw [Lib.byteCells_length, strOfNums_size]; simp [strOfNums]; omega) hBw).mono ?_
  rintro e w' ⟨rfl, h1, h2⟩
  refine ⟨rfl, ?_, h2⟩
  unfold BuN
  rw [Lib.strCells_eq, ← Lib.byteCells_append] at h1
  rwa [← strOfNums_add, show (strOfNums X ++ strOfNums Y).data.toList = (strOfNums X).data.toList ++ (strOfNums Y).data.toList from by simp]
theorem buStrF (B b : Nat) (X : List Int) (w : World) (h : BuF B b X w) (hBw : B ≤ w.heap.size) :
    Calls Try.prog 31 #[.pointer (some ⟨b, 0, none⟩)] w fun e w' => e = .returned (.string (strOfNums X)) ∧ BuF B b X w' ∧ Below B w w' := Try.Builder_String_any_f B b (strOfNums X).data.toList w h hBw
end Go.Proofs.Ytdkoegccfpdldaa
