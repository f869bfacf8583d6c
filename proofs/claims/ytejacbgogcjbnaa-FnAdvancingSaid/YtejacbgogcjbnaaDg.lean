/- Lists of entries drawn from a source. Conditions: as each contract says. -/
import Derived.Test.YtejacbgogcjbnaaDe
import Derived.Deep.LoopGhost
namespace Go.Proofs.Ytejacbgogcjbnaa
open Go.RowKit

theorem Fresh.unlike {B : Nat} {w w' : World} {v : Value} {xs : List Int} {T : Nat} {cs : Array Value} {t : TypeId} {z : Nat × Nat} (h : Fresh B w v xs) (hr : w.heap[T]? = some (.cells cs t z)) (ht : t ≠ 2) (hg : w.grownBy w' v.ownBlock) : w'.heap[T]? = some (.cells cs t z) :=
  (hg.block T (Array.getElem?_eq_some_iff.1 hr).1 (fun e => h.notRow hr ht T e.symm rfl)).trans hr
theorem wp_append_at {w : World} {o : Oper} {a : Act} {K : Act → World → Prop} {Q : Exit → Act → World → Prop} (s x : Operand)
    (hop : o.op = Op.call { callee := Callee.builtin Builtin.append, args := #[s, x], argTypes := #[29, 29] })
    (B : Nat) (v : Value) (xs : List Int) (n : Int) (hs : a.eval s = v) (hown : Fresh B w v xs) (g : Nat) (hx : a.eval x = .slice (some ⟨g, 0, none⟩) 1 1)
    (hcell : w.cell? ⟨g, 0, none⟩ = some (.int .i64 n)) (hl : xs.length ≤ 1048576) (hB : B ≤ w.heap.size)
    (h : ∀ A' c' w', Fresh B w' (.slice A' (xs.length + 1) c') (xs ++ [n]) → w.grownBy w' v.ownBlock → Below B w w' → K (a.put o.dst (.slice A' (xs.length + 1) c')) w') : o.wp Try.prog a w K Q := by
  refine wp_append_one s x hop B v xs n hs hown g hx hcell hl hB fun v' w' hF hg hb => ?_
  obtain ⟨A', c', rfl, -, -⟩ := hF.ints
  have e : (xs ++ [n]).length = xs.length + 1 := by simp
  rw [e] at hF ⊢
  exact h A' c' w' hF hg hb
theorem step_append_at {w : World} {ops : Array Oper} {o : Oper} {a : Act} {K : Act → World → Prop} {Q : Exit → Act → World → Prop} {E : Prop} (hgd : o.guard = none) (s x : Operand)
    (hop : o.op = Op.call { callee := Callee.builtin Builtin.append, args := #[s, x], argTypes := #[29, 29] })
    (B : Nat) (v : Value) (xs : List Int) (n : Int) (hs : a.eval s = v) (hown : Fresh B w v xs) (g : Nat) (hx : a.eval x = .slice (some ⟨g, 0, none⟩) 1 1)
    (hcell : w.cell? ⟨g, 0, none⟩ = some (.int .i64 n)) (hl : xs.length ≤ 1048576) (hB : B ≤ w.heap.size)
    (h : ∀ A' c' w', Fresh B w' (.slice A' (xs.length + 1) c') (xs ++ [n]) → w.grownBy w' v.ownBlock → Below B w w' → K (a.put o.dst (.slice A' (xs.length + 1) c')) w') :
    if Region.wanted o (yielded ops a.tmps) = true then Oper.wp Try.prog o a w K Q else E := by
  have hw : Region.wanted o (yielded ops a.tmps) = true := by simp [Region.wanted, hgd]
  rw [if_pos hw]
  exact wp_append_at s x hop B v xs n hs hown g hx hcell hl hB h
theorem srcCopy (A : Option Addr) (c : Nat) (xs : List Int) (w : World) (hx : IntsAt w A xs) (hl : xs.length ≤ 1048576) :
    Calls Try.prog 53 #[.slice A xs.length c] w (IntsPost xs w) := by
  have hE : Fresh w.heap.size (w.alloc (.cells #[] 2)) (.slice (some ⟨w.heap.size, 0, none⟩) 0 0) [] := Fresh.empty (Nat.le_refl _)
  go_enter Try.func53, Try.ntmps53
  go_wp2_with (first | (at_builtin; refine append_ints rfl _ _ rfl w.heap.size _ [] xs rfl hE A xs.length c rfl rfl (by exact hx.below (by repeat (first | exact Below.refl _ _ | assumption | refine Below.setCell ?_ (by first | omega | (simp <;> omega)) _ | refine Below.alloc ?_ (by first | omega | (simp <;> omega)) _ | refine Below.drew ?_))) (by simpa using hl) (by simp) ?_; intro v1 w1 hF1 hg1 hb1))
  go_ret
  exact ⟨_, rfl, hF1, ((Below.refl _ _).alloc (Nat.le_refl _) _).trans hb1⟩
/-- A list of entries drawn. -/
def DrawnEnts (g : Nat) (A : Option Addr) (c : Nat) (xs : List Int) (w : World) (e : Ending) (w' : World) : Prop :=
  ∃ v es, e = .returned v ∧ EntsB w.heap.size w' v es ∧ Tiny es ∧ es.length ≤ 40 ∧ SrcAt w' g A c xs ∧ w.grownBy w' (some g)
/-- One entry in the making: block T, its results so far. -/
structure Making (w : World) (T : Nat) (k : Int) (v : Value) (B : Nat) (ys : List Int) : Prop where
  row : w.heap[T]? = some (.cells #[.int .i64 k, v] 32 (0, 0))
  own : Fresh B w v ys
theorem Making.lt {w : World} {T : Nat} {k : Int} {v : Value} {B : Nat} {ys : List Int} (h : Making w T k v B ys) : T < w.heap.size := (Array.getElem?_eq_some_iff.1 h.row).1
theorem Making.grown {w w' : World} {T g : Nat} {k : Int} {v : Value} {B : Nat} {ys : List Int} (h : Making w T k v B ys) (hg : w.grownBy w' (some g)) (hT : T ≠ g) (hB : g < B) : Making w' T k v B ys :=
  ⟨rowG hg h.row hT, h.own.grownNew hg (fun q hq => by injection hq with hq; omega)⟩
theorem Making.below {w w' : World} {T : Nat} {k : Int} {v : Value} {B : Nat} {ys : List Int} (h : Making w T k v B ys) (hb : Below w.heap.size w w') : Making w' T k v B ys := ⟨rowB hb h.row, h.own.below hb⟩
theorem Making.store {w : World} {T : Nat} {k : Int} {v v' : Value} {B B' : Nat} {zs : List Int} (h : w.heap[T]? = some (.cells #[.int .i64 k, v] 32 (0, 0))) (hF : Fresh B' w v' zs) (hB : B ≤ B') : Making (w.setCell ⟨T, 1, none⟩ v') T k v' B zs :=
  ⟨row_set h, (hF.keep1 (grownSet w ⟨T, 1, none⟩ v') (fun q hq e => hF.notRow h (by decide) q hq (by injection e with e; exact e.symm))).mono hB⟩
end Go.Proofs.Ytejacbgogcjbnaa
