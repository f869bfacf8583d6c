/- The podium, at both packages. Conditions: as each contract says. -/
import Derived.Test.YtejacbgogcjbnaaPod
namespace Go.Proofs.Ytejacbgogcjbnaa
open Go.RowKit

theorem podium_no {es : List Ent} (h : comparable es = false) : podiumRes es = [] := by simp [podiumRes, h]
theorem podium_yes {es : List Ent} (h : comparable es = true) : podiumRes es = firstTo es (ranksBy lessEE es) 3 := by simp [podiumRes, h]
theorem podium_nil : firstTo [] (ranksBy lessEE []) 3 = [] := by decide
theorem implFirst3 (A : Option Addr) (c : Nat) (es : List Ent) (Ar : Option Addr) (cr : Nat) (rk : List Int) (w : World) (hx : EntsAt w A es) (hr : IntsAt w Ar rk) (he12 : es.length ≤ 12) (hrl : rk.length = es.length)
    (hs : Short es) (n : Nat) (hn : rk.length = n) :
    Calls Try.prog 23 #[.slice A es.length c, .slice Ar n cr, .int .i64 3] w (IntsPost (firstTo es rk 3) w) := by
  have h := implFirst A c es Ar cr rk 3 w hx hr he12 hrl (by omega) hs n hn
  rw [show ((3 : Nat) : Int) = 3 from rfl] at h
  exact h
def Sep (v : Value) (A : Option Addr) : Prop := ∀ h b off, v.ownBlock = some h → A = some ⟨b, off, none⟩ → h ≠ b
theorem IntsAt.sep {w w' : World} {A : Option Addr} {xs : List Int} {v : Value} (h : IntsAt w A xs) (hg : w.grownBy w' v.ownBlock) (hs : Sep v A) : IntsAt w' A xs := by
  intro k hk
  obtain ⟨b, off, e, hb, hc⟩ := h k hk
  exact ⟨b, off, e, Nat.lt_of_lt_of_le hb hg.size, (World.cell?_of_block (a := ⟨b, off + k, none⟩) (hg.block b hb (fun e2 => hs b b off e2.symm e rfl))).trans hc⟩
theorem append_one_at {w : World} {ops : Array Oper} {rest : List Oper} {o : Oper} {a : Act} {Q : Exit → Act → World → Prop} (hgd : o.guard = none) (s x : Operand)
    (hop : o.op = Op.call { callee := Callee.builtin Builtin.append, args := #[s, x], argTypes := #[29, 29] })
    (B : Nat) (v : Value) (xs : List Int) (n : Int) (hs : a.eval s = v) (hown : Fresh B w v xs) (g : Nat) (hx : a.eval x = .slice (some ⟨g, 0, none⟩) 1 1)
    (hcell : w.cell? ⟨g, 0, none⟩ = some (.int .i64 n)) (hl : xs.length ≤ 1048576) (hB : B ≤ w.heap.size)
    (h : ∀ v' w', Fresh B w' v' (xs ++ [n]) → w.grownBy w' v.ownBlock → Below B w w' → (v'.ownBlock = v.ownBlock ∨ v'.ownBlock = some w.heap.size) → wpList Try.prog ops Q rest (a.put o.dst v') w') : wpList Try.prog ops Q (o :: rest) a w := by
  obtain ⟨i0, hi, hz0, hz1, hz2⟩ := info_parts intInfo
  refine wpList_append_own_at _ hgd s x 29 hop B 2 i0 (.int .i64 0) 1 8 Try.underlying29 hi hz0 hz1 hz2 rfl (by decide) v xs.length (xs.map (Value.int .i64)) hs hown ⟨g, 0, none⟩ 1 1 [.int .i64 n] hx rfl ?_ ?_ ?_ ?_ hB ?_
  · intro j u hj
    match j, hj with
    | 0, hj => simp at hj; subst hj; simpa [Addr.add] using hcell
  · intro u hu; simp at hu; subst hu; rfl
  · unfold maxLen; omega
  · omega
  · intro v' w' hown' hgrow _ hat
    refine h v' w' ?_ hgrow ((Below.refl _ _).grown hgrow hB hown.block) hat
    simpa [Fresh] using hown'
end Go.Proofs.Ytejacbgogcjbnaa
