/- One entry marked and held. Conditions: as each contract says. -/
import Derived.Test.YtejacbgogcjbnaaNe
namespace Go.Proofs.Ytejacbgogcjbnaa
open Go.RowKit

theorem kept7 {B H : Nat} {K1 A1 : Value} {w w' : World} {r : RR} (hb : Below B w w') (hH : H + 1 < B) (h0 : w.cell? ⟨H, 0, none⟩ = some (.int .i64 r.att)) (h1 : w.cell? ⟨H, 1, none⟩ = some (.int .i64 r.lim)) (h2 : w.cell? ⟨H, 2, none⟩ = some (.int .i64 r.catt)) (h3 : w.cell? ⟨H, 3, none⟩ = some (.int .i64 r.cut)) (h4 : w.cell? ⟨H, 4, none⟩ = some (.int .i64 r.adv)) (h5 : w.cell? ⟨H + 1, 0, none⟩ = some K1) (h6 : w.cell? ⟨H + 1, 1, none⟩ = some A1) :
    w'.cell? ⟨H, 0, none⟩ = some (.int .i64 r.att) ∧ w'.cell? ⟨H, 1, none⟩ = some (.int .i64 r.lim) ∧ w'.cell? ⟨H, 2, none⟩ = some (.int .i64 r.catt) ∧ w'.cell? ⟨H, 3, none⟩ = some (.int .i64 r.cut) ∧ w'.cell? ⟨H, 4, none⟩ = some (.int .i64 r.adv) ∧ w'.cell? ⟨H + 1, 0, none⟩ = some K1 ∧ w'.cell? ⟨H + 1, 1, none⟩ = some A1 :=
  ⟨(hb.cell (p := ⟨H, 0, none⟩) (show H < B by omega)).trans h0, (hb.cell (p := ⟨H, 1, none⟩) (show H < B by omega)).trans h1, (hb.cell (p := ⟨H, 2, none⟩) (show H < B by omega)).trans h2, (hb.cell (p := ⟨H, 3, none⟩) (show H < B by omega)).trans h3, (hb.cell (p := ⟨H, 4, none⟩) (show H < B by omega)).trans h4, (hb.cell (p := ⟨H + 1, 0, none⟩) hH).trans h5, (hb.cell (p := ⟨H + 1, 1, none⟩) hH).trans h6⟩
def Bx (w : World) (g : Nat) (k : Int) (v : Value) : Prop := g < w.heap.size ∧ w.cell? ⟨g, 0, none⟩ = some (.int .i64 k) ∧ w.cell? ⟨g, 1, none⟩ = some v
theorem Bx.below {w w' : World} {g : Nat} {k : Int} {v : Value} (h : Bx w g k v) (hb : Below w.heap.size w w') : Bx w' g k v :=
  ⟨Nat.lt_of_lt_of_le h.1 hb.size, (hb.cell (p := ⟨g, 0, none⟩) h.1).trans h.2.1, (hb.cell (p := ⟨g, 1, none⟩) h.1).trans h.2.2⟩
theorem Bx.grown {w w' : World} {g : Nat} {k : Int} {v : Value} {row : Option Nat} (h : Bx w g k v) (hg : w.grownBy w' row) (hne : ∀ q, row = some q → q ≠ g) : Bx w' g k v :=
  ⟨Nat.lt_of_lt_of_le h.1 hg.size, (World.cell?_of_block (a := ⟨g, 0, none⟩) (hg.block g h.1 (fun e => hne g e.symm rfl))).trans h.2.1, (World.cell?_of_block (a := ⟨g, 1, none⟩) (hg.block g h.1 (fun e => hne g e.symm rfl))).trans h.2.2⟩
def RX (w : World) (H : Nat) (r : RR) : Prop := H < w.heap.size ∧ BoxRR w H r
theorem RX.below {w w' : World} {H : Nat} {r : RR} (h : RX w H r) (hb : Below w.heap.size w w') : RX w' H r := by
  obtain ⟨hH, h0, h1, h2, h3, h4⟩ := h
  exact ⟨Nat.lt_of_lt_of_le hH hb.size, (hb.cell (p := ⟨H, 0, none⟩) hH).trans h0, (hb.cell (p := ⟨H, 1, none⟩) hH).trans h1, (hb.cell (p := ⟨H, 2, none⟩) hH).trans h2, (hb.cell (p := ⟨H, 3, none⟩) hH).trans h3, (hb.cell (p := ⟨H, 4, none⟩) hH).trans h4⟩
theorem RX.grown {w w' : World} {H : Nat} {r : RR} {row : Option Nat} (h : RX w H r) (hg : w.grownBy w' row) (hne : ∀ q, row = some q → q ≠ H) : RX w' H r := by
  obtain ⟨hH, h0, h1, h2, h3, h4⟩ := h
  have hk := fun p => World.cell?_of_block (a := ⟨H, p, none⟩) (hg.block H hH (fun e => hne H e.symm rfl))
  exact ⟨Nat.lt_of_lt_of_le hH hg.size, (hk 0).trans h0, (hk 1).trans h1, (hk 2).trans h2, (hk 3).trans h3, (hk 4).trans h4⟩
theorem keptG {B H G : Nat} {K1 A1 : Value} {w w' : World} {r : RR} (hb : Below B w w') (hH : H < B) (hG : G < B) (h0 : w.cell? ⟨H, 0, none⟩ = some (.int .i64 r.att)) (h1 : w.cell? ⟨H, 1, none⟩ = some (.int .i64 r.lim)) (h2 : w.cell? ⟨H, 2, none⟩ = some (.int .i64 r.catt)) (h3 : w.cell? ⟨H, 3, none⟩ = some (.int .i64 r.cut)) (h4 : w.cell? ⟨H, 4, none⟩ = some (.int .i64 r.adv)) (h5 : w.cell? ⟨G, 0, none⟩ = some K1) (h6 : w.cell? ⟨G, 1, none⟩ = some A1) :
    w'.cell? ⟨H, 0, none⟩ = some (.int .i64 r.att) ∧ w'.cell? ⟨H, 1, none⟩ = some (.int .i64 r.lim) ∧ w'.cell? ⟨H, 2, none⟩ = some (.int .i64 r.catt) ∧ w'.cell? ⟨H, 3, none⟩ = some (.int .i64 r.cut) ∧ w'.cell? ⟨H, 4, none⟩ = some (.int .i64 r.adv) ∧ w'.cell? ⟨G, 0, none⟩ = some K1 ∧ w'.cell? ⟨G, 1, none⟩ = some A1 :=
  ⟨(hb.cell (p := ⟨H, 0, none⟩) hH).trans h0, (hb.cell (p := ⟨H, 1, none⟩) hH).trans h1, (hb.cell (p := ⟨H, 2, none⟩) hH).trans h2, (hb.cell (p := ⟨H, 3, none⟩) hH).trans h3, (hb.cell (p := ⟨H, 4, none⟩) hH).trans h4, (hb.cell (p := ⟨G, 0, none⟩) hG).trans h5, (hb.cell (p := ⟨G, 1, none⟩) hG).trans h6⟩
end Go.Proofs.Ytejacbgogcjbnaa
