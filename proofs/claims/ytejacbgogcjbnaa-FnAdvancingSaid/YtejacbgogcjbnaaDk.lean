/- An entry and rules drawn from a code; two lists compared by the law file. Conditions: as each contract says. -/
import Derived.Test.YtejacbgogcjbnaaDf
import Derived.Test.YtejacbgogcjbnaaDi
import Derived.Deep.RegionHeld3
import Derived.Deep.RegionWith
namespace Go.Proofs.Ytejacbgogcjbnaa
open Go.RowKit

def LikePost (b : Bool) (w : World) (e : Ending) (w' : World) : Prop := e = .returned (.bool b) ∧ ∃ n, w' = w.drewN n
set_option maxHeartbeats 1000000 in
theorem likeIts (A B : Option Addr) (c d : Nat) (xs ys : List Int) (w : World) (hx : IntsAt w A xs) (hy : IntsAt w B ys) (hl : xs.length ≤ 1048576) :
    Calls Try.prog 14 #[.slice A xs.length c, .slice B ys.length d] w (Quiet (.bool (sameB xs ys)) w) := by
  by_cases hlen : xs.length = ys.length
  · have hne : ((xs.length : Int) != (ys.length : Int)) = false := by simp [hlen]
    have HL := Lib.hid hlen
    clear hlen
    go_enter Try.func14, Try.ntmps14
    go_wp2_with fail
    go_loopw [5] (fun i wr => ∃ k n : Nat, k ≤ xs.length ∧ i = .int .i64 k ∧ EqAt xs ys k ∧ wr = w.drewN n) (fun i _ => xs.length - (intOf i).toNat)
    case atStart => exact ⟨0, 0, Nat.zero_le _, rfl, fun j hj => by omega, rfl⟩
    case round =>
      obtain ⟨k, n, hk, rfl, heq, rfl⟩ := hrel
      by_cases hlt : k < xs.length
      · have hlt2 : k < ys.length := by have := HL.out; omega
        obtain ⟨b, off, x, rfl, hb, hc, HX⟩ := hx.at_ hlt
        obtain ⟨b', off', y, rfl, hb', hc', HY⟩ := hy.at_ hlt2
        have p1 : (0 : Int) ≤ (k : Int) := by omega
        have p2 : (k : Int) < (xs.length : Int) := by omega
        have p3 : (k : Int) < (ys.length : Int) := by omega
        by_cases he : x = y
        · subst he
          go_wp2_with fail
          go_quiet (fail)
          go_wp2
          go_roundw
          case rel => exact ⟨k + 1, n + nq, by omega, by go_num, heq.more (HX.out.trans HY.out.symm), rfl⟩
          case measure => simp [intOf]; omega
        · have hb1 : (x != y) = true := by simpa using he
          have HE := Lib.hid he
          clear he
          go_wp2_with fail
          go_quiet (fail)
          go_wp2
          go_ret
          exact ⟨ret_bool (by rw [sameB_no (fun h => HE.out (by rw [← HX.out, ← HY.out, h]))]), n + nq, World.drewN_drewN _ _ _⟩
      · go_wp2
        go_ret
        exact ⟨ret_bool (by rw [sameB_yes (eq_of_getD HL.out (fun j hj => heq j (by omega)))]), n, rfl⟩
  · have hne : ((xs.length : Int) != (ys.length : Int)) = true := by simp; omega
    go_enter Try.func14, Try.ntmps14
    go_wp2_with fail
    go_ret
    exact ⟨ret_bool (by rw [sameB_no (fun h => hlen (by rw [h]))]), 0, rfl⟩
def DrawnNE (w : World) (e : Ending) (w' : World) : Prop := ∃ (r : RR) (k : Int) (v : Value) (ys : List Int), e = .returned (.tuple #[.agg #[.int .i64 r.att, .int .i64 r.lim, .int .i64 r.catt, .int .i64 r.cut, .int .i64 r.adv], .agg #[.int .i64 k, v]]) ∧ Fresh w.heap.size w' v ys ∧ ys.length ≤ 6 ∧ Below w.heap.size w w'
theorem rcells {w : World} {T : Nat} {r : RR} (h : RRow w T r) : w.cell? ⟨T, 0, none⟩ = some (.int .i64 r.att) ∧ w.cell? ⟨T, 1, none⟩ = some (.int .i64 r.lim) ∧ w.cell? ⟨T, 2, none⟩ = some (.int .i64 r.catt) ∧ w.cell? ⟨T, 3, none⟩ = some (.int .i64 r.cut) ∧ w.cell? ⟨T, 4, none⟩ = some (.int .i64 r.adv) :=
  ⟨cell_of_row _ _ 0 _ _ (0, 0) h, cell_of_row _ _ 1 _ _ (0, 0) h, cell_of_row _ _ 2 _ _ (0, 0) h, cell_of_row _ _ 3 _ _ (0, 0) h, cell_of_row _ _ 4 _ _ (0, 0) h⟩
def Set5 (w : World) (H : Nat) (r : RR) : World := ((((w.setCell ⟨H, 0, none⟩ (.int .i64 r.att)).setCell ⟨H, 1, none⟩ (.int .i64 r.lim)).setCell ⟨H, 2, none⟩ (.int .i64 r.catt)).setCell ⟨H, 3, none⟩ (.int .i64 r.cut)).setCell ⟨H, 4, none⟩ (.int .i64 r.adv)
theorem set5_row {w : World} {H : Nat} {q : RR} (h : RRow w H q) (r : RR) : RRow (Set5 w H r) H r := ((((h.s0 r.att).s1 r.lim).s2 r.catt).s3 r.cut).s4 r.adv
theorem set5_other {w : World} {H K : Nat} {o : Obj} (h : w.heap[K]? = some o) (hne : K ≠ H) (r : RR) : (Set5 w H r).heap[K]? = some o := by
  unfold Set5
  rw [heap_setCell_other _ _ _ _ hne, heap_setCell_other _ _ _ _ hne, heap_setCell_other _ _ _ _ hne, heap_setCell_other _ _ _ _ hne, heap_setCell_other _ _ _ _ hne]
  exact h
theorem set5_below {B : Nat} {a w : World} {H : Nat} (h : Below B a w) (hH : B ≤ H) (r : RR) : Below B a (Set5 w H r) :=
  ((((h.setCell (p := ⟨H, 0, none⟩) hH _).setCell (p := ⟨H, 1, none⟩) hH _).setCell (p := ⟨H, 2, none⟩) hH _).setCell (p := ⟨H, 3, none⟩) hH _).setCell (p := ⟨H, 4, none⟩) hH _
theorem set5_fresh {B : Nat} {w : World} {v : Value} {xs : List Int} {H : Nat} (h : Fresh B w v xs) (hH : H < B) (r : RR) : Fresh B (Set5 w H r) v xs :=
  ((((h.setCell (a := ⟨H, 0, none⟩) hH _).setCell (a := ⟨H, 1, none⟩) hH _).setCell (a := ⟨H, 2, none⟩) hH _).setCell (a := ⟨H, 3, none⟩) hH _).setCell (a := ⟨H, 4, none⟩) hH _
theorem ent2 {w : World} {E : Nat} {a b u v : Value} {t : TypeId} (h : w.heap[E]? = some (.cells #[a, b] t (0, 0))) : ((w.setCell ⟨E, 0, none⟩ u).setCell ⟨E, 1, none⟩ v).heap[E]? = some (.cells #[u, v] t (0, 0)) := by
  have h0 : (w.setCell ⟨E, 0, none⟩ u).heap[E]? = some (.cells #[u, b] t (0, 0)) := heap_setCell_same w E 0 _ _ u h
  exact heap_setCell_same _ E 1 _ _ v h0
structure NEst (w wN : World) (g T : Nat) (A : Option Addr) (c : Nat) (xs : List Int) (r : RR) : Prop where
  src : SrcAt wN g A c xs
  rT : RRow wN T r
  rH : RRow wN w.heap.size .zero
  rE : wN.heap[w.heap.size + 1]? = some (.cells #[.int .i64 0, .slice none 0 0] 32 (0, 0))
  below : Below w.heap.size w wN
  lt : w.heap.size + 1 < g
  ne : T ≠ g
theorem NEst.draw {w w1 w2 : World} {g T : Nat} {A : Option Addr} {c : Nat} {xs : List Int} {r : RR} (h : NEst w w1 g T A c xs r) (hd : SrcAt w2 g A c xs) (hg : w1.grownBy w2 (some g)) : NEst w w2 g T A c xs r :=
  ⟨hd, rowG hg h.rT h.ne, rowG hg h.rH (by have := h.lt; omega), rowG hg h.rE (by have := h.lt; omega), belowGrown h.below hg h.below.size (fun k hk => by injection hk with hk; have := h.lt; omega), h.lt, h.ne⟩
theorem NEst.cells {w wN : World} {g T : Nat} {A : Option Addr} {c : Nat} {xs : List Int} {r : RR} (h : NEst w wN g T A c xs r) :
    (wN.cell? ⟨w.heap.size, 0, none⟩ = some (.int .i64 0) ∧ wN.cell? ⟨w.heap.size, 1, none⟩ = some (.int .i64 0) ∧ wN.cell? ⟨w.heap.size, 2, none⟩ = some (.int .i64 0) ∧ wN.cell? ⟨w.heap.size, 3, none⟩ = some (.int .i64 0) ∧ wN.cell? ⟨w.heap.size, 4, none⟩ = some (.int .i64 0)) ∧
    (wN.frozen? ⟨w.heap.size, 0, none⟩ = false ∧ wN.frozen? ⟨w.heap.size, 1, none⟩ = false ∧ wN.frozen? ⟨w.heap.size, 2, none⟩ = false ∧ wN.frozen? ⟨w.heap.size, 3, none⟩ = false ∧ wN.frozen? ⟨w.heap.size, 4, none⟩ = false) ∧
    wN.cell? ⟨w.heap.size + 1, 0, none⟩ = some (.int .i64 0) ∧ wN.cell? ⟨w.heap.size + 1, 1, none⟩ = some (.slice none 0 0) ∧ wN.frozen? ⟨w.heap.size + 1, 0, none⟩ = false ∧ wN.frozen? ⟨w.heap.size + 1, 1, none⟩ = false :=
  ⟨rcells h.rH, ⟨row_free h.rH, row_free h.rH, row_free h.rH, row_free h.rH, row_free h.rH⟩, (row_cells2 h.rE).1, (row_cells2 h.rE).2.1, (row_cells2 h.rE).2.2.1, (row_cells2 h.rE).2.2.2⟩
set_option maxRecDepth 100000 in
set_option maxHeartbeats 8000000 in
theorem drawNE (A : Option Addr) (c : Nat) (xs : List Int) (w : World) (hx : BytesAt w A xs) (hl : xs.length ≤ 4096) : Calls Try.prog 12 #[.slice A xs.length c] w (DrawnNE w) := by
  obtain ⟨w0, hw0⟩ : ∃ w0, (w.alloc (.cells #[.int .i64 0, .int .i64 0, .int .i64 0, .int .i64 0, .int .i64 0] 25)).alloc (.cells #[.int .i64 0, .slice none 0 0] 32) = w0 := ⟨_, rfl⟩
  have rH0 : RRow w0 w.heap.size .zero := by rw [← hw0]; exact alloc2_0 w _ _
  have rE0 : w0.heap[w.heap.size + 1]? = some (.cells #[.int .i64 0, .slice none 0 0] 32 (0, 0)) := by rw [← hw0]; exact alloc2_1 w _ _
  have hB0 : Below w.heap.size w w0 := by rw [← hw0]; exact (by repeat (first | exact Below.refl _ _ | assumption | refine Below.setCell ?_ (by first | omega | (simp <;> omega)) _ | refine Below.alloc ?_ (by first | omega | (simp <;> omega)) _ | refine Below.drew ?_))
  have hz0 : w.heap.size + 1 < w0.heap.size := (Array.getElem?_eq_some_iff.1 rE0).1
  have hx0 := hx.below hB0
  go_enter Try.func12, Try.ntmps12
  go_wp2_with fail
  refine (newSrc A c xs _ hx0 hl).mono ?_
  rintro e w1 ⟨rfl, hd1, hb1⟩
  have rH1 : RRow w1 w.heap.size .zero := rowB hb1 rH0
  have rE1 := rowB hb1 rE0
  have hB1 := belowStep hb1 hB0
  have hz1 := hb1.size
  have hneH : w.heap.size ≠ w0.heap.size := by omega
  have hneE : w.heap.size + 1 ≠ w0.heap.size := by omega
  clear hb1 rH0 rE0 hB0 hw0
  go_wp2_with fail
  refine (srcRules w0.heap.size A c xs _ hd1 hl).mono ?_
  rintro e w2 ⟨r, rfl, hd2, hg2⟩
  have rH2 : RRow w2 w.heap.size .zero := rowG hg2 rH1 hneH
  have rE2 := rowG hg2 rE1 hneE
  have hB2 : Below w.heap.size w w2 := belowGrown hB1 hg2 hB1.size (fun k hk => by injection hk with hk; omega)
  have hz2 := hg2.size
  obtain ⟨w3, hw3⟩ : ∃ w3, w2.alloc (.cells #[.int .i64 r.att, .int .i64 r.lim, .int .i64 r.catt, .int .i64 r.cut, .int .i64 r.adv] 25) = w3 := ⟨_, rfl⟩
  have rT3 : RRow w3 w2.heap.size r := by rw [← hw3]; exact heap_alloc_new w2 _
  have hb3 : Below w2.heap.size w2 w3 := by rw [← hw3]; exact (by repeat (first | exact Below.refl _ _ | assumption | refine Below.setCell ?_ (by first | omega | (simp <;> omega)) _ | refine Below.alloc ?_ (by first | omega | (simp <;> omega)) _ | refine Below.drew ?_))
  have rH3 : RRow w3 w.heap.size .zero := rowB hb3 rH2
  have rE3 := rowB hb3 rE2
  have hB3 := belowStep hb3 hB2
  have hd3 := hd2.below hb3
  have hz3 := hb3.size
  have hlt0 : w0.heap.size < w2.heap.size := hd2.lt
  have hneT : w2.heap.size ≠ w0.heap.size := by omega
  clear hd1 hg2 rH1 rE1 hB1 rH2 rE2 hB2 hb3 hd2
  go_wp2_with fail
  clear hw3
  obtain ⟨k0, k1, k2, k3, k4⟩ := rcells rT3
  have S3 : NEst w w3 w0.heap.size w2.heap.size A c xs r := ⟨hd3, rT3, rH3, rE3, hB3, hz0, hneT⟩
  have hz23 : w.heap.size + 1 + 1 ≤ w3.heap.size := by omega
  have hTH : w2.heap.size ≠ w.heap.size := by omega
  have hTE : w2.heap.size ≠ w.heap.size + 1 := by omega
  clear rT3 rH3 rE3 hd3 hB3 hneH hneE hx hx0
  go_region_with
    (first
      | (go_at_call 33; refine (srcBelow w0.heap.size A c xs 9 _ (by exact S3.src.below (by repeat (first | exact Below.refl _ _ | assumption | refine Below.setCell ?_ (by first | omega | (simp <;> omega)) _ | refine Below.alloc ?_ (by first | omega | (simp <;> omega)) _ | refine Below.drew ?_))) hl (by omega) (by omega)).mono ?_; rintro e w4 ⟨y, rfl, y0, y1, hd4, hg4⟩; have S4 := S3.draw hd4 (unD hg4); clear hd4 hg4 S3; obtain ⟨k0, k1, k2, k3, k4⟩ := rcells S4.rT)
      | (go_at_call 34; refine (srcCount w0.heap.size A c xs _ S4.src hl).mono ?_; rintro e w5 ⟨n, rfl, hn, hd5, hg5⟩; have S5 := S4.draw hd5 hg5; clear hd5 hg5; obtain ⟨k0, k1, k2, k3, k4⟩ := rcells S5.rT)
      | (go_at_call 32; refine (srcEntry w0.heap.size A c xs y n _ S5.src hl (by omega)).mono ?_; rintro e w6 ⟨key, v6, ys, rfl, hF6, hyl, hd6, hg6⟩; have S6 := S5.draw hd6 hg6; clear hd6 hg6; obtain ⟨k0, k1, k2, k3, k4⟩ := rcells S6.rT; obtain ⟨A6, c6, rfl, -, -⟩ := hF6.ints; obtain ⟨⟨j0, j1, j2, j3, j4⟩, ⟨f0, f1, f2, f3, f4⟩, e0, e1, g0, g1⟩ := S6.cells))
  all_goals
    have hz5 : w.heap.size + 1 + 1 ≤ w5.heap.size := by have := S5.src.lt; omega
    have hFF := hF6.mono hz5
    have HH := rcells (rowS (a := ⟨w.heap.size + 1, 1, none⟩) (v := .slice A6 ys.length c6) (rowS (a := ⟨w.heap.size + 1, 0, none⟩) (v := .int .i64 key) (set5_row S6.rH r) (show w.heap.size ≠ w.heap.size + 1 by omega)) (show w.heap.size ≠ w.heap.size + 1 by omega))
    have HE := row_cells2 (ent2 (u := .int .i64 key) (v := .slice A6 ys.length c6) (set5_other S6.rE (show w.heap.size + 1 ≠ w.heap.size by omega) r))
    have HBB := ((set5_below S6.below (Nat.le_refl _) r).setCell (p := ⟨w.heap.size + 1, 0, none⟩) (show w.heap.size ≤ w.heap.size + 1 by omega) (.int .i64 key)).setCell (p := ⟨w.heap.size + 1, 1, none⟩) (show w.heap.size ≤ w.heap.size + 1 by omega) (.slice A6 ys.length c6)
    have HFF := (((set5_fresh hFF (show w.heap.size < w.heap.size + 1 + 1 by omega) r).setCell (a := ⟨w.heap.size + 1, 0, none⟩) (show w.heap.size + 1 < w.heap.size + 1 + 1 by omega) (.int .i64 key)).setCell (a := ⟨w.heap.size + 1, 1, none⟩) (show w.heap.size + 1 < w.heap.size + 1 + 1 by omega) (.slice A6 ys.length c6)).mono (show w.heap.size ≤ w.heap.size + 1 + 1 by omega)
    unfold Set5 at HH HE HBB HFF
    obtain ⟨q0, q1, q2, q3, q4⟩ := HH
    obtain ⟨q5, q6, -, -⟩ := HE
    go_wp2_with fail
    exact bodyPost_ret (v := .tuple #[.agg #[.int .i64 r.att, .int .i64 r.lim, .int .i64 r.catt, .int .i64 r.cut, .int .i64 r.adv], .agg #[.int .i64 key, .slice A6 ys.length c6]]) (by simp only [results, Try.results12]; simp [go_sem, q0, q1, q2, q3, q4, q5, q6]) rfl ⟨r, key, _, ys, rfl, HFF, by omega, HBB⟩
end Go.Proofs.Ytejacbgogcjbnaa
