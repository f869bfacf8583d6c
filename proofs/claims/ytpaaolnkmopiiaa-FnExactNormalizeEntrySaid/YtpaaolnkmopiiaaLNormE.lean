/- FnExactNormalizeEntry: for all arguments, both packages give one answer, in memory of its own, and the arguments stay as they were. No conditions. -/
import Derived.Test.YtpaaolnkmopiiaaNk
import Derived.Test.YtpaaolnkmopiiaaOpenS
import Derived.Deep.RegionHeld3
import Derived.Deep.CutRange
namespace Go.Proofs.Ytpaaolnkmopiiaa.lawNormE
open Go.RowKit Go.ChangeShapes Go.WideShapes Go.ChangeAt
def BoxAt (B g : Nat) (W : World) (k : Int) (v : Value) : Prop := B ≤ g ∧ g < W.heap.size ∧ W.cell? ⟨g, 0, none⟩ = some (.int .i64 k) ∧ W.cell? ⟨g, 1, none⟩ = some v
theorem normXs_len (r : RR) (k : Int) (xs : List Int) : (normXs r k xs).length ≤ xs.length := by
  unfold normXs normL
  split
  · rw [List.length_map, List.length_take]; exact Nat.min_le_right _ _
  · simp
theorem keep4 {B H G : Nat} {K1 A1 K2 A2 : Value} {w w' : World} (hb : Below B w w') (hH : H < B) (hG : G < B) (h0 : w.cell? ⟨H, 0, none⟩ = some K1) (h1 : w.cell? ⟨H, 1, none⟩ = some A1) (h5 : w.cell? ⟨G, 0, none⟩ = some K2) (h6 : w.cell? ⟨G, 1, none⟩ = some A2) :
    w'.cell? ⟨H, 0, none⟩ = some K1 ∧ w'.cell? ⟨H, 1, none⟩ = some A1 ∧ w'.cell? ⟨G, 0, none⟩ = some K2 ∧ w'.cell? ⟨G, 1, none⟩ = some A2 :=
  ⟨(hb.cell (p := ⟨H, 0, none⟩) hH).trans h0, (hb.cell (p := ⟨H, 1, none⟩) hH).trans h1, (hb.cell (p := ⟨G, 0, none⟩) hG).trans h5, (hb.cell (p := ⟨G, 1, none⟩) hG).trans h6⟩
def OutAt (w1 wx : World) (g : Nat) (k : Int) (xs : List Int) (A : Option Addr) (n c : Nat) : Prop := BoxAt w1.heap.size g wx k (.slice A n c) ∧ Fresh w1.heap.size wx (.slice A n c) xs ∧ (∀ q, (Value.slice A n c).ownBlock = some q → q ≠ g) ∧ Below w1.heap.size w1 wx
theorem outAt_alloc {w1 w4 : World} {B n c : Nat} {A : Option Addr} {k : Int} {xs : List Int} (hq : Below w1.heap.size w1 w4) (hF : Fresh B w4 (.slice A n c) xs) (hB : w1.heap.size ≤ B) :
    OutAt w1 (w4.alloc (.cells #[.int .i64 k, .slice A n c] 44)) w4.heap.size k xs A n c := by
  refine ⟨⟨hq.size, by simp, by simp, by simp⟩, (hF.mono hB).al _, fun q h1 h2 => ?_, hq.alloc hq.size _⟩
  have := hF.under q h1
  omega
theorem outAt_set {w1 w4 : World} {B g n c : Nat} {A : Option Addr} {k : Int} {xs : List Int} (hq : Below w1.heap.size w1 w4) (hF : Fresh B w4 (.slice A n c) xs) (hB : w1.heap.size ≤ B) (hg : w1.heap.size ≤ g) (hgB : g < B) (hk : w4.heap[g]? = some (.cells #[.int .i64 0, .slice none 0 0] 44 (0, 0))) :
    OutAt w1 ((w4.setCell ⟨g, 0, none⟩ (.int .i64 k)).setCell ⟨g, 1, none⟩ (.slice A n c)) g k xs A n c := by
  have hl : g < w4.heap.size := (Array.getElem?_eq_some_iff.1 hk).1
  have h0 : (w4.setCell ⟨g, 0, none⟩ (.int .i64 k)).heap[g]? = some (.cells #[.int .i64 k, .slice none 0 0] 44 (0, 0)) := by
    simp [World.setCell, Array.getElem?_modify, hk]
  have h1 := row_set (V := .slice A n c) h0
  have hzz : ((w4.setCell ⟨g, 0, none⟩ (.int .i64 k)).setCell ⟨g, 1, none⟩ (.slice A n c)).heap.size = w4.heap.size := by simp [World.setCell]
  refine ⟨⟨hg, by rw [hzz]; exact hl, cell_of_row _ _ 0 _ _ (0, 0) h1, cell_of_row _ _ 1 _ _ (0, 0) h1⟩, ((hF.setCell (a := ⟨g, 0, none⟩) hgB _).setCell (a := ⟨g, 1, none⟩) hgB _).mono hB, fun q h2 h3 => ?_, (hq.setCell (p := ⟨g, 0, none⟩) hg _).setCell (p := ⟨g, 1, none⟩) hg _⟩
  have := hF.block q h2
  omega
set_option maxRecDepth 100000 in
set_option maxHeartbeats 4000000 in
theorem walk (r : RR) (k1 : Int) (A1 : Option Addr) (c1 : Nat) (xs1 : List Int) (w : World) (hx : IntsAt w A1 xs1) (hm : xs1.length ≤ maxLen) :
    Calls Try.prog 6 #[.agg #[.int .i64 r.att, .int .i64 r.lim, .int .i64 r.catt, .int .i64 r.cut, .int .i64 r.adv], .agg #[.int .i64 k1, .slice A1 xs1.length c1]] w fun e w' => e = .returned (.bool true) ∧ Below w.heap.size w w' := by
  unfold maxLen at hm
  have hB0 : Below w.heap.size w ((w.alloc (.cells #[.int .i64 r.att, .int .i64 r.lim, .int .i64 r.catt, .int .i64 r.cut, .int .i64 r.adv] 23)).alloc (.cells #[.int .i64 k1, .slice A1 xs1.length c1] 48)) := (by repeat (first | exact Below.refl _ _ | assumption | refine Below.setCell ?_ (by first | omega | (simp <;> omega)) _ | refine Below.alloc ?_ (by first | omega | (simp <;> omega)) _ | refine Below.drew ?_))
  have hX0 : BoxRR ((w.alloc (.cells #[.int .i64 r.att, .int .i64 r.lim, .int .i64 r.catt, .int .i64 r.cut, .int .i64 r.adv] 23)).alloc (.cells #[.int .i64 k1, .slice A1 xs1.length c1] 48)) w.heap.size r := (BoxRR.new w r 23).below (by repeat (first | exact Below.refl _ _ | assumption | refine Below.setCell ?_ (by first | omega | (simp <;> omega)) _ | refine Below.alloc ?_ (by first | omega | (simp <;> omega)) _ | refine Below.drew ?_))
  have g0 : ((w.alloc (.cells #[.int .i64 r.att, .int .i64 r.lim, .int .i64 r.catt, .int .i64 r.cut, .int .i64 r.adv] 23)).alloc (.cells #[.int .i64 k1, .slice A1 xs1.length c1] 48)).cell? ⟨w.heap.size + 1, 0, none⟩ = some (.int .i64 k1) := by simp
  have g1 : ((w.alloc (.cells #[.int .i64 r.att, .int .i64 r.lim, .int .i64 r.catt, .int .i64 r.cut, .int .i64 r.adv] 23)).alloc (.cells #[.int .i64 k1, .slice A1 xs1.length c1] 48)).cell? ⟨w.heap.size + 1, 1, none⟩ = some (.slice A1 xs1.length c1) := by simp
  have hz0 : ((w.alloc (.cells #[.int .i64 r.att, .int .i64 r.lim, .int .i64 r.catt, .int .i64 r.cut, .int .i64 r.adv] 23)).alloc (.cells #[.int .i64 k1, .slice A1 xs1.length c1] 48)).heap.size = w.heap.size + 1 + 1 := by simp
  have HX := Lib.hid hX0
  have HG0 := Lib.hid g0
  have HG1 := Lib.hid g1
  have HZ := Lib.hid hz0
  have HB := Lib.hid hB0
  clear hX0 g0 g1 hz0 hB0
  by_cases hl : xs1.length ≤ 1048576
  · have hsz := szLeft_yes hl
    go_enter Try.func6, Try.ntmps6
    go_wp2_with fail
    refine (szEnt k1 A1 c1 xs1 _ _ hm (by omega) (by omega)).mono ?_
    rintro e w1 ⟨rfl, hb1⟩
    have hz1 : w.heap.size + 1 < w1.heap.size := by have := hb1.size; have := HZ.out; omega
    have hz1a : w.heap.size < w1.heap.size := Nat.lt_of_succ_lt hz1
    obtain ⟨b0, b1, b2, b3, b4⟩ := HX.out.below hb1
    have g0 := (hb1.cell (p := ⟨w.heap.size + 1, 0, none⟩) (show w.heap.size + 1 < _ by have := HZ.out; omega)).trans HG0.out
    have g1 := (hb1.cell (p := ⟨w.heap.size + 1, 1, none⟩) (show w.heap.size + 1 < _ by have := HZ.out; omega)).trans HG1.out
    have hB1 := belowStep hb1 HB.out
    clear HX HG0 HG1 HZ HB hb1
    have hx1 := hx.below hB1
    go_upto_region 5 with fail
    go_cut [6, 7] from 21 to 28 (fun p b wx => ∃ (g : Nat) (A : Option Addr) (n c : Nat), p = .pointer (some ⟨g, 0, none⟩) ∧ b = .bool (normB r k1 xs1) ∧ OutAt w1 wx g (normK r k1 xs1) (normXs r k1 xs1) A n c)
    case first =>
      go_region_held3 (fun w' => w'.cell? ⟨w.heap.size, 0, none⟩ = some (.int .i64 r.att) ∧ w'.cell? ⟨w.heap.size, 1, none⟩ = some (.int .i64 r.lim) ∧ w'.cell? ⟨w.heap.size, 2, none⟩ = some (.int .i64 r.catt) ∧ w'.cell? ⟨w.heap.size, 3, none⟩ = some (.int .i64 r.cut) ∧ w'.cell? ⟨w.heap.size, 4, none⟩ = some (.int .i64 r.adv) ∧ w'.cell? ⟨w.heap.size + 1, 0, none⟩ = some (.int .i64 k1) ∧ w'.cell? ⟨w.heap.size + 1, 1, none⟩ = some (.slice A1 xs1.length c1))
        (first | go_keep | exact kept7 hq4 hz1 b0 b1 b2 b3 b4 g0 g1 | exact kept7 hq3 hz1 b0 b1 b2 b3 b4 g0 g1 | exact kept7 hq2 hz1 b0 b1 b2 b3 b4 g0 g1 | exact kept7 (hq4.alloc hq4.size _) hz1 b0 b1 b2 b3 b4 g0 g1 | exact kept7 ((hq4.setCell (by first | exact hq3.size | exact hq2.size | exact Nat.le_refl _) _).setCell (by first | exact hq3.size | exact hq2.size | exact Nat.le_refl _) _) hz1 b0 b1 b2 b3 b4 g0 g1)
        (first
          | (go_at_call 15; refine (toRR r _).mono ?_; rintro e w2 ⟨rfl, hb2⟩; have hq2 : Below w1.heap.size w1 w2 := (by first | exact ((Below.refl _ _).drew).trans hb2 | exact (((Below.refl _ _).drew).alloc (Nat.le_refl _) _).trans (hb2.mono (by simp))); (try have hk : w2.heap[w1.heap.size]? = some (.cells #[.int .i64 0, .slice none 0 0] 44) := (hb2.block w1.heap.size (by simp)).trans (heap_alloc_new _ _)); (try have hkl : w1.heap.size < w2.heap.size := (Array.getElem?_eq_some_iff.1 hk).1))
          | (go_at_call 31; refine (toEnt _ _ _ _ _ (by first | exact hx1.below hq2 | exact hx1.below (hq2.alloc hq2.size _)) hl).mono ?_; rintro e w3 ⟨v3, rfl, hF3, hb3⟩; obtain ⟨A3, c3, hlc3, rfl, hI3⟩ := hF3.capped; have hq3 : Below w1.heap.size w1 w3 := (by first | exact hq2.trans (hb3.mono hq2.size) | exact (hq2.alloc hq2.size _).trans (hb3.mono (by have := hq2.size; simp; omega))); (try have hk := (hb3.block w1.heap.size hkl).trans hk); (try have hk : w3.heap[w2.heap.size]? = some (.cells #[.int .i64 0, .slice none 0 0] 44) := (hb3.block w2.heap.size (by simp)).trans (heap_alloc_new _ _)))
          | (go_at_call 28; refine (specNE r k1 A3 c3 xs1 _ (by first | exact hI3 | exact hI3.below ((Below.refl _ _).alloc (Nat.le_refl _) _)) hl hlc3).mono ?_; rintro e w4 ⟨v4, rfl, hF4, hb4⟩; have hq4 : Below w1.heap.size w1 w4 := (by first | exact hq3.trans (hb4.mono hq3.size) | exact (hq3.alloc hq3.size _).trans (hb4.mono (by have := hq3.size; simp; omega))); obtain ⟨A4, c4, he4, hI4, -⟩ := hF4.ints; obtain ⟨n4, hn4⟩ : ∃ n4, (normXs r k1 xs1).length = n4 := ⟨_, rfl⟩; rw [hn4] at he4; subst he4; clear hn4; (try have hk : w4.heap[w3.heap.size]? = some (.cells #[.int .i64 0, .slice none 0 0] 44) := (hb4.block w3.heap.size (by simp)).trans (heap_alloc_new _ _)); (try have hk := (hb4.block _ (Array.getElem?_eq_some_iff.1 hk).1).trans hk); (try have kc0 := cell_of_row w4 _ 0 _ _ (0, 0) hk); (try have kc1 := cell_of_row w4 _ 1 _ _ (0, 0) hk); (try have kf0 : w4.frozen? ⟨_, 0, none⟩ = false := row_free hk); (try have kf1 : w4.frozen? ⟨_, 1, none⟩ = false := row_free hk)))
      all_goals go_wp2_with fail
      all_goals go_meet
      all_goals first
        | exact ⟨_, _, _, _, rfl, rfl, outAt_alloc hq4 hF4 (by exact hq3.size)⟩
        | exact ⟨_, _, _, _, rfl, rfl, outAt_set hq4 hF4 (by have h3 := hq3.size; simp <;> omega) (by first | exact hq3.size | exact hq2.size | exact Nat.le_refl _) (by have h3 := hb3.size; have h2 := hb2.size; (try simp at h3); (try simp at h2); simp <;> omega) hk⟩
    case rest =>
      obtain ⟨g6, A6, n6, c6, rfl, rfl, hO6, hF6, hq6, hb6⟩ := hcut
      obtain ⟨b0, b1, b2, b3, b4, g0, g1⟩ := kept7 hb6 hz1 b0 b1 b2 b3 b4 g0 g1
      have hB6 := belowStep hb6 hB1
      have hz6 : w.heap.size + 1 < wc.heap.size := Nat.lt_of_lt_of_le hz1 hb6.size
      have hR6 : Hid (RX wc w.heap.size r) := ⟨Nat.lt_of_succ_lt hz6, b0, b1, b2, b3, b4⟩
      have hE6 : Hid (Bx wc (w.heap.size + 1) k1 (.slice A1 xs1.length c1)) := ⟨hz6, g0, g1⟩
      obtain rfl := hF6.len
      have hO6 : Hid (Bx wc g6 (normK r k1 xs1) (.slice A6 (normXs r k1 xs1).length c6)) := hO6.2
      have hI6 : Hid (IntsAt wc A6 (normXs r k1 xs1)) := hF6.intsAt
      clear hb6 hx1 hB1 b0 b1 b2 b3 b4 hq6 hF6
      go_wp2_with fail
      refine (toEnt k1 A1 c1 xs1 _ (hx.below hB6) hl).mono ?_
      rintro e w7 ⟨v7, rfl, hF7, hb7⟩
      obtain ⟨A7, c7, hlc7, rfl, hI7⟩ := hF7.capped
      clear hI7
      have hO8 : Hid (OutAt wc (w7.alloc (.cells #[.int .i64 k1, .slice A7 xs1.length c7] 44)) w7.heap.size k1 xs1 A7 xs1.length c7) := outAt_alloc hb7 hF7 (Nat.le_refl _)
      clear hF7 hb7 g0 g1 hz6
      go_wp2_with fail
      generalize (w7.alloc (.cells #[.int .i64 k1, .slice A7 xs1.length c7] 44)) = w8 at *
      obtain ⟨g8, hg8⟩ : ∃ g8, w7.heap.size = g8 := ⟨_, rfl⟩
      rw [hg8] at hO8 ⊢
      clear hg8
      obtain ⟨hO8, hF8, hq8, hb8⟩ := hO8.out
      have hR8 : Hid (RX w8 w.heap.size r) := hR6.out.below hb8
      have hE8 : Hid (Bx w8 (w.heap.size + 1) k1 (.slice A1 xs1.length c1)) := hE6.out.below hb8
      have hO68 : Hid (Bx w8 g6 (normK r k1 xs1) (.slice A6 (normXs r k1 xs1).length c6)) := hO6.out.below hb8
      have hI68 : Hid (IntsAt w8 A6 (normXs r k1 xs1)) := hI6.out.below hb8
      have hB8 := belowStep hb8 hB6
      obtain ⟨hl8, i0, i1⟩ := hO8.2
      have hg8 := hO8.1
      have hI8 := hF8.intsAt
      obtain ⟨hl0, b0, b1, b2, b3, b4⟩ := hR8.out
      clear hO8
      go_cut [9, 10] from 31 to 37 (fun p b wx => ∃ (g : Nat) (A : Option Addr) (n c : Nat), p = .pointer (some ⟨g, 0, none⟩) ∧ b = .bool (normB r k1 xs1) ∧ OutAt w8 wx g (normK r k1 xs1) (normXs r k1 xs1) A n c)
      case first =>
        go_region_held3 (fun w' => w'.cell? ⟨w.heap.size, 0, none⟩ = some (.int .i64 r.att) ∧ w'.cell? ⟨w.heap.size, 1, none⟩ = some (.int .i64 r.lim) ∧ w'.cell? ⟨w.heap.size, 2, none⟩ = some (.int .i64 r.catt) ∧ w'.cell? ⟨w.heap.size, 3, none⟩ = some (.int .i64 r.cut) ∧ w'.cell? ⟨w.heap.size, 4, none⟩ = some (.int .i64 r.adv) ∧ w'.cell? ⟨g8, 0, none⟩ = some (.int .i64 k1) ∧ w'.cell? ⟨g8, 1, none⟩ = some (.slice A7 xs1.length c7))
          (first | go_keep | exact keptG hq4 hl0 hl8 b0 b1 b2 b3 b4 i0 i1 | exact keptG hq2 hl0 hl8 b0 b1 b2 b3 b4 i0 i1 | exact keptG (((Below.refl _ _).drew).alloc (Nat.le_refl _) _) hl0 hl8 b0 b1 b2 b3 b4 i0 i1 | exact keptG (hq2.alloc hq2.size _) hl0 hl8 b0 b1 b2 b3 b4 i0 i1 | exact keptG (hq4.alloc hq4.size _) hl0 hl8 b0 b1 b2 b3 b4 i0 i1 | exact keptG ((hq4.setCell (by first | exact hq2.size | exact Nat.le_refl _) _).setCell (by first | exact hq2.size | exact Nat.le_refl _) _) hl0 hl8 b0 b1 b2 b3 b4 i0 i1)
          (first
            | (go_at_call 15; refine (toRR r _).mono ?_; rintro e w2 ⟨rfl, hb2⟩; have hq2 : Below w8.heap.size w8 w2 := (by first | exact ((Below.refl _ _).drew).trans hb2 | exact (((Below.refl _ _).drew).alloc (Nat.le_refl _) _).trans (hb2.mono (by simp))); (try have hk : w2.heap[w8.heap.size]? = some (.cells #[.int .i64 0, .slice none 0 0] 44) := (hb2.block w8.heap.size (by simp)).trans (heap_alloc_new _ _)); (try have hkl : w8.heap.size < w2.heap.size := (Array.getElem?_eq_some_iff.1 hk).1))
            | (go_at_call 32; refine (implNE r k1 A7 c7 xs1 _ (by first | exact hI8.below hq2 | exact hI8.below (hq2.alloc hq2.size _)) hl hlc7).mono ?_; rintro e w4 ⟨v4, rfl, hF4, hb4⟩; have hq4 : Below w8.heap.size w8 w4 := (by first | exact hq2.trans (hb4.mono hq2.size) | exact (hq2.alloc hq2.size _).trans (hb4.mono (by have := hq2.size; simp; omega))); obtain ⟨A4, c4, he4, hI4, -⟩ := hF4.ints; obtain ⟨n4, hn4⟩ : ∃ n4, (normXs r k1 xs1).length = n4 := ⟨_, rfl⟩; rw [hn4] at he4; subst he4; clear hn4; (try have hk : w4.heap[w2.heap.size]? = some (.cells #[.int .i64 0, .slice none 0 0] 44) := (hb4.block w2.heap.size (by simp)).trans (heap_alloc_new _ _)); (try have hk := (hb4.block _ (Array.getElem?_eq_some_iff.1 hk).1).trans hk); (try have kc0 := cell_of_row w4 _ 0 _ _ (0, 0) hk); (try have kc1 := cell_of_row w4 _ 1 _ _ (0, 0) hk); (try have kf0 : w4.frozen? ⟨_, 0, none⟩ = false := row_free hk); (try have kf1 : w4.frozen? ⟨_, 1, none⟩ = false := row_free hk)))
        all_goals go_wp2_with fail
        all_goals go_meet
        all_goals first
          | exact ⟨_, _, _, _, rfl, rfl, outAt_alloc hq4 hF4 (by exact hq2.size)⟩
          | exact ⟨_, _, _, _, rfl, rfl, outAt_set hq4 hF4 (by have h3 := hq2.size; simp <;> omega) (by first | exact hq2.size | exact Nat.le_refl _) (by have h2 := hb2.size; (try simp at h2); simp <;> omega) hk⟩
      case rest =>
        obtain ⟨g9, A9, n9, c9, rfl, rfl, hO9, hF9, hq9, hb9⟩ := hcut
        have hyl : (normXs r k1 xs1).length ≤ 1048576 := Nat.le_trans (normXs_len r k1 xs1) hl
        obtain rfl := hF9.len
        have hs7 : Hid (∀ q, (Value.slice A7 xs1.length c7).ownBlock = some q → q ≠ g6 ∧ q ≠ w.heap.size ∧ q ≠ w.heap.size + 1 ∧ q ≠ g8 ∧ q ≠ g9 ∧ q < w8.heap.size) := by
          intro q hq
          have u1 := hF8.block q hq
          have u2 := hF8.under q hq
          have u3 := hO6.out.1
          have u4 := hR6.out.1
          have u5 := hE6.out.1
          have u6 := hO9.1
          exact ⟨by omega, by omega, by omega, hq8 q hq, by omega, u2⟩
        have hs9 : Hid (∀ q, (Value.slice A9 (normXs r k1 xs1).length c9).ownBlock = some q → q ≠ g6 ∧ q ≠ w.heap.size ∧ q ≠ w.heap.size + 1 ∧ q ≠ g8 ∧ q ≠ g9 ∧ w8.heap.size ≤ q) := by
          intro q hq
          have u1 := hF9.block q hq
          have u3 := hO68.out.1
          have u4 := hR8.out.1
          have u5 := hE8.out.1
          exact ⟨by omega, by omega, by omega, by omega, hq9 q hq, u1⟩
        have hR9 : Hid (RX wc w.heap.size r) := hR8.out.below hb9
        have hE9 : Hid (Bx wc (w.heap.size + 1) k1 (.slice A1 xs1.length c1)) := hE8.out.below hb9
        have hO69 : Hid (Bx wc g6 (normK r k1 xs1) (.slice A6 (normXs r k1 xs1).length c6)) := hO68.out.below hb9
        have hO89 : Hid (Bx wc g8 k1 (.slice A7 xs1.length c7)) := Bx.below ⟨hl8, i0, i1⟩ hb9
        have hO99 : Hid (Bx wc g9 (normK r k1 xs1) (.slice A9 (normXs r k1 xs1).length c9)) := hO9.2
        have hI69 := hI68.out.below hb9
        have hF89 := hF8.below hb9
        have hI99 := hF9.intsAt
        have hB9 := belowStep hb9 hB8
        have HI6 := hI6
        have HB6 := Lib.hid hB6.size
        have HF8 := Lib.hid hF8.block
        have HB8 := Lib.hid hB8.size
        have HW8 := Lib.hid hb8.size
        obtain ⟨-, x0, x1⟩ := hO99.out
        obtain ⟨-, y0, y1⟩ := hO69.out
        clear hO9 hq9 hb9 hR8 hE8 hO68 hI68 hO6 hR6 hE6 hI6 hl0 b0 b1 b2 b3 b4 hl8 i0 i1 hg8 hI8 hB8 hB6 hF8 hq8 hb8
        go_wp2_with fail
        refine (eqEnt _ _ _ _ _ _ _ _ _ (by exact hI99) (by exact hI69) hyl).mono ?_
        rintro e w10 ⟨rfl, hb10⟩
        rw [eqEnt_self]
        have hR10 : Hid (RX w10 w.heap.size r) := hR9.out.below hb10
        have hE10 : Hid (Bx w10 (w.heap.size + 1) k1 (.slice A1 xs1.length c1)) := hE9.out.below hb10
        have hO610 : Hid (Bx w10 g6 (normK r k1 xs1) (.slice A6 (normXs r k1 xs1).length c6)) := hO69.out.below hb10
        have hO810 : Hid (Bx w10 g8 k1 (.slice A7 xs1.length c7)) := hO89.out.below hb10
        have hO910 : Hid (Bx w10 g9 (normK r k1 xs1) (.slice A9 (normXs r k1 xs1).length c9)) := hO99.out.below hb10
        have hI610 := hI69.below hb10
        have hF810 := hF89.below hb10
        have hF910 := hF9.below hb10
        have hB10 := belowStep hb10 hB9
        have hI810 := hF810.intsAt
        have hx10 := hx.below hB10
        obtain ⟨hl8, x0, x1⟩ := hO810.out
        obtain ⟨hlE, y0, y1⟩ := hE10.out
        clear hb10 hR9 hE9 hO69 hO89 hO99 hI69 hF89 hI99 hF9 hB9
        go_wp2_with fail
        go_region_held3 (fun w' => w'.cell? ⟨g8, 0, none⟩ = some (.int .i64 k1) ∧ w'.cell? ⟨g8, 1, none⟩ = some (.slice A7 xs1.length c7) ∧ w'.cell? ⟨w.heap.size + 1, 0, none⟩ = some (.int .i64 k1) ∧ w'.cell? ⟨w.heap.size + 1, 1, none⟩ = some (.slice A1 xs1.length c1))
          (first | go_keep | exact keep4 hq12 hl8 hlE x0 x1 y0 y1 | exact keep4 hq11 hl8 hlE x0 x1 y0 y1)
          (first
            | (go_at_call 31; refine (toEnt _ _ _ _ _ (by exact hx10) hl).mono ?_; rintro e w11 ⟨v11, rfl, hF11, hb11⟩; obtain ⟨A11, c11, -, rfl, hI11⟩ := hF11.capped; have hq11 : Below w10.heap.size w10 w11 := ((Below.refl _ _).drew).trans hb11)
            | (go_at_call 33; refine (eqEnt _ _ _ _ _ _ _ _ _ (by exact hI810.below hq11) (by exact hI11) (by exact hl)).mono ?_; rintro e w12 ⟨rfl, hb12⟩; rw [eqEnt_self]; have hq12 : Below w10.heap.size w10 w12 := hq11.trans (hb12.mono hq11.size)))
        have hR12 : Hid (RX w12 w.heap.size r) := hR10.out.below hq12
        have hE12 : Hid (Bx w12 (w.heap.size + 1) k1 (.slice A1 xs1.length c1)) := hE10.out.below hq12
        have hO612 : Hid (Bx w12 g6 (normK r k1 xs1) (.slice A6 (normXs r k1 xs1).length c6)) := hO610.out.below hq12
        have hO812 : Hid (Bx w12 g8 k1 (.slice A7 xs1.length c7)) := hO810.out.below hq12
        have hO912 : Hid (Bx w12 g9 (normK r k1 xs1) (.slice A9 (normXs r k1 xs1).length c9)) := hO910.out.below hq12
        have hI612 := hI610.below hq12
        have hF812 := hF810.below hq12
        have hF912 := hF910.below hq12
        have hB12 := belowStep hq12 hB10
        obtain ⟨-, x0, x1⟩ := hO812.out
        clear hb11 hb12 hq11 hq12 hF11 hI11 hR10 hE10 hO610 hO810 hO910 hI610 hF810 hF910 hB10 hI810 hx10 hl8 hlE y0 y1
        go_wp2_with fail
        refine (markEnt _ k1 A7 xs1.length c7 xs1 1 _ (by exact hF812) hl (by omega) (by omega)).mono ?_
        rintro e w13 ⟨rfl, hF13, hg13⟩
        have hbA : Below w12.heap.size w12 (w12.alloc (.cells #[.int .i64 k1, .slice A7 xs1.length c7] 44)) := (Below.refl _ _).alloc (Nat.le_refl _) _
        have hR13 : Hid (RX w13 w.heap.size r) := (hR12.out.below hbA).grown hg13 (fun q hq => (hs7.out q hq).2.1)
        have hE13 : Hid (Bx w13 (w.heap.size + 1) k1 (.slice A1 xs1.length c1)) := (hE12.out.below hbA).grown hg13 (fun q hq => (hs7.out q hq).2.2.1)
        have hO613 : Hid (Bx w13 g6 (normK r k1 xs1) (.slice A6 (normXs r k1 xs1).length c6)) := (hO612.out.below hbA).grown hg13 (fun q hq => (hs7.out q hq).1)
        have hO913 : Hid (Bx w13 g9 (normK r k1 xs1) (.slice A9 (normXs r k1 xs1).length c9)) := (hO912.out.below hbA).grown hg13 (fun q hq => (hs7.out q hq).2.2.2.2.1)
        have hI613 := (hI612.below hbA).grownOld HI6.out hg13 (fun q hq => HF8.out q hq)
        have hF913 := (hF912.al (.cells #[.int .i64 k1, .slice A7 xs1.length c7] 44)).grownNew hg13 (fun q hq => (hs7.out q hq).2.2.2.2.2)
        have hB13 : Below w.heap.size w w13 := belowGrown (hB12.alloc hB12.size _) hg13 (hB12.alloc hB12.size _).size (fun q hq => Nat.le_trans HB6.out (HF8.out q hq))
        have hI913 := hF913.intsAt
        have p13 : ¬ (1 + (xs1.length : Int)) < 0 := by omega
        obtain ⟨-, x0, x1⟩ := hO913.out
        obtain ⟨-, y0, y1⟩ := hO613.out
        clear hR12 hE12 hO612 hO812 hO912 hI612 hF812 hF912 hB12 hbA hF13 hg13 hs7 HF8
        go_wp2_with fail
        refine (eqEnt _ _ _ _ _ _ _ _ _ (by exact hI913) (by exact hI613) hyl).mono ?_
        rintro e w14 ⟨rfl, hb14⟩
        rw [eqEnt_self]
        have hR14 : Hid (RX w14 w.heap.size r) := hR13.out.below hb14
        have hE14 : Hid (Bx w14 (w.heap.size + 1) k1 (.slice A1 xs1.length c1)) := hE13.out.below hb14
        have hO614 : Hid (Bx w14 g6 (normK r k1 xs1) (.slice A6 (normXs r k1 xs1).length c6)) := hO613.out.below hb14
        have hO914 : Hid (Bx w14 g9 (normK r k1 xs1) (.slice A9 (normXs r k1 xs1).length c9)) := hO913.out.below hb14
        have hI614 := hI613.below hb14
        have hF914 := hF913.below hb14
        have hB14 := belowStep hb14 hB13
        obtain ⟨-, x0, x1⟩ := hO914.out
        clear hb14 hR13 hE13 hO613 hO913 hI613 hF913 hB13 hI913 y0 y1
        go_wp2_with fail
        refine (markEnt _ (normK r k1 xs1) A9 (normXs r k1 xs1).length c9 (normXs r k1 xs1) 1 _ (by exact hF914) hyl (by omega) (by omega)).mono ?_
        rintro e w15 ⟨rfl, hF15, hg15⟩
        have hbA : Below w14.heap.size w14 (w14.alloc (.cells #[.int .i64 (normK r k1 xs1), .slice A9 (normXs r k1 xs1).length c9] 44)) := (Below.refl _ _).alloc (Nat.le_refl _) _
        have hR15 : Hid (RX w15 w.heap.size r) := (hR14.out.below hbA).grown hg15 (fun q hq => (hs9.out q hq).2.1)
        have hE15 : Hid (Bx w15 (w.heap.size + 1) k1 (.slice A1 xs1.length c1)) := (hE14.out.below hbA).grown hg15 (fun q hq => (hs9.out q hq).2.2.1)
        have hO615 : Hid (Bx w15 g6 (normK r k1 xs1) (.slice A6 (normXs r k1 xs1).length c6)) := (hO614.out.below hbA).grown hg15 (fun q hq => (hs9.out q hq).1)
        have hO915 : Hid (Bx w15 g9 (normK r k1 xs1) (.slice A9 (normXs r k1 xs1).length c9)) := (hO914.out.below hbA).grown hg15 (fun q hq => (hs9.out q hq).2.2.2.2.1)
        have hI615 := (hI614.below hbA).grownOld HI6.out hg15 (fun q hq => Nat.le_trans HW8.out (hs9.out q hq).2.2.2.2.2)
        have hB15 : Below w.heap.size w w15 := belowGrown (hB14.alloc hB14.size _) hg15 (hB14.alloc hB14.size _).size (fun q hq => Nat.le_trans HB8.out (hs9.out q hq).2.2.2.2.2)
        have hM15 := hF15.intsAt
        obtain ⟨-, x0, x1⟩ := hO915.out
        clear hR14 hE14 hO614 hO914 hI614 hF914 hB14 hbA hg15 hs9 HI6 hF15 HB8 HB6 HW8
        have p16 : ¬ (1 + ((normXs r k1 xs1).length : Int)) < 0 := by omega
        go_wp2_with fail
        refine (heldEnt _ A9 c9 (normXs r k1 xs1).length 1 _ (by exact hM15) hyl (by omega) (by omega)).mono ?_
        rintro e w16 ⟨rfl, hb16⟩
        have hR16 := hR15.out.below hb16
        have hE16 := hE15.out.below hb16
        have hO616 : Hid (Bx w16 g6 (normK r k1 xs1) (.slice A6 (normXs r k1 xs1).length c6)) := hO615.out.below hb16
        have hO916 : Hid (Bx w16 g9 (normK r k1 xs1) (.slice A9 (normXs r k1 xs1).length c9)) := hO915.out.below hb16
        have hI616 := hI615.below hb16
        have hM16 := hM15.below hb16
        have hB16 := belowStep hb16 hB15
        have hx16 := hx.below hB16
        obtain ⟨hl0, b0, b1, b2, b3, b4⟩ := hR16
        obtain ⟨hlE, g0, g1⟩ := hE16
        clear hb16 hR15 hE15 hO615 hO915 hI615 hM15 hB15 x0 x1
        go_upto_region 24 with fail
        go_cut [14, 15] from 79 to 86 (fun p b wx => ∃ (g : Nat) (A : Option Addr) (n c : Nat), p = .pointer (some ⟨g, 0, none⟩) ∧ b = .bool (normB r k1 xs1) ∧ OutAt w16 wx g (normK r k1 xs1) (normXs r k1 xs1) A n c)
        case first =>
          go_region_held3 (fun w' => w'.cell? ⟨w.heap.size, 0, none⟩ = some (.int .i64 r.att) ∧ w'.cell? ⟨w.heap.size, 1, none⟩ = some (.int .i64 r.lim) ∧ w'.cell? ⟨w.heap.size, 2, none⟩ = some (.int .i64 r.catt) ∧ w'.cell? ⟨w.heap.size, 3, none⟩ = some (.int .i64 r.cut) ∧ w'.cell? ⟨w.heap.size, 4, none⟩ = some (.int .i64 r.adv) ∧ w'.cell? ⟨w.heap.size + 1, 0, none⟩ = some (.int .i64 k1) ∧ w'.cell? ⟨w.heap.size + 1, 1, none⟩ = some (.slice A1 xs1.length c1))
            (first | go_keep | exact kept7 hq4 hlE b0 b1 b2 b3 b4 g0 g1 | exact kept7 hq3 hlE b0 b1 b2 b3 b4 g0 g1 | exact kept7 hq2 hlE b0 b1 b2 b3 b4 g0 g1 | exact kept7 (hq4.alloc hq4.size _) hlE b0 b1 b2 b3 b4 g0 g1 | exact kept7 ((hq4.setCell (by first | exact hq3.size | exact hq2.size | exact Nat.le_refl _) _).setCell (by first | exact hq3.size | exact hq2.size | exact Nat.le_refl _) _) hlE b0 b1 b2 b3 b4 g0 g1)
            (first
              | (go_at_call 15; refine (toRR r _).mono ?_; rintro e w2 ⟨rfl, hb2⟩; have hq2 : Below w16.heap.size w16 w2 := (by first | exact ((Below.refl _ _).drew).trans hb2 | exact (((Below.refl _ _).drew).alloc (Nat.le_refl _) _).trans (hb2.mono (by simp))); (try have hk : w2.heap[w16.heap.size]? = some (.cells #[.int .i64 0, .slice none 0 0] 44) := (hb2.block w16.heap.size (by simp)).trans (heap_alloc_new _ _)); (try have hkl : w16.heap.size < w2.heap.size := (Array.getElem?_eq_some_iff.1 hk).1))
              | (go_at_call 31; refine (toEnt _ _ _ _ _ (by first | exact hx16.below hq2 | exact hx16.below (hq2.alloc hq2.size _)) hl).mono ?_; rintro e w3 ⟨v3, rfl, hF3, hb3⟩; obtain ⟨A3, c3, hlc3, rfl, hI3⟩ := hF3.capped; have hq3 : Below w16.heap.size w16 w3 := (by first | exact hq2.trans (hb3.mono hq2.size) | exact (hq2.alloc hq2.size _).trans (hb3.mono (by have := hq2.size; simp; omega))); (try have hk := (hb3.block w16.heap.size hkl).trans hk); (try have hk : w3.heap[w2.heap.size]? = some (.cells #[.int .i64 0, .slice none 0 0] 44) := (hb3.block w2.heap.size (by simp)).trans (heap_alloc_new _ _)))
              | (go_at_call 32; refine (implNE r k1 A3 c3 xs1 _ (by first | exact hI3 | exact hI3.below ((Below.refl _ _).alloc (Nat.le_refl _) _)) hl hlc3).mono ?_; rintro e w4 ⟨v4, rfl, hF4, hb4⟩; have hq4 : Below w16.heap.size w16 w4 := (by first | exact hq3.trans (hb4.mono hq3.size) | exact (hq3.alloc hq3.size _).trans (hb4.mono (by have := hq3.size; simp; omega))); obtain ⟨A4, c4, he4, hI4, -⟩ := hF4.ints; obtain ⟨n4, hn4⟩ : ∃ n4, (normXs r k1 xs1).length = n4 := ⟨_, rfl⟩; rw [hn4] at he4; subst he4; clear hn4; (try have hk : w4.heap[w3.heap.size]? = some (.cells #[.int .i64 0, .slice none 0 0] 44) := (hb4.block w3.heap.size (by simp)).trans (heap_alloc_new _ _)); (try have hk := (hb4.block _ (Array.getElem?_eq_some_iff.1 hk).1).trans hk); (try have kc0 := cell_of_row w4 _ 0 _ _ (0, 0) hk); (try have kc1 := cell_of_row w4 _ 1 _ _ (0, 0) hk); (try have kf0 : w4.frozen? ⟨_, 0, none⟩ = false := row_free hk); (try have kf1 : w4.frozen? ⟨_, 1, none⟩ = false := row_free hk)))
          all_goals go_wp2_with fail
          all_goals go_meet
          all_goals first
            | exact ⟨_, _, _, _, rfl, rfl, outAt_alloc hq4 hF4 (by exact hq3.size)⟩
            | exact ⟨_, _, _, _, rfl, rfl, outAt_set hq4 hF4 (by have h3 := hq3.size; simp <;> omega) (by first | exact hq3.size | exact hq2.size | exact Nat.le_refl _) (by have h3 := hb3.size; have h2 := hb2.size; (try simp at h3); (try simp at h2); simp <;> omega) hk⟩
        case rest =>
          obtain ⟨g14, A14, n14, c14, rfl, rfl, hO14, hF14, hq14, hb14⟩ := hcut
          obtain rfl := hF14.len
          have hO6e := hO616.out.below hb14
          have hO9e : Hid (Bx wc g9 (normK r k1 xs1) (.slice A9 (normXs r k1 xs1).length c9)) := hO916.out.below hb14
          have hI6e := hI616.below hb14
          have hMe := hM16.below hb14
          have hBe := belowStep hb14 hB16
          have hI14 := hF14.intsAt
          obtain ⟨-, -, x0, x1⟩ := hO14
          obtain ⟨-, y0, y1⟩ := hO6e
          clear hb14 hO616 hO916 hI616 hM16 hB16 hq14 hF14 hx16 b0 b1 b2 b3 b4 g0 g1 hl0 hlE
          go_wp2_with fail
          refine (eqEnt _ _ _ _ _ _ _ _ _ (by exact hI14) (by exact hI6e) hyl).mono ?_
          rintro e w26 ⟨rfl, hb26⟩
          rw [eqEnt_self]
          obtain ⟨-, z0, z1⟩ := hO9e.out.below hb26
          have hM26 := hMe.below hb26
          have hB26 := belowStep hb26 hBe
          clear hb26 hO9e hMe hBe hI6e hI14 x0 x1 y0 y1
          go_wp2_with fail
          refine (heldEnt _ A9 c9 (normXs r k1 xs1).length 1 _ (by exact hM26) hyl (by omega) (by omega)).mono ?_
          rintro e w28 ⟨rfl, hb28⟩
          have hB28 := belowStep hb28 hB26
          clear hb28 hM26 hB26 z0 z1
          go_wp2_with fail
          go_ret
          exact ⟨rfl, hB28⟩
  · have hsz := szLeft_no hl
    go_enter Try.func6, Try.ntmps6
    go_wp2_with fail
    refine (szEnt k1 A1 c1 xs1 _ _ hm (by omega) (by omega)).mono ?_
    rintro e w1 ⟨rfl, hb1⟩
    have hB1 := belowStep hb1 HB.out
    go_wp2_with fail
    go_ret
    exact ⟨rfl, hB1⟩
theorem own : ownKnob Try.prog.godebug = none := by kernel_rfl
theorem laidOut : laidOutB Try.prog = true := by kernel_rfl
set_option maxRecDepth 100000 in
theorem lifted (os : Os) (started : os.Started) (H : Type) (enc : TypeId × Value → H) :
    ReturnsInHanded {} Try.checked os 6 .any (Rows.fnExactNormalizeEntrySpec.pre6 enc Try.prog Try.f6 Rows.fnExactNormalizeEntryRow.domain false) (Rows.fnExactNormalizeEntrySpec.post enc Try.prog Try.f6 false true false false) := by
  refine returnsInHanded_of_change (C := Try.checked) own started (by kernel_rfl) Try.func6
    (ChangeSpec.witness6 (enc := enc) (C := Try.checked) false ⟨#[], #[.agg #[.int .i64 0, .int .i64 0, .int .i64 0, .int .i64 0, .int .i64 0], .agg #[.int .i64 0, .slice none 0 0]], []⟩ 8 (by kernel_rfl) (by kernel_rfl) (by kernel_rfl) (by kernel_rfl)) ?_
  intro W base args ds gs before hval0 hW hcnd _
  have hval : ∀ (j : Nat) t v, Try.f6.params[j]? = some t → args[j]? = some v → Value.okWide Try.prog W .any base t v := hval0
  have hW' := hW
  obtain ⟨p, q, hA0, hV, rfl, hfz, hnd⟩ := hW
  have hA : DataW.TrodAll enc Try.prog W 0 (fun _ => true) true Try.f6.params.toList args.toList ds p := hA0
  rw [Try.params6] at hA hval
  obtain ⟨v0, vs0, d0, ds0, p0, q0, hargs, rfl, rfl, h0, r0⟩ := trodAll_cons hA
  obtain ⟨v1, vs1, d1, ds1, p1, q1, rfl, rfl, rfl, h1, r1⟩ := trodAll_cons r0
  obtain ⟨rfl, rfl, rfl⟩ := trodAll_nil r1
  obtain rfl : args = #[v0, v1] := by cases args; simp_all
  obtain ⟨rfl, rfl⟩ := trodVars_none hV
  have lt0 : ∀ x ∈ p0, x.block < W.heap.size := by obtain ⟨m, hm⟩ := h0; exact DataW.trod_lt m _ _ _ hm
  have lt1 : ∀ x ∈ p1, x.block < W.heap.size := by obtain ⟨m, hm⟩ := h1; exact DataW.trod_lt m _ _ _ hm
  obtain ⟨g0, rfl⟩ := arg_rr (hval 0 23 v0 rfl rfl) h0
  obtain ⟨k1, A1, c1, x1, rfl, i1, m1⟩ := arg_entry (hval 1 48 v1 rfl rfl) h1
  clear hA0 hval0
  refine (walk g0 k1 A1 c1 x1 W  i1 m1).mono fun e W' ⟨he, bel⟩ => ?_
  subst he
  exact ⟨_, rfl, _, _, _, [], _, [], hW', trodAll_mk1 (shut_bool Try.underlying4 _), (trodAll_cons_mk (Below.trod laidOut (by kernel_rfl) (of_decide_eq_true (by kernel_rfl)) h0 bel lt0) (trodAll_cons_mk (Below.trod laidOut (by kernel_rfl) (of_decide_eq_true (by kernel_rfl)) h1 bel lt1) trodAll_mk0)), rfl, bel.frame _, fun h => by cases h⟩
theorem fact_wf : Rows.fnExactNormalizeEntryRow.wf (OpenSpec.ofChange Rows.fnExactNormalizeEntrySpec) = true := by kernel_rfl
theorem fact_pars : Try.f6.params.all (Try.prog.readableRec ·) = true := by kernel_rfl
theorem fact_tie : namedTie Try.prog Rows.fnExactNormalizeEntryRow.named Rows.fnExactNormalizeEntrySpec.vars = true := by kernel_rfl
theorem fact_st : (Rows.fnExactNormalizeEntryRow.stops == []) = true := by kernel_rfl
theorem fact_kn : (Rows.fnExactNormalizeEntryRow.knobs == []) = true := by kernel_rfl
theorem fact_inp : (Rows.fnExactNormalizeEntryRow.inPlace == Try.prog.inPlace 6) = true := by kernel_rfl
theorem fact_unf : (Rows.fnExactNormalizeEntryRow.unfollowed == Try.prog.unfollowed 6) = true := by kernel_rfl
theorem fact_rec : (Rows.fnExactNormalizeEntryRow.recurses == Try.prog.recurses 6) = true := by kernel_rfl
theorem fact_nam : (Rows.fnExactNormalizeEntryRow.named == Try.prog.varsNamed 6) = true := by kernel_rfl
theorem fact_mp : (Rows.fnExactNormalizeEntryRow.maps == (Try.f6.params.toList ++ Rows.fnExactNormalizeEntrySpec.plain.varTypes Try.prog).any (Try.prog.mapsRec ·)) = true := by kernel_rfl
theorem fact_ifc : (Rows.fnExactNormalizeEntryRow.ifaces == (Try.f6.params.toList ++ Rows.fnExactNormalizeEntrySpec.plain.varTypes Try.prog).any (Try.prog.ifacesRec ·)) = true := by kernel_rfl
theorem fact_mo : (Rows.fnExactNormalizeEntryRow.mapsOut == Try.prog.mapsAmong Try.f6.resultTypes.toList) = true := by kernel_rfl
theorem fact_lo : (Rows.fnExactNormalizeEntryRow.loops == (Try.f6.params.toList ++ Rows.fnExactNormalizeEntrySpec.plain.varTypes Try.prog).any (Try.prog.loopsFrom ·)) = true := by kernel_rfl
theorem fact_wk : (Rows.fnExactNormalizeEntryRow.wideKeys == (Try.f6.params.toList ++ Rows.fnExactNormalizeEntrySpec.plain.varTypes Try.prog ++ Try.f6.resultTypes.toList).any (Try.prog.wideKeysFrom ·)) = true := by kernel_rfl
theorem fact_vs : Rows.fnExactNormalizeEntrySpec.vars.all (Try.prog.varReadable ·) = true := by kernel_rfl
theorem fact_res : Try.f6.resultTypes.all (fun t => Try.prog.readableRec t && decide (t < Try.prog.types.size)) = true := by kernel_rfl
theorem fact_io : (Rows.fnExactNormalizeEntryRow.ifacesOut == Try.f6.resultTypes.toList.any (Try.prog.ifacesRec ·)) = true := by kernel_rfl
theorem fact_loo : (Rows.fnExactNormalizeEntryRow.loopsOut == Try.f6.resultTypes.toList.any (Try.prog.loopsFrom ·)) = true := by kernel_rfl
theorem fact_pk : (Rows.fnExactNormalizeEntryRow.plainKeys == Try.prog.plainKeys) = true := by kernel_rfl
theorem fact_sh : Rows.fnExactNormalizeEntryRow.shortTexts.isNone = true := by kernel_rfl
theorem fact_li : (Rows.fnExactNormalizeEntryRow.lifted == Try.prog.liftsFinal) = true := by rw [fact_finals]; rfl
theorem fact_mk : (Try.prog.make == some Rows.fnExactNormalizeEntryRow.make) = true := by rw [fact_make]; rfl
theorem fact_kd : (Rows.fnExactNormalizeEntryRow.kinds == (if Rows.fnExactNormalizeEntryRow.domain.isEmpty then [] else Try.f6.params.toList.map fun t => match Try.prog.underlying t with | some (.int k) => some k | _ => none)) = true := by kernel_rfl
theorem fact_pi : (Rows.fnExactNormalizeEntryRow.pinned == Rows.fnExactNormalizeEntryRow.pinnedBy) = true := by kernel_rfl
theorem fact_ve : (Rows.fnExactNormalizeEntryRow.veiled == (Try.f6.params.toList ++ Rows.fnExactNormalizeEntrySpec.plain.varTypes Try.prog ++ Try.f6.resultTypes.toList).any (Try.prog.veiledRec ·)) = true := by kernel_rfl
theorem fact_vf : Rows.fnExactNormalizeEntryRow.veiledFits Try.prog Try.f6.params.toList (Try.f6.params.toList ++ Rows.fnExactNormalizeEntrySpec.plain.varTypes Try.prog ++ Try.f6.resultTypes.toList) = true := by kernel_rfl
set_option maxRecDepth 100000 in
theorem facts : joinedFacts Try.prog 6 Try.f6 Rows.fnExactNormalizeEntrySpec Rows.fnExactNormalizeEntryRow = true := facts_of fact_wf fact_laid fact_rowed fact_pars fact_tie fact_st fact_pst fact_kn fact_pkn fact_inp fact_unf fact_rec fact_nam fact_mp fact_ifc fact_mo fact_lo fact_wk fact_vs fact_res fact_io fact_loo fact_pk fact_sh fact_hd fact_me fact_li fact_mk fact_kd fact_pi fact_ve fact_vf
theorem fact_fn : Try.prog.funcNamed Rows.fnExactNormalizeEntryRow.func = some 6 := by kernel_rfl
theorem fact_inst : Try.f6.isInstance Try.prog Rows.fnExactNormalizeEntryRow.origin Rows.fnExactNormalizeEntryRow.targs := of_decide_eq_true (by kernel_rfl)
theorem fact_wrap : Try.f6.isWrapper Try.prog Rows.fnExactNormalizeEntryRow.wrapper Rows.fnExactNormalizeEntryRow.mainSum := by unfold Func.isWrapper; first | (rw [if_pos (by decide +kernel)]; kernel_rfl) | (rw [if_neg (by decide +kernel)]; exact ⟨rfl, rfl⟩)
theorem over : Rows.fnExactNormalizeEntryRow.holds Try.pinned (OpenSpec.ofChange Rows.fnExactNormalizeEntrySpec) :=
  OpenClaim.holds_of_wide 6 Try.f6 rfl rfl rfl rfl rfl rfl rfl ⟨rfl, rfl, rfl, rfl, rfl⟩ rfl rfl rfl rfl rfl fact_fn Try.func6 facts fact_inst fact_wrap
    (fun os started H enc _ => lifted os started H enc)
theorem proved : Rows.FnExactNormalizeEntrySaid := over
#print axioms proved
end Go.Proofs.Ytpaaolnkmopiiaa.lawNormE
