/- Entries normalized, at both packages. Conditions: as each contract says. -/
import Derived.Test.YtejacbgogcjbnaaPo2
import Derived.Deep.AppendLies
import Derived.Deep.RegionLaw
namespace Go.Proofs.Ytejacbgogcjbnaa
open Go.RowKit

theorem wp_append_one {w : World} {o : Oper} {a : Act} {K : Act → World → Prop} {Q : Exit → Act → World → Prop} (s x : Operand)
    (hop : o.op = Op.call { callee := Callee.builtin Builtin.append, args := #[s, x], argTypes := #[29, 29] })
    (B : Nat) (v : Value) (xs : List Int) (n : Int) (hs : a.eval s = v) (hown : Fresh B w v xs) (g : Nat) (hx : a.eval x = .slice (some ⟨g, 0, none⟩) 1 1)
    (hcell : w.cell? ⟨g, 0, none⟩ = some (.int .i64 n)) (hl : xs.length ≤ 1048576) (hB : B ≤ w.heap.size)
    (h : ∀ v' w', Fresh B w' v' (xs ++ [n]) → w.grownBy w' v.ownBlock → Below B w w' → K (a.put o.dst v') w') : o.wp Try.prog a w K Q := by
  obtain ⟨i0, hi, hz0, hz1, hz2⟩ := info_parts intInfo
  refine wp_append_own _ s x 29 hop B 2 i0 (.int .i64 0) 1 8 Try.underlying29 hi hz0 hz1 hz2 rfl (by decide) v xs.length (xs.map (Value.int .i64)) hs hown ⟨g, 0, none⟩ 1 1 [.int .i64 n] hx rfl ?_ ?_ ?_ ?_ hB ?_
  · intro j u hj
    match j, hj with
    | 0, hj => simp at hj; subst hj; simpa [Addr.add] using hcell
  · intro u hu; simp at hu; subst hu; rfl
  · unfold maxLen; omega
  · omega
  · intro v' w' hown' hgrow _
    refine h v' w' ?_ hgrow ((Below.refl _ _).grown hgrow hB hown.block)
    simpa [Fresh] using hown'
theorem step_append_one {w : World} {ops : Array Oper} {o : Oper} {a : Act} {K : Act → World → Prop} {Q : Exit → Act → World → Prop} {E : Prop} (hgd : o.guard = none) (s x : Operand)
    (hop : o.op = Op.call { callee := Callee.builtin Builtin.append, args := #[s, x], argTypes := #[29, 29] })
    (B : Nat) (v : Value) (xs : List Int) (n : Int) (hs : a.eval s = v) (hown : Fresh B w v xs) (g : Nat) (hx : a.eval x = .slice (some ⟨g, 0, none⟩) 1 1)
    (hcell : w.cell? ⟨g, 0, none⟩ = some (.int .i64 n)) (hl : xs.length ≤ 1048576) (hB : B ≤ w.heap.size)
    (h : ∀ v' w', Fresh B w' v' (xs ++ [n]) → w.grownBy w' v.ownBlock → Below B w w' → K (a.put o.dst v') w') :
    if Region.wanted o (yielded ops a.tmps) = true then Oper.wp Try.prog o a w K Q else E := by
  have hw : Region.wanted o (yielded ops a.tmps) = true := by simp [Region.wanted, hgd]
  rw [if_pos hw]
  exact wp_append_one s x hop B v xs n hs hown g hx hcell hl hB h
theorem Fresh.al {B : Nat} {w : World} {v : Value} {xs : List Int} (h : Fresh B w v xs) (o : Obj) : Fresh B (w.alloc o) v xs := World.ownsRow.alloc h o
theorem Fresh.dr {B : Nat} {w : World} {v : Value} {xs : List Int} (h : Fresh B w v xs) : Fresh B w.drew v xs := h
def normTo (r : RR) (xs : List Int) (i : Nat) : List Int := (xs.take i).map r.limited
theorem normTo_more (r : RR) (xs : List Int) (i : Nat) (hi : i < xs.length) {x : Int} (hx : xs.getD i 0 = x) : normTo r xs (i + 1) = normTo r xs i ++ [r.limited x] := by
  rw [normTo, take_get xs i hi, hx]; simp [normTo]
theorem normTo_len (r : RR) (xs : List Int) (i : Nat) : (normTo r xs i).length ≤ i := by simp [normTo]; omega
theorem normTo_end (r : RR) (xs : List Int) (i : Nat) (h : i = (r.allowed xs).toNat ∨ (xs.length ≤ i ∧ xs.length ≤ (r.allowed xs).toNat)) : normTo r xs i = normL r xs := by
  unfold normTo normL
  rcases h with h | h
  · rw [h]
  · rw [List.take_of_length_le h.1, List.take_of_length_le h.2]
def EntPost (k : Int) (xs : List Int) (w : World) (e : Ending) (w' : World) : Prop := ∃ v, e = .returned (.agg #[.int .i64 k, v]) ∧ Fresh w.heap.size w' v xs ∧ Below w.heap.size w w'
structure Four (w W : World) (r : RR) (k1 : Int) (S1 : Value) : Prop where
  below : Below w.heap.size w W
  size : W.heap.size = w.heap.size + 1 + 1 + 1 + 1
  out : W.heap[w.heap.size + 1 + 1 + 1]? = some (.cells #[.int .i64 k1, .slice none 0 0] 32 (0, 0))
  res : W.heap[w.heap.size + 1 + 1]? = some (.cells #[.int .i64 0, .slice none 0 0] 32 (0, 0))
  ent : W.heap[w.heap.size + 1]? = some (.cells #[.int .i64 k1, S1] 32 (0, 0))
  box : BoxRR W w.heap.size r
theorem four (w : World) (r : RR) (k1 : Int) (S1 : Value) : Four w (((((w.alloc (.cells #[.int .i64 r.att, .int .i64 r.lim, .int .i64 r.catt, .int .i64 r.cut, .int .i64 r.adv] 25)).alloc (.cells #[.int .i64 k1, S1] 32)).alloc (.cells #[.int .i64 0, .slice none 0 0] 32)).alloc (.cells #[.int .i64 k1, .slice none 0 0] 32))) r k1 S1 := by
  obtain ⟨o1, ho1⟩ : ∃ o1, (Obj.cells #[.int .i64 r.att, .int .i64 r.lim, .int .i64 r.catt, .int .i64 r.cut, .int .i64 r.adv] 25) = o1 := ⟨_, rfl⟩
  have hbox := BoxRR.new w r 25
  rw [ho1] at hbox ⊢
  have b1 : Below w.heap.size w (w.alloc o1) := (Below.refl _ _).alloc (Nat.le_refl _) _
  have s1 : (w.alloc o1).heap.size = w.heap.size + 1 := by simp
  generalize w.alloc o1 = w1 at *
  have h2 := heap_alloc_new w1 (.cells #[.int .i64 k1, S1] 32)
  have b2 : Below w1.heap.size w1 (w1.alloc (.cells #[.int .i64 k1, S1] 32)) := (Below.refl _ _).alloc (Nat.le_refl _) _
  have s2 : (w1.alloc (.cells #[.int .i64 k1, S1] 32)).heap.size = w1.heap.size + 1 := by simp
  generalize w1.alloc (.cells #[.int .i64 k1, S1] 32) = w2 at *
  have h3 := heap_alloc_new w2 (.cells #[.int .i64 0, .slice none 0 0] 32)
  have b3 : Below w2.heap.size w2 (w2.alloc (.cells #[.int .i64 0, .slice none 0 0] 32)) := (Below.refl _ _).alloc (Nat.le_refl _) _
  have s3 : (w2.alloc (.cells #[.int .i64 0, .slice none 0 0] 32)).heap.size = w2.heap.size + 1 := by simp
  generalize w2.alloc (.cells #[.int .i64 0, .slice none 0 0] 32) = w3 at *
  have h4 := heap_alloc_new w3 (.cells #[.int .i64 k1, .slice none 0 0] 32)
  have b4 : Below w3.heap.size w3 (w3.alloc (.cells #[.int .i64 k1, .slice none 0 0] 32)) := (Below.refl _ _).alloc (Nat.le_refl _) _
  have s4 : (w3.alloc (.cells #[.int .i64 k1, .slice none 0 0] 32)).heap.size = w3.heap.size + 1 := by simp
  generalize w3.alloc (.cells #[.int .i64 k1, .slice none 0 0] 32) = w4 at *
  refine ⟨belowStep b4 (belowStep b3 (belowStep b2 b1)), by omega, ?_, ?_, ?_, ((hbox.below b2).below b3).below b4⟩
  · rw [show w.heap.size + 1 + 1 + 1 = w3.heap.size from by omega]; exact h4
  · rw [show w.heap.size + 1 + 1 = w2.heap.size from by omega, b4.block _ (by omega)]; exact h3
  · rw [show w.heap.size + 1 = w1.heap.size from by omega, b4.block _ (by omega), b3.block _ (by omega)]; exact h2
theorem kept {B H b off i : Nat} {A1 : Value} {x : Int} {w w' : World} {r : RR} (hb : Below B w w') (hH : H + 1 < B) (hbB : b < B) (h0 : w.cell? ⟨H, 0, none⟩ = some (.int .i64 r.att)) (h1 : w.cell? ⟨H, 1, none⟩ = some (.int .i64 r.lim)) (h2 : w.cell? ⟨H, 2, none⟩ = some (.int .i64 r.catt)) (h3 : w.cell? ⟨H, 3, none⟩ = some (.int .i64 r.cut)) (h4 : w.cell? ⟨H, 4, none⟩ = some (.int .i64 r.adv)) (h5 : w.cell? ⟨H + 1, 1, none⟩ = some A1) (h6 : w.cell? ⟨b, off + i, none⟩ = some (.int .i64 x)) :
    w'.cell? ⟨H, 0, none⟩ = some (.int .i64 r.att) ∧ w'.cell? ⟨H, 1, none⟩ = some (.int .i64 r.lim) ∧ w'.cell? ⟨H, 2, none⟩ = some (.int .i64 r.catt) ∧ w'.cell? ⟨H, 3, none⟩ = some (.int .i64 r.cut) ∧ w'.cell? ⟨H, 4, none⟩ = some (.int .i64 r.adv) ∧ w'.cell? ⟨H + 1, 1, none⟩ = some A1 ∧ w'.cell? ⟨b, off + i, none⟩ = some (.int .i64 x) :=
  ⟨(hb.cell (p := ⟨H, 0, none⟩) (show H < B by omega)).trans h0, (hb.cell (p := ⟨H, 1, none⟩) (show H < B by omega)).trans h1, (hb.cell (p := ⟨H, 2, none⟩) (show H < B by omega)).trans h2, (hb.cell (p := ⟨H, 3, none⟩) (show H < B by omega)).trans h3, (hb.cell (p := ⟨H, 4, none⟩) (show H < B by omega)).trans h4, (hb.cell (p := ⟨H + 1, 1, none⟩) hH).trans h5, (hb.cell (p := ⟨b, off + i, none⟩) hbB).trans h6⟩
theorem keptSet {H K b off i : Nat} {A1 V : Value} {x : Int} {w' : World} {r : RR} (hK : H + 1 < K) (hbK : b ≠ K) (hs : w'.cell? ⟨H, 0, none⟩ = some (.int .i64 r.att) ∧ w'.cell? ⟨H, 1, none⟩ = some (.int .i64 r.lim) ∧ w'.cell? ⟨H, 2, none⟩ = some (.int .i64 r.catt) ∧ w'.cell? ⟨H, 3, none⟩ = some (.int .i64 r.cut) ∧ w'.cell? ⟨H, 4, none⟩ = some (.int .i64 r.adv) ∧ w'.cell? ⟨H + 1, 1, none⟩ = some A1 ∧ w'.cell? ⟨b, off + i, none⟩ = some (.int .i64 x)) :
    (w'.setCell ⟨K, 1, none⟩ V).cell? ⟨H, 0, none⟩ = some (.int .i64 r.att) ∧ (w'.setCell ⟨K, 1, none⟩ V).cell? ⟨H, 1, none⟩ = some (.int .i64 r.lim) ∧ (w'.setCell ⟨K, 1, none⟩ V).cell? ⟨H, 2, none⟩ = some (.int .i64 r.catt) ∧ (w'.setCell ⟨K, 1, none⟩ V).cell? ⟨H, 3, none⟩ = some (.int .i64 r.cut) ∧ (w'.setCell ⟨K, 1, none⟩ V).cell? ⟨H, 4, none⟩ = some (.int .i64 r.adv) ∧ (w'.setCell ⟨K, 1, none⟩ V).cell? ⟨H + 1, 1, none⟩ = some A1 ∧ (w'.setCell ⟨K, 1, none⟩ V).cell? ⟨b, off + i, none⟩ = some (.int .i64 x) := by
  have h1 : ∀ (g p : Nat), g ≠ K → (w'.setCell ⟨K, 1, none⟩ V).cell? ⟨g, p, none⟩ = w'.cell? ⟨g, p, none⟩ := by
    intro g p hg
    refine World.cell?_setCell_other _ _ _ _ ?_
    intro e
    exact hg (by have := congrArg Addr.block e; simpa using this.symm)
  have hA : H ≠ K := by omega
  have hE : H + 1 ≠ K := by omega
  exact ⟨(h1 _ _ hA).trans hs.1, (h1 _ _ hA).trans hs.2.1, (h1 _ _ hA).trans hs.2.2.1, (h1 _ _ hA).trans hs.2.2.2.1, (h1 _ _ hA).trans hs.2.2.2.2.1, (h1 _ _ hE).trans hs.2.2.2.2.2.1, (h1 _ _ hbK).trans hs.2.2.2.2.2.2⟩
theorem row_set {w : World} {g : Nat} {a v V : Value} {T : TypeId} (h : w.heap[g]? = some (.cells #[a, v] T (0, 0))) : (w.setCell ⟨g, 1, none⟩ V).heap[g]? = some (.cells #[a, V] T (0, 0)) := by
  simp [World.setCell, Array.getElem?_modify, h]
set_option maxRecDepth 100000 in
set_option maxHeartbeats 4000000 in
theorem specNorm (r : RR) (k1 : Int) (A1 : Option Addr) (c1 : Nat) (xs1 : List Int) (w : World) (hx : IntsAt w A1 xs1) (h5 : xs1.length ≤ 5) (hv : xs1.all isRes = true) (hr : r.ok = true) :
    Calls Try.prog 28 #[.agg #[.int .i64 r.att, .int .i64 r.lim, .int .i64 r.catt, .int .i64 r.cut, .int .i64 r.adv], .agg #[.int .i64 k1, .slice A1 xs1.length c1]] w (EntPost k1 (normL r xs1) w) := by
  have HV := Lib.hid hv
  have HR := Lib.hid hr
  have ha := allowed_pos hr xs1
  obtain ⟨al, hal⟩ : ∃ al, r.allowed xs1 = al := ⟨_, rfl⟩
  rw [hal] at ha
  have HAL := Lib.hid hal
  clear hv hr hal
  have h4 := four w r k1 (.slice A1 xs1.length c1)
  obtain ⟨hB4, hz4, hrow4, hq4, hent4, hbx4⟩ := h4
  have hx4 := hx.below hB4
  have he4 := cell_of_row _ _ 1 _ _ (0, 0) hent4
  have HROW4 := Lib.hid hrow4
  have HQ4 := Lib.hid hq4
  have HBX4 := Lib.hid hbx4
  have HE4 := Lib.hid he4
  have HZ4 := Lib.hid hz4
  clear hrow4 hq4 hbx4 he4 hz4 hent4
  go_enter Try.func28, Try.ntmps28
  go_wp2_with fail
  refine (specAllowed r A1 c1 xs1 _ (by exact hx4) h5 HV.out HR.out).mono ?_
  rintro e w1 ⟨rfl, hb1⟩
  rw [HAL.out]
  have hz4 := HZ4.out
  have hz1 : w.heap.size + 1 + 1 + 1 < w1.heap.size := by have := hb1.size; omega
  have hrow1 := (hb1.block (w.heap.size + 1 + 1 + 1) (by omega)).trans HROW4.out
  have hq1 := (hb1.block (w.heap.size + 1 + 1) (by omega)).trans HQ4.out
  have hbx1 := HBX4.out.below hb1
  have he1 := (hb1.cell (p := ⟨w.heap.size + 1, 1, none⟩) (show w.heap.size + 1 < _ by omega)).trans HE4.out
  have hB1 := belowStep hb1 hB4
  have hx1 := hx4.below hb1
  have hF1 : Fresh (w.heap.size + 1 + 1 + 1 + 1) w1 (.slice none 0 0) [] := Fresh.nil _ _
  clear hx4 hb1 hB4 hz4 HROW4 HQ4 HBX4 HE4 HZ4
  go_wp2_with fail
  go_loopw [7] (fun j wr => ∃ (i : Nat) (v : Value), i ≤ xs1.length ∧ (i : Int) ≤ al ∧ j = .int .i64 i ∧ wr.heap[w.heap.size + 1 + 1 + 1]? = some (.cells #[.int .i64 k1, v] 32 (0, 0)) ∧ Fresh (w.heap.size + 1 + 1 + 1 + 1) wr v (normTo r xs1 i) ∧ Below (w.heap.size + 1 + 1 + 1) w1 wr) (fun j _ => xs1.length - (intOf j).toNat)
  case atStart => exact ⟨0, _, Nat.zero_le _, by omega, rfl, hrow1, by simpa [normTo] using hF1, Below.refl _ _⟩
  case round =>
    obtain ⟨i, v, hi, hia, rfl, hrow, hF, hbw⟩ := hrel
    clear hrow1 hF1
    have hBw : Below w.heap.size w wr := hB1.trans (hbw.mono (by omega))
    have hbx : BoxRR wr w.heap.size r := by
      obtain ⟨g0, g1, g2, g3, g4⟩ := hbx1
      exact ⟨(hbw.cell (p := ⟨w.heap.size, 0, none⟩) (by simp; omega)).trans g0, (hbw.cell (p := ⟨w.heap.size, 1, none⟩) (by simp; omega)).trans g1, (hbw.cell (p := ⟨w.heap.size, 2, none⟩) (by simp; omega)).trans g2, (hbw.cell (p := ⟨w.heap.size, 3, none⟩) (by simp; omega)).trans g3, (hbw.cell (p := ⟨w.heap.size, 4, none⟩) (by simp; omega)).trans g4⟩
    have he : wr.cell? ⟨w.heap.size + 1, 1, none⟩ = some (.slice A1 xs1.length c1) := (hbw.cell (p := ⟨w.heap.size + 1, 1, none⟩) (show w.heap.size + 1 < w.heap.size + 1 + 1 + 1 by omega)).trans he1
    have hxr := hx.below hBw
    have hzr : w.heap.size + 1 + 1 + 1 < wr.heap.size := Nat.lt_of_lt_of_le hz1 hbw.size
    have hk0 : wr.cell? ⟨w.heap.size + 1 + 1 + 1, 0, none⟩ = some (.int .i64 k1) := cell_of_row wr _ 0 _ _ (0, 0) hrow
    have hv1 : wr.cell? ⟨w.heap.size + 1 + 1 + 1, 1, none⟩ = some v := cell_of_row wr _ 1 _ _ (0, 0) hrow
    have hfr : wr.frozen? ⟨w.heap.size + 1 + 1 + 1, 1, none⟩ = false := row_free hrow
    have HROW := Lib.hid hrow
    have HBX := Lib.hid hbx
    obtain ⟨b0, b1, b2, b3, b4⟩ := hbx
    clear hrow
    by_cases hlt : i < xs1.length
    · by_cases hla : (i : Int) < al
      · obtain ⟨b, off, x, rfl, hb, hc, HX⟩ := hxr.at_ hlt
        obtain ⟨b', off', e', hbw0, -⟩ := hx i hlt
        obtain ⟨rfl, rfl⟩ : b = b' ∧ off = off' := by have e2 := Option.some.inj e'; exact ⟨congrArg Addr.block e2, congrArg Addr.off e2⟩
        clear e'
        have p0 : (0 : Int) ≤ (i : Int) := by omega
        have p1 : (i : Int) < (xs1.length : Int) := by omega
        have hll : (normTo r xs1 i).length ≤ 1048576 := by have := normTo_len r xs1 i; omega
        obtain ⟨l, hl⟩ : ∃ l, normTo r xs1 i = l := ⟨_, rfl⟩
        rw [hl] at hF hll
        have HL : Hid (normTo r xs1 (i + 1) = l ++ [r.limited x]) := by unfold Hid; rw [normTo_more r xs1 i hlt HX.out, hl]
        have hHz : w.heap.size + 1 + 1 + 1 + 1 ≤ wr.heap.size := hzr
        have hzA : w.heap.size < wr.heap.size := by omega
        have hzE : w.heap.size + 1 < wr.heap.size := by omega
        have hzX : b < wr.heap.size := by omega
        have hzE4 : w.heap.size + 1 < w.heap.size + 1 + 1 + 1 + 1 := by omega
        have hzE3 : w.heap.size + 1 < w.heap.size + 1 + 1 + 1 := by omega
        have hzK : w.heap.size + 1 + 1 + 1 < w.heap.size + 1 + 1 + 1 + 1 := by omega
        have hbX4 : b < w.heap.size + 1 + 1 + 1 + 1 := by have := hbw0; omega
        have hbX3 : b ≠ w.heap.size + 1 + 1 + 1 := by have := hbw0; omega
        clear hl
        go_wp2_with fail
        go_region_law (first | (refine step_append_one (by rfl) _ _ (by rfl) (w.heap.size + 1 + 1 + 1 + 1) _ l (r.limited x) (by rfl) (hF2.al _) w2.heap.size (by rfl) (by simp) hll (by simp; omega) ?_; intro v3 w3 hF3 hg3 hb3; obtain ⟨A3, c3, he3, -, -⟩ := hF3.ints; obtain ⟨n3, hn3⟩ : ∃ n3, (l ++ [r.limited x]).length = n3 := ⟨_, rfl⟩; rw [hn3] at he3; subst he3; clear hn3; have hbC3 : Below (w.heap.size + 1 + 1 + 1 + 1) wr w3 := (hbC2.alloc hz2 _).trans hb3; have hv3 := (hbC3.cell (p := ⟨w.heap.size + 1 + 1 + 1, 1, none⟩) hzK).trans hv1; have hfr3 := (hbC3.frozen (p := ⟨w.heap.size + 1 + 1 + 1, 1, none⟩) hzK).trans hfr) | (go_simp; go_at_call 58; refine (specLimited r x _).mono ?_; rintro e w2 ⟨rfl, hb2⟩; have hbC2 : Below (w.heap.size + 1 + 1 + 1 + 1) wr w2 := ((Below.refl _ _).drew).trans (hb2.mono hHz); have hv2 := (hbC2.cell (p := ⟨w.heap.size + 1 + 1 + 1, 1, none⟩) hzK).trans hv1; have hF2 := hF.dr.below hb2; have hz2 : w.heap.size + 1 + 1 + 1 < w2.heap.size := Nat.lt_of_lt_of_le hzr hb2.size))
        all_goals
          have hrow3 := row_set (V := .slice A3 n3 c3) ((hbC3.block (w.heap.size + 1 + 1 + 1) hzK).trans HROW.out)
          have hF4 := hF3.setCell (a := ⟨w.heap.size + 1 + 1 + 1, 1, none⟩) hzK (.slice A3 n3 c3)
          have hbw4 : Below (w.heap.size + 1 + 1 + 1) w1 (w3.setCell ⟨w.heap.size + 1 + 1 + 1, 1, none⟩ (.slice A3 n3 c3)) := (hbw.trans (hbC3.mono (Nat.le_succ _))).setCell (Nat.le_refl _) _
          clear hF3 hg3 hb3 hv3 hfr3 hbC3 hF2 hz2 hv2 hbC2
          go_wp2_with fail
          go_roundw
          case rel => exact ⟨i + 1, _, by omega, by omega, by go_num, hrow3, by rw [HL.out]; exact hF4, hbw4⟩
          case measure => simp [intOf]; omega
      · have hend : Hid (normTo r xs1 i = normL r xs1) := normTo_end r xs1 i (.inl (by rw [HAL.out]; omega))
        obtain ⟨Av, cv, rfl, -, -⟩ := hF.ints
        have hrow := HROW.out
        have hqr := (hbw.block (w.heap.size + 1 + 1) (by omega)).trans hq1
        obtain ⟨n, hn⟩ : ∃ n, (normTo r xs1 i).length = n := ⟨_, rfl⟩
        rw [hn] at hF hv1
        have c0 : wr.cell? ⟨w.heap.size + 1 + 1, 0, none⟩ = some (.int .i64 0) := cell_of_row wr _ 0 _ _ (0, 0) hqr
        have c1' : wr.cell? ⟨w.heap.size + 1 + 1, 1, none⟩ = some (.slice none 0 0) := cell_of_row wr _ 1 _ _ (0, 0) hqr
        have f0 : wr.frozen? ⟨w.heap.size + 1 + 1, 0, none⟩ = false := row_free hqr
        have f1 : wr.frozen? ⟨w.heap.size + 1 + 1, 1, none⟩ = false := row_free hqr
        clear hn HROW hrow hqr
        go_wp2_with fail
        have hF5 : Fresh w.heap.size ((wr.setCell ⟨w.heap.size + 1 + 1, 0, none⟩ (.int .i64 k1)).setCell ⟨w.heap.size + 1 + 1, 1, none⟩ (.slice Av n cv)) (.slice Av n cv) (normL r xs1) := by
          rw [← hend.out]
          exact ((hF.setCell (a := ⟨w.heap.size + 1 + 1, 0, none⟩) (show w.heap.size + 1 + 1 < _ by omega) _).setCell (a := ⟨w.heap.size + 1 + 1, 1, none⟩) (show w.heap.size + 1 + 1 < _ by omega) _).mono (by omega)
        have hB5 : Below w.heap.size w ((wr.setCell ⟨w.heap.size + 1 + 1, 0, none⟩ (.int .i64 k1)).setCell ⟨w.heap.size + 1 + 1, 1, none⟩ (.slice Av n cv)) := (hBw.setCell (p := ⟨w.heap.size + 1 + 1, 0, none⟩) (show w.heap.size ≤ w.heap.size + 1 + 1 by omega) _).setCell (p := ⟨w.heap.size + 1 + 1, 1, none⟩) (show w.heap.size ≤ w.heap.size + 1 + 1 by omega) _
        exact bodyPost_ret (v := .agg #[.int .i64 k1, .slice Av n cv]) (by simp [results, Try.results28, go_sem, c0, c1']) rfl ⟨_, rfl, hF5, hB5⟩
    · have hend : Hid (normTo r xs1 i = normL r xs1) := normTo_end r xs1 i (.inr ⟨by omega, by rw [HAL.out]; omega⟩)
      obtain ⟨Av, cv, rfl, -, -⟩ := hF.ints
      have hrow := HROW.out
      have hqr := (hbw.block (w.heap.size + 1 + 1) (by omega)).trans hq1
      obtain ⟨n, hn⟩ : ∃ n, (normTo r xs1 i).length = n := ⟨_, rfl⟩
      rw [hn] at hF hv1
      have c0 : wr.cell? ⟨w.heap.size + 1 + 1, 0, none⟩ = some (.int .i64 0) := cell_of_row wr _ 0 _ _ (0, 0) hqr
      have c1' : wr.cell? ⟨w.heap.size + 1 + 1, 1, none⟩ = some (.slice none 0 0) := cell_of_row wr _ 1 _ _ (0, 0) hqr
      have f0 : wr.frozen? ⟨w.heap.size + 1 + 1, 0, none⟩ = false := row_free hqr
      have f1 : wr.frozen? ⟨w.heap.size + 1 + 1, 1, none⟩ = false := row_free hqr
      clear hn HROW hrow hqr
      go_wp2_with fail
      have hF5 : Fresh w.heap.size ((wr.setCell ⟨w.heap.size + 1 + 1, 0, none⟩ (.int .i64 k1)).setCell ⟨w.heap.size + 1 + 1, 1, none⟩ (.slice Av n cv)) (.slice Av n cv) (normL r xs1) := by
        rw [← hend.out]
        exact ((hF.setCell (a := ⟨w.heap.size + 1 + 1, 0, none⟩) (show w.heap.size + 1 + 1 < _ by omega) _).setCell (a := ⟨w.heap.size + 1 + 1, 1, none⟩) (show w.heap.size + 1 + 1 < _ by omega) _).mono (by omega)
      have hB5 : Below w.heap.size w ((wr.setCell ⟨w.heap.size + 1 + 1, 0, none⟩ (.int .i64 k1)).setCell ⟨w.heap.size + 1 + 1, 1, none⟩ (.slice Av n cv)) := (hBw.setCell (p := ⟨w.heap.size + 1 + 1, 0, none⟩) (show w.heap.size ≤ w.heap.size + 1 + 1 by omega) _).setCell (p := ⟨w.heap.size + 1 + 1, 1, none⟩) (show w.heap.size ≤ w.heap.size + 1 + 1 by omega) _
      exact bodyPost_ret (v := .agg #[.int .i64 k1, .slice Av n cv]) (by simp [results, Try.results28, go_sem, c0, c1']) rfl ⟨_, rfl, hF5, hB5⟩
end Go.Proofs.Ytejacbgogcjbnaa
