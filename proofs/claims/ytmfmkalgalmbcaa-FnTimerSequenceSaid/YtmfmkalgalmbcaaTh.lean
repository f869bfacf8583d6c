/- A timer and events drawn from a code. Conditions: as the contract says. -/
import Derived.Test.YtmfmkalgalmbcaaTg
import Derived.Test.YtmfmkalgalmbcaaTf
namespace Go.Proofs.Ytmfmkalgalmbcaa
open Go.RowKit

theorem grownSet (w : World) (a : Addr) (u : Value) : w.grownBy (w.setCell a u) (some a.block) := ⟨rfl, rfl, rfl, by simp, fun k _ hne => heap_setCell_other w a k u (fun e => hne (by rw [e]))⟩
theorem set8_grown (w : World) (H : Nat) (t : Tm) : w.grownBy (Set8 w H t) (some H) :=
  grownTrans (grownTrans (grownTrans (grownTrans (grownTrans (grownTrans (grownTrans (grownSet w ⟨H, 0, none⟩ _) (grownSet _ ⟨H, 1, none⟩ _)) (grownSet _ ⟨H, 2, none⟩ _)) (grownSet _ ⟨H, 3, none⟩ _)) (grownSet _ ⟨H, 4, none⟩ _)) (grownSet _ ⟨H, 5, none⟩ _)) (grownSet _ ⟨H, 6, none⟩ _)) (grownSet _ ⟨H, 7, none⟩ _)
def DrawnRun (w : World) (e : Ending) (w' : World) : Prop := ∃ (t : Tm) (v : Value) (es : List Ev), e = .returned (.tuple #[.agg #[.int .i64 t.ph, .int .i64 t.la, .int .i64 t.ins, .int .i64 t.dn, .int .i64 t.st, .int .i64 t.sp, .int .i64 t.pe, .bool t.fl], v]) ∧ FEvs w.heap.size w' v es ∧ es.length ≤ 62 ∧ Below w.heap.size w w'
set_option maxRecDepth 100000 in
set_option maxHeartbeats 8000000 in
theorem drawRun (A : Option Addr) (c : Nat) (xs : List Int) (w : World) (hx : BytesAt w A xs) (hl : xs.length ≤ 4096) : Calls Try.prog 13 #[.slice A xs.length c] w (DrawnRun w) := by
  obtain ⟨w0, hw0⟩ : ∃ w0, w.alloc (.cells #[.int .i64 0, .int .i64 0, .int .i64 0, .int .i64 0, .int .i64 0, .int .i64 0, .int .i64 0, .bool false] 26) = w0 := ⟨_, rfl⟩
  have rH0 : w0.heap[w.heap.size]? = some (.cells #[.int .i64 0, .int .i64 0, .int .i64 0, .int .i64 0, .int .i64 0, .int .i64 0, .int .i64 0, .bool false] 26 (0, 0)) := by rw [← hw0]; exact heap_alloc_new w _
  have hB0 : Below w.heap.size w w0 := by rw [← hw0]; exact (by repeat (first | exact Below.refl _ _ | assumption | refine Below.setCell ?_ (by first | omega | (simp <;> omega)) _ | refine Below.alloc ?_ (by first | omega | (simp <;> omega)) _ | refine Below.drew ?_))
  have hz0 : w.heap.size < w0.heap.size := (Array.getElem?_eq_some_iff.1 rH0).1
  have hx0 := hx.below hB0
  go_enter Try.func13, Try.ntmps13
  go_wp2_with fail
  clear hw0
  refine (newSrc A c xs _ hx0 hl).mono ?_
  rintro e w1 ⟨rfl, hd1, hb1⟩
  have rH1 := rowB hb1 rH0
  have hB1 := belowStep hb1 hB0
  have hz1 := hb1.size
  have hneH : w.heap.size ≠ w0.heap.size := by omega
  clear hb1 rH0 hB0 hx0
  go_wp2_with fail
  refine (srcAny w0.heap.size A c xs _ hd1 hl).mono ?_
  rintro e w2 ⟨t, a, rfl, hd2, hg2⟩
  have rH2 := rowG hg2 rH1 hneH
  have hB2 : Below w.heap.size w w2 := belowGrown hB1 hg2 hB1.size (fun k hk => by injection hk with hk; omega)
  have hlt0 : w0.heap.size < w2.heap.size := hd2.lt
  obtain ⟨w3, hw3⟩ : ∃ w3, w2.alloc (.cells #[.int .i64 t.ph, .int .i64 t.la, .int .i64 t.ins, .int .i64 t.dn, .int .i64 t.st, .int .i64 t.sp, .int .i64 t.pe, .bool t.fl] 26) = w3 := ⟨_, rfl⟩
  have hb3 : Below w2.heap.size w2 w3 := by rw [← hw3]; exact (by repeat (first | exact Below.refl _ _ | assumption | refine Below.setCell ?_ (by first | omega | (simp <;> omega)) _ | refine Below.alloc ?_ (by first | omega | (simp <;> omega)) _ | refine Below.drew ?_))
  have rT3 : w3.heap[w2.heap.size]? = some (.cells #[.int .i64 t.ph, .int .i64 t.la, .int .i64 t.ins, .int .i64 t.dn, .int .i64 t.st, .int .i64 t.sp, .int .i64 t.pe, .bool t.fl] 26 (0, 0)) := by rw [← hw3]; exact heap_alloc_new w2 _
  have hneT : w2.heap.size ≠ w0.heap.size := by omega
  have rH3 := rowB hb3 rH2
  have hB3 := belowStep hb3 hB2
  have hd3 := hd2.below hb3
  clear hd1 hg2 rH1 hB1 rH2 hB2 hb3 hd2
  go_wp2_with fail
  clear hw3
  obtain ⟨⟨i0, i1, i2, i3, i4, i5, i6, i7⟩, -⟩ := zcells rT3
  have RT3 := Lib.hid rT3
  have RH3 := Lib.hid rH3
  have HD3 := Lib.hid hd3
  clear rT3 rH3 hd3
  go_region_with (first
    | (go_at_call 24; refine (srcEvents w0.heap.size A c xs t _ (by exact HD3.out.below (by repeat (first | exact Below.refl _ _ | assumption | refine Below.setCell ?_ (by first | omega | (simp <;> omega)) _ | refine Below.alloc ?_ (by first | omega | (simp <;> omega)) _ | refine Below.drew ?_))) hl).mono ?_; rintro e w4 ⟨v, es, rfl, hE4, hes, hd4, hg4⟩
        ; have hg4 := unD hg4
        ; have hB4 : Below w.heap.size w w4 := belowGrown hB3 hg4 hB3.size (fun k hk => by injection hk with hk; omega)
        ; have RT4 := Lib.hid (rowG hg4 RT3.out hneT)
        ; have RH4 := Lib.hid (rowG hg4 RH3.out hneH)
        ; obtain ⟨⟨i0, i1, i2, i3, i4, i5, i6, i7⟩, -⟩ := zcells RT4.out
        ; obtain ⟨⟨j0, j1, j2, j3, j4, j5, j6, j7⟩, f0, f1, f2, f3, f4, f5, f6, f7⟩ := zcells RH4.out
        ; obtain ⟨b4, c4, rfl, -, -, -⟩ := hE4.evs
        ; have hw4 : w.heap.size + 1 ≤ w3.heap.size := (Array.getElem?_eq_some_iff.1 RH3.out).1
        ; have HE4 := Lib.hid (hE4.mono (show w.heap.size + 1 ≤ _ by simpa using hw4))
        ; clear hd4 hg4 hE4))
  all_goals
    have HR := Lib.hid (set8_row RH4.out t)
    have HB := Lib.hid (set8_below hB4 (Nat.le_refl _) t)
    have HE := Lib.hid ((HE4.out.grown (set8_grown w4 w.heap.size t) (Nat.lt_succ_self _)).mono (Nat.le_succ _))
    unfold Set8 at HR HB HE
    go_wp2_with fail
    obtain ⟨⟨k0, k1, k2, k3, k4, k5, k6, k7⟩, -⟩ := zcells HR.out
    exact bodyPost_ret (v := .tuple #[.agg #[.int .i64 t.ph, .int .i64 t.la, .int .i64 t.ins, .int .i64 t.dn, .int .i64 t.st, .int .i64 t.sp, .int .i64 t.pe, .bool t.fl], .slice (some ⟨b4, 0, none⟩) es.length c4]) (by simp only [results, Try.results13]; simp [go_sem, k0, k1, k2, k3, k4, k5, k6, k7]) rfl ⟨t, _, es, rfl, HE.out, hes, HB.out⟩
end Go.Proofs.Ytmfmkalgalmbcaa
