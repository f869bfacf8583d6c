/- FnTimerSequence: for every code the law returns true. No conditions. -/
import Derived.Test.YtmfmkalgalmbcaaTh
import Derived.Test.YtmfmkalgalmbcaaTq
import Derived.Test.YtmfmkalgalmbcaaOpen
import Derived.Deep.RegionWith
import Derived.Deep.CutRange
namespace Go.Proofs.Ytmfmkalgalmbcaa.lawTimerSequence
open Go.RowKit Go.ChangeShapes Go.WideShapes Go.ChangeAt
set_option maxRecDepth 100000
/-- What the two halves leave: the first result's row H, the drawn timer's, the whole run's. -/
def SeqRel (w : World) (g T1 U1 : Nat) (es : List Ev) (t u : Tm) (H : Nat) (a : Tm) (wx : World) : Prop := TRow wx H a ∧ EvsAt wx (some ⟨g, 0, none⟩) es ∧ TRow wx T1 t ∧ TRow wx U1 u ∧ Below w.heap.size w wx
theorem SeqRel.of_alloc {w w9 : World} {g T1 U1 : Nat} {es : List Ev} {t u : Tm} (a : Tm) (h1 : EvsAt w9 (some ⟨g, 0, none⟩) es) (h2 : TRow w9 T1 t) (h3 : TRow w9 U1 u) (h4 : Below w.heap.size w w9) :
    SeqRel w g T1 U1 es t u w9.heap.size a (w9.alloc (.cells #[.int .i64 a.ph, .int .i64 a.la, .int .i64 a.ins, .int .i64 a.dn, .int .i64 a.st, .int .i64 a.sp, .int .i64 a.pe, .bool a.fl] 26)) :=
  ⟨heap_alloc_new w9 _, h1.below (by repeat (first | exact Below.refl _ _ | assumption | refine Below.setCell ?_ (by first | omega | (simp <;> omega)) _ | refine Below.alloc ?_ (by first | omega | (simp <;> omega)) _ | refine Below.drew ?_)), h2.below (by repeat (first | exact Below.refl _ _ | assumption | refine Below.setCell ?_ (by first | omega | (simp <;> omega)) _ | refine Below.alloc ?_ (by first | omega | (simp <;> omega)) _ | refine Below.drew ?_)), h3.below (by repeat (first | exact Below.refl _ _ | assumption | refine Below.setCell ?_ (by first | omega | (simp <;> omega)) _ | refine Below.alloc ?_ (by first | omega | (simp <;> omega)) _ | refine Below.drew ?_)), h4.alloc h4.size _⟩
theorem SeqRel.of_set {w w8 w9 : World} {g T1 U1 : Nat} {es : List Ev} {t u z : Tm} (a : Tm) (h1 : EvsAt w8 (some ⟨g, 0, none⟩) es) (h2 : TRow w8 T1 t) (h3 : TRow w8 U1 u) (h4 : Below w.heap.size w w8) (hb : Below w8.heap.size w8 w9) (hS : TRow w9 w8.heap.size z) :
    SeqRel w g T1 U1 es t u w8.heap.size a ((((((((w9.setCell ⟨w8.heap.size, 0, none⟩ (.int .i64 a.ph)).setCell ⟨w8.heap.size, 1, none⟩ (.int .i64 a.la)).setCell ⟨w8.heap.size, 2, none⟩ (.int .i64 a.ins)).setCell ⟨w8.heap.size, 3, none⟩ (.int .i64 a.dn)).setCell ⟨w8.heap.size, 4, none⟩ (.int .i64 a.st)).setCell ⟨w8.heap.size, 5, none⟩ (.int .i64 a.sp)).setCell ⟨w8.heap.size, 6, none⟩ (.int .i64 a.pe)).setCell ⟨w8.heap.size, 7, none⟩ (.bool a.fl)) :=
  have hb2 := set8_below hb (Nat.le_refl _) a
  ⟨set8_row hS a, h1.below hb2, h2.below hb2, h3.below hb2, belowStep hb2 h4⟩
set_option maxHeartbeats 8000000 in
theorem walk (A : Option Addr) (c : Nat) (xs : List Int) (w : World) (hx : BytesAt w A xs) (_hm : xs.length ≤ maxLen) :
    Calls Try.prog 4 #[.slice A xs.length c] w fun e w' => e = .returned (.bool true) ∧ Below w.heap.size w w' := by
  by_cases hl : 4096 < xs.length
  · have hd : decide (4096 < xs.length) = true := by simpa using hl
    go_enter Try.func4, Try.ntmps4
    go_wp2_with (first | (go_at_call 12; refine (big_any _ _ _ _).mono ?_; rintro e w' ⟨rfl, rfl⟩))
    go_ret
    exact ⟨rfl, Below.refl _ _⟩
  have hd : decide (4096 < xs.length) = false := by simpa using hl
  have hl4 : xs.length ≤ 4096 := by omega
  go_enter Try.func4, Try.ntmps4
  go_wp2_with (first | (go_at_call 12; refine (big_any _ _ _ _).mono ?_; rintro e w' ⟨rfl, rfl⟩))
  refine (drawRun A c xs _ hx hl4).mono ?_
  rintro e w1 ⟨t, v, es, rfl, hE1, hes, hb1⟩
  obtain ⟨g, cap, rfl, hcap, -, hEv1⟩ := hE1.evs
  obtain ⟨w2, hw2⟩ : ∃ w2, w1.alloc (.cells #[.int .i64 t.ph, .int .i64 t.la, .int .i64 t.ins, .int .i64 t.dn, .int .i64 t.st, .int .i64 t.sp, .int .i64 t.pe, .bool t.fl] 26) = w2 := ⟨_, rfl⟩
  have hb2 : Below w1.heap.size w1 w2 := by rw [← hw2]; exact (by repeat (first | exact Below.refl _ _ | assumption | refine Below.setCell ?_ (by first | omega | (simp <;> omega)) _ | refine Below.alloc ?_ (by first | omega | (simp <;> omega)) _ | refine Below.drew ?_))
  have R2 : w2.heap[w1.heap.size]? = some (.cells #[.int .i64 t.ph, .int .i64 t.la, .int .i64 t.ins, .int .i64 t.dn, .int .i64 t.st, .int .i64 t.sp, .int .i64 t.pe, .bool t.fl] 26 (0, 0)) := by rw [← hw2]; exact heap_alloc_new w1 _
  have HB2 := Lib.hid (belowStep hb2 hb1)
  have HE2 := Lib.hid (hEv1.below hb2)
  obtain ⟨⟨i0, i1, i2, i3, i4, i5, i6, i7⟩, -⟩ := zcells R2
  have HR2 := Lib.hid R2
  obtain ⟨n, hn⟩ : ∃ n, es.length = n := ⟨_, rfl⟩
  have HN := Lib.hid hn
  have HC := Lib.hid (fun wx h => implRun t (some ⟨g, 0, none⟩) cap es wx h (by omega))
  rw [hn] at HC hcap hes ⊢
  obtain ⟨q, hq⟩ : ∃ q, runRes t es = q := ⟨_, rfl⟩
  obtain ⟨u, m⟩ := q
  rw [hq] at HC
  have HQ := Lib.hid hq
  clear hE1 hb1 hb2 R2 hEv1 hn hq hd
  go_wp2_with fail
  clear hw2
  refine (HC.out _ HE2.out).mono ?_
  rintro e w3 ⟨rfl, hb3⟩
  obtain ⟨w4, hw4⟩ : ∃ w4, w3.alloc (.cells #[.int .i64 u.ph, .int .i64 u.la, .int .i64 u.ins, .int .i64 u.dn, .int .i64 u.st, .int .i64 u.sp, .int .i64 u.pe, .bool u.fl] 26) = w4 := ⟨_, rfl⟩
  have hb4 : Below w3.heap.size w3 w4 := by rw [← hw4]; exact (by repeat (first | exact Below.refl _ _ | assumption | refine Below.setCell ?_ (by first | omega | (simp <;> omega)) _ | refine Below.alloc ?_ (by first | omega | (simp <;> omega)) _ | refine Below.drew ?_))
  have R4 : w4.heap[w3.heap.size]? = some (.cells #[.int .i64 u.ph, .int .i64 u.la, .int .i64 u.ins, .int .i64 u.dn, .int .i64 u.st, .int .i64 u.sp, .int .i64 u.pe, .bool u.fl] 26 (0, 0)) := by rw [← hw4]; exact heap_alloc_new w3 _
  have hz3 := hb3.size
  have hT1 : w1.heap.size < w2.heap.size := (Array.getElem?_eq_some_iff.1 HR2.out).1
  have hU1 : w3.heap.size < w4.heap.size := (Array.getElem?_eq_some_iff.1 R4).1
  have HB4 := Lib.hid (belowStep hb4 (belowStep hb3 HB2.out))
  have HE4 := Lib.hid ((HE2.out.below hb3).below hb4)
  have HR4 := Lib.hid (rowB hb4 (rowB hb3 HR2.out))
  have HU4 := Lib.hid R4
  clear i0 i1 i2 i3 i4 i5 i6 i7 hb3 hb4 R4 HB2 HE2 HR2 HC
  obtain ⟨⟨i0, i1, i2, i3, i4, i5, i6, i7⟩, -⟩ := zcells HR4.out
  go_wp2_with fail
  clear hw4
  obtain ⟨vt, hvt⟩ : ∃ b, validT t = b := ⟨_, rfl⟩
  have hsv := specValid t w4
  rw [hvt] at hsv
  refine hsv.mono ?_
  rintro e w5 ⟨rfl, hb5⟩
  have HB5 := Lib.hid (belowStep hb5 HB4.out)
  have HE5 := Lib.hid (HE4.out.below hb5)
  have HR5 := Lib.hid (rowB hb5 HR4.out)
  have HU5 := Lib.hid (rowB hb5 HU4.out)
  have HVT := Lib.hid hvt
  have hz5 := hb5.size
  have heq := eqTm
  clear i0 i1 i2 i3 i4 i5 i6 i7 hb5 hsv hvt HB4 HE4 HR4 HU4
  by_cases hok : vt = true ∧ n ≤ 60
  · obtain ⟨rfl, hn60⟩ := hok
    have hRR := run_yes (es := es) HVT.out (by rw [HN.out]; exact hn60)
    rw [HQ.out] at hRR
    obtain ⟨hvu, hlu, hm0, hmn⟩ := runTo_bd HVT.out es
    rw [← hRR] at hvu hlu hm0 hmn
    rw [HN.out] at hmn
    dsimp only at hvu hlu hm0 hmn
    have HRR := Lib.hid hRR
    have p60 : ¬ (60 : Int) < (n : Int) := by omega
    clear hRR
    obtain ⟨⟨i0, i1, i2, i3, i4, i5, i6, i7⟩, -⟩ := zcells HU5.out
    go_wp2_with fail
    have hsv := specValid u w5
    rw [hvu] at hsv
    refine hsv.mono ?_
    rintro e w6 ⟨rfl, hb6⟩
    have HB6 := Lib.hid (belowStep hb6 HB5.out)
    have HE6 := Lib.hid (HE5.out.below hb6)
    have HR6 := Lib.hid (rowB hb6 HR5.out)
    have HU6 := Lib.hid (rowB hb6 HU5.out)
    have hz6 := hb6.size
    clear i0 i1 i2 i3 i4 i5 i6 i7 hb6 hsv HB5 HE5 HR5 HU5
    have q1 : w6.cell? ⟨w1.heap.size, 1, none⟩ = some (.int .i64 t.la) := cell_of_row _ _ 1 _ _ (0, 0) HR6.out
    have q2 : w6.cell? ⟨w3.heap.size, 1, none⟩ = some (.int .i64 u.la) := cell_of_row _ _ 1 _ _ (0, 0) HU6.out
    have s1 : ¬ u.la < t.la := by omega
    have s2 : ¬ m < 0 := by omega
    have s3 : ¬ (n : Int) < m := by omega
    go_wp2_with fail
    clear q1 q2
    refine (roll_any A c xs 901 _ (hx.below HB6.out) hl4).mono ?_
    rintro e w7 ⟨rfl, hd7, hb7⟩
    have hwn : IntKind.i64.wrap ((n : Int) + 1) = (n : Int) + 1 := IntWalk.i64_in _ (by omega)
    have hz7 := hb7.size
    have HB7 := Lib.hid (belowStep hb7 HB6.out)
    have HE7 := Lib.hid (HE6.out.below hb7)
    have HE6b := Lib.hid HE6.out
    have HB6s := HB6.out.size
    have HR7 := Lib.hid (rowB hb7 HR6.out)
    have HU7 := Lib.hid (rowB hb7 HU6.out)
    have HD7 := Lib.hid hd7
    clear hb7 hd7 HE6 HR6 HU6
    go_wp2_with fail
    refine (diceBelow w6.heap.size A c xs ((n : Int) + 1) _ HD7.out hl4 (by omega) (by omega)).mono ?_
    rintro e w8 ⟨y, rfl, y0, y1, hd8, hg8⟩
    obtain ⟨k, rfl⟩ := Int.eq_ofNat_of_zero_le y0
    have hz8 := hg8.size
    have hlt6 : w6.heap.size < w7.heap.size := HD7.out.lt
    have HB8 := Lib.hid (belowGrown HB7.out hg8 HB7.out.size (fun k hk => by injection hk with hk; have := HB6s; omega))
    have HE8 := Lib.hid (show EvsAt w8 (some ⟨g, 0, none⟩) es from fun i hi => by
      obtain ⟨b, off, e, hb, h1, h2⟩ := HE7.out i hi
      obtain ⟨b', off', e', hb', -, -⟩ := HE6b.out i hi
      rw [e] at e'
      injection e' with e'
      injection e' with e1 e2
      subst e1
      have hk := hg8.block b hb (fun e => by injection e with e; omega)
      exact ⟨b, off, e, Nat.lt_of_lt_of_le hb hz8, (World.cell?_of_block (a := ⟨b, off + i * 2, none⟩) hk).trans h1, (World.cell?_of_block (a := ⟨b, off + i * 2 + 1, none⟩) hk).trans h2⟩)
    have rowGk : ∀ {H : Nat} {o : Obj}, w7.heap[H]? = some o → H ≠ w6.heap.size → w8.heap[H]? = some o := fun h hne => (hg8.block _ (Array.getElem?_eq_some_iff.1 h).1 (fun e => hne (by injection e))).trans h
    have HR8 : Hid (TRow w8 w1.heap.size t) := rowGk HR7.out (by omega)
    have HU8 : Hid (TRow w8 w3.heap.size u) := rowGk HU7.out (by omega)
    have hkn : k ≤ n := by omega
    have tk : (es.take k).length = k := by rw [List.length_take, HN.out]; omega
    have td : (es.drop k).length = n - k := by rw [List.length_drop, HN.out]
    obtain ⟨h21, h22⟩ := runTo_two (t := t) es k
    rw [← HRR.out] at h21 h22
    have hva := (runTo_bd HVT.out (es.take k)).1
    have hbA := (runTo_bd HVT.out (es.take k)).2.2
    have hrA := run_yes (es := es.take k) HVT.out (by omega)
    obtain ⟨qa, hqa⟩ : ∃ qa, runTo t (es.take k) = qa := ⟨_, rfl⟩
    rw [hqa] at h21 h22 hva hrA hbA
    obtain ⟨a, n1⟩ := qa
    dsimp only at h21 h22 hva hbA
    have hbB := (runTo_bd hva (es.drop k)).2.2
    have hrB := run_yes (es := es.drop k) hva (by omega)
    obtain ⟨qb, hqb⟩ : ∃ qb, runTo a (es.drop k) = qb := ⟨_, rfl⟩
    rw [hqb] at h21 h22 hrB hbB
    obtain ⟨b, n2⟩ := qb
    dsimp only at h21 h22 hbB
    subst h21
    have HCA := Lib.hid (fun wx h => implRun t (some ⟨g, 0, none⟩) cap (es.take k) wx h (by omega))
    have HCB := Lib.hid (fun A' c' wx h => implRun a A' c' (es.drop k) wx h (by omega))
    rw [hrA, tk] at HCA
    rw [hrB, td] at HCB
    have hw12 : IntKind.i64.wrap (n1 + n2) = m := by rw [h22]; exact IntWalk.i64_in _ (by omega)
    clear hrA hrB hqa hqb hva tk td hbA hbB h22 hd8 hg8 HD7 HE7 HR7 HU7 HB7 rowGk y0 y1
    obtain ⟨⟨i0, i1, i2, i3, i4, i5, i6, i7⟩, -⟩ := zcells (show w8.heap[w1.heap.size]? = some (.cells #[.int .i64 t.ph, .int .i64 t.la, .int .i64 t.ins, .int .i64 t.dn, .int .i64 t.st, .int .i64 t.sp, .int .i64 t.pe, .bool t.fl] 26 (0, 0)) from HR8.out)
    have p0 : (0 : Int) ≤ (k : Int) := by omega
    have p1 : (k : Int) ≤ (cap : Int) := by omega
    have p2 : (k : Int) ≤ (n : Int) := by omega
    have cn := World.new_ne _ _ i0
    have cl := World.block_lt_of_cell? _ _ i0
    dsimp only at cn cl
    go_upto_region 10 with fail
    go_cut [8, 9] from 66 (fun p q wx => ∃ H : Nat, p = .pointer (some ⟨H, 0, none⟩) ∧ q = .int .i64 n1 ∧ SeqRel w g w1.heap.size w3.heap.size es t b H a wx)
    case first =>
      go_region_with (first
        | (go_at_call 9; refine (HCA.out _ (by exact (HE8.out.below (by repeat (first | exact Below.refl _ _ | assumption | refine Below.setCell ?_ (by first | omega | (simp <;> omega)) _ | refine Below.alloc ?_ (by first | omega | (simp <;> omega)) _ | refine Below.drew ?_))).take k)).mono ?_; rintro e w9 ⟨rfl, hb9⟩
            ; have HR9 := Lib.hid (rowB hb9 (rowB (by exact (by repeat (first | exact Below.refl _ _ | assumption | refine Below.setCell ?_ (by first | omega | (simp <;> omega)) _ | refine Below.alloc ?_ (by first | omega | (simp <;> omega)) _ | refine Below.drew ?_))) HR8.out))
            ; have hb89 : Below w8.heap.size w8 w9 := belowStep hb9 (by exact (by repeat (first | exact Below.refl _ _ | assumption | refine Below.setCell ?_ (by first | omega | (simp <;> omega)) _ | refine Below.alloc ?_ (by first | omega | (simp <;> omega)) _ | refine Below.drew ?_)))
            ; obtain ⟨⟨j0, j1, j2, j3, j4, j5, j6, j7⟩, -⟩ := zcells HR9.out
            ; have tn := World.new_ne _ _ j0
            ; have tl := World.block_lt_of_cell? _ _ j0
            ; dsimp only at tn tl
            ; have HBB := Lib.hid hb89
            ; (try (have hS := rowB hb9 (by exact heap_alloc_new w8 (.cells #[.int .i64 0, .int .i64 0, .int .i64 0, .int .i64 0, .int .i64 0, .int .i64 0, .int .i64 0, .bool false] 26)); obtain ⟨⟨s0, s1, s2, s3, s4, s5, s6, s7⟩, f0, f1, f2, f3, f4, f5, f6, f7⟩ := zcells hS; have HSS : Hid (TRow w9 w8.heap.size .zero) := hS))
            ; clear hb9 hb89))
      all_goals
        go_wp2_with fail
        go_meet
        first
          | (refine ⟨_, rfl, rfl, ?_⟩; with_reducible exact SeqRel.of_set (z := .zero) a HE8.out HR8.out HU8.out HB8.out HBB.out HSS.out)
          | (refine ⟨_, rfl, rfl, ?_⟩; with_reducible exact SeqRel.of_alloc a (HE8.out.below HBB.out) (TRow.below HR8.out HBB.out) (TRow.below HU8.out HBB.out) (belowStep HBB.out HB8.out))
    case rest =>
      obtain ⟨H, rfl, rfl, hrw, hev, hrt, hru, hbw⟩ := hcut
      clear i0 i1 i2 i3 i4 i5 i6 i7 cn cl HCA HE8 HR8 HU8 HB8
      have HRW := Lib.hid hrw
      have HEV := Lib.hid hev
      have HRT := Lib.hid hrt
      have HRU := Lib.hid hru
      have HBW := Lib.hid hbw
      obtain ⟨⟨i0, i1, i2, i3, i4, i5, i6, i7⟩, -⟩ := zcells hrw
      have cn := World.new_ne _ _ i0
      have cl := World.block_lt_of_cell? _ _ i0
      dsimp only at cn cl
      clear hrw hev hrt hru hbw
      obtain ⟨d, hdd⟩ : ∃ d, n - k = d := ⟨_, rfl⟩
      rw [hdd] at HCB
      have hnd : n ≤ k → d = 0 := fun h => by omega
      by_cases hck : cap = k
      · have hnk : n = k := by omega
        have hd0 : d = 0 := by omega
        subst hd0
        subst hnk
        subst hck
        clear hdd hnd hkn hcap p1 p2
        go_upto_region 11 with fail
        go_cut [10, 11] from 74 (fun p q wx => ∃ H2 : Nat, p = .pointer (some ⟨H2, 0, none⟩) ∧ q = .int .i64 n2 ∧ SeqRel w g w1.heap.size w3.heap.size es t b H2 b wx)
        case first =>
          go_region_with (first
            | (go_at_call 9; refine (HCB.out _ _ _ (by rw [List.drop_eq_nil_of_le (by rw [HN.out]; omega)]; exact EvsAt.nil _ _)).mono ?_; rintro e w9 ⟨rfl, hb9⟩
                ; have hbc9 : Below wc.heap.size wc w9 := belowStep hb9 (by exact (by repeat (first | exact Below.refl _ _ | assumption | refine Below.setCell ?_ (by first | omega | (simp <;> omega)) _ | refine Below.alloc ?_ (by first | omega | (simp <;> omega)) _ | refine Below.drew ?_)))
                ; have HR9 := Lib.hid (TRow.below HRW.out hbc9)
                ; obtain ⟨⟨j0, j1, j2, j3, j4, j5, j6, j7⟩, -⟩ := zcells HR9.out
                ; have tn := World.new_ne _ _ j0
                ; have tl := World.block_lt_of_cell? _ _ j0
                ; dsimp only at tn tl
                ; have HBB := Lib.hid hbc9
                ; (try (have hS := rowB hb9 (by exact heap_alloc_new wc (.cells #[.int .i64 0, .int .i64 0, .int .i64 0, .int .i64 0, .int .i64 0, .int .i64 0, .int .i64 0, .bool false] 26)); obtain ⟨⟨s0, s1, s2, s3, s4, s5, s6, s7⟩, f0, f1, f2, f3, f4, f5, f6, f7⟩ := zcells hS; have HSS : Hid (TRow w9 wc.heap.size .zero) := hS))
                ; clear hb9 hbc9))
          all_goals
            go_wp2_with fail
            go_meet
            first
              | (refine ⟨_, rfl, rfl, ?_⟩; with_reducible exact SeqRel.of_set (z := .zero) b HEV.out HRT.out HRU.out HBW.out HBB.out HSS.out)
              | (refine ⟨_, rfl, rfl, ?_⟩; with_reducible exact SeqRel.of_alloc b (HEV.out.below HBB.out) (TRow.below HRT.out HBB.out) (TRow.below HRU.out HBB.out) (belowStep HBB.out HBW.out))
        case rest =>
          obtain ⟨H2, rfl, rfl, hrw, -, -, hru, hbw⟩ := hcut
          clear i0 i1 i2 i3 i4 i5 i6 i7 cn cl
          obtain ⟨⟨i0, i1, i2, i3, i4, i5, i6, i7⟩, -⟩ := zcells hrw
          obtain ⟨⟨j0, j1, j2, j3, j4, j5, j6, j7⟩, -⟩ := zcells hru
          have htt : tmEq ⟨b.ph, b.la, b.ins, b.dn, b.st, b.sp, b.pe, b.fl⟩ ⟨b.ph, b.la, b.ins, b.dn, b.st, b.sp, b.pe, b.fl⟩ = true := (tmEq_iff _ _).2 rfl
          go_wp2_with fail
          go_ret
          first
            | exact ⟨rfl, hbw⟩
      · go_upto_region 11 with fail
        go_cut [10, 11] from 74 (fun p q wx => ∃ H2 : Nat, p = .pointer (some ⟨H2, 0, none⟩) ∧ q = .int .i64 n2 ∧ SeqRel w g w1.heap.size w3.heap.size es t b H2 b wx)
        case first =>
          go_region_with (first
            | (go_at_call 9; refine (HCB.out _ _ _ (by simpa using (EvsAt.below HEV.out (by exact (by repeat (first | exact Below.refl _ _ | assumption | refine Below.setCell ?_ (by first | omega | (simp <;> omega)) _ | refine Below.alloc ?_ (by first | omega | (simp <;> omega)) _ | refine Below.drew ?_)))).drop k)).mono ?_; rintro e w9 ⟨rfl, hb9⟩
                ; have hbc9 : Below wc.heap.size wc w9 := belowStep hb9 (by exact (by repeat (first | exact Below.refl _ _ | assumption | refine Below.setCell ?_ (by first | omega | (simp <;> omega)) _ | refine Below.alloc ?_ (by first | omega | (simp <;> omega)) _ | refine Below.drew ?_)))
                ; have HR9 := Lib.hid (TRow.below HRW.out hbc9)
                ; obtain ⟨⟨j0, j1, j2, j3, j4, j5, j6, j7⟩, -⟩ := zcells HR9.out
                ; have tn := World.new_ne _ _ j0
                ; have tl := World.block_lt_of_cell? _ _ j0
                ; dsimp only at tn tl
                ; have HBB := Lib.hid hbc9
                ; (try (have hS := rowB hb9 (by exact heap_alloc_new wc (.cells #[.int .i64 0, .int .i64 0, .int .i64 0, .int .i64 0, .int .i64 0, .int .i64 0, .int .i64 0, .bool false] 26)); obtain ⟨⟨s0, s1, s2, s3, s4, s5, s6, s7⟩, f0, f1, f2, f3, f4, f5, f6, f7⟩ := zcells hS; have HSS : Hid (TRow w9 wc.heap.size .zero) := hS))
                ; clear hb9 hbc9))
          all_goals
            go_wp2_with fail
            go_meet
            first
              | (refine ⟨_, rfl, rfl, ?_⟩; with_reducible exact SeqRel.of_set (z := .zero) b HEV.out HRT.out HRU.out HBW.out HBB.out HSS.out)
              | (refine ⟨_, rfl, rfl, ?_⟩; with_reducible exact SeqRel.of_alloc b (HEV.out.below HBB.out) (TRow.below HRT.out HBB.out) (TRow.below HRU.out HBB.out) (belowStep HBB.out HBW.out))
        case rest =>
          obtain ⟨H2, rfl, rfl, hrw, -, -, hru, hbw⟩ := hcut
          clear i0 i1 i2 i3 i4 i5 i6 i7 cn cl
          obtain ⟨⟨i0, i1, i2, i3, i4, i5, i6, i7⟩, -⟩ := zcells hrw
          obtain ⟨⟨j0, j1, j2, j3, j4, j5, j6, j7⟩, -⟩ := zcells hru
          have htt : tmEq ⟨b.ph, b.la, b.ins, b.dn, b.st, b.sp, b.pe, b.fl⟩ ⟨b.ph, b.la, b.ins, b.dn, b.st, b.sp, b.pe, b.fl⟩ = true := (tmEq_iff _ _).2 rfl
          go_wp2_with fail
          go_ret
          first
            | exact ⟨rfl, hbw⟩
  · have hno : (validT t && decide (es.length ≤ 60)) = false := by
      rw [HVT.out, HN.out]
      cases vt
      · rfl
      · rw [decide_eq_false (fun h => hok ⟨rfl, h⟩)]; rfl
    have h2 := run_no hno
    rw [HQ.out] at h2
    injection h2 with h2 h3
    subst h2 h3
    obtain ⟨⟨i0, i1, i2, i3, i4, i5, i6, i7⟩, -⟩ := zcells (a0 := .int .i64 0) (a1 := .int .i64 0) (a2 := .int .i64 0) (a3 := .int .i64 0) (a4 := .int .i64 0) (a5 := .int .i64 0) (a6 := .int .i64 0) (a7 := .bool false) HU5.out
    have htt : tmEq ⟨0, 0, 0, 0, 0, 0, 0, false⟩ ⟨0, 0, 0, 0, 0, 0, 0, false⟩ = true := (tmEq_iff _ _).2 rfl
    cases vt with
    | false =>
      go_wp2_with fail
      go_ret
      first
        | exact ⟨rfl, HB5.out⟩
    | true =>
      have p60 : (60 : Int) < (n : Int) := by
        have h60 : ¬ n ≤ 60 := fun h => hok ⟨rfl, h⟩
        omega
      go_wp2_with fail
      go_ret
      first
        | exact ⟨rfl, HB5.out⟩
theorem own : ownKnob Try.prog.godebug = none := by kernel_rfl
theorem laidOut : laidOutB Try.prog = true := by kernel_rfl
set_option maxRecDepth 100000 in
theorem lifted (os : Os) (started : os.Started) (H : Type) (enc : TypeId × Value → H) :
    ReturnsInHanded {} Try.checked os 4 .any (Rows.fnTimerSequenceSpec.pre6 enc Try.prog Try.f4 Rows.fnTimerSequenceRow.domain false) (Rows.fnTimerSequenceSpec.post enc Try.prog Try.f4 false true false false) := by
  refine returnsInHanded_of_change (C := Try.checked) own started (by kernel_rfl) Try.func4
    (ChangeSpec.witness6 (enc := enc) (C := Try.checked) false ⟨#[], #[.slice none 0 0], []⟩ 8 (by kernel_rfl) (by kernel_rfl) (by kernel_rfl) (by kernel_rfl)) ?_
  intro W base args ds gs before hval0 hW hcnd _
  have hval : ∀ (j : Nat) t v, Try.f4.params[j]? = some t → args[j]? = some v → Value.okWide Try.prog W .any base t v := hval0
  have hW' := hW
  obtain ⟨p, q, hA0, hV, rfl, hfz, hnd⟩ := hW
  have hA : DataW.TrodAll enc Try.prog W 0 (fun _ => true) true Try.f4.params.toList args.toList ds p := hA0
  rw [Try.params4] at hA hval
  obtain ⟨v0, vs0, d0, ds0, p0, q0, hargs, rfl, rfl, h0, r0⟩ := trodAll_cons hA
  obtain ⟨rfl, rfl, rfl⟩ := trodAll_nil r0
  obtain rfl : args = #[v0] := by cases args; simp_all
  obtain ⟨rfl, rfl⟩ := trodVars_none hV
  have lt0 : ∀ x ∈ p0, x.block < W.heap.size := by obtain ⟨m, hm⟩ := h0; exact DataW.trod_lt m _ _ _ hm
  obtain ⟨A0, c0, x0, rfl, i0, m0⟩ := arg_bytes (hval 0 35 v0 rfl rfl) h0
  clear hA0 hval0
  refine (walk A0 c0 x0 W i0 m0).mono fun e W' ⟨he, bel⟩ => ?_
  subst he
  exact ⟨_, rfl, _, _, _, [], _, [], hW', trodAll_mk1 (shut_bool Try.underlying4 _), (trodAll_cons_mk (Below.trod laidOut (by kernel_rfl) (of_decide_eq_true (by kernel_rfl)) h0 bel lt0) trodAll_mk0), rfl, bel.frame _, fun h => by cases h⟩
theorem fact_wf : Rows.fnTimerSequenceRow.wf (OpenSpec.ofChange Rows.fnTimerSequenceSpec) = true := by kernel_rfl
theorem fact_pars : Try.f4.params.all (Try.prog.readableRec ·) = true := by kernel_rfl
theorem fact_tie : namedTie Try.prog Rows.fnTimerSequenceRow.named Rows.fnTimerSequenceSpec.vars = true := by kernel_rfl
theorem fact_st : (Rows.fnTimerSequenceRow.stops == []) = true := by kernel_rfl
theorem fact_kn : (Rows.fnTimerSequenceRow.knobs == []) = true := by kernel_rfl
theorem fact_inp : (Rows.fnTimerSequenceRow.inPlace == Try.prog.inPlace 4) = true := by kernel_rfl
theorem fact_unf : (Rows.fnTimerSequenceRow.unfollowed == Try.prog.unfollowed 4) = true := by kernel_rfl
theorem fact_rec : (Rows.fnTimerSequenceRow.recurses == Try.prog.recurses 4) = true := by kernel_rfl
theorem fact_nam : (Rows.fnTimerSequenceRow.named == Try.prog.varsNamed 4) = true := by kernel_rfl
theorem fact_mp : (Rows.fnTimerSequenceRow.maps == (Try.f4.params.toList ++ Rows.fnTimerSequenceSpec.plain.varTypes Try.prog).any (Try.prog.mapsRec ·)) = true := by kernel_rfl
theorem fact_ifc : (Rows.fnTimerSequenceRow.ifaces == (Try.f4.params.toList ++ Rows.fnTimerSequenceSpec.plain.varTypes Try.prog).any (Try.prog.ifacesRec ·)) = true := by kernel_rfl
theorem fact_mo : (Rows.fnTimerSequenceRow.mapsOut == Try.prog.mapsAmong Try.f4.resultTypes.toList) = true := by kernel_rfl
theorem fact_lo : (Rows.fnTimerSequenceRow.loops == (Try.f4.params.toList ++ Rows.fnTimerSequenceSpec.plain.varTypes Try.prog).any (Try.prog.loopsFrom ·)) = true := by kernel_rfl
theorem fact_wk : (Rows.fnTimerSequenceRow.wideKeys == (Try.f4.params.toList ++ Rows.fnTimerSequenceSpec.plain.varTypes Try.prog ++ Try.f4.resultTypes.toList).any (Try.prog.wideKeysFrom ·)) = true := by kernel_rfl
theorem fact_vs : Rows.fnTimerSequenceSpec.vars.all (Try.prog.varReadable ·) = true := by kernel_rfl
theorem fact_res : Try.f4.resultTypes.all (fun t => Try.prog.readableRec t && decide (t < Try.prog.types.size)) = true := by kernel_rfl
theorem fact_io : (Rows.fnTimerSequenceRow.ifacesOut == Try.f4.resultTypes.toList.any (Try.prog.ifacesRec ·)) = true := by kernel_rfl
theorem fact_loo : (Rows.fnTimerSequenceRow.loopsOut == Try.f4.resultTypes.toList.any (Try.prog.loopsFrom ·)) = true := by kernel_rfl
theorem fact_pk : (Rows.fnTimerSequenceRow.plainKeys == Try.prog.plainKeys) = true := by kernel_rfl
theorem fact_sh : Rows.fnTimerSequenceRow.shortTexts.isNone = true := by kernel_rfl
theorem fact_li : (Rows.fnTimerSequenceRow.lifted == Try.prog.liftsFinal) = true := by rw [fact_finals]; rfl
theorem fact_mk : (Try.prog.make == some Rows.fnTimerSequenceRow.make) = true := by rw [fact_make]; rfl
theorem fact_kd : (Rows.fnTimerSequenceRow.kinds == (if Rows.fnTimerSequenceRow.domain.isEmpty then [] else Try.f4.params.toList.map fun t => match Try.prog.underlying t with | some (.int k) => some k | _ => none)) = true := by kernel_rfl
theorem fact_pi : (Rows.fnTimerSequenceRow.pinned == Rows.fnTimerSequenceRow.pinnedBy) = true := by kernel_rfl
theorem fact_ve : (Rows.fnTimerSequenceRow.veiled == (Try.f4.params.toList ++ Rows.fnTimerSequenceSpec.plain.varTypes Try.prog ++ Try.f4.resultTypes.toList).any (Try.prog.veiledRec ·)) = true := by kernel_rfl
theorem fact_vf : Rows.fnTimerSequenceRow.veiledFits Try.prog Try.f4.params.toList (Try.f4.params.toList ++ Rows.fnTimerSequenceSpec.plain.varTypes Try.prog ++ Try.f4.resultTypes.toList) = true := by kernel_rfl
set_option maxRecDepth 100000 in
theorem facts : joinedFacts Try.prog 4 Try.f4 Rows.fnTimerSequenceSpec Rows.fnTimerSequenceRow = true := facts_of fact_wf fact_laid fact_rowed fact_pars fact_tie fact_st fact_pst fact_kn fact_pkn fact_inp fact_unf fact_rec fact_nam fact_mp fact_ifc fact_mo fact_lo fact_wk fact_vs fact_res fact_io fact_loo fact_pk fact_sh fact_hd fact_me fact_li fact_mk fact_kd fact_pi fact_ve fact_vf
theorem fact_fn : Try.prog.funcNamed Rows.fnTimerSequenceRow.func = some 4 := by kernel_rfl
theorem fact_inst : Try.f4.isInstance Try.prog Rows.fnTimerSequenceRow.origin Rows.fnTimerSequenceRow.targs := of_decide_eq_true (by kernel_rfl)
theorem fact_wrap : Try.f4.isWrapper Try.prog Rows.fnTimerSequenceRow.wrapper Rows.fnTimerSequenceRow.mainSum := by unfold Func.isWrapper; first | (rw [if_pos (by decide +kernel)]; kernel_rfl) | (rw [if_neg (by decide +kernel)]; exact ⟨rfl, rfl⟩)
theorem over : Rows.fnTimerSequenceRow.holds Try.pinned (OpenSpec.ofChange Rows.fnTimerSequenceSpec) :=
  OpenClaim.holds_of_wide 4 Try.f4 rfl rfl rfl rfl rfl rfl rfl ⟨rfl, rfl, rfl, rfl, rfl⟩ rfl rfl rfl rfl rfl fact_fn Try.func4 facts fact_inst fact_wrap
    (fun os started H enc _ => lifted os started H enc)
theorem proved : Rows.FnTimerSequenceSaid := over
#print axioms proved
end Go.Proofs.Ytmfmkalgalmbcaa.lawTimerSequence
