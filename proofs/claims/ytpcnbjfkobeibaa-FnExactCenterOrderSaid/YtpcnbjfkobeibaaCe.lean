/- CenterOrder at both packages. Conditions: as each contract says. -/
import Derived.Test.YtpcnbjfkobeibaaMb
namespace Go.Proofs.Ytpcnbjfkobeibaa
open Go.RowKit Grp

def comB (p q : List Nat) : Bool := decide (comp p q = comp q p)
theorem comB_symm (p q : List Nat) : comB p q = comB q p := by
  unfold comB
  exact decide_eq_decide.2 ⟨fun h => h.symm, fun h => h.symm⟩
/-- Members that commute with all of a list. -/
def comAll (ps : List (List Nat)) (p : List Nat) : Bool := ps.all (comB p)
def cenN (ps l : List (List Nat)) : Nat := (l.filter (comAll ps)).length
theorem natI_inj {a b : List Nat} (h : natI a = natI b) : a = b := by
  rw [← toN_natI a, h, toN_natI]
theorem natI_same (a b : List Nat) : decide (natI a = natI b) = decide (a = b) := decide_eq_decide.2 ⟨natI_inj, fun h => by rw [h]⟩
set_option maxRecDepth 3000 in
set_option maxHeartbeats 1000000 in
theorem eqS (A B : Option Addr) (c d n : Nat) (xs ys : List Int) (w : World) (hx : IntsAt w A xs) (hy : IntsAt w B ys) (hxl : xs.length = n) (hyl : ys.length = n) (hn : n ≤ 1048576) :
    Calls Try.prog 152 #[.slice A n c, .slice B n d] w (Quiet (.bool (decide (xs = ys))) w) := by
  obtain ⟨b0, hb0⟩ : ∃ b0, decide (xs = ys) = b0 := ⟨_, rfl⟩
  rw [hb0]
  have HB0 := Lib.hid hb0
  have HXL := Lib.hid hxl
  have HYL := Lib.hid hyl
  clear hb0
  go_enter Try.func152, Try.ntmps152
  go_wp2_with fail
  go_loopw [5] (fun z wr => ∃ (k nd : Nat), k ≤ n ∧ z = .int .i64 (k : Int) ∧ Hid (EqAt xs ys k) ∧ wr = w.drewN nd) (fun z _ => n - (intOf z).toNat)
  case atStart => exact ⟨0, 0, Nat.zero_le _, rfl, fun j hj => absurd hj (Nat.not_lt_zero _), rfl⟩
  case round =>
    obtain ⟨k, nd, hk, rfl, HE, hwr⟩ := hrel
    have HD : Hid (∀ m, ∃ l, wr.drewN m = w.drewN l) := fun m => ⟨nd + m, by rw [hwr, World.drewN_drewN]⟩
    by_cases hlt : k < n
    · obtain ⟨b, off, x, rfl, hb, hc0, HX⟩ := hx.at_ (k := k) (by omega)
      obtain ⟨b', off', y, rfl, hb', hc0', HY⟩ := hy.at_ (k := k) (by omega)
      have hcx : wr.cell? ⟨b, off + k, none⟩ = some (.int .i64 x) := by rw [hwr]; exact hc0
      have hcy : wr.cell? ⟨b', off' + k, none⟩ = some (.int .i64 y) := by rw [hwr]; exact hc0'
      have p0 : (0 : Int) ≤ (k : Int) := by omega
      have p1 : (k : Int) < (n : Int) := by omega
      clear hwr hxl hyl
      by_cases he : x = y
      · subst he
        have HE2 : Hid (EqAt xs ys (k + 1)) := HE.out.more (by rw [HX.out, HY.out])
        go_wp2_with fail
        go_quiet (fail)
        go_wp2_with fail
        go_roundw
        case rel => exact ⟨k + 1, (HD.out _).choose, by omega, by go_num, HE2, (HD.out _).choose_spec⟩
        case measure => simp [intOf]; omega
      · have hne : (x == y) = false := by simpa using he
        have HF : Hid (false = b0) := by
          unfold Hid
          rw [← HB0.out]
          exact (decide_eq_false (fun e => he (by rw [← HX.out, ← HY.out, e]))).symm
        go_wp2_with fail
        go_quiet (fail)
        go_wp2_with fail
        go_ret
        exact ⟨ret_bool HF.out, HD.out _⟩
    · obtain rfl : k = n := by omega
      have HT : Hid (true = b0) := by
        unfold Hid
        rw [← HB0.out]
        exact (decide_eq_true (eq_of_getD (by rw [HXL.out, HYL.out]) (by rw [HXL.out]; exact HE.out))).symm
      clear hwr
      go_wp2_with fail
      go_ret
      exact ⟨ret_bool HT.out, by have := HD.out 0; rwa [World.drewN_zero] at this⟩
set_option maxRecDepth 3000 in
set_option maxHeartbeats 1000000 in
theorem eqI (A B : Option Addr) (c d n : Nat) (xs ys : List Int) (w : World) (hx : IntsAt w A xs) (hy : IntsAt w B ys) (hxl : xs.length = n) (hyl : ys.length = n) (hn : n ≤ 1048576) :
    Calls Try.prog 145 #[.slice A n c, .slice B n d] w (Quiet (.bool (decide (xs = ys))) w) := by
  obtain ⟨b0, hb0⟩ : ∃ b0, decide (xs = ys) = b0 := ⟨_, rfl⟩
  rw [hb0]
  have HB0 := Lib.hid hb0
  have HXL := Lib.hid hxl
  have HYL := Lib.hid hyl
  clear hb0
  go_enter Try.func145, Try.ntmps145
  go_wp2_with fail
  go_loopw [13] (fun z wr => ∃ (k nd : Nat), k ≤ n ∧ z = .int .i64 (k : Int) ∧ Hid (EqAt xs ys k) ∧ wr = w.drewN nd) (fun z _ => n - (intOf z).toNat)
  case atStart => exact ⟨0, 0, Nat.zero_le _, rfl, fun j hj => absurd hj (Nat.not_lt_zero _), rfl⟩
  case round =>
    obtain ⟨k, nd, hk, rfl, HE, hwr⟩ := hrel
    have HD : Hid (∀ m, ∃ l, wr.drewN m = w.drewN l) := fun m => ⟨nd + m, by rw [hwr, World.drewN_drewN]⟩
    by_cases hlt : k < n
    · obtain ⟨b, off, x, rfl, hb, hc0, HX⟩ := hx.at_ (k := k) (by omega)
      obtain ⟨b', off', y, rfl, hb', hc0', HY⟩ := hy.at_ (k := k) (by omega)
      have hcx : wr.cell? ⟨b, off + k, none⟩ = some (.int .i64 x) := by rw [hwr]; exact hc0
      have hcy : wr.cell? ⟨b', off' + k, none⟩ = some (.int .i64 y) := by rw [hwr]; exact hc0'
      have p0 : (0 : Int) ≤ (k : Int) := by omega
      have p1 : (k : Int) < (n : Int) := by omega
      clear hwr hxl hyl
      by_cases he : x = y
      · subst he
        have HE2 : Hid (EqAt xs ys (k + 1)) := HE.out.more (by rw [HX.out, HY.out])
        go_wp2_with fail
        go_quiet (fail)
        go_wp2_with fail
        go_roundw
        case rel => exact ⟨k + 1, (HD.out _).choose, by omega, by go_num, HE2, (HD.out _).choose_spec⟩
        case measure => simp [intOf]; omega
      · have hne : (x == y) = false := by simpa using he
        have HF : Hid (false = b0) := by
          unfold Hid
          rw [← HB0.out]
          exact (decide_eq_false (fun e => he (by rw [← HX.out, ← HY.out, e]))).symm
        go_wp2_with fail
        go_quiet (fail)
        go_wp2_with fail
        go_ret
        exact ⟨ret_bool HF.out, HD.out _⟩
    · obtain rfl : k = n := by omega
      have HT : Hid (true = b0) := by
        unfold Hid
        rw [← HB0.out]
        exact (decide_eq_true (eq_of_getD (by rw [HXL.out, HYL.out]) (by rw [HXL.out]; exact HE.out))).symm
      clear hwr
      go_wp2_with fail
      go_ret
      exact ⟨ret_bool HT.out, by have := HD.out 0; rwa [World.drewN_zero] at this⟩
set_option maxRecDepth 3000 in
set_option maxHeartbeats 1000000 in
theorem implCom (A B : Option Addr) (c d N : Nat) (p q : List Nat) (w : World) (hx : IntsAt w A (natI p)) (hy : IntsAt w B (natI q)) (hp : IsP N p) (hq : IsP N q) (hN : N ≤ 20) :
    Calls Try.prog 126 #[.slice A N c, .slice B N d] w (ReadsBool (comB p q) w) := by
  obtain ⟨b0, hb0⟩ : ∃ b0, comB p q = b0 := ⟨_, rfl⟩
  rw [hb0]
  have HB0 := Lib.hid hb0
  have HX := Lib.hid hx
  have HY := Lib.hid hy
  have HPP := Lib.hid hp
  have HQ := Lib.hid hq
  clear hb0 hx hy hp hq
  go_enter Try.func126, Try.ntmps126
  go_wp2_with fail
  refine (implCompose A B c d N p q _ HX.out HY.out HPP.out.len HQ.out.len (by omega) (fun i hi => HPP.out.lt hi)).mono ?_
  rintro e w1 ⟨v1, rfl, hF1, hb1⟩
  obtain ⟨A1, c1, rfl, hI1, -⟩ := hF1.ints
  rw [natI_len, comp_len, HPP.out.len]
  go_wp2_with fail
  refine (implCompose B A d c N q p _ (HY.out.below hb1) (HX.out.below hb1) HQ.out.len HPP.out.len (by omega) (fun i hi => HQ.out.lt hi)).mono ?_
  rintro e w2 ⟨v2, rfl, hF2, hb2⟩
  obtain ⟨A2, c2, rfl, hI2, -⟩ := hF2.ints
  rw [natI_len, comp_len, HQ.out.len]
  have hcall := eqI A1 A2 c1 c2 N (natI (comp p q)) (natI (comp q p)) w2 (hI1.below hb2) hI2 (by rw [natI_len, comp_len, HPP.out.len]) (by rw [natI_len, comp_len, HQ.out.len]) (by omega)
  rw [natI_same, show decide (comp p q = comp q p) = b0 from HB0.out] at hcall
  have HCALL := Lib.hid hcall
  have hB2 := belowStep hb2 hb1
  clear hcall hF1 hI1 hF2 hI2 hb1 hb2
  go_wp2_with fail
  refine HCALL.out.mono ?_
  rintro e w3 ⟨rfl, n3, rfl⟩
  go_wp2_with fail
  go_ret
  exact ⟨rfl, belowDrewN hB2 n3⟩
set_option maxRecDepth 3000 in
set_option maxHeartbeats 1000000 in
theorem specCom (A B : Option Addr) (c d N : Nat) (p q : List Nat) (w : World) (hx : IntsAt w A (natI p)) (hy : IntsAt w B (natI q)) (hp : IsP N p) (hq : IsP N q) (hN : N ≤ 20) :
    Calls Try.prog 143 #[.slice A N c, .slice B N d] w (ReadsBool (comB p q) w) := by
  obtain ⟨b0, hb0⟩ : ∃ b0, comB p q = b0 := ⟨_, rfl⟩
  rw [hb0]
  have HB0 := Lib.hid hb0
  have HX := Lib.hid hx
  have HY := Lib.hid hy
  have HPP := Lib.hid hp
  have HQ := Lib.hid hq
  clear hb0 hx hy hp hq
  go_enter Try.func143, Try.ntmps143
  go_wp2_with fail
  refine (specCompose A B c d N p q _ HX.out HY.out HPP.out.len HQ.out.len (by omega) (fun i hi => HPP.out.lt hi)).mono ?_
  rintro e w1 ⟨v1, rfl, hF1, hb1⟩
  obtain ⟨A1, c1, rfl, hI1, -⟩ := hF1.ints
  rw [natI_len, comp_len, HPP.out.len]
  go_wp2_with fail
  refine (specCompose B A d c N q p _ (HY.out.below hb1) (HX.out.below hb1) HQ.out.len HPP.out.len (by omega) (fun i hi => HQ.out.lt hi)).mono ?_
  rintro e w2 ⟨v2, rfl, hF2, hb2⟩
  obtain ⟨A2, c2, rfl, hI2, -⟩ := hF2.ints
  rw [natI_len, comp_len, HQ.out.len]
  have hcall := eqS A1 A2 c1 c2 N (natI (comp p q)) (natI (comp q p)) w2 (hI1.below hb2) hI2 (by rw [natI_len, comp_len, HPP.out.len]) (by rw [natI_len, comp_len, HQ.out.len]) (by omega)
  rw [natI_same, show decide (comp p q = comp q p) = b0 from HB0.out] at hcall
  have HCALL := Lib.hid hcall
  have hB2 := belowStep hb2 hb1
  clear hcall hF1 hI1 hF2 hI2 hb1 hb2
  go_wp2_with fail
  refine HCALL.out.mono ?_
  rintro e w3 ⟨rfl, n3, rfl⟩
  go_wp2_with fail
  go_ret
  exact ⟨rfl, belowDrewN hB2 n3⟩
theorem permMap {ps : List (List Nat)} {i : Nat} (hi : i < ps.length) : (ps.map natI).getD i [] = natI (ps.getD i []) := by
  rw [List.getD_eq_getElem?_getD, List.getElem?_map, List.getD_eq_getElem?_getD, List.getElem?_eq_getElem hi]
  rfl
theorem LAt.perm_ {w : World} {A : Option Addr} {ps : List (List Nat)} {N : Nat} (h : LAt w A (ps.map natI)) (hP : ∀ q, q ∈ ps → IsP N q) {k : Nat} (hk : k < ps.length) :
    ∃ b off Ai ci q, A = some ⟨b, off, none⟩ ∧ b < w.heap.size ∧ w.cell? ⟨b, off + k, none⟩ = some (.slice Ai N ci) ∧ IntsAt w Ai (natI q) ∧ IsP N q ∧ Hid (ps.getD k [] = q) := by
  obtain ⟨b, off, Ai, ci, e, h1, -, h3, h4⟩ := h k (by rw [List.length_map]; exact hk)
  have hm : ps.getD k [] ∈ ps := by rw [List.getD_eq_getElem?_getD, List.getElem?_eq_getElem hk]; exact List.getElem_mem hk
  have hp := hP _ hm
  rw [permMap hk] at h3 h4
  rw [natI_len, hp.len] at h3
  exact ⟨b, off, Ai, ci, _, e, h1, h3, h4, hp, rfl⟩
def AllTo (ps : List (List Nat)) (p : List Nat) (k : Nat) : Prop := (ps.take k).all (comB p) = true
theorem AllTo.zero (ps : List (List Nat)) (p : List Nat) : AllTo ps p 0 := by simp [AllTo]
theorem AllTo.more {ps : List (List Nat)} {p q : List Nat} {k : Nat} (h : AllTo ps p k) (hk : k < ps.length) (hq : ps.getD k [] = q) (hc : comB p q = true) : AllTo ps p (k + 1) := by
  unfold AllTo at *
  rw [List.getD_eq_getElem?_getD, List.getElem?_eq_getElem hk] at hq
  simp only [Option.getD_some] at hq
  rw [List.take_add_one, List.all_append, h, List.getElem?_eq_getElem hk]
  simp [hq, hc]
theorem AllTo.end_ {ps : List (List Nat)} {p : List Nat} (h : AllTo ps p ps.length) : comAll ps p = true := by
  unfold AllTo at h
  rwa [List.take_of_length_le (Nat.le_refl _)] at h
theorem notAll {ps : List (List Nat)} {p q : List Nat} {k : Nat} (hk : k < ps.length) (hq : ps.getD k [] = q) (hc : comB p q = false) : comAll ps p = false := by
  unfold comAll
  rw [List.all_eq_false]
  refine ⟨q, ?_, by rw [hc]; decide⟩
  rw [← hq, List.getD_eq_getElem?_getD, List.getElem?_eq_getElem hk]
  exact List.getElem_mem hk
set_option maxRecDepth 100000 in
set_option maxHeartbeats 1000000 in
theorem specComAll (A B : Option Addr) (c d m N : Nat) (p : List Nat) (ps : List (List Nat)) (w : World) (hx : IntsAt w A (natI p)) (hy : LAt w B (ps.map natI)) (hp : IsP N p) (hP : ∀ q, q ∈ ps → IsP N q) (hN : N ≤ 20) (hm : ps.length = m) (h8 : ps.length ≤ 8) :
    Calls Try.prog 123 #[.slice A N c, .slice B m d] w (ReadsBool (comAll ps p) w) := by
  subst hm
  obtain ⟨b0, hb0⟩ : ∃ b0, comAll ps p = b0 := ⟨_, rfl⟩
  rw [hb0]
  have HB0 := Lib.hid hb0
  have HP := Lib.hid hP
  clear hb0 hP
  go_enter Try.func123, Try.ntmps123
  go_wp2_with fail
  go_loopw [5] (fun z wr => ∃ k : Nat, k ≤ ps.length ∧ z = .int .i64 (k : Int) ∧ Hid (AllTo ps p k) ∧ Below w.heap.size w wr) (fun z _ => ps.length - (intOf z).toNat)
  case atStart => exact ⟨0, Nat.zero_le _, rfl, AllTo.zero _ _, Below.refl _ _⟩
  case round =>
    obtain ⟨k, hk, rfl, HA, hB⟩ := hrel
    by_cases hlt : k < ps.length
    · obtain ⟨b, off, Ai, ci, q, rfl, hb, hc0, hI, hq, HQ⟩ := (hy.below hB).perm_ HP.out hlt
      have p0 : (0 : Int) ≤ (k : Int) := by omega
      have p1 : (k : Int) < (ps.length : Int) := by omega
      have hcall := specCom A Ai c ci N p q wr (hx.below hB) hI hp hq hN
      cases hcm : comB p q with
      | true =>
        rw [hcm] at hcall
        have HCALL := Lib.hid hcall
        have HA2 := Lib.hid (HA.out.more hlt HQ.out hcm)
        clear hcall hcm
        go_wp2_with fail
        refine HCALL.out.mono ?_
        rintro e w1 ⟨rfl, hb1⟩
        go_wp2_with fail
        go_roundw
        case rel => exact ⟨k + 1, by omega, by go_num, HA2, belowStep hb1 hB⟩
        case measure => simp [intOf]; omega
      | false =>
        rw [hcm] at hcall
        have HCALL := Lib.hid hcall
        have HF : Hid (false = b0) := by unfold Hid; rw [← HB0.out, notAll hlt HQ.out hcm]
        clear hcall hcm
        go_wp2_with fail
        refine HCALL.out.mono ?_
        rintro e w1 ⟨rfl, hb1⟩
        go_wp2_with fail
        go_ret
        exact ⟨ret_bool HF.out, belowStep hb1 hB⟩
    · obtain rfl : k = ps.length := by omega
      have HT : Hid (true = b0) := by unfold Hid; rw [← HB0.out, HA.out.end_]
      go_wp2_with fail
      go_ret
      exact ⟨ret_bool HT.out, hB⟩
/-! The program's closure. -/
set_option maxRecDepth 3000 in
set_option maxHeartbeats 1000000 in
theorem notCom (A B : Option Addr) (c d N g : Nat) (p q : List Nat) (w : World) (hc : w.cell? ⟨g, 0, none⟩ = some (.slice A N c)) (hx : IntsAt w A (natI p)) (hy : IntsAt w B (natI q)) (hp : IsP N p) (hq : IsP N q) (hN : N ≤ 20) :
    Calls Try.prog 125 #[.slice B N d, .pointer (some ⟨g, 0, none⟩)] w (ReadsBool (!comB p q) w) := by
  have hcall := implCom A B c d N p q w hx hy hp hq hN
  obtain ⟨b0, hb0⟩ : ∃ b0, comB p q = b0 := ⟨_, rfl⟩
  rw [hb0] at hcall
  rw [hb0]
  have HCALL := Lib.hid hcall
  clear hcall hb0
  go_enter Try.func125, Try.ntmps125
  go_wp2_with (first | (go_at_call 126; refine HCALL.out.mono ?_; rintro e w1 ⟨rfl, hb1⟩))
  go_ret
  exact ⟨rfl, hb1⟩
def IdxC (b : Bool) (w : World) (e : Ending) (w' : World) : Prop := ∃ i : Int, e = .returned (.int .i64 i) ∧ decide (0 ≤ i) = b ∧ Below w.heap.size w w'
set_option maxRecDepth 3000 in
set_option maxHeartbeats 1000000 in
theorem indexCom (A B : Option Addr) (c d m N g : Nat) (p : List Nat) (ps : List (List Nat)) (w : World) (hcm : w.cell? ⟨g, 0, none⟩ = some (.slice A N c)) (hx : IntsAt w A (natI p)) (hy : LAt w B (ps.map natI)) (hp : IsP N p) (hP : ∀ q, q ∈ ps → IsP N q) (hN : N ≤ 20) (hm : ps.length = m) (h8 : ps.length ≤ 8) :
    Calls Try.prog 144 #[.slice B m d, .func (.func 125) #[] #[.pointer (some ⟨g, 0, none⟩)]] w (IdxC (!comAll ps p) w) := by
  subst hm
  obtain ⟨b0, hb0⟩ : ∃ b0, (!comAll ps p) = b0 := ⟨_, rfl⟩
  rw [hb0]
  have HB0 := Lib.hid hb0
  have HP := Lib.hid hP
  have hgw := World.block_lt_of_cell? w _ hcm
  clear hb0 hP
  go_enter Try.func144, Try.ntmps144
  go_wp2_with fail
  go_loopw [5, 8] (fun _ z wr => ∃ k : Nat, k ≤ ps.length ∧ z = .int .i64 (k : Int) ∧ Hid (AllTo ps p k) ∧ Below w.heap.size w wr) (fun _ z _ => ps.length - (intOf z).toNat)
  case atStart => exact ⟨0, Nat.zero_le _, rfl, AllTo.zero _ _, Below.refl _ _⟩
  case round =>
    obtain ⟨k, hk, rfl, HA, hB⟩ := hrel
    by_cases hlt : k < ps.length
    · obtain ⟨b, off, Ai, ci, q, rfl, hb, hc0, hI, hq, HQ⟩ := (hy.below hB).perm_ HP.out hlt
      have hcw : wr.cell? ⟨g, 0, none⟩ = some (.slice A N c) := (hB.cell (p := ⟨g, 0, none⟩) hgw).trans hcm
      have p0 : (0 : Int) ≤ (k : Int) := by omega
      have p1 : (k : Int) < (ps.length : Int) := by omega
      have hcall := notCom A Ai c ci N g p q wr hcw (hx.below hB) hI hp hq hN
      cases hcm2 : comB p q with
      | true =>
        rw [hcm2] at hcall
        have HCALL := Lib.hid hcall
        have HA2 := Lib.hid (HA.out.more hlt HQ.out hcm2)
        clear hcall hcm2
        go_wp2_with fail
        refine HCALL.out.mono ?_
        rintro e w1 ⟨rfl, hb1⟩
        go_wp2_with fail
        go_roundw
        case rel => exact ⟨k + 1, by omega, by go_num, HA2, belowStep hb1 hB⟩
        case measure => simp [intOf]; omega
      | false =>
        rw [hcm2] at hcall
        have HCALL := Lib.hid hcall
        have HF : Hid (decide ((0 : Int) ≤ (k : Int)) = b0) := by unfold Hid; rw [← HB0.out, notAll hlt HQ.out hcm2]; exact decide_eq_true p0
        clear hcall hcm2
        go_wp2_with fail
        refine HCALL.out.mono ?_
        rintro e w1 ⟨rfl, hb1⟩
        go_wp2_with fail
        go_ret
        exact ⟨k, rfl, HF.out, belowStep hb1 hB⟩
    · obtain rfl : k = ps.length := by omega
      have HT : Hid (decide ((0 : Int) ≤ -1) = b0) := by unfold Hid; rw [← HB0.out, HA.out.end_]; rfl
      go_wp2_with fail
      go_ret
      exact ⟨-1, rfl, HT.out, hB⟩
set_option maxHeartbeats 1000000 in
theorem containsCom (A B : Option Addr) (c d m N g : Nat) (p : List Nat) (ps : List (List Nat)) (w : World) (hcm : w.cell? ⟨g, 0, none⟩ = some (.slice A N c)) (hx : IntsAt w A (natI p)) (hy : LAt w B (ps.map natI)) (hp : IsP N p) (hP : ∀ q, q ∈ ps → IsP N q) (hN : N ≤ 20) (hm : ps.length = m) (h8 : ps.length ≤ 8) :
    Calls Try.prog 124 #[.slice B m d, .func (.func 125) #[] #[.pointer (some ⟨g, 0, none⟩)]] w (ReadsBool (!comAll ps p) w) := by
  go_enter Try.func124, Try.ntmps124
  go_wp2_with fail
  refine (indexCom A B c d m N g p ps _ hcm hx hy hp hP hN hm h8).mono ?_
  rintro e w1 ⟨i, rfl, hi, hB⟩
  have HI := Lib.hid hi
  clear hi
  go_wp2_with fail
  go_ret
  exact ⟨ret_bool (by rw [← HI.out]), hB⟩
def cenTo (ps l : List (List Nat)) (k : Nat) : Nat := cenN ps (l.take k)
theorem cenTo_zero (ps l : List (List Nat)) : cenTo ps l 0 = 0 := by simp [cenTo, cenN]
theorem cenTo_more {ps l : List (List Nat)} {k : Nat} {u : List Nat} (hk : k < l.length) (hu : l.getD k [] = u) : cenTo ps l (k + 1) = cenTo ps l k + if comAll ps u then 1 else 0 := by
  unfold cenTo cenN
  rw [List.getD_eq_getElem?_getD, List.getElem?_eq_getElem hk] at hu
  simp only [Option.getD_some] at hu
  rw [List.take_add_one, List.filter_append, List.length_append, List.getElem?_eq_getElem hk, hu]
  cases h : comAll ps u <;> simp [h]
theorem cenTo_end (ps l : List (List Nat)) : cenTo ps l l.length = cenN ps l := by unfold cenTo; rw [List.take_of_length_le (Nat.le_refl _)]
theorem cenTo_le (ps l : List (List Nat)) (k : Nat) : cenTo ps l k ≤ l.length := Nat.le_trans (List.length_filter_le _ _) (by rw [List.length_take]; omega)
noncomputable def cenQ (n : Int) (ls : List (List Int)) : Int := if gsQ n ls then (cenN (ls.map toN) (allR n.toNat (tQ n ls)) : Int) else 0
theorem cenQ_no {n : Int} {ls : List (List Int)} (h : gsQ n ls = false) : cenQ n ls = 0 := by unfold cenQ; rw [h]; rfl
theorem cenQ_yes {N : Nat} {ps : List (List Nat)} (h : gsQ (N : Int) (ps.map natI) = true) : cenQ (N : Int) (ps.map natI) = (cenN ps (allR N (gT N ps)) : Int) := by
  unfold cenQ
  rw [h, tQ_eq, map_toN]
  rfl
/-- A member of a list of the call's own. -/
theorem FrL.at_ {base : Nat} {w : World} {A : Option Addr} {m c N : Nat} {l : List (List Nat)} {V : Nat → Value} {B : Nat → Nat} (h : FrL base w (.slice A m c) l V B) (hl : ∀ u, u ∈ l → IsP N u) {k : Nat} (hk : k < l.length) :
    ∃ g Ak ck u, A = some ⟨g, 0, none⟩ ∧ g < w.heap.size ∧ w.cell? ⟨g, k, none⟩ = some (.slice Ak N ck) ∧ IntsAt w Ak (natI u) ∧ IsP N u ∧ Hid (l.getD k [] = u) := by
  obtain ⟨A', c', e, hr⟩ := h.shape
  injection e with e1 e2 e3
  subst e1
  obtain ⟨g, e, -, h1, h2⟩ := hr k hk
  have hm : l.getD k [] ∈ l := by rw [List.getD_eq_getElem?_getD, List.getElem?_eq_getElem hk]; exact List.getElem_mem hk
  have hp := hl _ hm
  obtain ⟨Ak, ck, h3, h4, -⟩ := (h.elt k hk).ints
  rw [h3, natI_len, hp.len] at h2
  exact ⟨g, Ak, ck, _, e, h1, h2, h4, hp, rfl⟩
set_option maxRecDepth 100000 in
set_option maxHeartbeats 8000000 in
theorem implCen (n : Int) (g c : Nat) (ls : List (List Int)) (w : World) (h : LOwn w g ls) (hl : ls.length ≤ 1048576) (hs : ShortL ls) :
    Calls Try.prog 67 #[.int .i64 n, .slice (some ⟨g, 0, none⟩) ls.length c] w (ReadsInt (cenQ n ls) w) := by
  have hg0 := implGs (some ⟨g, 0, none⟩) c n ls w h.at_ hl hs
  cases hgs : gsQ n ls with
  | false =>
    rw [cenQ_no hgs]
    rw [hgs] at hg0
    have HG0 := Lib.hid hg0
    clear hg0 hgs hs
    go_enter Try.func67, Try.ntmps67
    go_wp2_with (first | (go_at_call 73; refine HG0.out.mono ?_; rintro e w1 ⟨rfl, hB1⟩))
    go_ret
    exact ⟨rfl, hB1⟩
  | true =>
    rw [hgs] at hg0
    obtain ⟨N, ps, rfl, h0, hN, rfl, h8, hP⟩ := gsOpen hgs
    rw [cenQ_yes hgs]
    have hm : (ps.map natI).length = ps.length := List.length_map ..
    rw [hm] at hg0
    rw [hm]
    obtain ⟨M, hM⟩ : ∃ M, allR N (gT N ps) = M := ⟨_, rfl⟩
    have hMP : ∀ u, u ∈ M → IsP N u := by rw [← hM]; exact allR_isP (gT_chain hP)
    have hMl : M.length ≤ 3000 := by rw [← hM]; exact allR_len _ _
    rw [hM]
    have HM := Lib.hid hM
    have HMP := Lib.hid hMP
    have HG0 := Lib.hid hg0
    have HL := Lib.hid h
    have HP := Lib.hid hP
    clear hg0 hgs hs h hP hm hM hl hMP
    go_enter Try.func67, Try.ntmps67
    go_wp2_with (first
      | (go_at_call 73; refine HG0.out.mono ?_; rintro e w1 ⟨rfl, hB1⟩)
      | (go_at_call 76; refine (newI N ps g ps.length c _ (by exact HL.out.below hB1) rfl HP.out h0 hN h8).mono ?_; rintro e w2 ⟨C, T, rfl, hC, hc, hone, hb2⟩
          ; have HC := Lib.hid hC; have HCH := Lib.hid hc; have hB2 := belowStep hb2 hB1; clear hC hc hone hb2
          ; have HMM : Hid (allR N T = M) := (by unfold Hid; rw [allR_eq HCH.out (gT_chain HP.out), HM.out]))
      | (go_at_call 122; refine (implMembersC C N T _ HC.out HCH.out hN h0).mono ?_; rw [HMM.out]; rintro e w3 ⟨v3, b3, rfl, ⟨V, B, hF3⟩, hb3⟩; obtain ⟨A3, c3, rfl, -⟩ := hF3.shape; have HF3 := Lib.hid hF3; have hB3 := belowStep hb3 hB2; clear hF3))
    have HC0 : Hid (0 = cenTo ps M 0) := (cenTo_zero _ _).symm
    clear HG0 HM HC HCH HMM
    go_loopw [7, 23] (fun y z wr => ∃ (k cn : Nat), k ≤ M.length ∧ z = .int .i64 (k : Int) ∧ y = .int .i64 (cn : Int) ∧ Hid (cn = cenTo ps M k) ∧ Below w3.heap.size w3 wr) (fun _ z _ => M.length - (intOf z).toNat)
    case atStart => exact ⟨0, 0, Nat.zero_le _, rfl, rfl, HC0, Below.refl _ _⟩
    case round =>
      obtain ⟨k, cn, hk, rfl, rfl, HCN, hB⟩ := hrel
      clear HC0
      by_cases hlt : k < M.length
      · obtain ⟨gg, Ak, ck, u, rfl, hgl, hck, hIk, hup, HU⟩ := (HF3.out.below hB).at_ HMP.out hlt
        have hmore := cenTo_more (ps := ps) hlt HU.out
        have hcl := cenTo_le ps M k
        rw [← HCN.out] at hmore hcl
        have HIK := Lib.hid hIk
        have HUP := Lib.hid hup
        have hLA := ((HL.out.below hB3).below hB).at_
        have HLA := Lib.hid hLA
        have p0 : (0 : Int) ≤ (k : Int) := by omega
        have p1 : (k : Int) < (M.length : Int) := by omega
        have hcon := fun (wx : World) (g : Nat) (hb : Below wr.heap.size wr wx) (hc : wx.cell? ⟨g, 0, none⟩ = some (.slice Ak N ck)) => containsCom Ak _ ck c ps.length N g u ps wx hc (HIK.out.below hb) (HLA.out.below hb) HUP.out HP.out hN rfl h8
        cases hcm : comAll ps u with
        | true =>
          rw [hcm] at hmore hcon
          have HCN2 : Hid (cn + 1 = cenTo ps M (k + 1)) := hmore.symm
          have HCON := Lib.hid hcon
          clear hmore hcon hcm hIk hup hLA
          go_wp2_with (first | (go_at_call 124; refine (HCON.out _ _ (by exact (by repeat (first | exact Below.refl _ _ | assumption | refine Below.setCell ?_ (by first | omega | (simp <;> omega)) _ | refine Below.alloc ?_ (by first | omega | (simp <;> omega)) _ | refine Below.drew ?_))) (by exact cell_of_row _ _ 0 _ _ (0, 0) (heap_alloc_new wr _))).mono ?_; rintro e w5 ⟨rfl, hb5⟩; have hB5 := belowStep hb5 (hB.alloc hB.size _)))
          go_roundw
          case rel => exact ⟨k + 1, cn + 1, by omega, by go_num, by go_num, HCN2, hB5⟩
          case measure => simp [intOf]; omega
        | false =>
          rw [hcm] at hmore hcon
          have HCN2 : Hid (cn = cenTo ps M (k + 1)) := hmore.symm
          have HCON := Lib.hid hcon
          clear hmore hcon hcm hIk hup hLA
          go_wp2_with (first | (go_at_call 124; refine (HCON.out _ _ (by exact (by repeat (first | exact Below.refl _ _ | assumption | refine Below.setCell ?_ (by first | omega | (simp <;> omega)) _ | refine Below.alloc ?_ (by first | omega | (simp <;> omega)) _ | refine Below.drew ?_))) (by exact cell_of_row _ _ 0 _ _ (0, 0) (heap_alloc_new wr _))).mono ?_; rintro e w5 ⟨rfl, hb5⟩; have hB5 := belowStep hb5 (hB.alloc hB.size _)))
          go_roundw
          case rel => exact ⟨k + 1, cn, by omega, by go_num, rfl, HCN2, hB5⟩
          case measure => simp [intOf]; omega
      · obtain rfl : k = M.length := by omega
        have HE : Hid ((cn : Int) = (cenN ps M : Int)) := by unfold Hid; rw [HCN.out, cenTo_end]
        go_wp2_with fail
        go_ret
        exact ⟨ret_int HE.out, belowStep hB hB3⟩
set_option maxRecDepth 100000 in
set_option maxHeartbeats 8000000 in
theorem specCen (n : Int) (g c : Nat) (ls : List (List Int)) (w : World) (h : LOwn w g ls) (hl : ls.length ≤ 1048576) (hs : ShortL ls) :
    Calls Try.prog 66 #[.int .i64 n, .slice (some ⟨g, 0, none⟩) ls.length c] w (ReadsInt (cenQ n ls) w) := by
  have hg0 := specGs (some ⟨g, 0, none⟩) c n ls w h.at_ hl hs
  cases hgs : gsQ n ls with
  | false =>
    rw [cenQ_no hgs]
    rw [hgs] at hg0
    have HG0 := Lib.hid hg0
    clear hg0 hgs hs
    go_enter Try.func66, Try.ntmps66
    go_wp2_with (first | (go_at_call 53; refine HG0.out.mono ?_; rintro e w1 ⟨rfl, n1, rfl⟩))
    go_ret
    exact ⟨rfl, belowDrewN (Below.refl _ _) _⟩
  | true =>
    rw [hgs] at hg0
    obtain ⟨N, ps, rfl, h0, hN, rfl, h8, hP⟩ := gsOpen hgs
    rw [cenQ_yes hgs]
    have hm : (ps.map natI).length = ps.length := List.length_map ..
    rw [hm] at hg0
    rw [hm]
    have HG0 := Lib.hid hg0
    have HAL := Lib.hid (fun (wx : World) (hb : Below w.heap.size w wx) => specAll N g c ps.length ps wx (h.below hb) rfl hP h0 hN h8)
    obtain ⟨M, hM⟩ : ∃ M, allR N (gT N ps) = M := ⟨_, rfl⟩
    have hMP : ∀ u, u ∈ M → IsP N u := by rw [← hM]; exact allR_isP (gT_chain hP)
    have hMl : M.length ≤ 3000 := by rw [← hM]; exact allR_len _ _
    rw [hM] at HAL
    rw [hM]
    have HMP := Lib.hid hMP
    have HL := Lib.hid h
    have HP := Lib.hid hP
    clear hg0 hgs hs h hP hm hM hl hMP
    go_enter Try.func66, Try.ntmps66
    go_wp2_with (first
      | (go_at_call 53; refine HG0.out.mono ?_; rintro e w1 ⟨rfl, n1, rfl⟩)
      | (go_at_call 121; refine (HAL.out _ (by exact belowDrewN (Below.refl _ _) _)).mono ?_; rintro e w3 ⟨v3, V, B, rfl, hF3, hb3⟩; obtain ⟨A3, c3, rfl, -⟩ := hF3.shape; have HF3 := Lib.hid hF3; have hB3 := belowStep hb3 (belowDrewN (Below.refl w.heap.size w) _); clear hF3))
    have HC0 : Hid (0 = cenTo ps M 0) := (cenTo_zero _ _).symm
    clear HG0 HAL
    go_loopw [6, 7] (fun y z wr => ∃ (k cn : Nat), k ≤ M.length ∧ z = .int .i64 (k : Int) ∧ y = .int .i64 (cn : Int) ∧ Hid (cn = cenTo ps M k) ∧ Below w3.heap.size w3 wr) (fun _ z _ => M.length - (intOf z).toNat)
    case atStart => exact ⟨0, 0, Nat.zero_le _, rfl, rfl, HC0, Below.refl _ _⟩
    case round =>
      obtain ⟨k, cn, hk, rfl, rfl, HCN, hB⟩ := hrel
      clear HC0
      by_cases hlt : k < M.length
      · obtain ⟨gg, Ak, ck, u, rfl, hgl, hck, hIk, hup, HU⟩ := (HF3.out.below hB).at_ HMP.out hlt
        have hmore := cenTo_more (ps := ps) hlt HU.out
        have hcl := cenTo_le ps M k
        rw [← HCN.out] at hmore hcl
        have hLA := ((HL.out.below hB3).below hB).at_
        have p0 : (0 : Int) ≤ (k : Int) := by omega
        have p1 : (k : Int) < (M.length : Int) := by omega
        have hcon := specComAll Ak _ ck c ps.length N u ps wr hIk hLA hup HP.out hN rfl h8
        cases hcm : comAll ps u with
        | true =>
          rw [hcm] at hmore hcon
          have HCN2 : Hid (cn + 1 = cenTo ps M (k + 1)) := hmore.symm
          have HCON := Lib.hid hcon
          clear hmore hcon hcm hIk hup hLA
          go_wp2_with (first
            | (go_at_call 123; refine (HCON.out).mono ?_; rintro e w5 ⟨rfl, hb5⟩; have hB5 := belowStep hb5 hB)
            | (go_at_call 72; refine (boolInt _ _).mono ?_; rintro e w' ⟨rfl, rfl⟩))
          go_roundw
          case rel => exact ⟨k + 1, cn + 1, by omega, by go_num, by go_num, HCN2, hB5⟩
          case measure => simp [intOf]; omega
        | false =>
          rw [hcm] at hmore hcon
          have HCN2 : Hid (cn = cenTo ps M (k + 1)) := hmore.symm
          have HCON := Lib.hid hcon
          clear hmore hcon hcm hIk hup hLA
          go_wp2_with (first
            | (go_at_call 123; refine (HCON.out).mono ?_; rintro e w5 ⟨rfl, hb5⟩; have hB5 := belowStep hb5 hB)
            | (go_at_call 72; refine (boolInt _ _).mono ?_; rintro e w' ⟨rfl, rfl⟩))
          go_roundw
          case rel => exact ⟨k + 1, cn, by omega, by go_num, by first | rfl | go_num, HCN2, hB5⟩
          case measure => simp [intOf]; omega
      · obtain rfl : k = M.length := by omega
        have HE : Hid ((cn : Int) = (cenN ps M : Int)) := by unfold Hid; rw [HCN.out, cenTo_end]
        go_wp2_with fail
        go_ret
        exact ⟨ret_int HE.out, belowStep hB hB3⟩
end Go.Proofs.Ytpcnbjfkobeibaa
