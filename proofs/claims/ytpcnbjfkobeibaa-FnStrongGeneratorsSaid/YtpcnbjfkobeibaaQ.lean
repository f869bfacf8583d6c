/- What the readers of groups answer, for all arguments; a way down a chain in a loop. Conditions: as each lemma says. -/
import Derived.Test.YtpcnbjfkobeibaaRd
namespace Go.Proofs.Ytpcnbjfkobeibaa
open Go.RowKit Grp

def toN (xs : List Int) : List Nat := xs.map Int.toNat
theorem toN_natI (p : List Nat) : toN (natI p) = p := by
  unfold toN natI
  rw [List.map_map]
  conv => rhs; rw [← List.map_id p]
  exact List.map_congr_left fun x _ => by simp
noncomputable def tQ (n : Int) (ls : List (List Int)) : Tab := gT n.toNat (ls.map toN)
theorem map_toN (ps : List (List Nat)) : (ps.map natI).map toN = ps := by
  rw [List.map_map]
  conv => rhs; rw [← List.map_id ps]
  exact List.map_congr_left fun x _ => toN_natI x
theorem tQ_eq (N : Nat) (ps : List (List Nat)) : tQ (N : Int) (ps.map natI) = gT N ps := by
  unfold tQ
  rw [map_toN]
  rfl
theorem bad_open {N : Nat} {xs : List Int} (h : badL (N : Int) xs = false) : ∃ p, xs = natI p ∧ IsP N p := by
  unfold badL at h
  simp only [Bool.not_eq_false', Bool.and_eq_true, decide_eq_true_eq] at h
  obtain ⟨p, ep, hpp⟩ := (permQ_iff.1 h.2).perm
  have e : xs.length = N := by omega
  rw [e] at hpp
  exact ⟨p, ep, hpp⟩
noncomputable def okQ (n : Int) (ls : List (List Int)) (xs : List Int) : Bool := gsQ n ls && !badL n xs
theorem okQ_no1 {n : Int} {ls : List (List Int)} {xs : List Int} (h : gsQ n ls = false) : okQ n ls xs = false := by unfold okQ; rw [h]; rfl
theorem okQ_no2 {n : Int} {ls : List (List Int)} {xs : List Int} (h : badL n xs = true) : okQ n ls xs = false := by unfold okQ; rw [h]; simp
theorem okQ_yes {n : Int} {ls : List (List Int)} {xs : List Int} (h : gsQ n ls = true) (h2 : badL n xs = false) : okQ n ls xs = true := by unfold okQ; rw [h, h2]; rfl
/-- The level of a way down. -/
def lvlOf (w : World) (W : Nat) : Nat := match w.cell? ⟨W, 1, none⟩ with
  | some v => (intOf v).toNat
  | none => 0
theorem WalkAt.lvl {w : World} {W C n i : Nat} {u : List Nat} (h : WalkAt w W C n i u) : lvlOf w W = i := by
  obtain ⟨g, c, -, -, -, -, h1, -⟩ := h.cells
  unfold lvlOf
  rw [h1]
  simp [intOf]
theorem lvl_drew (w : World) (W k : Nat) : lvlOf (w.drewN k) W = lvlOf w W := rfl
theorem WalkAt.drewN {w : World} {W C n i : Nat} {u : List Nat} (h : WalkAt w W C n i u) (k : Nat) : WalkAt (w.drewN k) W C n i u := h.below (belowDrewN (Below.refl _ _) k)
theorem natI_at {p : List Nat} {i : Nat} : (natI p).getD i 0 = (app p i : Int) := natI_getD p i
theorem appBound {N : Nat} {p : List Nat} (hp : IsP N p) (hn : N ≤ 20) {i : Nat} (hi : i < N) : -9223372036854775808 ≤ ((app p i : Nat) : Int) ∧ ((app p i : Nat) : Int) ≤ 9223372036854775807 := by
  have := hp.lt hi
  omega
def ReadsInt (x : Int) (w : World) (e : Ending) (w' : World) : Prop := e = .returned (.int .i64 x) ∧ Below w.heap.size w w'
theorem mem_natI {x : Nat} {V : List Nat} : ((x : Int) ∈ natI V) ↔ x ∈ V := by
  unfold natI
  rw [List.mem_map]
  constructor
  · rintro ⟨a, h, e⟩
    have : a = x := by omega
    rw [← this]; exact h
  · intro h; exact ⟨x, h, rfl⟩
/-- Whether a value is among the values. -/
theorem hasVal (V : List Nat) (hV : V.length ≤ 20) (x : Nat) (b : Bool) (h : decide (x ∈ V) = b) (wx : World) (gg cc : Nat) (hI : IntsAt wx (some ⟨gg, 0, none⟩) (natI V)) :
    Calls Try.prog 80 #[.slice (some ⟨gg, 0, none⟩) V.length cc, .int .i64 (x : Int)] wx fun e w' => e = .returned (.bool b) ∧ wx = w' := by
  have := specHasInt (some ⟨gg, 0, none⟩) cc (natI V) (x : Int) wx hI (by rw [natI_len]; omega)
  rw [natI_len] at this
  have e : decide ((x : Int) ∈ natI V) = b := by rw [← h]; exact decide_eq_decide.2 mem_natI
  rwa [e] at this
/-! A value taken, or not. -/
theorem notIn {x : Nat} {V : List Nat} (h : x ∉ V) : ∀ v : Nat, (x : Int) = (v : Int) → v ∉ V := fun v e hv => h (by
  have e2 : x = v := by omega
  rw [e2]
  exact hv)
theorem takeYes {w : World} {C n : Nat} {T : Tab} {G : List Nat → Prop} (h : CI w C n T) (hc : Chain n T 0 G) (hn : n ≤ 20) {W i : Nat} {u : List Nat} (hw : WalkAt w W C n i u) (hu : IsP n u) (hi : i < n) {x : Nat} (hx : x ∈ vals n T i u) :
    Calls Try.prog 85 #[.pointer (some ⟨W, 0, none⟩), .int .i64 (x : Int)] w fun e w' => e = .returned (.bool true) ∧ WalkF w.heap.size w' W C n (i + 1) (Grp.step T i u x) ∧ Below W w w' := by
  have hxn := (mem_vals.1 hx).1
  refine (implChoice h hc hn hw hu hi (x : Int) (by omega) (by omega)).mono ?_
  rintro e w' ⟨hb, ⟨v, ev, hv, he, hw'⟩ | ⟨hv, he, hw'⟩⟩
  · obtain rfl : x = v := by omega
    exact ⟨he, hw', hb⟩
  · exact absurd hx (hv x rfl)
theorem takeNo {w : World} {C n : Nat} {T : Tab} {G : List Nat → Prop} (h : CI w C n T) (hc : Chain n T 0 G) (hn : n ≤ 20) {W i : Nat} {u : List Nat} (hw : WalkAt w W C n i u) (hu : IsP n u) (hi : i < n) {x : Int} (hx0 : -9223372036854775808 ≤ x) (hx1 : x ≤ 9223372036854775807) (hx : ∀ v : Nat, x = (v : Int) → v ∉ vals n T i u) :
    Calls Try.prog 85 #[.pointer (some ⟨W, 0, none⟩), .int .i64 x] w fun e w' => e = .returned (.bool false) ∧ WalkAt w' W C n i u ∧ Below W w w' := by
  refine (implChoice h hc hn hw hu hi x hx0 hx1).mono ?_
  rintro e w' ⟨hb, ⟨v, ev, hv, he, hw'⟩ | ⟨hv, he, hw'⟩⟩
  · exact absurd hv (hx v ev)
  · exact ⟨he, hw', hb⟩
/-! A chain built of generators. -/
def NewI (N : Nat) (ps : List (List Nat)) (w : World) (e : Ending) (w' : World) : Prop := ∃ (C : Nat) (T : Tab), e = .returned (.pointer (some ⟨C, 0, none⟩)) ∧ CI w' C N T ∧ Chain N T 0 (GenL N ps) ∧ (∀ j, j < N → T j j = some (idp N)) ∧ Below w.heap.size w w'
def NewS (N : Nat) (ps : List (List Nat)) (w : World) (e : Ending) (w' : World) : Prop := ∃ (C : Nat) (T : Tab), e = .returned (.pointer (some ⟨C, 0, none⟩)) ∧ CS w' C N T ∧ Chain N T 0 (GenL N ps) ∧ (∀ j, j < N → T j j = some (idp N)) ∧ Below w.heap.size w w'
theorem newI (N : Nat) (ps : List (List Nat)) (g m c : Nat) (w : World) (h : LOwn w g (ps.map natI)) (hm : ps.length = m) (hP : ∀ p, p ∈ ps → IsP N p) (h0 : 0 < N) (hN : N ≤ 20) (h8 : ps.length ≤ 8) :
    Calls Try.prog 76 #[.int .i64 (N : Int), .slice (some ⟨g, 0, none⟩) m c] w (NewI N ps w) := by
  subst hm
  refine (implNew N _ c ps w (h.perms h0 fun p hp => (hP p hp).len) hP h0 hN (by omega)).mono ?_
  rintro e w' ⟨C, s, T, Gs, h1, h2, h3, h4, h5, h6⟩
  exact ⟨C, T, h1, ⟨_, s, Gs, h2, h3⟩, h4.gen h5, fun j hj => h4.one j (Nat.zero_le _) hj, h6⟩
theorem newS (N : Nat) (ps : List (List Nat)) (g m c : Nat) (w : World) (h : LOwn w g (ps.map natI)) (hm : ps.length = m) (hP : ∀ p, p ∈ ps → IsP N p) (h0 : 0 < N) (hN : N ≤ 20) (h8 : ps.length ≤ 8) :
    Calls Try.prog 71 #[.int .i64 (N : Int), .slice (some ⟨g, 0, none⟩) m c] w (NewS N ps w) := by
  subst hm
  refine (specBuild N _ c ps w (h.perms h0 fun p hp => (hP p hp).len) hP h0 hN (by omega)).mono ?_
  rintro e w' ⟨C, s, T, Gs, h1, h2, h3, h4, h5, h6⟩
  exact ⟨C, T, h1, ⟨_, s, Gs, h2, h3⟩, h4.gen h5, fun j hj => h4.one j (Nat.zero_le _) hj, h6⟩
/-- A permutation or none, in memory of the call's own. -/
def ReadsOpt (o : Option (List Nat)) (w : World) (e : Ending) (w' : World) : Prop := ∃ v, e = .returned (.tuple #[v, .bool o.isSome]) ∧ Fresh w.heap.size w' v (natI (o.getD [])) ∧ Below w.heap.size w w'
def ReadsPerm (r : List Nat) (w : World) (e : Ending) (w' : World) : Prop := ∃ v, e = .returned v ∧ Fresh w.heap.size w' v (natI r) ∧ Below w.heap.size w w'
theorem gsOpen {n : Int} {ls : List (List Int)} (h : gsQ n ls = true) : ∃ (N : Nat) (ps : List (List Nat)), n = (N : Int) ∧ 0 < N ∧ N ≤ 20 ∧ ls = ps.map natI ∧ ps.length ≤ 8 ∧ (∀ q, q ∈ ps → IsP N q) := by
  obtain ⟨N, ps, h1, h2, h3, rfl, h4, h5⟩ := gs_perms h
  exact ⟨N, ps, h1, h2, h3, rfl, by simpa using h4, h5⟩
theorem gT_chain {N : Nat} {ps : List (List Nat)} (hP : ∀ q, q ∈ ps → IsP N q) : Chain N (gT N ps) 0 (GenL N ps) := tabOf_chain (GenL.sub hP)
/-! What the readers answer. -/
noncomputable def lmpQ (n : Int) (ls : List (List Int)) (xs : List Int) : Int := if okQ n ls xs then (lmpR n.toNat (tQ n ls) (toN xs) : Int) else -1
theorem lmpQ_no {n : Int} {ls : List (List Int)} {xs : List Int} (h : okQ n ls xs = false) : lmpQ n ls xs = -1 := by unfold lmpQ; rw [h]; rfl
theorem lmpQ_yes {N : Nat} {ps : List (List Nat)} {p : List Nat} (h : okQ (N : Int) (ps.map natI) (natI p) = true) : lmpQ (N : Int) (ps.map natI) (natI p) = ((walkG N (gT N ps) (actLmp p) N 0 (idp N) 0).1 : Int) := by
  unfold lmpQ
  rw [h, tQ_eq, toN_natI]
  rfl
/-- Arguments for which there is an answer. -/
theorem okQ_open {n : Int} {ls : List (List Int)} {xs : List Int} (h : okQ n ls xs = true) : ∃ (N : Nat) (ps : List (List Nat)) (p : List Nat), n = (N : Int) ∧ 0 < N ∧ N ≤ 20 ∧ ls = ps.map natI ∧ ps.length ≤ 8 ∧ (∀ q, q ∈ ps → IsP N q) ∧ xs = natI p ∧ IsP N p ∧ gsQ n ls = true ∧ badL n xs = false := by
  unfold okQ at h
  simp only [Bool.and_eq_true, Bool.not_eq_true'] at h
  obtain ⟨h1, h2⟩ := h
  obtain ⟨N, ps, rfl, a, b, rfl, c, d⟩ := gs_perms h1
  obtain ⟨p, rfl, hp⟩ := bad_open h2
  exact ⟨N, ps, p, rfl, a, b, rfl, by simpa using c, d, rfl, hp, h1, h2⟩
theorem okQ_perm {N : Nat} {p : List Nat} (hp : IsP N p) (h : badL (N : Int) (natI p) = false) : permQ (natI p) = true := by
  have hlen : (((natI p).length : Nat) : Int) = (N : Int) := by rw [natI_len, hp.len]
  rw [badL_perm hlen] at h
  simpa using h
set_option maxRecDepth 100000 in
set_option maxHeartbeats 4000000 in
theorem implLmpNo (n : Int) (g c : Nat) (ls : List (List Int)) (A : Option Addr) (c' : Nat) (xs : List Int) (w : World) (h : LAt w (some ⟨g, 0, none⟩) ls) (hl : ls.length ≤ 1048576) (hs : ShortL ls) (hx : IntsAt w A xs) (hxl : xs.length ≤ 1048576) (hno : okQ n ls xs = false) :
    Calls Try.prog 29 #[.int .i64 n, .slice (some ⟨g, 0, none⟩) ls.length c, .slice A xs.length c'] w fun e w' => e = .returned (.int .i64 (-1)) ∧ Below w.heap.size w w' := by
  have HX := Lib.hid hx
  have HG0 := Lib.hid (implGs (some ⟨g, 0, none⟩) c n ls w h hl hs)
  clear h hs hx
  cases hgs : gsQ n ls with
  | false =>
    rw [hgs] at HG0
    clear hgs hno
    go_enter Try.func29, Try.ntmps29
    go_wp2_with (first | (go_at_call 73; refine HG0.out.mono ?_; rintro e w1 ⟨rfl, hB1⟩))
    go_ret
    exact ⟨rfl, hB1⟩
  | true =>
    have hbad : badL n xs = true := by unfold okQ at hno; rw [hgs] at hno; simpa using hno
    rw [hgs] at HG0
    by_cases hlen : (xs.length : Int) = n
    · have hpm : permQ xs = false := by rw [badL_perm hlen] at hbad; simpa using hbad
      have HP : Hid (∀ wx : World, IntsAt wx A xs → Calls Try.prog 75 #[.slice A xs.length c'] wx fun e w' => e = .returned (.bool false) ∧ wx = w') := fun wx hx => by have := implPerm A c' xs wx hx hxl; rwa [hpm] at this
      clear hgs hno hbad hpm
      subst hlen
      go_enter Try.func29, Try.ntmps29
      go_wp2_with (first | (go_at_call 73; refine HG0.out.mono ?_; rintro e w1 ⟨rfl, hB1⟩) | (go_at_call 74; refine (implLength _ _ _ _).mono ?_; rintro e w' ⟨rfl, rfl⟩) | (go_at_call 75; refine (HP.out _ (by exact HX.out.below hB1)).mono ?_; rintro e w' ⟨rfl, rfl⟩))
      go_ret
      exact ⟨rfl, hB1⟩
    · have hle : ((xs.length : Int) == n) = false := by simpa using hlen
      clear hgs hno hbad
      go_enter Try.func29, Try.ntmps29
      go_wp2_with (first | (go_at_call 73; refine HG0.out.mono ?_; rintro e w1 ⟨rfl, hB1⟩) | (go_at_call 74; refine (implLength _ _ _ _).mono ?_; rintro e w' ⟨rfl, rfl⟩))
      go_ret
      exact ⟨rfl, hB1⟩
set_option maxRecDepth 100000 in
set_option maxHeartbeats 4000000 in
theorem implRankNo (n : Int) (g c : Nat) (ls : List (List Int)) (A : Option Addr) (c' : Nat) (xs : List Int) (w : World) (h : LAt w (some ⟨g, 0, none⟩) ls) (hl : ls.length ≤ 1048576) (hs : ShortL ls) (hx : IntsAt w A xs) (hxl : xs.length ≤ 1048576) (hno : okQ n ls xs = false) :
    Calls Try.prog 37 #[.int .i64 n, .slice (some ⟨g, 0, none⟩) ls.length c, .slice A xs.length c'] w fun e w' => e = .returned (.int .i64 (-1)) ∧ Below w.heap.size w w' := by
  have HX := Lib.hid hx
  have HG0 := Lib.hid (implGs (some ⟨g, 0, none⟩) c n ls w h hl hs)
  clear h hs hx
  cases hgs : gsQ n ls with
  | false =>
    rw [hgs] at HG0
    clear hgs hno
    go_enter Try.func37, Try.ntmps37
    go_wp2_with (first | (go_at_call 73; refine HG0.out.mono ?_; rintro e w1 ⟨rfl, hB1⟩))
    go_ret
    exact ⟨rfl, hB1⟩
  | true =>
    have hbad : badL n xs = true := by unfold okQ at hno; rw [hgs] at hno; simpa using hno
    rw [hgs] at HG0
    by_cases hlen : (xs.length : Int) = n
    · have hpm : permQ xs = false := by rw [badL_perm hlen] at hbad; simpa using hbad
      have HP : Hid (∀ wx : World, IntsAt wx A xs → Calls Try.prog 75 #[.slice A xs.length c'] wx fun e w' => e = .returned (.bool false) ∧ wx = w') := fun wx hx => by have := implPerm A c' xs wx hx hxl; rwa [hpm] at this
      clear hgs hno hbad hpm
      subst hlen
      go_enter Try.func37, Try.ntmps37
      go_wp2_with (first | (go_at_call 73; refine HG0.out.mono ?_; rintro e w1 ⟨rfl, hB1⟩) | (go_at_call 74; refine (implLength _ _ _ _).mono ?_; rintro e w' ⟨rfl, rfl⟩) | (go_at_call 75; refine (HP.out _ (by exact HX.out.below hB1)).mono ?_; rintro e w' ⟨rfl, rfl⟩))
      go_ret
      exact ⟨rfl, hB1⟩
    · have hle : ((xs.length : Int) == n) = false := by simpa using hlen
      clear hgs hno hbad
      go_enter Try.func37, Try.ntmps37
      go_wp2_with (first | (go_at_call 73; refine HG0.out.mono ?_; rintro e w1 ⟨rfl, hB1⟩) | (go_at_call 74; refine (implLength _ _ _ _).mono ?_; rintro e w' ⟨rfl, rfl⟩))
      go_ret
      exact ⟨rfl, hB1⟩
set_option maxRecDepth 100000 in
set_option maxHeartbeats 4000000 in
theorem implCmbNo (n : Int) (g c : Nat) (ls : List (List Int)) (A : Option Addr) (c' : Nat) (xs : List Int) (w : World) (h : LAt w (some ⟨g, 0, none⟩) ls) (hl : ls.length ≤ 1048576) (hs : ShortL ls) (hx : IntsAt w A xs) (hxl : xs.length ≤ 1048576) (hno : okQ n ls xs = false) :
    Calls Try.prog 35 #[.int .i64 n, .slice (some ⟨g, 0, none⟩) ls.length c, .slice A xs.length c'] w fun e w' => e = .returned (.int .i64 (-1)) ∧ Below w.heap.size w w' := by
  have HX := Lib.hid hx
  have HG0 := Lib.hid (implGs (some ⟨g, 0, none⟩) c n ls w h hl hs)
  clear h hs hx
  cases hgs : gsQ n ls with
  | false =>
    rw [hgs] at HG0
    clear hgs hno
    go_enter Try.func35, Try.ntmps35
    go_wp2_with (first | (go_at_call 73; refine HG0.out.mono ?_; rintro e w1 ⟨rfl, hB1⟩))
    go_ret
    exact ⟨rfl, hB1⟩
  | true =>
    have hbad : badL n xs = true := by unfold okQ at hno; rw [hgs] at hno; simpa using hno
    rw [hgs] at HG0
    by_cases hlen : (xs.length : Int) = n
    · have hpm : permQ xs = false := by rw [badL_perm hlen] at hbad; simpa using hbad
      have HP : Hid (∀ wx : World, IntsAt wx A xs → Calls Try.prog 75 #[.slice A xs.length c'] wx fun e w' => e = .returned (.bool false) ∧ wx = w') := fun wx hx => by have := implPerm A c' xs wx hx hxl; rwa [hpm] at this
      clear hgs hno hbad hpm
      subst hlen
      go_enter Try.func35, Try.ntmps35
      go_wp2_with (first | (go_at_call 73; refine HG0.out.mono ?_; rintro e w1 ⟨rfl, hB1⟩) | (go_at_call 74; refine (implLength _ _ _ _).mono ?_; rintro e w' ⟨rfl, rfl⟩) | (go_at_call 75; refine (HP.out _ (by exact HX.out.below hB1)).mono ?_; rintro e w' ⟨rfl, rfl⟩))
      go_ret
      exact ⟨rfl, hB1⟩
    · have hle : ((xs.length : Int) == n) = false := by simpa using hlen
      clear hgs hno hbad
      go_enter Try.func35, Try.ntmps35
      go_wp2_with (first | (go_at_call 73; refine HG0.out.mono ?_; rintro e w1 ⟨rfl, hB1⟩) | (go_at_call 74; refine (implLength _ _ _ _).mono ?_; rintro e w' ⟨rfl, rfl⟩))
      go_ret
      exact ⟨rfl, hB1⟩
set_option maxRecDepth 100000 in
set_option maxHeartbeats 4000000 in
theorem implNextNo (n : Int) (g c : Nat) (ls : List (List Int)) (A : Option Addr) (c' : Nat) (xs : List Int) (w : World) (h : LAt w (some ⟨g, 0, none⟩) ls) (hl : ls.length ≤ 1048576) (hs : ShortL ls) (hx : IntsAt w A xs) (hxl : xs.length ≤ 1048576) (hno : okQ n ls xs = false) :
    Calls Try.prog 22 #[.int .i64 n, .slice (some ⟨g, 0, none⟩) ls.length c, .slice A xs.length c'] w fun e w' => e = .returned (.tuple #[.slice none 0 0, .bool false]) ∧ Below w.heap.size w w' := by
  have HX := Lib.hid hx
  have HG0 := Lib.hid (implGs (some ⟨g, 0, none⟩) c n ls w h hl hs)
  clear h hs hx
  cases hgs : gsQ n ls with
  | false =>
    rw [hgs] at HG0
    clear hgs hno
    go_enter Try.func22, Try.ntmps22
    go_wp2_with (first | (go_at_call 73; refine HG0.out.mono ?_; rintro e w1 ⟨rfl, hB1⟩))
    refine bodyPost_ret (v := .tuple #[.slice none 0 0, .bool false]) (by simp [results, Try.results22, go_sem]) rfl ?_
    exact ⟨rfl, hB1⟩
  | true =>
    have hbad : badL n xs = true := by unfold okQ at hno; rw [hgs] at hno; simpa using hno
    rw [hgs] at HG0
    by_cases hlen : (xs.length : Int) = n
    · have hpm : permQ xs = false := by rw [badL_perm hlen] at hbad; simpa using hbad
      have HP : Hid (∀ wx : World, IntsAt wx A xs → Calls Try.prog 75 #[.slice A xs.length c'] wx fun e w' => e = .returned (.bool false) ∧ wx = w') := fun wx hx => by have := implPerm A c' xs wx hx hxl; rwa [hpm] at this
      clear hgs hno hbad hpm
      subst hlen
      go_enter Try.func22, Try.ntmps22
      go_wp2_with (first | (go_at_call 73; refine HG0.out.mono ?_; rintro e w1 ⟨rfl, hB1⟩) | (go_at_call 74; refine (implLength _ _ _ _).mono ?_; rintro e w' ⟨rfl, rfl⟩) | (go_at_call 75; refine (HP.out _ (by exact HX.out.below hB1)).mono ?_; rintro e w' ⟨rfl, rfl⟩))
      refine bodyPost_ret (v := .tuple #[.slice none 0 0, .bool false]) (by simp [results, Try.results22, go_sem]) rfl ?_
      exact ⟨rfl, hB1⟩
    · have hle : ((xs.length : Int) == n) = false := by simpa using hlen
      clear hgs hno hbad
      go_enter Try.func22, Try.ntmps22
      go_wp2_with (first | (go_at_call 73; refine HG0.out.mono ?_; rintro e w1 ⟨rfl, hB1⟩) | (go_at_call 74; refine (implLength _ _ _ _).mono ?_; rintro e w' ⟨rfl, rfl⟩))
      refine bodyPost_ret (v := .tuple #[.slice none 0 0, .bool false]) (by simp [results, Try.results22, go_sem]) rfl ?_
      exact ⟨rfl, hB1⟩
set_option maxRecDepth 100000 in
set_option maxHeartbeats 4000000 in
theorem implCosNo (n : Int) (g c : Nat) (ls : List (List Int)) (A : Option Addr) (c' : Nat) (xs : List Int) (w : World) (h : LAt w (some ⟨g, 0, none⟩) ls) (hl : ls.length ≤ 1048576) (hs : ShortL ls) (hx : IntsAt w A xs) (hxl : xs.length ≤ 1048576) (hno : okQ n ls xs = false) :
    Calls Try.prog 31 #[.int .i64 n, .slice (some ⟨g, 0, none⟩) ls.length c, .slice A xs.length c'] w fun e w' => e = .returned (.slice none 0 0) ∧ Below w.heap.size w w' := by
  have HX := Lib.hid hx
  have HG0 := Lib.hid (implGs (some ⟨g, 0, none⟩) c n ls w h hl hs)
  clear h hs hx
  cases hgs : gsQ n ls with
  | false =>
    rw [hgs] at HG0
    clear hgs hno
    go_enter Try.func31, Try.ntmps31
    go_wp2_with (first | (go_at_call 73; refine HG0.out.mono ?_; rintro e w1 ⟨rfl, hB1⟩))
    go_ret
    exact ⟨rfl, hB1⟩
  | true =>
    have hbad : badL n xs = true := by unfold okQ at hno; rw [hgs] at hno; simpa using hno
    rw [hgs] at HG0
    by_cases hlen : (xs.length : Int) = n
    · have hpm : permQ xs = false := by rw [badL_perm hlen] at hbad; simpa using hbad
      have HP : Hid (∀ wx : World, IntsAt wx A xs → Calls Try.prog 75 #[.slice A xs.length c'] wx fun e w' => e = .returned (.bool false) ∧ wx = w') := fun wx hx => by have := implPerm A c' xs wx hx hxl; rwa [hpm] at this
      clear hgs hno hbad hpm
      subst hlen
      go_enter Try.func31, Try.ntmps31
      go_wp2_with (first | (go_at_call 73; refine HG0.out.mono ?_; rintro e w1 ⟨rfl, hB1⟩) | (go_at_call 74; refine (implLength _ _ _ _).mono ?_; rintro e w' ⟨rfl, rfl⟩) | (go_at_call 75; refine (HP.out _ (by exact HX.out.below hB1)).mono ?_; rintro e w' ⟨rfl, rfl⟩))
      go_ret
      exact ⟨rfl, hB1⟩
    · have hle : ((xs.length : Int) == n) = false := by simpa using hlen
      clear hgs hno hbad
      go_enter Try.func31, Try.ntmps31
      go_wp2_with (first | (go_at_call 73; refine HG0.out.mono ?_; rintro e w1 ⟨rfl, hB1⟩) | (go_at_call 74; refine (implLength _ _ _ _).mono ?_; rintro e w' ⟨rfl, rfl⟩))
      go_ret
      exact ⟨rfl, hB1⟩
set_option maxRecDepth 100000 in
set_option maxHeartbeats 4000000 in
theorem specLmpNo (n : Int) (g c : Nat) (ls : List (List Int)) (A : Option Addr) (c' : Nat) (xs : List Int) (w : World) (h : LAt w (some ⟨g, 0, none⟩) ls) (hl : ls.length ≤ 1048576) (hs : ShortL ls) (hx : IntsAt w A xs) (hxl : xs.length ≤ 1048576) (hxc : xs.length ≤ c') (hno : okQ n ls xs = false) :
    Calls Try.prog 28 #[.int .i64 n, .slice (some ⟨g, 0, none⟩) ls.length c, .slice A xs.length c'] w fun e w' => e = .returned (.int .i64 (-1)) ∧ Below w.heap.size w w' := by
  have HX := Lib.hid hx
  have HG0 := Lib.hid (specGs (some ⟨g, 0, none⟩) c n ls w h hl hs)
  clear h hs hx
  cases hgs : gsQ n ls with
  | false =>
    rw [hgs] at HG0
    clear hgs hno
    go_enter Try.func28, Try.ntmps28
    go_wp2_with (first | (go_at_call 53; refine HG0.out.mono ?_; rintro e w1 ⟨rfl, n1, rfl⟩))
    go_ret
    exact ⟨rfl, belowDrewN (Below.refl _ _) _⟩
  | true =>
    have hbad : badL n xs = true := by unfold okQ at hno; rw [hgs] at hno; simpa using hno
    have HP : Hid (∀ wx : World, IntsAt wx A xs → Calls Try.prog 69 #[.int .i64 n, .slice A xs.length c'] wx (Quiet (.bool false) wx)) := fun wx hx => by have := specPermOf A c' n xs wx hx hxl hxc; rwa [hbad] at this
    rw [hgs] at HG0
    clear hgs hno hbad
    go_enter Try.func28, Try.ntmps28
    go_wp2_with (first | (go_at_call 53; refine HG0.out.mono ?_; rintro e w1 ⟨rfl, n1, rfl⟩) | (go_at_call 69; refine (HP.out _ (by exact HX.out)).mono ?_; rintro e w2 ⟨rfl, n2, rfl⟩))
    go_ret
    exact ⟨rfl, belowDrewN (Below.refl _ _) _⟩
set_option maxRecDepth 100000 in
set_option maxHeartbeats 4000000 in
theorem specRankNo (n : Int) (g c : Nat) (ls : List (List Int)) (A : Option Addr) (c' : Nat) (xs : List Int) (w : World) (h : LAt w (some ⟨g, 0, none⟩) ls) (hl : ls.length ≤ 1048576) (hs : ShortL ls) (hx : IntsAt w A xs) (hxl : xs.length ≤ 1048576) (hxc : xs.length ≤ c') (hno : okQ n ls xs = false) :
    Calls Try.prog 36 #[.int .i64 n, .slice (some ⟨g, 0, none⟩) ls.length c, .slice A xs.length c'] w fun e w' => e = .returned (.int .i64 (-1)) ∧ Below w.heap.size w w' := by
  have HX := Lib.hid hx
  have HG0 := Lib.hid (specGs (some ⟨g, 0, none⟩) c n ls w h hl hs)
  clear h hs hx
  cases hgs : gsQ n ls with
  | false =>
    rw [hgs] at HG0
    clear hgs hno
    go_enter Try.func36, Try.ntmps36
    go_wp2_with (first | (go_at_call 53; refine HG0.out.mono ?_; rintro e w1 ⟨rfl, n1, rfl⟩))
    go_ret
    exact ⟨rfl, belowDrewN (Below.refl _ _) _⟩
  | true =>
    have hbad : badL n xs = true := by unfold okQ at hno; rw [hgs] at hno; simpa using hno
    have HP : Hid (∀ wx : World, IntsAt wx A xs → Calls Try.prog 69 #[.int .i64 n, .slice A xs.length c'] wx (Quiet (.bool false) wx)) := fun wx hx => by have := specPermOf A c' n xs wx hx hxl hxc; rwa [hbad] at this
    rw [hgs] at HG0
    clear hgs hno hbad
    go_enter Try.func36, Try.ntmps36
    go_wp2_with (first | (go_at_call 53; refine HG0.out.mono ?_; rintro e w1 ⟨rfl, n1, rfl⟩) | (go_at_call 69; refine (HP.out _ (by exact HX.out)).mono ?_; rintro e w2 ⟨rfl, n2, rfl⟩))
    go_ret
    exact ⟨rfl, belowDrewN (Below.refl _ _) _⟩
set_option maxRecDepth 100000 in
set_option maxHeartbeats 4000000 in
theorem specCmbNo (n : Int) (g c : Nat) (ls : List (List Int)) (A : Option Addr) (c' : Nat) (xs : List Int) (w : World) (h : LAt w (some ⟨g, 0, none⟩) ls) (hl : ls.length ≤ 1048576) (hs : ShortL ls) (hx : IntsAt w A xs) (hxl : xs.length ≤ 1048576) (hxc : xs.length ≤ c') (hno : okQ n ls xs = false) :
    Calls Try.prog 34 #[.int .i64 n, .slice (some ⟨g, 0, none⟩) ls.length c, .slice A xs.length c'] w fun e w' => e = .returned (.int .i64 (-1)) ∧ Below w.heap.size w w' := by
  have HX := Lib.hid hx
  have HG0 := Lib.hid (specGs (some ⟨g, 0, none⟩) c n ls w h hl hs)
  clear h hs hx
  cases hgs : gsQ n ls with
  | false =>
    rw [hgs] at HG0
    clear hgs hno
    go_enter Try.func34, Try.ntmps34
    go_wp2_with (first | (go_at_call 53; refine HG0.out.mono ?_; rintro e w1 ⟨rfl, n1, rfl⟩))
    go_ret
    exact ⟨rfl, belowDrewN (Below.refl _ _) _⟩
  | true =>
    have hbad : badL n xs = true := by unfold okQ at hno; rw [hgs] at hno; simpa using hno
    have HP : Hid (∀ wx : World, IntsAt wx A xs → Calls Try.prog 69 #[.int .i64 n, .slice A xs.length c'] wx (Quiet (.bool false) wx)) := fun wx hx => by have := specPermOf A c' n xs wx hx hxl hxc; rwa [hbad] at this
    rw [hgs] at HG0
    clear hgs hno hbad
    go_enter Try.func34, Try.ntmps34
    go_wp2_with (first | (go_at_call 53; refine HG0.out.mono ?_; rintro e w1 ⟨rfl, n1, rfl⟩) | (go_at_call 69; refine (HP.out _ (by exact HX.out)).mono ?_; rintro e w2 ⟨rfl, n2, rfl⟩))
    go_ret
    exact ⟨rfl, belowDrewN (Below.refl _ _) _⟩
set_option maxRecDepth 100000 in
set_option maxHeartbeats 4000000 in
theorem specNextNo (n : Int) (g c : Nat) (ls : List (List Int)) (A : Option Addr) (c' : Nat) (xs : List Int) (w : World) (h : LAt w (some ⟨g, 0, none⟩) ls) (hl : ls.length ≤ 1048576) (hs : ShortL ls) (hx : IntsAt w A xs) (hxl : xs.length ≤ 1048576) (hxc : xs.length ≤ c') (hno : okQ n ls xs = false) :
    Calls Try.prog 19 #[.int .i64 n, .slice (some ⟨g, 0, none⟩) ls.length c, .slice A xs.length c'] w fun e w' => ∃ v, e = .returned (.tuple #[v, .bool false]) ∧ Fresh w.heap.size w' v [] ∧ Below w.heap.size w w' := by
  have HX := Lib.hid hx
  have HG0 := Lib.hid (specGs (some ⟨g, 0, none⟩) c n ls w h hl hs)
  clear h hs hx
  cases hgs : gsQ n ls with
  | false =>
    rw [hgs] at HG0
    clear hgs hno
    go_enter Try.func19, Try.ntmps19
    go_wp2_with (first | (go_at_call 53; refine HG0.out.mono ?_; rintro e w1 ⟨rfl, n1, rfl⟩))
    refine bodyPost_ret (v := .tuple #[.slice (some ⟨w.heap.size, 0, none⟩) 0 0, .bool false]) (by simp [results, Try.results19, go_sem]) rfl ?_
    exact ⟨_, rfl, Fresh.empty (Nat.le_refl _), (belowDrewN (Below.refl _ _) _).alloc (Nat.le_refl _) _⟩
  | true =>
    have hbad : badL n xs = true := by unfold okQ at hno; rw [hgs] at hno; simpa using hno
    have HP : Hid (∀ wx : World, IntsAt wx A xs → Calls Try.prog 69 #[.int .i64 n, .slice A xs.length c'] wx (Quiet (.bool false) wx)) := fun wx hx => by have := specPermOf A c' n xs wx hx hxl hxc; rwa [hbad] at this
    rw [hgs] at HG0
    clear hgs hno hbad
    go_enter Try.func19, Try.ntmps19
    go_wp2_with (first | (go_at_call 53; refine HG0.out.mono ?_; rintro e w1 ⟨rfl, n1, rfl⟩) | (go_at_call 69; refine (HP.out _ (by exact HX.out)).mono ?_; rintro e w2 ⟨rfl, n2, rfl⟩))
    refine bodyPost_ret (v := .tuple #[.slice (some ⟨w.heap.size, 0, none⟩) 0 0, .bool false]) (by simp [results, Try.results19, go_sem]) rfl ?_
    exact ⟨_, rfl, Fresh.empty (Nat.le_refl _), (belowDrewN (Below.refl _ _) _).alloc (Nat.le_refl _) _⟩
set_option maxRecDepth 100000 in
set_option maxHeartbeats 4000000 in
theorem specCosNo (n : Int) (g c : Nat) (ls : List (List Int)) (A : Option Addr) (c' : Nat) (xs : List Int) (w : World) (h : LAt w (some ⟨g, 0, none⟩) ls) (hl : ls.length ≤ 1048576) (hs : ShortL ls) (hx : IntsAt w A xs) (hxl : xs.length ≤ 1048576) (hxc : xs.length ≤ c') (hno : okQ n ls xs = false) :
    Calls Try.prog 30 #[.int .i64 n, .slice (some ⟨g, 0, none⟩) ls.length c, .slice A xs.length c'] w fun e w' => ∃ v, e = .returned (v) ∧ Fresh w.heap.size w' v [] ∧ Below w.heap.size w w' := by
  have HX := Lib.hid hx
  have HG0 := Lib.hid (specGs (some ⟨g, 0, none⟩) c n ls w h hl hs)
  clear h hs hx
  cases hgs : gsQ n ls with
  | false =>
    rw [hgs] at HG0
    clear hgs hno
    go_enter Try.func30, Try.ntmps30
    go_wp2_with (first | (go_at_call 53; refine HG0.out.mono ?_; rintro e w1 ⟨rfl, n1, rfl⟩))
    go_ret
    exact ⟨_, rfl, Fresh.empty (Nat.le_refl _), (belowDrewN (Below.refl _ _) _).alloc (Nat.le_refl _) _⟩
  | true =>
    have hbad : badL n xs = true := by unfold okQ at hno; rw [hgs] at hno; simpa using hno
    have HP : Hid (∀ wx : World, IntsAt wx A xs → Calls Try.prog 69 #[.int .i64 n, .slice A xs.length c'] wx (Quiet (.bool false) wx)) := fun wx hx => by have := specPermOf A c' n xs wx hx hxl hxc; rwa [hbad] at this
    rw [hgs] at HG0
    clear hgs hno hbad
    go_enter Try.func30, Try.ntmps30
    go_wp2_with (first | (go_at_call 53; refine HG0.out.mono ?_; rintro e w1 ⟨rfl, n1, rfl⟩) | (go_at_call 69; refine (HP.out _ (by exact HX.out)).mono ?_; rintro e w2 ⟨rfl, n2, rfl⟩))
    go_ret
    exact ⟨_, rfl, Fresh.empty (Nat.le_refl _), (belowDrewN (Below.refl _ _) _).alloc (Nat.le_refl _) _⟩
end Go.Proofs.Ytpcnbjfkobeibaa
