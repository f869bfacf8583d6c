/- A chain read at the reference: whether a number is in a list; a number laid into an ascending list; the values of a level; a member with a value. Conditions: as each contract says. -/
import Derived.Test.YtpcnbjfkobeibaaBld
import Derived.Test.YtpcnbjfkobeibaaWm
import Derived.Deep.RegionWith
import Derived.Deep.RegionHeld3
import Derived.Deep.CutRange
namespace Go.Proofs.Ytpcnbjfkobeibaa
open Go.RowKit Grp

set_option maxHeartbeats 1000000 in
theorem specHasInt (A : Option Addr) (c : Nat) (xs : List Int) (x : Int) (w : World) (hx : IntsAt w A xs) (hl : xs.length ≤ 1048576) :
    Calls Try.prog 80 #[.slice A xs.length c, .int .i64 x] w fun e w' => e = .returned (.bool (decide (x ∈ xs))) ∧ w = w' := by
  obtain ⟨b0, hb0⟩ : ∃ b0, decide (x ∈ xs) = b0 := ⟨_, rfl⟩
  rw [hb0]
  have HB0 := Lib.hid hb0
  clear hb0
  go_enter Try.func80, Try.ntmps80
  go_wp2_with fail
  go_loop [5] (fun i => ∃ k : Nat, k ≤ xs.length ∧ i = .int .i64 k ∧ Hid (∀ j, j < k → xs.getD j 0 ≠ x)) (fun i => xs.length - (intOf i).toNat)
  case atStart => exact ⟨0, Nat.zero_le _, rfl, fun j hj => by omega⟩
  case round =>
    obtain ⟨k, hk, rfl, HN⟩ := hrel
    by_cases hlt : k < xs.length
    · obtain ⟨b, off, y, rfl, hb, hc0, HX⟩ := hx.at_ hlt
      have p0 : (0 : Int) ≤ (k : Int) := by omega
      have p1 : (k : Int) < (xs.length : Int) := by omega
      by_cases e : y = x
      · have HT : Hid (true = b0) := by
          unfold Hid
          rw [← HB0.out, eq_comm, decide_eq_true_iff, ← e, ← HX.out, getD_at _ _ hlt]
          exact List.getElem_mem _
        subst e
        go_wp2_with fail
        go_ret
        exact ⟨ret_bool HT.out, rfl⟩
      · have HN2 : Hid (∀ j, j < k + 1 → xs.getD j 0 ≠ x) := fun j hj => by
          rcases Nat.lt_or_ge j k with h | h
          · exact HN.out j h
          · rw [show j = k from by omega, HX.out]; exact e
        go_wp2_with fail
        go_round
        case rel => exact ⟨k + 1, by omega, by go_num, HN2⟩
        case measure => simp [intOf]; omega
    · have HT : Hid (false = b0) := by
        unfold Hid
        rw [← HB0.out, eq_comm, decide_eq_false_iff_not]
        intro h
        obtain ⟨j, hj, e⟩ := List.mem_iff_getElem.1 h
        exact HN.out j (by omega) (by rw [getD_at _ _ hj]; exact e)
      go_wp2_with fail
      go_ret
      exact ⟨ret_bool HT.out, rfl⟩
/-- A list of the call's own, read from now on. -/
def LiesN (B : Nat) (w : World) (v : Value) (l : List Nat) : Prop := ∃ g c, v = .slice (some ⟨g, 0, none⟩) l.length c ∧ l.length ≤ c ∧ B ≤ g ∧ g < w.heap.size ∧ IntsAt w (some ⟨g, 0, none⟩) (natI l)
theorem LiesN.below {B : Nat} {w w' : World} {v : Value} {l : List Nat} (h : LiesN B w v l) (hb : Below w.heap.size w w') : LiesN B w' v l := by
  obtain ⟨g, c, e, h1, h2, h3, h4⟩ := h
  exact ⟨g, c, e, h1, h2, Nat.lt_of_lt_of_le h3 hb.size, h4.below hb⟩
theorem LiesN.mono {B B' : Nat} {w : World} {v : Value} {l : List Nat} (h : LiesN B w v l) (hB : B' ≤ B) : LiesN B' w v l := by
  obtain ⟨g, c, e, h1, h2, h3, h4⟩ := h
  exact ⟨g, c, e, h1, by omega, h3, h4⟩
theorem LiesN.of {B : Nat} {w : World} {v : Value} {l : List Nat} (h : Fresh B w v (natI l)) (hn : 0 < l.length) : LiesN B w v l := by
  obtain ⟨A, c, hc, hv, _⟩ := h.capped
  obtain ⟨A', c', hv', hi, hA⟩ := h.ints
  rw [hv] at hv'
  simp only [Value.slice.injEq] at hv'
  obtain ⟨rfl, _, rfl⟩ := hv'
  rw [natI_len] at hc hv
  rcases hA with rfl | ⟨g, rfl, hg, hlt⟩
  · obtain ⟨b, off, e, _⟩ := hi 0 (by rw [natI_len]; exact hn)
    cases e
  · exact ⟨g, c, hv, hc, hg, hlt, hi⟩
theorem dropAt {w : World} {g : Nat} {l : List Int} (h : IntsAt w (some ⟨g, 0, none⟩) l) (i : Nat) : IntsAt w (some ⟨g, i, none⟩) (l.drop i) := by
  intro k hk
  rw [List.length_drop] at hk
  obtain ⟨b', off', e, hb, hc⟩ := h (i + k) (by omega)
  injection e with e
  injection e with e1 e2
  subst e1 e2
  refine ⟨g, i, rfl, hb, ?_⟩
  rw [show i + k = 0 + (i + k) from by omega, hc]
  have hk2 : i + k < l.length := by omega
  simp [List.getD_eq_getElem?_getD, hk2]
theorem cut0 {w : World} {l : List Int} {j : Nat} (A : Option Addr) (h : l.length ≤ j) : IntsAt w A (l.drop j) := by
  rw [List.drop_eq_nil_of_le h]
  exact IntsAt.nil _ _
theorem asc_cnt (v : Nat) : ∀ (l : List Nat), Asc l → ∀ k, k < l.length → (app l k < v ↔ k < cntB l (v : Int)) := by
  intro l
  induction l with
  | nil => intro _ k hk; simp at hk
  | cons a l ih =>
    intro hA k hk
    have hA2 := List.pairwise_cons.1 hA
    by_cases hav : a < v
    · have hc : cntB (a :: l) (v : Int) = cntB l v + 1 := by unfold cntB; rw [List.filter_cons, if_pos (by simp; omega)]; simp
      rw [hc]
      cases k with
      | zero => simp [app, hav]
      | succ k =>
        have := ih hA2.2 k (by simpa using hk)
        simp only [app, List.getD_cons_succ] at this ⊢
        omega
    · have hc : cntB (a :: l) (v : Int) = 0 := by
        unfold cntB
        rw [List.filter_eq_nil_iff.2 fun x hx => ?_]
        · rfl
        · rcases List.mem_cons.1 hx with h | h
          · simp; omega
          · have := hA2.1 x h; simp; omega
      rw [hc]
      cases k with
      | zero => simp [app]; omega
      | succ k =>
        have hk' : k < l.length := by simpa using hk
        have h1 := hA2.1 _ (List.getElem_mem hk')
        simp only [app, List.getD_cons_succ]
        rw [List.getD_eq_getElem?_getD, List.getElem?_eq_getElem hk']
        simp only [Option.getD_some]
        omega
theorem cntB_le (l : List Nat) (x : Int) : cntB l x ≤ l.length := List.length_filter_le _ _
def InsPost (l : List Nat) (w : World) (e : Ending) (w' : World) : Prop := ∃ v, e = .returned v ∧ LiesN w.heap.size w' v l ∧ Below w.heap.size w w'
set_option maxRecDepth 100000 in
set_option maxHeartbeats 4000000 in
theorem specIns (g co : Nat) (l : List Nat) (v : Nat) (w : World) (hI : IntsAt w (some ⟨g, 0, none⟩) (natI l)) (hco : l.length ≤ co) (hA : Asc l) (hv : v ∉ l) (hl : l.length ≤ 20) :
    Calls Try.prog 134 #[.slice (some ⟨g, 0, none⟩) l.length co, .int .i64 (v : Int)] w (InsPost (ins v l) w) := by
  obtain ⟨j, hj⟩ : ∃ j, cntB l (v : Int) = j := ⟨_, rfl⟩
  have hjl : j ≤ l.length := by rw [← hj]; exact cntB_le _ _
  have HC : Hid (∀ k, k < l.length → (app l k < v ↔ k < j)) := fun k hk => by rw [← hj]; exact asc_cnt v l hA k hk
  have HS : Hid (ins v l = l.take j ++ v :: l.drop j) := by
    rcases ins_split v l with h | h
    · unfold Hid; rw [h, hj]
    · exact absurd hA h
  have HV := Lib.hid hv
  have HI := Lib.hid hI
  clear hj hv hI hA
  go_enter Try.func134, Try.ntmps134
  go_wp2_with fail
  go_loop [5] (fun q => ∃ k : Nat, q = .int .i64 k ∧ k ≤ j) (fun q => j - (intOf q).toNat)
  case atStart => exact ⟨0, rfl, Nat.zero_le _⟩
  case round =>
    obtain ⟨k, rfl, hk⟩ := hrel
    by_cases hkj : k < j
    · have hkl : k < l.length := by omega
      obtain ⟨b, off, e1, hb, hc⟩ := perm_at HI.out hkl
      injection e1 with e1
      injection e1 with e2 e3
      subst e2 e3
      rw [Nat.zero_add] at hc
      have hlt := (HC.out k hkl).2 hkj
      obtain ⟨x, hx⟩ : ∃ x, app l k = x := ⟨_, rfl⟩
      rw [hx] at hc hlt
      have q0 : (0 : Int) ≤ (k : Int) := by omega
      have q1 : (k : Int) < (l.length : Int) := by omega
      have q2 : (x : Int) < (v : Int) := by omega
      clear hx
      go_wp2_with fail
      go_round
      case rel => exact ⟨k + 1, by go_num, by omega⟩
      case measure => simp [intOf]; omega
    · obtain rfl : k = j := by omega
      have hlJ : (natI (l.take k)).length = k := by rw [natI_len, List.length_take]; omega
      have HLJ := Lib.hid hlJ
      clear hlJ
      have hE := Fresh.empty (w := w) (Nat.le_refl _)
      have hJ0 : (0 : Int) ≤ (k : Int) := by omega
      have hJc : (k : Int) ≤ (co : Int) := by omega
      have hJl2 : (k : Int) ≤ (l.length : Int) := by omega
      have hkco : k ≤ co := by omega
      have ht : natI (l.take k) = (natI l).take k := by simp [natI, List.map_take]
      have hd : natI (l.drop k) = (natI l).drop k := by simp [natI, List.map_drop]
      have HTK : Hid (IntsAt w (some ⟨g, 0, none⟩) (natI (l.take k))) := by rw [ht]; exact HI.out.take k
      have HTD := Lib.hid hd
      clear ht hd
      have hfin : ∀ (w3 : World) (v3 : Value), Fresh w.heap.size w3 v3 (natI (l.take k) ++ [(v : Int)] ++ natI (l.drop k)) → LiesN w.heap.size w3 v3 (ins v l) := fun w3 v3 h => by
        refine LiesN.of ?_ (by rw [HS.out, List.length_append, List.length_cons]; omega)
        rw [HS.out]
        simpa [natI] using h
      have HFIN := Lib.hid hfin
      clear hfin
      by_cases hkl : k < l.length
      · obtain ⟨b, off, e1, hb, hc⟩ := perm_at HI.out hkl
        injection e1 with e1
        injection e1 with e2 e3
        subst e2 e3
        rw [Nat.zero_add] at hc
        have hge : ¬ app l k < v := fun h => hkj ((HC.out k hkl).1 h)
        have hne : app l k ≠ v := fun e => HV.out (by
          rw [← e]
          unfold app
          rw [List.getD_eq_getElem?_getD, List.getElem?_eq_getElem hkl]
          exact List.getElem_mem _)
        obtain ⟨x, hx⟩ : ∃ x, app l k = x := ⟨_, rfl⟩
        rw [hx] at hc hge hne
        have q1 : (k : Int) < (l.length : Int) := by omega
        have q2 : ¬ (x : Int) < (v : Int) := by omega
        have q3 : ¬ (x : Int) = (v : Int) := by omega
        have hjlt : ¬ co = k := by omega
        have hnf : (co == k) = false := by simp; omega
        clear hx hge hne hkj
        go_wp2_with (first
          | (go_at_call 129; refine (specCopy _ _ k (natI (l.take k)) _ (by exact HTK.out) HLJ.out (by omega)).mono ?_; rintro e w1 ⟨v1, rfl, hF1, hb1⟩)
          | (at_builtin; refine append_one rfl (.tmp 37) (.tmp 39) rfl w.heap.size _ (natI (l.take k)) (v : Int) rfl (by exact hF1.below (by repeat (first | exact Below.refl _ _ | assumption | refine Below.setCell ?_ (by first | omega | (simp <;> omega)) _ | refine Below.alloc ?_ (by first | omega | (simp <;> omega)) _ | refine Below.drew ?_))) w1.heap.size rfl (by simp) (by rw [HLJ.out]; omega) (by have := hb1.size; simp; omega) ?_; intro v2 w2 hF2 hg2 hb2; have hbw2 : Below w.heap.size w w2 := (hb1.alloc hb1.size _).trans hb2)
          | (at_builtin; (refine append_ints rfl (.tmp 41) (.tmp 44) rfl w.heap.size _ (natI (l.take k) ++ [(v : Int)]) (natI (l.drop k)) rfl hF2 _ _ _ (by have h1 := natI_len (l.drop k); have h2 := List.length_drop (i := k) (l := l); omega) rfl (by rw [HTD.out]; first | exact dropAt (HI.out.below hbw2) k | exact cut0 _ (by rw [natI_len]; omega)) (by simp [natI]; omega) (by exact hbw2.size) ?_; intro v3 w3 hF3 hg3 hb3)))
        go_ret
        exact ⟨_, rfl, HFIN.out _ _ hF3, hbw2.trans hb3⟩
      · have q1 : ¬ (k : Int) < (l.length : Int) := by omega
        rcases Nat.eq_or_lt_of_le hkco with rfl | hjlt
        all_goals
          try (have hne : ¬ co = k := by omega)
          try (have hnf : (co == k) = false := by simp; omega)
          go_wp2_with (first
            | (go_at_call 129; refine (specCopy _ _ k (natI (l.take k)) _ (by exact HTK.out) HLJ.out (by omega)).mono ?_; rintro e w1 ⟨v1, rfl, hF1, hb1⟩)
            | (at_builtin; refine append_one rfl (.tmp 37) (.tmp 39) rfl w.heap.size _ (natI (l.take k)) (v : Int) rfl (by exact hF1.below (by repeat (first | exact Below.refl _ _ | assumption | refine Below.setCell ?_ (by first | omega | (simp <;> omega)) _ | refine Below.alloc ?_ (by first | omega | (simp <;> omega)) _ | refine Below.drew ?_))) w1.heap.size rfl (by simp) (by rw [HLJ.out]; omega) (by have := hb1.size; simp; omega) ?_; intro v2 w2 hF2 hg2 hb2; have hbw2 : Below w.heap.size w w2 := (hb1.alloc hb1.size _).trans hb2)
            | (at_builtin; (refine append_ints rfl (.tmp 41) (.tmp 44) rfl w.heap.size _ (natI (l.take k) ++ [(v : Int)]) (natI (l.drop k)) rfl hF2 _ _ _ (by have h1 := natI_len (l.drop k); have h2 := List.length_drop (i := k) (l := l); omega) rfl (by rw [HTD.out]; first | exact dropAt (HI.out.below hbw2) k | exact cut0 _ (by rw [natI_len]; omega)) (by simp [natI]; omega) (by exact hbw2.size) ?_; intro v3 w3 hF3 hg3 hb3)))
          go_ret
          exact ⟨_, rfl, HFIN.out _ _ hF3, hbw2.trans hb3⟩
theorem valsTo_len {n : Nat} {T : Tab} {i : Nat} {u : List Nat} {k : Nat} : (valsTo n T i u k).length ≤ n := by
  have := List.length_filter_le (fun v => decide (app (inv u) v < k) && (T i (app (inv u) v)).isSome) (List.range n)
  rw [List.length_range] at this
  exact this
theorem valsTo_new {n : Nat} {T : Tab} {i : Nat} {u : List Nat} (hu : IsP n u) {k : Nat} (hk : k < n) : app u k ∉ valsTo n T i u k := fun h => by
  simp only [valsTo, List.mem_filter, List.mem_range, Bool.and_eq_true, decide_eq_true_eq] at h
  have := h.2.1
  rw [hu.inv_app_self hk] at this
  omega
set_option maxRecDepth 100000 in
set_option maxHeartbeats 4000000 in
theorem specChoices {ok : Nat → Prop} (B n C i : Nat) (s : Sh) (T : Tab) (Gs : Nat → List (List Nat)) (v : Value) (u : List Nat) (w : World) (ht : TopS w C n s) (hb : Body ok B n w s T Gs) {ok' : Nat → Prop} (hv : PermV ok' w v n u) (hu : IsP n u) (hi : i < n) (hnl : n ≤ 20) :
    Calls Try.prog 81 #[.pointer (some ⟨C, 0, none⟩), .int .i64 (i : Int), v] w (InsPost (vals n T i u) w) := by
  have HT := Lib.hid ht
  have HBD := Lib.hid hb
  have HU := Lib.hid hu
  obtain ⟨g, c, rfl, hI, hul⟩ := hv.ints
  have HI := Lib.hid hI
  have HUL := Lib.hid hul
  have HL0 : Hid (LiesN w.heap.size (w.alloc (.cells #[] 2)) (.slice (some ⟨w.heap.size, 0, none⟩) 0 0) (valsTo n T i u 0)) := by
    rw [valsTo_zero]
    exact ⟨w.heap.size, 0, rfl, Nat.le_refl _, Nat.le_refl _, by simp, fun k hk => by simp [natI] at hk⟩
  have hB0 : Below w.heap.size w (w.alloc (.cells #[] 2)) := (by repeat (first | exact Below.refl _ _ | assumption | refine Below.setCell ?_ (by first | omega | (simp <;> omega)) _ | refine Below.alloc ?_ (by first | omega | (simp <;> omega)) _ | refine Below.drew ?_))
  clear ht hb hv hu hI hul
  go_enter Try.func81, Try.ntmps81
  go_wp2_with fail
  go_loopw [7, 8] (fun v j wr => ∃ k : Nat, k ≤ n ∧ j = .int .i64 (k : Int) ∧ Hid (LiesN w.heap.size wr v (valsTo n T i u k)) ∧ Below w.heap.size w wr) (fun _ j _ => n - (intOf j).toNat)
  case atStart => exact ⟨0, Nat.zero_le _, rfl, HL0, hB0⟩
  case round =>
    obtain ⟨k, hk, rfl, HL, hB⟩ := hrel
    clear HL0 hB0
    have hT : TopS wr C n s := rowB hB HT.out
    have t0 : wr.cell? ⟨C, 0, none⟩ = some (.int .i64 (n : Int)) := cell_of_row wr C 0 _ _ (0, 0) hT
    have t1 : wr.cell? ⟨C, 1, none⟩ = some (.slice (some ⟨s.Rb, 0, none⟩) n s.cr) := cell_of_row wr C 1 _ _ (0, 0) hT
    clear hT
    by_cases hlt : k < n
    · have HBR := Lib.hid (HBD.out.below hB)
      have hrb := HBR.out.readRb hi
      obtain ⟨u1, hu1, hrep, -⟩ := HBR.out.readRow hi hlt
      obtain ⟨b, off, e1, hb1, hc⟩ := perm_at (HI.out.below hB) (i := k) (by rw [HUL.out]; exact hlt)
      injection e1 with e1
      injection e1 with e2 e3
      subst e2 e3
      rw [Nat.zero_add] at hc
      have p0 : (0 : Int) ≤ (k : Int) := by omega
      have p1 : (k : Int) < (n : Int) := by omega
      have p2 : (0 : Int) ≤ (i : Int) := by omega
      have p3 : (i : Int) < (n : Int) := by omega
      cases hTk : T i k with
      | none =>
        rw [hTk] at hrep
        obtain rfl : u1 = .slice none 0 0 := hrep
        have HN := Lib.hid (valsTo_no (n := n) (u := u) hTk)
        clear hTk
        go_wp2_with fail
        go_roundw
        case rel => exact ⟨k + 1, by omega, by go_num, by rw [HN.out]; exact HL, hB⟩
        case measure => simp [intOf]; omega
      | some t =>
        rw [hTk] at hrep
        have hrep : PermV ok wr u1 n t := hrep
        obtain ⟨gt, ct, rfl, -, -⟩ := hrep.ints
        have HN := Lib.hid (valsTo_yes HU.out hlt hTk)
        obtain ⟨go, co, rfl, hco, hgo, hgol, hIo⟩ := HL.out
        have hnew := valsTo_new (T := T) (i := i) HU.out hlt
        obtain ⟨x, hx⟩ : ∃ x, app u k = x := ⟨_, rfl⟩
        obtain ⟨l, hl⟩ : ∃ l, valsTo n T i u k = l := ⟨_, rfl⟩
        have hasc := asc_valsTo (n := n) (T := T) (i := i) (u := u) (k := k)
        have hll := valsTo_len (n := n) (T := T) (i := i) (u := u) (k := k)
        rw [hx] at hc
        rw [hl] at hco hIo hasc hll
        rw [hl, hx] at hnew
        have HX := Lib.hid hx
        have HLL := Lib.hid hl
        have HIO := Lib.hid hIo
        have HASC := Lib.hid hasc
        have HNEW := Lib.hid hnew
        have pn : (0 : Int) < (n : Int) := by omega
        rw [hl]
        clear hTk hrep hx hl hIo hasc hnew
        go_wp2_with fail
        refine (specIns go co l x _ (by exact HIO.out) hco HASC.out HNEW.out (by omega)).mono ?_
        rintro e w3 ⟨v3, rfl, hL3, hb3⟩
        have hB3 := belowStep hb3 hB
        have HL3 : Hid (LiesN w.heap.size w3 v3 (valsTo n T i u (k + 1))) := by
          rw [HN.out, HLL.out, HX.out]
          exact hL3.mono hB.size
        clear hL3
        go_wp2_with fail
        go_roundw
        case rel => exact ⟨k + 1, by omega, by go_num, HL3, hB3⟩
        case measure => simp [intOf]; omega
    · obtain rfl : k = n := by omega
      have hl := HL.out
      rw [valsTo_all HU.out] at hl
      have HE := Lib.hid hl
      clear hl
      go_wp2_with fail
      go_ret
      exact ⟨_, rfl, HE.out, hB⟩
set_option maxRecDepth 100000 in
set_option maxHeartbeats 4000000 in
theorem specWith {ok : Nat → Prop} (B n C i : Nat) (s : Sh) (T : Tab) (Gs : Nat → List (List Nat)) (v : Value) (u : List Nat) (x : Nat) (w : World) (ht : TopS w C n s) (hb : Body ok B n w s T Gs) {ok' : Nat → Prop} (hv : PermV ok' w v n u) (hu : IsP n u)
    (hTP : ∀ y t, T i y = some t → IsP n t) (hi : i < n) (hnl : n ≤ 20) (hx : x ∈ vals n T i u) :
    Calls Try.prog 82 #[.pointer (some ⟨C, 0, none⟩), .int .i64 (i : Int), v, .int .i64 (x : Int)] w (CompPost (Grp.step T i u x) w) := by
  obtain ⟨t, hTy, hst⟩ := step_some hx
  rw [hst]
  have hxn := (mem_vals.1 hx).1
  have hyn := hu.inv_lt hxn
  have hIt := hTP _ t hTy
  obtain ⟨u1, hu1, hrep, -⟩ := hb.readRow hi hyn
  rw [hTy] at hrep
  have hrep : PermV ok w u1 n t := hrep
  obtain ⟨gt, ct, rfl, hIt2, htl⟩ := hrep.ints
  obtain ⟨g, c, rfl, hI, hul⟩ := hv.ints
  obtain ⟨y, hy⟩ : ∃ y, app (inv u) x = y := ⟨_, rfl⟩
  have HY := Lib.hid hy
  rw [hy] at hyn hu1
  have t1 : w.cell? ⟨C, 1, none⟩ = some (.slice (some ⟨s.Rb, 0, none⟩) n s.cr) := cell_of_row w C 1 _ _ (0, 0) ht
  have hrb := hb.readRb hi
  have HT := Lib.hid ht
  have HBD := Lib.hid hb
  have HU := Lib.hid hu
  have HI := Lib.hid hI
  have HIT := Lib.hid hIt
  have HIT2 := Lib.hid hIt2
  have HU1 := Lib.hid hu1
  have p0 : (0 : Int) ≤ (i : Int) := by omega
  have p1 : (i : Int) < (n : Int) := by omega
  have p2 : (0 : Int) ≤ (y : Int) := by omega
  have p3 : (y : Int) < (n : Int) := by omega
  have p4 : (0 : Int) ≤ (x : Int) := by omega
  have p5 : (x : Int) < (n : Int) := by omega
  have lR := World.block_lt_of_cell? _ _ hu1
  have lB := World.block_lt_of_cell? _ _ hrb
  have lC := World.block_lt_of_cell? _ _ t1
  dsimp only at lR lB lC
  clear ht hb hv hu hTP hx hTy hst hIt hrep hIt2 htl hI hul hy hu1
  go_enter Try.func82, Try.ntmps82
  go_wp2_with fail
  go_region_with (first
    | (go_at_call 105; refine (specInverse _ c n u _ (by exact HI.out.below (by exact (by repeat (first | exact Below.refl _ _ | assumption | refine Below.setCell ?_ (by first | omega | (simp <;> omega)) _ | refine Below.alloc ?_ (by first | omega | (simp <;> omega)) _ | refine Below.drew ?_)))) HU.out (by omega)).mono ?_; rintro e w2 ⟨v2, rfl, hF2, hb2⟩
        ; have hB2 : Below w.heap.size w w2 := (by first | exact hb2 | exact ((Below.refl _ _).drew).trans hb2)
        ; obtain ⟨A2, c2, rfl, hI2, -⟩ := hF2.ints
        ; obtain ⟨b2, off2, rfl, hl2, hc2⟩ := perm_at hI2 (i := x) (by rw [inv_len, HU.out.len]; exact hxn)
        ; rw [HY.out] at hc2
        ; rw [natI_len, inv_len, HU.out.len]
        ; have hu12 : w2.cell? ⟨s.R i, y, none⟩ = some (.slice (some ⟨gt, 0, none⟩) n ct) := (hB2.cell (p := ⟨s.R i, y, none⟩) lR).trans HU1.out
        ; have hrb2 : w2.cell? ⟨s.Rb, i, none⟩ = some (.slice (some ⟨s.R i, 0, none⟩) n n) := (hB2.cell (p := ⟨s.Rb, i, none⟩) lB).trans hrb
        ; have t12 : w2.cell? ⟨C, 1, none⟩ = some (.slice (some ⟨s.Rb, 0, none⟩) n s.cr) := (hB2.cell (p := ⟨C, 1, none⟩) lC).trans t1
        ; have HI2 := Lib.hid (HI.out.below hB2)
        ; have HIT22 := Lib.hid (HIT2.out.below hB2)
        ; clear hF2 hb2 hI2)
    | (go_at_call 98; refine (specCompose _ _ ct c n t u _ (by exact HIT22.out.below (by exact (by repeat (first | exact Below.refl _ _ | assumption | refine Below.setCell ?_ (by first | omega | (simp <;> omega)) _ | refine Below.alloc ?_ (by first | omega | (simp <;> omega)) _ | refine Below.drew ?_)))) (by exact HI2.out.below (by exact (by repeat (first | exact Below.refl _ _ | assumption | refine Below.setCell ?_ (by first | omega | (simp <;> omega)) _ | refine Below.alloc ?_ (by first | omega | (simp <;> omega)) _ | refine Below.drew ?_)))) HIT.out.len HU.out.len (by omega) (fun i hi => HIT.out.lt hi)).mono ?_; rintro e w3 ⟨v3, rfl, hF3, hb3⟩; have HF3 := Lib.hid hF3; have HB3 : Hid (Below w2.heap.size w2 w3) := (by first | exact hb3 | exact ((Below.refl _ _).drew).trans hb3); clear hF3 hb3))
  all_goals
    go_wp2_with fail
    go_ret
    exact ⟨_, rfl, HF3.out.mono (by have := hB2.size; omega), belowStep HB3.out hB2⟩
end Go.Proofs.Ytpcnbjfkobeibaa
