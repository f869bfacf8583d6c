/- Lists held against one another by the law file; Compose and PermutationLess at the reference. Conditions: as each contract says. Readers of groups over drawn arguments. Conditions: as each contract says. -/
import Derived.Test.YtpcnbjfkobeibaaIm
import Derived.Test.YtpcnbjfkobeibaaLo
import Derived.Test.YtpcnbjfkobeibaaMw
import Derived.Test.YtpcnbjfkobeibaaLm
namespace Go.Proofs.Ytpcnbjfkobeibaa
section
open Go.RowKit Grp

set_option maxRecDepth 3000 in
set_option maxHeartbeats 1000000 in
theorem likeI (A B : Option Addr) (c d n m : Nat) (xs ys : List Int) (w : World) (hx : IntsAt w A xs) (hy : IntsAt w B ys) (hxl : xs.length = n) (hyl : ys.length = m) (hn : n ≤ 1048576) :
    Calls Try.prog 46 #[.slice A n c, .slice B m d] w (Quiet (.bool (decide (xs = ys))) w) := by
  obtain ⟨b0, hb0⟩ : ∃ b0, decide (xs = ys) = b0 := ⟨_, rfl⟩
  rw [hb0]
  have HB0 := Lib.hid hb0
  have HXL := Lib.hid hxl
  have HYL := Lib.hid hyl
  clear hb0
  by_cases hnm : n = m
  · subst hnm
    go_enter Try.func46, Try.ntmps46
    go_wp2_with fail
    go_loopw [5] (fun z wr => ∃ (k nd : Nat), k ≤ n ∧ z = .int .i64 (k : Int) ∧ Hid (EqAt xs ys k) ∧ wr = w.drewN nd) (fun z _ => n - (intOf z).toNat)
    case atStart => exact ⟨0, 0, Nat.zero_le _, rfl, fun j hj => absurd hj (Nat.not_lt_zero _), rfl⟩
    case round =>
      obtain ⟨k, nd, hk, rfl, HE, hwr⟩ := hrel
      have HD : Hid (∀ m, ∃ l, wr.drewN m = w.drewN l) := fun m => ⟨nd + m, by rw [hwr, World.drewN_drewN]⟩
      by_cases hlt : k < n
      · obtain ⟨b, off, x, rfl, hb, hc0, HX⟩ := hx.at_ (k := k) (by omega)
        obtain ⟨b', off', y, rfl, hb', hc0', HY⟩ := hy.at_ (k := k) (by omega)
        have hcx : wr.cell? ⟨b, off + k, none⟩ = some (.int .i64 x) := by rw [hwr]; exact hc0
        have hcy : wr.cell? ⟨b', off' + k, none⟩ = some (.int .i64 y) := by rw [hwr]; exact hc0'
        have p0 : (0 : Int) ≤ (k : Int) := by omega
        have p1 : (k : Int) < (n : Int) := by omega
        clear hwr hxl hyl
        by_cases he : x = y
        · subst he
          have HE2 : Hid (EqAt xs ys (k + 1)) := HE.out.more (by rw [HX.out, HY.out])
          go_wp2_with fail
          go_quiet (fail)
          go_wp2_with fail
          go_roundw
          case rel => exact ⟨k + 1, (HD.out _).choose, by omega, by go_num, HE2, (HD.out _).choose_spec⟩
          case measure => simp [intOf]; omega
        · have hne : (x == y) = false := by simpa using he
          have HF : Hid (false = b0) := by
            unfold Hid
            rw [← HB0.out]
            exact (decide_eq_false (fun e => he (by rw [← HX.out, ← HY.out, e]))).symm
          go_wp2_with fail
          go_quiet (fail)
          go_wp2_with fail
          go_ret
          exact ⟨ret_bool HF.out, HD.out _⟩
      · obtain rfl : k = n := by omega
        have HT : Hid (true = b0) := by
          unfold Hid
          rw [← HB0.out]
          exact (decide_eq_true (eq_of_getD (by rw [HXL.out, HYL.out]) (by rw [HXL.out]; exact HE.out))).symm
        clear hwr
        go_wp2_with fail
        go_ret
        exact ⟨ret_bool HT.out, by have := HD.out 0; rwa [World.drewN_zero] at this⟩
  · have hne : ((n : Int) == (m : Int)) = false := by simp; omega
    have HF : Hid (false = b0) := by
      unfold Hid
      rw [← HB0.out]
      exact (decide_eq_false (fun e => hnm (by rw [← HXL.out, ← HYL.out, e]))).symm
    clear hxl hyl
    go_enter Try.func46, Try.ntmps46
    go_wp2_with fail
    go_ret
    exact ⟨ret_bool HF.out, ⟨0, (World.drewN_zero _).symm⟩⟩
set_option maxRecDepth 3000 in
set_option maxHeartbeats 1000000 in
theorem likeL (A B : Option Addr) (c d n : Nat) (ls : List (List Int)) (w : World) (hx : LAt w A ls) (hy : LAt w B ls) (hn : ls.length = n) (hl : n ≤ 1048576) (hs : ShortL ls) :
    Calls Try.prog 52 #[.slice A n c, .slice B n d] w fun e w' => e = .returned (.bool true) ∧ Below w.heap.size w w' := by
  have HN := Lib.hid hn
  have HX := Lib.hid hx
  have HY := Lib.hid hy
  have HS := Lib.hid hs
  clear hx hy hs hn
  go_enter Try.func52, Try.ntmps52
  go_wp2_with fail
  go_loopw [5] (fun z wr => ∃ (k : Nat), k ≤ n ∧ z = .int .i64 (k : Int) ∧ Below w.heap.size w wr) (fun z _ => n - (intOf z).toNat)
  case atStart => exact ⟨0, Nat.zero_le _, rfl, Below.refl _ _⟩
  case round =>
    obtain ⟨k, hk, rfl, hB⟩ := hrel
    by_cases hlt : k < n
    · obtain ⟨b, off, Ai, ci, zs, rfl, hb, hcap, hc0, hI, HZ⟩ := (HX.out.below hB).at_ (i := k) (by rw [HN.out]; exact hlt)
      obtain ⟨b', off', Aj, cj, zs', rfl, hb', hcap', hc0', hI', HZ'⟩ := (HY.out.below hB).at_ (i := k) (by rw [HN.out]; exact hlt)
      have hzz : zs' = zs := by rw [← HZ'.out, ← HZ.out]
      subst hzz
      obtain ⟨l, hl2⟩ : ∃ l, zs'.length = l := ⟨_, rfl⟩
      have hll : l ≤ 1048576 := by rw [← hl2, ← HZ.out]; exact HS.out k (by rw [HN.out]; exact hlt)
      rw [hl2] at hc0 hc0'
      have hcall := fun wq (h1 : IntsAt wq Ai zs') (h2 : IntsAt wq Aj zs') => likeI Ai Aj ci cj l l zs' zs' wq h1 h2 hl2 hl2 hll
      rw [decide_eq_true (rfl : zs' = zs')] at hcall
      have HCALL := Lib.hid hcall
      have HI := Lib.hid hI
      have HI' := Lib.hid hI'
      have p0 : (0 : Int) ≤ (k : Int) := by omega
      have p1 : (k : Int) < (n : Int) := by omega
      clear hcall hI hI' hl2 hcap hcap'
      go_wp2_with fail
      go_quiet ((go_at_call 46; exact quietDrew (HCALL.out _ (by exact HI.out) (by exact HI'.out))))
      go_wp2_with fail
      go_roundw
      case rel => exact ⟨k + 1, by omega, by go_num, belowDrewN hB _⟩
      case measure => simp [intOf]; omega
    · obtain rfl : k = n := by omega
      go_wp2_with fail
      go_ret
      exact ⟨rfl, hB⟩
theorem quietAt {P : Program} {f : FuncId} {args : Array Value} {w : World} {v : Value} (h : Calls P f args w (Quiet v w)) : Calls P f args w fun e w' => ∃ n, e = .returned v ∧ w' = w.drewN n := h.mono fun _ _ ⟨a, n, b⟩ => ⟨n, a, b⟩
theorem permQ_of {n : Nat} {p : List Nat} (hp : IsP n p) (h0 : 0 < n) (hn : n ≤ 20) : permQ (natI p) = true := by
  rw [permQ_iff]
  have hl : (natI p).length = n := by rw [natI_len, hp.len]
  refine ⟨by omega, by omega, fun j hj => ?_⟩
  rw [hl] at hj
  rw [hl, natI_getD]
  have := hp.lt hj
  refine ⟨by omega, by omega, fun j' hj' => ?_⟩
  rw [natI_getD]
  intro e
  have := hp.2.2 j' j (by omega) hj (by omega)
  omega
set_option maxRecDepth 3000 in
set_option maxHeartbeats 1000000 in
theorem specSamePD (A B : Option Addr) (c d n : Nat) (p q : List Nat) (w : World) (hx : IntsAt w A (natI p)) (hy : IntsAt w B (natI q)) (hp : IsP n p) (hq : IsP n q) (h0 : 0 < n) (hn : n ≤ 20) (hc : n ≤ c) (hd : n ≤ d) :
    Calls Try.prog 97 #[.slice A n c, .slice B n d] w (Quiet (.bool true) w) := by
  have hpl : (natI p).length = n := by rw [natI_len, hp.len]
  have hql : (natI q).length = n := by rw [natI_len, hq.len]
  have h1 := specPerm A c (natI p) w hx (by omega) (by omega)
  have h2 := fun wx (h : IntsAt wx B (natI q)) => specPerm B d (natI q) wx h (by omega) (by omega)
  rw [permQ_of hp h0 hn, hpl] at h1
  rw [permQ_of hq h0 hn, hql] at h2
  have H1 := Lib.hid h1
  have H2 := Lib.hid h2
  have HY := Lib.hid hy
  clear h1 h2 hx hy hp hq hpl hql
  go_enter Try.func97, Try.ntmps97
  go_wp2_with fail
  refine H1.out.mono ?_
  rintro e w1 ⟨rfl, n1, rfl⟩
  go_wp2_with fail
  refine (H2.out _ (by exact HY.out)).mono ?_
  rintro e w2 ⟨rfl, n2, rfl⟩
  go_wp2_with fail
  go_ret
  exact ⟨rfl, _, rfl⟩
set_option maxRecDepth 3000 in
set_option maxHeartbeats 1000000 in
theorem specComposeP (A B : Option Addr) (c d n : Nat) (p q : List Nat) (w : World) (hx : IntsAt w A (natI p)) (hy : IntsAt w B (natI q)) (hp : IsP n p) (hq : IsP n q) (h0 : 0 < n) (hn : n ≤ 20) (hc : n ≤ c) (hd : n ≤ d) :
    Calls Try.prog 45 #[.slice A n c, .slice B n d] w fun e w' => ∃ v, e = .returned (.tuple #[v, .bool true]) ∧ Fresh w.heap.size w' v (natI (comp p q)) ∧ Below w.heap.size w w' := by
  have H1 := Lib.hid (specSamePD A B c d n p q w hx hy hp hq h0 hn hc hd)
  have H2 := Lib.hid (fun wx (h1 : IntsAt wx A (natI p)) (h2 : IntsAt wx B (natI q)) => specCompose A B c d n p q wx h1 h2 hp.len hq.len (by omega) (fun i hi => hp.lt hi))
  have HX := Lib.hid hx
  have HY := Lib.hid hy
  clear hx hy hp hq
  go_enter Try.func45, Try.ntmps45
  go_wp2_with fail
  refine H1.out.mono ?_
  rintro e w1 ⟨rfl, n1, rfl⟩
  have hb1 := belowDrewN (Below.refl w.heap.size w) n1
  go_wp2_with fail
  refine (H2.out _ (by exact HX.out) (by exact HY.out)).mono ?_
  rintro e w2 ⟨v2, rfl, hF2, hb2⟩
  obtain ⟨A2, c2, rfl, -, -⟩ := hF2.ints
  obtain ⟨l, hl⟩ : ∃ l, (natI (comp p q)).length = l := ⟨_, rfl⟩
  rw [hl] at hF2 ⊢
  have HF2 := Lib.hid hF2
  clear hF2 hl
  go_wp2_with fail
  refine bodyPost_ret (v := .tuple #[.slice A2 l c2, .bool true]) (by simp [results, Try.results45, go_sem]) rfl ?_
  exact ⟨_, rfl, HF2.out, belowStep hb2 hb1⟩
/-- Before k both have the same entries. -/
def SameTo (p q : List Nat) (k : Nat) : Prop := ∀ j, j < k → app p j = app q j
set_option maxRecDepth 3000 in
set_option maxHeartbeats 1000000 in
theorem specPrecNo (A B : Option Addr) (c d n : Nat) (p q : List Nat) (w : World) (hx : IntsAt w A (natI p)) (hy : IntsAt w B (natI q)) (hp : IsP n p) (hq : IsP n q) (hn : n ≤ 20) (hno : ∀ k, k < n → SameTo p q k → app q k ≤ app p k) :
    Calls Try.prog 106 #[.slice A n c, .slice B n d] w (Quiet (.bool false) w) := by
  have HNO := Lib.hid hno
  have hpl := hp.len
  have hql := hq.len
  have HPL := Lib.hid hpl
  have HQL := Lib.hid hql
  have HX := Lib.hid hx
  have HY := Lib.hid hy
  clear hno hp hq hpl hql hx hy
  go_enter Try.func106, Try.ntmps106
  go_wp2_with fail
  go_loopw [5] (fun z wr => ∃ (k nd : Nat), k ≤ n ∧ z = .int .i64 (k : Int) ∧ Hid (SameTo p q k) ∧ wr = w.drewN nd) (fun z _ => n - (intOf z).toNat)
  case atStart => exact ⟨0, 0, Nat.zero_le _, rfl, fun j hj => absurd hj (Nat.not_lt_zero _), rfl⟩
  case round =>
    obtain ⟨k, nd, hk, rfl, HE, hwr⟩ := hrel
    have HD : Hid (∀ m, ∃ l, wr.drewN m = w.drewN l) := fun m => ⟨nd + m, by rw [hwr, World.drewN_drewN]⟩
    by_cases hlt : k < n
    · obtain ⟨b, off, rfl, hb, hc0⟩ := perm_at HX.out (i := k) (by rw [HPL.out]; exact hlt)
      obtain ⟨b', off', rfl, hb', hc0'⟩ := perm_at HY.out (i := k) (by rw [HQL.out]; exact hlt)
      have hle := HNO.out k hlt HE.out
      obtain ⟨x, hx⟩ : ∃ x, app p k = x := ⟨_, rfl⟩
      obtain ⟨y, hy⟩ : ∃ y, app q k = y := ⟨_, rfl⟩
      rw [hx] at hc0 hle
      rw [hy] at hc0' hle
      have hcx : wr.cell? ⟨b, off + k, none⟩ = some (.int .i64 (x : Int)) := by rw [hwr]; exact hc0
      have hcy : wr.cell? ⟨b', off' + k, none⟩ = some (.int .i64 (y : Int)) := by rw [hwr]; exact hc0'
      have HXX := Lib.hid hx
      have HYY := Lib.hid hy
      have p0 : (0 : Int) ≤ (k : Int) := by omega
      have p1 : (k : Int) < (n : Int) := by omega
      clear hwr hc0 hc0' hx hy
      by_cases he : x = y
      · subst he
        have HE2 : Hid (SameTo p q (k + 1)) := fun j hj => by
          rcases Nat.lt_or_ge j k with h | h
          · exact HE.out j h
          · rw [show j = k from by omega, HXX.out, HYY.out]
        go_wp2_with fail
        go_quiet (fail)
        go_wp2_with fail
        go_roundw
        case rel => exact ⟨k + 1, (HD.out _).choose, by omega, by go_num, HE2, (HD.out _).choose_spec⟩
        case measure => simp [intOf]; omega
      · have hne : ((x : Int) == (y : Int)) = false := by simp; omega
        have hge : ¬ (x : Int) < (y : Int) := by omega
        go_wp2_with fail
        go_quiet (fail)
        go_wp2_with fail
        go_quiet (fail)
        go_wp2_with fail
        go_ret
        refine ⟨ret_bool (decide_eq_false (show ¬ x < y by omega)), ?_⟩
        rw [World.drewN_drewN]
        exact HD.out _
    · obtain rfl : k = n := by omega
      clear hwr
      go_wp2_with fail
      go_ret
      exact ⟨rfl, by have := HD.out 0; rwa [World.drewN_zero] at this⟩
set_option maxRecDepth 3000 in
set_option maxHeartbeats 1000000 in
theorem specLessNo (A B : Option Addr) (c d n : Nat) (p q : List Nat) (w : World) (hx : IntsAt w A (natI p)) (hy : IntsAt w B (natI q)) (hp : IsP n p) (hq : IsP n q) (h0 : 0 < n) (hn : n ≤ 20) (hc : n ≤ c) (hd : n ≤ d) (hno : ∀ k, k < n → SameTo p q k → app q k ≤ app p k) :
    Calls Try.prog 50 #[.slice A n c, .slice B n d] w (Quiet (.bool false) w) := by
  have H1 := Lib.hid (specSamePD A B c d n p q w hx hy hp hq h0 hn hc hd)
  have H2 := Lib.hid (fun wx (h1 : IntsAt wx A (natI p)) (h2 : IntsAt wx B (natI q)) => specPrecNo A B c d n p q wx h1 h2 hp hq hn hno)
  have HX := Lib.hid hx
  have HY := Lib.hid hy
  clear hx hy hp hq hno
  go_enter Try.func50, Try.ntmps50
  go_wp2_with fail
  refine H1.out.mono ?_
  rintro e w1 ⟨rfl, n1, rfl⟩
  go_wp2_with fail
  refine (H2.out _ (by exact HX.out) (by exact HY.out)).mono ?_
  rintro e w2 ⟨rfl, n2, rfl⟩
  go_wp2_with fail
  go_ret
  exact ⟨rfl, _, rfl⟩
end
section
open Go.RowKit Grp

theorem implLmpM (n : Int) (g c : Nat) (ls : List (List Int)) (A : Option Addr) (c' : Nat) (xs : List Int) (w : World) (h : LMay n w g ls) (hl : ls.length ≤ 1048576) (hs : ShortL ls) (hx : IMay n ls w A c' xs) (hxl : xs.length ≤ 1048576) :
    Calls Try.prog 29 #[.int .i64 n, .slice (some ⟨g, 0, none⟩) ls.length c, .slice A xs.length c'] w (ReadsInt (lmpQ n ls xs) w) := by
  cases hok : okQ n ls xs with
  | false => rw [lmpQ_no hok]; exact implLmpNo n g c ls A c' xs w h.1 hl hs hx.1 hxl hok
  | true => exact implLmp n g c ls A c' xs w (h.2 (okQ_gs hok).1) hl hs hx.1 hxl
theorem specLmpM (n : Int) (g c : Nat) (ls : List (List Int)) (A : Option Addr) (c' : Nat) (xs : List Int) (w : World) (h : LMay n w g ls) (hl : ls.length ≤ 1048576) (hs : ShortL ls) (hx : IMay n ls w A c' xs) (hxl : xs.length ≤ 1048576) :
    Calls Try.prog 28 #[.int .i64 n, .slice (some ⟨g, 0, none⟩) ls.length c, .slice A xs.length c'] w (ReadsInt (lmpQ n ls xs) w) := by
  cases hok : okQ n ls xs with
  | false => rw [lmpQ_no hok]; exact specLmpNo n g c ls A c' xs w h.1 hl hs hx.1 hxl hx.2.1 hok
  | true => exact specLmp n g c ls A c' xs w (h.2 (okQ_gs hok).1) hl hs hx.1 hxl hx.2.1
theorem implCosM (n : Int) (g c : Nat) (ls : List (List Int)) (A : Option Addr) (c' : Nat) (xs : List Int) (w : World) (h : LMay n w g ls) (hl : ls.length ≤ 1048576) (hs : ShortL ls) (hx : IMay n ls w A c' xs) (hxl : xs.length ≤ 1048576) :
    Calls Try.prog 31 #[.int .i64 n, .slice (some ⟨g, 0, none⟩) ls.length c, .slice A xs.length c'] w (ReadsPerm (cosQ n ls xs) w) := by
  cases hok : okQ n ls xs with
  | false =>
    rw [cosQ_no hok]
    refine (implCosNo n g c ls A c' xs w h.1 hl hs hx.1 hxl hok).mono ?_
    rintro e w' ⟨rfl, hB⟩
    exact ⟨_, rfl, Fresh.nil _ _, hB⟩
  | true => exact implCos n g c ls _ A c' xs w (h.2 (okQ_gs hok).1) hl hs (hx.2.2 (okQ_gs hok).1 (okQ_gs hok).2) rfl hxl
theorem specCosM (n : Int) (g c : Nat) (ls : List (List Int)) (A : Option Addr) (c' : Nat) (xs : List Int) (w : World) (h : LMay n w g ls) (hl : ls.length ≤ 1048576) (hs : ShortL ls) (hx : IMay n ls w A c' xs) (hxl : xs.length ≤ 1048576) :
    Calls Try.prog 30 #[.int .i64 n, .slice (some ⟨g, 0, none⟩) ls.length c, .slice A xs.length c'] w (ReadsPerm (cosQ n ls xs) w) := by
  cases hok : okQ n ls xs with
  | false =>
    rw [cosQ_no hok]
    refine (specCosNo n g c ls A c' xs w h.1 hl hs hx.1 hxl hx.2.1 hok).mono ?_
    rintro e w' ⟨v, rfl, hF, hB⟩
    exact ⟨_, rfl, hF, hB⟩
  | true => exact specCos n g c ls A c' xs w (h.2 (okQ_gs hok).1) hl hs hx.1 hxl hx.2.1
/-! Plain facts of the answers. -/
theorem okQ_natI {N : Nat} {l : List (List Nat)} {p : List Nat} (hg : gsQ (N : Int) (l.map natI) = true) (hp : IsP N p) (h0 : 0 < N) (hN : N ≤ 20) : okQ (N : Int) (l.map natI) (natI p) = true := by
  refine okQ_yes hg ?_
  rw [badL_perm (by rw [natI_len, hp.len]), permQ_of hp h0 hN]
  rfl
theorem cosets_no {n : Int} {ls : List (List Int)} {ps qs : List Int} (h : (cosQ n ls ps).length = 0 ∨ (cosQ n ls qs).length = 0) : scQ n ls ps qs = false := by
  cases hp : okQ n ls ps with
  | false => exact scQ_no1 hp
  | true =>
  cases hq : okQ n ls qs with
  | false => exact scQ_no2 hq
  | true =>
    exfalso
    obtain ⟨N, l, p, rfl, h0, hN, rfl, h8, hP, rfl, hip, hgs, -⟩ := okQ_open hp
    have hbad2 : badL (N : Int) qs = false := by
      have := hq
      unfold okQ at this
      simp only [Bool.and_eq_true, Bool.not_eq_true'] at this
      exact this.2
    obtain ⟨q, rfl, hiq⟩ := bad_open hbad2
    rw [cosQ_yes hp, cosQ_yes hq] at h
    obtain ⟨x, hx, hxp⟩ := minR_some (gT_chain hP) hip
    obtain ⟨y, hy, hyp⟩ := minR_some (gT_chain hP) hiq
    rw [hx, hy] at h
    simp only [Option.getD_some] at h
    rw [hxp.len, hyp.len] at h
    omega
theorem cosets_yes {n : Int} {ls : List (List Int)} {ps qs : List Int} (h : 0 < (cosQ n ls ps).length) (h2 : 0 < (cosQ n ls qs).length) :
    ∃ (N : Nat) (l : List (List Nat)) (p x : List Nat), n = (N : Int) ∧ ls = l.map natI ∧ ps = natI p ∧ cosQ n ls ps = x ∧ 0 < N ∧ N ≤ 20 ∧ IsP N p ∧ IsP N x ∧ scQ n ls ps qs = decide (cosQ n ls ps = cosQ n ls qs) ∧ scQ n ls (natI x) ps = true ∧ (∀ k, k < N → SameTo p x k → app x k ≤ app p k) := by
  have hp : okQ n ls ps = true := by
    cases hp : okQ n ls ps with
    | true => rfl
    | false => rw [cosQ_no hp] at h; exact absurd h (Nat.lt_irrefl _)
  have hq : okQ n ls qs = true := by
    cases hq : okQ n ls qs with
    | true => rfl
    | false => rw [cosQ_no hq] at h2; exact absurd h2 (Nat.lt_irrefl _)
  have hsc := scQ_yes hp hq
  obtain ⟨N, l, p, rfl, h0, hN, rfl, h8, hP, rfl, hip, hgs, -⟩ := okQ_open hp
  obtain ⟨x, hx, hxp⟩ := minR_some (gT_chain hP) hip
  have hcx : cosQ (N : Int) (l.map natI) (natI p) = x := by rw [cosQ_yes hp, hx]; rfl
  refine ⟨N, l, p, x, rfl, rfl, rfl, hcx, h0, hN, hip, hxp, hsc, ?_, fun k hk hs => minR_least (gT_chain hP) hip hx hk hs⟩
  exact (scQ_iff hP hxp hip (okQ_natI hgs hxp h0 hN) hp).2 (min_self (gT_chain hP) hip hxp hx)
end
end Go.Proofs.Ytpcnbjfkobeibaa
