/- MemberWithPrefix and CosetMinimum at both packages. Conditions: as each contract says. -/
import Derived.Test.YtpcnbjfkobeibaaFs
namespace Go.Proofs.Ytpcnbjfkobeibaa
open Go.RowKit Grp

theorem PreI.opt {n : Nat} {o : Option (List Nat)} {w w' : World} {e : Ending} (h : PreI n o w e w') : ReadsOpt o w e w' := by
  obtain ⟨⟨u, v, rfl, he, hF, -⟩ | ⟨v, rfl, he, hF⟩, hB⟩ := h
  · exact ⟨v, he, hF, hB⟩
  · exact ⟨v, he, hF, hB⟩
noncomputable def mwpQ (n : Int) (ls : List (List Int)) (xs : List Int) : Option (List Nat) := if gsQ n ls && decide ((xs.length : Int) ≤ n) then preR n.toNat (tQ n ls) xs else none
theorem mwpQ_no1 {n : Int} {ls : List (List Int)} {xs : List Int} (h : gsQ n ls = false) : mwpQ n ls xs = none := by unfold mwpQ; rw [h]; rfl
theorem mwpQ_no2 {n : Int} {ls : List (List Int)} {xs : List Int} (h : ¬ (xs.length : Int) ≤ n) : mwpQ n ls xs = none := by unfold mwpQ; rw [decide_eq_false h]; simp
theorem mwpQ_yes {N : Nat} {ps : List (List Nat)} {xs : List Int} (h : gsQ (N : Int) (ps.map natI) = true) (h2 : (xs.length : Int) ≤ (N : Int)) : mwpQ (N : Int) (ps.map natI) xs = preR N (gT N ps) xs := by
  unfold mwpQ
  rw [h, decide_eq_true h2, tQ_eq]
  rfl
theorem mwpQ_len (n : Int) (ls : List (List Int)) (xs : List Int) : ((mwpQ n ls xs).getD []).length ≤ 20 := by
  cases h : gsQ n ls with
  | false => rw [mwpQ_no1 h]; exact Nat.zero_le _
  | true =>
    by_cases h2 : (xs.length : Int) ≤ n
    · obtain ⟨N, ps, rfl, h0, hN, rfl, -, hP⟩ := gsOpen h
      rw [mwpQ_yes h h2]
      cases ho : preR N (gT N ps) xs with
      | none => exact Nat.zero_le _
      | some u =>
        have := walk_isP (gT_chain hP) N 0 (idp N) () (by omega) IsP.idp u ho
        simp only [Option.getD_some]
        rw [this.len]
        exact hN
    · rw [mwpQ_no2 h2]; exact Nat.zero_le _
set_option maxRecDepth 100000 in
set_option maxHeartbeats 4000000 in
theorem implMwp (n : Int) (g c : Nat) (ls : List (List Int)) (A : Option Addr) (c' : Nat) (xs : List Int) (w : World) (h : LOwn w g ls) (hl : ls.length ≤ 1048576) (hs : ShortL ls) (hx : IntsAt w A xs) (_hxl : xs.length ≤ 1048576) (hf : Fits xs) :
    Calls Try.prog 33 #[.int .i64 n, .slice (some ⟨g, 0, none⟩) ls.length c, .slice A xs.length c'] w (ReadsOpt (mwpQ n ls xs) w) := by
  have hg0 := implGs (some ⟨g, 0, none⟩) c n ls w h.at_ hl hs
  cases hgs : gsQ n ls with
  | false =>
    rw [mwpQ_no1 hgs]
    rw [hgs] at hg0
    have HG0 := Lib.hid hg0
    clear hg0 hgs hs hx
    go_enter Try.func33, Try.ntmps33
    go_wp2_with (first | (go_at_call 73; refine HG0.out.mono ?_; rintro e w1 ⟨rfl, hB1⟩))
    exact bodyPost_ret (v := .tuple #[.slice none 0 0, .bool false]) (by simp [results, Try.results33, go_sem]) rfl ⟨_, rfl, Fresh.nil _ _, hB1⟩
  | true =>
    rw [hgs] at hg0
    by_cases hlen : (xs.length : Int) ≤ n
    · obtain ⟨N, ps, rfl, h0, hN, rfl, h8, hP⟩ := gsOpen hgs
      rw [mwpQ_yes hgs hlen]
      have hm : (ps.map natI).length = ps.length := List.length_map ..
      have hle : ¬ (N : Int) < (xs.length : Int) := by omega
      have hxn : xs.length ≤ N := by omega
      rw [hm] at hg0
      rw [hm]
      obtain ⟨o, ho⟩ : ∃ o, preR N (gT N ps) xs = o := ⟨_, rfl⟩
      rw [ho]
      have HO := Lib.hid ho
      have HG0 := Lib.hid hg0
      have HL := Lib.hid h
      have HX := Lib.hid hx
      have HP := Lib.hid hP
      have HFI := Lib.hid hf
      clear hg0 hgs hs hx h hP hm ho hl hf hlen
      go_enter Try.func33, Try.ntmps33
      go_wp2_with (first
        | (go_at_call 73; refine HG0.out.mono ?_; rintro e w1 ⟨rfl, hB1⟩)
        | (go_at_call 74; refine (implLength _ _ _ _).mono ?_; rintro e w' ⟨rfl, rfl⟩)
        | (go_at_call 76; refine (newI N ps g ps.length c _ (by exact HL.out.below hB1) rfl HP.out h0 hN h8).mono ?_; rintro e w2 ⟨C, T, rfl, hC, hc, hone, hb2⟩
            ; have HC := Lib.hid hC; have HCH := Lib.hid hc; have hB2 := belowStep hb2 hB1; clear hC hc hone hb2
            ; have HOO : Hid (preR N T xs = o) := (by unfold Hid; rw [preR_eq HCH.out (gT_chain HP.out), HO.out]))
        | (go_at_call 90; refine (implWithPrefix C N T _ c' xs.length xs _ HC.out HCH.out hN h0 (by exact HX.out.below hB2) HFI.out rfl hxn).mono ?_; rw [HOO.out]; intro e w3 hp; obtain ⟨v3, rfl, hF3, hb3⟩ := hp.opt))
      have hB3 := belowStep hb3 hB2
      have hz2 := hB2.size
      exact bodyPost_ret (v := .tuple #[v3, .bool o.isSome]) (by simp [results, Try.results33, go_sem]) rfl ⟨_, rfl, hF3.mono hz2, hB3⟩
    · rw [mwpQ_no2 hlen]
      have hle : n < (xs.length : Int) := by omega
      have HG0 := Lib.hid hg0
      clear hg0 hgs hs hx hlen
      go_enter Try.func33, Try.ntmps33
      go_wp2_with (first
        | (go_at_call 73; refine HG0.out.mono ?_; rintro e w1 ⟨rfl, hB1⟩)
        | (go_at_call 74; refine (implLength _ _ _ _).mono ?_; rintro e w' ⟨rfl, rfl⟩))
      exact bodyPost_ret (v := .tuple #[.slice none 0 0, .bool false]) (by simp [results, Try.results33, go_sem]) rfl ⟨_, rfl, Fresh.nil _ _, hB1⟩
set_option maxRecDepth 100000 in
set_option maxHeartbeats 4000000 in
theorem specMwp (n : Int) (g c : Nat) (ls : List (List Int)) (A : Option Addr) (c' : Nat) (xs : List Int) (w : World) (h : LOwn w g ls) (hl : ls.length ≤ 1048576) (hs : ShortL ls) (hx : IntsAt w A xs) (hxl : xs.length ≤ 1048576) :
    Calls Try.prog 32 #[.int .i64 n, .slice (some ⟨g, 0, none⟩) ls.length c, .slice A xs.length c'] w (ReadsOpt (mwpQ n ls xs) w) := by
  have hg0 := specGs (some ⟨g, 0, none⟩) c n ls w h.at_ hl hs
  cases hgs : gsQ n ls with
  | false =>
    rw [mwpQ_no1 hgs]
    rw [hgs] at hg0
    have HG0 := Lib.hid hg0
    clear hg0 hgs hs hx
    go_enter Try.func32, Try.ntmps32
    go_wp2_with (first | (go_at_call 53; refine HG0.out.mono ?_; rintro e w1 ⟨rfl, n1, rfl⟩))
    exact bodyPost_ret (v := .tuple #[.slice (some ⟨w.heap.size, 0, none⟩) 0 0, .bool false]) (by simp [results, Try.results32, go_sem]) rfl ⟨_, rfl, Fresh.empty (Nat.le_refl _), (belowDrewN (Below.refl _ _) _).alloc (Nat.le_refl _) _⟩
  | true =>
    rw [hgs] at hg0
    by_cases hlen : (xs.length : Int) ≤ n
    · obtain ⟨N, ps, rfl, h0, hN, rfl, h8, hP⟩ := gsOpen hgs
      rw [mwpQ_yes hgs hlen]
      have hm : (ps.map natI).length = ps.length := List.length_map ..
      have hle : ¬ (N : Int) < (xs.length : Int) := by omega
      rw [hm] at hg0
      rw [hm]
      obtain ⟨o, ho⟩ : ∃ o, preR N (gT N ps) xs = o := ⟨_, rfl⟩
      rw [ho]
      have HO := Lib.hid ho
      have HG0 := Lib.hid hg0
      have HL := Lib.hid h
      have HX := Lib.hid hx
      have HP := Lib.hid hP
      clear hg0 hgs hs hx h hP hm ho hl hlen
      go_enter Try.func32, Try.ntmps32
      go_wp2_with (first
        | (go_at_call 53; refine HG0.out.mono ?_; rintro e w1 ⟨rfl, n1, rfl⟩)
        | (go_at_call 71; refine (newS N ps g ps.length c _ (by exact HL.out.below (belowDrewN (Below.refl _ _) _)) rfl HP.out h0 hN h8).mono ?_; rintro e w2 ⟨C, T, rfl, hC, hc, hone, hb2⟩
            ; have HC := Lib.hid hC; have HCH := Lib.hid hc; have hB2 := belowStep hb2 (belowDrewN (Below.refl w.heap.size w) _); clear hC hc hone hb2
            ; have HOO : Hid (preR N T xs = o) := (by unfold Hid; rw [preR_eq HCH.out (gT_chain HP.out), HO.out]))
        | (go_at_call 89; refine (specPre C N T _ c' xs.length xs _ HC.out HCH.out hN h0 (by exact HX.out.below hB2) rfl hxl).mono ?_; rw [HOO.out]; intro e w3 hp; obtain ⟨v3, rfl, hF3, hb3⟩ := hp.opt))
      have hB3 := belowStep hb3 hB2
      have hz2 := hB2.size
      exact bodyPost_ret (v := .tuple #[v3, .bool o.isSome]) (by simp [results, Try.results32, go_sem]) rfl ⟨_, rfl, hF3.mono hz2, hB3⟩
    · rw [mwpQ_no2 hlen]
      have hle : n < (xs.length : Int) := by omega
      have HG0 := Lib.hid hg0
      clear hg0 hgs hs hx hlen
      go_enter Try.func32, Try.ntmps32
      go_wp2_with (first
        | (go_at_call 53; refine HG0.out.mono ?_; rintro e w1 ⟨rfl, n1, rfl⟩))
      exact bodyPost_ret (v := .tuple #[.slice (some ⟨w.heap.size, 0, none⟩) 0 0, .bool false]) (by simp [results, Try.results32, go_sem]) rfl ⟨_, rfl, Fresh.empty (Nat.le_refl _), (belowDrewN (Below.refl _ _) _).alloc (Nat.le_refl _) _⟩
noncomputable def cosQ (n : Int) (ls : List (List Int)) (xs : List Int) : List Nat := if okQ n ls xs then (minR n.toNat (tQ n ls) (toN xs)).getD [] else []
theorem cosQ_no {n : Int} {ls : List (List Int)} {xs : List Int} (h : okQ n ls xs = false) : cosQ n ls xs = [] := by unfold cosQ; rw [h]; rfl
theorem cosQ_yes {N : Nat} {ps : List (List Nat)} {p : List Nat} (h : okQ (N : Int) (ps.map natI) (natI p) = true) : cosQ (N : Int) (ps.map natI) (natI p) = (minR N (gT N ps) p).getD [] := by
  unfold cosQ
  rw [h, tQ_eq, toN_natI]
  rfl
theorem minR_eq {n : Nat} {T T' : Tab} {G : List Nat → Prop} (hc : Chain n T 0 G) (hc' : Chain n T' 0 G) {u : List Nat} (hu : IsP n u) : minR n T u = minR n T' u := by
  unfold minR
  rw [walk_eq hc hc' actMin n 0 u u () (by omega) hu hu (Sim.refl hc.1 (Nat.zero_le _) hu)]
theorem cosQ_len (n : Int) (ls : List (List Int)) (xs : List Int) : (cosQ n ls xs).length ≤ 20 := by
  cases h : okQ n ls xs with
  | false => rw [cosQ_no h]; exact Nat.zero_le _
  | true =>
    obtain ⟨N, ps, p, rfl, h0, hN, rfl, -, hP, rfl, hp, -, -⟩ := okQ_open h
    rw [cosQ_yes h]
    obtain ⟨u, hu, hP2⟩ := minR_some (gT_chain hP) hp
    rw [hu]
    simp only [Option.getD_some]
    rw [hP2.len]
    exact hN
set_option maxRecDepth 100000 in
set_option maxHeartbeats 4000000 in
theorem implCos (n : Int) (g c : Nat) (ls : List (List Int)) (v0 : Value) (A : Option Addr) (c' : Nat) (xs : List Int) (w : World) (h : LOwn w g ls) (hl : ls.length ≤ 1048576) (hs : ShortL ls) (hx : Fresh 0 w v0 xs) (hv : v0 = .slice A xs.length c') (hxl : xs.length ≤ 1048576) :
    Calls Try.prog 31 #[.int .i64 n, .slice (some ⟨g, 0, none⟩) ls.length c, .slice A xs.length c'] w (ReadsPerm (cosQ n ls xs) w) := by
  subst hv
  cases hok : okQ n ls xs with
  | false =>
    rw [cosQ_no hok]
    refine (implCosNo n g c ls A c' xs w h.at_ hl hs hx.intsAt hxl hok).mono ?_
    rintro e w' ⟨rfl, hB⟩
    exact ⟨_, rfl, Fresh.nil _ _, hB⟩
  | true =>
    obtain ⟨N, ps, p, rfl, h0, hN, rfl, h8, hP, rfl, hp, hgs, hbad⟩ := okQ_open hok
    rw [cosQ_yes hok]
    obtain ⟨u, hu, hup⟩ := minR_some (gT_chain hP) hp
    rw [hu]
    have hpm := okQ_perm hp hbad
    have hg0 := implGs (some ⟨g, 0, none⟩) c (N : Int) (ps.map natI) w h.at_ hl hs
    rw [hgs] at hg0
    have hm : (ps.map natI).length = ps.length := List.length_map ..
    have hpl : (natI p).length = N := by rw [natI_len, hp.len]
    have hpp := fun (wx : World) (hx : IntsAt wx A (natI p)) => implPerm A c' (natI p) wx hx hxl
    rw [hpm] at hpp
    have hpv : PermV (fun _ => True) w (.slice A (natI p).length c') N p := hx.perm hp.len h0 (fun _ _ _ => trivial)
    rw [hpl] at hpp hpv
    rw [hm] at hg0
    rw [hm, hpl]
    have HG0 := Lib.hid hg0
    have HPP := Lib.hid hpp
    have HL := Lib.hid h
    have HX : Hid (IntsAt w A (natI p)) := hx.intsAt
    have HP := Lib.hid hP
    have HIP := Lib.hid hp
    have HUU := Lib.hid hu
    have HPV := Lib.hid hpv
    have HUP := Lib.hid hup
    clear hok hbad hgs hpm hg0 hpp h hs hx hP hu hl hxl hm hpl hpv hup
    go_enter Try.func31, Try.ntmps31
    go_wp2_with (first
      | (go_at_call 73; refine HG0.out.mono ?_; rintro e w1 ⟨rfl, hB1⟩)
      | (go_at_call 74; refine (implLength _ _ _ _).mono ?_; rintro e w' ⟨rfl, rfl⟩)
      | (go_at_call 75; refine (HPP.out _ (by exact HX.out.below hB1)).mono ?_; rintro e w' ⟨rfl, rfl⟩)
      | (go_at_call 76; refine (newI N ps g ps.length c _ (by exact HL.out.below hB1) rfl HP.out h0 hN h8).mono ?_; rintro e w2 ⟨C, T, rfl, hC, hc, hone, hb2⟩
          ; have HC := Lib.hid hC; have HCH := Lib.hid hc; have hB2 := belowStep hb2 hB1; clear hC hc hone hb2)
      | (go_at_call 83; refine (implFrom C N _ p _ (by exact HPV.out.below hB2)).mono ?_; rintro e w4 ⟨rfl, hW, hb4⟩
          ; have HFN := Lib.hid (implFinish w2.heap.size C N w2.heap.size 0 T p (walkG N T actMin N 0 p ()) w2 w4 HC.out HCH.out hN h0 (Nat.le_refl _) hb4 hW HIP.out (Nat.zero_le _) rfl (fun e => absurd e (by omega)) hb4.size))
      | (go_at_call 88; refine HFN.out.mono ?_; rintro e w5 ⟨u5, v5, hR5, rfl, hF5, hP5, hb5⟩
          ; have hue : u5 = u := (by
              have h1 : minR N T p = some u5 := by unfold minR; rw [hR5]
              rw [minR_eq HCH.out (gT_chain HP.out) HIP.out, HUU.out] at h1
              exact (Option.some.inj h1).symm)
          ; subst hue
          ; have hu5l : (natI u5).length ≤ 1048576 := (by rw [natI_len, hP5.len]; omega)
          ; obtain ⟨A5, c5, rfl, hI5, ha5⟩ := hF5.ints
          ; have hne5 : A5 ≠ none := (by
              rintro rfl
              obtain ⟨b, off, e, -⟩ := hI5 0 (by rw [natI_len, hP5.len]; exact h0)
              cases e)
          ; have hB5 : Below w.heap.size w w5 := belowStep (hb4.trans hb5) hB2
          ; have HI5 := Lib.hid hI5
          ; clear hR5 hF5 hI5 ha5)
      | (go_at_call 87; refine (cloneInts A5 c5 (natI u5) _ HI5.out hu5l hne5).mono ?_; rintro e w6 ⟨v6, rfl, hF6, hb6⟩))
    go_ret
    have hz5 := hB5.size
    exact ⟨_, rfl, hF6.mono hz5, belowStep hb6 hB5⟩
theorem implCosL (n : Int) (g c : Nat) (ls : List (List Int)) (A : Option Addr) (c' : Nat) (xs : List Int) (w : World) (h : LOwn w g ls) (hl : ls.length ≤ 1048576) (hs : ShortL ls) (_hx : IntsAt w A xs) (hxl : xs.length ≤ 1048576) {B : Nat} (hF : Fresh B w (.slice A xs.length c') xs) :
    Calls Try.prog 31 #[.int .i64 n, .slice (some ⟨g, 0, none⟩) ls.length c, .slice A xs.length c'] w (ReadsPerm (cosQ n ls xs) w) :=
  implCos n g c ls _ A c' xs w h hl hs (hF.mono (Nat.zero_le _)) rfl hxl
set_option maxRecDepth 100000 in
set_option maxHeartbeats 4000000 in
theorem specCos (n : Int) (g c : Nat) (ls : List (List Int)) (A : Option Addr) (c' : Nat) (xs : List Int) (w : World) (h : LOwn w g ls) (hl : ls.length ≤ 1048576) (hs : ShortL ls) (hx : IntsAt w A xs) (hxl : xs.length ≤ 1048576) (hxc : xs.length ≤ c') :
    Calls Try.prog 30 #[.int .i64 n, .slice (some ⟨g, 0, none⟩) ls.length c, .slice A xs.length c'] w (ReadsPerm (cosQ n ls xs) w) := by
  cases hok : okQ n ls xs with
  | false =>
    rw [cosQ_no hok]
    refine (specCosNo n g c ls A c' xs w h.at_ hl hs hx hxl hxc hok).mono ?_
    rintro e w' ⟨v, rfl, hF, hB⟩
    exact ⟨_, rfl, hF, hB⟩
  | true =>
    obtain ⟨N, ps, p, rfl, h0, hN, rfl, h8, hP, rfl, hp, hgs, hbad⟩ := okQ_open hok
    rw [cosQ_yes hok]
    have hg0 := specGs (some ⟨g, 0, none⟩) c (N : Int) (ps.map natI) w h.at_ hl hs
    rw [hgs] at hg0
    have hm : (ps.map natI).length = ps.length := List.length_map ..
    have hpl : (natI p).length = N := by rw [natI_len, hp.len]
    have hpp := fun (wx : World) (hx : IntsAt wx A (natI p)) => specPermOf A c' (N : Int) (natI p) wx hx hxl hxc
    rw [hbad] at hpp
    rw [hpl] at hpp
    rw [hm] at hg0
    rw [hm, hpl]
    obtain ⟨o, ho⟩ : ∃ o, minR N (gT N ps) p = o := ⟨_, rfl⟩
    rw [ho]
    have HO := Lib.hid ho
    have HG0 := Lib.hid hg0
    have HPP := Lib.hid hpp
    have HL := Lib.hid h
    have HX := Lib.hid hx
    have HP := Lib.hid hP
    have HIP := Lib.hid hp
    clear hok hbad hgs hg0 hpp h hs hx hP ho hl hxl hm hpl hxc
    go_enter Try.func30, Try.ntmps30
    go_wp2_with (first
      | (go_at_call 53; refine HG0.out.mono ?_; rintro e w0 ⟨rfl, n0, rfl⟩)
      | (go_at_call 69; refine (HPP.out _ (by exact HX.out)).mono ?_; rintro e w1 ⟨rfl, n1, rfl⟩)
      | (go_at_call 71; refine (newS N ps g ps.length c _ (by exact HL.out.below (belowDrewN (Below.refl _ _) _)) rfl HP.out h0 hN h8).mono ?_; rintro e w2 ⟨C, T, rfl, hC, hc, hone, hb2⟩
          ; have HC := Lib.hid hC; have HCH := Lib.hid hc; have hB2 := belowStep hb2 (belowDrewN (Below.refl w.heap.size w) _); clear hC hc hone hb2
          ; have HOO : Hid (minR N T p = o) := (by unfold Hid; rw [minR_eq HCH.out (gT_chain HP.out) HIP.out, HO.out]))
      | (go_at_call 86; refine (specCosetMin C N T _ c' p _ HC.out HCH.out hN h0 (by exact HX.out.below hB2) HIP.out).mono ?_; rw [HOO.out]; rintro e w3 ⟨u3, v3, rfl, rfl, hF3, -, hb3⟩))
    go_ret
    have hz2 := hB2.size
    exact ⟨_, rfl, hF3.mono hz2, belowStep hb3 hB2⟩
end Go.Proofs.Ytpcnbjfkobeibaa
