/- MemberAt and FirstNonIdentity at the program; FirstNonIdentity at the reference. Conditions: as each contract says. -/
import Derived.Test.YtpcnbjfkobeibaaAi
namespace Go.Proofs.Ytpcnbjfkobeibaa
open Go.RowKit Grp

set_option maxRecDepth 100000 in
set_option maxHeartbeats 4000000 in
theorem implAt (n : Int) (g c : Nat) (ls : List (List Int)) (k : Int) (w : World) (h : LOwn w g ls) (hl : ls.length ≤ 1048576) (hs : ShortL ls) :
    Calls Try.prog 61 #[.int .i64 n, .slice (some ⟨g, 0, none⟩) ls.length c, .int .i64 k] w (ReadsOpt (atQ n ls k) w) := by
  have hg0 := implGs (some ⟨g, 0, none⟩) c n ls w h.at_ hl hs
  cases hgs : gsQ n ls with
  | false =>
    rw [atQ_no hgs]
    rw [hgs] at hg0
    have HG0 := Lib.hid hg0
    clear hg0 hgs hs
    go_enter Try.func61, Try.ntmps61
    go_wp2_with (first | (go_at_call 73; refine HG0.out.mono ?_; rintro e w1 ⟨rfl, hB1⟩))
    exact bodyPost_ret (v := .tuple #[.slice none 0 0, .bool false]) (by simp [results, Try.results61, go_sem]) rfl ⟨_, rfl, Fresh.nil _ _, hB1⟩
  | true =>
    rw [hgs] at hg0
    obtain ⟨N, ps, rfl, h0, hN, rfl, h8, hP⟩ := gsOpen hgs
    rw [atQ_yes hgs]
    have hm : (ps.map natI).length = ps.length := List.length_map ..
    rw [hm] at hg0
    rw [hm]
    obtain ⟨o, ho⟩ : ∃ o, atO N (gT N ps) k = o := ⟨_, rfl⟩
    rw [ho]
    have HO := Lib.hid ho
    have HG0 := Lib.hid hg0
    have HL := Lib.hid h
    have HP := Lib.hid hP
    clear hg0 hgs hs h hP hm ho hl
    go_enter Try.func61, Try.ntmps61
    go_wp2_with (first
      | (go_at_call 73; refine HG0.out.mono ?_; rintro e w1 ⟨rfl, hB1⟩)
      | (go_at_call 76; refine (newI N ps g ps.length c _ (by exact HL.out.below hB1) rfl HP.out h0 hN h8).mono ?_; rintro e w2 ⟨C, T, rfl, hC, hc, hone, hb2⟩
          ; have HC := Lib.hid hC; have HCH := Lib.hid hc; have hB2 := belowStep hb2 hB1; clear hC hc hone hb2
          ; have HOO : Hid (atO N T k = o) := (by unfold Hid; rw [atO_eq HCH.out (gT_chain HP.out), HO.out]))
      | (go_at_call 78; refine (implChainAt C N T k _ HC.out HCH.out hN h0).mono ?_; rw [HOO.out]; rintro e w3 ⟨v3, rfl, hF3, hb3⟩))
    have hB3 := belowStep hb3 hB2
    have hz2 := hB2.size
    exact bodyPost_ret (v := .tuple #[v3, .bool o.isSome]) (by simp [results, Try.results61, go_sem]) rfl ⟨_, rfl, hF3.mono hz2, hB3⟩
noncomputable def fstQ (n : Int) (ls : List (List Int)) : Option (List Nat) := atQ n ls 1
theorem fstQ_len (n : Int) (ls : List (List Int)) : ((fstQ n ls).getD []).length ≤ 20 := atQ_len n ls 1
set_option maxRecDepth 100000 in
set_option maxHeartbeats 1000000 in
theorem implFst (n : Int) (g c : Nat) (ls : List (List Int)) (w : World) (h : LOwn w g ls) (hl : ls.length ≤ 1048576) (hs : ShortL ls) :
    Calls Try.prog 63 #[.int .i64 n, .slice (some ⟨g, 0, none⟩) ls.length c] w (ReadsOpt (fstQ n ls) w) := by
  have HC := Lib.hid (implAt n g c ls 1 w h hl hs)
  unfold fstQ
  obtain ⟨o, ho⟩ : ∃ o, atQ n ls 1 = o := ⟨_, rfl⟩
  rw [ho] at HC
  rw [ho]
  clear ho hs h
  go_enter Try.func63, Try.ntmps63
  go_wp2_with (first | (go_at_call 61; refine HC.out.mono ?_; rintro e w3 ⟨v3, rfl, hF3, hb3⟩))
  exact bodyPost_ret (v := .tuple #[v3, .bool o.isSome]) (by simp [results, Try.results63, go_sem]) rfl ⟨_, rfl, hF3, hb3⟩
set_option maxRecDepth 100000 in
set_option maxHeartbeats 1000000 in
theorem specFst (n : Int) (g c : Nat) (ls : List (List Int)) (w : World) (h : LOwn w g ls) (hl : ls.length ≤ 1048576) (hs : ShortL ls) :
    Calls Try.prog 62 #[.int .i64 n, .slice (some ⟨g, 0, none⟩) ls.length c] w (ReadsOpt (fstQ n ls) w) := by
  have hg0 := specGs (some ⟨g, 0, none⟩) c n ls w h.at_ hl hs
  unfold fstQ
  cases hgs : gsQ n ls with
  | false =>
    rw [atQ_no hgs]
    rw [hgs] at hg0
    have HG0 := Lib.hid hg0
    clear hg0 hgs hs
    go_enter Try.func62, Try.ntmps62
    go_wp2_with (first | (go_at_call 53; refine HG0.out.mono ?_; rintro e w1 ⟨rfl, n1, rfl⟩))
    exact bodyPost_ret (v := .tuple #[.slice (some ⟨w.heap.size, 0, none⟩) 0 0, .bool false]) (by simp [results, Try.results62, go_sem]) rfl ⟨_, rfl, Fresh.empty (Nat.le_refl _), (belowDrewN (Below.refl _ _) _).alloc (Nat.le_refl _) _⟩
  | true =>
    rw [hgs] at hg0
    have HG0 := Lib.hid hg0
    have HCC := Lib.hid (fun wx (hb : Below w.heap.size w wx) => specAt n g c ls 1 wx (h.below hb) hl hs)
    obtain ⟨o, ho⟩ : ∃ o, atQ n ls 1 = o := ⟨_, rfl⟩
    rw [ho] at HCC
    rw [ho]
    clear hg0 hgs hs ho h
    go_enter Try.func62, Try.ntmps62
    go_wp2_with (first
      | (go_at_call 53; refine HG0.out.mono ?_; rintro e w1 ⟨rfl, n1, rfl⟩)
      | (go_at_call 60; refine (HCC.out _ (by exact belowDrewN (Below.refl _ _) _)).mono ?_; rintro e w3 ⟨v3, rfl, hF3, hb3⟩))
    exact bodyPost_ret (v := .tuple #[v3, .bool o.isSome]) (by simp [results, Try.results62, go_sem]) rfl ⟨_, rfl, hF3, belowStep hb3 (belowDrewN (Below.refl _ _) _)⟩
end Go.Proofs.Ytpcnbjfkobeibaa
