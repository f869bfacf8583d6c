/- Orders of stabilizers of the first points, and whether two lists generate one group, at the program; orbit sizes and orders at the reference. Conditions: as each contract says. -/
import Derived.Test.YtpcnbjfkobeibaaSg
import Derived.Test.YtpcnbjfkobeibaaLt
import Derived.Test.YtpcnbjfkobeibaaSo
import Derived.Deep.RegionHeld3
namespace Go.Proofs.Ytpcnbjfkobeibaa
open Go.RowKit Grp

set_option maxRecDepth 100000 in
set_option maxHeartbeats 4000000 in
theorem specSizesG (N g c : Nat) (ps : List (List Nat)) (w : World) (h : LOwn w g (ps.map natI)) (hs : ShortL (ps.map natI)) (hgs : gsQ (N : Int) (ps.map natI) = true) (h0 : 0 < N) (hN : N ≤ 20) (h8 : ps.length ≤ 8) (hP : ∀ q, q ∈ ps → IsP N q) :
    Calls Try.prog 54 #[.int .i64 (N : Int), .slice (some ⟨g, 0, none⟩) ps.length c] w (CompPost (szTo N (gT N ps) N) w) := by
  have hg0 := specGs (some ⟨g, 0, none⟩) c (N : Int) (ps.map natI) w h.at_ (by rw [List.length_map]; omega) hs
  rw [hgs, List.length_map] at hg0
  have HG0 := Lib.hid hg0
  have HL := Lib.hid h
  have HP := Lib.hid hP
  clear hg0 h hs hgs hP
  go_enter Try.func54, Try.ntmps54
  go_wp2_with fail
  refine HG0.out.mono ?_
  rintro e w1 ⟨rfl, n1, rfl⟩
  have hb1 := belowDrewN (Below.refl w.heap.size w) n1
  go_wp2_with fail
  refine (newS N ps g ps.length c _ (HL.out.below hb1) rfl HP.out h0 hN h8).mono ?_
  rintro e w2 ⟨C, T, rfl, hC, hc, hone, hb2⟩
  have hB2 := belowStep hb2 hb1
  have he : szTo N T N = szTo N (gT N ps) N := by
    unfold szTo
    exact List.map_congr_left fun i hi => by rw [orb_eq hc (gT_chain HP.out) (List.mem_range.1 hi)]
  have hcall := specSizes C N T w2 hC hN
  rw [he] at hcall
  have HCALL := Lib.hid hcall
  clear hcall he hC hc hone
  go_wp2_with fail
  refine HCALL.out.mono ?_
  rintro e w3 ⟨v3, rfl, hF3, hb3⟩
  go_wp2_with fail
  go_ret
  exact ⟨_, rfl, hF3.mono hB2.size, belowStep hb3 hB2⟩
set_option maxRecDepth 100000 in
set_option maxHeartbeats 4000000 in
theorem specOrderG (N g c : Nat) (ps : List (List Nat)) (w : World) (h : LOwn w g (ps.map natI)) (hs : ShortL (ps.map natI)) (hgs : gsQ (N : Int) (ps.map natI) = true) (h0 : 0 < N) (hN : N ≤ 20) (h8 : ps.length ≤ 8) (hP : ∀ q, q ∈ ps → IsP N q) :
    Calls Try.prog 55 #[.int .i64 (N : Int), .slice (some ⟨g, 0, none⟩) ps.length c] w (ReadsNat (ordG N (gT N ps) 0) w) := by
  have hg0 := specGs (some ⟨g, 0, none⟩) c (N : Int) (ps.map natI) w h.at_ (by rw [List.length_map]; omega) hs
  rw [hgs, List.length_map] at hg0
  have HG0 := Lib.hid hg0
  have HL := Lib.hid h
  have HP := Lib.hid hP
  clear hg0 h hs hgs hP
  go_enter Try.func55, Try.ntmps55
  go_wp2_with fail
  refine HG0.out.mono ?_
  rintro e w1 ⟨rfl, n1, rfl⟩
  have hb1 := belowDrewN (Below.refl w.heap.size w) n1
  go_wp2_with fail
  refine (newS N ps g ps.length c _ (HL.out.below hb1) rfl HP.out h0 hN h8).mono ?_
  rintro e w2 ⟨C, T, rfl, hC, hc, hone, hb2⟩
  have hB2 := belowStep hb2 hb1
  have hcall := specOrder C N T w2 hC hc hN
  rw [ordG_eq hc (gT_chain HP.out) (Nat.zero_le _)] at hcall
  have HCALL := Lib.hid hcall
  clear hcall hC hc hone
  go_wp2_with fail
  refine HCALL.out.mono ?_
  rintro e w3 ⟨rfl, hb3⟩
  go_wp2_with fail
  go_ret
  exact ⟨rfl, belowStep hb3 hB2⟩
set_option maxRecDepth 3000 in
set_option maxHeartbeats 1000000 in
theorem implConj (A B : Option Addr) (c d n : Nat) (p q : List Nat) (w : World) (hx : IntsAt w A (natI p)) (hy : IntsAt w B (natI q)) (hp : IsP n p) (hq : IsP n q) (hn : n ≤ 20) :
    Calls Try.prog 112 #[.slice A n c, .slice B n d] w (CompPost (comp (comp (inv q) p) q) w) := by
  have HX := Lib.hid hx
  have HY := Lib.hid hy
  have HPP := Lib.hid hp
  have HQ := Lib.hid hq
  clear hx hy hp hq
  go_enter Try.func112, Try.ntmps112
  go_wp2_with fail
  refine (implInverse B d n q _ HY.out HQ.out (by omega)).mono ?_
  rintro e w1 ⟨v1, rfl, hF1, hb1⟩
  obtain ⟨A1, c1, rfl, hI1, -⟩ := hF1.ints
  rw [natI_len, HQ.out.inv.len]
  have HI1 := Lib.hid hI1
  clear hF1 hI1
  go_wp2_with fail
  refine (implCompose A1 A c1 c n (inv q) p _ HI1.out (HX.out.below hb1) HQ.out.inv.len HPP.out.len (by omega) (fun i hi => HQ.out.inv_lt hi)).mono ?_
  rintro e w2 ⟨v2, rfl, hF2, hb2⟩
  obtain ⟨A2, c2, rfl, hI2, -⟩ := hF2.ints
  rw [natI_len, comp_len, HQ.out.inv.len]
  have HI2 := Lib.hid hI2
  have hB2 := belowStep hb2 hb1
  clear hF2 hI2
  go_wp2_with fail
  refine (implCompose A2 B c2 d n (comp (inv q) p) q _ HI2.out (HY.out.below hB2) (by rw [comp_len, HQ.out.inv.len]) HQ.out.len (by omega) (fun i hi => (HQ.out.inv.comp HPP.out).lt hi)).mono ?_
  rintro e w3 ⟨v3, rfl, hF3, hb3⟩
  go_wp2_with fail
  go_ret
  exact ⟨_, rfl, hF3.mono hB2.size, belowStep hb3 hB2⟩
set_option maxRecDepth 3000 in
set_option maxHeartbeats 1000000 in
theorem implPoint (n x : Nat) (w : World) (h : x < n) (hn : n ≤ 20) : Calls Try.prog 111 #[.int .i64 (n : Int), .int .i64 (x : Int)] w fun e w' => e = .returned (.bool true) ∧ w = w' := by
  have hin : inR (x : Int) 0 ((n : Int) - 1) = true := inR_iff.2 (by omega)
  have hc := within_any (x : Int) 0 ((n : Int) - 1) w
  rw [hin] at hc
  have HC := Lib.hid hc
  have hw : IntKind.i64.wrap ((n : Int) - 1) = (n : Int) - 1 := IntWalk.i64_in _ (by omega)
  clear hc hin
  go_enter Try.func111, Try.ntmps111
  go_wp2_with fail
  refine HC.out.mono ?_
  rintro e w1 ⟨rfl, rfl⟩
  go_wp2_with fail
  go_ret
  exact ⟨rfl, rfl⟩
theorem conj_idp {n : Nat} {p : List Nat} (hp : IsP n p) : comp (comp (inv (idp n)) p) (idp n) = p := by
  have h1 : inv (idp n) = idp n := by
    have := comp_inv (IsP.idp (n := n))
    rwa [idp_comp (IsP.idp (n := n)).inv] at this
  rw [h1, idp_comp hp, comp_idp hp]
theorem FrL.permsAt {base : Nat} {w : World} {v : Value} {l : List (List Nat)} {V : Nat → Value} {B : Nat → Nat} {n : Nat} (h : FrL base w v l V B) (hP : ∀ q, q ∈ l → IsP n q) (hn : 0 < n) : ∃ A c, v = .slice A l.length c ∧ PermsAt w A n l := by
  obtain ⟨A, c, e, h1⟩ := h.shape
  refine ⟨A, c, e, fun i hi => ?_⟩
  obtain ⟨g, e2, -, h3, h4⟩ := h1 i hi
  exact ⟨g, 0, V i, e2, h3, by rw [Nat.zero_add]; exact h4, (h.elt i hi).perm (hP _ (getD_mem hi)).len hn (fun _ _ _ => trivial)⟩
theorem FLs.permsAt {lo hi : Nat} {w : World} {A : Option Addr} {c m n : Nat} {l : List (List Nat)} (h : FLs lo hi w (.slice A m c) (l.map natI)) (hP : ∀ q, q ∈ l → IsP n q) (hn : 0 < n) : PermsAt w A n l := by
  obtain ⟨A', c', V, B, e, h2, -⟩ := h
  injection e with e1
  subst e1
  intro i hi
  obtain ⟨g, e2, h3, h4, -⟩ := h2.row i (by rw [List.length_map]; exact hi)
  have h5 := h2.own i (by rw [List.length_map]; exact hi)
  have e3 : (l.map natI).getD i [] = natI (l.getD i []) := by
    rw [List.getD_eq_getElem?_getD, List.getElem?_map, List.getD_eq_getElem?_getD, List.getElem?_eq_getElem hi]
    rfl
  rw [e3] at h5
  exact ⟨g, 0, V i, e2, h3, by rw [Nat.zero_add]; exact h4, h5.perm (hP _ (getD_mem hi)).len hn (fun _ _ _ => trivial)⟩
/-- A chain of generators that lie anywhere. -/
theorem newA (N : Nat) (ps : List (List Nat)) (A : Option Addr) (m c : Nat) (w : World) (h : PermsAt w A N ps) (hm : ps.length = m) (hP : ∀ p, p ∈ ps → IsP N p) (h0 : 0 < N) (hN : N ≤ 20) (h8 : ps.length ≤ 1000) :
    Calls Try.prog 76 #[.int .i64 (N : Int), .slice A m c] w (NewI N ps w) := by
  subst hm
  refine (implNew N _ c ps w h hP h0 hN h8).mono ?_
  rintro e w' ⟨C, s, T, Gs, h1, h2, h3, h4, h5, h6⟩
  exact ⟨C, T, h1, ⟨_, s, Gs, h2, h3⟩, h4.gen h5, fun j hj => h4.one j (Nat.zero_le _) hj, h6⟩
set_option maxRecDepth 100000 in
set_option maxHeartbeats 4000000 in
theorem implHasAll (C N : Nat) (T : Tab) (A : Option Addr) (m c : Nat) (l : List (List Nat)) (w : World) {G : List Nat → Prop} (hC : CI w C N T) (hc : Chain N T 0 G) (h : PermsAt w A N l) (hm : l.length = m) (hP : ∀ q, q ∈ l → IsP N q) (hG : ∀ q, q ∈ l → G q) (h0 : 0 < N) (hN : N ≤ 20) (hm2 : m ≤ 1048576) :
    Calls Try.prog 114 #[.pointer (some ⟨C, 0, none⟩), .slice A m c] w (ReadsBool true w) := by
  have HC := Lib.hid hC
  have HCH := Lib.hid hc
  have HL := Lib.hid h
  have HM := Lib.hid hm
  have HP := Lib.hid hP
  have HG := Lib.hid hG
  clear hC hc h hm hP hG
  go_enter Try.func114, Try.ntmps114
  go_wp2_with fail
  go_loopw [9] (fun z wr => ∃ (k : Nat), k ≤ m ∧ z = .int .i64 (k : Int) ∧ Below w.heap.size w wr) (fun z _ => m - (intOf z).toNat)
  case atStart => exact ⟨0, Nat.zero_le _, rfl, Below.refl _ _⟩
  case round =>
    obtain ⟨k, hk, rfl, hB⟩ := hrel
    by_cases hlt : k < m
    · obtain ⟨b, off, u, rfl, hbl, hc0, hpv⟩ := (HL.out.below hB) k (by rw [HM.out]; exact hlt)
      have hmem : l.getD k [] ∈ l := getD_mem (by rw [HM.out]; exact hlt)
      obtain ⟨gq, cq, rfl, -, -⟩ := hpv.ints
      have HCALL := Lib.hid (implIn C N T (.slice (some ⟨gq, 0, none⟩) N cq) (l.getD k []) wr (HC.out.below hB) HCH.out hpv (HP.out _ hmem) h0 hN (b := true) ⟨fun _ => HG.out _ hmem, fun _ => rfl⟩)
      have p0 : (0 : Int) ≤ (k : Int) := by omega
      have p1 : (k : Int) < (m : Int) := by omega
      clear hpv hmem
      go_wp2_with fail
      refine HCALL.out.mono ?_
      rintro e w1 ⟨rfl, hb1⟩
      go_wp2_with fail
      go_roundw
      case rel => exact ⟨k + 1, by omega, by go_num, belowStep hb1 hB⟩
      case measure => simp [intOf]; omega
    · obtain rfl : k = m := by omega
      go_wp2_with fail
      go_ret
      exact ⟨rfl, hB⟩
theorem gsQ_perms {N : Nat} {l : List (List Nat)} (hP : ∀ q, q ∈ l → IsP N q) (h0 : 0 < N) (hN : N ≤ 20) (h8 : l.length ≤ 8) : gsQ (N : Int) (l.map natI) = true := by
  rw [gsQ_any (inR_iff.2 (by omega)) (by rw [List.length_map]; exact h8)]
  simp only [Bool.not_eq_true', List.any_eq_false, List.mem_map]
  rintro x ⟨p, hp, rfl⟩
  have hip := hP p hp
  rw [badL_perm (by rw [natI_len, hip.len]), permQ_of hip h0 hN]
  simp
set_option maxRecDepth 100000 in
set_option maxHeartbeats 4000000 in
theorem implSame (N g c : Nat) (ps : List (List Nat)) (A : Option Addr) (m c' : Nat) (l : List (List Nat)) (w : World) (h : LOwn w g (ps.map natI)) (hs : ShortL (ps.map natI)) (hgs : gsQ (N : Int) (ps.map natI) = true) (h0 : 0 < N) (hN : N ≤ 20) (h8 : ps.length ≤ 8) (hP : ∀ q, q ∈ ps → IsP N q)
    (hA : LAt w A (l.map natI)) (hA2 : PermsAt w A N l) (hm : l.length = m) (hl8 : m ≤ 8) (hPl : ∀ q, q ∈ l → IsP N q) (hG : ∀ q, q ∈ l → GenL N ps q) (hord : ordG N (gT N l) 0 = ordG N (gT N ps) 0) :
    Calls Try.prog 57 #[.int .i64 (N : Int), .slice (some ⟨g, 0, none⟩) ps.length c, .slice A m c'] w (ReadsBool true w) := by
  have hg0 := implGs (some ⟨g, 0, none⟩) c (N : Int) (ps.map natI) w h.at_ (by rw [List.length_map]; omega) hs
  rw [hgs, List.length_map] at hg0
  have hsl : ShortL (l.map natI) := fun i hi => by
    rw [List.length_map] at hi
    have e3 : (l.map natI).getD i [] = natI (l.getD i []) := by
      rw [List.getD_eq_getElem?_getD, List.getElem?_map, List.getD_eq_getElem?_getD, List.getElem?_eq_getElem hi]
      rfl
    rw [e3, natI_len, (hPl _ (getD_mem hi)).len]
    omega
  have hg1 := fun (wx : World) (hx : LAt wx A (l.map natI)) => implGs A c' (N : Int) (l.map natI) wx hx (by rw [List.length_map]; omega) hsl
  rw [gsQ_perms hPl h0 hN (by omega), List.length_map, hm] at hg1
  have HG0 := Lib.hid hg0
  have HG1 := Lib.hid hg1
  have HL := Lib.hid h
  have HP := Lib.hid hP
  have HA := Lib.hid hA
  have HA2 := Lib.hid hA2
  have HM := Lib.hid hm
  have HPL := Lib.hid hPl
  have HG := Lib.hid hG
  have HO := Lib.hid hord
  clear hg0 hg1 h hs hgs hP hA hA2 hm hPl hG hord hsl
  go_enter Try.func57, Try.ntmps57
  go_wp2_with fail
  refine HG0.out.mono ?_
  rintro e w1 ⟨rfl, hb1⟩
  go_wp2_with fail
  refine (HG1.out _ (HA.out.below hb1)).mono ?_
  rintro e w2 ⟨rfl, hb2⟩
  have hB2 := belowStep hb2 hb1
  go_wp2_with fail
  refine (newI N ps g ps.length c _ (HL.out.below hB2) rfl HP.out h0 hN h8).mono ?_
  rintro e w3 ⟨C, T, rfl, hC, hc, -, hb3⟩
  have HC := Lib.hid hC
  have HCH := Lib.hid hc
  have hB3 := belowStep hb3 hB2
  clear hC hc
  go_wp2_with fail
  refine (newA N l A m c' _ (HA2.out.below hB3) HM.out HPL.out h0 hN (by rw [HM.out]; omega)).mono ?_
  rintro e w4 ⟨C4, T4, rfl, hC4, hc4, -, hb4⟩
  have HC4 := Lib.hid hC4
  have HCH4 := Lib.hid hc4
  have hB4 := belowStep hb4 hB3
  have HC := Lib.hid (HC.out.below hb4)
  clear hC4 hc4
  have ho1 := implOrder C N 0 T w4 HC.out HCH.out (Nat.zero_le _) hN
  rw [ordG_eq HCH.out (gT_chain HP.out) (Nat.zero_le _)] at ho1
  have HO1 : Hid (Calls Try.prog 113 #[.pointer (some ⟨C, 0, none⟩), .int .i64 0] w4 (ReadsNat (ordG N (gT N ps) 0) w4)) := ho1
  clear ho1
  go_wp2_with fail
  refine HO1.out.mono ?_
  rintro e w5 ⟨rfl, hb5⟩
  have hB5 := belowStep hb5 hB4
  have HC4 := Lib.hid (HC4.out.below hb5)
  have HC := Lib.hid (HC.out.below hb5)
  have ho2 := implOrder C4 N 0 T4 w5 HC4.out HCH4.out (Nat.zero_le _) hN
  rw [ordG_eq HCH4.out (gT_chain HPL.out) (Nat.zero_le _), HO.out] at ho2
  have HO2 : Hid (Calls Try.prog 113 #[.pointer (some ⟨C4, 0, none⟩), .int .i64 0] w5 (ReadsNat (ordG N (gT N ps) 0) w5)) := ho2
  clear ho2
  obtain ⟨o, ho⟩ : ∃ o, ordG N (gT N ps) 0 = o := ⟨_, rfl⟩
  rw [ho] at HO2 ⊢
  have hoo : ((o : Int) == (o : Int)) = true := by simp
  go_wp2_with fail
  refine HO2.out.mono ?_
  rintro e w6 ⟨rfl, hb6⟩
  have hB6 := belowStep hb6 hB5
  have HHA := Lib.hid (implHasAll C N T A m c' l w6 (HC.out.below hb6) HCH.out (HA2.out.below hB6) HM.out HPL.out HG.out h0 hN (by omega))
  go_wp2_with fail
  refine HHA.out.mono ?_
  rintro e w7 ⟨rfl, hb7⟩
  go_wp2_with fail
  go_ret
  exact ⟨rfl, belowStep hb7 hB6⟩
end Go.Proofs.Ytpcnbjfkobeibaa
