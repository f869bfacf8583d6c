/- Groups, members and subgroups drawn from a source. Conditions: as each contract says. Subgroups drawn from a source, and the draws of the laws of groups. Conditions: as each contract says. The draws of the laws of groups, from a code. Conditions: as each contract says. -/
import Derived.Test.YtpcnbjfkobeibaaDb
namespace Go.Proofs.Ytpcnbjfkobeibaa
section
open Go.RowKit Grp

/-- A list of lists of numbers drawn beside the degree n, in blocks of the call's own. -/
def GL (B : Nat) (n : Int) (w : World) (v : Value) (ls : List (List Int)) : Prop :=
  (∃ N : Int, LsOk B N w v ls ∧ (n = N ∨ ∀ j, j < ls.length → (((ls.getD j []).length : Nat) : Int) = N)) ∧ ls.length ≤ 9 ∧ ∀ j, j < ls.length → (ls.getD j []).length ≤ 22
theorem GL.grown {B : Nat} {n : Int} {w w' : World} {v : Value} {ls : List (List Int)} {row : Option Nat} (h : GL B n w v ls) (hg : w.grownBy w' row) (hr : ∀ g, row = some g → g < B) : GL B n w' v ls := by
  obtain ⟨⟨N, h1, h2⟩, h3⟩ := h
  exact ⟨⟨N, h1.grown hg hr, h2⟩, h3⟩
theorem GL.below {B : Nat} {n : Int} {w w' : World} {v : Value} {ls : List (List Int)} (h : GL B n w v ls) (hb : Below w.heap.size w w') : GL B n w' v ls := h.grown (gB hb none) (fun g e => by cases e)
theorem LsOk.mono {B B' : Nat} {N : Int} {w : World} {v : Value} {ls : List (List Int)} (h : LsOk B N w v ls) (hB : B' ≤ B) : LsOk B' N w v ls := by
  obtain ⟨cs, h1, h2⟩ := h
  refine ⟨cs, ⟨h1.1, ?_⟩, fun j hj => ?_⟩
  · rcases h1.2 with hn | ⟨g, cap, cur, e, hb, rest⟩
    · exact .inl hn
    · exact .inr ⟨g, cap, cur, e, Nat.le_trans hB hb, rest⟩
  · obtain ⟨u, e, hu⟩ := h2 j hj
    exact ⟨u, e, hu.mono hB⟩
theorem GL.mono {B B' : Nat} {n : Int} {w : World} {v : Value} {ls : List (List Int)} (h : GL B n w v ls) (hB : B' ≤ B) : GL B' n w v ls := by
  obtain ⟨⟨N, h1, h2⟩, h3⟩ := h
  exact ⟨⟨N, h1.mono hB, h2⟩, h3⟩
theorem GL.short {B : Nat} {n : Int} {w : World} {v : Value} {ls : List (List Int)} (h : GL B n w v ls) : ShortL ls := fun i hi => by have := h.2.2 i hi; omega
theorem GL.may {B : Nat} {n : Int} {w : World} {gl c : Nat} {ls : List (List Int)} (h : GL B n w (.slice (some ⟨gl, 0, none⟩) ls.length c) ls) : LMay n w gl ls := by
  obtain ⟨⟨N, h1, h2⟩, h3⟩ := h
  obtain ⟨-, cs, hcs⟩ := h1.block (b := gl) rfl
  exact h1.may h2 (row_lt hcs)
/-- The length of a slice. -/
def sliceLen : Value → Nat
  | .slice _ n _ => n
  | _ => 0
theorem GL.mayN {B : Nat} {n : Int} {w : World} {gl c m : Nat} {ls : List (List Int)} (h : GL B n w (.slice (some ⟨gl, 0, none⟩) m c) ls) (hm : ls.length = m) : LMay n w gl ls := by
  subst hm
  exact h.may
def DrawnGroup (g : Nat) (A : Option Addr) (c : Nat) (xs : List Int) (w : World) (e : Ending) (w' : World) : Prop :=
  ∃ (n : Int) (gl cl : Nat) (ls : List (List Int)), e = .returned (.tuple #[.int .i64 n, .slice (some ⟨gl, 0, none⟩) ls.length cl]) ∧ GL w.heap.size n w' (.slice (some ⟨gl, 0, none⟩) ls.length cl) ls ∧ SrcAt w' g A c xs ∧ w.grownBy w' (some g)
theorem all_snoc {ls : List (List Int)} {ys : List Int} {P : List Int → Prop} (h : ∀ j, j < ls.length → P (ls.getD j [])) (hy : P ys) : ∀ j, j < (ls ++ [ys]).length → P ((ls ++ [ys]).getD j []) := fun j hj => by
  rw [List.length_append] at hj
  by_cases e : j < ls.length
  · rw [getDsnocI _ _ _ e]; exact h j e
  · rw [show j = ls.length from by simp at hj; omega, getDlastI]; exact hy
set_option maxRecDepth 100000 in
set_option maxHeartbeats 4000000 in
theorem srcGroup (g : Nat) (A : Option Addr) (c : Nat) (xs : List Int) (w : World) (hd : SrcAt w g A c xs) (hl : xs.length ≤ 4096) :
    Calls Try.prog 107 #[.pointer (some ⟨g, 0, none⟩)] w (DrawnGroup g A c xs w) := by
  have hlow := Lib.hid hd.low
  have hgw := hd.lt
  go_enter Try.func107, Try.ntmps107
  go_wp2_with fail
  refine (srcBetween g A c xs 2 5 _ hd hl (by omega) (by omega) (by omega) (by omega)).mono ?_
  rintro e w1 ⟨y, rfl, y0, y1, hd1, hg1⟩
  obtain ⟨n1, rfl⟩ := Int.eq_ofNat_of_zero_le (show 0 ≤ y by omega)
  clear hd
  go_wp2_with fail
  refine (srcOneIn g A c xs 6 _ hd1 hl (by omega) (by omega)).mono ?_
  rintro e w2 ⟨b2, rfl, hd2, hg2⟩
  have hg2 := grownTrans hg1 hg2
  clear hd1 hg1
  go_upto_if 9 with fail
  go_cut [4] from 10 to 11 (fun v wx => ∃ n : Nat, v = .int .i64 (n : Int) ∧ 0 < n ∧ n ≤ 7 ∧ SrcAt wx g A c xs ∧ w.grownBy wx (some g))
  case first =>
    cases b2
    · go_wp2_with fail
      go_meet
      exact ⟨n1, rfl, by omega, by omega, hd2, hg2⟩
    · go_wp2_with fail
      refine (srcBetween g A c xs 1 7 _ hd2 hl (by omega) (by omega) (by omega) (by omega)).mono ?_
      rintro e w3 ⟨y, rfl, y0, y1, hd3, hg3⟩
      obtain ⟨n2, rfl⟩ := Int.eq_ofNat_of_zero_le (show 0 ≤ y by omega)
      have hg3 := grownTrans hg2 hg3
      go_wp2_with fail
      go_meet
      exact ⟨n2, rfl, by omega, by omega, hd3, hg3⟩
  case rest =>
  clear hd2 hg2 y0 y1
  obtain ⟨n, rfl, h0, h7, hd3, hg3⟩ := hcut
  go_wp2_with fail
  refine (srcGens g A c xs n _ hd3 hl h0 (by omega)).mono ?_
  rintro e w4 ⟨gl, cl, ls, rfl, hL4, hl3, hal, hd4, hg4⟩
  have hz3 : w.heap.size ≤ wc.heap.size := hg3.size
  have HL4 := Lib.hid (hL4.mono hz3)
  have HAL := Lib.hid hal
  have hg4 := grownTrans hg3 hg4
  clear hL4 hal hd3 hg3
  obtain ⟨m, hm⟩ : ∃ m, ls.length = m := ⟨_, rfl⟩
  rw [hm] at HL4 hl3 ⊢
  have HM := Lib.hid hm
  clear hm
  go_wp2_with fail
  refine (srcOneIn g A c xs 20 _ hd4 hl (by omega) (by omega)).mono ?_
  rintro e w5 ⟨b5, rfl, hd5, hg5⟩
  have HL5 := Lib.hid (HL4.out.grown hg5 (fun g' e => by injection e with e; omega))
  have hg5 := grownTrans hg4 hg5
  have hz5 : w.heap.size ≤ w5.heap.size := hg5.size
  clear HL4 hd4 hg4 hz3
  go_upto_if 16 with fail
  go_cut [4, 5] from 17 to 46 (fun nv v wx => ∃ (n' : Int) (gl' cl' m' : Nat) (ls' : List (List Int)), nv = .int .i64 n' ∧ v = .slice (some ⟨gl', 0, none⟩) m' cl' ∧ Hid (ls'.length = m') ∧ Hid (GL w.heap.size n' wx (.slice (some ⟨gl', 0, none⟩) m' cl') ls') ∧ SrcAt wx g A c xs ∧ w.grownBy wx (some g))
  case first =>
    cases b5
    · go_wp2_with fail
      go_meet
      exact ⟨(n : Int), gl, cl, m, ls, rfl, rfl, HM, ⟨⟨(n : Int), HL5.out, .inl rfl⟩, by rw [HM.out]; omega, fun j hj => by rw [HAL.out j hj]; omega⟩, hd5, hg5⟩
    · go_wp2_with fail
      refine (srcBelow g A c xs 4 _ hd5 hl (by omega) (by omega)).mono ?_
      rintro e w6 ⟨y, rfl, y0, y1, hd6, hg6⟩
      have HL6 := Lib.hid (HL5.out.grown hg6 (fun g' e => by injection e with e; omega))
      have hg6 := grownTrans hg5 hg6
      have hz6 : w.heap.size ≤ w6.heap.size := hg6.size
      clear HL5 hd5 hg5 hz5
      by_cases hy0 : y = 0
      · subst hy0
        go_wp2_with fail
        refine (srcUpTo g A c xs 20 _ hd6 hl (by omega) (by omega)).mono ?_
        rintro e w7 ⟨z, rfl, hd7, hg7⟩
        have HL7 := Lib.hid (HL6.out.grown hg7 (fun g' e => by injection e with e; omega))
        have hg7 := grownTrans hg6 hg7
        go_wp2_with fail
        go_meet
        exact ⟨z, gl, cl, m, ls, rfl, rfl, HM, ⟨⟨(n : Int), HL7.out, .inr fun j hj => by rw [HAL.out j hj]⟩, by rw [HM.out]; omega, fun j hj => by rw [HAL.out j hj]; omega⟩, hd7, hg7⟩
      · have hy0' : (y == 0) = false := by simpa using hy0
        by_cases hy1 : y = 1
        · subst hy1
          go_wp2_with fail
          refine (srcAny g A c xs n _ hd6 hl h0 (by omega)).mono ?_
          rintro e w7 ⟨u, ys, rfl, hR7, hyl, hd7, hg7⟩
          have HL7 := Lib.hid (HL6.out.grown hg7 (fun g' e => by injection e with e; omega))
          have hg7 := grownTrans hg6 hg7
          have hz7 : w.heap.size ≤ w7.heap.size := hg7.size
          have HR7 := Lib.hid (hR7.mono hz6)
          obtain ⟨⟨Au, cu, rfl, -⟩, -⟩ := hR7
          have hml : ls.length ≤ 1048576 := by rw [HM.out]; omega
          clear HL6 hd6 hg6
          go_wp2_with (first | (at_builtin; refine append_rw rfl (.tmp 25) (.tmp 29) rfl w.heap.size (n : Int) _ ls ys (.slice Au ys.length cu) rfl (by exact HL7.out.below (by exact (by repeat (first | exact Below.refl _ _ | assumption | refine Below.setCell ?_ (by first | omega | (simp <;> omega)) _ | refine Below.alloc ?_ (by first | omega | (simp <;> omega)) _ | refine Below.drew ?_)))) w7.heap.size rfl (by simp) (by exact HR7.out.keep (KeepB.below (by exact (by repeat (first | exact Below.refl _ _ | assumption | refine Below.setCell ?_ (by first | omega | (simp <;> omega)) _ | refine Below.alloc ?_ (by first | omega | (simp <;> omega)) _ | refine Below.drew ?_))))) hml (by simp; omega) ?_; intro gl8 cl8 w8 hL8 hb8))
          have hB8 : Below w.heap.size w7 w8 := ((Below.refl _ _).alloc hz7 _).trans hb8
          rw [HM.out] at hL8 ⊢
          go_meet
          exact ⟨(n : Int), gl8, cl8, m + 1, ls ++ [ys], rfl, rfl, by unfold Hid; rw [List.length_append, HM.out]; rfl, ⟨⟨(n : Int), hL8, .inl rfl⟩, by rw [List.length_append, HM.out]; simp; omega, all_snoc (P := fun r => r.length ≤ 22) (fun j hj => by rw [HAL.out j hj]; omega) hyl⟩, hd7.keep hB8 hgw hlow.out, grownThen hg7 hB8⟩
        · have hy1' : (y == 1) = false := by simpa using hy1
          by_cases hy2 : y = 2
          · subst hy2
            go_wp2_with fail
            go_meet
            have hB8 : Below w.heap.size w6 (w6.alloc (.cells #[] 23)) := (Below.refl _ _).alloc hz6 _
            exact ⟨(n : Int), w6.heap.size, 0, 0, [], rfl, rfl, rfl, ⟨⟨(n : Int), LsOk.empty _ _ hz6, .inl rfl⟩, by simp, fun j hj => by simp at hj⟩, hd6.keep hB8 hgw hlow.out, grownThen hg6 hB8⟩
          · have hy3 : y = 3 := by omega
            subst hy3
            have HD6 := Lib.hid hd6
            have HG6 := Lib.hid hg6
            clear hd6 hg6 hy0 hy0' hy1 hy1' hy2
            go_wp2_with fail
            go_loopw [5] (fun v wr => ∃ (gl' cl' m' : Nat) (ls' : List (List Int)), v = .slice (some ⟨gl', 0, none⟩) m' cl' ∧ m' ≤ 9 ∧ Hid (ls'.length = m') ∧ Hid (LsOk w.heap.size (n : Int) wr (.slice (some ⟨gl', 0, none⟩) m' cl') ls') ∧ Hid (∀ j, j < ls'.length → (ls'.getD j []).length = n) ∧ Hid (SrcAt wr g A c xs) ∧ Hid (w.grownBy wr (some g))) (fun v _ => 9 - (sliceLen v))
            case atStart => exact ⟨gl, cl, m, ls, rfl, by omega, HM, HL6, HAL, HD6, HG6⟩
            case round =>
              obtain ⟨wo, rfl⟩ : ∃ wo : World, wo = wr := ⟨_, rfl⟩
              obtain ⟨gl', cl', m', ls', rfl, hm9, HM', HL', HAL', HD', HG'⟩ := hrel
              clear HL6 HD6 HG6
              go_wp2_with fail
              refine (srcBelow g A c xs 2 _ HD'.out hl (by omega) (by omega)).mono ?_
              rintro e w7 ⟨y, rfl, y0, y1, hd7, hg7⟩
              obtain ⟨b, rfl⟩ := Int.eq_ofNat_of_zero_le y0
              have HL7 := Lib.hid (HL'.out.grown hg7 (fun g' e => by injection e with e; omega))
              have HG7 := Lib.hid (grownTrans HG'.out hg7)
              have hz7 : w.heap.size ≤ w7.heap.size := HG7.out.size
              have hw8 : IntKind.i64.wrap (8 + (b : Int)) = 8 + (b : Int) := IntWalk.i64_in _ (by omega)
              clear hg7 HL' HG' HD'
              by_cases hlt : (m' : Int) < 8 + (b : Int)
              · go_wp2_with fail
                refine (specIdentity n _ (by omega)).mono ?_
                rintro e w8 ⟨v8, rfl, hF8, hb8⟩
                obtain ⟨gq, cq, rfl, hP8, -, -⟩ := hF8.fil (natI_idp_len n) h0
                have HL8 := Lib.hid (HL7.out.below hb8)
                have HR8 : Hid (RowOk w.heap.size (n : Int) w8 (.slice (some ⟨gq, 0, none⟩) n cq) (natI (idp n))) := (hP8.fresh.row _).mono hz7
                have hd8 := hd7.below hb8
                have hG8 := grownAfter HG7.out hb8
                have hz8 : w.heap.size ≤ w8.heap.size := hG8.size
                have hml : ls'.length ≤ 1048576 := by rw [HM'.out]; omega
                clear hF8 hP8 hb8 hd7 HL7 HG7
                go_wp2_with (first | (at_builtin; refine append_rw rfl (.tmp 42) (.tmp 45) rfl w.heap.size (n : Int) _ ls' (natI (idp n)) (.slice (some ⟨gq, 0, none⟩) n cq) rfl (by exact HL8.out.below (by exact (by repeat (first | exact Below.refl _ _ | assumption | refine Below.setCell ?_ (by first | omega | (simp <;> omega)) _ | refine Below.alloc ?_ (by first | omega | (simp <;> omega)) _ | refine Below.drew ?_)))) w8.heap.size rfl (by simp) (by exact HR8.out.keep (KeepB.below (by exact (by repeat (first | exact Below.refl _ _ | assumption | refine Below.setCell ?_ (by first | omega | (simp <;> omega)) _ | refine Below.alloc ?_ (by first | omega | (simp <;> omega)) _ | refine Below.drew ?_))))) hml (by simp; omega) ?_; intro gl9 cl9 w9 hL9 hb9))
                have hB9 : Below w.heap.size w8 w9 := ((Below.refl _ _).alloc hz8 _).trans hb9
                rw [HM'.out] at hL9 ⊢
                go_roundw
                case rel => exact ⟨gl9, cl9, m' + 1, ls' ++ [natI (idp n)], rfl, by omega, by unfold Hid; rw [List.length_append, HM'.out]; rfl, hL9, all_snoc (P := fun r => r.length = n) HAL'.out (natI_idp_len n), hd8.keep hB9 hgw hlow.out, grownThen hG8 hB9⟩
                case measure => simp [sliceLen]; omega
              · go_wp2_with fail
                go_meet
                exact ⟨(n : Int), gl', cl', m', ls', rfl, rfl, HM', ⟨⟨(n : Int), HL7.out, .inl rfl⟩, by rw [HM'.out]; omega, fun j hj => by rw [HAL'.out j hj]; omega⟩, hd7, HG7.out⟩
  case rest =>
    clear HL5 hd5 hg5 hz5
    obtain ⟨n', gl', cl', m', ls', rfl, rfl, HM', HL', hd', hg'⟩ := hcut
    go_wp2_with fail
    refine bodyPost_ret (v := .tuple #[.int .i64 n', .slice (some ⟨gl', 0, none⟩) m' cl']) (by simp [results, Try.results107, go_sem]) rfl ?_
    exact ⟨n', gl', cl', ls', by rw [HM'.out], by rw [HM'.out]; exact HL'.out, hd', hg'⟩
/-- A list of numbers drawn beside generators ls of degree n. -/
def MRow (B : Nat) (n : Int) (ls : List (List Int)) (w : World) (u : Value) (ys : List Int) : Prop := (∃ N : Int, RowOk B N w u ys ∧ (gsQ n ls = true → N = n)) ∧ ys.length ≤ 22
theorem MRow.keep {B : Nat} {n : Int} {ls : List (List Int)} {w w' : World} {u : Value} {ys : List Int} (h : MRow B n ls w u ys) (hk : KeepB B w w') : MRow B n ls w' u ys := by
  obtain ⟨⟨N, h1, h2⟩, h3⟩ := h
  exact ⟨⟨N, h1.keep hk, h2⟩, h3⟩
theorem MRow.mono {B B' : Nat} {n : Int} {ls : List (List Int)} {w : World} {u : Value} {ys : List Int} (h : MRow B n ls w u ys) (hB : B' ≤ B) : MRow B' n ls w u ys := by
  obtain ⟨⟨N, h1, h2⟩, h3⟩ := h
  exact ⟨⟨N, h1.mono hB, h2⟩, h3⟩
theorem MRow.shape {B : Nat} {n : Int} {ls : List (List Int)} {w : World} {u : Value} {ys : List Int} (h : MRow B n ls w u ys) : ∃ A c, u = .slice A ys.length c := by
  obtain ⟨⟨N, ⟨⟨A, c, e, -⟩, -⟩, -⟩, -⟩ := h
  exact ⟨A, c, e⟩
theorem MRow.may {B : Nat} {n : Int} {ls : List (List Int)} {w : World} {A : Option Addr} {c : Nat} {ys : List Int} (h : MRow B n ls w (.slice A ys.length c) ys) : IMay n ls w A c ys := by
  obtain ⟨⟨N, ⟨⟨A', c', e, hc, hI, -⟩, hF⟩, h2⟩, -⟩ := h
  injection e with e1 e2 e3
  subst e1 e3
  exact ⟨hI, hc, fun hg hl => (hF (by rw [h2 hg]; exact hl)).mono (Nat.zero_le _)⟩
theorem LAt.permD {w : World} {A : Option Addr} {ps : List (List Nat)} {N : Nat} (h : LAt w A (ps.map natI)) (hP : ∀ q, q ∈ ps → IsP N q) {k : Nat} (hk : k < ps.length) :
    ∃ b off Ai ci q, A = some ⟨b, off, none⟩ ∧ b < w.heap.size ∧ w.cell? ⟨b, off + k, none⟩ = some (.slice Ai N ci) ∧ IntsAt w Ai (natI q) ∧ IsP N q ∧ q ∈ ps ∧ N ≤ ci := by
  obtain ⟨b, off, Ai, ci, e, h1, h2, h3, h4⟩ := h k (by rw [List.length_map]; exact hk)
  have hm : ps.getD k [] ∈ ps := getD_mem hk
  have hp := hP _ hm
  rw [permMapI hk] at h2 h3 h4
  rw [natI_len, hp.len] at h2 h3
  exact ⟨b, off, Ai, ci, _, e, h1, h3, h4, hp, hm, h2⟩
def DrawnMember (n : Int) (ls : List (List Int)) (g : Nat) (A : Option Addr) (c : Nat) (xs : List Int) (w : World) (e : Ending) (w' : World) : Prop :=
  ∃ u ys, e = .returned u ∧ MRow w.heap.size n ls w' u ys ∧ SrcAt w' g A c xs ∧ w.grownBy w' (some g)
set_option maxRecDepth 100000 in
set_option maxHeartbeats 4000000 in
theorem srcMember (g : Nat) (A : Option Addr) (c : Nat) (xs : List Int) (n : Int) (gl cl m B : Nat) (ls : List (List Int)) (w : World) (hd : SrcAt w g A c xs) (hl : xs.length ≤ 4096) (hm : ls.length = m) (hL : GL B n w (.slice (some ⟨gl, 0, none⟩) m cl) ls) (hgB : g < B) :
    Calls Try.prog 100 #[.pointer (some ⟨g, 0, none⟩), .int .i64 n, .slice (some ⟨gl, 0, none⟩) m cl] w (DrawnMember n ls g A c xs w) := by
  subst hm
  have hlow := Lib.hid hd.low
  have hgw := hd.lt
  have hL9 : ls.length ≤ 1048576 := by have := hL.2.1; omega
  have HSH := Lib.hid hL.short
  have hm := hL.may
  have hg0 := specGs (some ⟨gl, 0, none⟩) cl n ls w hm.1 hL9 HSH.out
  have HL := Lib.hid hL
  cases hgs : gsQ n ls with
  | false =>
    rw [hgs] at hg0
    have HG0 := Lib.hid hg0
    have HGS := Lib.hid hgs
    clear hg0 hm hL hgs
    go_enter Try.func100, Try.ntmps100
    go_wp2_with fail
    refine HG0.out.mono ?_
    rintro e w1 ⟨rfl, n1, rfl⟩
    have hd1 : SrcAt (w.drewN n1) g A c xs := hd.below (belowDrewN (Below.refl _ _) _)
    have HCALL : Hid (∀ z : Int, 0 < z → z ≤ 7 → Calls Try.prog 138 #[.pointer (some ⟨g, 0, none⟩), .int .i64 z] (w.drewN n1) (DrawnRow z g A c xs (w.drewN n1))) := fun z z0 z7 => by
      obtain ⟨k, rfl⟩ := Int.eq_ofNat_of_zero_le (show 0 ≤ z by omega)
      exact srcAny g A c xs k (w.drewN n1) hd1 hl (by omega) (by omega)
    clear hd hd1
    go_wp2_with (first | (go_at_call 138; refine (HCALL.out _ (by omega) (by omega)).mono ?_; rintro e w2 ⟨u, ys, rfl, hR, hyl, hd2, hg2⟩))
    all_goals
      go_ret
      exact ⟨_, ys, rfl, ⟨⟨_, hR, fun e => by rw [HGS.out] at e; cases e⟩, hyl⟩, hd2, grownTrans (gB (belowDrewN (Below.refl _ _) n1) _) hg2⟩
  | true =>
    rw [hgs] at hg0
    have HGS := Lib.hid hgs
    obtain ⟨N, ps, rfl, h0, hN, rfl, h8, hP⟩ := gsOpen hgs
    have hlm : (ps.map natI).length = ps.length := List.length_map ..
    rw [hlm] at hg0 HL ⊢
    have HG0 := Lib.hid hg0
    have HP := Lib.hid hP
    clear hg0 hm hL hgs hL9 hP
    go_enter Try.func100, Try.ntmps100
    go_wp2_with fail
    refine HG0.out.mono ?_
    rintro e w1 ⟨rfl, n1, rfl⟩
    have hd1 : SrcAt (w.drewN n1) g A c xs := hd.below (belowDrewN (Below.refl _ _) _)
    have HL1 := Lib.hid (HL.out.below (belowDrewN (Below.refl _ _) n1))
    have hG1 : w.grownBy (w.drewN n1) (some g) := gB (belowDrewN (Below.refl _ _) _) _
    obtain ⟨w1, hw1⟩ : ∃ w1, w.drewN n1 = w1 := ⟨_, rfl⟩
    rw [hw1] at hd1 HL1 hG1 ⊢
    clear hw1 HL HG0 hd
    go_wp2_with fail
    refine (specIdentity N _ (by omega)).mono ?_
    rintro e w2 ⟨v2, rfl, hF2, hb2⟩
    obtain ⟨gp, cp, rfl, hP2, -, -⟩ := hF2.fil (natI_idp_len N) h0
    have hd2 := hd1.below hb2
    have HL2 := Lib.hid (HL1.out.below hb2)
    have hG2 := grownAfter hG1 hb2
    have HF2 : Hid (Fresh w.heap.size w2 (.slice (some ⟨gp, 0, none⟩) N cp) (natI (idp N))) := (hP2.fresh).mono hG1.size
    clear hd1 HL1 hF2 hb2 hP2 hG1
    go_wp2_with fail
    refine (srcBelow g A c xs 8 _ hd2 hl (by omega) (by omega)).mono ?_
    rintro e w3 ⟨y, rfl, y0, y1, hd3, hg3⟩
    obtain ⟨k0, rfl⟩ := Int.eq_ofNat_of_zero_le y0
    have HL3 := Lib.hid (HL2.out.grown hg3 (fun g' e => by injection e with e; omega))
    have HF3 := Lib.hid (HF2.out.keepB (KeepB.src hg3 hgw))
    have HG3 := Lib.hid (grownTrans hG2 hg3)
    have HD3 := Lib.hid hd3
    clear hd2 HL2 HF2 hG2 hg3 hd3
    go_wp2_with fail
    go_loopw [7, 8] (fun v q wr => ∃ (u : List Nat) (Ap : Option Addr) (cp k : Nat), v = .slice Ap N cp ∧ q = .int .i64 (k : Int) ∧ k ≤ 8 ∧ Hid (IsP N u) ∧ Hid (Fresh w.heap.size wr (.slice Ap N cp) (natI u)) ∧ Hid (GL B (N : Int) wr (.slice (some ⟨gl, 0, none⟩) ps.length cl) (ps.map natI)) ∧ Hid (SrcAt wr g A c xs) ∧ Hid (w.grownBy wr (some g))) (fun _ q _ => (intOf q).toNat)
    case atStart => exact ⟨idp N, _, cp, k0, rfl, rfl, by omega, IsP.idp, HF3, HL3, HD3, HG3⟩
    case round =>
      obtain ⟨wo, rfl⟩ : ∃ wo : World, wo = wr := ⟨_, rfl⟩
      obtain ⟨u, Ap, cp, k, rfl, rfl, hk8, HU, HF, HLo, HD, HG⟩ := hrel
      clear HL3 HF3 HG3 HD3
      by_cases hpos : 0 < k ∧ 0 < ps.length
      · obtain ⟨hk0, hp0⟩ := hpos
        have pk : (0 : Int) < (k : Int) := by omega
        have pl : (0 : Int) < (ps.length : Int) := by omega
        go_wp2_with fail
        refine (srcBelow g A c xs (ps.length : Int) _ HD.out hl (by omega) (by omega)).mono ?_
        rintro e w5 ⟨x, rfl, x0, x1, hd5, hg5⟩
        obtain ⟨j, rfl⟩ := Int.eq_ofNat_of_zero_le x0
        have hF5 := HF.out.keepB (KeepB.src hg5 hgw)
        have HL5 := Lib.hid (HLo.out.grown hg5 (fun g' e => by injection e with e; omega))
        have hG5 := grownTrans HG.out hg5
        have hz5 : w.heap.size ≤ w5.heap.size := hG5.size
        obtain ⟨bq, offq, Aq, cq, q, e1, hbq, hcq, hIq, hPq, -⟩ := (HL5.out.mayN hlm).1.permD HP.out (k := j) (by omega)
        injection e1 with e1
        injection e1 with e2 e3
        subst e2 e3
        rw [Nat.zero_add] at hcq
        obtain ⟨Ap', cp', e1, hIp, -⟩ := hF5.ints
        injection e1 with e2 e3 e4
        subst e2
        clear e3 e4
        have HCALL := Lib.hid (specCompose Ap Aq cp cq N u q w5 hIp hIq HU.out.len hPq.len (by omega) (fun i hi => HU.out.lt hi))
        have HPQ := Lib.hid hPq
        have hdj : (j : Int) < (ps.length : Int) := x1
        clear HF HLo HD HG hF5 hIq hIp hPq hg5
        go_wp2_with fail
        refine HCALL.out.mono ?_
        rintro e w6 ⟨v6, rfl, hF6, hb6⟩
        have hPn : IsP N (comp u q) := HU.out.comp HPQ.out
        obtain ⟨gp6, cp6, rfl, hP6, -, -⟩ := hF6.fil (by rw [natI_len]; exact hPn.len) h0
        have HF6 : Hid (Fresh w.heap.size w6 (.slice (some ⟨gp6, 0, none⟩) N cp6) (natI (comp u q))) := hP6.fresh.mono hz5
        have HL6 := Lib.hid (HL5.out.below hb6)
        have HD6 := Lib.hid (hd5.below hb6)
        have HG6 := Lib.hid (grownAfter hG5 hb6)
        clear hF6 hP6 hb6 hd5 hG5 HL5
        go_wp2_with fail
        go_roundw
        case rel => exact ⟨comp u q, _, cp6, k - 1, rfl, by rw [show ((k - 1 : Nat) : Int) = (k : Int) - 1 from by omega], by omega, hPn, HF6, HL6, HD6, HG6⟩
        case measure => simp [intOf]; omega
      · have hcase : ¬ (0 : Int) < (k : Int) ∨ ((0 : Int) < (k : Int) ∧ ps.length = 0) := by omega
        have HSR := HGS.out
        clear hpos
        rcases hcase with hk0 | ⟨hk0, hpz⟩
        all_goals
          try (have hpz' : ¬ (0 : Int) < (ps.length : Int) := by omega)
          go_wp2_with fail
          refine (srcOneIn g A c xs 3 _ HD.out hl (by omega) (by omega)).mono ?_
          rintro e w5 ⟨b5, rfl, hd5, hg5⟩
          have hF5 := HF.out.keepB (KeepB.src hg5 hgw)
          have hG5 := grownTrans HG.out hg5
          have hz5 : w.heap.size ≤ w5.heap.size := hG5.size
          clear HF HD HG hg5 HLo
          cases b5
          · go_wp2_with fail
            go_ret
            exact ⟨_, natI u, rfl, ⟨⟨(N : Int), hF5.row _, fun _ => rfl⟩, by rw [natI_len, HU.out.len]; omega⟩, hd5, hG5⟩
          · go_wp2_with fail
            refine (srcAny g A c xs N _ hd5 hl h0 (by omega)).mono ?_
            rintro e w6 ⟨u6, ys6, rfl, hR6, hyl6, hd6, hg6⟩
            go_wp2_with fail
            go_ret
            exact ⟨_, ys6, rfl, ⟨⟨(N : Int), hR6.mono hz5, fun _ => rfl⟩, hyl6⟩, hd6, grownTrans hG5 hg6⟩
end
section
open Go.RowKit Grp

theorem trX {w w1 w2 : World} {row : Option Nat} (h : w.grownBy w1 row) (h2 : w1.grownBy w2 row) : w.grownBy w2 row := grownTrans h h2
def DrawnSub (g : Nat) (A : Option Addr) (c : Nat) (xs : List Int) (w : World) (e : Ending) (w' : World) : Prop :=
  ∃ (n : Int) (ga ca : Nat) (la : List (List Int)) (gb cb : Nat) (lb : List (List Int)), e = .returned (.tuple #[.int .i64 n, .slice (some ⟨ga, 0, none⟩) la.length ca, .slice (some ⟨gb, 0, none⟩) lb.length cb]) ∧ GL w.heap.size n w' (.slice (some ⟨ga, 0, none⟩) la.length ca) la ∧ GL w.heap.size n w' (.slice (some ⟨gb, 0, none⟩) lb.length cb) lb ∧ (gsQ n lb = false → la = lb) ∧ SrcAt w' g A c xs ∧ w.grownBy w' (some g)
set_option maxRecDepth 100000 in
set_option maxHeartbeats 4000000 in
theorem srcSub (g : Nat) (A : Option Addr) (c : Nat) (xs : List Int) (w : World) (hd : SrcAt w g A c xs) (hl : xs.length ≤ 4096) :
    Calls Try.prog 99 #[.pointer (some ⟨g, 0, none⟩)] w (DrawnSub g A c xs w) := by
  have hlow := Lib.hid hd.low
  have hgw := hd.lt
  go_enter Try.func99, Try.ntmps99
  go_wp2_with fail
  refine (srcGroup g A c xs _ hd hl).mono ?_
  rintro e w1 ⟨n, gb, cb, lb, rfl, hL1, hd1, hG1⟩
  have HL1 := Lib.hid hL1
  have hl9 : lb.length ≤ 1048576 := by have := hL1.2.1; omega
  have hg0 := specGs (some ⟨gb, 0, none⟩) cb n lb w1 hL1.may.1 hl9 hL1.short
  clear hL1 hd
  cases hgs : gsQ n lb with
  | false =>
    rw [hgs] at hg0
    have HG0 := Lib.hid hg0
    clear hg0 hgs
    go_wp2_with fail
    refine HG0.out.mono ?_
    rintro e w2 ⟨rfl, n2, rfl⟩
    go_wp2_with fail
    refine bodyPost_ret (v := .tuple #[.int .i64 n, .slice (some ⟨gb, 0, none⟩) lb.length cb, .slice (some ⟨gb, 0, none⟩) lb.length cb]) (by simp [results, Try.results99, go_sem]) rfl ?_
    have hb := belowDrewN (Below.refl w1.heap.size w1) n2
    exact ⟨n, gb, cb, lb, gb, cb, lb, rfl, HL1.out.below hb, HL1.out.below hb, fun _ => rfl, hd1.below hb, grownAfter hG1 hb⟩
  | true =>
    rw [hgs] at hg0
    have HGS := Lib.hid hgs
    obtain ⟨N, ps, rfl, h0, hN, rfl, h8, hP⟩ := gsOpen hgs
    have hlm : (ps.map natI).length = ps.length := List.length_map ..
    rw [hlm] at hg0 HL1 ⊢
    have HG0 := Lib.hid hg0
    have HP := Lib.hid hP
    clear hg0 hgs hl9 hP
    go_wp2_with fail
    refine HG0.out.mono ?_
    rintro e w2 ⟨rfl, n2, rfl⟩
    have hb2 := belowDrewN (Below.refl w1.heap.size w1) n2
    have hd2 := hd1.below hb2
    have HL2 := Lib.hid (HL1.out.below hb2)
    have hG2 := grownAfter hG1 hb2
    obtain ⟨w2, hw2⟩ : ∃ w2, w1.drewN n2 = w2 := ⟨_, rfl⟩
    rw [hw2] at hd2 HL2 hG2 ⊢
    clear hw2 HL1 HG0 hb2 hd1 hG1
    have hz2 : w.heap.size ≤ w2.heap.size := hG2.size
    have HGW := Lib.hid hG2
    have hlow := Lib.hid hd2.low
    have hgw := hd2.lt
    have hb3 : Below w2.heap.size w2 (w2.alloc (.cells #[] 23)) := (Below.refl _ _).alloc (Nat.le_refl _) _
    have hd3 := hd2.below hb3
    have hG3 : w2.grownBy (w2.alloc (.cells #[] 23)) (some g) := gB hb3 _
    have HA3 : Hid (LsOk w2.heap.size (N : Int) (w2.alloc (.cells #[] 23)) (.slice (some ⟨w2.heap.size, 0, none⟩) 0 0) []) := LsOk.empty _ _ (Nat.le_refl _)
    clear hd2 hG2 hb3
    go_wp2_with fail
    refine (srcBelow g A c xs 3 _ hd3 hl (by omega) (by omega)).mono ?_
    rintro e w4 ⟨y, rfl, y0, y1, hd4, hg4⟩
    obtain ⟨k0, rfl⟩ := Int.eq_ofNat_of_zero_le y0
    have HA4 := Lib.hid (HA3.out.grown hg4 (fun g' e => by injection e with e; omega))
    have HG4 := Lib.hid (grownTrans hG3 hg4)
    have HD4 := Lib.hid hd4
    clear hd3 HA3 hG3 hg4 hd4
    go_wp2_with fail
    go_loopw [7, 8] (fun v q wr => ∃ (la : List (List Int)) (ga ca m k : Nat), v = .slice (some ⟨ga, 0, none⟩) m ca ∧ q = .int .i64 (k : Int) ∧ m + k ≤ 3 ∧ Hid (la.length = m) ∧ Hid (LsOk w2.heap.size (N : Int) wr (.slice (some ⟨ga, 0, none⟩) m ca) la) ∧ Hid (∀ j, j < la.length → (la.getD j []).length ≤ 22) ∧ Hid (SrcAt wr g A c xs) ∧ Hid (w2.grownBy wr (some g))) (fun _ q _ => (intOf q).toNat)
    case atStart => exact ⟨[], _, 0, 0, k0, rfl, rfl, by omega, rfl, HA4, fun j hj => absurd hj (Nat.not_lt_zero _), HD4, HG4⟩
    case round =>
      obtain ⟨wo, rfl⟩ : ∃ wo : World, wo = wr := ⟨_, rfl⟩
      obtain ⟨la, ga, ca, m, k, rfl, rfl, hmk, HM, HLA, HAL, HD, HG⟩ := hrel
      clear HA4 HD4 HG4
      by_cases hpos : 0 < k
      · have pk : (0 : Int) < (k : Int) := by omega
        go_wp2_with fail
        refine (specIdentity N _ (by omega)).mono ?_
        rintro e w5 ⟨v5, rfl, hF5, hb5⟩
        obtain ⟨gp, cp, rfl, hP5, -, -⟩ := hF5.fil (natI_idp_len N) h0
        have hd5 := HD.out.below hb5
        have HLA5 := Lib.hid (HLA.out.below hb5)
        have hG5 := grownAfter HG.out hb5
        have HF5 : Hid (Fresh w2.heap.size w5 (.slice (some ⟨gp, 0, none⟩) N cp) (natI (idp N))) := (hP5.fresh).mono HG.out.size
        clear HD HLA HG hF5 hb5 hP5
        go_wp2_with fail
        refine (srcBelow g A c xs 4 _ hd5 hl (by omega) (by omega)).mono ?_
        rintro e w6 ⟨y, rfl, y0, y1, hd6, hg6⟩
        obtain ⟨i0, rfl⟩ := Int.eq_ofNat_of_zero_le y0
        have HLA6 := Lib.hid (HLA5.out.grown hg6 (fun g' e => by injection e with e; omega))
        have HF6 := Lib.hid (HF5.out.keepB (KeepB.src hg6 hgw))
        have HG6 := Lib.hid (grownTrans hG5 hg6)
        have HD6 := Lib.hid hd6
        clear hd5 HLA5 HF5 hG5 hg6 hd6
        go_upto_block 2 with fail
        go_cut [9, 10] from 26 to 66 (fun v _ wx => ∃ (u : List Nat) (Ap : Option Addr) (cp : Nat), v = .slice Ap N cp ∧ Hid (IsP N u) ∧ Hid (Fresh w2.heap.size wx (.slice Ap N cp) (natI u)) ∧ Hid (LsOk w2.heap.size (N : Int) wx (.slice (some ⟨ga, 0, none⟩) m ca) la) ∧ Hid (SrcAt wx g A c xs) ∧ Hid (w2.grownBy wx (some g)))
        case first =>
          go_wp2_with fail
          go_loopw [9, 10] (fun v q wr => ∃ (u : List Nat) (Ap : Option Addr) (cp i : Nat), v = .slice Ap N cp ∧ q = .int .i64 (i : Int) ∧ i ≤ 4 ∧ Hid (IsP N u) ∧ Hid (Fresh w2.heap.size wr (.slice Ap N cp) (natI u)) ∧ Hid (LsOk w2.heap.size (N : Int) wr (.slice (some ⟨ga, 0, none⟩) m ca) la) ∧ Hid (SrcAt wr g A c xs) ∧ Hid (w2.grownBy wr (some g))) (fun _ q _ => (intOf q).toNat)
          case atStart => exact ⟨idp N, _, cp, 1 + i0, rfl, by simp, by omega, IsP.idp, HF6, HLA6, HD6, HG6⟩
          case round =>
            obtain ⟨u, Ap, cp, i, rfl, rfl, hi4, HU, HF, HLA, HD, HG⟩ := hrel
            clear HF6 HLA6 HD6 HG6
            by_cases hip : 0 < i ∧ 0 < ps.length
            · obtain ⟨hi0, hp0⟩ := hip
              have pi : (0 : Int) < (i : Int) := by omega
              have pl : (0 : Int) < (ps.length : Int) := by omega
              go_wp2_with fail
              refine (srcBelow g A c xs (ps.length : Int) _ HD.out hl (by omega) (by omega)).mono ?_
              rintro e w7 ⟨x, rfl, x0, x1, hd7, hg7⟩
              obtain ⟨j, rfl⟩ := Int.eq_ofNat_of_zero_le x0
              have hF7 := HF.out.keepB (KeepB.src hg7 hgw)
              have HLA7 := Lib.hid (HLA.out.grown hg7 (fun g' e => by injection e with e; omega))
              have hG7 := grownTrans HG.out hg7
              have hz7 : w2.heap.size ≤ w7.heap.size := hG7.size
              obtain ⟨bq, offq, Aq, cq, q, e1, hbq, hcq, hIq, hPq, -⟩ := ((HL2.out.grown hG7 (fun g' e => by injection e with e; omega)).mayN hlm).1.permD HP.out (k := j) (by omega)
              injection e1 with e1
              injection e1 with e2 e3
              subst e2 e3
              rw [Nat.zero_add] at hcq
              obtain ⟨Ap', cp', e1, hIp, -⟩ := hF7.ints
              injection e1 with e2 e3 e4
              subst e2
              clear e3 e4
              have HCALL := Lib.hid (specCompose Ap Aq cp cq N u q w7 hIp hIq HU.out.len hPq.len (by omega) (fun i hi => HU.out.lt hi))
              have HPQ := Lib.hid hPq
              have hdj : (j : Int) < (ps.length : Int) := x1
              clear HF HLA HD HG hF7 hIq hIp hPq hg7
              go_wp2_with fail
              refine HCALL.out.mono ?_
              rintro e w8 ⟨v8, rfl, hF8, hb8⟩
              have hPn : IsP N (comp u q) := HU.out.comp HPQ.out
              obtain ⟨gp8, cp8, rfl, hP8, -, -⟩ := hF8.fil (by rw [natI_len]; exact hPn.len) h0
              have HF8 : Hid (Fresh w2.heap.size w8 (.slice (some ⟨gp8, 0, none⟩) N cp8) (natI (comp u q))) := hP8.fresh.mono hz7
              have HLA8 := Lib.hid (HLA7.out.below hb8)
              have HD8 := Lib.hid (hd7.below hb8)
              have HG8 := Lib.hid (grownAfter hG7 hb8)
              clear hF8 hP8 hb8 hd7 hG7 HLA7
              go_wp2_with fail
              go_roundw
              case rel => exact ⟨comp u q, _, cp8, i - 1, rfl, by rw [show ((i - 1 : Nat) : Int) = (i : Int) - 1 from by omega], by omega, hPn, HF8, HLA8, HD8, HG8⟩
              case measure => simp [intOf]; omega
            · have hcase : ¬ (0 : Int) < (i : Int) ∨ ((0 : Int) < (i : Int) ∧ ¬ (0 : Int) < (ps.length : Int)) := by omega
              clear hip
              rcases hcase with hk0 | ⟨hk0, hpz⟩
              all_goals
                go_wp2_with fail
                go_meet
                exact ⟨u, Ap, cp, rfl, HU, HF, HLA, HD, HG⟩
        case rest =>
        clear HF6 HLA6 HD6 HG6
        obtain ⟨u, Ap, cp, rfl, HU, HF, HLA, HD, HG⟩ := hcut
        go_wp2_with fail
        refine (srcOneIn g A c xs 3 _ HD.out hl (by omega) (by omega)).mono ?_
        rintro e w7 ⟨b7, rfl, hd7, hg7⟩
        have HF7 := Lib.hid (HF.out.keepB (KeepB.src hg7 hgw))
        have HLA7 := Lib.hid (HLA.out.grown hg7 (fun g' e => by injection e with e; omega))
        have HG7 := Lib.hid (grownTrans HG.out hg7)
        have HD7 := Lib.hid hd7
        clear HF HLA HD HG hd7 hg7
        go_upto_if 54 with fail
        go_cut [9] from 26 to 66 (fun v wx => ∃ (u : List Nat) (Ap : Option Addr) (cp : Nat), v = .slice Ap N cp ∧ Hid (IsP N u) ∧ Hid (Fresh w2.heap.size wx (.slice Ap N cp) (natI u)) ∧ Hid (LsOk w2.heap.size (N : Int) wx (.slice (some ⟨ga, 0, none⟩) m ca) la) ∧ Hid (SrcAt wx g A c xs) ∧ Hid (w2.grownBy wx (some g)))
        case first =>
          cases b7
          · go_wp2_with fail
            go_meet
            exact ⟨u, Ap, cp, rfl, HU, HF7, HLA7, HD7, HG7⟩
          · have hz7 : w2.heap.size ≤ w7.heap.size := HG7.out.size
            obtain ⟨Ap', cp', e1, hIp, -⟩ := HF7.out.ints
            injection e1 with e2 e3 e4
            subst e2
            clear e3 e4
            have HCALL := Lib.hid (specCompose Ap Ap cp cp N u u w7 hIp hIp HU.out.len HU.out.len (by omega) (fun i hi => HU.out.lt hi))
            clear hIp HF7
            go_wp2_with fail
            refine HCALL.out.mono ?_
            rintro e w8 ⟨v8, rfl, hF8, hb8⟩
            have hPn : IsP N (comp u u) := HU.out.comp HU.out
            obtain ⟨gp8, cp8, rfl, hP8, -, -⟩ := hF8.fil (by rw [natI_len]; exact hPn.len) h0
            have HF8 : Hid (Fresh w2.heap.size w8 (.slice (some ⟨gp8, 0, none⟩) N cp8) (natI (comp u u))) := hP8.fresh.mono hz7
            clear hF8 hP8 HCALL
            go_wp2_with fail
            go_meet
            exact ⟨comp u u, _, cp8, rfl, hPn, HF8, HLA7.out.below hb8,HD7.out.below hb8, grownAfter HG7.out hb8⟩
        case rest =>
        clear HF7 HLA7 HD7 HG7 HU
        obtain ⟨u, Ap, cp, rfl, HU, HF, HLA, HD, HG⟩ := hcut
        go_wp2_with fail
        refine (srcOneIn g A c xs 12 _ HD.out hl (by omega) (by omega)).mono ?_
        rintro e w8 ⟨b8, rfl, hd8, hg8⟩
        have HF8 := Lib.hid (HF.out.keepB (KeepB.src hg8 hgw))
        have HLA8 := Lib.hid (HLA.out.grown hg8 (fun g' e => by injection e with e; omega))
        have HG8 := Lib.hid (grownTrans HG.out hg8)
        have HD8 := Lib.hid hd8
        clear HF HLA HD HG hd8 hg8
        go_upto_if 59 with fail
        go_cut [9] from 26 to 66 (fun v wx => ∃ (ys : List Int) (Ap : Option Addr) (l cp : Nat), v = .slice Ap l cp ∧ Hid (ys.length = l) ∧ Hid (l ≤ 22) ∧ Hid (RowOk w2.heap.size (N : Int) wx (.slice Ap l cp) ys) ∧ Hid (LsOk w2.heap.size (N : Int) wx (.slice (some ⟨ga, 0, none⟩) m ca) la) ∧ Hid (SrcAt wx g A c xs) ∧ Hid (w2.grownBy wx (some g)))
        case first =>
          cases b8
          · go_wp2_with fail
            go_meet
            exact ⟨natI u, Ap, N, cp, rfl, by unfold Hid; rw [natI_len]; exact HU.out.len, by unfold Hid; omega, HF8.out.row _, HLA8, HD8, HG8⟩
          · have hz8 : w2.heap.size ≤ w8.heap.size := HG8.out.size
            clear HF8
            go_wp2_with fail
            refine (srcAny g A c xs N _ HD8.out hl h0 (by omega)).mono ?_
            rintro e w9 ⟨u9, ys9, rfl, hR9, hyl9, hd9, hg9⟩
            have HR9 := Lib.hid (hR9.mono hz8)
            obtain ⟨⟨A9, c9, rfl, -⟩, -⟩ := hR9
            obtain ⟨l9, hl9⟩ : ∃ l9, ys9.length = l9 := ⟨_, rfl⟩
            rw [hl9] at HR9 hyl9 ⊢
            have HL9 := Lib.hid hl9
            have HY9 := Lib.hid hyl9
            clear hl9 hyl9
            go_wp2_with fail
            go_meet
            exact ⟨ys9, A9, l9, c9, rfl, HL9, HY9, HR9, HLA8.out.grown hg9 (fun g' e => by injection e with e; omega), hd9, grownTrans HG8.out hg9⟩
        case rest =>
        clear HF8 HLA8 HD8 HG8 HU
        obtain ⟨ys, Ap, l, cp, rfl, HYL, HYB, HR, HLA, HD, HG⟩ := hcut
        have hml : la.length ≤ 1048576 := by rw [HM.out]; omega
        have hzc : w2.heap.size ≤ wc.heap.size := HG.out.size
        go_wp2_with (first | (at_builtin; refine append_rw rfl (.tmp 63) (.tmp 65) rfl w2.heap.size (N : Int) _ la ys (.slice Ap l cp) rfl (by exact HLA.out.below (by exact (by repeat (first | exact Below.refl _ _ | assumption | refine Below.setCell ?_ (by first | omega | (simp <;> omega)) _ | refine Below.alloc ?_ (by first | omega | (simp <;> omega)) _ | refine Below.drew ?_)))) wc.heap.size rfl (by simp) (by exact HR.out.keep (KeepB.below (by exact (by repeat (first | exact Below.refl _ _ | assumption | refine Below.setCell ?_ (by first | omega | (simp <;> omega)) _ | refine Below.alloc ?_ (by first | omega | (simp <;> omega)) _ | refine Below.drew ?_))))) hml (by simp; omega) ?_; intro ga9 ca9 w9 hL9 hb9))
        have hB9 : Below w2.heap.size wc w9 := ((Below.refl _ _).alloc hzc _).trans hb9
        rw [HM.out] at hL9 ⊢
        go_roundw
        case rel => exact ⟨la ++ [ys], ga9, ca9, m + 1, k - 1, rfl, by rw [show ((k - 1 : Nat) : Int) = (k : Int) - 1 from by omega], by omega, by unfold Hid; rw [List.length_append, HM.out]; rfl, hL9, all_snoc (P := fun r => r.length ≤ 22) HAL.out (by rw [HYL.out]; exact HYB.out), HD.out.keep hB9 hgw hlow.out, grownThen HG.out hB9⟩
        case measure => simp [intOf]; omega
      · obtain rfl : k = 0 := by omega
        go_wp2_with fail
        refine bodyPost_ret (v := .tuple #[.int .i64 (N : Int), .slice (some ⟨ga, 0, none⟩) m ca, .slice (some ⟨gb, 0, none⟩) ps.length cb]) (by simp [results, Try.results99, go_sem]) rfl ?_
        exact ⟨(N : Int), ga, ca, la, gb, cb, ps.map natI, by rw [HM.out, hlm], ⟨⟨(N : Int), by rw [HM.out]; exact HLA.out.mono hz2, .inl rfl⟩, by rw [HM.out]; omega, HAL.out⟩, by rw [hlm]; exact HL2.out.grown HG.out (fun g' e => by injection e with e; omega), (fun e => by rw [HGS.out] at e; cases e), HD.out, trX HGW.out HG.out⟩
end
section
open Go.RowKit Grp

def DrawnGM (g : Nat) (A : Option Addr) (c : Nat) (xs : List Int) (w : World) (e : Ending) (w' : World) : Prop :=
  ∃ (n : Int) (gl cl : Nat) (ls : List (List Int)) (Ap : Option Addr) (cp : Nat) (ys : List Int), e = .returned (.tuple #[.int .i64 n, .slice (some ⟨gl, 0, none⟩) ls.length cl, .slice Ap ys.length cp]) ∧ GL w.heap.size n w' (.slice (some ⟨gl, 0, none⟩) ls.length cl) ls ∧ MRow w.heap.size n ls w' (.slice Ap ys.length cp) ys ∧ SrcAt w' g A c xs ∧ w.grownBy w' (some g)
set_option maxRecDepth 100000 in
set_option maxHeartbeats 1000000 in
theorem srcGM (g : Nat) (A : Option Addr) (c : Nat) (xs : List Int) (w : World) (hd : SrcAt w g A c xs) (hl : xs.length ≤ 4096) :
    Calls Try.prog 93 #[.pointer (some ⟨g, 0, none⟩)] w (DrawnGM g A c xs w) := by
  have hgw := hd.lt
  go_enter Try.func93, Try.ntmps93
  go_wp2_with fail
  refine (srcGroup g A c xs _ hd hl).mono ?_
  rintro e w1 ⟨n, gl, cl, ls, rfl, hL1, hd1, hG1⟩
  go_wp2_with fail
  refine (srcMember g A c xs n gl cl ls.length w.heap.size ls _ hd1 hl rfl hL1 hgw).mono ?_
  rintro e w2 ⟨u, ys, rfl, hR2, hd2, hg2⟩
  have hz1 : w.heap.size ≤ w1.heap.size := hG1.size
  have HR2 := Lib.hid (hR2.mono hz1)
  obtain ⟨Ap, cp, rfl⟩ := hR2.shape
  have HL2 := Lib.hid (hL1.grown hg2 (fun g' e => by injection e with e; omega))
  clear hL1 hd hd1 hR2
  go_wp2_with fail
  refine bodyPost_ret (v := .tuple #[.int .i64 n, .slice (some ⟨gl, 0, none⟩) ls.length cl, .slice Ap ys.length cp]) (by simp [results, Try.results93, go_sem]) rfl ?_
  exact ⟨n, gl, cl, ls, Ap, cp, ys, rfl, HL2.out, HR2.out, hd2, grownTrans hG1 hg2⟩
def DrewGM (w : World) (e : Ending) (w' : World) : Prop :=
  ∃ (n : Int) (gl cl : Nat) (ls : List (List Int)) (Ap : Option Addr) (cp : Nat) (ys : List Int), e = .returned (.tuple #[.int .i64 n, .slice (some ⟨gl, 0, none⟩) ls.length cl, .slice Ap ys.length cp]) ∧ GL w.heap.size n w' (.slice (some ⟨gl, 0, none⟩) ls.length cl) ls ∧ MRow w.heap.size n ls w' (.slice Ap ys.length cp) ys ∧ Below w.heap.size w w'
set_option maxRecDepth 100000 in
set_option maxHeartbeats 1000000 in
theorem drewGM (A : Option Addr) (c : Nat) (xs : List Int) (w : World) (hx : BytesAt w A xs) (hl : xs.length ≤ 4096) :
    Calls Try.prog 42 #[.slice A xs.length c] w (DrewGM w) := by
  go_enter Try.func42, Try.ntmps42
  go_wp2_with fail
  refine (newSrc A c xs _ hx hl).mono ?_
  rintro e w1 ⟨rfl, hd1, hb1⟩
  go_wp2_with fail
  refine (srcGM w.heap.size A c xs _ hd1 hl).mono ?_
  rintro e w2 ⟨n, gl, cl, ls, Ap, cp, ys, rfl, hL2, hR2, hd2, hg2⟩
  have hz1 : w.heap.size ≤ w1.heap.size := hb1.size
  have hB2 : Below w.heap.size w w2 := hb1.grown hg2 hz1 (fun k hk => by injection hk with hk; omega)
  have HL2 := Lib.hid (hL2.mono hz1)
  have HR2 := Lib.hid (hR2.mono hz1)
  clear hL2 hR2 hd1 hd2
  go_wp2_with fail
  refine bodyPost_ret (v := .tuple #[.int .i64 n, .slice (some ⟨gl, 0, none⟩) ls.length cl, .slice Ap ys.length cp]) (by simp [results, Try.results42, go_sem]) rfl ?_
  exact ⟨n, gl, cl, ls, Ap, cp, ys, rfl, HL2.out, HR2.out, hB2⟩
def DrewG (w : World) (e : Ending) (w' : World) : Prop :=
  ∃ (n : Int) (gl cl : Nat) (ls : List (List Int)), e = .returned (.tuple #[.int .i64 n, .slice (some ⟨gl, 0, none⟩) ls.length cl]) ∧ GL w.heap.size n w' (.slice (some ⟨gl, 0, none⟩) ls.length cl) ls ∧ Below w.heap.size w w'
set_option maxRecDepth 100000 in
set_option maxHeartbeats 1000000 in
theorem drewG (A : Option Addr) (c : Nat) (xs : List Int) (w : World) (hx : BytesAt w A xs) (hl : xs.length ≤ 4096) :
    Calls Try.prog 51 #[.slice A xs.length c] w (DrewG w) := by
  go_enter Try.func51, Try.ntmps51
  go_wp2_with fail
  refine (newSrc A c xs _ hx hl).mono ?_
  rintro e w1 ⟨rfl, hd1, hb1⟩
  go_wp2_with fail
  refine (srcGroup w.heap.size A c xs _ hd1 hl).mono ?_
  rintro e w2 ⟨n, gl, cl, ls, rfl, hL2, hd2, hg2⟩
  have hz1 : w.heap.size ≤ w1.heap.size := hb1.size
  have hB2 : Below w.heap.size w w2 := hb1.grown hg2 hz1 (fun k hk => by injection hk with hk; omega)
  have HL2 := Lib.hid (hL2.mono hz1)
  clear hL2 hd1 hd2
  go_wp2_with fail
  refine bodyPost_ret (v := .tuple #[.int .i64 n, .slice (some ⟨gl, 0, none⟩) ls.length cl]) (by simp [results, Try.results51, go_sem]) rfl ?_
  exact ⟨n, gl, cl, ls, rfl, HL2.out, hB2⟩
def DrewSC (w : World) (e : Ending) (w' : World) : Prop :=
  ∃ (n : Int) (ga ca : Nat) (la : List (List Int)) (Ap : Option Addr) (cp : Nat) (ps : List Int) (Aq : Option Addr) (cq : Nat) (qs : List Int), e = .returned (.tuple #[.int .i64 n, .slice (some ⟨ga, 0, none⟩) la.length ca, .slice Ap ps.length cp, .slice Aq qs.length cq]) ∧ GL w.heap.size n w' (.slice (some ⟨ga, 0, none⟩) la.length ca) la ∧ MRow w.heap.size n la w' (.slice Ap ps.length cp) ps ∧ MRow w.heap.size n la w' (.slice Aq qs.length cq) qs ∧ Below w.heap.size w w'
theorem MRow.other {B : Nat} {n : Int} {la lb : List (List Int)} {w : World} {u : Value} {ys : List Int} (h : MRow B n lb w u ys) (hab : gsQ n lb = false → la = lb) : MRow B n la w u ys := by
  obtain ⟨⟨N, h1, h2⟩, h3⟩ := h
  refine ⟨⟨N, h1, fun hg => ?_⟩, h3⟩
  cases hb : gsQ n lb with
  | true => exact h2 hb
  | false => rw [hab hb, hb] at hg; cases hg
set_option maxRecDepth 100000 in
set_option maxHeartbeats 4000000 in
theorem drewSC (A : Option Addr) (c : Nat) (xs : List Int) (w : World) (hx : BytesAt w A xs) (hl : xs.length ≤ 4096) :
    Calls Try.prog 47 #[.slice A xs.length c] w (DrewSC w) := by
  go_enter Try.func47, Try.ntmps47
  go_wp2_with fail
  refine (newSrc A c xs _ hx hl).mono ?_
  rintro e w1 ⟨rfl, hd1, hb1⟩
  have hz1 : w.heap.size < w1.heap.size := hd1.lt
  have HB1 := Lib.hid hb1
  clear hb1
  go_wp2_with fail
  refine (srcSub w.heap.size A c xs _ hd1 hl).mono ?_
  rintro e w2 ⟨n, ga, ca, la, gb, cb, lb, rfl, hLA, hLB, hab, hd2, hg2⟩
  have HAB := Lib.hid hab
  clear hd1 hab
  go_wp2_with fail
  refine (srcMember w.heap.size A c xs n gb cb lb.length w1.heap.size lb _ hd2 hl rfl hLB hz1).mono ?_
  rintro e w3 ⟨u3, ps, rfl, hR3, hd3, hg3⟩
  have HP3 := Lib.hid ((hR3.mono hg2.size).other HAB.out)
  obtain ⟨Ap, cp, rfl⟩ := hR3.shape
  have hLA := hLA.grown hg3 (fun g' e => by injection e with e; omega)
  have hLB := hLB.grown hg3 (fun g' e => by injection e with e; omega)
  have hg3 := grownTrans hg2 hg3
  clear hR3 hd2 hg2
  go_wp2_with fail
  refine (srcMember w.heap.size A c xs n gb cb lb.length w1.heap.size lb _ hd3 hl rfl hLB hz1).mono ?_
  rintro e w4 ⟨u4, qs, rfl, hR4, hd4, hg4⟩
  have HQ4 := Lib.hid ((hR4.mono hg3.size).other HAB.out)
  obtain ⟨Aq, cq, rfl⟩ := hR4.shape
  have HP4 := Lib.hid (HP3.out.keep (KeepB.src hg4 hz1))
  have HLA := Lib.hid (hLA.grown hg4 (fun g' e => by injection e with e; omega))
  have HG4 := Lib.hid (grownTrans hg3 hg4)
  have HD4 := Lib.hid hd4
  clear hR4 hd3 hg3 hg4 HP3 hLA hLB hd4
  have hl9 : la.length ≤ 1048576 := by have := HLA.out.2.1; omega
  have hpl : ps.length ≤ 1048576 := by have := HP4.out.2; omega
  have hg0 := specGs (some ⟨ga, 0, none⟩) ca n la w4 HLA.out.may.1 hl9 HLA.out.short
  have hpc : ps.length ≤ cp := by have := HP4.out.may.2.1; exact this
  have HPO : Hid (∀ wx : World, IntsAt wx Ap ps → Calls Try.prog 69 #[.int .i64 n, .slice Ap ps.length cp] wx (Quiet (.bool (!badL n ps)) wx)) := fun wx hx => specPermOf Ap cp n ps wx hx hpl hpc
  obtain ⟨lp, hlp⟩ : ∃ lp, ps.length = lp := ⟨_, rfl⟩
  obtain ⟨lq, hlq⟩ : ∃ lq, qs.length = lq := ⟨_, rfl⟩
  rw [hlp] at HPO HP4 ⊢
  rw [hlq] at HQ4 ⊢
  have HLP := Lib.hid hlp
  have HLQ := Lib.hid hlq
  clear hpl hpc hlp hlq
  go_upto_region 5 with fail
  go_cut [40] from 29 to 40 (fun v wx => ∃ bb : Bool, v = .bool bb ∧ (bb = true → Hid (gsQ n la = true ∧ badL n ps = false)) ∧ Hid (GL w1.heap.size n wx (.slice (some ⟨ga, 0, none⟩) la.length ca) la) ∧ Hid (MRow w1.heap.size n la wx (.slice Ap lp cp) ps) ∧ Hid (MRow w1.heap.size n la wx (.slice Aq lq cq) qs) ∧ Hid (SrcAt wx w.heap.size A c xs) ∧ Hid (w1.grownBy wx (some w.heap.size)))
  case first =>
    cases hgs : gsQ n la with
    | false =>
      rw [hgs] at hg0
      have HG0 := Lib.hid hg0
      clear hg0 hgs
      go_wp2_with fail
      refine HG0.out.mono ?_
      rintro e w5 ⟨rfl, n5, rfl⟩
      have hb5 := belowDrewN (Below.refl w4.heap.size w4) n5
      go_wp2_with fail
      go_meet
      exact ⟨false, rfl, (fun e => absurd e (by decide)), HLA.out.below hb5, HP4.out.keep (KeepB.below hb5), HQ4.out.keep (KeepB.below hb5), HD4.out.below hb5, grownAfter HG4.out hb5⟩
    | true =>
      rw [hgs] at hg0
      have HG0 := Lib.hid hg0
      have HGS := Lib.hid hgs
      clear hg0 hgs
      cases hbd : badL n ps with
      | true =>
        have HPX : Hid (∀ wx : World, IntsAt wx Ap ps → Calls Try.prog 69 #[.int .i64 n, .slice Ap lp cp] wx (Quiet (.bool false) wx)) := fun wx hx => by have := HPO.out wx hx; rwa [hbd] at this
        clear hbd HPO
        go_wp2_with fail
        refine HG0.out.mono ?_
        rintro e w5 ⟨rfl, n5, rfl⟩
        have hb5 := belowDrewN (Below.refl w4.heap.size w4) n5
        have hx5 : IntsAt (w4.drewN n5) Ap ps := by
          obtain ⟨⟨N, ⟨⟨A', c', e, hc, hI, -⟩, -⟩, -⟩, -⟩ := HP4.out
          injection e with e1
          subst e1
          exact hI.below hb5
        go_wp2_with fail
        refine (HPX.out _ hx5).mono ?_
        rintro e w6 ⟨rfl, n6, rfl⟩
        have hb6 := belowDrewN (Below.refl w4.heap.size w4) (n5 + n6)
        go_wp2_with fail
        go_meet
        exact ⟨false, rfl, (fun e => absurd e (by decide)), HLA.out.below hb6, HP4.out.keep (KeepB.below hb6), HQ4.out.keep (KeepB.below hb6), HD4.out.below hb6, grownAfter HG4.out hb6⟩
      | false =>
        have HPX : Hid (∀ wx : World, IntsAt wx Ap ps → Calls Try.prog 69 #[.int .i64 n, .slice Ap lp cp] wx (Quiet (.bool true) wx)) := fun wx hx => by have := HPO.out wx hx; rwa [hbd] at this
        have HBD := Lib.hid hbd
        clear hbd HPO
        go_wp2_with fail
        refine HG0.out.mono ?_
        rintro e w5 ⟨rfl, n5, rfl⟩
        have hb5 := belowDrewN (Below.refl w4.heap.size w4) n5
        have hx5 : IntsAt (w4.drewN n5) Ap ps := by
          obtain ⟨⟨N, ⟨⟨A', c', e, hc, hI, -⟩, -⟩, -⟩, -⟩ := HP4.out
          injection e with e1
          subst e1
          exact hI.below hb5
        go_wp2_with fail
        refine (HPX.out _ hx5).mono ?_
        rintro e w6 ⟨rfl, n6, rfl⟩
        have hb6 := belowDrewN (Below.refl w4.heap.size w4) (n5 + n6)
        have hd6 := HD4.out.below hb6
        go_wp2_with fail
        refine (srcOneIn w.heap.size A c xs 2 _ hd6 hl (by omega) (by omega)).mono ?_
        rintro e w7 ⟨b7, rfl, hd7, hg7⟩
        go_wp2_with fail
        go_meet
        exact ⟨b7, rfl, fun _ => ⟨HGS.out, HBD.out⟩, (HLA.out.below hb6).grown hg7 (fun g' e => by injection e with e; omega), (HP4.out.keep (KeepB.below hb6)).keep (KeepB.src hg7 hz1), (HQ4.out.keep (KeepB.below hb6)).keep (KeepB.src hg7 hz1), hd7, grownTrans (grownAfter HG4.out hb6) hg7⟩
  case rest =>
    clear hg0 HPO HLA HP4 HQ4 HD4 HG4
    obtain ⟨bb, rfl, hbb, HLA, HP, HQ, HD, HG⟩ := hcut
    have hfin : ∀ (wz : World) (Aq : Option Addr) (cq lq : Nat) (qs : List Int), qs.length = lq → GL w1.heap.size n wz (.slice (some ⟨ga, 0, none⟩) la.length ca) la → MRow w1.heap.size n la wz (.slice Ap lp cp) ps → MRow w1.heap.size n la wz (.slice Aq lq cq) qs → w1.grownBy wz (some w.heap.size) → DrewSC w (.returned (.tuple #[.int .i64 n, .slice (some ⟨ga, 0, none⟩) la.length ca, .slice Ap lp cp, .slice Aq lq cq])) wz := fun wz Aq cq lq qs hq h1 h2 h3 h4 => by
      subst hq
      have hz : w.heap.size ≤ w1.heap.size := by omega
      refine ⟨n, ga, ca, la, Ap, cp, ps, Aq, cq, qs, by rw [HLP.out], h1.mono hz, by rw [HLP.out]; exact h2.mono hz, h3.mono hz, HB1.out.grown h4 hz (fun k hk => by injection hk with hk; omega)⟩
    have HFIN := Lib.hid hfin
    clear hfin
    cases bb
    · clear hbb
      go_wp2_with fail
      exact bodyPost_ret (v := .tuple #[.int .i64 n, .slice (some ⟨ga, 0, none⟩) la.length ca, .slice Ap lp cp, .slice Aq lq cq]) (by simp [results, Try.results47, go_sem]) rfl (HFIN.out _ _ _ _ qs HLQ.out HLA.out HP.out HQ.out HG.out)
    · obtain ⟨hgs, hbd⟩ := (hbb rfl).out
      obtain ⟨N, pl, rfl, h0, hN, rfl, h8, hP⟩ := gsOpen hgs
      obtain ⟨p, rfl, hp⟩ := bad_open hbd
      have hlm : (pl.map natI).length = pl.length := List.length_map ..
      have hlN : lp = N := by rw [← HLP.out, natI_len, hp.len]
      subst hlN
      have hip : Hid (IsP lp p) := hp
      have HPP := Lib.hid hP
      have HFIN2 : Hid (∀ (wz : World) (Aq : Option Addr) (cq lq : Nat) (qs : List Int), qs.length = lq → GL w1.heap.size (lp : Int) wz (.slice (some ⟨ga, 0, none⟩) pl.length ca) (pl.map natI) → MRow w1.heap.size (lp : Int) (pl.map natI) wz (.slice Ap lp cp) (natI p) → MRow w1.heap.size (lp : Int) (pl.map natI) wz (.slice Aq lq cq) qs → w1.grownBy wz (some w.heap.size) → DrewSC w (.returned (.tuple #[.int .i64 (lp : Int), .slice (some ⟨ga, 0, none⟩) pl.length ca, .slice Ap lp cp, .slice Aq lq cq])) wz) := by
        have := HFIN.out
        rw [hlm] at this
        exact this
      rw [hlm] at HLA ⊢
      clear hbb hP hp hgs hbd HFIN HLP
      go_wp2_with fail
      go_loopw [11, 12] (fun v i wr => ∃ (k : Nat) (Aq : Option Addr) (lq cq : Nat) (qs : List Int), i = .int .i64 (k : Int) ∧ k ≤ pl.length ∧ v = .slice Aq lq cq ∧ Hid (qs.length = lq) ∧ Hid (GL w1.heap.size (lp : Int) wr (.slice (some ⟨ga, 0, none⟩) pl.length ca) (pl.map natI)) ∧ Hid (MRow w1.heap.size (lp : Int) (pl.map natI) wr (.slice Ap lp cp) (natI p)) ∧ Hid (MRow w1.heap.size (lp : Int) (pl.map natI) wr (.slice Aq lq cq) qs) ∧ Hid (SrcAt wr w.heap.size A c xs) ∧ Hid (w1.grownBy wr (some w.heap.size))) (fun _ i _ => pl.length - (intOf i).toNat)
      case atStart => exact ⟨0, Aq, lq, cq, qs, rfl, Nat.zero_le _, rfl, HLQ, HLA, HP, HQ, HD, HG⟩
      case round =>
        clear HLA HP HQ HD HG HLQ
        obtain ⟨k, Aq, lq, cq, qs, rfl, hk, rfl, HLQ, HLA, HP, HQ, HD, HG⟩ := hrel
        by_cases hlt : k < pl.length
        · have p0 : (0 : Int) ≤ (k : Int) := by omega
          have p1 : (k : Int) < (pl.length : Int) := by omega
          go_wp2_with fail
          refine (srcOneIn w.heap.size A c xs 2 _ HD.out hl (by omega) (by omega)).mono ?_
          rintro e w5 ⟨b5, rfl, hd5, hg5⟩
          have HLA5 := Lib.hid (HLA.out.grown hg5 (fun g' e => by injection e with e; omega))
          have HP5 := Lib.hid (HP.out.keep (KeepB.src hg5 hz1))
          have HQ5 := Lib.hid (HQ.out.keep (KeepB.src hg5 hz1))
          have HG5 := Lib.hid (grownTrans HG.out hg5)
          have hz5 : w1.heap.size ≤ w5.heap.size := HG5.out.size
          clear HLA HP HQ HD HG hg5
          cases b5
          · go_wp2_with fail
            go_roundw
            case rel => exact ⟨k + 1, Aq, lq, cq, qs, by go_num, by omega, rfl, HLQ, HLA5, HP5, HQ5, hd5, HG5⟩
            case measure => simp [intOf]; omega
          · obtain ⟨bq, offq, A7, c7, q, e1, hbq, hcq, hIq, hPq, -⟩ := (HLA5.out.mayN hlm).1.permD HPP.out hlt
            injection e1 with e1
            injection e1 with e2 e3
            subst e2 e3
            rw [Nat.zero_add] at hcq
            have hIp : IntsAt w5 Ap (natI p) := by
              obtain ⟨⟨N, ⟨⟨A', c', e, hc, hI, -⟩, -⟩, -⟩, -⟩ := HP5.out
              injection e with e1
              subst e1
              exact hI
            have HCALL := Lib.hid (specCompose A7 Ap c7 cp lp q p w5 hIq hIp hPq.len hip.out.len (by omega) (fun i hi => hPq.lt hi))
            have HPQ := Lib.hid hPq
            clear hIq hIp hPq HQ5
            go_wp2_with fail
            refine HCALL.out.mono ?_
            rintro e w6 ⟨v6, rfl, hF6, hb6⟩
            have hPn : IsP lp (comp q p) := HPQ.out.comp hip.out
            obtain ⟨g6, c6, rfl, hP6, -, -⟩ := hF6.fil (by rw [natI_len]; exact hPn.len) h0
            have HQ6 : Hid (MRow w1.heap.size (lp : Int) (pl.map natI) w6 (.slice (some ⟨g6, 0, none⟩) lp c6) (natI (comp q p))) := ⟨⟨(lp : Int), (hP6.fresh.mono hz5).row _, fun _ => rfl⟩, by rw [natI_len, hPn.len]; omega⟩
            have hlq6 : (natI (comp q p)).length = lp := by rw [natI_len, hPn.len]
            have HLQ6 := Lib.hid hlq6
            clear hF6 hP6 hlq6
            go_wp2_with fail
            go_roundw
            case rel => exact ⟨k + 1, _, lp, c6, natI (comp q p), by go_num, by omega, rfl, HLQ6, HLA5.out.below hb6, HP5.out.keep (KeepB.below hb6), HQ6, hd5.below hb6, grownAfter HG5.out hb6⟩
            case measure => simp [intOf]; omega
        · obtain rfl : k = pl.length := by omega
          go_wp2_with fail
          exact bodyPost_ret (v := .tuple #[.int .i64 (lp : Int), .slice (some ⟨ga, 0, none⟩) pl.length ca, .slice Ap lp cp, .slice Aq lq cq]) (by simp [results, Try.results47, go_sem]) rfl (HFIN2.out _ _ _ _ qs HLQ.out HLA.out HP.out HQ.out HG.out)
end
end Go.Proofs.Ytpcnbjfkobeibaa
