/- All members, at both packages. Conditions: as each contract says. -/
import Derived.Test.YtpcnbjfkobeibaaAi
import Derived.Test.YtpcnbjfkobeibaaFr
namespace Go.Proofs.Ytpcnbjfkobeibaa
open Go.RowKit Grp

theorem FrL.mono {base base' : Nat} {w : World} {v : Value} {l : List (List Nat)} {V : Nat → Value} {B : Nat → Nat} (h : FrL base w v l V B) (hB : base' ≤ base) : FrL base' w v l V B := by
  obtain ⟨cs, h1, h2⟩ := h.own
  refine ⟨⟨cs, ⟨h1.1, ?_⟩, h2⟩, h.elt, h.cap, h.up, Nat.le_trans hB h.low, h.top⟩
  rcases h1.2 with hn | ⟨g, cap, cur, rfl, hbg, rest⟩
  · exact .inl hn
  · exact .inr ⟨g, cap, cur, rfl, Nat.le_trans hB hbg, rest⟩
def memTo (n : Nat) (T : Tab) (k : Nat) : List (List Nat) := (List.range k).map fun k => (atR n T k).getD []
theorem memTo_len (n : Nat) (T : Tab) (k : Nat) : (memTo n T k).length = k := by simp [memTo]
theorem memTo_more (n : Nat) (T : Tab) (k : Nat) : memTo n T (k + 1) = memTo n T k ++ [(atR n T k).getD []] := by simp [memTo, List.range_succ]
/-- All members, if there are not too many. -/
def allR (n : Nat) (T : Tab) : List (List Nat) := if ordG n T 0 ≤ 3000 then memR n T else []
theorem allR_eq {n : Nat} {T T' : Tab} {G : List Nat → Prop} (hc : Chain n T 0 G) (hc' : Chain n T' 0 G) : allR n T = allR n T' := by
  unfold allR
  rw [ordG_eq hc hc' (Nat.zero_le _), memR_eq hc hc']
theorem allR_isP {n : Nat} {T : Tab} {G : List Nat → Prop} (hc : Chain n T 0 G) : ∀ u, u ∈ allR n T → IsP n u := by
  intro u hu
  unfold allR at hu
  split at hu
  · unfold memR at hu
    rw [List.mem_map] at hu
    obtain ⟨k, hk, rfl⟩ := hu
    obtain ⟨u, h1, h2⟩ := atR_some hc (List.mem_range.1 hk)
    rw [h1]
    exact h2
  · simp at hu
theorem allR_len (n : Nat) (T : Tab) : (allR n T).length ≤ 3000 := by
  unfold allR
  split
  · unfold memR; rw [List.length_map, List.length_range]; assumption
  · exact Nat.zero_le _
theorem shortMap {N : Nat} {l : List (List Nat)} (hl : ∀ u, u ∈ l → IsP N u) (hN : N ≤ 20) : ShortL (l.map natI) := fun i hi => by
  rw [List.length_map] at hi
  rw [List.getD_eq_getElem?_getD, List.getElem?_map, List.getElem?_eq_getElem hi]
  simp only [Option.map_some, Option.getD_some]
  rw [natI_len, (hl _ (List.getElem_mem hi)).len]
  omega
def MembersI (l : List (List Nat)) (w : World) (e : Ending) (w' : World) : Prop := ∃ v b, e = .returned (.tuple #[v, .bool b]) ∧ (∃ V B, FrL w.heap.size w' v l V B) ∧ Below w.heap.size w w'
set_option maxRecDepth 100000 in
set_option maxHeartbeats 8000000 in
theorem implMembersC {G : List Nat → Prop} (C n : Nat) (T : Tab) (w : World) (hC : CI w C n T) (hc : Chain n T 0 G) (hn : n ≤ 20) (h0 : 0 < n) :
    Calls Try.prog 122 #[.pointer (some ⟨C, 0, none⟩)] w (MembersI (allR n T) w) := by
  have hob := ordG_bound hc hn (Nat.zero_le _)
  have hord := fun (wx : World) (hb : Below w.heap.size w wx) => implOrder C n 0 T wx (hC.below hb) hc (Nat.zero_le _) hn
  obtain ⟨O, hO⟩ : ∃ O, ordG n T 0 = O := ⟨_, rfl⟩
  rw [hO] at hob hord
  have hord : ∀ wx : World, Below w.heap.size w wx → Calls Try.prog 113 #[.pointer (some ⟨C, 0, none⟩), .int .i64 0] wx (ReadsNat O wx) := hord
  have HORD := Lib.hid hord
  by_cases hle : O ≤ 3000
  · have hle2 : ¬ (3000 : Int) < (O : Int) := by omega
    have hres : allR n T = memTo n T O := by unfold allR; rw [hO, if_pos hle]; unfold memR memTo; rw [hO]
    rw [hres]
    have HC := Lib.hid hC
    have HCH := Lib.hid hc
    have HO := Lib.hid hO
    clear hres hC hc hord hO hob
    go_enter Try.func122, Try.ntmps122
    go_wp2_with fail
    refine (HORD.out _ (Below.refl _ _)).mono ?_
    rintro e w1 ⟨rfl, hB1⟩
    go_wp2_with fail
    refine (HORD.out _ hB1).mono ?_
    rintro e w2 ⟨rfl, hb2⟩
    have hB2 := belowStep hb2 hB1
    have hF0 : ∃ V B, FrL w.heap.size w2 (.slice none 0 0) (memTo n T 0) V B := ⟨_, _, FrL.nil _ _ hB2.size⟩
    clear hb2 hB1
    go_wp2_with fail
    go_loopw [4, 13] (fun lv z wr => ∃ (k : Nat) (V : Nat → Value) (B : Nat → Nat), k ≤ O ∧ z = .int .i64 (k : Int) ∧ Hid (FrL w.heap.size wr lv (memTo n T k) V B) ∧ Below w.heap.size w wr) (fun _ z _ => O - (intOf z).toNat)
    case atStart => exact ⟨0, hF0.choose, hF0.choose_spec.choose, Nat.zero_le _, rfl, hF0.choose_spec.choose_spec, hB2⟩
    case round =>
      obtain ⟨k, V, B, hk, rfl, HF, hB⟩ := hrel
      clear hF0 hB2
      obtain ⟨Al, cl, rfl, -⟩ := HF.out.shape
      have hBz := hB.size
      by_cases hlt : k < O
      · have hcall := implChainAt C n T (k : Int) wr (HC.out.below hB) HCH.out hn h0
        have hkO : k < ordG n T 0 := by rw [HO.out]; exact hlt
        rw [atO_yes hkO] at hcall
        obtain ⟨u, hu, hup⟩ := atR_some HCH.out hkO
        rw [hu] at hcall
        have HCALL := Lib.hid hcall
        have HM : Hid (memTo n T (k + 1) = memTo n T k ++ [u]) := by unfold Hid; rw [memTo_more, hu]; rfl
        have hml := memTo_len n T k
        have p0 : (0 : Int) ≤ (k : Int) := by omega
        have p1 : (k : Int) < (O : Int) := by omega
        have q1 : IntKind.i64.wrap ((k : Int) + 1) = ((k + 1 : Nat) : Int) := by rw [show (k : Int) + 1 = ((k + 1 : Nat) : Int) by omega]; exact wrapNat (by omega)
        obtain ⟨l, hl⟩ : ∃ l, memTo n T k = l := ⟨_, rfl⟩
        rw [hl] at HF HM hml
        rw [hl]
        have hml2 : l.length ≤ 1048576 := by omega
        clear hl hcall hu hkO hml
        go_wp2_with (first
          | (go_at_call 78; refine HCALL.out.mono ?_; rintro e w5 ⟨v5, rfl, hF5, hb5⟩
              ; obtain ⟨A5, c5, rfl, -, -⟩ := hF5.ints
              ; simp only [Option.getD_some] at hF5
              ; have hF5b := hF5.mono HF.out.top
              ; have HF5 := Lib.hid (HF.out.below hb5)
              ; have hB5 := belowStep hb5 hB
              ; have hB5z := hB5.size)
          | (at_builtin; refine append_fr rfl (.tmp 22) (.tmp 24) rfl w.heap.size _ l V B u (.slice A5 (natI u).length c5) rfl (by exact HF5.out.below (by exact (by repeat (first | exact Below.refl _ _ | assumption | refine Below.setCell ?_ (by first | omega | (simp <;> omega)) _ | refine Below.alloc ?_ (by first | omega | (simp <;> omega)) _ | refine Below.drew ?_)))) w5.heap.size rfl (by simp) (by exact hF5b.below (by exact (by repeat (first | exact Below.refl _ _ | assumption | refine Below.setCell ?_ (by first | omega | (simp <;> omega)) _ | refine Below.alloc ?_ (by first | omega | (simp <;> omega)) _ | refine Below.drew ?_)))) hml2 (by simp; omega) ?_; intro A6 c6 w6 hF6 hg6 _
              ; have hB6 := (HF5.out.below (by exact (by repeat (first | exact Below.refl _ _ | assumption | refine Below.setCell ?_ (by first | omega | (simp <;> omega)) _ | refine Below.alloc ?_ (by first | omega | (simp <;> omega)) _ | refine Below.drew ?_)))).grew (hB5.alloc hB5z _) hg6 (Nat.le_refl _) (by simp; omega)))
        have HF6 : Hid (FrL w.heap.size w6 (.slice A6 (l.length + 1) c6) (memTo n T (k + 1)) (updV V l.length (.slice A5 (natI u).length c5)) (updV B (l.length + 1) (w5.alloc (.cells #[.slice A5 (natI u).length c5] 23)).heap.size)) := by
          unfold Hid
          rw [HM.out]
          exact hF6
        go_roundw
        case rel => exact ⟨k + 1, _, _, by omega, by first | rfl | go_num | rw [q1], HF6, hB6⟩
        case measure => simp [intOf]; omega
      · obtain rfl : k = O := by omega
        go_wp2_with fail
        exact bodyPost_ret (v := .tuple #[.slice Al (memTo n T k).length cl, .bool true]) (by simp [results, Try.results122, go_sem]) rfl ⟨_, _, rfl, ⟨V, B, HF.out⟩, hB⟩
  · have hle2 : (3000 : Int) < (O : Int) := by omega
    have hres : allR n T = [] := by unfold allR; rw [hO, if_neg hle]
    rw [hres]
    clear hres hC hc hord hO hob
    go_enter Try.func122, Try.ntmps122
    go_wp2_with fail
    refine (HORD.out _ (Below.refl _ _)).mono ?_
    rintro e w1 ⟨rfl, hB1⟩
    go_wp2_with fail
    exact bodyPost_ret (v := .tuple #[.slice none 0 0, .bool false]) (by simp [results, Try.results122, go_sem]) rfl ⟨_, _, rfl, ⟨_, _, FrL.nil _ _ hB1.size⟩, hB1⟩
theorem lenLv {n : Nat} {T : Tab} {G : List Nat → Prop} (hc : Chain n T 0 G) {m i : Nat} {l M : List (List Nat)} (hm : m + i = n) (hl : ∀ u, u ∈ l → IsP n u) (h : allF n T m i l = M) : l.length * ordF n T i m = M.length := by
  rw [← h, allF_eq hc m i l hm hl]
  clear h
  induction l with
  | nil => simp
  | cons a l ih =>
    rw [List.flatMap_cons, List.length_append, List.length_map, List.length_range, ← ih fun u hu => hl u (by simp [hu]), List.length_cons, Nat.succ_mul, Nat.add_comm]
theorem flat_take_more (f : List Nat → List (List Nat)) (l : List (List Nat)) (k : Nat) (hk : k < l.length) : (l.take (k + 1)).flatMap f = (l.take k).flatMap f ++ f (l.getD k []) := by
  rw [List.take_add_one, List.flatMap_append, List.getElem?_eq_getElem hk, List.getD_eq_getElem?_getD, List.getElem?_eq_getElem hk]
  simp
/-- What stands in the longer list: all of the first k, and j of the next. -/
def lvlTo (n : Nat) (T : Tab) (i : Nat) (l : List (List Nat)) (k j : Nat) : List (List Nat) := (l.take k).flatMap (fun u => (vals n T i u).map (Grp.step T i u)) ++ ((vals n T i (l.getD k [])).take j).map (Grp.step T i (l.getD k []))
theorem lvlTo_zero (n : Nat) (T : Tab) (i : Nat) (l : List (List Nat)) : lvlTo n T i l 0 0 = [] := by simp [lvlTo]
theorem lvlTo_more {n : Nat} {T : Tab} {i : Nat} {l : List (List Nat)} {k j v : Nat} (hj : j < (vals n T i (l.getD k [])).length) (hv : app (vals n T i (l.getD k [])) j = v) : lvlTo n T i l k (j + 1) = lvlTo n T i l k j ++ [Grp.step T i (l.getD k []) v] := by
  unfold lvlTo
  unfold app at hv
  rw [List.getD_eq_getElem?_getD, List.getElem?_eq_getElem hj] at hv
  simp only [Option.getD_some] at hv
  rw [List.take_add_one, List.getElem?_eq_getElem hj, hv, List.map_append, List.append_assoc]
  rfl
theorem lvlTo_next {n : Nat} {T : Tab} {i : Nat} {l : List (List Nat)} {k : Nat} (hk : k < l.length) : lvlTo n T i l k (vals n T i (l.getD k [])).length = lvlTo n T i l (k + 1) 0 := by
  unfold lvlTo
  rw [flat_take_more _ _ _ hk, List.take_of_length_le (Nat.le_refl _)]
  simp
theorem lvlTo_end (n : Nat) (T : Tab) (i : Nat) (l : List (List Nat)) : lvlTo n T i l l.length 0 = lvl n T i l := by
  unfold lvlTo lvl
  rw [List.take_of_length_le (Nat.le_refl _)]
  simp
theorem lvlTo_len {n : Nat} {T : Tab} {G : List Nat → Prop} (hc : Chain n T 0 G) (hn : n ≤ 20) {i : Nat} (hi : i < n) {l : List (List Nat)} (hl : ∀ u, u ∈ l → IsP n u) (k j : Nat) (hk : k ≤ l.length) (hj : j ≤ 20) : (lvlTo n T i l k j).length ≤ k * 20 + 20 := by
  have h1 : ∀ m, m ≤ l.length → ((l.take m).flatMap (fun u => (vals n T i u).map (Grp.step T i u))).length ≤ m * 20 := by
    intro m
    induction m with
    | zero => intro _; simp
    | succ m ih =>
      intro hm
      rw [flat_take_more _ _ _ hm, List.length_append, List.length_map, Nat.succ_mul]
      have h2 := ih (by omega)
      have h3 := vals_length (n := n) (T := T) (i := i) (hl (l.getD m []) (by rw [List.getD_eq_getElem?_getD, List.getElem?_eq_getElem hm]; exact List.getElem_mem hm))
      have h4 := orb_le hc hi
      omega
  have h2 := h1 k hk
  unfold lvlTo
  rw [List.length_append, List.length_map, List.length_take]
  omega
set_option maxRecDepth 100000 in
set_option maxHeartbeats 16000000 in
theorem specAll (N : Nat) (g c m0 : Nat) (ps : List (List Nat)) (w : World) (h : LOwn w g (ps.map natI)) (hm : ps.length = m0) (hP : ∀ q, q ∈ ps → IsP N q) (h0 : 0 < N) (hN : N ≤ 20) (h8 : ps.length ≤ 8) :
    Calls Try.prog 121 #[.int .i64 (N : Int), .slice (some ⟨g, 0, none⟩) m0 c] w fun e w' => ∃ v V B, e = .returned v ∧ FrL w.heap.size w' v (allR N (gT N ps)) V B ∧ Below w.heap.size w w' := by
  subst hm
  obtain ⟨O, hO⟩ : ∃ O, ordG N (gT N ps) 0 = O := ⟨_, rfl⟩
  have hob := ordG_bound (gT_chain hP) hN (Nat.zero_le _)
  rw [hO] at hob
  have HOG := Lib.hid hO
  have HL := Lib.hid h
  have HP := Lib.hid hP
  by_cases hle : O ≤ 3000
  · have hle2 : ¬ (3000 : Int) < (O : Int) := by omega
    obtain ⟨M, hM⟩ : ∃ M, memR N (gT N ps) = M := ⟨_, rfl⟩
    have hres : allR N (gT N ps) = M := by unfold allR; rw [hO, if_pos hle, hM]
    rw [hres]
    have HM := Lib.hid hM
    clear hres h hP hO hM hob
    go_enter Try.func121, Try.ntmps121
    go_wp2_with (first
      | (go_at_call 71; refine (newS N ps g ps.length c _ (by exact HL.out) rfl HP.out h0 hN h8).mono ?_; rintro e w2 ⟨C, T, rfl, hC, hc, hone, hB2⟩
          ; have HC := Lib.hid hC; have HCH := Lib.hid hc; clear hC hc hone
          ; have HOR : Hid (ordG N T 0 = O) := (by unfold Hid; rw [ordG_eq HCH.out (gT_chain HP.out) (Nat.zero_le _), HOG.out]))
      | (go_at_call 110; refine (specOrder C N T _ HC.out HCH.out hN).mono ?_; rw [HOR.out]; rintro e w3 ⟨rfl, hb3⟩; have hB3 := belowStep hb3 hB2; have HC3 := Lib.hid (HC.out.below hb3))
      | (go_at_call 79; refine (specIdentity N _ (by omega)).mono ?_; rintro e w5 ⟨v5, rfl, hF5, hb5⟩; have hB5 := belowStep hb5 hB3; have HC5 := Lib.hid (HC3.out.below hb5); obtain ⟨A5, c5, rfl, -, -⟩ := hF5.ints; have HF5 := Lib.hid hF5; clear hF5))
    have HF0 := Lib.hid (FrL.single (base := w.heap.size) hB3.size hb5.size HF5.out)
    have HB0 : Hid (Below w5.heap.size w5 (w5.alloc (.cells #[.slice A5 (natI (idp N)).length c5] 23))) := (Below.refl _ _).alloc (Nat.le_refl _) _
    have HALL : Hid (allF N T (N - 0) 0 [idp N] = M) := by
      show allF N T N 0 [idp N] = M
      rw [allF_mem HCH.out, memR_eq HCH.out (gT_chain HP.out), HM.out]
    have HMO : Hid (M.length ≤ 3000) := by
      unfold Hid
      rw [← HM.out]
      unfold memR
      rw [List.length_map, List.length_range, HOG.out]
      exact hle
    have HP0 : Hid (∀ u, u ∈ [idp N] → IsP N u) := fun u hu => by rw [List.mem_singleton.1 hu]; exact IsP.idp
    clear HL HM HC HC3 HOR HF5 hb5
    go_wp2_with fail
    go_loopw [6, 7] (fun ov z wr => ∃ (i : Nat) (l : List (List Nat)) (V : Nat → Value) (B : Nat → Nat), i ≤ N ∧ z = .int .i64 (i : Int) ∧ Hid (FrL w.heap.size wr ov l V B) ∧ Hid (∀ u, u ∈ l → IsP N u) ∧ Hid (allF N T (N - i) i l = M) ∧ Below w5.heap.size w5 wr) (fun _ z _ => N - (intOf z).toNat)
    case atStart => exact ⟨0, [idp N], _, _, Nat.zero_le _, rfl, HF0, HP0, HALL, HB0.out⟩
    case round =>
      obtain ⟨wo, rfl⟩ : ∃ wo : World, wo = wr := ⟨_, rfl⟩
      obtain ⟨i, l, V, B, hi, rfl, HF, HLP, HAL, hBr⟩ := hrel
      clear HF0 HP0 HALL HB0
      obtain ⟨Ao, co, rfl, hrow⟩ := HF.out.shape
      have hBrz := hBr.size
      have hB5z := hB5.size
      by_cases hlt : i < N
      · have hlen : l.length ≤ 3000 := by
          have h1 := lenLv HCH.out (show N - i + i = N by omega) HLP.out HAL.out
          have h2 := (ordF_le HCH.out (N - i) i (by omega)).1
          have h3 := HMO.out
          have h4 : l.length * 1 ≤ l.length * ordF N T i (N - i) := Nat.mul_le_mul_left _ h2
          omega
        have HROW := Lib.hid hrow
        have HCr := Lib.hid (HC5.out.below hBr)
        have p0 : (0 : Int) ≤ (i : Int) := by omega
        have p1 : (i : Int) < (N : Int) := by omega
        have HE0 : Hid (FrL wo.heap.size (wo.alloc (.cells #[] 23)) (.slice (some ⟨wo.heap.size, 0, none⟩) 0 0) (lvlTo N T i l 0 0) (fun _ => .slice none 0 0) (fun _ => wo.heap.size)) := by
          unfold Hid
          rw [lvlTo_zero]
          exact FrL.empty _ _ (Nat.le_refl _)
        have HB1 : Hid (Below wo.heap.size wo (wo.alloc (.cells #[] 23))) := (Below.refl _ _).alloc (Nat.le_refl _) _
        clear hrow
        go_wp2_with fail
        go_loopw [8, 9] (fun lv z wr => ∃ (k : Nat) (V2 : Nat → Value) (B2 : Nat → Nat), k ≤ l.length ∧ z = .int .i64 (k : Int) ∧ Hid (FrL wo.heap.size wr lv (lvlTo N T i l k 0) V2 B2) ∧ Below wo.heap.size wo wr) (fun _ z _ => l.length - (intOf z).toNat)
        case atStart => exact ⟨0, _, _, Nat.zero_le _, rfl, HE0, HB1.out⟩
        case round =>
          obtain ⟨wk, rfl⟩ : ∃ wk : World, wk = wr := ⟨_, rfl⟩
          obtain ⟨k, V2, B2, hk, rfl, HF2, hBk⟩ := hrel
          clear HE0 HB1
          obtain ⟨Al, cl, rfl, -⟩ := HF2.out.shape
          have hBkz := hBk.size
          by_cases hkl : k < l.length
          · obtain ⟨go, rfl, hgo0, hgo1, hgo2⟩ := HROW.out k hkl
            obtain ⟨u, hu⟩ : ∃ u, l.getD k [] = u := ⟨_, rfl⟩
            have hup : IsP N u := HLP.out u (by rw [← hu, List.getD_eq_getElem?_getD, List.getElem?_eq_getElem hkl]; exact List.getElem_mem hkl)
            have hvk := HF.out.elt k hkl
            rw [hu] at hvk
            obtain ⟨vk, hvke⟩ : ∃ vk, V k = vk := ⟨_, rfl⟩
            rw [hvke] at hvk hgo2
            obtain ⟨Ak, ck, rfl, -, -⟩ := hvk.ints
            have hpv := hvk.perm (ok := fun _ => True) hup.len h0 (fun _ _ _ => trivial)
            have hck : wk.cell? ⟨go, k, none⟩ = some (.slice Ak (natI u).length ck) := (hBk.cell (p := ⟨go, k, none⟩) hgo1).trans hgo2
            have hcv := specVals (HCr.out.below hBk) hN (hpv.below hBk) hup hlt
            obtain ⟨Vl, hVl⟩ : ∃ Vl, vals N T i u = Vl := ⟨_, rfl⟩
            rw [hVl] at hcv
            have hvl : Vl.length ≤ 20 := by rw [← hVl, vals_length hup]; have := orb_le HCH.out hlt; omega
            have HCV := Lib.hid hcv
            have HPV := Lib.hid hpv
            have HUP := Lib.hid hup
            have HU := Lib.hid hu
            have HVL := Lib.hid hVl
            have HGO2 := Lib.hid hgo2
            have HN0 := Lib.hid HF2.out.own
            have k0 : (0 : Int) ≤ (k : Int) := by omega
            have k1 : (k : Int) < (l.length : Int) := by omega
            have hown : ∀ b, (Value.slice Al (lvlTo N T i l k 0).length cl).ownBlock = some b → b < wk.heap.size := fun b hb => by
              obtain ⟨_, ds, hd⟩ := HF2.out.block hb
              exact row_lt hd
            have HOWN := Lib.hid hown
            clear hcv hpv hvk hvke hup hu hVl hown
            go_wp2_with (first
              | (go_at_call 81; refine HCV.out.mono ?_; rintro e w7 ⟨v7, rfl, ⟨g7, c7, rfl, hlc7, hg7, hg7l, hI7⟩, hb7⟩
                  ; have HF7 := Lib.hid (HF2.out.below hb7); have hB7 := belowStep hb7 hBk; have HI7 := Lib.hid hI7; have hb7z := hb7.size; clear hI7 hb7))
            have HO7 : Hid (∀ b, (Value.slice Al (lvlTo N T i l k 0).length cl).ownBlock = some b → b ≠ g7) := fun b hb => by
              have := HOWN.out b hb
              omega
            clear HCV hck
            go_loopw [8, 11] (fun lv z wr => ∃ (j : Nat) (V3 : Nat → Value) (B3 : Nat → Nat), j ≤ Vl.length ∧ z = .int .i64 (j : Int) ∧ Hid (FrL wo.heap.size wr lv (lvlTo N T i l k j) V3 B3) ∧ Hid (IntsAt wr (some ⟨g7, 0, none⟩) (natI Vl)) ∧ Hid (∀ b, lv.ownBlock = some b → b ≠ g7) ∧ w7.heap.size ≤ wr.heap.size ∧ Below wo.heap.size wo wr) (fun _ z _ => Vl.length - (intOf z).toNat)
            case atStart => exact ⟨0, _, _, Nat.zero_le _, rfl, HF7, HI7, HO7, Nat.le_refl _, hB7⟩
            case round =>
              obtain ⟨j, V3, B3, hj, rfl, HF3, HI3, HO3, hz3, hBj⟩ := hrel
              clear HF7 HI7 HO7 hB7
              obtain ⟨Am, cm, rfl, -⟩ := HF3.out.shape
              have hBjz := hBj.size
              by_cases hjl : j < Vl.length
              · obtain ⟨b6, off6, e6, hbl6, hc6⟩ := perm_at HI3.out (i := j) hjl
                injection e6 with e6
                injection e6 with e7 e8
                subst e7 e8
                rw [Nat.zero_add] at hc6
                obtain ⟨x, hx⟩ : ∃ x, app Vl j = x := ⟨_, rfl⟩
                rw [hx] at hc6
                have hxm : x ∈ vals N T i u := by
                  rw [HVL.out, ← hx]
                  unfold app
                  rw [List.getD_eq_getElem?_getD, List.getElem?_eq_getElem hjl]
                  exact List.getElem_mem hjl
                have hcj : wr.cell? ⟨go, k, none⟩ = some (.slice Ak (natI u).length ck) := (hBj.cell (p := ⟨go, k, none⟩) hgo1).trans HGO2.out
                have hgol := Nat.lt_of_lt_of_le hgo1 hBjz
                have hst := fun (wx : World) (hb : Below wr.heap.size wr wx) => specStep ((HCr.out.below hBj).below hb) HCH.out hN ((HPV.out.below hBj).below hb) HUP.out hlt hxm
                have HST := Lib.hid hst
                have hsp : IsP N (Grp.step T i u x) := step_isP HCH.out hlt HUP.out hxm
                have HLM : Hid (lvlTo N T i l k (j + 1) = lvlTo N T i l k j ++ [Grp.step T i u x]) := by
                  unfold Hid
                  have := lvlTo_more (n := N) (T := T) (i := i) (l := l) (k := k) (j := j) (v := x) (by rw [HU.out, HVL.out]; exact hjl) (by rw [HU.out, HVL.out]; exact hx)
                  rwa [HU.out] at this
                have hll : (lvlTo N T i l k j).length ≤ 1048576 := by
                  have := lvlTo_len HCH.out hN hlt HLP.out k j (by omega) (by omega)
                  omega
                obtain ⟨l3, hl3⟩ : ∃ l3, lvlTo N T i l k j = l3 := ⟨_, rfl⟩
                rw [hl3] at HF3 HLM hll HO3
                rw [hl3]
                have j0 : (0 : Int) ≤ (j : Int) := by omega
                have j1 : (j : Int) < (Vl.length : Int) := by omega
                have HSP := Lib.hid hsp
                have htop3 := HF3.out.top
                clear hst hx hxm hl3 hsp
                go_wp2_with fail
                go_region_law (first
                  | (refine step_append_fr (by rfl) _ _ (by rfl) wo.heap.size (.slice Am l3.length cm) l3 V3 B3 (Grp.step T i u x) (.slice A8 (natI (Grp.step T i u x)).length c8) (by rfl) (by exact HF8.out.below (by exact (by repeat (first | exact Below.refl _ _ | assumption | refine Below.setCell ?_ (by first | omega | (simp <;> omega)) _ | refine Below.alloc ?_ (by first | omega | (simp <;> omega)) _ | refine Below.drew ?_)))) w8.heap.size (by rfl) (by simp) (by exact HF8b.out.below (by exact (by repeat (first | exact Below.refl _ _ | assumption | refine Below.setCell ?_ (by first | omega | (simp <;> omega)) _ | refine Below.alloc ?_ (by first | omega | (simp <;> omega)) _ | refine Below.drew ?_)))) hll (by simp; omega) ?_; intro A9 c9 w9 hF9 hg9 hat9
                      ; have HI9 : Hid (IntsAt w9 (some ⟨g7, 0, none⟩) (natI Vl)) := (HI8.out.below (by exact (by repeat (first | exact Below.refl _ _ | assumption | refine Below.setCell ?_ (by first | omega | (simp <;> omega)) _ | refine Below.alloc ?_ (by first | omega | (simp <;> omega)) _ | refine Below.drew ?_)))).keptRow hg9 (fun e => HO3.out g7 e rfl)
                      ; have HO9 : Hid (∀ b, (Value.slice A9 (l3.length + 1) c9).ownBlock = some b → b ≠ g7) := (by
                          intro b hb e
                          rcases hat9 with h1 | h1
                          · rw [h1] at hb
                            exact HO3.out b hb e
                          · rw [h1] at hb
                            injection hb with hb
                            simp at hb
                            omega)
                      ; have hB9 : Below wo.heap.size wo w9 := (HF8.out.below (by exact (by repeat (first | exact Below.refl _ _ | assumption | refine Below.setCell ?_ (by first | omega | (simp <;> omega)) _ | refine Below.alloc ?_ (by first | omega | (simp <;> omega)) _ | refine Below.drew ?_)))).grew (hB8w.trans (Below.mono (by exact (by repeat (first | exact Below.refl _ _ | assumption | refine Below.setCell ?_ (by first | omega | (simp <;> omega)) _ | refine Below.alloc ?_ (by first | omega | (simp <;> omega)) _ | refine Below.drew ?_))) (Nat.le_trans hBjz hz8))) hg9 (Nat.le_refl _) (by simp; omega)
                      ; have hz9 : w7.heap.size ≤ w9.heap.size := (by have := hg9.size; simp at this; omega)
                      ; have HF9 := Lib.hid hF9
                      ; clear hF9 hg9 hat9)
                  | (go_simp; go_at_call 82; refine (HST.out _ (by exact (by repeat (first | exact Below.refl _ _ | assumption | refine Below.setCell ?_ (by first | omega | (simp <;> omega)) _ | refine Below.alloc ?_ (by first | omega | (simp <;> omega)) _ | refine Below.drew ?_)))).mono ?_; rintro e w8 ⟨v8, rfl, hF8, hb8⟩
                      ; have hB8 : Below wr.heap.size wr w8 := (by first | exact hb8 | exact ((Below.refl _ _).drew).trans hb8)
                      ; obtain ⟨A8, c8, rfl, -, -⟩ := hF8.ints
                      ; have HF8b : Hid (Fresh (B3 l3.length) w8 (.slice A8 (natI (Grp.step T i u x)).length c8) (natI (Grp.step T i u x))) := hF8.mono htop3
                      ; have HF8 := Lib.hid (HF3.out.below hB8)
                      ; have HI8 := Lib.hid (HI3.out.below hB8)
                      ; have hB8w := belowStep hB8 hBj
                      ; have hz8 : wr.heap.size ≤ w8.heap.size := hB8.size
                      ; clear hF8 hb8))
                all_goals
                  go_wp2_with fail
                  go_roundw
                  case rel => exact ⟨j + 1, _, _, by omega, by go_num, by unfold Hid; rw [HLM.out]; exact HF9.out, HI9, HO9, hz9, hB9⟩
                  case measure => simp [intOf]; omega
              · obtain rfl : j = Vl.length := by omega
                have hnx : Hid (FrL wo.heap.size wr (.slice Am (lvlTo N T i l k Vl.length).length cm) (lvlTo N T i l (k + 1) 0) V3 B3) := by
                  unfold Hid
                  have := lvlTo_next (n := N) (T := T) (i := i) hkl
                  rw [HU.out, HVL.out] at this
                  rw [← this]
                  exact HF3.out
                go_wp2_with fail
                go_roundw
                case rel => exact ⟨k + 1, V3, B3, by omega, by go_num, hnx, hBj⟩
                case measure => simp [intOf]; omega
          · obtain rfl : k = l.length := by omega
            have hend : Hid (FrL w.heap.size wk (.slice Al (lvlTo N T i l l.length 0).length cl) (lvl N T i l) V2 B2) := by
              unfold Hid
              have := HF2.out.mono (base' := w.heap.size) (by omega)
              rwa [lvlTo_end] at this ⊢
            have HP2 : Hid (∀ u, u ∈ lvl N T i l → IsP N u) := lvl_isP HCH.out hlt HLP.out
            have HA2 : Hid (allF N T (N - (i + 1)) (i + 1) (lvl N T i l) = M) := by
              unfold Hid
              have := HAL.out
              rw [show N - i = (N - (i + 1)) + 1 by omega, allF] at this
              exact this
            go_wp2_with fail
            go_roundw
            case rel => exact ⟨i + 1, _, V2, B2, by omega, by go_num, hend, HP2, HA2, belowStep hBk hBr⟩
            case measure => simp [intOf]; omega
      · obtain rfl : i = N := by omega
        have he := HAL.out
        rw [Nat.sub_self] at he
        have he : l = M := he
        subst he
        go_wp2_with fail
        go_ret
        exact ⟨_, V, B, rfl, HF.out, belowStep hBr hB5⟩
  · have hle2 : (3000 : Int) < (O : Int) := by omega
    have hres : allR N (gT N ps) = [] := by unfold allR; rw [hO, if_neg hle]
    rw [hres]
    clear hres h hP hO hob
    go_enter Try.func121, Try.ntmps121
    go_wp2_with (first
      | (go_at_call 71; refine (newS N ps g ps.length c _ (by exact HL.out) rfl HP.out h0 hN h8).mono ?_; rintro e w2 ⟨C, T, rfl, hC, hc, hone, hB2⟩
          ; have HC := Lib.hid hC; have HCH := Lib.hid hc; clear hC hc hone
          ; have HOR : Hid (ordG N T 0 = O) := (by unfold Hid; rw [ordG_eq HCH.out (gT_chain HP.out) (Nat.zero_le _), HOG.out]))
      | (go_at_call 110; refine (specOrder C N T _ HC.out HCH.out hN).mono ?_; rw [HOR.out]; rintro e w3 ⟨rfl, hb3⟩; have hB3 := belowStep hb3 hB2))
    go_ret
    exact ⟨_, _, _, rfl, (FrL.empty w3.heap.size w3 (Nat.le_refl _)).mono hB3.size, hB3.alloc hB3.size _⟩
noncomputable def memQ (n : Int) (ls : List (List Int)) : List (List Int) := if gsQ n ls then (allR n.toNat (tQ n ls)).map natI else []
theorem memQ_no {n : Int} {ls : List (List Int)} (h : gsQ n ls = false) : memQ n ls = [] := by unfold memQ; rw [h]; rfl
theorem memQ_yes {N : Nat} {ps : List (List Nat)} (h : gsQ (N : Int) (ps.map natI) = true) : memQ (N : Int) (ps.map natI) = (allR N (gT N ps)).map natI := by
  unfold memQ
  rw [h, tQ_eq]
  rfl
theorem memQ_len (n : Int) (ls : List (List Int)) : (memQ n ls).length ≤ 1048576 ∧ ShortL (memQ n ls) := by
  cases h : gsQ n ls with
  | false => rw [memQ_no h]; exact ⟨Nat.zero_le _, fun i hi => by simp at hi⟩
  | true =>
    obtain ⟨N, ps, rfl, h0, hN, rfl, -, hP⟩ := gsOpen h
    rw [memQ_yes h]
    have h1 := allR_len N (gT N ps)
    exact ⟨by rw [List.length_map]; omega, shortMap (allR_isP (gT_chain hP)) hN⟩
set_option maxRecDepth 100000 in
set_option maxHeartbeats 4000000 in
theorem implMem (n : Int) (g c : Nat) (ls : List (List Int)) (w : World) (h : LOwn w g ls) (hl : ls.length ≤ 1048576) (hs : ShortL ls) :
    Calls Try.prog 65 #[.int .i64 n, .slice (some ⟨g, 0, none⟩) ls.length c] w (ReadsLists (memQ n ls) w) := by
  have hg0 := implGs (some ⟨g, 0, none⟩) c n ls w h.at_ hl hs
  cases hgs : gsQ n ls with
  | false =>
    rw [memQ_no hgs]
    rw [hgs] at hg0
    have HG0 := Lib.hid hg0
    clear hg0 hgs hs
    go_enter Try.func65, Try.ntmps65
    go_wp2_with (first | (go_at_call 73; refine HG0.out.mono ?_; rintro e w1 ⟨rfl, hB1⟩))
    go_ret
    exact ⟨_, rfl, (FrL.nil w.heap.size w1 hB1.size).fls, hB1⟩
  | true =>
    rw [hgs] at hg0
    obtain ⟨N, ps, rfl, h0, hN, rfl, h8, hP⟩ := gsOpen hgs
    rw [memQ_yes hgs]
    have hm : (ps.map natI).length = ps.length := List.length_map ..
    rw [hm] at hg0
    rw [hm]
    obtain ⟨M, hM⟩ : ∃ M, allR N (gT N ps) = M := ⟨_, rfl⟩
    rw [hM]
    have HM := Lib.hid hM
    have HG0 := Lib.hid hg0
    have HL := Lib.hid h
    have HP := Lib.hid hP
    clear hg0 hgs hs h hP hm hM hl
    go_enter Try.func65, Try.ntmps65
    go_wp2_with (first
      | (go_at_call 73; refine HG0.out.mono ?_; rintro e w1 ⟨rfl, hB1⟩)
      | (go_at_call 76; refine (newI N ps g ps.length c _ (by exact HL.out.below hB1) rfl HP.out h0 hN h8).mono ?_; rintro e w2 ⟨C, T, rfl, hC, hc, hone, hb2⟩
          ; have HC := Lib.hid hC; have HCH := Lib.hid hc; have hB2 := belowStep hb2 hB1; clear hC hc hone hb2
          ; have HMM : Hid (allR N T = M) := (by unfold Hid; rw [allR_eq HCH.out (gT_chain HP.out), HM.out]))
      | (go_at_call 122; refine (implMembersC C N T _ HC.out HCH.out hN h0).mono ?_; rw [HMM.out]; rintro e w3 ⟨v3, b3, rfl, ⟨V, B, hF3⟩, hb3⟩; obtain ⟨A3, c3, rfl, -⟩ := hF3.shape))
    go_ret
    exact ⟨_, rfl, (hF3.mono hB2.size).fls, belowStep hb3 hB2⟩
set_option maxRecDepth 100000 in
set_option maxHeartbeats 4000000 in
theorem specMem (n : Int) (g c : Nat) (ls : List (List Int)) (w : World) (h : LOwn w g ls) (hl : ls.length ≤ 1048576) (hs : ShortL ls) :
    Calls Try.prog 64 #[.int .i64 n, .slice (some ⟨g, 0, none⟩) ls.length c] w (ReadsLists (memQ n ls) w) := by
  have hg0 := specGs (some ⟨g, 0, none⟩) c n ls w h.at_ hl hs
  cases hgs : gsQ n ls with
  | false =>
    rw [memQ_no hgs]
    rw [hgs] at hg0
    have HG0 := Lib.hid hg0
    clear hg0 hgs hs
    go_enter Try.func64, Try.ntmps64
    go_wp2_with (first | (go_at_call 53; refine HG0.out.mono ?_; rintro e w1 ⟨rfl, n1, rfl⟩))
    go_ret
    exact ⟨_, rfl, (FrL.empty w.heap.size (w.drewN n1) (Nat.le_refl _)).fls, (belowDrewN (Below.refl _ _) _).alloc (Nat.le_refl _) _⟩
  | true =>
    rw [hgs] at hg0
    obtain ⟨N, ps, rfl, h0, hN, rfl, h8, hP⟩ := gsOpen hgs
    rw [memQ_yes hgs]
    have hm : (ps.map natI).length = ps.length := List.length_map ..
    rw [hm] at hg0
    rw [hm]
    have HG0 := Lib.hid hg0
    have HAL := Lib.hid (fun (wx : World) (hb : Below w.heap.size w wx) => specAll N g c ps.length ps wx (h.below hb) rfl hP h0 hN h8)
    obtain ⟨M, hM⟩ : ∃ M, allR N (gT N ps) = M := ⟨_, rfl⟩
    rw [hM] at HAL
    rw [hM]
    clear hg0 hgs hs h hP hm hM hl
    go_enter Try.func64, Try.ntmps64
    go_wp2_with (first
      | (go_at_call 53; refine HG0.out.mono ?_; rintro e w1 ⟨rfl, n1, rfl⟩)
      | (go_at_call 121; refine (HAL.out _ (by exact belowDrewN (Below.refl _ _) _)).mono ?_; rintro e w3 ⟨v3, V, B, rfl, hF3, hb3⟩; obtain ⟨A3, c3, rfl, -⟩ := hF3.shape))
    go_ret
    exact ⟨_, rfl, hF3.fls, belowStep hb3 (belowDrewN (Below.refl _ _) _)⟩
end Go.Proofs.Ytpcnbjfkobeibaa
