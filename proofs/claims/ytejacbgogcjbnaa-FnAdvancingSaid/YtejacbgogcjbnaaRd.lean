/- A round's ranks and who advances, at the implementation. Conditions: as each contract says. -/
import Derived.Test.YtejacbgogcjbnaaEw
namespace Go.Proofs.Ytejacbgogcjbnaa
open Go.RowKit

def AllOk (es : List Ent) : Prop := ∀ i, i < es.length → entOk (es.getD i (0, [])).1 (es.getD i (0, [])).2 = true
theorem AllOk.short {es : List Ent} (h : AllOk es) : Short es := fun i hi => by have := (entOk_parts (h i hi)).1; omega
set_option maxRecDepth 3000 in
set_option maxHeartbeats 2000000 in
theorem rankedA (r : RR) (A : Option Addr) (c : Nat) (es : List Ent) (w : World) (hx : EntsAt w A es) (hl12 : es.length ≤ 12) (hok : AllOk es) :
    Calls Try.prog 44 #[.slice A es.length c, .func (.func 54) #[.agg #[.int .i64 r.att, .int .i64 r.lim, .int .i64 r.catt, .int .i64 r.cut, .int .i64 r.adv]] #[]] w (IntsPost (ranksBy (aheadE r) es) w) := by
  have HOK := Lib.hid hok
  clear hok
  have hE : Fresh w.heap.size w (.slice none 0 0) [] := Fresh.nil _ _
  go_enter Try.func44, Try.ntmps44
  go_wp2_with fail
  go_loopw [5, 13] (fun v j wr => ∃ (i : Nat) (l : List Int), i ≤ es.length ∧ j = .int .i64 i ∧ Fresh w.heap.size wr v l ∧ Hid (ranksTo (aheadE r) es i = l) ∧ Below w.heap.size w wr) (fun _ j _ => es.length - (intOf j).toNat)
  case atStart => exact ⟨0, [], Nat.zero_le _, rfl, hE, rfl, Below.refl _ _⟩
  case round =>
    obtain ⟨i, l, hi, rfl, hF, HL, hB⟩ := hrel
    clear hE
    by_cases hlt : i < es.length
    · obtain ⟨b, off, e1, Ai, ci, ys, rfl, hb, hc0, hc1, hI, hcap, HX⟩ := (hx.below hB).at_ hlt
      have p0 : (0 : Int) ≤ (i : Int) := by omega
      have p1 : (i : Int) < (es.length : Int) := by omega
      have hxw := hx.below hB
      have HV := Lib.hid (show entOk e1 ys = true by have := HOK.out i hlt; rw [HX.out] at this; exact this)
      have hyn : ys.length ≤ 5 := (entOk_parts HV.out).1
      have hll : l.length ≤ 1048576 := by rw [← HL.out, ranksTo_len]; omega
      obtain ⟨wo, rfl⟩ : ∃ wo : World, wo = wr := ⟨_, rfl⟩
      have hbo : Below wo.heap.size wo (wo.alloc (.cells #[.int .i64 e1, .slice Ai ys.length ci] 32)) := (by repeat (first | exact Below.refl _ _ | assumption | refine Below.setCell ?_ (by first | omega | (simp <;> omega)) _ | refine Below.alloc ?_ (by first | omega | (simp <;> omega)) _ | refine Below.drew ?_))
      have hrow := heap_alloc_new wo (.cells #[.int .i64 e1, .slice Ai ys.length ci] 32)
      have g0 : (wo.alloc (.cells #[.int .i64 e1, .slice Ai ys.length ci] 32)).cell? ⟨wo.heap.size, 0, none⟩ = some (.int .i64 e1) := (cell_of_row _ _ 0 _ _ (0, 0) hrow).trans rfl
      have g1 : (wo.alloc (.cells #[.int .i64 e1, .slice Ai ys.length ci] 32)).cell? ⟨wo.heap.size, 1, none⟩ = some (.slice Ai ys.length ci) := (cell_of_row _ _ 1 _ _ (0, 0) hrow).trans rfl
      have hz : wo.heap.size < (wo.alloc (.cells #[.int .i64 e1, .slice Ai ys.length ci] 32)).heap.size := (Array.getElem?_eq_some_iff.1 hrow).1
      clear hrow
      go_wp2_with fail
      go_loopw [8, 19] (fun q j wr => ∃ (k : Nat) (x : Int), k ≤ es.length ∧ j = .int .i64 k ∧ q = .int .i64 x ∧ 1 ≤ x ∧ x ≤ 1 + (k : Int) ∧ Hid (countTo (aheadE r) es (e1, ys) k = x) ∧ Below wo.heap.size wo wr ∧ wo.heap.size < wr.heap.size ∧ wr.cell? ⟨wo.heap.size, 0, none⟩ = some (.int .i64 e1) ∧ wr.cell? ⟨wo.heap.size, 1, none⟩ = some (.slice Ai ys.length ci)) (fun _ j _ => es.length - (intOf j).toNat)
      case atStart => exact ⟨0, 1, Nat.zero_le _, rfl, rfl, by omega, by omega, rfl, hbo, hz, g0, g1⟩
      case round =>
        obtain ⟨k, x, hk, rfl, rfl, x0, x1, HC, hb2, hz2, r0, r1⟩ := hrel
        clear g0 g1 hbo hz
        by_cases hlk : k < es.length
        · obtain ⟨b', off', e2, Ak, ck, zs, e', hb', hd0, hd1, hIk, hcapk, HZ⟩ := (hxw.below hb2).at_ hlk
          injection e' with e'
          injection e' with ee1 ee2
          subst ee1 ee2
          have q0 : (0 : Int) ≤ (k : Int) := by omega
          have q1 : (k : Int) < (es.length : Int) := by omega
          have hbk : Below wr.heap.size wr (wr.alloc (.cells #[.int .i64 e2, .slice Ak zs.length ck] 32)) := (by repeat (first | exact Below.refl _ _ | assumption | refine Below.setCell ?_ (by first | omega | (simp <;> omega)) _ | refine Below.alloc ?_ (by first | omega | (simp <;> omega)) _ | refine Below.drew ?_))
          have hIy := (hI.below hb2).below hbk
          have hIz := hIk.below hbk
          have hsz : (wr.alloc (.cells #[.int .i64 e2, .slice Ak zs.length ck] 32)).heap.size = wr.heap.size + 1 := Array.size_push _
          have s0 := (hbk.cell (p := ⟨wo.heap.size, 0, none⟩) hz2).trans r0
          have s1 := (hbk.cell (p := ⟨wo.heap.size, 1, none⟩) hz2).trans r1
          have HVZ := Lib.hid (show entOk e2 zs = true by have := HOK.out k hlk; rw [HZ.out] at this; exact this)
          have hzn : zs.length ≤ 5 := (entOk_parts HVZ.out).1
          cases hs : aheadE r (e2, zs) (e1, ys)
          all_goals
            have HS := Lib.hid hs
            clear hs
            go_wp2_with fail
            refine (implAhead r e2 Ak ck zs e1 Ai ci ys zs.length ys.length _ (by exact hIz) (by exact hIy) rfl rfl hzn hyn HVZ.out HV.out).mono ?_
            rintro e w3 ⟨rfl, hb3⟩
            rw [HS.out]
            have hb4 := belowStep hb3 (belowStep hbk hb2)
            have hz3 : wo.heap.size < w3.heap.size := by have := hb3.size; omega
            have t0 := (hb3.cell (p := ⟨wo.heap.size, 0, none⟩) (show wo.heap.size < _ by omega)).trans s0
            have t1 := (hb3.cell (p := ⟨wo.heap.size, 1, none⟩) (show wo.heap.size < _ by omega)).trans s1
            clear s0 s1 r0 r1
            go_wp2_with fail
            go_roundw
            case rel => exact ⟨k + 1, _, by omega, by go_num, rfl, by omega, by omega, by first | exact countTo_no HZ.out HC.out HS.out | exact countTo_yes HZ.out HC.out HS.out, hb4, hz3, t0, t1⟩
            case measure => simp [intOf]; omega
        · obtain rfl : k = es.length := by omega
          have HLN : Hid (ranksTo (aheadE r) es (i + 1) = l ++ [x]) := ranksTo_more HX.out HL.out HC.out
          have hF2 := hF.below hb2
          have hB2 := belowStep hb2 hB
          have hBz := hB2.size
          clear hF r0 r1
          go_wp2_with (first | (at_builtin; refine append_one rfl (.tmp 30) (.tmp 32) rfl w.heap.size _ l x rfl (hF2.below (by repeat (first | exact Below.refl _ _ | assumption | refine Below.setCell ?_ (by first | omega | (simp <;> omega)) _ | refine Below.alloc ?_ (by first | omega | (simp <;> omega)) _ | refine Below.drew ?_))) wr.heap.size rfl (by simp) hll (by simp; omega) ?_; intro v4 w4 hF4 hg4 hb4))
          go_roundw
          case rel => exact ⟨i + 1, _, by omega, by go_num, hF4, HLN, (hB2.alloc hB2.size _).trans hb4⟩
          case measure => simp [intOf]; omega
    · obtain rfl : i = es.length := by omega
      go_wp2_with fail
      go_ret
      exact ⟨_, rfl, by rw [ranksBy, HL.out]; exact hF, hB⟩
def normTake (r : RR) (es : List Ent) (i : Nat) : List Ent := (es.take i).map (normE r)
theorem normTake_more (r : RR) (es : List Ent) (i : Nat) (hi : i < es.length) {k : Int} {xs : List Int} (he : es.getD i (0, []) = (k, xs)) : normTake r es (i + 1) = normTake r es i ++ [(k, normL r xs)] := by
  rw [normTake, etake_get es i hi, he]; simp [normTake, normE]
theorem normTake_len (r : RR) (es : List Ent) (i : Nat) : (normTake r es i).length ≤ i := by simp [normTake]; omega
theorem normTake_all (r : RR) (es : List Ent) : normTake r es es.length = es.map (normE r) := by rw [normTake, List.take_of_length_le (Nat.le_refl _)]
theorem norm_all {r : RR} (hr : r.ok = true) {es : List Ent} (h : AllOk es) : AllOk (es.map (normE r)) := by
  intro i hi
  have hi2 : i < es.length := by simpa using hi
  have := normE_ok hr (e := es.getD i (0, [])) (h i hi2)
  rw [egetD_at _ _ hi2] at this
  rw [egetD_at _ _ hi, List.getElem_map]
  exact this
def roundOk (r : RR) (es : List Ent) : Bool := r.ok && entsOk es
def RoundPost (r : RR) (es : List Ent) (w : World) (e : Ending) (w' : World) : Prop :=
  ∃ v1 v2, e = .returned (.tuple #[v1, v2, .bool (roundOk r es)]) ∧ EntsW w.heap.size w' v1 (if roundOk r es then es.map (normE r) else []) ∧ Fresh w.heap.size w' v2 (roundRes r es) ∧ Below w.heap.size w w'
theorem round_no {r : RR} {es : List Ent} (h : roundOk r es = false) : roundRes r es = [] := by unfold roundRes; unfold roundOk at h; rw [h]; rfl
theorem round_yes {r : RR} {es : List Ent} (h : roundOk r es = true) : roundRes r es = ranksBy (aheadE r) (es.map (normE r)) := by unfold roundRes; unfold roundOk at h; rw [h]; rfl
theorem RX.new (w : World) (r : RR) : RX (w.alloc (.cells #[.int .i64 r.att, .int .i64 r.lim, .int .i64 r.catt, .int .i64 r.cut, .int .i64 r.adv] 25)) w.heap.size r :=
  ⟨(Array.getElem?_eq_some_iff.1 (heap_alloc_new w _)).1, BoxRR.new w r 25⟩
set_option maxRecDepth 3000 in
set_option maxHeartbeats 4000000 in
theorem implRound (r : RR) (A : Option Addr) (c : Nat) (es : List Ent) (w : World) (hx : EntsAt w A es) (hl : es.length ≤ 1048576) (hlc : es.length ≤ c) (hs : Short es) :
    Calls Try.prog 22 #[.agg #[.int .i64 r.att, .int .i64 r.lim, .int .i64 r.catt, .int .i64 r.cut, .int .i64 r.adv], .slice A es.length c] w (RoundPost r es w) := by
  have HS := Lib.hid hs
  clear hs
  obtain ⟨w0, hw0⟩ : ∃ w0, w.alloc (.cells #[.int .i64 r.att, .int .i64 r.lim, .int .i64 r.catt, .int .i64 r.cut, .int .i64 r.adv] 25) = w0 := ⟨_, rfl⟩
  have hB0 : Below w.heap.size w w0 := by rw [← hw0]; exact (by repeat (first | exact Below.refl _ _ | assumption | refine Below.setCell ?_ (by first | omega | (simp <;> omega)) _ | refine Below.alloc ?_ (by first | omega | (simp <;> omega)) _ | refine Below.drew ?_))
  have HX0 : Hid (RX w0 w.heap.size r) := by rw [← hw0]; exact RX.new w r
  have hx0 := hx.below hB0
  clear hx
  obtain ⟨hH, b0, b1, b2, b3, b4⟩ := HX0.out
  cases h1 : r.ok
  · have HN : Hid (roundOk r es = false) := by unfold Hid; rw [roundOk, h1]; rfl
    go_enter Try.func22, Try.ntmps22
    go_wp2_with fail
    refine (implIsValidRR r _).mono ?_
    rintro e w1 ⟨rfl, hb1⟩
    rw [h1]
    clear b0 b1 b2 b3 b4
    go_wp2_with fail
    exact bodyPost_ret (v := .tuple #[.slice none 0 0, .slice none 0 0, .bool false]) (by simp [results, Try.results22, go_sem]) rfl ⟨_, _, by rw [HN.out], by rw [HN.out]; exact EntsW.nil _ _, by rw [round_no HN.out]; exact Fresh.nil _ _, belowStep hb1 hB0⟩
  cases h2 : entsOk es
  · have HN : Hid (roundOk r es = false) := by unfold Hid; rw [roundOk, h1, h2]; rfl
    go_enter Try.func22, Try.ntmps22
    go_wp2_with fail
    refine (implIsValidRR r _).mono ?_
    rintro e w1 ⟨rfl, hb1⟩
    rw [h1]
    clear b0 b1 b2 b3 b4
    obtain ⟨hH1, b0, b1, b2, b3, b4⟩ := HX0.out.below hb1
    have hB1 := belowStep hb1 hB0
    have hx1 := hx0.below hb1
    clear hb1
    go_wp2_with fail
    refine (implAve A c es _ (by exact hx1) hl hlc HS.out).mono ?_
    rintro e w2 ⟨rfl, hb2⟩
    rw [h2]
    clear b0 b1 b2 b3 b4
    go_wp2_with fail
    exact bodyPost_ret (v := .tuple #[.slice none 0 0, .slice none 0 0, .bool false]) (by simp [results, Try.results22, go_sem]) rfl ⟨_, _, by rw [HN.out], by rw [HN.out]; exact EntsW.nil _ _, by rw [round_no HN.out]; exact Fresh.nil _ _, belowStep hb2 hB1⟩
  · have HN : Hid (roundOk r es = true) := by unfold Hid; rw [roundOk, h1, h2]; rfl
    have hl12 := (entsOk_parts h2).1
    have HOK : Hid (AllOk es) := (entsOk_parts h2).2
    have HR := Lib.hid h1
    go_enter Try.func22, Try.ntmps22
    go_wp2_with fail
    refine (implIsValidRR r _).mono ?_
    rintro e w1 ⟨rfl, hb1⟩
    rw [h1]
    clear b0 b1 b2 b3 b4
    have HX1 := Lib.hid (HX0.out.below hb1)
    obtain ⟨hH1, b0, b1, b2, b3, b4⟩ := HX1.out
    have hB1 := belowStep hb1 hB0
    have hx1 := hx0.below hb1
    clear hb1
    go_wp2_with fail
    refine (implAve A c es _ (by exact hx1) hl hlc HS.out).mono ?_
    rintro e w2 ⟨rfl, hb2⟩
    rw [h2]
    clear b0 b1 b2 b3 b4 h1 h2
    have HX2 := Lib.hid (HX1.out.below hb2)
    have hB2 := belowStep hb2 hB1
    have hx2 := hx1.below hb2
    clear hb2
    go_wp2_with fail
    go_loopw [7, 20] (fun v j wr => ∃ (i : Nat) (l : List Ent), i ≤ es.length ∧ j = .int .i64 i ∧ EntsW w2.heap.size wr v l ∧ Hid (normTake r es i = l) ∧ Below w2.heap.size w2 wr) (fun _ j _ => es.length - (intOf j).toNat)
    case atStart => exact ⟨0, [], Nat.zero_le _, rfl, EntsW.nil _ _, by simp [Hid, normTake], Below.refl _ _⟩
    case round =>
      obtain ⟨i, l, hi, rfl, hF, HL, hB⟩ := hrel
      have HX3 := Lib.hid (HX2.out.below hB)
      obtain ⟨hH3, b0, b1, b2, b3, b4⟩ := HX3.out
      by_cases hlt : i < es.length
      · obtain ⟨b, off, e1, Ai, ci, ys, rfl, hb, hc0, hc1, hI, hcap, HX⟩ := (hx2.below hB).at_ hlt
        have p0 : (0 : Int) ≤ (i : Int) := by omega
        have p1 : (i : Int) < (es.length : Int) := by omega
        have HV := Lib.hid (show entOk e1 ys = true by have := HOK.out i hlt; rw [HX.out] at this; exact this)
        have hyn : ys.length ≤ 5 := (entOk_parts HV.out).1
        have hll : l.length ≤ 1048576 := by rw [← HL.out]; have := normTake_len r es i; omega
        have HLN : Hid (normTake r es (i + 1) = l ++ [(e1, normL r ys)]) := by unfold Hid; rw [normTake_more r es i hlt HX.out, HL.out]
        obtain ⟨wo, hwo⟩ : ∃ wo, wr.alloc (.cells #[.int .i64 e1, .slice Ai ys.length ci] 32) = wo := ⟨_, rfl⟩
        have hbo : Below wr.heap.size wr wo := by rw [← hwo]; exact (by repeat (first | exact Below.refl _ _ | assumption | refine Below.setCell ?_ (by first | omega | (simp <;> omega)) _ | refine Below.alloc ?_ (by first | omega | (simp <;> omega)) _ | refine Below.drew ?_))
        have hrow := heap_alloc_new wr (.cells #[.int .i64 e1, .slice Ai ys.length ci] 32)
        rw [hwo] at hrow
        have g0 : wo.cell? ⟨wr.heap.size, 0, none⟩ = some (.int .i64 e1) := (cell_of_row _ _ 0 _ _ (0, 0) hrow).trans rfl
        have g1 : wo.cell? ⟨wr.heap.size, 1, none⟩ = some (.slice Ai ys.length ci) := (cell_of_row _ _ 1 _ _ (0, 0) hrow).trans rfl
        have hIo := hI.below hbo
        have hFo := hF.below hbo
        have hBo := belowStep hbo hB
        obtain ⟨-, d0, d1, d2, d3, d4⟩ := HX3.out.below hbo
        clear hrow hF
        go_wp2_with fail
        refine (implNorm r e1 Ai ci ys _ (by exact hIo) hyn hcap HR.out).mono ?_
        rintro e w3 ⟨v3, rfl, hF3, hb3⟩
        clear d0 d1 d2 d3 d4 g0 g1 b0 b1 b2 b3 b4
        obtain ⟨A3, c3, hlc3, rfl, hI3⟩ := hF3.capped
        have hE3 := hFo.below hb3
        have hsep : 0 < (normL r ys).length → Sep u7 A3 := by
          intro hp h bb oo f1 e2 e3
          have h1 := hFo.under h f1
          obtain ⟨A', c', he', -, hA'⟩ := hF3.ints
          have he'' : A3 = A' := by simpa using (Value.slice.inj he').1
          subst he''
          rcases hA' with rfl | ⟨g', rfl, hg', _⟩
          · cases e2
          · have e5 : g' = bb := by have := Option.some.inj e2; simpa using congrArg Addr.block this
            omega
        have hB3 := belowStep hb3 hBo
        have hz3 := hB3.size
        clear hF3 hFo
        go_wp2_with (first | (at_builtin; refine append_ent rfl (.tmp 24) (.tmp 28) rfl w2.heap.size _ l e1 A3 c3 (normL r ys) rfl (hE3.below (by repeat (first | exact Below.refl _ _ | assumption | refine Below.setCell ?_ (by first | omega | (simp <;> omega)) _ | refine Below.alloc ?_ (by first | omega | (simp <;> omega)) _ | refine Below.drew ?_))) w3.heap.size rfl (by simp) (by simp) (by exact hI3.below (by repeat (first | exact Below.refl _ _ | assumption | refine Below.setCell ?_ (by first | omega | (simp <;> omega)) _ | refine Below.alloc ?_ (by first | omega | (simp <;> omega)) _ | refine Below.drew ?_))) hlc3 hsep hll (by simp; omega) ?_; intro v4 w4 hF4 hg4 hb4))
        go_roundw
        case rel => exact ⟨i + 1, _, by omega, by go_num, hF4, HLN, (hB3.alloc hB3.size _).trans hb4⟩
        case measure => simp [intOf]; omega
      · obtain rfl : i = es.length := by omega
        have hL2 := HL.out
        rw [normTake_all] at hL2
        subst hL2
        have hnl : (es.map (normE r)).length = es.length := by simp
        obtain ⟨A3, c3, rfl, hlc3, hE3⟩ := hF.ents
        have HF := Lib.hid hF
        have HOK2 := Lib.hid (norm_all HR.out HOK.out)
        have HNL := Lib.hid hnl
        have HRY := Lib.hid (round_yes HN.out)
        clear hF HL hnl
        obtain ⟨ns, hns⟩ : ∃ ns, es.map (normE r) = ns := ⟨_, rfl⟩
        rw [hns] at hE3 hlc3 HF HOK2 HNL HRY ⊢
        have HNS := Lib.hid hns
        clear hns
        go_wp2_with fail
        refine (rankedA r A3 c3 ns _ hE3 (by have := HNL.out; omega) HOK2.out).mono ?_
        rintro e w5 ⟨v5, rfl, hF5, hb5⟩
        go_wp2_with fail
        have hz := (belowStep hB hB2).size
        have hz2 := hB2.size
        exact bodyPost_ret (v := .tuple #[.slice A3 ns.length c3, v5, .bool true]) (by simp [results, Try.results22, go_sem]) rfl ⟨_, _, by rw [HN.out], by rw [HN.out, if_pos rfl, HNS.out]; exact EntsW.mono (HF.out.below hb5) hz2, by rw [HRY.out]; exact hF5.mono hz, belowStep hb5 (belowStep hB hB2)⟩
theorem adv_no {r : RR} {es : List Ent} (h : roundOk r es = false) : advRes r es = [] := by unfold advRes; unfold roundOk at h; rw [h]; rfl
theorem adv_yes {r : RR} {es : List Ent} (h : roundOk r es = true) : advRes r es = firstTo (es.map (normE r)) (roundRes r es) r.adv.toNat := by rw [round_yes h]; unfold advRes; unfold roundOk at h; rw [h]; rfl
theorem roundRes_size {r : RR} {es : List Ent} (h : roundOk r es = true) : (roundRes r es).length = es.length := by rw [round_yes h, ranksBy_len, List.length_map]
set_option maxHeartbeats 1000000 in
theorem implAdv (r : RR) (A : Option Addr) (c : Nat) (es : List Ent) (w : World) (hx : EntsAt w A es) (hl : es.length ≤ 1048576) (hlc : es.length ≤ c) (hs : Short es) :
    Calls Try.prog 8 #[.agg #[.int .i64 r.att, .int .i64 r.lim, .int .i64 r.catt, .int .i64 r.cut, .int .i64 r.adv], .slice A es.length c] w (IntsPost (advRes r es) w) := by
  have HS := Lib.hid hs
  clear hs
  obtain ⟨w0, hw0⟩ : ∃ w0, w.alloc (.cells #[.int .i64 r.att, .int .i64 r.lim, .int .i64 r.catt, .int .i64 r.cut, .int .i64 r.adv] 25) = w0 := ⟨_, rfl⟩
  have hB0 : Below w.heap.size w w0 := by rw [← hw0]; exact (by repeat (first | exact Below.refl _ _ | assumption | refine Below.setCell ?_ (by first | omega | (simp <;> omega)) _ | refine Below.alloc ?_ (by first | omega | (simp <;> omega)) _ | refine Below.drew ?_))
  have HX0 : Hid (RX w0 w.heap.size r) := by rw [← hw0]; exact RX.new w r
  have hx0 := hx.below hB0
  obtain ⟨hH, b0, b1, b2, b3, b4⟩ := HX0.out
  have hr := implRound r A c es w0 hx0 hl hlc HS.out
  cases h1 : roundOk r es
  · have HN := Lib.hid h1
    go_enter Try.func8, Try.ntmps8
    go_wp2_with fail
    refine hr.mono ?_
    rintro e w1 ⟨v1, v2, rfl, hE1, hF1, hb1⟩
    rw [HN.out]
    clear b0 b1 b2 b3 b4 hr
    go_wp2_with fail
    go_ret
    exact ⟨_, rfl, by rw [adv_no HN.out]; exact Fresh.nil _ _, belowStep hb1 hB0⟩
  · have HN := Lib.hid h1
    go_enter Try.func8, Try.ntmps8
    go_wp2_with fail
    refine hr.mono ?_
    rintro e w1 ⟨v1, v2, rfl, hE1, hF1, hb1⟩
    rw [HN.out] at hE1 ⊢
    rw [if_pos rfl] at hE1
    clear b0 b1 b2 b3 b4 hr
    have HX1 := Lib.hid (HX0.out.below hb1)
    obtain ⟨hH1, b0, b1, b2, b3, b4⟩ := HX1.out
    have hB1 := belowStep hb1 hB0
    obtain ⟨A3, c3, rfl, hlc3, hE3⟩ := hE1.ents
    obtain ⟨A4, c4, rfl, hI4, -⟩ := hF1.ints
    have HRY := Lib.hid (adv_yes HN.out)
    have HLN := Lib.hid (roundRes_size HN.out)
    have hnl : (es.map (normE r)).length = es.length := by simp
    have hnk : roundOk r es = true := HN.out
    rw [roundOk, Bool.and_eq_true] at hnk
    have hl12 := (entsOk_parts hnk.2).1
    have HOK2 := Lib.hid (norm_all hnk.1 (entsOk_parts hnk.2).2)
    have ha12 := (RR.ok_bd hnk.1).2.2.2.2.2.2.2.1
    have ha0 := (RR.ok_bd hnk.1).2.2.2.2.2.2.1
    clear hnk hF1 hE1 h1
    obtain ⟨ns, hns⟩ : ∃ ns, es.map (normE r) = ns := ⟨_, rfl⟩
    obtain ⟨rk, hrk⟩ : ∃ rk, roundRes r es = rk := ⟨_, rfl⟩
    rw [hns] at hE3 hlc3 HOK2 HRY hnl
    rw [hns]
    have HNL := Lib.hid hnl
    rw [hrk] at HRY HLN hI4
    rw [hrk]
    obtain ⟨m, hm⟩ : ∃ m : Nat, r.adv = (m : Int) := ⟨r.adv.toNat, by omega⟩
    have hm2 : r.adv.toNat = m := by omega
    have HM := Lib.hid hm
    have HM2 := Lib.hid hm2
    clear hns hrk hm2 hm hnl
    go_wp2_with fail
    rw [HM.out]
    refine (implFirst A3 c3 ns A4 c4 rk m _ hE3 hI4 (by have := HNL.out; omega) (by have := HLN.out; have := HNL.out; omega) (by have := HM.out; omega) HOK2.out.short rk.length rfl).mono ?_
    rintro e w5 ⟨v5, rfl, hF5, hb5⟩
    go_wp2_with fail
    go_ret
    have hz := hB1.size
    exact ⟨_, rfl, by rw [HRY.out, HM2.out]; exact hF5.mono hz, belowStep hb5 hB1⟩
end Go.Proofs.Ytejacbgogcjbnaa
