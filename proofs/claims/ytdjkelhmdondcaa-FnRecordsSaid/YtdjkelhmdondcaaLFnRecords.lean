/- FnRecords: for every code the law returns true. No conditions. -/
import Derived.Test.YtdjkelhmdondcaaRec
import Derived.Test.YtdjkelhmdondcaaDice
import Derived.Test.YtdjkelhmdondcaaOpen
namespace Go.Proofs.Ytdjkelhmdondcaa.lawFnRecords
open Go.RowKit Go.ChangeShapes Go.WideShapes Go.ChangeAt
set_option maxRecDepth 100000

theorem recTo_split (xs : List Int) (k m : Nat) : ∃ t, recTo xs (k + m) = recTo xs k ++ t ∧ ∀ x ∈ t, (k : Int) ≤ x := by
  induction m with
  | zero => exact ⟨[], by simp, by simp⟩
  | succ m ih =>
    obtain ⟨t, ht, hx⟩ := ih
    rw [← Nat.add_assoc, recTo]
    split
    · refine ⟨t ++ [((k + m : Nat) : Int)], by rw [ht, List.append_assoc], fun x hx2 => ?_⟩
      rcases List.mem_append.1 hx2 with h | h
      · exact hx x h
      · simp at h; omega
    · exact ⟨t, ht, hx⟩
/-- At a record the list goes on with just this index; else with a greater one. -/
theorem rec_here (xs : List Int) (k : Nat) (hk : k < xs.length) {x l : Int} (hx : xs.getD k 0 = x) (hl : bestOf (xs.take k) = l) (h : isRec x l = true) :
    (recTo xs k).length < (recTo xs xs.length).length ∧ (recTo xs xs.length).getD (recTo xs k).length 0 = k := by
  obtain ⟨t, ht, _⟩ := recTo_split xs (k + 1) (xs.length - (k + 1))
  rw [show k + 1 + (xs.length - (k + 1)) = xs.length from by omega, recTo_yes hx hl h, List.append_assoc] at ht
  rw [ht]
  refine ⟨by simp, ?_⟩
  simp [List.getD_eq_getElem?_getD]
theorem rec_not (xs : List Int) (k : Nat) (hk : k < xs.length) {x l : Int} (hx : xs.getD k 0 = x) (hl : bestOf (xs.take k) = l) (h : isRec x l = false) (hlt : (recTo xs k).length < (recTo xs xs.length).length) :
    (recTo xs xs.length).getD (recTo xs k).length 0 ≠ k := by
  obtain ⟨t, ht, hge⟩ := recTo_split xs (k + 1) (xs.length - (k + 1))
  rw [show k + 1 + (xs.length - (k + 1)) = xs.length from by omega, recTo_no hx hl h] at ht
  rw [ht] at hlt ⊢
  cases t with
  | nil => simp at hlt
  | cons y t =>
    have := hge y (by simp)
    simp [List.getD_eq_getElem?_getD]
    omega
def small (x : Int) : Bool := decide (-1 ≤ x ∧ x ≤ 7)
theorem small_okHist {hs : List Int} (h : hs.all small = true) (hl : hs.length ≤ 11) : okHist hs = true := by
  have : hs.all isRes = true := by
    rw [List.all_eq_true] at *
    intro x hx
    have := h x hx
    simp [small] at this
    simp [isRes, inR]
    omega
  simp [okHist, this]; omega

theorem small_best {hs : List Int} (h : hs.all small = true) (k : Nat) : -1 ≤ bestOf (hs.take k) := by
  have h2 : (hs.take k).all isRes = true := by
    have h3 := all_take h k
    rw [List.all_eq_true] at *
    intro x hx
    have := h3 x hx
    simp [small] at this
    simp [isRes, inR]
    omega
  have := best_isRes _ h2
  simp [isRes, inR] at this
  omega
set_option maxHeartbeats 2000000 in
theorem walk (A : Option Addr) (c : Nat) (xs : List Int) (w : World) (hx : BytesAt w A xs) (_hm : xs.length ≤ maxLen) :
    Calls Try.prog 10 #[.slice A xs.length c] w fun e w' => e = .returned (.bool true) ∧ Below w.heap.size w w' := by
  by_cases hl : 4096 < xs.length
  · have hd : decide (4096 < xs.length) = true := by simpa using hl
    go_enter Try.func10, Try.ntmps10
    go_wp2_with (first | (go_at_call 52; refine (big_any _ _ _ _).mono ?_; rintro e w' ⟨rfl, rfl⟩))
    go_ret
    exact ⟨rfl, Below.refl _ _⟩
  have hd : decide (4096 < xs.length) = false := by simpa using hl
  go_enter Try.func10, Try.ntmps10
  go_wp2_with (first | (go_at_call 52; refine (big_any _ _ _ _).mono ?_; rintro e w' ⟨rfl, rfl⟩))
  refine (roll_any A c xs _ _ hx (by omega)).mono ?_
  rintro e w1 ⟨rfl, hD1, hB1⟩
  go_wp2_with fail
  have hB2 : Below w.heap.size w (w1.alloc (.cells #[] 2)) := hB1.alloc hB1.size _
  have hD2 : DiceAt (w1.alloc (.cells #[] 2)) w.heap.size A c xs := hD1.below (by repeat (first | exact Below.refl _ _ | assumption | refine Below.setCell ?_ (by first | omega | (simp <;> omega)) _ | refine Below.alloc ?_ (by first | omega | (simp <;> omega)) _ | refine Below.drew ?_))
  have hE : Fresh (w.heap.size + 1) (w1.alloc (.cells #[] 2)) (.slice (some ⟨w1.heap.size, 0, none⟩) 0 0) [] := Fresh.empty hD1.lt
  clear hD1 hB1
  refine (diceBelow w.heap.size A c xs 12 _ hD2 (by omega) (by omega) (by omega)).mono ?_
  rintro e w3 ⟨k0, rfl, hk0, hk1, hD3, hg3⟩
  have hB3 : Below w.heap.size w w3 := belowGrown hB2 hg3 hB2.size (fun k hk => by injection hk with hk; omega)
  have hE3 := hE.grownNew hg3 (fun k hk => by injection hk with hk; omega)
  clear hE hB2 hD2 hg3
  go_wp2_with fail
  go_loopw [4, 5] (fun v q wr => ∃ (hs : List Int) (k : Int), q = .int .i64 k ∧ 0 ≤ k ∧ (hs.length : Int) + k ≤ 11 ∧ Fresh (w.heap.size + 1) wr v hs ∧ Hid (hs.all small = true) ∧ DiceAt wr w.heap.size A c xs ∧ Below w.heap.size w wr) (fun _ q _ => (intOf q).toNat)
  case atStart => exact ⟨[], k0, rfl, hk0, by simp; omega, hE3, rfl, hD3, hB3⟩
  case round =>
    obtain ⟨hs, k, rfl, hk0', hk1', hF, HS, hD, hB⟩ := hrel
    clear hE3 hD3 hB3 hk0 hk1
    by_cases hpos : 0 < k
    · go_wp2_with fail
      refine (diceBelow w.heap.size A c xs 9 _ hD (by omega) (by omega) (by omega)).mono ?_
      rintro e w4 ⟨y, rfl, hy0, hy1, hD4, hg4⟩
      have hB4 : Below w.heap.size w w4 := belowGrown hB hg4 hB.size (fun k hk => by injection hk with hk; omega)
      have hF4 := hF.grownNew hg4 (fun k hk => by injection hk with hk; omega)
      have hz4 := hD4.lt
      clear hD hg4 hF hB
      have hsl : hs.length ≤ 1048576 := by omega
      go_wp2_with (first | (at_builtin; refine append_one rfl (.tmp 22) (.tmp 26) rfl (w.heap.size + 1) _ hs (y - 1) rfl (hF4.below (by repeat (first | exact Below.refl _ _ | assumption | refine Below.setCell ?_ (by first | omega | (simp <;> omega)) _ | refine Below.alloc ?_ (by first | omega | (simp <;> omega)) _ | refine Below.drew ?_))) w4.heap.size rfl (by simp) hsl (by simp; omega) ?_; intro v5 w5 hF5 hg5 hb5))
      have hB5 : Below w.heap.size w w5 := (hB4.alloc hB4.size _).trans (hb5.mono (by omega))
      have hD5 : DiceAt w5 w.heap.size A c xs := hD4.move (by
        have h1 := hb5.block w.heap.size (by omega)
        rw [h1]
        exact Below.heap_alloc _ _ _ hz4) (hx.below hB5)
      go_roundw
      case rel => exact ⟨hs ++ [y - 1], k - 1, by go_num, by omega, by simp; omega, hF5, by rw [Hid, List.all_append, HS.out]; simp [small]; omega, hD5, hB5⟩
      case measure => simp [intOf]; omega
    · have hsl : hs.length ≤ 1048576 := by omega
      have hok := Lib.hid (small_okHist HS.out (by omega))
      obtain ⟨Ah, ch, hlch, rfl, hIh⟩ := hF.capped
      clear hD hF
      go_wp2_with fail
      refine (implRecords Ah ch hs _ hIh hsl hlch).mono ?_
      rintro e w4 ⟨v4, rfl, hF4, hb4⟩
      obtain ⟨r, hr⟩ : ∃ r, recTo hs hs.length = r := ⟨_, rfl⟩
      have HR := Lib.hid hr
      rw [records, hok.out, if_pos rfl, hr] at hF4
      have hrl : r.length ≤ 1048576 := by rw [← hr]; have := recTo_len hs hs.length; omega
      clear hr
      obtain ⟨Ar, cr, rfl, hIr, -⟩ := hF4.ints
      have hIh4 := hIh.below hb4
      have hB4 : Below w.heap.size w w4 := belowStep hb4 hB
      clear hF4 hIh hb4 hB
      go_wp2_with fail
      go_loop [7, 8, 9, 10] (fun a q i _ => ∃ k : Nat, k ≤ hs.length ∧ i = .int .i64 k ∧ a = .int .i64 ((recTo hs k).length : Int) ∧ q = .int .i64 (bestOf (hs.take k))) (fun _ _ i _ => hs.length - (intOf i).toNat)
      case atStart => exact ⟨0, Nat.zero_le _, rfl, rfl, rfl⟩
      case round =>
        obtain ⟨k, hk, rfl, rfl, rfl⟩ := hrel
        by_cases hlt : k < hs.length
        · obtain ⟨b, off, x, rfl, hb, hc, HX⟩ := hIh4.at_ hlt
          have hm := bestOf_more hs k hlt HX.out
          have hsx := all_at HS.out hlt HX.out
          have hlv := small_best HS.out k
          obtain ⟨l, hL⟩ : ∃ l, bestOf (hs.take k) = l := ⟨_, rfl⟩
          obtain ⟨a, ha⟩ : ∃ a, (recTo hs k).length = a := ⟨_, rfl⟩
          have hab : a ≤ 11 := by rw [← ha]; have := recTo_len hs k; omega
          rw [hL] at hm hlv ⊢
          rw [ha]
          have HL := Lib.hid hL
          have HM := Lib.hid hm
          have HA := Lib.hid ha
          have hx1 : -1 ≤ x ∧ x ≤ 7 := by simpa [small] using hsx
          have hx2 := hx1.1
          have hx3 := hx1.2
          clear hL hm ha hsx hx1
          by_cases h1 : 0 ≤ x
          · by_cases h2 : l < 0
            · have h2d : decide (l < 0) = true := by simpa using h2
              have hyes : isRec x l = true := by simp [isRec, lessR]; omega
              have hh := rec_here hs k hlt HX.out HL.out hyes
              rw [HR.out, HA.out] at hh
              have hal := hh.1
              obtain ⟨b2, off2, z, rfl, hb2, hc2, HZ⟩ := hIr.at_ hal
              obtain rfl : z = (k : Int) := HZ.out.symm.trans hh.2
              have hnext : Hid ((recTo hs (k + 1)).length = a + 1) := by unfold Hid; rw [recTo_yes HX.out HL.out hyes, List.length_append, HA.out, List.length_singleton]
              have hbest := Lib.hid (HM.out.trans (better_rec hyes))
              have pal : (a : Int) < (r.length : Int) := by omega
              clear hh hyes
              go_wp2_with fail
              go_round
              case rel => exact ⟨k + 1, by omega, by go_num, by rw [hnext.out]; go_num, by rw [hbest.out]⟩
              case measure => simp [intOf]; omega
            · have h2d : decide (l < 0) = false := by simpa using h2
              by_cases h3 : x ≤ l
              · have hyes : isRec x l = true := by simp [isRec, lessR]; omega
                have hh := rec_here hs k hlt HX.out HL.out hyes
                rw [HR.out, HA.out] at hh
                have hal := hh.1
                obtain ⟨b2, off2, z, rfl, hb2, hc2, HZ⟩ := hIr.at_ hal
                obtain rfl : z = (k : Int) := HZ.out.symm.trans hh.2
                have hnext : Hid ((recTo hs (k + 1)).length = a + 1) := by unfold Hid; rw [recTo_yes HX.out HL.out hyes, List.length_append, HA.out, List.length_singleton]
                have hbest := Lib.hid (HM.out.trans (better_rec hyes))
                have pal : (a : Int) < (r.length : Int) := by omega
                clear hh hyes
                go_wp2_with fail
                go_round
                case rel => exact ⟨k + 1, by omega, by go_num, by rw [hnext.out]; go_num, by rw [hbest.out]⟩
                case measure => simp [intOf]; omega
              · have hno : isRec x l = false := by simp [isRec, lessR]; omega
                have hnext := Lib.hid ((congrArg List.length (recTo_no HX.out HL.out hno)).trans HA.out)
                have hbest := Lib.hid (HM.out.trans (better_norec hno))
                by_cases hal : a < r.length
                · obtain ⟨b2, off2, z, rfl, hb2, hc2, HZ⟩ := hIr.at_ hal
                  have hne := rec_not hs k hlt HX.out HL.out hno (by rw [HR.out, HA.out]; exact hal)
                  rw [HR.out, HA.out, HZ.out] at hne
                  have hzk : (z == (k : Int)) = false := by simpa using hne
                  have pal : (a : Int) < (r.length : Int) := by omega
                  clear hno hne
                  go_wp2_with fail
                  go_round
                  case rel => exact ⟨k + 1, by omega, by go_num, by rw [hnext.out], by rw [hbest.out]⟩
                  case measure => simp [intOf]; omega
                · have pal : ¬ (a : Int) < (r.length : Int) := by omega
                  have pald : decide ((a : Int) < (r.length : Int)) = false := by simpa using pal
                  clear hno
                  go_wp2_with fail
                  go_round
                  case rel => exact ⟨k + 1, by omega, by go_num, by rw [hnext.out], by rw [hbest.out]⟩
                  case measure => simp [intOf]; omega
          · have h1d : decide (0 ≤ x) = false := by simpa using h1
            have hno : isRec x l = false := by simp [isRec, lessR]; omega
            have hnext := Lib.hid ((congrArg List.length (recTo_no HX.out HL.out hno)).trans HA.out)
            have hbest := Lib.hid (HM.out.trans (better_norec hno))
            by_cases hal : a < r.length
            · obtain ⟨b2, off2, z, rfl, hb2, hc2, HZ⟩ := hIr.at_ hal
              have hne := rec_not hs k hlt HX.out HL.out hno (by rw [HR.out, HA.out]; exact hal)
              rw [HR.out, HA.out, HZ.out] at hne
              have hzk : (z == (k : Int)) = false := by simpa using hne
              have pal : (a : Int) < (r.length : Int) := by omega
              clear hno hne
              go_wp2_with fail
              go_round
              case rel => exact ⟨k + 1, by omega, by go_num, by rw [hnext.out], by rw [hbest.out]⟩
              case measure => simp [intOf]; omega
            · have pal : ¬ (a : Int) < (r.length : Int) := by omega
              have pald : decide ((a : Int) < (r.length : Int)) = false := by simpa using pal
              clear hno
              go_wp2_with fail
              go_round
              case rel => exact ⟨k + 1, by omega, by go_num, by rw [hnext.out], by rw [hbest.out]⟩
              case measure => simp [intOf]; omega
        · have hke : k = hs.length := by omega
          subst hke
          rw [HR.out]
          go_wp2
          go_ret
          exact ⟨ret_bool (by simp), hB4⟩
theorem own : ownKnob Try.prog.godebug = none := by kernel_rfl
theorem laidOut : laidOutB Try.prog = true := by kernel_rfl
set_option maxRecDepth 100000 in
theorem lifted (os : Os) (started : os.Started) (H : Type) (enc : TypeId × Value → H) :
    ReturnsInHanded {} Try.checked os 10 .any (Rows.fnRecordsSpec.pre6 enc Try.prog Try.f10 Rows.fnRecordsRow.domain false) (Rows.fnRecordsSpec.post enc Try.prog Try.f10 false true false false) := by
  refine returnsInHanded_of_change (C := Try.checked) own started (by kernel_rfl) Try.func10
    (ChangeSpec.witness6 (enc := enc) (C := Try.checked) false ⟨#[], #[.slice none 0 0], []⟩ 8 (by kernel_rfl) (by kernel_rfl) (by kernel_rfl) (by kernel_rfl)) ?_
  intro W base args ds gs before hval0 hW hcnd _
  have hval : ∀ (j : Nat) t v, Try.f10.params[j]? = some t → args[j]? = some v → Value.okWide Try.prog W .any base t v := hval0
  have hW' := hW
  obtain ⟨p, q, hA0, hV, rfl, hfz, hnd⟩ := hW
  have hA : DataW.TrodAll enc Try.prog W 0 (fun _ => true) true Try.f10.params.toList args.toList ds p := hA0
  rw [Try.params10] at hA hval
  obtain ⟨v0, vs0, d0, ds0, p0, q0, hargs, rfl, rfl, h0, r0⟩ := trodAll_cons hA
  obtain ⟨rfl, rfl, rfl⟩ := trodAll_nil r0
  obtain rfl : args = #[v0] := by cases args; simp_all
  obtain ⟨rfl, rfl⟩ := trodVars_none hV
  have lt0 : ∀ x ∈ p0, x.block < W.heap.size := by obtain ⟨m, hm⟩ := h0; exact DataW.trod_lt m _ _ _ hm
  obtain ⟨A0, c0, x0, rfl, i0, m0⟩ := arg_bytes (hval 0 53 v0 rfl rfl) h0
  clear hA0 hval0
  refine (walk A0 c0 x0 W i0 m0).mono fun e W' ⟨he, bel⟩ => ?_
  subst he
  exact ⟨_, rfl, _, _, _, [], _, [], hW', trodAll_mk1 (shut_bool Try.underlying4 _), (trodAll_cons_mk (Below.trod laidOut (by kernel_rfl) (of_decide_eq_true (by kernel_rfl)) h0 bel lt0) trodAll_mk0), rfl, bel.frame _, fun h => by cases h⟩
theorem fact_wf : Rows.fnRecordsRow.wf (OpenSpec.ofChange Rows.fnRecordsSpec) = true := by kernel_rfl
theorem fact_pars : Try.f10.params.all (Try.prog.readableRec ·) = true := by kernel_rfl
theorem fact_tie : namedTie Try.prog Rows.fnRecordsRow.named Rows.fnRecordsSpec.vars = true := by kernel_rfl
theorem fact_st : (Rows.fnRecordsRow.stops == []) = true := by kernel_rfl
theorem fact_kn : (Rows.fnRecordsRow.knobs == []) = true := by kernel_rfl
theorem fact_inp : (Rows.fnRecordsRow.inPlace == Try.prog.inPlace 10) = true := by kernel_rfl
theorem fact_unf : (Rows.fnRecordsRow.unfollowed == Try.prog.unfollowed 10) = true := by kernel_rfl
theorem fact_rec : (Rows.fnRecordsRow.recurses == Try.prog.recurses 10) = true := by kernel_rfl
theorem fact_nam : (Rows.fnRecordsRow.named == Try.prog.varsNamed 10) = true := by kernel_rfl
theorem fact_mp : (Rows.fnRecordsRow.maps == (Try.f10.params.toList ++ Rows.fnRecordsSpec.plain.varTypes Try.prog).any (Try.prog.mapsRec ·)) = true := by kernel_rfl
theorem fact_ifc : (Rows.fnRecordsRow.ifaces == (Try.f10.params.toList ++ Rows.fnRecordsSpec.plain.varTypes Try.prog).any (Try.prog.ifacesRec ·)) = true := by kernel_rfl
theorem fact_mo : (Rows.fnRecordsRow.mapsOut == Try.prog.mapsAmong Try.f10.resultTypes.toList) = true := by kernel_rfl
theorem fact_lo : (Rows.fnRecordsRow.loops == (Try.f10.params.toList ++ Rows.fnRecordsSpec.plain.varTypes Try.prog).any (Try.prog.loopsFrom ·)) = true := by kernel_rfl
theorem fact_wk : (Rows.fnRecordsRow.wideKeys == (Try.f10.params.toList ++ Rows.fnRecordsSpec.plain.varTypes Try.prog ++ Try.f10.resultTypes.toList).any (Try.prog.wideKeysFrom ·)) = true := by kernel_rfl
theorem fact_vs : Rows.fnRecordsSpec.vars.all (Try.prog.varReadable ·) = true := by kernel_rfl
theorem fact_res : Try.f10.resultTypes.all (fun t => Try.prog.readableRec t && decide (t < Try.prog.types.size)) = true := by kernel_rfl
theorem fact_io : (Rows.fnRecordsRow.ifacesOut == Try.f10.resultTypes.toList.any (Try.prog.ifacesRec ·)) = true := by kernel_rfl
theorem fact_loo : (Rows.fnRecordsRow.loopsOut == Try.f10.resultTypes.toList.any (Try.prog.loopsFrom ·)) = true := by kernel_rfl
theorem fact_pk : (Rows.fnRecordsRow.plainKeys == Try.prog.plainKeys) = true := by kernel_rfl
theorem fact_sh : Rows.fnRecordsRow.shortTexts.isNone = true := by kernel_rfl
theorem fact_li : (Rows.fnRecordsRow.lifted == Try.prog.liftsFinal) = true := by rw [fact_finals]; rfl
theorem fact_mk : (Try.prog.make == some Rows.fnRecordsRow.make) = true := by rw [fact_make]; rfl
theorem fact_kd : (Rows.fnRecordsRow.kinds == (if Rows.fnRecordsRow.domain.isEmpty then [] else Try.f10.params.toList.map fun t => match Try.prog.underlying t with | some (.int k) => some k | _ => none)) = true := by kernel_rfl
theorem fact_pi : (Rows.fnRecordsRow.pinned == Rows.fnRecordsRow.pinnedBy) = true := by kernel_rfl
theorem fact_ve : (Rows.fnRecordsRow.veiled == (Try.f10.params.toList ++ Rows.fnRecordsSpec.plain.varTypes Try.prog ++ Try.f10.resultTypes.toList).any (Try.prog.veiledRec ·)) = true := by kernel_rfl
theorem fact_vf : Rows.fnRecordsRow.veiledFits Try.prog Try.f10.params.toList (Try.f10.params.toList ++ Rows.fnRecordsSpec.plain.varTypes Try.prog ++ Try.f10.resultTypes.toList) = true := by kernel_rfl
set_option maxRecDepth 100000 in
theorem facts : joinedFacts Try.prog 10 Try.f10 Rows.fnRecordsSpec Rows.fnRecordsRow = true := facts_of fact_wf fact_laid fact_rowed fact_pars fact_tie fact_st fact_pst fact_kn fact_pkn fact_inp fact_unf fact_rec fact_nam fact_mp fact_ifc fact_mo fact_lo fact_wk fact_vs fact_res fact_io fact_loo fact_pk fact_sh fact_hd fact_me fact_li fact_mk fact_kd fact_pi fact_ve fact_vf
theorem fact_fn : Try.prog.funcNamed Rows.fnRecordsRow.func = some 10 := by kernel_rfl
theorem fact_inst : Try.f10.isInstance Try.prog Rows.fnRecordsRow.origin Rows.fnRecordsRow.targs := of_decide_eq_true (by kernel_rfl)
theorem fact_wrap : Try.f10.isWrapper Try.prog Rows.fnRecordsRow.wrapper Rows.fnRecordsRow.mainSum := by unfold Func.isWrapper; first | (rw [if_pos (by decide +kernel)]; kernel_rfl) | (rw [if_neg (by decide +kernel)]; exact ⟨rfl, rfl⟩)
theorem over : Rows.fnRecordsRow.holds Try.pinned (OpenSpec.ofChange Rows.fnRecordsSpec) :=
  OpenClaim.holds_of_wide 10 Try.f10 rfl rfl rfl rfl rfl rfl rfl ⟨rfl, rfl, rfl, rfl, rfl⟩ rfl rfl rfl rfl rfl fact_fn Try.func10 facts fact_inst fact_wrap
    (fun os started H enc _ => lifted os started H enc)
theorem proved : Rows.FnRecordsSaid := over
#print axioms proved
end Go.Proofs.Ytdjkelhmdondcaa.lawFnRecords
