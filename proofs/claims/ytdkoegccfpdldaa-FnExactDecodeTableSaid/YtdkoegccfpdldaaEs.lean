/- The binary form of a table at the reference. Conditions: as each contract says. -/
import Derived.Test.YtdkoegccfpdldaaEl
import Derived.ArgAppend
import Derived.Lib.SlBytesConst
import Derived.Lib.SmallJoins
namespace Go.Proofs.Ytdkoegccfpdldaa
open Go.RowKit

def lit4 : Array Value := #[.int .u8 80, .int .u8 68, .int .u8 66, .int .u8 49]
theorem lit_cells (w : World) : ∀ b, some (⟨w.heap.size, 0, none⟩ : Addr) = some b → ∀ (j : Nat) (u : Value), ([.int .u8 80, .int .u8 68, .int .u8 66, .int .u8 49] : List Value)[j]? = some u → ∀ o, ((w.alloc (.cells lit4 5 (4, 5))).alloc o).cell? (b.add j) = some u := by
  intro b hb j u hj o
  injection hb with hb
  subst hb
  refine Lib.cell?_alloc_marked _ ?_
  rw [Addr.add_lit, Nat.zero_add, World.cell?_alloc_mark, show lit4 = ([.int .u8 80, .int .u8 68, .int .u8 66, .int .u8 49] : List Value).toArray from rfl, List.getElem?_toArray]
  exact hj
theorem one_cell (w : World) (g : Nat) (hg : g = w.heap.size) (v : Value) : ∀ (j : Nat) (u : Value), ([v] : List Value)[j]? = some u → (w.alloc (.cells #[v] 5)).cell? ((⟨g, 0, none⟩ : Addr).add j) = some u := by
  intro j u hj
  subst hg
  rw [Addr.add_lit, Nat.zero_add, World.cell?_alloc_mark, show (#[v] : Array Value) = ([v] : List Value).toArray from rfl, List.getElem?_toArray]
  exact hj
theorem BFresh.mono {B B' : Nat} {w : World} {v : Value} {xs : List Int} (h : BFresh B w v xs) (hB : B' ≤ B) : BFresh B' w v xs := Joins.ownsRow_le h hB
set_option maxRecDepth 100000 in
set_option maxHeartbeats 2000000 in
theorem specEnc (A1 A2 A3 : Option Addr) (c1 c2 c3 : Nat) (t : Tb) (w : World) (h1 : IntsAt w A1 t.trk) (h2 : LAt w A2 t.pats) (h3 : IntsAt w A3 t.dist) (hs : ShortT t) :
    Calls Try.prog 6 #[.agg #[.slice A1 t.trk.length c1, .slice A2 t.pats.length c2, .slice A3 t.dist.length c3]] w fun e w' => e = .returned (.tuple #[.string (encS t), .bool (encOk t)]) ∧ Below w.heap.size w w' := by
  obtain ⟨b0, hb0⟩ : ∃ b0, encOk t = b0 := ⟨_, rfl⟩
  obtain ⟨s0, hs0⟩ : ∃ s0, encS t = s0 := ⟨_, rfl⟩
  rw [hb0, hs0]
  have HB0 := Lib.hid hb0
  have HS0 := Lib.hid hs0
  clear hb0 hs0
  have HW := Lib.hid (fun wx a b c => specWf A1 A2 A3 c1 c2 c3 t wx a b c hs)
  obtain ⟨bw, hbw⟩ : ∃ bw, wfQ t = bw := ⟨_, rfl⟩
  rw [hbw] at HW
  have HBW := Lib.hid hbw
  clear hbw
  obtain ⟨xs, ls, ys⟩ := t
  obtain ⟨s1, s2, s3, s4⟩ := hs
  dsimp only at h1 h2 h3 s1 s2 s3 s4 HW ⊢
  have H1 := Lib.hid h1
  have H2 := Lib.hid h2
  have H3 := Lib.hid h3
  have S3 := Lib.hid s3
  clear h1 h2 h3 s3
  obtain ⟨i1, hi1, hy0, hy1, hy2⟩ := info_parts byteInfo
  go_enter Try.func6, Try.ntmps6
  go_wp2_with fail
  obtain ⟨w0, hw0⟩ : ∃ w0, w.alloc (.cells #[.slice A1 xs.length c1, .slice A2 ls.length c2, .slice A3 ys.length c3] 29) = w0 := ⟨_, rfl⟩
  have hb0 : Below w.heap.size w w0 := by rw [← hw0]; exact (by repeat (first | exact Below.refl _ _ | assumption | refine Below.setCell ?_ (by first | omega | (simp <;> omega)) _ | refine Below.alloc ?_ (by first | omega | (simp <;> omega)) _ | refine Below.drew ?_))
  have r0 : w0.heap[w.heap.size]? = some (.cells #[.slice A1 xs.length c1, .slice A2 ls.length c2, .slice A3 ys.length c3] 29 (0, 0)) := by
    rw [← hw0, heap_alloc_new]
  rw [hw0]
  clear hw0
  have HR0 := Lib.hid r0
  clear r0
  refine (HW.out _ (by exact H1.out.below hb0) (by exact H2.out.below hb0) (by exact H3.out.below hb0)).mono ?_
  rintro e w1 ⟨rfl, hb1⟩
  have hr := rowB hb1 HR0.out
  have hB1 := belowStep hb1 hb0
  clear hb1
  obtain ⟨p0, p1, p2, -, -⟩ := row3 hr
  have HR := Lib.hid hr
  clear hr HR0 hb0 HW
  cases bw with
  | false =>
    have HF : Hid (false = b0 ∧ (⟨#[]⟩ : ByteArray) = s0) := ⟨by rw [← HB0.out, encOk, HBW.out]; rfl, by rw [← HS0.out, encS, encOk, HBW.out]; rfl⟩
    go_wp2_with fail
    go_ret2
    exact ⟨ret_sb HF.out.2 HF.out.1, hB1⟩
  | true =>
    obtain ⟨ba, hba⟩ : ∃ ba, allIn ys 15 = ba := ⟨_, rfl⟩
    have HA := Lib.hid (fun wx h => specAllIn A3 c3 ys 15 wx h s4)
    rw [hba] at HA
    have HBA := Lib.hid hba
    clear hba
    go_wp2_with fail
    refine (HA.out _ (by exact H3.out.below hB1)).mono ?_
    rintro e w2 ⟨rfl, rfl⟩
    cases ba with
    | false =>
      have HF : Hid (false = b0 ∧ (⟨#[]⟩ : ByteArray) = s0) := ⟨by rw [← HB0.out, encOk, HBW.out, HBA.out]; rfl, by rw [← HS0.out, encS, encOk, HBW.out, HBA.out]; rfl⟩
      go_wp2_with fail
      go_ret2
      exact ⟨ret_sb HF.out.2 HF.out.1, hB1⟩
    | true =>
      have G := Lib.hid (good_of HBW.out)
      have HF : Hid (true = b0 ∧ strOfNums (encL ⟨xs, ls, ys⟩) = s0) := ⟨by rw [← HB0.out, encOk, HBW.out, HBA.out]; rfl, by rw [← HS0.out, encS, encOk, HBW.out, HBA.out]; rfl⟩
      have kc := fun (w : World) (C : Array Value) (n c : Nat) => Lib.run_convert_bytes_const (P := Try.prog) w 41 5 C n c Try.underlying41 Try.underlying5
      have hwr : IntKind.u8.wrap (xs.length : Int) = (xs.length : Int) := IntWalk.u8_in _ (by have := G.out.l2; dsimp only at this; omega)
      have m0 := Lib.cell?_alloc_marked (.cells #[.int .u8 80, .int .u8 68, .int .u8 66, .int .u8 49] 5 (4, 5)) p0
      have hlc := lit_cells w1
      have hws := row_lt HR.out
      go_wp2_with (first | (at_builtin; refine wpList_append_grows _ rfl (.tmp 22) (.tmp 27) 41 rfl 5 i1 (.int .u8 0) 1 1 Try.underlying41 hi1 hy0 hy1 hy2 rfl (by decide) _ 4 4 [.int .u8 80, .int .u8 68, .int .u8 66, .int .u8 49] rfl (fun h => by cases h) rfl (fun b hb j u hj => hlc b hb j u hj _) ⟨w1.heap.size + 1, 0, none⟩ 1 1 [.int .u8 xs.length] rfl rfl ?ca (by simp [Value.oneCell']) (by decide) (by unfold maxLen; omega) (by omega) ?_))
      case ca => exact one_cell _ _ (by simp) _
      intro v2 w2 hown2 hgrow2
      have hF2 : BFresh (w.heap.size + 1) w2 v2 (hdL ⟨xs, ls, ys⟩ ++ xs.take 0) := BFresh.mono (xs := hdL ⟨xs, ls, ys⟩ ++ xs.take 0) (by exact hown2) (by omega)
      have hb2 : Below (w.heap.size + 1) w1 w2 := (((Below.refl _ _).alloc (by omega) _).alloc (by simp; omega) _).grown hgrow2 (by simp; omega) (fun _ h => by cases h)
      clear hown2 hgrow2 m0 hlc kc hwr
      have HB1 := Lib.hid hB1
      have hT := Lib.hid (show ∀ wr, Below (w.heap.size + 1) w1 wr → Below w.heap.size w wr ∧ wr.cell? ⟨w.heap.size, 0, none⟩ = some (.slice A1 xs.length c1) ∧ wr.cell? ⟨w.heap.size, 1, none⟩ = some (.slice A2 ls.length c2) ∧ wr.cell? ⟨w.heap.size, 2, none⟩ = some (.slice A3 ys.length c3) ∧ w.heap.size + 1 ≤ wr.heap.size from fun wr hb => by
        refine ⟨HB1.out.trans (hb.mono (by omega)), ?_, ?_, ?_, ?_⟩
        · exact (hb.cell (p := ⟨w.heap.size, 0, none⟩) (by simp)).trans p0
        · exact (hb.cell (p := ⟨w.heap.size, 1, none⟩) (by simp)).trans p1
        · exact (hb.cell (p := ⟨w.heap.size, 2, none⟩) (by simp)).trans p2
        · have := hb.size; omega)
      clear hB1 p0 p1 p2
      have HG := G.out
      have hl20 : xs.length ≤ 20 := HG.l2
      have hl3 : ls.length ≤ 3000 := HG.p2
      clear HG
      go_wp2_with fail
      go_loopw [4, 5] (fun v i wr => ∃ k : Nat, k ≤ xs.length ∧ i = .int .i64 k ∧ BFresh (w.heap.size + 1) wr v (hdL ⟨xs, ls, ys⟩ ++ xs.take k) ∧ Below (w.heap.size + 1) w1 wr) (fun _ i _ => xs.length - (intOf i).toNat)
      case atStart => exact ⟨0, Nat.zero_le _, rfl, hF2, hb2⟩
      case round =>
        obtain ⟨k, hk, rfl, hF, hB⟩ := hrel
        clear hF2 hb2
        obtain ⟨hBw, p0, p1, p2, hsz⟩ := hT.out _ hB
        by_cases hlt : k < xs.length
        · obtain ⟨b, off, y, rfl, hb, hc0, HX⟩ := (H1.out.below hBw).at_ hlt
          have q0 : (0 : Int) ≤ (k : Int) := by omega
          have q1 : (k : Int) < (xs.length : Int) := by omega
          have hwr : IntKind.u8.wrap y = y := IntWalk.u8_in _ (by have := G.out.tv k hlt; dsimp only at this; rw [HX.out] at this; omega)
          have HN : Hid (hdL ⟨xs, ls, ys⟩ ++ xs.take (k + 1) = (hdL ⟨xs, ls, ys⟩ ++ xs.take k) ++ [y]) := by unfold Hid; rw [take_get xs k hlt, HX.out, List.append_assoc]
          have hzl : (hdL ⟨xs, ls, ys⟩ ++ xs.take k).length ≤ 4194304 := by rw [List.length_append, List.length_take]; simp [hdL]; omega
          obtain ⟨zs, hzs⟩ : ∃ zs, hdL ⟨xs, ls, ys⟩ ++ xs.take k = zs := ⟨_, rfl⟩
          rw [hzs] at hF hzl
          have HZ := Lib.hid hzs
          clear hzs hb
          go_wp2_with (first | (at_builtin; refine append_by1 rfl (.tmp 36) (.tmp 43) rfl (w.heap.size + 1) _ zs y rfl (hF.al _) _ rfl (by simp) hzl (by simp; omega) ?_; intro v3 w3 hF3 hg3 hb3))
          go_roundw
          case rel => exact ⟨k + 1, by omega, by go_num, by rw [HN.out, HZ.out]; exact hF3, (hB.alloc hsz _).trans hb3⟩
          case measure => simp [intOf]; omega
        · obtain rfl : k = xs.length := by omega
          rw [List.take_length] at hF
          have d0 : (0 : Int) ≤ (ls.length : Int) / 256 := by omega
          have hwa : IntKind.u8.wrap ((ls.length : Int) / 256) = (ls.length : Int) / 256 := IntWalk.u8_in _ (by omega)
          have hwb : IntKind.u8.wrap ((ls.length : Int) % 256) = (ls.length : Int) % 256 := IntWalk.u8_in _ (by omega)
          have hzl : (hdL ⟨xs, ls, ys⟩ ++ xs).length ≤ 4194304 := by rw [List.length_append]; simp [hdL]; omega
          clear hlt hk
          go_wp2_with (first | (at_builtin; refine append_by2 rfl (.tmp 45) (.tmp 56) rfl (w.heap.size + 1) _ _ ((ls.length : Int) / 256) ((ls.length : Int) % 256) rfl (hF.al _) _ rfl (by simp) (by simp) hzl (by simp; omega) ?_; intro v3 w3 hF3 hg3 hb3))
          have hB3 := (hB.alloc hsz _).trans hb3
          have hF4 : BFresh (w.heap.size + 1) w3 v3 ((hdL ⟨xs, ls, ys⟩ ++ xs ++ mdL ⟨xs, ls, ys⟩) ++ (ls.take 0).flatten) := by simpa [mdL] using hF3
          have hPl : (hdL ⟨xs, ls, ys⟩ ++ xs ++ mdL ⟨xs, ls, ys⟩).length ≤ 27 := by simp [hdL, mdL]; omega
          have HFL := Lib.hid (flat_len (ls := ls) (m := 20) (fun i hi => by have := G.out.rl i hi; dsimp only at this; omega))
          obtain ⟨P, hP⟩ : ∃ P, hdL ⟨xs, ls, ys⟩ ++ xs ++ mdL ⟨xs, ls, ys⟩ = P := ⟨_, rfl⟩
          rw [hP] at hF4 hPl
          have HP := Lib.hid hP
          clear hP hF hB hBw p0 p1 p2 hsz hF3 hg3 hb3 hwa hwb hzl d0
          go_loopw [4, 6] (fun v i wr => ∃ k : Nat, k ≤ ls.length ∧ i = .int .i64 k ∧ BFresh (w.heap.size + 1) wr v (P ++ (ls.take k).flatten) ∧ Below (w.heap.size + 1) w1 wr) (fun _ i _ => ls.length - (intOf i).toNat)
          case atStart => exact ⟨0, Nat.zero_le _, rfl, hF4, hB3⟩
          case round =>
            obtain ⟨k, hk, rfl, hF, hB⟩ := hrel
            clear hF4 hB3
            obtain ⟨hBw, p0, p1, p2, hsz⟩ := hT.out _ hB
            by_cases hlt : k < ls.length
            · obtain ⟨b, off, Ai, ci, zs, rfl, hb, hcap, hc0, hI, HX⟩ := H2.out.at_ hlt
              have HT2 := Lib.hid (show ∀ wr, Below w.heap.size w wr → wr.cell? ⟨b, off + k, none⟩ = some (.slice Ai zs.length ci) ∧ IntsAt wr Ai zs from fun wr h => ⟨(h.cell (p := ⟨b, off + k, none⟩) hb).trans hc0, hI.below h⟩)
              clear hb hcap hc0 hI
              have q0 : (0 : Int) ≤ (k : Int) := by omega
              have q1 : (k : Int) < (ls.length : Int) := by omega
              have hz20 : zs.length ≤ 20 := by have := G.out.rl k hlt; dsimp only at this; rw [HX.out] at this; omega
              have hQl : (P ++ (ls.take k).flatten).length ≤ 100000 := by have := HFL.out k hk; rw [List.length_append]; omega
              have HN : Hid (P ++ (ls.take (k + 1)).flatten = (P ++ (ls.take k).flatten) ++ zs) := by unfold Hid; rw [flat_more hlt, HX.out, List.append_assoc]
              obtain ⟨Q, hQ⟩ : ∃ Q, P ++ (ls.take k).flatten = Q := ⟨_, rfl⟩
              rw [hQ] at hF hQl
              have HQ := Lib.hid hQ
              clear hQ
              have hF5 : BFresh (w.heap.size + 1) wr u4 (Q ++ zs.take 0) := by simpa using hF
              obtain ⟨hc0, -⟩ := HT2.out _ hBw
              go_wp2_with fail
              clear hF p0 p1 p2 hsz hBw hc0
              go_loopw [4, 7] (fun v i wr => ∃ m : Nat, m ≤ zs.length ∧ i = .int .i64 m ∧ BFresh (w.heap.size + 1) wr v (Q ++ zs.take m) ∧ Below (w.heap.size + 1) w1 wr) (fun _ i _ => zs.length - (intOf i).toNat)
              case atStart => exact ⟨0, Nat.zero_le _, rfl, hF5, hB⟩
              case round =>
                obtain ⟨m, hm, rfl, hF, hB⟩ := hrel
                clear hF5
                obtain ⟨hBw, p0, p1, p2, hsz⟩ := hT.out _ hB
                obtain ⟨hc0, hI⟩ := HT2.out _ hBw
                by_cases hlt2 : m < zs.length
                · obtain ⟨b', off', y, rfl, hb', hc2, HY⟩ := hI.at_ hlt2
                  have q2 : (0 : Int) ≤ (m : Int) := by omega
                  have q3 : (m : Int) < (zs.length : Int) := by omega
                  have hwr : IntKind.u8.wrap y = y := IntWalk.u8_in _ (by have := G.out.rv k hlt; dsimp only at this; rw [HX.out] at this; have := this m hlt2; rw [HY.out] at this; omega)
                  have HN2 : Hid (Q ++ zs.take (m + 1) = (Q ++ zs.take m) ++ [y]) := by unfold Hid; rw [take_get zs m hlt2, HY.out, List.append_assoc]
                  have hzl : (Q ++ zs.take m).length ≤ 4194304 := by rw [List.length_append, List.length_take]; omega
                  obtain ⟨us, hus⟩ : ∃ us, Q ++ zs.take m = us := ⟨_, rfl⟩
                  rw [hus] at hF hzl
                  have HZ := Lib.hid hus
                  clear hus hb'
                  go_wp2_with (first | (at_builtin; refine append_by1 rfl (.tmp 75) (.tmp 85) rfl (w.heap.size + 1) _ us y rfl (hF.al _) _ rfl (by simp) hzl (by simp; omega) ?_; intro v4 w4 hF4 hg4 hb4))
                  go_roundw
                  case rel => exact ⟨m + 1, by omega, by go_num, by rw [HN2.out, HZ.out]; exact hF4, (hB.alloc hsz _).trans hb4⟩
                  case measure => simp [intOf]; omega
                · obtain rfl : m = zs.length := by omega
                  rw [List.take_length] at hF
                  go_wp2_with fail
                  go_roundw
                  case rel => exact ⟨k + 1, by omega, by go_num, by rw [HN.out, HQ.out]; exact hF, hB⟩
                  case measure => simp [intOf]; omega
            · obtain rfl : k = ls.length := by omega
              rw [List.take_length] at hF
              go_wp2_with fail
              refine (specNibs A3 c3 ys _ (H3.out.below hBw) s4).mono ?_
              rintro e w4 ⟨rfl, hb4⟩
              have hcv := (hF.below hb4).str
              have hnb : nibS ys = strOfNums (bytesBy (nib ys) ((ys.length + 1) / 2)) := by rw [nibS, HBA.out, if_pos rfl]
              have hB4 := belowStep hb4 hBw
              rw [HBA.out, hnb]
              have HA2 := Lib.hid (strOfNums_add (P ++ ls.flatten) (bytesBy (nib ys) ((ys.length + 1) / 2)))
              obtain ⟨N, hN⟩ : ∃ N, bytesBy (nib ys) ((ys.length + 1) / 2) = N := ⟨_, rfl⟩
              rw [hN] at HA2 ⊢
              have HNN := Lib.hid hN
              have hLl : (P ++ ls.flatten).length ≤ 100000 := by have := HFL.out ls.length (Nat.le_refl _); rw [List.take_length] at this; rw [List.length_append]; omega
              have hNl : N.length ≤ 100000 := by rw [← hN, bytesBy_len]; have := G.out.dl; dsimp only at this; omega
              have HE := Lib.hid (show encL ⟨xs, ls, ys⟩ = (P ++ ls.flatten ++ N) ++ bytesBy (numAt (cksum (strOfNums (P ++ ls.flatten ++ N)).data.toList) 4) 4 from by
                have : bodyL ⟨xs, ls, ys⟩ = P ++ ls.flatten ++ N := by rw [← HP.out, ← hN]; rfl
                rw [encL, this])
              have hz1 : ¬ 9223372036854775807 < (strOfNums (P ++ ls.flatten)).size + (strOfNums N).size := by rw [strOfNums_size, strOfNums_size]; omega
              clear hF hb4 hB hBw p0 p1 p2 hsz hnb hN hlt hk
              go_wp2_with fail
              rw [HA2.out]
              have hML : (P ++ ls.flatten ++ N).length ≤ 200000 := by rw [List.length_append]; omega
              obtain ⟨M, hM⟩ : ∃ M, P ++ ls.flatten ++ N = M := ⟨_, rfl⟩
              rw [hM] at hML HE ⊢
              clear hcv hz1 hM
              refine (specSum _ _ (by rw [strOfNums_size]; omega)).mono ?_
              rintro e w5 ⟨rfl, rfl⟩
              obtain ⟨k0, k1⟩ := ck_bd (strOfNums M).data.toList
              obtain ⟨ck, hck⟩ : ∃ ck, cksum (strOfNums M).data.toList = ck := ⟨_, rfl⟩
              rw [hck] at k0 k1 HE ⊢
              clear hck
              go_wp2_with fail
              refine (number4 ck _ k0 k1).mono ?_
              rintro e w5 ⟨rfl, hb5⟩
              have hB5 := belowStep hb5 hB4
              have hz2 : ¬ 9223372036854775807 < (strOfNums M).size + (strOfNums (bytesBy (numAt ck 4) 4)).size := by rw [strOfNums_size, strOfNums_size, bytesBy_len]; omega
              have HA3 := Lib.hid (strOfNums_add M (bytesBy (numAt ck 4) 4))
              clear hb5
              obtain ⟨V, hV⟩ : ∃ V, bytesBy (numAt ck 4) 4 = V := ⟨_, rfl⟩
              rw [hV] at HA3 HE hz2 ⊢
              clear hV
              go_wp2_with fail
              go_ret2
              exact ⟨ret_sb (by rw [HA3.out, ← HE.out]; exact HF.out.2) HF.out.1, hB5⟩
end Go.Proofs.Ytdkoegccfpdldaa
