/- The expansion of a job's next entry, impl. Conditions: as the contract says. An expansion appended to a job, impl. Conditions: as the contract says. A step of a job, impl. Conditions: as each contract says. -/
import Derived.Test.YtfhdnanbhigpmaaFc
import Derived.Test.YtfhdnanbhigpmaaSm
import Derived.Deep.RegionHeld3
import Derived.Deep.RegionWith
import Derived.Deep.RegionLaw
namespace Go.Proofs.Ytfhdnanbhigpmaa
section
open Go.RowKit Grp

theorem lenLists (A : Option Addr) (n c : Nat) (w : World) : Calls Try.prog 52 #[.slice A n c] w fun e w' => e = .returned (.int .i64 n) ∧ w = w' := by
  go_enter Try.func52, Try.ntmps52
  go_wp2
  go_ret
  exact ⟨rfl, rfl⟩
/-- Lists of the call's own, rows and all. -/
def OwnR (lo : Nat) (w : World) (v : Value) (ls : List (List Int)) : Prop := OwnL lo w v ls ∧ RowF lo w v ls
theorem OwnR.below {lo : Nat} {w w' : World} {v : Value} {ls : List (List Int)} (h : OwnR lo w v ls) (hb : Below w.heap.size w w') : OwnR lo w' v ls := ⟨h.1.below hb, h.2.below h.1 hb⟩
def ExpPost (k : Nat) (ad : List (List Int)) (w : World) (e : Ending) (w' : World) : Prop :=
  ∃ A c, e = .returned (.tuple #[.slice A ad.length c, .string (fullS k ad)]) ∧ OwnR w.heap.size w' (.slice A ad.length c) ad ∧ Below w.heap.size w w'
set_option maxRecDepth 100000 in
set_option maxHeartbeats 8000000 in
theorem implExp (lo f bm : Nat) (vt vl vd vm : Value) (trk : List Int) (mvs : List (List Int)) (s : Bs) (k : Nat) (log : ByteArray) (syn : Int) (n : Nat) (K : List ByteArray) (N L : Nat) (w : World) (hf : FlAt lo f bm w vt vl vd vm trk mvs s.ls s.ds (k : Int) log syn n K) (hK : KeysOf K s.ls) (hok : BsOk N L s) (hmv : ∀ i, i < mvs.length → PtsOk N N (mvs.getD i [])) (hk : k < s.ls.length) (hm : mvs.length ≤ 100) (hN : N ≤ 256) (hL : L ≤ 1000) :
    Calls Try.prog 69 #[.pointer (some ⟨f, 0, none⟩)] w (ExpPost k (addedB mvs s.ls k) w) := by
  obtain ⟨R, hR⟩ : ∃ R, addedB mvs s.ls k = R := ⟨_, rfl⟩
  rw [hR]
  obtain ⟨pat, hpat⟩ : ∃ pat, s.ls.getD k [] = pat := ⟨_, rfl⟩
  have HR : Hid (addTo s.ls pat (mvs.drop 0) [] = R) := by unfold Hid; rw [← hpat, ← hR]; rfl
  have HPO : Hid (PtsOk N L pat) := by unfold Hid; rw [← hpat]; exact hok.rows k hk
  obtain ⟨Al, cl, rfl, hcl, -⟩ := hf.st.lists.shape
  obtain ⟨Am, cm, rfl, hcm, -⟩ := hf.st.moves.shape
  obtain ⟨m, hml⟩ : ∃ m, mvs.length = m := ⟨_, rfl⟩
  rw [hml] at hf hm hcm hmv
  have HML := Lib.hid hml
  have HF := Lib.hid hf
  have HK := Lib.hid hK
  have HOK := Lib.hid hok
  have HMV := Lib.hid hmv
  have HPAT := Lib.hid hpat
  have hcap := hok.cap
  have hrow := hf.row
  have f1 := cell_of_row w f 1 _ _ (0, 0) hrow
  have f3 := cell_of_row w f 3 _ _ (0, 0) hrow
  have f6 := cell_of_row w f 6 _ _ (0, 0) hrow
  have f7 := cell_of_row w f 7 _ _ (0, 0) hrow
  have hfl := row_lt hrow
  have q2 : (0 : Int) ≤ (k : Int) := by omega
  have q3 : (k : Int) < (s.ls.length : Int) := by omega
  clear hf hK hok hmv hR hpat hml hrow
  go_enter Try.func69, Try.ntmps69
  go_wp2_with fail
  go_loopw [4, 5, 16] (fun v t i wr => ∃ (j : Nat) (acc : List (List Int)), j ≤ m ∧ i = .int .i64 j ∧ t = .string (strOfNums acc.flatten) ∧ acc.length ≤ j ∧ Hid (RowsOk N L acc) ∧ OwnR w.heap.size wr v acc ∧ Hid (addTo s.ls pat (mvs.drop j) acc = R) ∧ Below w.heap.size w wr) (fun _ _ i _ => m - (intOf i).toNat)
  case atStart => exact ⟨0, [], Nat.zero_le _, rfl, rfl, Nat.le_refl _, fun i hi => by simp at hi, ⟨GrAt.nil _ _ _, RowF.nil _ _ _⟩, HR, Below.refl _ _⟩
  case round =>
    obtain ⟨j, acc, hj, rfl, rfl, hacc, HRO, hO, HRR, hB⟩ := hrel
    clear HR f1 f3 f6 f7
    have hr := rowB hB HF.out.row
    have f1 := cell_of_row wr f 1 _ _ (0, 0) hr
    have f3 := cell_of_row wr f 3 _ _ (0, 0) hr
    have f7 := cell_of_row wr f 7 _ _ (0, 0) hr
    have hfw := row_lt hr
    have HFR := Lib.hid (HF.out.below hB)
    have HO := Lib.hid hO
    have HB := Lib.hid hB
    have hzB := hB.size
    clear hr hO hB
    by_cases hlt : j < m
    · obtain ⟨gm, Av, cv, hgm, hgml, cmv, hcv, hIv, -⟩ := HFR.out.st.moves.at_ (j := j) (by rw [HML.out]; exact hlt)
      obtain ⟨gl, Ap, cp, hgl, hgll, cpt, hcp, hIp, -⟩ := HFR.out.st.lists.at_ hk
      rw [HPAT.out] at cpt hIp
      rw [HPO.out.1] at cpt
      have hmo := HMV.out j hlt
      obtain ⟨mv, hmv⟩ : ∃ mv, mvs.getD j [] = mv := ⟨_, rfl⟩
      rw [hmv] at cmv hIv hmo
      rw [hmo.1] at cmv
      obtain ⟨x, hx⟩ : ∃ x, pickI mv pat = x := ⟨_, rfl⟩
      have hpx : PtsOk N L x := by rw [← hx]; exact hmo.pick HPO.out
      have HMO := Lib.hid hmo
      have HPX := Lib.hid hpx
      have HCP : Hid (∀ wx, IntsAt wx Av mv → IntsAt wx Ap pat → Calls Try.prog 88 #[.slice Av N cv, .slice Ap L cp] wx fun e w' => ∃ v, e = .returned v ∧ Fresh wx.heap.size w' v x ∧ Below wx.heap.size wx w') := fun wx g1 g2 => by
        have := implPicked Av Ap cv cp N L mv pat wx g1 g2 HMO.out HPO.out (by omega)
        rwa [hx] at this
      have HXE : Hid (pickI (mvs.getD j []) pat = x) := by unfold Hid; rw [hmv, hx]
      have HIV := Lib.hid hIv
      have HIP := Lib.hid hIp
      have q0 : (0 : Int) ≤ (j : Int) := by omega
      have q1 : (j : Int) < (m : Int) := by omega
      subst hgm hgl
      clear hmo hpx hx hmv hIv hIp
      go_wp2_with fail
      go_region_held3 (fun w' => w'.cell? ⟨f, 1, none⟩ = some (.slice (some ⟨gl, 0, none⟩) s.ls.length cl) ∧ w'.cell? ⟨f, 3, none⟩ = some (.int .i64 (k : Int)) ∧ w'.cell? ⟨gl, k, none⟩ = some (.slice Ap L cp)) (first | go_keep | exact ⟨e0, e1, e2⟩) ((go_at_call 88; refine (HCP.out _ (by exact HIV.out) (by exact HIP.out)).mono ?_; rintro e w7 ⟨v7, rfl, hF7, hb7⟩; have B7 : Below wr.heap.size wr w7 := ⟨hb7.os, hb7.tape, hb7.output, hb7.size, hb7.block⟩; have e0 := (B7.cell (p := ⟨f, 1, none⟩) hfw).trans f1; have e1 := (B7.cell (p := ⟨f, 3, none⟩) hfw).trans f3; have e2 := (B7.cell (p := ⟨gl, k, none⟩) hgll).trans cpt))
      obtain ⟨A7, c7, hc7, rfl, hI7⟩ := hF7.capped
      rw [HPX.out.1] at hc7 hF7 ⊢
      have HNEW : Hid (∀ g off s', A7 = some ⟨g, off, s'⟩ → wr.heap.size ≤ g) := fun g off s' e => (World.ownsRow.lt hF7 g (by rw [e]; rfl)).1
      have HI7 := Lib.hid hI7
      have HF7 : Hid (Fresh w.heap.size w7 (.slice A7 L c7) x) := hF7.mono hzB
      have HB7 := Lib.hid B7
      have hz7 := B7.size
      clear f1 f3 f7 e0 e1 e2 hF7 hI7 hb7 B7
      go_wp2_with fail
      have hkey := keyOf A7 c7 x w7 HI7.out (by rw [HPX.out.1]; omega) (HPX.out.byt (by omega))
      rw [HPX.out.1] at hkey
      refine hkey.mono ?_
      rintro e w8 ⟨rfl, hb8⟩
      obtain ⟨key, hke⟩ : ∃ key, strOfNums x = key := ⟨_, rfl⟩
      have hks8 : key.size ≤ maxLen := by rw [← hke, strOfNums_size, HPX.out.1]; unfold maxLen; omega
      have hksz : key.size = L := by rw [← hke, strOfNums_size, HPX.out.1]
      have hhas := HK.out.has HOK.out hN HPX.out
      rw [hke] at hhas ⊢
      obtain ⟨b1, hb1⟩ : ∃ b1, inL s.ls x = b1 := ⟨_, rfl⟩
      rw [hb1] at hhas
      have HKE := Lib.hid hke
      have HB1 := Lib.hid hb1
      have HB8 := Lib.hid (belowStep hb8 HB7.out)
      have HI8 := Lib.hid (HI7.out.below hb8)
      have HFF8 := Lib.hid (HF7.out.below hb8)
      have hz8 := hb8.size
      have HF8 := Lib.hid (HFR.out.below HB8.out)
      have HO8 := Lib.hid (HO.out.below HB8.out)
      have HOO := Lib.hid (GrAt.own HO.out.1)
      have HBW8 := Lib.hid (belowStep HB8.out HB.out)
      obtain ⟨Aa, ca, hva, hca, -⟩ := GrAt.shape HO.out.1
      have f7 := cell_of_row w8 f 7 _ _ (0, 0) HF8.out.row
      subst hva
      clear hkey hke hb1 hb8
      cases b1 with
      | true =>
        have HN : Hid (addTo s.ls pat (mvs.drop (j + 1)) acc = R) := by
          unfold Hid; rw [← HRR.out]
          exact (addTo_old (by rw [HML.out]; exact hlt) (by rw [HXE.out, inL_append, HB1.out]; rfl)).symm
        have hkb : hasK K key = true := hhas
        go_wp2_with (first | (at_lookup; refine wpList_seen rfl (.tmp 40) (.tmp 41) rfl bm n K key rfl rfl HF8.out.st.seen hks8 ?_))
        go_roundw
        case rel =>
          exact ⟨j + 1, acc, by omega, by go_num, rfl, by omega, HRO, HO8.out, HN, HBW8.out⟩
        case measure => simp [intOf]; omega
      | false =>
        have hkb : hasK K key = false := hhas
        have hidx := implIdx Aa A7 ca c7 acc.length L acc x w8 HO8.out.1.lat HI8.out rfl (by omega) (fun i hi => (HRO.out i hi).1) HPX.out.1 (by omega)
        obtain ⟨b2, hb2⟩ : ∃ b2, inL acc x = b2 := ⟨_, rfl⟩
        have HB2 := Lib.hid hb2
        have HIDX := Lib.hid hidx
        clear hidx hb2
        cases b2 with
        | true =>
          have HN : Hid (addTo s.ls pat (mvs.drop (j + 1)) acc = R) := by
            unfold Hid; rw [← HRR.out]
            exact (addTo_old (by rw [HML.out]; exact hlt) (by rw [HXE.out, inL_append, HB1.out, HB2.out]; rfl)).symm
          go_wp2_with (first
            | (at_lookup; refine wpList_seen rfl (.tmp 40) (.tmp 41) rfl bm n K key rfl rfl HF8.out.st.seen hks8 ?_)
            | (go_at_call 97; refine HIDX.out.mono ?_; rintro e w9 ⟨r, rfl, hr, hb9⟩; rw [HB2.out] at hr; have hr0 : ¬ r < 0 := (by have := of_decide_eq_true hr; omega); have HB9 := Lib.hid hb9; clear hr hb9))
          go_roundw
          case rel =>
            exact ⟨j + 1, acc, by omega, by go_num, rfl, by omega, HRO, HO8.out.below HB9.out, HN, belowStep HB9.out HBW8.out⟩
          case measure => simp [intOf]; omega
        | false =>
          have HN : Hid (addTo s.ls pat (mvs.drop (j + 1)) (acc ++ [x]) = R) := by
            unfold Hid; rw [← HRR.out]
            have := addTo_new (ls := s.ls) (pat := pat) (mvs := mvs) (acc := acc) (i := j) (by rw [HML.out]; exact hlt) (by rw [HXE.out, inL_append, HB1.out, HB2.out]; rfl)
            rw [HXE.out] at this
            exact this.symm
          have hfl := flat_len HRO.out
          obtain ⟨tx, htx⟩ : ∃ tx, strOfNums acc.flatten = tx := ⟨_, rfl⟩
          have htxs : tx.size ≤ 100000 := by
            rw [← htx, strOfNums_size, hfl]
            have : acc.length * L ≤ 100 * 1000 := Nat.mul_le_mul (by omega) hL
            omega
          have HTX : Hid (strOfNums (acc ++ [x]).flatten = tx ++ key) := by
            unfold Hid
            rw [List.flatten_append, ← nums_cat, htx, List.flatten_singleton, HKE.out]
          have hs1 : ¬ 9223372036854775807 < tx.size + key.size := by omega
          have hal : acc.length ≤ 1048576 := by omega
          have HKSZ := Lib.hid hksz
          rw [htx]
          clear hfl htx htxs hksz
          go_wp2_with (first
            | (at_lookup; refine wpList_seen rfl (.tmp 40) (.tmp 41) rfl bm n K key rfl rfl HF8.out.st.seen hks8 ?_)
            | (go_at_call 97; refine HIDX.out.mono ?_; rintro e w9 ⟨r, rfl, hr, hb9⟩; rw [HB2.out] at hr; have hr0 : r < 0 := (by have := of_decide_eq_false hr; omega); have HB9 := Lib.hid hb9; have hz9 := hb9.size; have HO9 := Lib.hid (HO8.out.below hb9); have HI9 := Lib.hid (HI8.out.below hb9); have HFF9 := Lib.hid (HFF8.out.below hb9); clear hr hb9)
            | (at_builtin; refine append_grf rfl (.tmp 50) (.tmp 52) rfl w.heap.size (fun b => b < w.heap.size) (.slice Aa acc.length ca) acc x A7 c7 rfl (GrAt.below HO9.out.1 (by exact (by repeat (first | exact Below.refl _ _ | assumption | refine Below.setCell ?_ (by first | omega | (simp <;> omega)) _ | refine Below.alloc ?_ (by first | omega | (simp <;> omega)) _ | refine Below.drew ?_)))) (HO9.out.2.below HO9.out.1 (by exact (by repeat (first | exact Below.refl _ _ | assumption | refine Below.setCell ?_ (by first | omega | (simp <;> omega)) _ | refine Below.alloc ?_ (by first | omega | (simp <;> omega)) _ | refine Below.drew ?_)))) (fun b hb => by simp; omega) w9.heap.size rfl (by rw [HPX.out.1]; simp) (by rw [HPX.out.1]; exact hc7) (HI9.out.below (by exact (by repeat (first | exact Below.refl _ _ | assumption | refine Below.setCell ?_ (by first | omega | (simp <;> omega)) _ | refine Below.alloc ?_ (by first | omega | (simp <;> omega)) _ | refine Below.drew ?_)))) (fun h0 g off s' e => ⟨fun h1 => by have := HNEW.out g off s' e; omega, fun e2 => by have := HNEW.out g off s' e; have := (HOO.out g e2).2.1; omega⟩) (fun _ => by rw [HPX.out.1]; exact HFF9.out.below (by exact (by repeat (first | exact Below.refl _ _ | assumption | refine Below.setCell ?_ (by first | omega | (simp <;> omega)) _ | refine Below.alloc ?_ (by first | omega | (simp <;> omega)) _ | refine Below.drew ?_)))) hal (by simp; omega) ?_; intro A10 c10 w10 hG10 hR10 hg10 hat10; have HG10 : Hid (OwnR w.heap.size w10 (.slice A10 (acc.length + 1) c10) (acc ++ [x])) := ⟨hG10, hR10⟩; have HGR10 := Lib.hid hg10; clear hG10 hR10 hat10))
          have hB10 : Below w.heap.size w w10 := ((belowStep HB9.out HBW8.out).alloc (by omega) _).grown HGR10.out (by simp; omega) (fun b hb => (HOO.out b hb).1)
          go_roundw
          case rel =>
            exact ⟨j + 1, acc ++ [x], by omega, by go_num, by rw [HTX.out], by simp; omega, RowsOk.snoc HRO.out HPX.out, HG10.out, HN, hB10⟩
          case measure => simp [intOf]; omega
    · obtain rfl : j = m := by omega
      have HRE := HRR.out
      rw [addTo_end (by rw [HML.out]; omega)] at HRE
      subst HRE
      have hfl := flat_len HRO.out
      have hflb : acc.flatten.length ≤ 100000 := by
        rw [hfl]
        have : acc.length * L ≤ 100 * 1000 := Nat.mul_le_mul (by omega) hL
        omega
      obtain ⟨tx, htx⟩ : ∃ tx, strOfNums acc.flatten = tx := ⟨_, rfl⟩
      obtain ⟨s2, hs2⟩ : ∃ s2, strOfNums (bytesBy (numAt (k : Int) 2) 2) = s2 := ⟨_, rfl⟩
      obtain ⟨s1, hs1⟩ : ∃ s1, strOfNums (bytesBy (numAt (acc.length : Int) 1) 1) = s1 := ⟨_, rfl⟩
      have z2 : s2.size = 2 := by rw [← hs2, strOfNums_size, num2]; rfl
      have z1 : s1.size = 1 := by rw [← hs1, strOfNums_size, num1]; rfl
      have zt : tx.size ≤ 100000 := by rw [← htx, strOfNums_size]; exact hflb
      have HREC : Hid (s2 ++ s1 ++ tx = recS k acc) := by
        unfold Hid recS headL
        rw [← nums_cat, ← nums_cat, hs2, hs1, htx]
      obtain ⟨rc, hrc⟩ : ∃ rc, recS k acc = rc := ⟨_, rfl⟩
      have zr : rc.size ≤ 100003 := by
        have := HREC.out
        rw [hrc] at this
        rw [← this, ByteArray.size_append, ByteArray.size_append]
        omega
      obtain ⟨ck, hck⟩ : ∃ ck, cksum rc.data.toList = ck := ⟨_, rfl⟩
      obtain ⟨s4, hs4⟩ : ∃ s4, strOfNums (bytesBy (numAt ck 4) 4) = s4 := ⟨_, rfl⟩
      have z4 : s4.size = 4 := by rw [← hs4, strOfNums_size, num4]; rfl
      have HFULL : Hid (fullS k acc = rc ++ s4) := by unfold Hid fullS; rw [hrc, hck, hs4]
      rw [hrc] at HREC
      have HN2 : Hid (∀ wx, Calls Try.prog 98 #[.int .i64 (k : Int), .int .i64 2] wx fun e w' => e = .returned (.string s2) ∧ Below wx.heap.size wx w') := by unfold Hid; rw [← hs2]; exact fun wx => numberOf (k : Int) 2 wx (by decide)
      have HN1 : Hid (∀ wx, Calls Try.prog 98 #[.int .i64 (acc.length : Int), .int .i64 1] wx fun e w' => e = .returned (.string s1) ∧ Below wx.heap.size wx w') := by unfold Hid; rw [← hs1]; exact fun wx => numberOf (acc.length : Int) 1 wx (by decide)
      have HN4 : Hid (∀ wx, Calls Try.prog 98 #[.int .i64 ck, .int .i64 4] wx fun e w' => e = .returned (.string s4) ∧ Below wx.heap.size wx w') := by unfold Hid; rw [← hs4]; exact fun wx => numberOf ck 4 wx (by decide)
      have HSM : Hid (∀ wx, Calls Try.prog 99 #[.string rc] wx fun e w' => e = .returned (.int .i64 ck) ∧ wx = w') := by unfold Hid; rw [← hck]; exact fun wx => implSum rc wx (by omega)
      have y1 : ¬ 9223372036854775807 < s2.size + s1.size := by omega
      have y2 : ¬ 9223372036854775807 < (s2 ++ s1).size + tx.size := by rw [ByteArray.size_append]; omega
      have y2' : ¬ 9223372036854775807 < s2.size + s1.size + tx.size := by omega
      have y3 : ¬ 9223372036854775807 < rc.size + s4.size := by omega
      obtain ⟨Aa, ca, hva, hca, -⟩ := GrAt.shape HO.out.1
      subst hva
      rw [htx]
      have hrec := HREC.out
      clear hfl hflb htx hs2 hs1 hrc hck hs4 z2 z1 zt zr z4 HRR
      go_wp2_with fail
      refine (HN2.out _).mono ?_
      rintro e w1 ⟨rfl, hb1⟩
      have HA1 := Lib.hid (belowStep hb1 HB.out)
      have HO1 := Lib.hid (HO.out.below hb1)
      clear hb1 f1 f3 f7
      go_wp2_with fail
      refine (lenLists _ _ _ _).mono ?_
      rintro e w5 ⟨rfl, rfl⟩
      go_wp2_with fail
      refine (HN1.out _).mono ?_
      rintro e w2 ⟨rfl, hb2⟩
      have HA2 := Lib.hid (belowStep hb2 HA1.out)
      have HO2 := Lib.hid (HO1.out.below hb2)
      clear hb2
      go_wp2_with fail
      refine (HSM.out _).mono ?_
      rintro e w6 ⟨rfl, rfl⟩
      go_wp2_with fail
      refine (HN4.out _).mono ?_
      rintro e w3 ⟨rfl, hb3⟩
      have HA3 := Lib.hid (belowStep hb3 HA2.out)
      have HO3 := Lib.hid (HO2.out.below hb3)
      clear hb3
      go_wp2_with fail
      go_ret2
      exact ⟨Aa, ca, by rw [HFULL.out]; rfl, HO3.out, HA3.out⟩
end
section
open Go.RowKit Grp

section
variable {lo f bm : Nat} {w w' : World} {vt vl vd vm : Value} {trk : List Int} {mvs ls : List (List Int)} {ds : List Int} {next : Int} {log : ByteArray} {syn : Int} {n : Nat} {K : List ByteArray}
theorem FlAt.see (h : FlAt lo f bm w vt vl vd vm trk mvs ls ds next log syn n K) {n' : Nat} {K' : List ByteArray} (hS : SeenAt w' bm n' K') (hg : w.grownBy w' (some bm)) : FlAt lo f bm w' vt vl vd vm trk mvs ls ds next log syn n' K' :=
  ⟨rowR hg h.row (fun e => by injection e with e; exact h.st.zmap (.inl e)), h.st.see hS hg, h.trk.row hg (fun b hb e => by injection e with e; exact h.st.zmap (.inr (e ▸ hb))), h.nef, h.lof, h.own.kept h.st.lists hg (fun g e => by injection e with e; exact .inr (.inl e.symm))⟩
theorem FlAt.pushList (h : FlAt lo f bm w vt vl vd vm trk mvs ls ds next log syn n K) {vl' : Value} {ls' : List (List Int)} (hL : GrAt lo (ZsOf (fun b => b = f ∨ vt.ownBlock = some b) bm vd vm) w' vl' ls') (hR : RowF lo w' vl' ls') (hg : w.grownBy w' vl.ownBlock) (hat : vl'.ownBlock = vl.ownBlock ∨ vl'.ownBlock = some w.heap.size) :
    FlAt lo f bm (w'.setCell ⟨f, 1, none⟩ vl') vt vl' vd vm trk mvs ls' ds next log syn n K := by
  have h1 := h.st.lists.own
  have hrow := rowR hg h.row (fun e => (h1 f e).2.2 (.inl (.inl rfl)))
  exact ⟨rowSet vl' hrow, (h.st.list hL hg hat).cell (g := f) (.inl rfl) (setGrown _ _ _ _), (h.trk.row hg (fun b hb e => (h1 b e).2.2 (.inl (.inr hb)))).row (setGrown w' f 1 vl') (fun b hb e => by injection e with e; exact h.nef (e ▸ hb)), h.nef, h.lof, hR.kept hL (setGrown w' f 1 vl') (fun g e => by injection e with e; exact .inl (.inl e.symm))⟩
theorem FlAt.pushDep (h : FlAt lo f bm w vt vl vd vm trk mvs ls ds next log syn n K) {vd' : Value} {ds' : List Int} (hD : Fresh lo w' vd' ds') (hg : w.grownBy w' vd.ownBlock) (hat : vd'.ownBlock = vd.ownBlock ∨ vd'.ownBlock = some w.heap.size) :
    FlAt lo f bm (w'.setCell ⟨f, 2, none⟩ vd') vt vl vd' vm trk mvs ls ds' next log syn n K := by
  have hrow := rowR hg h.row (fun e => h.st.zdep f e (.inl rfl))
  exact ⟨rowSet vd' hrow, (h.st.dep hD hg hat).cell (g := f) (.inl rfl) (setGrown _ _ _ _), (h.trk.row hg (fun b hb e => h.st.zdep b e (.inr hb))).row (setGrown w' f 2 vd') (fun b hb e => by injection e with e; exact h.nef (e ▸ hb)), h.nef, h.lof, (h.own.kept h.st.lists hg (fun g e => .inr (.inr (.inl e)))).kept (h.st.dep hD hg hat).lists (setGrown w' f 2 vd') (fun g e => by injection e with e; exact .inl (.inl e.symm))⟩
theorem FlAt.setNext (h : FlAt lo f bm w vt vl vd vm trk mvs ls ds next log syn n K) (nx : Int) : FlAt lo f bm (w.setCell ⟨f, 3, none⟩ (.int .i64 nx)) vt vl vd vm trk mvs ls ds nx log syn n K :=
  ⟨rowSet _ h.row, h.st.cell (g := f) (.inl rfl) (setGrown _ _ _ _), h.trk.row (setGrown w f 3 _) (fun b hb e => by injection e with e; exact h.nef (e ▸ hb)), h.nef, h.lof, h.own.kept h.st.lists (setGrown w f 3 _) (fun g e => by injection e with e; exact .inl (.inl e.symm))⟩
theorem FlAt.setLog (h : FlAt lo f bm w vt vl vd vm trk mvs ls ds next log syn n K) (lg : ByteArray) : FlAt lo f bm (w.setCell ⟨f, 4, none⟩ (.string lg)) vt vl vd vm trk mvs ls ds next lg syn n K :=
  ⟨rowSet _ h.row, h.st.cell (g := f) (.inl rfl) (setGrown _ _ _ _), h.trk.row (setGrown w f 4 _) (fun b hb e => by injection e with e; exact h.nef (e ▸ hb)), h.nef, h.lof, h.own.kept h.st.lists (setGrown w f 4 _) (fun g e => by injection e with e; exact .inl (.inl e.symm))⟩
end
/-- The state of an appending. -/
structure AppRel (lo f bm B n0 : Nat) (w wr : World) (vt vl vd vm : Value) (trk : List Int) (mvs ls ad : List (List Int)) (ds : List Int) (k : Nat) (d : Int) (log : ByteArray) (syn : Int) (i : Nat) : Prop where
  fl : ∃ K, FlAt lo f bm wr vt vl vd vm trk mvs (ls ++ ad.take i) (ds ++ List.replicate i d) (k : Int) log syn (n0 + i) K ∧ KeysOf K (ls ++ ad.take i)
  low : ∀ b, (vl.ownBlock = some b ∨ vd.ownBlock = some b) → b < B ∨ w.heap.size ≤ b
  keep : ∀ b, B ≤ b → b < w.heap.size → wr.heap[b]? = w.heap[b]?
  bel : Below lo w wr
theorem AppRel.below {lo f bm B n0 : Nat} {w wr wr' : World} {vt vl vd vm : Value} {trk : List Int} {mvs ls ad : List (List Int)} {ds : List Int} {k : Nat} {d : Int} {log : ByteArray} {syn : Int} {i : Nat} (h : AppRel lo f bm B n0 w wr vt vl vd vm trk mvs ls ad ds k d log syn i) (hlo : lo ≤ w.heap.size) (hb : Below wr.heap.size wr wr') : AppRel lo f bm B n0 w wr' vt vl vd vm trk mvs ls ad ds k d log syn i := by
  obtain ⟨⟨K, h1, h2⟩, h3, h4, h5⟩ := h
  exact ⟨⟨K, h1.below hb, h2⟩, h3, fun b k1 k2 => (hb.block b (by have := h5.size; omega)).trans (h4 b k1 k2), h5.trans (hb.mono (by have := h5.size; omega))⟩
def AppPost (lo f bm n0 : Nat) (vt vm : Value) (trk : List Int) (mvs ls ad : List (List Int)) (ds : List Int) (k : Nat) (d : Int) (log rec : ByteArray) (syn : Int) (w : World) (e : Ending) (w' : World) : Prop :=
  ∃ vl vd, e = .returned (.tuple #[]) ∧ (∃ K, FlAt lo f bm w' vt vl vd vm trk mvs (ls ++ ad) (ds ++ List.replicate ad.length d) ((k + 1 : Nat) : Int) (log ++ rec) syn (n0 + ad.length) K ∧ KeysOf K (ls ++ ad)) ∧ Below lo w w'
set_option maxRecDepth 100000 in
set_option maxHeartbeats 8000000 in
theorem implApp (lo f bm B n0 : Nat) (vt vl vd vm : Value) (trk : List Int) (mvs ls ad : List (List Int)) (ds : List Int) (k : Nat) (d : Int) (log rec : ByteArray) (syn : Int) (K : List ByteArray) (A : Option Addr) (c N L : Nat) (w : World) (hf : FlAt lo f bm w vt vl vd vm trk mvs ls ds (k : Int) log syn n0 K) (hK : KeysOf K ls) (hz : ∀ b, (ZsOf (fun b => b = f ∨ vt.ownBlock = some b) bm vd vm b ∨ vl.ownBlock = some b) → b < B) (hO : OwnL B w (.slice A ad.length c) ad) (hOR : RowF B w (.slice A ad.length c) ad) (hlB : lo ≤ B) (hro : RowsOk N L ad) (hN : N ≤ 256) (hL : L ≤ 1000) (hd : ds.getD k 0 + 1 = d) (hd0 : 0 ≤ d) (hd1 : d ≤ 100000) (hk : k < ds.length) (hdl : ds.length = ls.length) (hl : ls.length ≤ 100000) (ha : ad.length ≤ 1000) (hn0 : n0 ≤ 100000) (hbm : lo ≤ bm) (hlg : log.size ≤ 1000000) (hrc : rec.size ≤ 1000000) (hk1 : k ≤ 1000000) :
    Calls Try.prog 70 #[.pointer (some ⟨f, 0, none⟩), .slice A ad.length c, .string rec] w (AppPost lo f bm n0 vt vm trk mvs ls ad ds k d log rec syn w) := by
  obtain ⟨Ad, cd, hcd, rfl, hID⟩ := hf.st.deps.capped
  obtain ⟨bd, od, hAd, hbd, hcdk⟩ := hID k hk
  obtain ⟨dk, hdk⟩ : ∃ dk, ds.getD k 0 = dk := ⟨_, rfl⟩
  rw [hdk] at hcdk hd
  obtain ⟨a, hal⟩ : ∃ a, ad.length = a := ⟨_, rfl⟩
  have HAL := Lib.hid hal
  have hrow := hf.row
  have f2 := cell_of_row w f 2 _ _ (0, 0) hrow
  have f3 := cell_of_row w f 3 _ _ (0, 0) hrow
  have HR0 : Hid (AppRel lo f bm B n0 w w vt vl (.slice Ad ds.length cd) vm trk mvs ls ad ds k d log syn 0) := ⟨⟨K, by simpa using hf, by simpa using hK⟩, fun b hb => .inl (hz b (by rcases hb with e | e; exact .inr e; exact .inl (.inr (.inr (.inl e))))), fun _ _ _ => rfl, Below.refl _ _⟩
  have HO := Lib.hid hO
  have HOR := Lib.hid hOR
  have HLB := Lib.hid hlB
  have HRO := Lib.hid hro
  have HZ := Lib.hid hz
  have hfl := row_lt hrow
  have hlof := hf.lof
  have hwd : IntKind.i64.wrap (dk + 1) = d := by rw [hd]; exact IntWalk.i64_in _ (by omega)
  have q0 : (0 : Int) ≤ (k : Int) := by omega
  have q1 : (k : Int) < (ds.length : Int) := by omega
  rw [hal] at ha ⊢
  subst hAd
  have HDL := Lib.hid hdl
  have HLOB := Lib.hid hbm
  clear hf hK hz hO hOR hro hID hdk hal hrow hdl
  go_enter Try.func70, Try.ntmps70
  go_wp2_with fail
  go_quiet (fail)
  go_wp2_with fail
  have HR1 := Lib.hid (HR0.out.below (by omega) (belowDrewN (Below.refl _ _) nq))
  clear f2 f3 hcdk HR0 q0 q1
  go_loopw [25] (fun i wr => ∃ (j : Nat) (vl vd : Value), j ≤ a ∧ i = .int .i64 j ∧ AppRel lo f bm B n0 w wr vt vl vd vm trk mvs ls ad ds k d log syn j) (fun i _ => a - (intOf i).toNat)
  case atStart => exact ⟨0, _, _, Nat.zero_le _, rfl, HR1.out⟩
  case round =>
    obtain ⟨j, vl, vd, hj, rfl, hR⟩ := hrel
    clear HR1
    obtain ⟨K, hF, hKO⟩ := hR.fl
    obtain ⟨Al, cl, rfl, hcl, -⟩ := hF.st.lists.shape
    obtain ⟨Ad, cd2, hcd2, rfl, -⟩ := hF.st.deps.capped
    have hsl : (ls ++ ad.take j).length = ls.length + j := by rw [List.length_append, List.length_take, HAL.out]; omega
    have hsd : (ds ++ List.replicate j d).length = ls.length + j := by rw [List.length_append, List.length_replicate, HDL.out]
    obtain ⟨nj, hnj⟩ : ∃ nj, ls.length + j = nj := ⟨_, rfl⟩
    rw [hsl, hsd, hnj] at hF hR
    rw [hsl, hnj] at hcl
    rw [hsd, hnj] at hcd2
    rw [hnj] at hsl hsd
    have hnj2 : nj ≤ 200000 := by omega
    obtain ⟨lj, hlj⟩ : ∃ lj, ls ++ ad.take j = lj := ⟨_, rfl⟩
    obtain ⟨dj, hdj⟩ : ∃ dj, ds ++ List.replicate j d = dj := ⟨_, rfl⟩
    rw [hlj] at hF hKO hsl
    rw [hdj] at hF hsd
    have HLJ := Lib.hid hlj
    have HDJ := Lib.hid hdj
    have HSL := Lib.hid hsl
    have HSD := Lib.hid hsd
    clear hlj hdj hsl hsd hnj
    have HR := Lib.hid hR
    have HF := Lib.hid hF
    have HKO := Lib.hid hKO
    have hrow := hF.row
    have f1 := cell_of_row wr f 1 _ _ (0, 0) hrow
    have f2 := cell_of_row wr f 2 _ _ (0, 0) hrow
    have f3 := cell_of_row wr f 3 _ _ (0, 0) hrow
    have f4 := cell_of_row wr f 4 _ _ (0, 0) hrow
    have f7 := cell_of_row wr f 7 _ _ (0, 0) hrow
    have ff : ∀ p, wr.frozen? ⟨f, p, none⟩ = false := fun p => row_free hrow
    have hfw := row_lt hrow
    have hzB := hR.bel.size
    clear hR hF hKO hrow
    by_cases hlt : j < a
    · obtain ⟨g, Aj, cj, hA, hgl, hcell, hcj, hIj, hnz⟩ := GrAt.at_ HO.out (j := j) (by rw [HAL.out]; exact hlt)
      have hgo := GrAt.own HO.out g (by rw [hA]; rfl)
      have hfj := HOR.out.at_ hA hcell (by rw [HAL.out]; exact hlt)
      obtain ⟨x, hx⟩ : ∃ x, ad.getD j [] = x := ⟨_, rfl⟩
      have hpx : PtsOk N L x := by rw [← hx]; exact HRO.out j (by rw [HAL.out]; exact hlt)
      rw [hx] at hcell hcj hIj hnz hfj
      have HFJ : Hid (0 < x.length → Fresh B wr (.slice Aj x.length cj) x) := fun h0 => by
        have hq := hfj h0
        exact hq.keep fun b hb => HR.out.keep b (World.ownsRow.lt hq b hb).1 (World.ownsRow.lt hq b hb).2
      rw [hpx.1] at hcell hcj
      have hgk := HR.out.keep g hgo.1 hgl
      have hcell' : wr.cell? ⟨g, j, none⟩ = some (.slice Aj L cj) := (World.cell?_of_block (a := ⟨g, j, none⟩) hgk).trans hcell
      have HIJ : Hid (IntsAt wr Aj x) := hIj.keep hzB (fun h0 g2 off s' e => HR.out.keep g2 (by have := hnz h0 g2 off s' e; omega) (hIj.first h0 e))
      obtain ⟨key, hke⟩ : ∃ key, strOfNums x = key := ⟨_, rfl⟩
      have hks8 : key.size ≤ maxLen := by rw [← hke, strOfNums_size, hpx.1]; unfold maxLen; omega
      have HKEY : Hid (∀ wx, IntsAt wx Aj x → Calls Try.prog 86 #[.slice Aj L cj] wx fun e w' => e = .returned (.string key) ∧ Below wx.heap.size wx w') := fun wx q => by
        have := keyOf Aj cj x wx q (by rw [hpx.1]; omega) (hpx.byt (by omega))
        rwa [hke, hpx.1] at this
      have HKE := Lib.hid hke
      have HCJ := Lib.hid hcj
      have HPX := Lib.hid hpx
      have HXX := Lib.hid hx
      have HNZ := Lib.hid hnz
      have HIW := Lib.hid hIj
      have q0 : (0 : Int) ≤ (j : Int) := by omega
      have q1 : (j : Int) < (a : Int) := by omega
      subst hA
      clear hx hpx hke hIj hnz hcell hgk hfj
      go_wp2_with fail
      go_region_held3 (fun w' => w'.cell? ⟨f, 7, none⟩ = some (.map (some bm))) (first | go_keep | exact f78 | exact f79) ((go_at_call 86; refine (HKEY.out _ (by exact HIJ.out)).mono ?_; rintro e w8 ⟨rfl, hb8⟩; have B8 : Below wr.heap.size wr w8 := ⟨hb8.os, hb8.tape, hb8.output, hb8.size, hb8.block⟩; have f78 := cell_of_row w8 f 7 _ _ (0, 0) (rowB B8 HF.out.row); obtain ⟨w9, hrun, hS9, hg9⟩ := SeenAt.put (SeenAt.below HF.out.st.seen B8) key hks8 (by unfold maxLen; omega); have HF9 := Lib.hid (FlAt.see (HF.out.below B8) hS9 hg9); have f79 := cell_of_row w9 f 7 _ _ (0, 0) HF9.out.row))
      have HHF := Lib.hid (HZ.out f (.inl (.inl (.inl rfl))))
      have HVT : Hid (∀ b, vt.ownBlock = some b → b < B) := fun b e => HZ.out b (.inl (.inl (.inr e)))
      have HBM := Lib.hid (HZ.out bm (.inl (.inr (.inl rfl))))
      have HVM : Hid (∀ b, vm.ownBlock = some b → b < B) := fun b e => HZ.out b (.inl (.inr (.inr (.inr e))))
      have HI9 : Hid (IntsAt w9 Aj x) := (HIJ.out.below B8).kept hg9 (fun h0 g2 off s' e e2 => by have := HNZ.out h0 g2 off s' e; have := HBM.out; injection e2 with e2; omega)
      have HF9J : Hid (0 < x.length → Fresh lo w9 (.slice Aj x.length cj) x) := fun h0 => (((HFJ.out h0).below B8).row hg9 (fun b hb e => by have := (World.ownsRow.lt (HFJ.out h0) b hb).1; have := HBM.out; injection e with e; omega)).mono HLB.out
      have HYZ : Hid (0 < x.length → ∀ g2 off s', Aj = some ⟨g2, off, s'⟩ → ¬ ZsOf (fun b => b = f ∨ vt.ownBlock = some b) bm (.slice Ad nj cd2) vm g2 ∧ (Value.slice Al nj cl).ownBlock ≠ some g2) := fun h0 g2 off s' e => by
        have h1 := HNZ.out h0 g2 off s' e
        have h2 := HIW.out.first h0 e
        refine ⟨fun h3 => ?_, fun h3 => ?_⟩
        · rcases h3 with (h3 | h3) | h3 | h3 | h3
          · have := HHF.out; omega
          · have := HVT.out g2 h3; omega
          · have := HBM.out; omega
          · have := HR.out.low g2 (.inr h3); omega
          · have := HVM.out g2 h3; omega
        · have := HR.out.low g2 (.inl h3); omega
      have HB8 := Lib.hid B8
      have HG9 := Lib.hid hg9
      have hz8 := B8.size
      have hz9 := hg9.size
      have HLO := Lib.hid HF9.out.st.lists.own
      have HDO := Lib.hid HF9.out.st.deps.block
      have hlw : lo ≤ w9.heap.size := by omega
      have f91 := cell_of_row w9 f 1 _ _ (0, 0) HF9.out.row
      have f9f : ∀ p, w9.frozen? ⟨f, p, none⟩ = false := fun p => row_free HF9.out.row
      have hl1 : lj.length ≤ 1048576 := by rw [HSL.out]; omega
      have hd1' : dj.length ≤ 1048576 := by rw [HSD.out]; omega
      clear f1 f2 f3 f4 f7 ff f78 hrun hS9 hg9 hb8 B8 hcell' hcj
      go_wp2_with (first
        | (at_builtin; refine append_grf rfl (.tmp 41) (.tmp 43) rfl lo (ZsOf (fun b => b = f ∨ vt.ownBlock = some b) bm (.slice Ad nj cd2) vm) (.slice Al nj cl) lj x Aj cj rfl (HF9.out.below (by exact (by repeat (first | exact Below.refl _ _ | assumption | refine Below.setCell ?_ (by first | omega | (simp <;> omega)) _ | refine Below.alloc ?_ (by first | omega | (simp <;> omega)) _ | refine Below.drew ?_)))).st.lists (HF9.out.below (by exact (by repeat (first | exact Below.refl _ _ | assumption | refine Below.setCell ?_ (by first | omega | (simp <;> omega)) _ | refine Below.alloc ?_ (by first | omega | (simp <;> omega)) _ | refine Below.drew ?_)))).own (fun b hb => by have := HF9.out.st.bound b hb; simp; omega) w9.heap.size rfl (by rw [HPX.out.1]; simp) (by rw [HPX.out.1]; exact HCJ.out) (HI9.out.below (by exact (by repeat (first | exact Below.refl _ _ | assumption | refine Below.setCell ?_ (by first | omega | (simp <;> omega)) _ | refine Below.alloc ?_ (by first | omega | (simp <;> omega)) _ | refine Below.drew ?_)))) HYZ.out (fun h0 => (HF9J.out h0).below (by exact (by repeat (first | exact Below.refl _ _ | assumption | refine Below.setCell ?_ (by first | omega | (simp <;> omega)) _ | refine Below.alloc ?_ (by first | omega | (simp <;> omega)) _ | refine Below.drew ?_)))) hl1 (by simp; omega) ?_; intro A10 c10 w10 hG10 hR10 hg10 hat10; have HP10 := Lib.hid (FlAt.pushList (HF9.out.below (by exact (by repeat (first | exact Below.refl _ _ | assumption | refine Below.setCell ?_ (by first | omega | (simp <;> omega)) _ | refine Below.alloc ?_ (by first | omega | (simp <;> omega)) _ | refine Below.drew ?_)))) hG10 hR10 hg10 hat10); have HGR10 := Lib.hid hg10; have HAT10 := Lib.hid hat10; have hrow10 := rowR hg10 (rowB (by exact (by repeat (first | exact Below.refl _ _ | assumption | refine Below.setCell ?_ (by first | omega | (simp <;> omega)) _ | refine Below.alloc ?_ (by first | omega | (simp <;> omega)) _ | refine Below.drew ?_))) HF9.out.row) (fun e => (HLO.out f e).2.2 (.inl (.inl rfl))); have f10 := cell_of_row w10 f 1 _ _ (0, 0) hrow10; have f10f : ∀ p, w10.frozen? ⟨f, p, none⟩ = false := (fun p => row_free hrow10); have hz10 : w9.heap.size ≤ w10.heap.size := (by have := hg10.size; simp at this; omega); clear hG10 hR10 hg10 hat10 hrow10 f91 f9f; obtain ⟨w11, hw11⟩ : ∃ w11, w10.setCell ⟨f, 1, none⟩ (.slice A10 (lj.length + 1) c10) = w11 := ⟨_, rfl⟩; have HF11 : Hid (FlAt lo f bm w11 vt (.slice A10 (lj.length + 1) c10) (.slice Ad nj cd2) vm trk mvs (lj ++ [x]) dj (k : Int) log syn (n0 + j + 1) (key :: K)) := (by rw [← hw11]; exact HP10.out); have HGR11 : Hid (w10.grownBy w11 (some f)) := (by rw [← hw11]; exact setGrown _ _ _ _); have hsz11 : w11.heap.size = w10.heap.size := (by rw [← hw11]; simp); have f112 := cell_of_row w11 f 2 _ _ (0, 0) HF11.out.row)
        | (at_builtin; refine append_at rfl (.tmp 55) (.tmp 57) rfl lo (.slice Ad nj cd2) dj d rfl (HF11.out.below (by exact (by repeat (first | exact Below.refl _ _ | assumption | refine Below.setCell ?_ (by first | omega | (simp <;> omega)) _ | refine Below.alloc ?_ (by first | omega | (simp <;> omega)) _ | refine Below.drew ?_)))).st.deps w10.heap.size rfl (by rw [← hsz11]; simp) hd1' (by simp; omega) ?_; intro A12 c12 w12 hF12 hg12 hat12; have HP12 := Lib.hid (FlAt.pushDep (HF11.out.below (by exact (by repeat (first | exact Below.refl _ _ | assumption | refine Below.setCell ?_ (by first | omega | (simp <;> omega)) _ | refine Below.alloc ?_ (by first | omega | (simp <;> omega)) _ | refine Below.drew ?_)))) hF12 hg12 hat12); have HGR12 := Lib.hid hg12; have HAT12 := Lib.hid hat12; have hrow12 := rowR hg12 (rowB (by exact (by repeat (first | exact Below.refl _ _ | assumption | refine Below.setCell ?_ (by first | omega | (simp <;> omega)) _ | refine Below.alloc ?_ (by first | omega | (simp <;> omega)) _ | refine Below.drew ?_))) HF11.out.row) (fun e => HF11.out.st.zdep f e (.inl rfl)); have f12 := cell_of_row w12 f 2 _ _ (0, 0) hrow12; have f12f : ∀ p, w12.frozen? ⟨f, p, none⟩ = false := (fun p => row_free hrow12); clear hF12 hg12 hat12 hrow12 f112))
      have hz12 : w10.heap.size ≤ w12.heap.size := by have := HGR12.out.size; simp at this; omega
      have HREL : Hid (AppRel lo f bm B n0 w (w12.setCell ⟨f, 2, none⟩ (.slice A12 (dj.length + 1) c12)) vt (.slice A10 (lj.length + 1) c10) (.slice A12 (dj.length + 1) c12) vm trk mvs ls ad ds k d log syn (j + 1)) := by
        have e1 : ls ++ ad.take (j + 1) = lj ++ [x] := by rw [take_snocL _ _ (by rw [HAL.out]; exact hlt), HXX.out, ← List.append_assoc, HLJ.out]
        have e2 : ds ++ List.replicate (j + 1) d = dj ++ [d] := by rw [List.replicate_succ', ← List.append_assoc, HDJ.out]
        refine ⟨⟨key :: K, ?_, ?_⟩, fun b hb => ?_, fun b k1 k2 => ?_, ?_⟩
        · rw [e1, e2]; exact HP12.out
        · rw [e1, ← HKE.out]; exact HKO.out.more x
        · rcases hb with e | e
          · rcases HAT10.out with e3 | e3
            · rw [e3] at e; exact HR.out.low b (.inl e)
            · rw [e3] at e; injection e with e; simp at e; exact .inr (by omega)
          · rcases HAT12.out with e3 | e3
            · rw [e3] at e; exact HR.out.low b (.inr e)
            · rw [e3] at e; injection e with e; simp at e; exact .inr (by omega)
        · have hfB := HHF.out
          have hbB := HBM.out
          rw [heap_setCell_other _ _ b _ (by simp; omega), HGR12.out.block b (by simp; omega) (fun e => by have := HR.out.low b (.inr e.symm); omega), (show Below w11.heap.size w11 (w11.alloc (.cells #[.int .i64 d] 2)) from by exact (by repeat (first | exact Below.refl _ _ | assumption | refine Below.setCell ?_ (by first | omega | (simp <;> omega)) _ | refine Below.alloc ?_ (by first | omega | (simp <;> omega)) _ | refine Below.drew ?_))).block b (by omega), HGR11.out.block b (by omega) (fun e => by injection e with e; omega), HGR10.out.block b (by simp; omega) (fun e => by have := HR.out.low b (.inl e.symm); omega), (show Below w9.heap.size w9 (w9.alloc (.cells #[.slice Aj L cj] 31)) from by exact (by repeat (first | exact Below.refl _ _ | assumption | refine Below.setCell ?_ (by first | omega | (simp <;> omega)) _ | refine Below.alloc ?_ (by first | omega | (simp <;> omega)) _ | refine Below.drew ?_))).block b (by omega), HG9.out.block b (by omega) (fun e => by injection e with e; omega), HB8.out.block b (by omega)]
          exact HR.out.keep b k1 k2
        · have h9 : Below lo w w9 := (HR.out.bel.trans (HB8.out.mono (by omega))).grown HG9.out (by omega) (fun b hb => by injection hb with hb; have := HLOB.out; omega)
          have h11 : Below lo w w11 := ((h9.alloc (by omega) _).grown HGR10.out (by simp; omega) (fun b hb => (HLO.out b hb).1)).grown HGR11.out (by omega) (fun b hb => by injection hb with hb; omega)
          exact ((h11.alloc (by omega) _).grown HGR12.out (by simp; omega) (fun b hb => HDO.out b hb)).setCell (by simpa using hlof) _
      go_roundw
      case rel => exact ⟨j + 1, _, _, by omega, by go_num, HREL.out⟩
      case measure => simp [intOf]; omega
    · obtain rfl : j = a := by omega
      have hq1 : IntKind.i64.wrap ((k : Int) + 1) = ((k + 1 : Nat) : Int) := (IntWalk.i64_in _ (by omega)).trans (by omega)
      have hq2 : ¬ 9223372036854775807 < log.size + rec.size := by omega
      have HE : Hid (ls ++ ad = lj) := by unfold Hid; rw [← HLJ.out, List.take_of_length_le (by rw [HAL.out]; omega)]
      go_wp2_with fail
      go_end0
      have hB : Below lo w ((wr.setCell ⟨f, 3, none⟩ (.int .i64 ((k : Int) + 1))).setCell ⟨f, 4, none⟩ (.string (log ++ rec))) := (HR.out.bel.setCell (p := ⟨f, 3, none⟩) (by simpa using hlof) _).setCell (p := ⟨f, 4, none⟩) (by simpa using hlof) _
      have hFF := (HF.out.setNext ((k : Int) + 1)).setLog (log ++ rec)
      refine ⟨.slice Al nj cl, .slice Ad nj cd2, rfl, ⟨K, ?_, by rw [HE.out]; exact HKO.out⟩, hB⟩
      rw [HE.out, HAL.out, HDJ.out, show ((k + 1 : Nat) : Int) = (k : Int) + 1 from by omega]
      exact hFF
end
section
open Go.RowKit Grp

/-- A filler with the table s, k expanded, and the log. -/
def FsAt (lo f bm : Nat) (vt vm : Value) (trk : List Int) (mvs : List (List Int)) (syn : Int) (w : World) (s : Bs) (k : Nat) (log : ByteArray) : Prop :=
  ∃ vl vd K, FlAt lo f bm w vt vl vd vm trk mvs s.ls s.ds (k : Int) log syn s.ls.length K ∧ KeysOf K s.ls
theorem FsAt.below {lo f bm : Nat} {vt vm : Value} {trk : List Int} {mvs : List (List Int)} {syn : Int} {w w' : World} {s : Bs} {k : Nat} {log : ByteArray} (h : FsAt lo f bm vt vm trk mvs syn w s k log) (hb : Below w.heap.size w w') : FsAt lo f bm vt vm trk mvs syn w' s k log := by
  obtain ⟨vl, vd, K, h1, h2⟩ := h
  exact ⟨vl, vd, K, h1.below hb, h2⟩
set_option maxHeartbeats 1000000 in
theorem implDone (lo f bm : Nat) (vt vm : Value) (trk : List Int) (mvs : List (List Int)) (syn : Int) (s : Bs) (k : Nat) (log : ByteArray) (w : World) (h : FsAt lo f bm vt vm trk mvs syn w s k log) :
    Calls Try.prog 67 #[.pointer (some ⟨f, 0, none⟩)] w (Quiet (.bool (decide (k = s.ls.length))) w) := by
  obtain ⟨vl, vd, K, hF, -⟩ := h
  obtain ⟨Al, cl, rfl, hcl, -⟩ := hF.st.lists.shape
  obtain ⟨n, hn⟩ : ∃ n, s.ls.length = n := ⟨_, rfl⟩
  have f1 := cell_of_row w f 1 _ _ (0, 0) hF.row
  have f3 := cell_of_row w f 3 _ _ (0, 0) hF.row
  rw [hn] at f1 ⊢
  clear hF hcl hn
  have hd : decide (k = n) = ((k : Int) == (n : Int)) := by
    rw [Bool.eq_iff_iff, decide_eq_true_iff, beq_iff_eq]
    omega
  rw [hd]
  clear hd
  go_enter Try.func67, Try.ntmps67
  go_wp2_with fail
  go_quiet ((go_at_call 52; exact quietLeft (lenLists _ _ _ _)))
  go_wp2_with fail
  go_ret
  exact ⟨rfl, _, rfl⟩
def StepPost (lo f bm : Nat) (vt vm : Value) (trk : List Int) (mvs : List (List Int)) (syn : Int) (s : Bs) (k : Nat) (log : ByteArray) (w : World) (e : Ending) (w' : World) : Prop :=
  ∃ b, e = .returned (.bool b) ∧ (b = true ↔ k < s.ls.length ∧ log.size + (fullS k (addedB mvs s.ls k)).size ≤ 60000) ∧ (b = true → FsAt lo f bm vt vm trk mvs syn w' (nextB mvs s k) (k + 1) (log ++ fullS k (addedB mvs s.ls k))) ∧ (b = false → FsAt lo f bm vt vm trk mvs syn w' s k log) ∧ Below lo w w'
set_option maxRecDepth 100000 in
set_option maxHeartbeats 4000000 in
theorem implStep (lo f bm : Nat) (vt vm : Value) (trk : List Int) (mvs : List (List Int)) (syn : Int) (s : Bs) (k : Nat) (log : ByteArray) (N L : Nat) (w : World) (h : FsAt lo f bm vt vm trk mvs syn w s k log) (hok : BsOk N L s) (hmv : ∀ i, i < mvs.length → PtsOk N N (mvs.getD i [])) (hm : mvs.length ≤ 100) (hk : k ≤ s.ls.length) (hN : N ≤ 256) (hL : L ≤ 1000) (hbm : lo ≤ bm) (hlg : log.size ≤ 60000) :
    Calls Try.prog 65 #[.pointer (some ⟨f, 0, none⟩)] w (StepPost lo f bm vt vm trk mvs syn s k log w) := by
  have hlof : lo ≤ w.heap.size := by
    obtain ⟨vl, vd, K, hF, -⟩ := h
    have := row_lt hF.row
    have := hF.lof
    omega
  have HD := Lib.hid (implDone lo f bm vt vm trk mvs syn s k log w h)
  by_cases hlt : k < s.ls.length
  · obtain ⟨ad, had⟩ : ∃ ad, addedB mvs s.ls k = ad := ⟨_, rfl⟩
    obtain ⟨fu, hfu⟩ : ∃ fu, fullS k ad = fu := ⟨_, rfl⟩
    have HAD := Lib.hid had
    have HFU := Lib.hid hfu
    have hd : decide (k = s.ls.length) = false := decide_eq_false (by omega)
    rw [hd] at HD
    have hrows : RowsOk N L ad := by
      rw [← had]
      exact addTo_rows (hok.rows k hlt) mvs [] hmv (fun i hi => by simp at hi)
    have hadl : ad.length ≤ 100 := by
      rw [← had]
      have := addTo_len s.ls (s.ls.getD k []) mvs []
      unfold addedB
      rw [List.length_nil] at this
      omega
    have hfs : fu.size ≤ 100007 := by
      rw [← hfu, full_size k hrows]
      have : ad.length * L ≤ 100 * 1000 := Nat.mul_le_mul hadl hL
      omega
    have HR := Lib.hid hrows
    have HH := Lib.hid h
    have HOK := Lib.hid hok
    have HMV := Lib.hid hmv
    have hcap := hok.cap
    have hwl : IntKind.i64.wrap ((log.size : Int) + (fu.size : Int)) = (log.size : Int) + (fu.size : Int) := IntWalk.i64_in _ (by omega)
    clear h hok hmv hrows hd had hfu
    go_enter Try.func65, Try.ntmps65
    go_wp2_with fail
    refine HD.out.mono ?_
    rintro e w1 ⟨rfl, nq, rfl⟩
    have hb1 : Below w.heap.size w (w.drewN nq) := belowDrewN (Below.refl _ _) nq
    obtain ⟨w1, hw1⟩ : ∃ w1, w.drewN nq = w1 := ⟨_, rfl⟩
    rw [hw1] at hb1 ⊢
    clear hw1
    have HH1 := Lib.hid (HH.out.below hb1)
    have hz1 := hb1.size
    go_wp2_with fail
    obtain ⟨vl, vd, K, hF, hK⟩ := HH1.out
    have HF := Lib.hid hF
    have HK := Lib.hid hK
    have hexp := implExp lo f bm vt vl vd vm trk mvs s k log syn s.ls.length K N L w1 hF hK HOK.out HMV.out hlt hm hN hL
    rw [HAD.out] at hexp
    clear hF hK
    refine hexp.mono ?_
    rintro e w2 ⟨A, c, rfl, hO, hb2⟩
    rw [HFU.out]
    have HO := Lib.hid hO
    have HF2 := Lib.hid (HF.out.below hb2)
    have HB2 := Lib.hid (belowStep hb2 hb1)
    have f4 := cell_of_row w2 f 4 _ _ (0, 0) HF2.out.row
    have hz2 := hb2.size
    clear hexp hO hb2
    by_cases hfit : log.size + fu.size ≤ 60000
    · have q1 : ¬ (60000 : Int) < (log.size : Int) + (fu.size : Int) := by omega
      go_wp2_with fail
      have hdp := HOK.out.depth hlt
      refine (implApp lo f bm w1.heap.size s.ls.length vt vl vd vm trk mvs s.ls ad s.ds k (depOf k s) log fu syn K A c N L w2 HF2.out HK.out (fun b hb => ?_) HO.out.1 HO.out.2 (by omega) HR.out hN hL rfl hdp.1 (by omega) (by rw [HOK.out.len]; exact hlt) HOK.out.len (by omega) (by omega) (by omega) hbm (by omega) (by omega) (by omega)).mono ?_
      · rcases hb with e | e
        · exact HF.out.st.bound b e
        · exact (HF.out.st.lists.own b e).2.1
      rintro e w3 ⟨vl3, vd3, rfl, ⟨K3, hF3, hK3⟩, hb3⟩
      have HF3 := Lib.hid hF3
      have HK3 := Lib.hid hK3
      have HB3 : Hid (Below lo w w3) := (HB2.out.mono hlof).trans hb3
      clear hF3 hK3 hb3
      go_wp2_with fail
      go_ret
      refine ⟨true, rfl, ⟨fun _ => ⟨hlt, by rw [HAD.out, HFU.out]; exact hfit⟩, fun _ => rfl⟩, fun _ => ⟨vl3, vd3, K3, ?_, ?_⟩, (fun e => by cases e), HB3.out⟩
      · unfold nextB
        rw [HAD.out, HFU.out]
        have := HF3.out
        rw [← List.length_append] at this
        exact this
      · unfold nextB
        rw [HAD.out]
        exact HK3.out
    · have q1 : (60000 : Int) < (log.size : Int) + (fu.size : Int) := by omega
      go_wp2_with fail
      go_ret
      refine ⟨false, rfl, ⟨fun e => (by cases e), fun e => ?_⟩, (fun e => by cases e), fun _ => ⟨vl, vd, K, HF2.out, HK.out⟩, HB2.out.mono hlof⟩
      rw [HAD.out, HFU.out] at e
      omega
  · have hd : decide (k = s.ls.length) = true := decide_eq_true (by omega)
    rw [hd] at HD
    have HH := Lib.hid h
    clear h hok hmv hd
    go_enter Try.func65, Try.ntmps65
    go_wp2_with fail
    refine HD.out.mono ?_
    rintro e w1 ⟨rfl, nq, rfl⟩
    go_wp2_with fail
    go_ret
    have hb1 : Below w.heap.size w (w.drewN nq) := belowDrewN (Below.refl _ _) nq
    exact ⟨false, rfl, ⟨fun e => (by cases e), fun e => absurd e.1 hlt⟩, (fun e => by cases e), fun _ => HH.out.below hb1, hb1.mono hlof⟩
end
end Go.Proofs.Ytfhdnanbhigpmaa
