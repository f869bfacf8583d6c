/- A permutation divided by a chain's representatives, at the reference: what remains, and where. Conditions: as the contract says. -/
import Derived.Test.YtpcnbjfkobeibaaHas
namespace Go.Proofs.Ytpcnbjfkobeibaa
open Go.RowKit Grp

def SiftPost (n : Nat) (b : Bool) (w : World) (e : Ending) (w' : World) : Prop := ∃ (v : Value) (k : Nat), e = .returned (.tuple #[v, .int .i64 (k : Int)]) ∧ (k = n ↔ b = true) ∧ Below w.heap.size w w'
set_option maxHeartbeats 1000000 in
set_option maxRecDepth 100000 in
theorem specSift {ok : Nat → Prop} (B n C k0 : Nat) (s : Sh) (T : Tab) (Gs : Nat → List (List Nat)) (v : Value) (p : List Nat) (w : World) (ht : TopS w C n s) (hb : Body ok B n w s T Gs) {ok' : Nat → Prop} (hv : PermV ok' w v n p) (hp : IsP n p) (hTP : ∀ i y t, k0 ≤ i → i < n → T i y = some t → IsP n t) (hk : k0 ≤ n) (hn : 0 < n) (hnl : n ≤ 20) :
    Calls Try.prog 136 #[.pointer (some ⟨C, 0, none⟩), .int .i64 (k0 : Int), v] w (SiftPost n (sift T k0 (n - k0) p) w) := by
  obtain ⟨b0, hb0⟩ : ∃ b0, sift T k0 (n - k0) p = b0 := ⟨_, rfl⟩
  rw [hb0]
  have HB0 := Lib.hid hb0
  have HTP := Lib.hid hTP
  have HT := Lib.hid ht
  have HBD := Lib.hid hb
  have HP := Lib.hid hp
  have HV := Lib.hid hv
  clear hb0 hTP ht hb hp hv
  go_enter Try.func136, Try.ntmps136
  go_wp2_with fail
  go_loopw [2, 8] (fun u i wr => ∃ (k : Nat) (q : List Nat), i = .int .i64 k ∧ k0 ≤ k ∧ k ≤ n ∧ Hid (PermV (fun _ => True) wr u n q) ∧ Hid (IsP n q) ∧ Hid (sift T k (n - k) q = b0) ∧ Below w.heap.size w wr) (fun _ i _ => n - (intOf i).toNat)
  case atStart => exact ⟨k0, p, rfl, Nat.le_refl _, hk, HV.out.weak (fun _ _ _ => trivial), HP.out, HB0.out, Below.refl _ _⟩
  case round =>
    obtain ⟨k, q, rfl, hk0, hkn, HQ, HIP, HS, hB⟩ := hrel
    have hT : TopS wr C n s := rowB hB HT.out
    have t0 : wr.cell? ⟨C, 0, none⟩ = some (.int .i64 (n : Int)) := cell_of_row wr C 0 _ _ (0, 0) hT
    have t2 : wr.cell? ⟨C, 1, none⟩ = some (.slice (some ⟨s.Rb, 0, none⟩) n s.cr) := cell_of_row wr C 1 _ _ (0, 0) hT
    have HBR := Lib.hid (HBD.out.below hB)
    clear hT
    by_cases hlt : k < n
    · have hx := HIP.out.lt hlt
      obtain ⟨g, c, rfl, hI, hql⟩ := HQ.out.ints
      obtain ⟨b, off, e, hbl, hc⟩ := perm_at hI (i := k) (by rw [hql]; exact hlt)
      injection e with e
      injection e with e1 e2
      subst e1 e2
      rw [Nat.zero_add] at hc
      obtain ⟨x, hxx⟩ : ∃ x, app q k = x := ⟨_, rfl⟩
      rw [hxx] at hc hx
      have hrb := HBR.out.readRb hlt
      obtain ⟨u, hu, hrep, -⟩ := HBR.out.readRow hlt hx
      have p0 : (0 : Int) ≤ (k : Int) := by omega
      have p1 : (k : Int) < (n : Int) := by omega
      have p2 : (0 : Int) ≤ (x : Int) := by omega
      have p3 : (x : Int) < (n : Int) := by omega
      have hnk : n - k = (n - (k + 1)) + 1 := by omega
      have hs := HS.out
      rw [hnk] at hs
      have HI := Lib.hid hI
      clear hnk hql hI
      cases hTk : T k x with
      | none =>
        rw [hTk] at hrep
        obtain rfl : u = .slice none 0 0 := hrep
        rw [sift_none (by rw [hxx]; exact hTk)] at hs
        subst hs
        clear hxx hTk
        go_wp2_with fail
        go_quiet (fail)
        go_wp2_with fail
        exact bodyPost_ret (v := .tuple #[.slice (some ⟨g, 0, none⟩) n c, .int .i64 (k : Int)]) (by simp [results, Try.results136, go_sem]) rfl ⟨_, k, rfl, ⟨fun e => by omega, fun e => by cases e⟩, belowDrewN hB _⟩
      | some t =>
        rw [hTk] at hrep
        have hrep : PermV ok wr u n t := hrep
        rw [sift_some (by rw [hxx]; exact hTk)] at hs
        have hIt := HTP.out k x t hk0 hlt hTk
        obtain ⟨gt, ct, rfl, hIt2, htl⟩ := hrep.ints
        have HSN := Lib.hid hs
        have HIT := Lib.hid hIt2
        have HITP := Lib.hid hIt
        clear hxx hTk hs hrep hIt hIt2 htl
        go_wp2_with fail
        go_quiet (fail)
        clear t0 t2 hc hrb hu
        go_wp2_with fail
        refine (specInverse _ ct n t _ (by exact HIT.out) HITP.out (by omega)).mono ?_
        rintro e w3 ⟨v3, rfl, hF3, hb3⟩
        have hPV3 : PermV (fun _ => True) w3 v3 n (inv t) := hF3.perm (by rw [inv_len, HITP.out.len]) hn (fun _ _ _ => trivial)
        obtain ⟨g3, c3, rfl, hI3, -⟩ := hPV3.ints
        have hB3 := belowStep hb3 (belowDrewN hB _)
        have hI4 : IntsAt w3 (some ⟨g, 0, none⟩) (natI q) := (show IntsAt (wr.drewN _) (some ⟨g, 0, none⟩) (natI q) from HI.out).below hb3
        have HI4 := Lib.hid hI4
        have HI3 := Lib.hid hI3
        clear hF3 hb3 hPV3 hI3 hI4
        go_wp2_with fail
        refine (specCompose _ _ c c3 n q (inv t) _ (by exact HI4.out) (by exact HI3.out) HIP.out.len (by rw [inv_len, HITP.out.len]) (by omega) (fun i hi => HIP.out.lt hi)).mono ?_
        rintro e w4 ⟨v4, rfl, hF4, hb4⟩
        have HPV4 := Lib.hid (hF4.perm (ok := fun _ => True) (by rw [comp_len, HIP.out.len]) hn (fun _ _ _ => trivial))
        have hB4 := belowStep hb4 hB3
        clear hF4 hb4
        go_wp2_with fail
        go_roundw
        case rel => exact ⟨k + 1, comp q (inv t), by go_num, by omega, by omega, HPV4.out, HIP.out.comp HITP.out.inv, HSN.out, hB4⟩
        case measure => simp [intOf]; omega
    · obtain rfl : k = n := by omega
      have hs := HS.out
      rw [Nat.sub_self] at hs
      have hs : true = b0 := hs
      subst hs
      obtain ⟨g, c, rfl, -, -⟩ := HQ.out.ints
      go_wp2_with fail
      go_quiet (fail)
      go_wp2_with fail
      exact bodyPost_ret (v := .tuple #[.slice (some ⟨g, 0, none⟩) k c, .int .i64 (k : Int)]) (by simp [results, Try.results136, go_sem]) rfl ⟨_, k, rfl, ⟨fun _ => rfl, fun _ => rfl⟩, belowDrewN hB _⟩
end Go.Proofs.Ytpcnbjfkobeibaa
