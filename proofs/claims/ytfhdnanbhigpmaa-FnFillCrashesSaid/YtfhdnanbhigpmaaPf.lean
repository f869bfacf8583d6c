/- Drawn puzzles are puzzles. Conditions: as each theorem says. How many patterns of few points there are. Conditions: as each theorem says. The fill job of a drawn puzzle is short. Conditions: as each theorem says. -/
import Derived.Test.YtfhdnanbhigpmaaDp
import Derived.Test.YtfhdnanbhigpmaaRp
import Derived.Test.YtfhdnanbhigpmaaRu
namespace Go.Proofs.Ytfhdnanbhigpmaa
section
open Go.RowKit Grp

theorem mv_perm {n : Nat} {x : List Int} (h : IsMv n x) (h1 : 1 ≤ n) (h2 : n ≤ 20) : x.length = n ∧ PermL x := by
  obtain ⟨l, ⟨hl, hlt, hinj⟩, rfl⟩ := h
  have hn : (natI l).length = n := by rw [natI_len, hl]
  refine ⟨hn, by omega, by omega, fun j hj => ⟨by rw [natI_getD]; omega, ?_, fun j' hj' e => ?_⟩⟩
  · have := hlt j (by omega)
    rw [natI_getD, hn]
    omega
  · rw [natI_getD, natI_getD] at e
    have := hinj j' j (by omega) (by omega) (by omega)
    omega
theorem gs_drawn {n : Nat} {ms : List (List Int)} (h1 : 1 ≤ n) (h2 : n ≤ 20) (h8 : ms.length ≤ 8) (h : ∀ i, i < ms.length → IsMv n (ms.getD i [])) : gsQ (n : Int) ms = true := by
  rw [gsQ_any (inR_iff.2 ⟨by omega, by omega⟩) h8, Bool.not_eq_true', List.any_eq_false]
  intro x hx
  obtain ⟨i, hi, rfl⟩ := List.getElem_of_mem hx
  have hm := h i hi
  rw [List.getD_eq_getElem?_getD, List.getElem?_eq_getElem hi] at hm
  obtain ⟨e, hp⟩ := mv_perm hm h1 h2
  rw [badL_perm (by exact congrArg Int.ofNat e), Bool.not_eq_true']
  intro e2
  have e3 := permQ_yes hp
  rw [Option.getD_some, e2] at e3
  cases e3
theorem nm_drawn {j : Nat} (h1 : 1 ≤ j) (h3 : j ≤ 3) : NmTo ((⟨#[65, 66, 67]⟩ : ByteArray).extract 0 j) j := by
  have h : j = 1 ∨ j = 2 ∨ j = 3 := by omega
  rcases h with rfl | rfl | rfl <;> (unfold NmTo NmAt bt; decide)
theorem pz_drawn {n : Nat} {nm : ByteArray} {ms : List (List Int)} (hn : 3 ≤ n) (hn5 : n ≤ 5) (hl : ms.length = nm.size) (h1 : 1 ≤ nm.size) (h3 : nm.size ≤ 3) (hnm : nm = (⟨#[65, 66, 67]⟩ : ByteArray).extract 0 nm.size) (h : ∀ i, i < ms.length → IsMv n (ms.getD i [])) : pzQ ⟨(n : Int), nm, ms⟩ = true := by
  have hto : NmTo nm nm.size := by
    have := nm_drawn h1 h3
    rwa [← hnm] at this
  unfold pzQ
  dsimp only
  rw [gs_drawn (by omega) (by omega) (by omega) h, nmTo_yes hto, decide_eq_true (by omega : nm.size = ms.length), decide_eq_true (by omega : 1 ≤ ms.length)]
  rfl
theorem trk_drawn {n : Nat} {l : List Int} (hn : 3 ≤ n) (h : IsTrk l) : ptQ (n : Int) l = true := by
  refine ptQ_yes ?_
  rcases h with ⟨x, rfl, h0, h1⟩ | ⟨x, rfl, h0, h1⟩
  · refine ⟨by simp, fun j hj => ?_⟩
    obtain rfl : j = 0 := by simp at hj; omega
    simp
    omega
  · refine ⟨by simp, fun j hj => ?_⟩
    have hj2 : j = 0 ∨ j = 1 := by simp at hj; omega
    rcases hj2 with rfl | rfl
    · simp
      omega
    · simp
      omega
end
section
open Go.RowKit Grp

theorem nodup_lt : ∀ (m : Nat) (l : List Nat), l.Nodup → (∀ x, x ∈ l → x < m) → l.length ≤ m
  | 0, l, _, h => by
    cases l with
    | nil => simp
    | cons a l => exact absurd (h a (by simp)) (by omega)
  | m + 1, l, hn, h => by
    have h1 := nodup_lt m (l.erase m) (hn.erase m) (fun x hx => by
      have h2 := h x (List.mem_of_mem_erase hx)
      have h3 : x ≠ m := fun e => by subst e; exact hn.not_mem_erase hx
      omega)
    rw [List.length_erase] at h1
    split at h1 <;> omega
/-- A pattern of one or two points below 5, as a number. -/
def codeP (x : List Int) : Nat := (x.getD 0 0).toNat * 5 + (x.getD 1 0).toNat
theorem code_inj {L : Nat} {x y : List Int} (hL : L = 1 ∨ L = 2) (hx : PtsOk 5 L x) (hy : PtsOk 5 L y) (e : codeP x = codeP y) : x = y := by
  obtain ⟨x1, x2⟩ := hx
  obtain ⟨y1, y2⟩ := hy
  unfold codeP at e
  refine List.ext_getElem (by rw [x1, y1]) fun i h1 h2 => ?_
  have hxi : x[i] = x.getD i 0 := by rw [List.getD_eq_getElem?_getD, List.getElem?_eq_getElem h1]; rfl
  have hyi : y[i] = y.getD i 0 := by rw [List.getD_eq_getElem?_getD, List.getElem?_eq_getElem h2]; rfl
  rw [hxi, hyi]
  have a0 := x2 0 (by omega)
  have b0 := y2 0 (by omega)
  rcases hL with rfl | rfl
  · obtain rfl : i = 0 := by omega
    have ex : x.getD 1 0 = 0 := by rw [List.getD_eq_getElem?_getD, List.getElem?_eq_none (by omega)]; rfl
    have ey : y.getD 1 0 = 0 := by rw [List.getD_eq_getElem?_getD, List.getElem?_eq_none (by omega)]; rfl
    rw [ex, ey] at e
    omega
  · have a1 := x2 1 (by omega)
    have b1 := y2 1 (by omega)
    have hi : i = 0 ∨ i = 1 := by omega
    rcases hi with rfl | rfl <;> omega
theorem few_pats {L : Nat} {ls : List (List Int)} (hL : L = 1 ∨ L = 2) (hn : ls.Nodup) (h : ∀ x, x ∈ ls → PtsOk 5 L x) : ls.length ≤ 25 := by
  have h1 : (ls.map codeP).Nodup := by
    unfold List.Nodup
    rw [List.pairwise_map]
    exact List.Pairwise.imp_of_mem (fun ha hb hne e => hne (code_inj hL (h _ ha) (h _ hb) e)) hn
  have h2 := nodup_lt 25 (ls.map codeP) h1 (fun c hc => by
    obtain ⟨x, hx, rfl⟩ := List.mem_map.1 hc
    obtain ⟨x1, x2⟩ := h x hx
    have a0 := x2 0 (by omega)
    unfold codeP
    rcases hL with rfl | rfl
    · have ex : x.getD 1 0 = 0 := by rw [List.getD_eq_getElem?_getD, List.getElem?_eq_none (by omega)]; rfl
      rw [ex]
      omega
    · have a1 := x2 1 (by omega)
      omega)
  simpa using h2
theorem PtsOk.up {n L : Nat} {x : List Int} (h : PtsOk n L x) (hn : n ≤ 5) : PtsOk 5 L x := ⟨h.1, fun j hj => by have := h.2 j hj; omega⟩
/-- What the search has found, as long as the points are few. -/
def Small (n L : Nat) (s : Bs) : Prop := s.ls.Nodup ∧ ∀ x, x ∈ s.ls → PtsOk n L x
theorem Small.few {n L : Nat} {s : Bs} (h : Small n L s) (hn : n ≤ 5) (hL : L = 1 ∨ L = 2) : s.ls.length ≤ 25 := few_pats hL h.1 (fun x hx => (h.2 x hx).up hn)
theorem Small.add {n L : Nat} {s : Bs} (h : Small n L s) (hn : n ≤ 5) (hL : L = 1 ∨ L = 2) {x : List Int} (hx : PtsOk n L x) (d : Int) : ∃ s', addB s x d = some s' ∧ Small n L s' ∧ s.ls.length ≤ s'.ls.length := by
  unfold addB
  have hf := h.few hn hL
  by_cases hi : inL s.ls x = true
  · rw [if_pos hi]
    exact ⟨s, rfl, h, Nat.le_refl _⟩
  · rw [if_neg hi, if_neg (by omega)]
    refine ⟨_, rfl, ⟨?_, fun y hy => ?_⟩, by simp⟩
    · dsimp only
      rw [List.nodup_append]
      refine ⟨h.1, by simp, fun a ha b hb e => ?_⟩
      rw [List.mem_singleton] at hb
      subst hb e
      exact hi (inL_iff.2 ha)
    · dsimp only at hy
      rw [List.mem_append, List.mem_singleton] at hy
      rcases hy with hy | rfl
      · exact h.2 y hy
      · exact hx
theorem Small.inn {n L k : Nat} (hn : n ≤ 5) (hL : L = 1 ∨ L = 2) : ∀ (mvs : List (List Int)) (s : Bs), (∀ m, m ∈ mvs → PtsOk n n m) → Small n L s → k < s.ls.length → ∃ s', innB k mvs s = some s' ∧ Small n L s'
  | [], s, _, h, _ => ⟨s, rfl, h⟩
  | m :: r, s, hm, h, hk => by
    have hp : PtsOk n L (s.ls.getD k []) := by
      rw [List.getD_eq_getElem?_getD, List.getElem?_eq_getElem hk]
      exact h.2 _ (List.getElem_mem hk)
    obtain ⟨s1, e1, h1, hl⟩ := h.add hn hL (PtsOk.pick (hm m (by simp)) hp) (depOf k s)
    have := Small.inn (k := k) hn hL r s1 (fun m' h' => hm m' (by simp [h'])) h1 (by omega)
    unfold innB nextOf
    rw [e1]
    exact this
theorem Small.bfs {n L : Nat} (hn : n ≤ 5) (hL : L = 1 ∨ L = 2) (mvs : List (List Int)) (hm : ∀ m, m ∈ mvs → PtsOk n n m) : ∀ (f k : Nat) (s : Bs), Small n L s → (bfsB mvs f k s).isSome = true
  | 0, k, s, _ => rfl
  | f + 1, k, s, h => by
    unfold bfsB
    by_cases hk : k < s.ls.length
    · obtain ⟨s1, e1, h1⟩ := Small.inn hn hL mvs s hm h hk
      rw [if_pos hk, e1]
      exact Small.bfs hn hL mvs hm f (k + 1) s1 h1
    · rw [if_neg hk]
      rfl
theorem search_drawn {n : Nat} {ms : List (List Int)} {l : List Int} (hn3 : 3 ≤ n) (hn : n ≤ 5) (h : ∀ i, i < ms.length → IsMv n (ms.getD i [])) (hl : IsTrk l) : (searchB (mvsOf ms) l).isSome = true := by
  have hL : l.length = 1 ∨ l.length = 2 := by
    rcases hl with ⟨x, rfl, -⟩ | ⟨x, rfl, -⟩
    · exact .inl rfl
    · exact .inr rfl
  have hM : MvsOk n ms := fun i hi => by
    obtain ⟨q, hq, e⟩ := h i hi
    exact ⟨q, hq, e⟩
  have hpt := ptQ_iff.1 (trk_drawn hn3 hl)
  refine Small.bfs hn hL _ (fun m hm => ?_) _ _ _ ⟨by simp, fun x hx => ?_⟩
  · obtain ⟨i, hi, rfl⟩ := List.getElem_of_mem hm
    have := hM.all i hi
    rwa [List.getD_eq_getElem?_getD, List.getElem?_eq_getElem hi] at this
  · rw [List.mem_singleton] at hx
    subst hx
    exact ⟨rfl, fun j hj => by have := hpt.2 j hj; omega⟩
theorem build_drawn {n : Nat} {nm : ByteArray} {ms : List (List Int)} {l : List Int} (hn : 3 ≤ n) (hn5 : n ≤ 5) (hlm : ms.length = nm.size) (h1 : 1 ≤ nm.size) (h3 : nm.size ≤ 3) (hnm : nm = (⟨#[65, 66, 67]⟩ : ByteArray).extract 0 nm.size) (h : ∀ i, i < ms.length → IsMv n (ms.getD i [])) (hl : IsTrk l) : buildQ ⟨(n : Int), nm, ms⟩ l = true := by
  unfold buildQ trkQ
  dsimp only
  rw [pz_drawn hn hn5 hlm h1 h3 hnm h, trk_drawn hn hl, search_drawn hn hn5 h hl]
  rfl
end
section
open Go.RowKit Grp

theorem drawn_pts {p : Pz} {trk : List Int} (h : buildQ p trk = true) : ∃ N : Nat, p.pts = (N : Int) ∧ ∀ i, chOk (mvsOf p.moves) trk i → BsOk N trk.length (chF (mvsOf p.moves) trk i).1 := by
  have ht : trkQ p trk = true := by
    unfold buildQ at h
    rw [Bool.and_eq_true] at h
    exact h.1
  obtain ⟨N, h1, h2, h3, h4, h5, h6⟩ := trk_parts ht
  have hs : (searchB (mvsOf p.moves) trk).isSome = true := by
    unfold buildQ at h
    rw [Bool.and_eq_true] at h
    exact h.2
  obtain ⟨r, hr⟩ := Option.isSome_iff_exists.1 hs
  exact ⟨N, h1, fun i hi => (ch_bfs h3.all h5 hr i hi).1⟩
theorem ch_few {n : Nat} {nm : ByteArray} {ms : List (List Int)} {trk : List Int} (hn : n ≤ 5) (hb : buildQ ⟨(n : Int), nm, ms⟩ trk = true) (ht : IsTrk trk) {i : Nat} (hi : chOk (mvsOf ms) trk i) : (chF (mvsOf ms) trk i).1.ls.length ≤ 25 := by
  have hL : trk.length = 1 ∨ trk.length = 2 := by
    rcases ht with ⟨x, rfl, -⟩ | ⟨x, rfl, -⟩
    · exact .inl rfl
    · exact .inr rfl
  obtain ⟨N, h1, h2⟩ := drawn_pts hb
  dsimp only at h1
  obtain rfl : n = N := by omega
  have hB := h2 i hi
  refine few_pats hL (ch_nodup i) (fun x hx => ?_)
  obtain ⟨j, hj, rfl⟩ := List.getElem_of_mem hx
  have := hB.rows j hj
  rw [List.getD_eq_getElem?_getD, List.getElem?_eq_getElem hj] at this
  exact PtsOk.up this hn
theorem added_rows {N L : Nat} {mvs : List (List Int)} {s : Bs} {k : Nat} (h : BsOk N L (nextB mvs s k)) : RowsOk N L (addedB mvs s.ls k) := by
  intro j hj
  have := h.rows (s.ls.length + j) (by unfold nextB; simp only [List.length_append]; omega)
  unfold nextB at this
  dsimp only at this
  rw [List.getD_eq_getElem?_getD, List.getElem?_append_right (by omega), Nat.add_sub_cancel_left, ← List.getD_eq_getElem?_getD] at this
  exact this
/-- How long the log is. -/
theorem ch_log {p : Pz} {trk : List Int} (h : buildQ p trk = true) : ∀ i, chOk (mvsOf p.moves) trk i → (chF (mvsOf p.moves) trk i).2.size + trk.length = 7 * i + (chF (mvsOf p.moves) trk i).1.ls.length * trk.length := by
  obtain ⟨N, h1, h2⟩ := drawn_pts h
  intro i
  induction i with
  | zero =>
    intro _
    have hz : (⟨#[]⟩ : ByteArray).size = 0 := rfl
    simp only [chF, hz, List.length_singleton]
    omega
  | succ i ih =>
    intro hi
    have h3 := ih (hi.less (by omega))
    have h4 := added_rows (h2 (i + 1) hi)
    have h5 := full_size i h4
    simp only [chF, nextB, ByteArray.size_append, List.length_append, h5, Nat.add_mul]
    omega
/-- A drawn puzzle's fill job always goes on, until all is found. -/
theorem can_drawn {n : Nat} {nm : ByteArray} {ms : List (List Int)} {trk : List Int} (hn : n ≤ 5) (hb : buildQ ⟨(n : Int), nm, ms⟩ trk = true) (ht : IsTrk trk) {i : Nat} (hi : chOk (mvsOf ms) trk i) : canF (mvsOf ms) trk i ↔ i < (chF (mvsOf ms) trk i).1.ls.length := by
  refine ⟨fun h => h.1, fun h => ⟨h, ?_⟩⟩
  have h1 := ch_next hi h
  have h2 := ch_few hn hb ht h1
  have h3 := ch_log hb (i + 1) h1
  have h4 := ch_few hn hb ht hi
  dsimp only at h3
  have hL : trk.length ≤ 2 := by
    rcases ht with ⟨x, rfl, -⟩ | ⟨x, rfl, -⟩
    · simp
    · simp
  have h5 : (chF (mvsOf ms) trk (i + 1)).1.ls.length * trk.length ≤ 25 * 2 := Nat.mul_le_mul h2 hL
  omega
end
end Go.Proofs.Ytfhdnanbhigpmaa
