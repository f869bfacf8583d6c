/- Depths of a breadth-first search and the descents by their residues, plainly. Conditions: as each theorem says. -/
import Derived.Test.YtfhdnanbhigpmaaYi
import Derived.Test.YtfhdnanbhigpmaaPf
namespace Go.Proofs.Ytfhdnanbhigpmaa
open Go.RowKit Grp

theorem picks_back {p q : List Nat} {N L : Nat} {x : List Int} (hx : PtsOk N L x) (h : ∀ v, v < N → app q (app p v) = v) : pickI (natI q) (pickI (natI p) x) = x := by
  unfold pickI
  rw [List.map_map]
  conv => rhs; rw [← List.map_id x]
  refine List.map_congr_left fun v hv => ?_
  obtain ⟨j, hj, rfl⟩ := List.getElem_of_mem hv
  have := hx.2 j (by rw [← hx.1]; exact hj)
  rw [List.getD_eq_getElem?_getD, List.getElem?_eq_getElem hj] at this
  simp only [Option.getD_some] at this
  simp only [Function.comp_apply, id_eq, natI_getD, Int.toNat_natCast]
  rw [h _ (by omega)]
  omega
theorem mvs_back {N : Nat} {ms : List (List Int)} (h : MvsOk N ms) {j : Nat} (hj : j < (mvsOf ms).length) : ∃ j', j' < (mvsOf ms).length ∧ ∀ (L : Nat) (x : List Int), PtsOk N L x → pickI ((mvsOf ms).getD j' []) (pickI ((mvsOf ms).getD j []) x) = x := by
  rw [mvsOf_len] at hj ⊢
  obtain ⟨p, hp, e⟩ := h (j / 2) (by omega)
  have ei : invI (ms.getD (j / 2) []) = natI (inv p) := by rw [e]; unfold invI; rw [natOf_natI]
  rcases Nat.mod_two_eq_zero_or_one j with e2 | e2
  · refine ⟨2 * (j / 2) + 1, by omega, fun L x hx => ?_⟩
    rw [show j = 2 * (j / 2) from by omega, mvsOf_even ms _ (by omega), show 2 * (2 * (j / 2) / 2) + 1 = 2 * (j / 2) + 1 from by omega, mvsOf_odd ms _ (by omega), ei, e]
    exact picks_back hx fun v hv => hp.inv_app_self hv
  · refine ⟨2 * (j / 2), by omega, fun L x hx => ?_⟩
    rw [show j = 2 * (j / 2) + 1 from by omega, mvsOf_odd ms _ (by omega), show 2 * ((2 * (j / 2) + 1) / 2) = 2 * (j / 2) from by omega, mvsOf_even ms _ (by omega), ei, e]
    exact picks_back hx fun v hv => hp.app_inv_self hv
theorem addTo_mem {ls : List (List Int)} {pat x : List Int} : ∀ (ms acc : List (List Int)), x ∈ addTo ls pat ms acc → x ∈ acc ∨ ∃ m, m ∈ ms ∧ x = pickI m pat := by
  intro ms
  induction ms with
  | nil => intro acc h; exact .inl h
  | cons m r ih =>
    intro acc h
    simp only [addTo] at h
    split at h
    · rcases ih _ h with h | ⟨q, h1, h2⟩
      · exact .inl h
      · exact .inr ⟨q, List.mem_cons_of_mem _ h1, h2⟩
    · rcases ih _ h with h | ⟨q, h1, h2⟩
      · rcases List.mem_append.1 h with h | h
        · exact .inl h
        · exact .inr ⟨m, List.mem_cons_self, List.mem_singleton.1 h⟩
      · exact .inr ⟨q, List.mem_cons_of_mem _ h1, h2⟩
/-- The depths of a search, its first i entries expanded. -/
structure DpOk (mvs : List (List Int)) (s : Bs) (i : Nat) : Prop where
  len : s.ds.length = s.ls.length
  zero : s.ds.getD 0 0 = 0
  pos : ∀ a, 0 < a → a < s.ls.length → 1 ≤ s.ds.getD a 0
  mono : ∀ a b, a ≤ b → b < s.ls.length → s.ds.getD a 0 ≤ s.ds.getD b 0
  head : ∀ a, a < s.ls.length → i < s.ls.length → s.ds.getD a 0 ≤ s.ds.getD i 0 + 1
  near : ∀ a, a < i → ∀ m, m ∈ mvs → ∀ k, k < s.ls.length → s.ls.getD k [] = pickI m (s.ls.getD a []) → s.ds.getD k 0 ≤ s.ds.getD a 0 + 1
  par : ∀ a, 0 < a → a < s.ls.length → ∃ b m, b < i ∧ m ∈ mvs ∧ s.ls.getD a [] = pickI m (s.ls.getD b []) ∧ s.ds.getD a 0 = s.ds.getD b 0 + 1
theorem dp_zero (mvs : List (List Int)) (trk : List Int) : DpOk mvs (chF mvs trk 0).1 0 := by
  refine ⟨rfl, rfl, fun a h1 h2 => ?_, fun a b h1 h2 => ?_, fun a h1 h2 => ?_, fun a h => absurd h (Nat.not_lt_zero _), fun a h1 h2 => ?_⟩
  · simp [chF] at h2; omega
  · simp [chF] at h2
    obtain rfl : a = b := by omega
    exact Int.le_refl _
  · simp [chF] at h1
    subst h1
    simp [chF]
  · simp [chF] at h2; omega
theorem dp_next {mvs : List (List Int)} {trk : List Int} {i : Nat} (hok : chOk mvs trk (i + 1)) (h : DpOk mvs (chF mvs trk i).1 i) : DpOk mvs (chF mvs trk (i + 1)).1 (i + 1) := by
  have hnd := ch_nodup (mvs := mvs) (trk := trk) (i + 1)
  have hi : i < (chF mvs trk i).1.ls.length := hok i (Nat.lt_succ_self i)
  have hcl : ∀ a, a < i → ∀ m, m ∈ mvs → pickI m ((chF mvs trk i).1.ls.getD a []) ∈ (chF mvs trk i).1.ls := fun a ha m hm => by
    have hla : a < (chF mvs trk a).1.ls.length := hok a (by omega)
    rw [pre_getD (ch_lsP (mvs := mvs) (trk := trk) (i := a) (j := i) (by omega)) hla]
    exact (ch_lsP (mvs := mvs) (trk := trk) (i := a + 1) (j := i) (by omega)).subset (addTo_has (ls := (chF mvs trk a).1.ls) mvs [] hm)
  have els : (chF mvs trk (i + 1)).1.ls = (chF mvs trk i).1.ls ++ addedB mvs (chF mvs trk i).1.ls i := rfl
  have eds : (chF mvs trk (i + 1)).1.ds = (chF mvs trk i).1.ds ++ List.replicate (addedB mvs (chF mvs trk i).1.ls i).length (depOf i (chF mvs trk i).1) := rfl
  have hmem : ∀ x, x ∈ addedB mvs (chF mvs trk i).1.ls i → ∃ m, m ∈ mvs ∧ x = pickI m ((chF mvs trk i).1.ls.getD i []) := fun x hx => by
    rcases addTo_mem mvs [] hx with hx | hx
    · cases hx
    · exact hx
  generalize hs' : (chF mvs trk (i + 1)).1 = s' at *
  generalize (chF mvs trk i).1 = s at *
  generalize addedB mvs s.ls i = ad at *
  have hl' : s'.ls.length = s.ls.length + ad.length := by rw [els, List.length_append]
  have hdo : ∀ a, a < s.ls.length → s'.ds.getD a 0 = s.ds.getD a 0 := fun a ha => by
    rw [eds, List.getD_eq_getElem?_getD, List.getElem?_append_left (by rw [h.len]; exact ha), ← List.getD_eq_getElem?_getD]
  have hdn : ∀ a, s.ls.length ≤ a → a < s'.ls.length → s'.ds.getD a 0 = s.ds.getD i 0 + 1 := fun a h1 h2 => by
    rw [eds, List.getD_eq_getElem?_getD, List.getElem?_append_right (by rw [h.len]; exact h1), List.getElem?_replicate, if_pos (by rw [h.len]; omega)]
    rfl
  have hlo : ∀ a, a < s.ls.length → s'.ls.getD a [] = s.ls.getD a [] := fun a ha => by
    rw [els, List.getD_eq_getElem?_getD, List.getElem?_append_left ha, ← List.getD_eq_getElem?_getD]
  have hln : ∀ a, s.ls.length ≤ a → a < s'.ls.length → s'.ls.getD a [] ∈ ad := fun a h1 h2 => by
    rw [els, List.getD_eq_getElem?_getD, List.getElem?_append_right h1, List.getElem?_eq_getElem (by omega)]
    exact List.getElem_mem _
  have hall : ∀ a, a < s'.ls.length → s'.ds.getD a 0 ≤ s.ds.getD i 0 + 1 := fun a ha => by
    rcases Nat.lt_or_ge a s.ls.length with h1 | h1
    · rw [hdo a h1]; exact h.head a h1 hi
    · rw [hdn a h1 ha]; exact Int.le_refl _
  refine ⟨?_, ?_, fun a h1 h2 => ?_, fun a b h1 h2 => ?_, fun a h1 h2 => ?_, fun a h1 m hm k hk he => ?_, fun a h1 h2 => ?_⟩
  · rw [eds, List.length_append, List.length_replicate, h.len, hl']
  · rw [hdo 0 (by omega)]; exact h.zero
  · rcases Nat.lt_or_ge a s.ls.length with h3 | h3
    · rw [hdo a h3]; exact h.pos a h1 h3
    · rw [hdn a h3 h2]
      have := h.mono 0 i (by omega) hi
      rw [h.zero] at this
      omega
  · rcases Nat.lt_or_ge b s.ls.length with h3 | h3
    · rw [hdo a (by omega), hdo b h3]; exact h.mono a b h1 h3
    · rw [hdn b h3 h2]; exact hall a (by omega)
  · have h3 := hall a h1
    have h4 : s.ds.getD i 0 ≤ s'.ds.getD (i + 1) 0 := by
      rcases Nat.lt_or_ge (i + 1) s.ls.length with h5 | h5
      · rw [hdo _ h5]; exact h.mono i (i + 1) (by omega) h5
      · rw [hdn _ h5 h2]; omega
    omega
  · rcases Nat.lt_or_ge a i with h3 | h3
    · have ha : a < s.ls.length := by omega
      rw [hlo a ha] at he
      have hin := hcl a h3 m hm
      rw [← he] at hin
      have hidx := List.idxOf_lt_length_of_mem hin
      have hk2 : k < s.ls.length := by
        obtain ⟨j, hj, e⟩ := List.getElem_of_mem hin
        have e1 : s'.ls.getD j [] = s'.ls.getD k [] := by rw [hlo j hj, List.getD_eq_getElem?_getD, List.getElem?_eq_getElem hj]; exact e
        have e2 := idx_uniq hnd (k := j) (by omega) e1
        have e3 := idx_uniq hnd hk rfl
        omega
      rw [hdo k hk2, hdo a ha]
      rw [hlo k hk2] at he
      exact h.near a h3 m hm k hk2 he
    · obtain rfl : a = i := by omega
      rw [hdo a hi]
      exact hall k hk
  · rcases Nat.lt_or_ge a s.ls.length with h3 | h3
    · obtain ⟨b, m, g1, g2, g3, g4⟩ := h.par a h1 h3
      exact ⟨b, m, by omega, g2, by rw [hlo a h3, hlo b (by omega)]; exact g3, by rw [hdo a h3, hdo b (by omega)]; exact g4⟩
    · obtain ⟨m, g1, g2⟩ := hmem _ (hln a h3 h2)
      exact ⟨i, m, Nat.lt_succ_self i, g1, by rw [hlo i hi]; exact g2, by rw [hdn a h3 h2, hdo i hi]⟩
theorem dp_all {mvs : List (List Int)} {trk : List Int} : ∀ i, chOk mvs trk i → DpOk mvs (chF mvs trk i).1 i := by
  intro i
  induction i with
  | zero => intro _; exact dp_zero mvs trk
  | succ i ih => intro h; exact dp_next h (ih (h.less (by omega)))
section
variable {p : Pz} {trk : List Int} {r : Bs} {N : Nat} {res : List Int}
/-- Neighbours differ by one at most. -/
theorem nb_near (hT : TabR p trk r N res) {i j : Nat} (hi : i < r.ls.length) (hj : j < (mvsOf p.moves).length) : r.ds.getD (nbI (mvsOf p.moves) r.ls i j) 0 ≤ r.ds.getD i 0 + 1 ∧ r.ds.getD i 0 ≤ r.ds.getD (nbI (mvsOf p.moves) r.ls i j) 0 + 1 := by
  obtain ⟨h1, h2⟩ := tbl_of hT.g.bld hT.s
  have hd := dp_all r.ls.length h1
  rw [h2] at hd
  obtain ⟨k1, k2⟩ := hT.nb hi hj
  obtain ⟨j', hj', hback⟩ := mvs_back hT.g.mvs hj
  refine ⟨hd.near i hi _ (mvs_mem hj) _ k1 k2, hd.near _ k1 _ (mvs_mem hj') i hi ?_⟩
  rw [k2, hback trk.length _ (hT.rows i hi)]
/-- A neighbour on the way down. -/
theorem nb_down (hT : TabR p trk r N res) {i : Nat} (hi : i < r.ls.length) (h0 : 0 < i) : ∃ j, j < (mvsOf p.moves).length ∧ r.ds.getD (nbI (mvsOf p.moves) r.ls i j) 0 + 1 = r.ds.getD i 0 := by
  obtain ⟨h1, h2⟩ := tbl_of hT.g.bld hT.s
  have hd := dp_all r.ls.length h1
  rw [h2] at hd
  obtain ⟨b, m, g1, g2, g3, g4⟩ := hd.par i h0 hi
  obtain ⟨q, hq, e⟩ := List.getElem_of_mem g2
  have e2 : (mvsOf p.moves).getD q [] = m := by rw [List.getD_eq_getElem?_getD, List.getElem?_eq_getElem hq]; exact e
  obtain ⟨j', hj', hback⟩ := mvs_back hT.g.mvs hq
  refine ⟨j', hj', ?_⟩
  have e3 : nbI (mvsOf p.moves) r.ls i j' = b := by
    refine nb_is hT.g.bld hT.s g1 ?_
    rw [g3, ← e2, hback trk.length _ (hT.rows b g1)]
  rw [e3]
  omega
theorem step_down (hT : TabR p trk r N res) (hres : ∀ k, k < r.ls.length → res.getD k 0 = r.ds.getD k 0 % 3) {i : Nat} (hi : i < r.ls.length) (h0 : 0 < i) : ∃ k, stepR (mvsOf p.moves) r.ls res i = some k ∧ k < r.ls.length ∧ r.ds.getD k 0 + 1 = r.ds.getD i 0 := by
  obtain ⟨j, hj, e⟩ := nb_down hT hi h0
  have hn := (hT.nb hi hj).1
  have hfit : fitR res i (nbI (mvsOf p.moves) r.ls i j) = true := by
    unfold fitR
    rw [hres _ hn, hres _ hi]
    exact decide_eq_true (by omega)
  cases hs : stepR (mvsOf p.moves) r.ls res i with
  | none =>
    exfalso
    unfold stepR at hs
    have := List.find?_eq_none.1 hs (nbI (mvsOf p.moves) r.ls i j) (List.mem_map.2 ⟨j, List.mem_range.2 hj, rfl⟩)
    exact this hfit
  | some k =>
    unfold stepR at hs
    have h1 := List.find?_some hs
    obtain ⟨j2, hj2, rfl⟩ := List.mem_map.1 (List.mem_of_find?_eq_some hs)
    have hj2' := List.mem_range.1 hj2
    have hn2 := (hT.nb hi hj2').1
    refine ⟨_, rfl, hn2, ?_⟩
    have h3 := nb_near hT hi hj2'
    unfold fitR at h1
    rw [hres _ hn2, hres _ hi] at h1
    have h4 := of_decide_eq_true h1
    omega
theorem way_down (hT : TabR p trk r N res) (hres : ∀ k, k < r.ls.length → res.getD k 0 = r.ds.getD k 0 % 3) (h00 : r.ds.getD 0 0 = 0) (hpos : ∀ a, 0 < a → a < r.ls.length → 1 ≤ r.ds.getD a 0) : ∀ (f i q : Nat), i < r.ls.length → (r.ds.getD i 0).toNat ≤ f → walkR (mvsOf p.moves) r.ls res f i q = some (q + (r.ds.getD i 0).toNat) := by
  intro f
  induction f with
  | zero =>
    intro i q hi hf
    rcases Nat.eq_zero_or_pos i with rfl | h0
    · rw [desc_zero, h00]; rfl
    · have := hpos i h0 hi; omega
  | succ f ih =>
    intro i q hi hf
    rcases Nat.eq_zero_or_pos i with rfl | h0
    · rw [desc_zero, h00]; rfl
    · obtain ⟨k, hs, hk, e⟩ := step_down hT hres hi h0
      have := hpos i h0 hi
      rw [desc_next (by omega) hs, ih k (q + 1) hk (by omega)]
      congr 1
      omega
end
theorem byteAt_by {f : Nat → Int} {m j : Nat} (hj : j < m) (h0 : 0 ≤ f j) (h1 : f j ≤ 255) : byteAt (strOfNums (bytesBy f m)) j = f j := by
  unfold byteAt strOfNums bytesBy
  simp [List.getD_eq_getElem?_getD, hj]
  omega
theorem rsAt_of {xs : List Int} (h : ∀ k, k < xs.length → 0 ≤ xs.getD k 0 ∧ xs.getD k 0 ≤ 3) {k : Nat} (hk : k < xs.length) : rsAt (rsS xs) k = xs.getD k 0 := by
  have hs : Small3 xs := h
  obtain ⟨j, hj⟩ : ∃ j, k / 4 = j := ⟨_, rfl⟩
  have hb := rsd_bd hs j
  have e : byteAt (rsS xs) j = rsd xs j := byteAt_by (by omega) hb.1 hb.2
  have a0 := hs.any (4 * j)
  have a1 := hs.any (4 * j + 1)
  have a2 := hs.any (4 * j + 2)
  have a3 := hs.any (4 * j + 3)
  have ek := getD_any (xs := xs) 3 0 hk
  unfold rsAt
  rw [hj, e]
  unfold rsd
  split
  · rw [← ek, show k = 4 * j from by omega]; omega
  · split
    · rw [← ek, show k = 4 * j + 1 from by omega]; omega
    · split
      · rw [← ek, show k = 4 * j + 2 from by omega]; omega
      · rw [← ek, show k = 4 * j + 3 from by omega]; omega
theorem rsb_of {xs : List Int} (h : ∀ k, k < xs.length → 0 ≤ xs.getD k 0 ∧ xs.getD k 0 ≤ 3) : rsb (rsS xs) xs.length = xs := by
  refine List.ext_getElem (rsb_len _ _) fun k h1 h2 => ?_
  have e1 := rsb_at (rsS xs) h2
  rw [rsAt_of h h2] at e1
  rw [List.getD_eq_getElem?_getD, List.getD_eq_getElem?_getD, List.getElem?_eq_getElem h1, List.getElem?_eq_getElem h2] at e1
  exact e1
theorem rsS_size (xs : List Int) : (rsS xs).size = (xs.length + 3) / 4 := by unfold rsS; rw [strOfNums_size, bytesBy_len]
theorem listW_at {mvs ls : List (List Int)} {res : List Int} {n k : Nat} (hk : k < n) : (listW mvs ls res n).getD k 0 = (((distR mvs ls res k).getD 0 : Nat) : Int) := by simp [listW, List.getD_eq_getElem?_getD, hk]
/-- The distances come back. -/
theorem rd_back {p : Pz} {trk : List Int} {r : Bs} (hq : buildQ p trk = true) (hs : searchB (mvsOf p.moves) trk = some r) : allIn r.ds big63 = true ∧ rdB p trk (resS r.ds) = true ∧ rdL p trk (resS r.ds) = r.ds ∧ 4 * (resS r.ds).size < r.ds.length + 4 := by
  obtain ⟨N, hT⟩ := tabR_of (res := rsb (resS r.ds) r.ls.length) hq hs (rsb_len _ _) (rsb_bd _ _)
  obtain ⟨c1, c2⟩ := tbl_of hq hs
  have hd := dp_all r.ls.length c1
  have hb := (hT.g.ok _ c1).1
  rw [c2] at hd hb
  have hdep := hb.dep
  have hlen := hd.len
  have hn := hT.len
  have hall : allIn r.ds big63 = true := by
    refine allIn_yes (by omega) (fun x hx => ?_) (fun k hk => (hdep k (by omega)).1)
    obtain ⟨k, hk, rfl⟩ := List.getElem_of_mem hx
    have := hdep k (by omega)
    rw [List.getD_eq_getElem?_getD, List.getElem?_eq_getElem hk] at this
    simp only [Option.getD_some] at this
    omega
  have hS : resS r.ds = rsS (thirds r.ds) := by
    unfold resS rsS
    rw [if_pos hall, thirds_len]
  have ht : ∀ k, k < r.ls.length → (thirds r.ds).getD k 0 = r.ds.getD k 0 % 3 := fun k hk => by
    unfold thirds
    rw [List.getD_eq_getElem?_getD, List.getD_eq_getElem?_getD, List.getElem?_map, List.getElem?_eq_getElem (by omega)]
    rfl
  have hb3 : ∀ k, k < (thirds r.ds).length → 0 ≤ (thirds r.ds).getD k 0 ∧ (thirds r.ds).getD k 0 ≤ 3 := fun k hk => by
    rw [thirds_len] at hk
    rw [ht k (by omega)]
    omega
  have hR : rsb (resS r.ds) r.ls.length = thirds r.ds := by
    have := rsb_of hb3
    rw [thirds_len, hlen] at this
    rw [hS]
    exact this
  have hres : ∀ k, k < r.ls.length → (rsb (resS r.ds) r.ls.length).getD k 0 = r.ds.getD k 0 % 3 := fun k hk => by rw [hR]; exact ht k hk
  have hok : rsOk (resS r.ds) r.ls.length = true := by
    unfold rsOk
    rw [hR, ← hS, decide_eq_true (rfl : resS r.ds = resS r.ds), Bool.and_true, Bool.and_eq_true]
    refine ⟨decide_eq_true (by rw [hS, rsS_size, thirds_len, hlen]), rsNo3_iff.2 fun k hk => ?_⟩
    have := hres k hk
    rw [rsb_at _ hk] at this
    omega
  have hdist : ∀ i, i < r.ls.length → distR (mvsOf p.moves) r.ls (rsb (resS r.ds) r.ls.length) i = some (r.ds.getD i 0).toNat := fun i hi => by
    unfold distR
    rw [way_down hT hres hd.zero hd.pos _ i 0 hi (by have := hdep i hi; omega), Nat.zero_add]
  have haw : allW (mvsOf p.moves) r.ls (rsb (resS r.ds) r.ls.length) = true := allW_iff.2 fun i hi => by rw [hdist i hi]; rfl
  have hB : rdB p trk (resS r.ds) = true := by rw [rd_is hq hs, hok, haw]; rfl
  refine ⟨hall, hB, ?_, by rw [hS, rsS_size, thirds_len]; omega⟩
  rw [rd_yes hs hB]
  refine List.ext_getElem (by rw [listW_len, hlen]) fun k h1 h2 => ?_
  have hk : k < r.ls.length := by omega
  have e1 := hdep k hk
  rw [List.getD_eq_getElem?_getD, List.getElem?_eq_getElem h2] at e1
  simp only [Option.getD_some] at e1
  have e2 := listW_at (mvs := mvsOf p.moves) (ls := r.ls) (res := rsb (resS r.ds) r.ls.length) hk
  rw [hdist k hk, List.getD_eq_getElem?_getD, List.getElem?_eq_getElem h1] at e2
  simp only [Option.getD_some] at e2
  rw [e2, List.getD_eq_getElem?_getD, List.getElem?_eq_getElem h2]
  simp only [Option.getD_some]
  omega
end Go.Proofs.Ytfhdnanbhigpmaa
