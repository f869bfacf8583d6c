/- Lists sorted by their order: search and insertion, plain. The place of a list among the sorted, spec. Conditions: as each contract says. -/
import Derived.Test.YtfhdnanbhigpmaaAl
namespace Go.Proofs.Ytfhdnanbhigpmaa
section
open Go.RowKit

theorem precAt_iff (a b : List Int) : ∀ m k, precAt a b k m = true ↔ ∃ j, k ≤ j ∧ j < k + m ∧ (∀ i, k ≤ i → i < j → a.getD i 0 = b.getD i 0) ∧ a.getD j 0 < b.getD j 0
  | 0, k => by
    constructor
    · intro h; cases h
    · rintro ⟨j, h1, h2, -⟩; omega
  | m + 1, k => by
    by_cases e : a.getD k 0 = b.getD k 0
    · rw [prec_same e, precAt_iff a b m (k + 1)]
      constructor
      · rintro ⟨j, h1, h2, h3, h4⟩
        refine ⟨j, by omega, by omega, fun i hi hij => ?_, h4⟩
        by_cases e2 : i = k
        · rw [e2]; exact e
        · exact h3 i (by omega) hij
      · rintro ⟨j, h1, h2, h3, h4⟩
        have hjk : j ≠ k := fun e2 => by subst e2; omega
        exact ⟨j, by omega, by omega, fun i hi hij => h3 i (by omega) hij, h4⟩
    · rw [prec_diff e]
      constructor
      · intro h
        exact ⟨k, by omega, by omega, fun i hi hij => by omega, of_decide_eq_true h⟩
      · rintro ⟨j, h1, h2, h3, h4⟩
        have hjk : j = k := Classical.byContradiction fun e2 => e (h3 k (by omega) (by omega))
        exact decide_eq_true (hjk ▸ h4)
theorem precL_iff (a b : List Int) : precL a b = true ↔ ∃ j, j < a.length ∧ (∀ i, i < j → a.getD i 0 = b.getD i 0) ∧ a.getD j 0 < b.getD j 0 := by
  unfold precL
  rw [precAt_iff]
  constructor
  · rintro ⟨j, h1, h2, h3, h4⟩; exact ⟨j, by omega, fun i hi => h3 i (by omega) hi, h4⟩
  · rintro ⟨j, h1, h2, h3⟩; exact ⟨j, by omega, by omega, fun i _ hi => h2 i hi, h3⟩
theorem precL_irr (a : List Int) : precL a a = false := by
  rw [← Bool.not_eq_true, precL_iff]
  rintro ⟨j, h1, h2, h3⟩
  omega
theorem precL_trans {a b c : List Int} (hl : a.length = b.length) (h1 : precL a b = true) (h2 : precL b c = true) : precL a c = true := by
  rw [precL_iff] at h1 h2 ⊢
  obtain ⟨i, i1, i2, i3⟩ := h1
  obtain ⟨j, j1, j2, j3⟩ := h2
  rcases Nat.lt_trichotomy i j with h | h | h
  · refine ⟨i, i1, fun k hk => (i2 k hk).trans (j2 k (by omega)), ?_⟩
    rw [← j2 i h]; exact i3
  · subst h
    exact ⟨i, i1, fun k hk => (i2 k hk).trans (j2 k hk), by omega⟩
  · refine ⟨j, by omega, fun k hk => (i2 k (by omega)).trans (j2 k hk), ?_⟩
    rw [i2 j h]; exact j3
theorem precL_total {a b : List Int} (hl : a.length = b.length) (hne : a ≠ b) (h : precL a b = false) : precL b a = true := by
  have hd : ∃ j, j < a.length ∧ a.getD j 0 ≠ b.getD j 0 := Classical.byContradiction fun h2 => hne (List.ext_getElem hl fun i h3 h4 => by
    rw [← getD_at _ _ h3, ← getD_at _ _ h4]
    exact Classical.byContradiction fun h5 => h2 ⟨i, h3, h5⟩)
  have hmin : ∀ n, (∃ j, j < n ∧ j < a.length ∧ a.getD j 0 ≠ b.getD j 0) → ∃ j, j < a.length ∧ (∀ i, i < j → a.getD i 0 = b.getD i 0) ∧ a.getD j 0 ≠ b.getD j 0 := by
    intro n
    induction n with
    | zero => rintro ⟨j, h, -⟩; omega
    | succ n ih =>
      rintro ⟨j, h1, h2, h3⟩
      by_cases hx : ∃ j, j < n ∧ j < a.length ∧ a.getD j 0 ≠ b.getD j 0
      · exact ih hx
      · refine ⟨j, h2, fun i hi => ?_, h3⟩
        exact Classical.byContradiction fun h4 => hx ⟨i, by omega, by omega, h4⟩
  obtain ⟨j0, k1, k2⟩ := hd
  obtain ⟨j, h1, h2, h3⟩ := hmin (j0 + 1) ⟨j0, by omega, k1, k2⟩
  rw [← Bool.not_eq_true, precL_iff] at h
  rw [precL_iff]
  refine ⟨j, by omega, fun i hi => (h2 i hi).symm, ?_⟩
  have : ¬ a.getD j 0 < b.getD j 0 := fun h4 => h ⟨j, h1, h2, h4⟩
  omega
/-- The list at a sorted place. -/
def srtAt (ls : List (List Int)) (srt : List Nat) (i : Nat) : List Int := ls.getD (srt.getD i 0) []
structure SortOk (L : Nat) (ls : List (List Int)) (srt : List Nat) : Prop where
  rows : ∀ i, i < ls.length → (ls.getD i []).length = L
  len : srt.length = ls.length
  lt : ∀ i, i < srt.length → srt.getD i 0 < ls.length
  all : ∀ m, m < ls.length → ∃ i, i < srt.length ∧ srt.getD i 0 = m
  ord : ∀ i j, i < j → j < srt.length → precL (srtAt ls srt i) (srtAt ls srt j) = true
theorem SortOk.nil (L : Nat) : SortOk L [] [] := ⟨fun i hi => by simp at hi, rfl, fun i hi => by simp at hi, fun i hi => by simp at hi, fun i j _ hj => by simp at hj⟩
theorem SortOk.wid {L : Nat} {ls : List (List Int)} {srt : List Nat} (h : SortOk L ls srt) {i : Nat} (hi : i < srt.length) : (srtAt ls srt i).length = L := h.rows _ (h.lt i hi)
/-- Every place before `a` precedes x, none from `a` on. -/
def SlotOk (ls : List (List Int)) (srt : List Nat) (x : List Int) (a : Nat) : Prop := a ≤ srt.length ∧ (∀ i, i < a → precL (srtAt ls srt i) x = true) ∧ ∀ i, a ≤ i → i < srt.length → precL (srtAt ls srt i) x = false
/-- The search's bounds. -/
def SlotIn (ls : List (List Int)) (srt : List Nat) (x : List Int) (lo hi : Nat) : Prop := lo ≤ hi ∧ hi ≤ srt.length ∧ (∀ i, i < lo → precL (srtAt ls srt i) x = true) ∧ ∀ i, hi ≤ i → i < srt.length → precL (srtAt ls srt i) x = false
theorem SlotIn.start (ls : List (List Int)) (srt : List Nat) (x : List Int) : SlotIn ls srt x 0 srt.length := ⟨Nat.zero_le _, Nat.le_refl _, fun i hi => by omega, fun i hi h2 => by omega⟩
theorem SlotIn.end_ {ls : List (List Int)} {srt : List Nat} {x : List Int} {lo hi : Nat} (h : SlotIn ls srt x lo hi) (hlt : ¬ lo < hi) : SlotOk ls srt x lo := by
  obtain ⟨h1, h2, h3, h4⟩ := h
  obtain rfl : lo = hi := by omega
  exact ⟨h2, h3, h4⟩
theorem SlotIn.up {L : Nat} {ls : List (List Int)} {srt : List Nat} {x : List Int} {lo hi mid : Nat} (hs : SortOk L ls srt) (h : SlotIn ls srt x lo hi) (hm : mid < hi) (hp : precL (srtAt ls srt mid) x = true) : SlotIn ls srt x (mid + 1) hi := by
  obtain ⟨h1, h2, h3, h4⟩ := h
  refine ⟨by omega, h2, fun i hi => ?_, h4⟩
  by_cases e : i = mid
  · rw [e]; exact hp
  · exact precL_trans (by rw [hs.wid (by omega), hs.wid (by omega)]) (hs.ord i mid (by omega) (by omega)) hp
theorem SlotIn.down {L : Nat} {ls : List (List Int)} {srt : List Nat} {x : List Int} {lo hi mid : Nat} (hs : SortOk L ls srt) (h : SlotIn ls srt x lo hi) (hl : lo ≤ mid) (hm : mid < hi) (hp : precL (srtAt ls srt mid) x = false) : SlotIn ls srt x lo mid := by
  obtain ⟨h1, h2, h3, h4⟩ := h
  refine ⟨hl, by omega, h3, fun i hi h5 => ?_⟩
  by_cases e : i = mid
  · rw [e]; exact hp
  · rw [← Bool.not_eq_true]
    intro h6
    have := precL_trans (by rw [hs.wid (by omega), hs.wid h5]) (hs.ord mid i (by omega) h5) h6
    rw [hp] at this
    cases this
/-- Whether x stands at the place found. -/
theorem SlotOk.found {L : Nat} {ls : List (List Int)} {srt : List Nat} {x : List Int} {a : Nat} (hs : SortOk L ls srt) (h : SlotOk ls srt x a) : inL ls x = true ↔ a < srt.length ∧ srtAt ls srt a = x := by
  obtain ⟨h1, h2, h3⟩ := h
  rw [inL_iff]
  constructor
  · intro hm
    obtain ⟨m, hm1, hm2⟩ := List.mem_iff_getElem.1 hm
    obtain ⟨i, hi1, hi2⟩ := hs.all m hm1
    have hx : srtAt ls srt i = x := by unfold srtAt; rw [hi2, ← hm2, List.getD_eq_getElem?_getD, List.getElem?_eq_getElem hm1]; rfl
    have hai : a ≤ i := Classical.byContradiction fun hc => by
      have := h2 i (by omega)
      rw [hx, precL_irr] at this
      cases this
    refine ⟨by omega, ?_⟩
    by_cases e : a = i
    · rw [e]; exact hx
    · have g1 := hs.ord a i (by omega) hi1
      rw [hx, h3 a (by omega) (by omega)] at g1
      cases g1
  · rintro ⟨h4, h5⟩
    rw [← h5]
    unfold srtAt
    have := hs.lt a h4
    rw [List.getD_eq_getElem?_getD, List.getElem?_eq_getElem this]
    exact List.getElem_mem this
/-- The insertion. -/
def insN (srt : List Nat) (a n : Nat) : List Nat := srt.take a ++ n :: srt.drop a
theorem insN_len (srt : List Nat) (a n : Nat) : (insN srt a n).length = srt.length + 1 := by unfold insN; simp; omega
theorem insN_get (srt : List Nat) (a n : Nat) (ha : a ≤ srt.length) (i : Nat) : (insN srt a n).getD i 0 = if i < a then srt.getD i 0 else if i = a then n else srt.getD (i - 1) 0 := by
  unfold insN
  rw [List.getD_eq_getElem?_getD]
  have hl : (srt.take a).length = a := by rw [List.length_take]; omega
  by_cases e1 : i < a
  · rw [if_pos e1, List.getElem?_append_left (by omega), List.getElem?_take_of_lt e1, ← List.getD_eq_getElem?_getD]
  · rw [if_neg e1, List.getElem?_append_right (by omega), hl]
    by_cases e2 : i = a
    · rw [if_pos e2, e2, Nat.sub_self]; rfl
    · rw [if_neg e2, show i - a = (i - a - 1) + 1 from by omega, List.getElem?_cons_succ, List.getElem?_drop, show a + (i - a - 1) = i - 1 from by omega, ← List.getD_eq_getElem?_getD]
theorem SortOk.add {L : Nat} {ls : List (List Int)} {srt : List Nat} {x : List Int} {a : Nat} (hs : SortOk L ls srt) (h : SlotOk ls srt x a) (hx : x.length = L) (hn : inL ls x = false) : SortOk L (ls ++ [x]) (insN srt a ls.length) := by
  have hsl := hs.len
  obtain ⟨h1, h2, h3⟩ := h
  have hget := fun i => insN_get srt a ls.length h1 i
  have hlen := insN_len srt a ls.length
  have hold : ∀ i, i < srt.length → (ls ++ [x]).getD (srt.getD i 0) [] = srtAt ls srt i := fun i hi => getDsnocI _ _ _ (hs.lt i hi)
  have hat : ∀ i, i < srt.length + 1 → srtAt (ls ++ [x]) (insN srt a ls.length) i = if i < a then srtAt ls srt i else if i = a then x else srtAt ls srt (i - 1) := by
    intro i hi
    unfold srtAt
    rw [hget i]
    by_cases e1 : i < a
    · rw [if_pos e1, if_pos e1]; exact hold i (by omega)
    · rw [if_neg e1, if_neg e1]
      by_cases e2 : i = a
      · rw [if_pos e2, if_pos e2]; exact getDlastI _ _
      · rw [if_neg e2, if_neg e2]; exact hold (i - 1) (by omega)
  have hxx : ∀ i, i < srt.length → srtAt ls srt i ≠ x := fun i hi e => by
    rw [← Bool.not_eq_true, inL_iff] at hn
    refine hn ?_
    rw [← e]
    unfold srtAt
    have := hs.lt i hi
    rw [List.getD_eq_getElem?_getD, List.getElem?_eq_getElem this]
    exact List.getElem_mem this
  refine ⟨fun i hi => ?_, by simp [hlen, hsl], fun i hi => ?_, fun m hm => ?_, fun i j hij hj => ?_⟩
  · rw [List.length_append, List.length_singleton] at hi
    by_cases e : i < ls.length
    · rw [getDsnocI _ _ _ e]; exact hs.rows i e
    · obtain rfl : i = ls.length := by omega
      rw [getDlastI]; exact hx
  · rw [hlen] at hi
    rw [hget i, List.length_append, List.length_singleton]
    by_cases e1 : i < a
    · rw [if_pos e1]; have := hs.lt i (by omega); omega
    · rw [if_neg e1]
      by_cases e2 : i = a
      · rw [if_pos e2]; omega
      · rw [if_neg e2]; have := hs.lt (i - 1) (by omega); omega
  · rw [List.length_append, List.length_singleton] at hm
    rw [hlen]
    by_cases e : m < ls.length
    · obtain ⟨i, hi1, hi2⟩ := hs.all m e
      by_cases e1 : i < a
      · exact ⟨i, by omega, by rw [hget i, if_pos e1]; exact hi2⟩
      · exact ⟨i + 1, by omega, by rw [hget (i + 1), if_neg (by omega), if_neg (by omega), Nat.add_sub_cancel]; exact hi2⟩
    · obtain rfl : m = ls.length := by omega
      exact ⟨a, by omega, by rw [hget a, if_neg (by omega), if_pos rfl]⟩
  · rw [hlen] at hj
    rw [hat i (by omega), hat j hj]
    by_cases j1 : j < a
    · rw [if_pos j1, if_pos (by omega)]; exact hs.ord i j hij (by omega)
    · rw [if_neg j1]
      by_cases j2 : j = a
      · rw [if_pos j2, if_pos (by omega)]; exact h2 i (by omega)
      · rw [if_neg j2]
        by_cases i1 : i < a
        · rw [if_pos i1]; exact hs.ord i (j - 1) (by omega) (by omega)
        · rw [if_neg i1]
          by_cases i2 : i = a
          · rw [if_pos i2]
            exact precL_total (by rw [hs.wid (by omega), hx]) (hxx (j - 1) (by omega)) (h3 (j - 1) (by omega) (by omega))
          · rw [if_neg i2]; exact hs.ord (i - 1) (j - 1) (by omega) (by omega)
end
section
open Go.RowKit Grp

/-- The number at a sorted place, read. -/
theorem srt_get (srt : List Nat) (i : Nat) : (natI srt).getD i 0 = ((srt.getD i 0 : Nat) : Int) := by
  unfold natI
  rw [List.getD_eq_getElem?_getD, List.getElem?_map, List.getD_eq_getElem?_getD]
  cases srt[i]? <;> rfl
set_option maxRecDepth 100000 in
set_option maxHeartbeats 1000000 in
theorem specSlot (Al Ax As Ad : Option Addr) (cl cx cs nd cd n L : Nat) (wh : Bool) (ls : List (List Int)) (srt : List Nat) (x : List Int) (w : World) (hl : LAt w Al ls) (hs : IntsAt w As (natI srt)) (hx : IntsAt w Ax x) (hso : SortOk L ls srt) (hxl : x.length = L) (hL : L ≤ 1048576) (hn : ls.length = n) (hn3 : n ≤ 3000) :
    Calls Try.prog 130 #[.agg #[.slice Al n cl, .slice Ad nd cd, .slice As n cs, .bool wh], .slice Ax L cx] w fun e w' => ∃ a : Nat, e = .returned (.int .i64 a) ∧ SlotOk ls srt x a ∧ Below w.heap.size w w' := by
  have hsl : srt.length = n := by rw [hso.len]; exact hn
  have HSL := Lib.hid hsl
  have HNN := Lib.hid hn
  have HXL := Lib.hid hxl
  have HSO := Lib.hid hso
  obtain ⟨w0, hw0⟩ : ∃ w0, w.alloc (.cells #[.slice Al n cl, .slice Ad nd cd, .slice As n cs, .bool wh] 77) = w0 := ⟨_, rfl⟩
  have hb0 : Below w.heap.size w w0 := by rw [← hw0]; exact (by repeat (first | exact Below.refl _ _ | assumption | refine Below.setCell ?_ (by first | omega | (simp <;> omega)) _ | refine Below.alloc ?_ (by first | omega | (simp <;> omega)) _ | refine Below.drew ?_))
  have r0 : w0.heap[w.heap.size]? = some (.cells #[.slice Al n cl, .slice Ad nd cd, .slice As n cs, .bool wh] 77 (0, 0)) := by rw [← hw0]; exact heap_alloc_new _ _
  have c0 := cell_of_row w0 w.heap.size 2 _ _ (0, 0) r0
  have R0 := Lib.hid r0
  have HL0 := Lib.hid (hl.below hb0)
  have HS0 := Lib.hid (hs.below hb0)
  have HX0 := Lib.hid (hx.below hb0)
  clear r0 hl hs hx hsl hxl hso hn
  go_enter Try.func130, Try.ntmps130
  go_wp2_with fail
  clear hw0 c0
  go_loopw [5, 6] (fun i j wr => ∃ (lo hi nq : Nat), i = .int .i64 lo ∧ j = .int .i64 hi ∧ hi ≤ n ∧ Hid (SlotIn ls srt x lo hi) ∧ wr = w0.drewN nq) (fun i j _ => (intOf j).toNat - (intOf i).toNat)
  case atStart => exact ⟨0, n, 0, rfl, rfl, Nat.le_refl _, by unfold Hid; rw [← HSL.out]; exact SlotIn.start _ _ _, rfl⟩
  case round =>
    obtain ⟨lo, hi, nq, rfl, rfl, hhi, HI, hw⟩ := hrel
    have hbr : Below w0.heap.size w0 wr := by rw [hw]; exact belowDrewN (Below.refl _ _) _
    have HW2 : Hid (∀ m, ∃ j, wr.drewN m = w0.drewN j) := fun m => ⟨nq + m, by rw [hw, World.drewN_drewN]⟩
    clear hw
    by_cases hlt : lo < hi
    · obtain ⟨mid, hmid⟩ : ∃ mid, (lo + hi) / 2 = mid := ⟨_, rfl⟩
      have hm1 : lo ≤ mid := by omega
      have hm2 : mid < hi := by omega
      have hms : mid < srt.length := by rw [HSL.out]; omega
      obtain ⟨m, hm⟩ : ∃ m : Nat, srt.getD mid 0 = m := ⟨_, rfl⟩
      have hmn : m < ls.length := by rw [← hm]; exact HSO.out.lt mid hms
      have hmn2 : m < n := by rw [← HNN.out]; exact hmn
      obtain ⟨b, off, rfl, hb, hc0⟩ := (HS0.out.below hbr) mid (by rw [natI_len]; exact hms)
      rw [srt_get, hm] at hc0
      obtain ⟨b2, off2, Ai, ci, rfl, h1, h2, h3, h4⟩ := (HL0.out.below hbr) m hmn
      obtain ⟨y, hy⟩ : ∃ y, ls.getD m [] = y := ⟨_, rfl⟩
      have hyl : y.length = L := by rw [← hy]; exact HSO.out.rows m hmn
      rw [hy] at h2 h3 h4
      rw [hyl] at h2 h3
      obtain ⟨bp, hbp⟩ : ∃ bp, precL y x = bp := ⟨_, rfl⟩
      have HBP : Hid (precL (srtAt ls srt mid) x = bp) := by unfold Hid srtAt; rw [hm, hy]; exact hbp
      have hcall : ∀ wx, IntsAt wx Ai y → IntsAt wx Ax x → Calls Try.prog 141 #[.slice Ai L ci, .slice Ax L cx] wx (Quiet (.bool bp) wx) := fun wx g1 g2 => by rw [← hbp]; exact specPrec Ai Ax ci cx y x L wx g1 g2 hyl HXL.out hL
      have HCALL := Lib.hid hcall
      have HIY := Lib.hid h4
      have HIX := Lib.hid (HX0.out.below hbr)
      have k0 := cell_of_row wr w.heap.size 0 _ _ (0, 0) (rowB hbr R0.out)
      have k2 := cell_of_row wr w.heap.size 2 _ _ (0, 0) (rowB hbr R0.out)
      have q0 : (0 : Int) ≤ (mid : Int) := by omega
      have q1 : (mid : Int) < (n : Int) := by omega
      have q2 : (0 : Int) ≤ (m : Int) := by omega
      have q3 : (m : Int) < (n : Int) := by omega
      have hw1 : IntKind.i64.wrap ((lo : Int) + (hi : Int)) = (lo : Int) + (hi : Int) := IntWalk.i64_in _ (by omega)
      have hd : ((lo : Int) + (hi : Int)).tdiv 2 = (mid : Int) := by rw [Int.tdiv_eq_ediv_of_nonneg (by omega)]; omega
      have hw2 : IntKind.i64.wrap (mid : Int) = (mid : Int) := IntWalk.i64_in _ (by omega)
      have hw3 : IntKind.i64.wrap ((mid : Int) + 1) = (mid : Int) + 1 := IntWalk.i64_in _ (by omega)
      clear hmid hm hy hyl hbp h4 hcall hmn hms
      go_wp2_with fail
      go_quiet ((go_at_call 141; exact quietDrew (HCALL.out _ (by exact HIY.out.drewN _) (by exact HIX.out.drewN _))))
      cases bp with
      | true =>
        go_wp2_with fail
        go_roundw
        case rel =>
          obtain ⟨j, hj⟩ := HW2.out nq
          exact ⟨mid + 1, hi, j, by go_num, rfl, hhi, HI.out.up HSO.out hm2 HBP.out, hj⟩
        case measure => simp [intOf]; omega
      | false =>
        go_wp2_with fail
        go_roundw
        case rel =>
          obtain ⟨j, hj⟩ := HW2.out nq
          exact ⟨lo, mid, j, rfl, rfl, by omega, HI.out.down HSO.out hm1 hm2 HBP.out, hj⟩
        case measure => simp [intOf]; omega
    · go_wp2_with fail
      go_ret
      exact ⟨lo, rfl, HI.out.end_ hlt, belowStep hbr hb0⟩
set_option maxRecDepth 3000 in
set_option maxHeartbeats 1000000 in
theorem eqS (A B : Option Addr) (c d n : Nat) (xs ys : List Int) (w : World) (hx : IntsAt w A xs) (hy : IntsAt w B ys) (hxl : xs.length = n) (hyl : ys.length = n) (hn : n ≤ 1048576) :
    Calls Try.prog 68 #[.slice A n c, .slice B n d] w (Quiet (.bool (decide (xs = ys))) w) := by
  obtain ⟨b0, hb0⟩ : ∃ b0, decide (xs = ys) = b0 := ⟨_, rfl⟩
  rw [hb0]
  have HB0 := Lib.hid hb0
  have HXL := Lib.hid hxl
  have HYL := Lib.hid hyl
  clear hb0
  go_enter Try.func68, Try.ntmps68
  go_wp2_with fail
  go_loopw [5] (fun z wr => ∃ (k nd : Nat), k ≤ n ∧ z = .int .i64 (k : Int) ∧ Hid (EqAt xs ys k) ∧ wr = w.drewN nd) (fun z _ => n - (intOf z).toNat)
  case atStart => exact ⟨0, 0, Nat.zero_le _, rfl, fun j hj => absurd hj (Nat.not_lt_zero _), rfl⟩
  case round =>
    obtain ⟨k, nd, hk, rfl, HE, hwr⟩ := hrel
    have HD : Hid (∀ m, ∃ l, wr.drewN m = w.drewN l) := fun m => ⟨nd + m, by rw [hwr, World.drewN_drewN]⟩
    by_cases hlt : k < n
    · obtain ⟨b, off, x, rfl, hb, hc0, HX⟩ := hx.at_ (k := k) (by omega)
      obtain ⟨b', off', y, rfl, hb', hc0', HY⟩ := hy.at_ (k := k) (by omega)
      have hcx : wr.cell? ⟨b, off + k, none⟩ = some (.int .i64 x) := by rw [hwr]; exact hc0
      have hcy : wr.cell? ⟨b', off' + k, none⟩ = some (.int .i64 y) := by rw [hwr]; exact hc0'
      have p0 : (0 : Int) ≤ (k : Int) := by omega
      have p1 : (k : Int) < (n : Int) := by omega
      clear hwr hxl hyl
      by_cases he : x = y
      · subst he
        have HE2 : Hid (EqAt xs ys (k + 1)) := HE.out.more (by rw [HX.out, HY.out])
        go_wp2_with fail
        go_quiet (fail)
        go_wp2_with fail
        go_roundw
        case rel => exact ⟨k + 1, (HD.out _).choose, by omega, by go_num, HE2, (HD.out _).choose_spec⟩
        case measure => simp [intOf]; omega
      · have hne : (x == y) = false := by simpa using he
        have HF : Hid (false = b0) := by
          unfold Hid
          rw [← HB0.out]
          exact (decide_eq_false (fun e => he (by rw [← HX.out, ← HY.out, e]))).symm
        go_wp2_with fail
        go_quiet (fail)
        go_wp2_with fail
        go_ret
        exact ⟨ret_bool HF.out, HD.out _⟩
    · obtain rfl : k = n := by omega
      have HT : Hid (true = b0) := by
        unfold Hid
        rw [← HB0.out]
        exact (decide_eq_true (eq_of_getD (by rw [HXL.out, HYL.out]) (by rw [HXL.out]; exact HE.out))).symm
      clear hwr
      go_wp2_with fail
      go_ret
      exact ⟨ret_bool HT.out, by have := HD.out 0; rwa [World.drewN_zero] at this⟩
set_option maxRecDepth 100000 in
set_option maxHeartbeats 1000000 in
theorem specIndex (Al Ax As Ad : Option Addr) (cl cx cs nd cd n L : Nat) (wh : Bool) (ls : List (List Int)) (srt : List Nat) (x : List Int) (w : World) (hl : LAt w Al ls) (hs : IntsAt w As (natI srt)) (hx : IntsAt w Ax x) (hso : SortOk L ls srt) (hxl : x.length = L) (hL : L ≤ 1048576) (hn : ls.length = n) (hn3 : n ≤ 3000) :
    Calls Try.prog 114 #[.agg #[.slice Al n cl, .slice Ad nd cd, .slice As n cs, .bool wh], .slice Ax L cx] w fun e w' => ∃ r : Int, e = .returned (.int .i64 r) ∧ decide (0 ≤ r) = inL ls x ∧ Below w.heap.size w w' := by
  have hsl : srt.length = n := by rw [hso.len]; exact hn
  have HSL := Lib.hid hsl
  have HNN := Lib.hid hn
  have HXL := Lib.hid hxl
  have HSO := Lib.hid hso
  obtain ⟨w0, hw0⟩ : ∃ w0, w.alloc (.cells #[.slice Al n cl, .slice Ad nd cd, .slice As n cs, .bool wh] 77) = w0 := ⟨_, rfl⟩
  have hb0 : Below w.heap.size w w0 := by rw [← hw0]; exact (by repeat (first | exact Below.refl _ _ | assumption | refine Below.setCell ?_ (by first | omega | (simp <;> omega)) _ | refine Below.alloc ?_ (by first | omega | (simp <;> omega)) _ | refine Below.drew ?_))
  have r0 : w0.heap[w.heap.size]? = some (.cells #[.slice Al n cl, .slice Ad nd cd, .slice As n cs, .bool wh] 77 (0, 0)) := by rw [← hw0]; exact heap_alloc_new _ _
  have c0 := cell_of_row w0 w.heap.size 0 _ _ (0, 0) r0
  have c1 := cell_of_row w0 w.heap.size 1 _ _ (0, 0) r0
  have c2 := cell_of_row w0 w.heap.size 2 _ _ (0, 0) r0
  have c3 := cell_of_row w0 w.heap.size 3 _ _ (0, 0) r0
  have R0 := Lib.hid r0
  have HL0 := Lib.hid (hl.below hb0)
  have HS0 := Lib.hid (hs.below hb0)
  have HX0 := Lib.hid (hx.below hb0)
  clear r0 hl hs hx hsl hxl hso hn
  go_enter Try.func114, Try.ntmps114
  go_wp2_with fail
  clear hw0 c0 c1 c2 c3
  refine (specSlot Al Ax As Ad cl cx cs nd cd n L wh ls srt x w0 HL0.out HS0.out HX0.out HSO.out HXL.out hL HNN.out hn3).mono ?_
  rintro e w1 ⟨a, rfl, hSA, hb1⟩
  have HSA := Lib.hid hSA
  have HF : Hid (inL ls x = true ↔ a < srt.length ∧ srtAt ls srt a = x) := hSA.found HSO.out
  have hb01 := belowStep hb1 hb0
  have k0 := cell_of_row w1 w.heap.size 0 _ _ (0, 0) (rowB hb1 R0.out)
  have k2 := cell_of_row w1 w.heap.size 2 _ _ (0, 0) (rowB hb1 R0.out)
  clear hSA
  go_wp2_with fail
  by_cases hlt : a < n
  · have hms : a < srt.length := by rw [HSL.out]; omega
    obtain ⟨m, hm⟩ : ∃ m : Nat, srt.getD a 0 = m := ⟨_, rfl⟩
    have hmn : m < ls.length := by rw [← hm]; exact HSO.out.lt a hms
    have hmn2 : m < n := by rw [← HNN.out]; exact hmn
    obtain ⟨b, off, rfl, hb, hc0⟩ := (HS0.out.below hb1) a (by rw [natI_len]; exact hms)
    rw [srt_get, hm] at hc0
    obtain ⟨b2, off2, Ai, ci, rfl, h1, h2, h3, h4⟩ := (HL0.out.below hb1) m hmn
    obtain ⟨y, hy⟩ : ∃ y, ls.getD m [] = y := ⟨_, rfl⟩
    have hyl : y.length = L := by rw [← hy]; exact HSO.out.rows m hmn
    rw [hy] at h2 h3 h4
    rw [hyl] at h2 h3
    have HY : Hid (inL ls x = decide (y = x)) := by
      unfold Hid
      rw [Bool.eq_iff_iff, decide_eq_true_iff, HF.out]
      unfold srtAt
      rw [hm, hy]
      exact ⟨fun h => h.2, fun h => ⟨hms, h⟩⟩
    have q0 : (0 : Int) ≤ (a : Int) := by omega
    have q1 : (a : Int) < (n : Int) := by omega
    have q2 : (0 : Int) ≤ (m : Int) := by omega
    have q3 : (m : Int) < (n : Int) := by omega
    have HIX := HX0.out.below hb1
    have HIX2 := Lib.hid HIX
    have HIY := Lib.hid h4
    have HYL := Lib.hid hyl
    clear hm hy hyl h4 hmn hms HIX
    obtain ⟨bq, hbq⟩ : ∃ bq, decide (y = x) = bq := ⟨_, rfl⟩
    rw [hbq] at HY
    have HBQ := Lib.hid hbq
    clear hbq
    have HCALL : Hid (∀ wx, IntsAt wx Ai y → IntsAt wx Ax x → Calls Try.prog 68 #[.slice Ai L ci, .slice Ax L cx] wx (Quiet (.bool bq) wx)) := fun wx g1 g2 => by rw [← HBQ.out]; exact eqS Ai Ax ci cx L y x wx g1 g2 HYL.out HXL.out hL
    have hd : decide ((a : Int) < (n : Int)) = true := decide_eq_true q1
    go_quiet ((go_at_call 68; exact quietDrew (HCALL.out _ (by exact HIY.out.drewN _) (by exact HIX2.out.drewN _))))
    cases bq with
    | true =>
      go_wp2_with fail
      go_ret
      exact ⟨m, rfl, by rw [HY.out]; exact decide_eq_true q2, belowDrewN hb01 _⟩
    | false =>
      go_wp2_with fail
      go_ret
      exact ⟨-1, rfl, HY.out.symm, belowDrewN hb01 _⟩
  · have q1 : ¬ (a : Int) < (n : Int) := by omega
    have HY : Hid (inL ls x = false) := by
      unfold Hid
      rw [← Bool.not_eq_true, HF.out]
      rintro ⟨h, -⟩
      rw [HSL.out] at h
      exact hlt h
    have hd : decide ((a : Int) < (n : Int)) = false := decide_eq_false q1
    go_quiet (fail)
    go_wp2_with fail
    go_ret
    exact ⟨-1, rfl, HY.out.symm, belowDrewN hb01 _⟩
end
end Go.Proofs.Ytfhdnanbhigpmaa
