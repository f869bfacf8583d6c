/- Plain laws on means and trimmed averages; a random order of five. Conditions: as each contract says. -/
import Derived.Test.YtpaaolnkmopiiaaSpecAvg
import Derived.Test.YtpaaolnkmopiiaaSrc
namespace Go.Proofs.Ytpaaolnkmopiiaa
open Go.RowKit

def lo40 (x : Int) : Bool := decide (500 ≤ x ∧ x ≤ 539)
theorem lo40_bd {xs : List Int} (h : xs.all lo40 = true) {x : Int} (hx : x ∈ xs) : 500 ≤ x ∧ x ≤ 539 := by
  have := List.all_eq_true.1 h x hx
  simpa [lo40] using this
theorem lo40_ok {xs : List Int} (h : xs.all lo40 = true) (h5 : xs.length = 5) : okTimes xs = true := by
  rw [okTimes, Bool.and_eq_true]
  refine ⟨by simp; omega, List.all_eq_true.2 fun x hx => ?_⟩
  have := lo40_bd h hx
  simp [isRes, inR]
  omega
theorem lo40_dnf {xs : List Int} (h : xs.all lo40 = true) : xs.any isDnf = false := by
  rw [Bool.eq_false_iff]
  intro hc
  obtain ⟨x, hx, hd⟩ := List.any_eq_true.1 hc
  have := lo40_bd h hx
  simp [isDnf] at hd
  omega
theorem sum_bd (b t : Int) : ∀ xs : List Int, (∀ x ∈ xs, b ≤ x ∧ x ≤ t) → (xs.length : Int) * b ≤ xs.sum ∧ xs.sum ≤ (xs.length : Int) * t
  | [], _ => by simp
  | x :: xs, h => by
    have h1 := sum_bd b t xs (fun y hy => h y (List.mem_cons_of_mem _ hy))
    have h2 := h x (List.mem_cons_self)
    rw [List.length_cons, List.sum_cons, Int.natCast_succ, Int.add_mul, Int.add_mul]
    omega
theorem meanOf_bd {b t : Int} {xs : List Int} (h : ∀ x ∈ xs, b ≤ x ∧ x ≤ t) (hd : xs.any isDnf = false) (hl : xs.length = 5 ∨ xs.length = 3) : b ≤ meanOf xs ∧ meanOf xs ≤ t := by
  rw [meanOf_fin hd]
  have := sum_bd b t xs h
  rcases hl with e | e <;> rw [e] at this ⊢ <;> omega
theorem lessR_lt {x y : Int} (hx : 0 ≤ x) (hy : 0 ≤ y) : lessR x y = decide (x < y) := by
  have h1 : (x == -1) = false := by simp; omega
  have h2 : (y == -1) = false := by simp; omega
  simp [lessR, h1, h2]
/-- Insertion keeps order. -/
theorem insAt_split (l : List Int) (x : Int) : ∀ j, j ≤ l.length → ∃ p, p ≤ j ∧ insAt l x j = l.take p ++ x :: l.drop p ∧ (∀ i, p ≤ i → i < j → lessR x (l.getD i 0) = true) ∧ (p = 0 ∨ lessR x (l.getD (p - 1) 0) = false)
  | 0, _ => ⟨0, Nat.le_refl _, by simp [insAt], fun i h1 h2 => by omega, .inl rfl⟩
  | j + 1, hj => by
    cases hs : lessR x (l.getD j 0)
    · exact ⟨j + 1, Nat.le_refl _, by rw [insAt, hs]; rfl, fun i h1 h2 => by omega, .inr hs⟩
    · obtain ⟨p, h1, h2, h3, h4⟩ := insAt_split l x j (by omega)
      refine ⟨p, by omega, by rw [insAt, hs]; exact h2, fun i hi1 hi2 => ?_, h4⟩
      rcases Nat.lt_or_ge i j with h | h
      · exact h3 i hi1 h
      · rw [show i = j from by omega]; exact hs
theorem ins_sorted {l : List Int} {x : Int} (h : l.Pairwise (· ≤ ·)) (hl : ∀ y ∈ l, 0 ≤ y) (hx : 0 ≤ x) : (ins l x).Pairwise (· ≤ ·) := by
  obtain ⟨p, hp, he, hhi, hlo⟩ := insAt_split l x l.length (Nat.le_refl _)
  have hget : ∀ i (hi : i < l.length), l.getD i 0 = l[i] := fun i hi => getD_at l i hi
  rw [ins, he, List.pairwise_append]
  refine ⟨h.sublist (List.take_sublist _ _), List.pairwise_cons.2 ⟨fun y hy => ?_, h.sublist (List.drop_sublist _ _)⟩, fun a ha y hy => ?_⟩
  · obtain ⟨i, hi, rfl⟩ := List.mem_iff_getElem.1 hy
    rw [List.length_drop] at hi
    rw [List.getElem_drop]
    have h1 := hhi (p + i) (by omega) (by omega)
    rw [hget _ (by omega), lessR_lt hx (hl _ (List.getElem_mem _))] at h1
    have := of_decide_eq_true h1
    omega
  · obtain ⟨i, hi, rfl⟩ := List.mem_iff_getElem.1 ha
    rw [List.length_take] at hi
    rw [List.getElem_take]
    have hpos : 0 < p := by omega
    have hax : l[i]'(by omega) ≤ x := by
      rcases hlo with h0 | h0
      · omega
      · rw [hget _ (by omega), lessR_lt hx (hl _ (List.getElem_mem _))] at h0
        have h1 : ¬ x < l[p - 1]'(by omega) := of_decide_eq_false h0
        rcases Nat.lt_or_ge i (p - 1) with h2 | h2
        · have := List.pairwise_iff_getElem.1 h i (p - 1) (by omega) (by omega) h2
          omega
        · have : i = p - 1 := by omega
          subst this
          omega
    rcases List.mem_cons.1 hy with rfl | hy
    · exact hax
    · obtain ⟨k, hk, rfl⟩ := List.mem_iff_getElem.1 hy
      rw [List.length_drop] at hk
      rw [List.getElem_drop]
      exact List.pairwise_iff_getElem.1 h i (p + k) (by omega) (by omega) (by omega)
theorem isort_sorted (xs : List Int) (h : ∀ y ∈ xs, 0 ≤ y) : (isort xs).Pairwise (· ≤ ·) := by
  have : ∀ (ys l : List Int), l.Pairwise (· ≤ ·) → (∀ y ∈ l, 0 ≤ y) → (∀ y ∈ ys, 0 ≤ y) → (ys.foldl ins l).Pairwise (· ≤ ·) := by
    intro ys
    induction ys with
    | nil => intro l h1 _ _; exact h1
    | cons y ys ih =>
      intro l h1 h2 h3
      rw [List.foldl_cons]
      refine ih _ (ins_sorted h1 h2 (h3 y (List.mem_cons_self))) (fun z hz => ?_) (fun z hz => h3 z (List.mem_cons_of_mem _ hz))
      rcases List.mem_cons.1 ((insAt_perm l y l.length).mem_iff.1 hz) with rfl | hz
      · exact h3 _ (List.mem_cons_self)
      · exact h2 z hz
  exact this xs [] List.Pairwise.nil (by simp) h
theorem isort_of_perm {xs ys : List Int} (hp : xs.Perm ys) (h : ∀ y ∈ xs, 0 ≤ y) : isort xs = isort ys := by
  have h2 : ∀ y ∈ ys, 0 ≤ y := fun y hy => h y (hp.mem_iff.2 hy)
  exact List.Perm.eq_of_pairwise (le := (· ≤ ·)) (fun a b _ _ h1 h2 => Int.le_antisymm h1 h2) (isort_sorted xs h) (isort_sorted ys h2) ((isort_perm xs).trans (hp.trans (isort_perm ys).symm))
theorem lo40_pos {xs : List Int} (h : xs.all lo40 = true) : ∀ y ∈ xs, 0 ≤ y := fun y hy => by have := lo40_bd h hy; omega
theorem avgRes_perm {xs ys : List Int} (h : xs.all lo40 = true) (h5 : xs.length = 5) (hp : ys.Perm xs) : avgRes ys = avgRes xs := by
  have h2 : ys.all lo40 = true := List.all_eq_true.2 fun y hy => List.all_eq_true.1 h y (hp.mem_iff.1 hy)
  have hl : ys.length = 5 := hp.length_eq.trans h5
  rw [avgRes, avgRes, lo40_ok h h5, lo40_ok h2 hl, avgOf, avgOf, isort_of_perm hp (lo40_pos h2), h5, hl]
theorem better_le {l n : Int} (hl : 0 ≤ l) (hn : 0 ≤ n) : better l n ≤ l ∧ better l n ≤ n ∧ 0 ≤ better l n := by
  unfold better
  rw [lessR_lt hn hl]
  by_cases h : n < l
  · rw [if_pos (by simpa using h)]; omega
  · rw [if_neg (by simpa using h)]; omega
theorem best_le : ∀ (xs : List Int) (l : Int), 0 ≤ l → (∀ y ∈ xs, 0 ≤ y) → xs.foldl better l ≤ l ∧ ∀ y ∈ xs, xs.foldl better l ≤ y
  | [], l, _, _ => ⟨Int.le_refl _, fun y hy => by simp at hy⟩
  | x :: xs, l, hl, h => by
    have h1 := better_le hl (h x (List.mem_cons_self))
    have h2 := best_le xs (better l x) h1.2.2 (fun y hy => h y (List.mem_cons_of_mem _ hy))
    rw [List.foldl_cons]
    refine ⟨Int.le_trans h2.1 h1.1, fun y hy => ?_⟩
    rcases List.mem_cons.1 hy with rfl | hy
    · exact Int.le_trans h2.1 h1.2.1
    · exact h2.2 y hy
theorem bestOf_low {xs : List Int} (h : xs.all lo40 = true) : ∀ y ∈ xs, bestOf xs ≤ y := by
  cases xs with
  | nil => intro y hy; simp at hy
  | cons x xs =>
    have hx := lo40_bd h (List.mem_cons_self)
    have hb : better (-1) x = x := by
      have h1 : (x == -1) = false := by simp; omega
      simp [better, lessR, h1]
    intro y hy
    have h2 := best_le xs x (by omega) (fun z hz => lo40_pos h z (List.mem_cons_of_mem _ hz))
    rw [bestOf, List.foldl_cons, hb]
    rcases List.mem_cons.1 hy with rfl | hy
    · exact h2.1
    · exact h2.2 y hy
theorem averages_bd {xs : List Int} {t : Int} (h : xs.all lo40 = true) (h5 : xs.length = 5) (ht : ∀ y ∈ xs, y ≤ t) :
    bestRes xs ≤ meanRes xs ∧ meanRes xs ≤ t ∧ bestRes xs ≤ avgRes xs ∧ avgRes xs ≤ t := by
  have hok := lo40_ok h h5
  have hne : (!xs.isEmpty) = true := by cases xs <;> simp at h5 ⊢
  have hm : meanRes xs = meanOf xs := by rw [meanRes, hok, hne]; rfl
  have hb : bestRes xs = bestOf xs := by rw [bestRes, hok]; rfl
  have ha : avgRes xs = meanOf (mid3 xs) := by rw [avgRes, hok, h5]; rfl
  have hbd : ∀ x ∈ xs, bestOf xs ≤ x ∧ x ≤ t := fun x hx => ⟨bestOf_low h x hx, ht x hx⟩
  have hsub : ∀ x ∈ mid3 xs, x ∈ xs := fun x hx => (isort_perm xs).mem_iff.1 (List.mem_of_mem_drop (List.mem_of_mem_take hx))
  have h3 : (mid3 xs).all lo40 = true := List.all_eq_true.2 fun x hx => List.all_eq_true.1 h x (hsub x hx)
  have hl3 : (mid3 xs).length = 3 := by rw [mid3, List.length_take, List.length_drop, isort_len, h5]; rfl
  have m1 := meanOf_bd hbd (lo40_dnf h) (.inl h5)
  have m2 := meanOf_bd (fun x hx => hbd x (hsub x hx)) (lo40_dnf h3) (.inr hl3)
  rw [hm, hb, ha]
  exact ⟨m1.1, m1.2, m2.1, m2.2⟩
/-! A random order. -/
def castL (ns : List Nat) : List Int := ns.map Int.ofNat
theorem castL_nil : castL [] = [] := rfl
theorem castL_len (ns : List Nat) : (castL ns).length = ns.length := by simp [castL]
theorem castL_ins (ns : List Nat) (m i : Nat) : castL (ns.take m ++ i :: ns.drop m) = (castL ns).take m ++ [(i : Int)] ++ (castL ns).drop m := by simp [castL]
theorem perm_ins {ns : List Nat} {i : Nat} (h : ns.Perm (List.range i)) (m : Nat) : (ns.take m ++ i :: ns.drop m).Perm (List.range (i + 1)) := by
  refine List.perm_middle.trans ?_
  rw [List.take_append_drop, List.range_succ]
  exact (List.Perm.cons i h).trans (List.perm_append_comm (l₁ := [i]) (l₂ := List.range i))
def mixTo (xs : List Int) (ns : List Nat) (k : Nat) : List Int := (ns.take k).map fun n => xs.getD n 0
theorem mixTo_more (xs : List Int) (ns : List Nat) (k : Nat) (hk : k < ns.length) {n : Nat} {x : Int} (hn : ns[k]? = some n) (hx : xs.getD n 0 = x) : mixTo xs ns (k + 1) = mixTo xs ns k ++ [x] := by
  have : ns[k] = n := by rw [List.getElem?_eq_getElem hk] at hn; exact Option.some.inj hn
  rw [mixTo, List.take_succ_eq_append_getElem hk, List.map_append, this]
  simp [mixTo]
  simpa [List.getD_eq_getElem?_getD] using hx
theorem mixTo_len (xs : List Int) (ns : List Nat) (k : Nat) : (mixTo xs ns k).length ≤ k := by simp [mixTo]; omega
theorem mixTo_perm {xs : List Int} {ns : List Nat} (h5 : xs.length = 5) (hp : ns.Perm (List.range 5)) : (mixTo xs ns 5).Perm xs := by
  have hl : ns.length = 5 := by have := hp.length_eq; simpa using this
  rw [mixTo, List.take_of_length_le (by omega)]
  refine (hp.map _).trans ?_
  have : (List.range 5).map (fun n => xs.getD n 0) = xs := by
    refine List.ext_getElem (by simp [h5]) fun i h1 h2 => ?_
    simp only [List.getElem_map, List.getElem_range]
    exact getD_at xs i h2
  rw [this]
theorem perm_at {ns : List Nat} (hp : ns.Perm (List.range 5)) {k : Nat} (hk : k < 5) : ∃ n, ns[k]? = some n ∧ n < 5 ∧ (castL ns).getD k 0 = (n : Int) := by
  have hl : ns.length = 5 := by have := hp.length_eq; simpa using this
  refine ⟨ns[k], List.getElem?_eq_getElem (by omega), ?_, ?_⟩
  · have := hp.mem_iff.1 (List.getElem_mem (l := ns) (n := k) (by omega))
    simpa using this
  · rw [getD_at _ _ (by rw [castL_len]; omega)]; simp [castL]
theorem DiceAt.keep {w1 w2 : World} {B g : Nat} {A : Option Addr} {c : Nat} {xs : List Int} (h : DiceAt w1 g A c xs) (hb : Below B w1 w2) (hg : g < B) (hA : ∀ b off, A = some ⟨b, off, none⟩ → 0 < xs.length → b < B) : DiceAt w2 g A c xs := by
  obtain ⟨a, s, h1, h2, h3, h4⟩ := h
  refine ⟨a, s, (hb.block g hg).trans h1, h2, fun k hk => ?_, h4⟩
  obtain ⟨b, off, e, hlt, hc, hr⟩ := h3 k hk
  have := hA b off e (by omega)
  exact ⟨b, off, e, Nat.lt_of_lt_of_le hlt hb.size, (hb.cell (p := ⟨b, off + k, none⟩) this).trans hc, hr⟩
theorem DiceAt.low {w : World} {g : Nat} {A : Option Addr} {c : Nat} {xs : List Int} (h : DiceAt w g A c xs) : ∀ b off, A = some ⟨b, off, none⟩ → 0 < xs.length → b < w.heap.size := by
  obtain ⟨_, _, _, _, h3, _⟩ := h
  intro b off e hp
  obtain ⟨b', off', e', hlt, _⟩ := h3 0 hp
  rw [e] at e'
  injection e' with e'
  injection e' with e1 _
  omega
theorem Lies.grown {B g : Nat} {w w' : World} {v : Value} {l : List Int} (h : Lies B w v l) (hg : w.grownBy w' (some g)) (hlt : g < B) : Lies B w' v l := by
  obtain ⟨h0, c, e, hc, hb, hz, hI⟩ := h
  refine ⟨h0, c, e, hc, hb, Nat.lt_of_lt_of_le hz hg.size, fun k hk => ?_⟩
  obtain ⟨b, off, e2, hb2, hc2⟩ := hI k hk
  have e3 : h0 = b := by have := Option.some.inj e2; simpa using congrArg Addr.block this
  exact ⟨b, off, e2, Nat.lt_of_lt_of_le hb2 hg.size, (World.cell?_of_block (a := ⟨b, off + k, none⟩) (hg.block b hb2 (fun e => by injection e with e; omega))).trans hc2⟩
def OrderPost (g : Nat) (A : Option Addr) (c : Nat) (xs : List Int) (w : World) (e : Ending) (w' : World) : Prop :=
  ∃ v ns, e = .returned v ∧ Lies w.heap.size w' v (castL ns) ∧ ns.Perm (List.range 5) ∧ DiceAt w' g A c xs ∧ w.grownBy w' (some g)
set_option maxRecDepth 100000 in
set_option maxHeartbeats 2000000 in
theorem order5 (g : Nat) (A : Option Addr) (c : Nat) (xs : List Int) (w : World) (hd : DiceAt w g A c xs) (hl : xs.length ≤ 4096) :
    Calls Try.prog 41 #[.pointer (some ⟨g, 0, none⟩), .int .i64 5] w (OrderPost g A c xs w) := by
  have hlow := Lib.hid hd.low
  have hgw := hd.lt
  have hL0 : Lies w.heap.size (w.alloc (.cells #[] 2)) (.slice (some ⟨w.heap.size, 0, none⟩) 0 0) (castL []) := ⟨w.heap.size, 0, rfl, Nat.le_refl _, Nat.le_refl _, by simp, by rw [castL_nil]; exact IntsAt.nil _ _⟩
  have hg0 : w.grownBy (w.alloc (.cells #[] 2)) (some g) := World.grownBy_alloc _ _ _
  have hd0 : DiceAt (w.alloc (.cells #[] 2)) g A c xs := hd.below (by repeat (first | exact Below.refl _ _ | assumption | refine Below.setCell ?_ (by first | omega | (simp <;> omega)) _ | refine Below.alloc ?_ (by first | omega | (simp <;> omega)) _ | refine Below.drew ?_))
  clear hd
  go_enter Try.func41, Try.ntmps41
  go_wp2_with fail
  go_loopw [5, 6] (fun v q wr => ∃ (i : Nat) (ns : List Nat), i ≤ 5 ∧ q = .int .i64 i ∧ Lies w.heap.size wr v (castL ns) ∧ Hid (ns.Perm (List.range i)) ∧ DiceAt wr g A c xs ∧ w.grownBy wr (some g)) (fun _ q _ => 5 - (intOf q).toNat)
  case atStart => exact ⟨0, [], by omega, rfl, hL0, List.Perm.refl _, hd0, hg0⟩
  case round =>
    obtain ⟨i, ns, hi, rfl, hLi, HP, hD, hG⟩ := hrel
    clear hL0 hg0 hd0
    by_cases hlt : i < 5
    · have pi : (i : Int) < 5 := by omega
      have hlen : (castL ns).length = i := by rw [castL_len]; have := HP.out.length_eq; simpa using this
      go_wp2_with fail
      refine (diceBelow g A c xs ((i : Int) + 1) _ hD hl (by omega) (by omega)).mono ?_
      rintro e w2 ⟨y, rfl, y0, y1, hD2, hg2⟩
      obtain ⟨m, rfl⟩ := Int.eq_ofNat_of_zero_le y0
      have hmi : m ≤ i := by omega
      have hG2 := grownTrans hG hg2
      have hL2 := hLi.grown hg2 hgw
      have HPN := Lib.hid (perm_ins HP.out m)
      have HCN := Lib.hid (castL_ins ns m i)
      obtain ⟨l, hL⟩ : ∃ l, castL ns = l := ⟨_, rfl⟩
      rw [hL] at hL2 HCN hlen
      obtain ⟨g1, co, rfl, hco, hgB, hgz, hI⟩ := hL2
      have HLEN := Lib.hid hlen
      have hz2 := hG2.size
      have hlJ : (l.take m).length = m := by rw [List.length_take]; omega
      have HLJ := Lib.hid hlJ
      have hJ0 : (0 : Int) ≤ (m : Int) := by omega
      have hJc : (m : Int) ≤ (co : Int) := by omega
      have hJl2 : (m : Int) ≤ (l.length : Int) := by omega
      have hjco : m ≤ co := by omega
      have hml : m ≤ l.length := by omega
      have hl5 : l.length ≤ 5 := by omega
      clear hLi hD hg2 hG hL hlJ hlen y0 y1
      rcases Nat.eq_or_lt_of_le hjco with rfl | hjlt
      all_goals
        try (have hne : ¬ co = m := by omega)
        try (have hnf : (co == m) = false := by simp; omega)
        have hbn : Below w.heap.size w2 (w2.alloc (.cells #[] 2)) := (Below.refl _ _).alloc hz2 _
        have hbf : Below w2.heap.size w2 (w2.alloc (.cells #[] 2)) := (Below.refl _ _).alloc (Nat.le_refl _) _
        go_wp2_with (first | (at_builtin; refine append_ints rfl (.tmp 19) (.tmp 22) rfl w2.heap.size _ [] (l.take m) rfl (by exact Fresh.empty (Nat.le_refl _)) _ _ _ HLJ.out rfl (by exact (hI.below hbf).take m) (by simp; omega) (by exact hbf.size) ?_; intro v3 w3 hF3 hg3 hb3; have hbw3 : Below w2.heap.size w2 w3 := hbf.trans hb3) | (at_builtin; refine append_one rfl (.tmp 24) (.tmp 26) rfl w2.heap.size _ (l.take m) (i : Int) rfl (by exact (show Fresh w2.heap.size w3 v3 (l.take m) from hF3).below (by repeat (first | exact Below.refl _ _ | assumption | refine Below.setCell ?_ (by first | omega | (simp <;> omega)) _ | refine Below.alloc ?_ (by first | omega | (simp <;> omega)) _ | refine Below.drew ?_))) w3.heap.size rfl (by simp) (by rw [HLJ.out]; omega) (by have := hbw3.size; simp; omega) ?_; intro v4 w4 hF4 hg4 hb4; have hbw4 : Below w2.heap.size w2 w4 := (hbw3.alloc hbw3.size _).trans hb4) | (at_builtin; (refine append_ints rfl (.tmp 28) (.tmp 31) rfl w2.heap.size _ (l.take m ++ [(i : Int)]) (l.drop m) rfl hF4 _ _ _ (by simp <;> omega) rfl (by first | exact (hI.below hbw4).dropAt m | exact cut0 _ (by omega)) (by simp; omega) (by exact hbw4.size) ?_; intro v5 w5 hF5 hg5 hb5)))
        have hbw5 : Below w2.heap.size w2 w5 := hbw4.trans hb5
        have hD5 := hD2.keep hbw5 (by omega) (fun b off e hp => Nat.lt_of_lt_of_le (hlow.out b off e hp) hz2)
        have hG5 := grownThen hG2 (hbw5.mono hz2)
        have hL5 : Lies w.heap.size w5 v5 (castL (ns.take m ++ i :: ns.drop m)) := by
          rw [HCN.out]
          exact Lies.of hF5 (by simp; omega) hz2
        go_roundw
        case rel => exact ⟨i + 1, _, by omega, by go_num, hL5, HPN, hD5, hG5⟩
        case measure => simp [intOf]; omega
    · obtain rfl : i = 5 := by omega
      go_wp2_with fail
      go_ret
      exact ⟨_, ns, rfl, hLi, HP.out, hD, hG⟩
end Go.Proofs.Ytpaaolnkmopiiaa
