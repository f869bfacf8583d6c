/- Permutations drawn by the laws' dice. Conditions: as the contract says. Tracked points drawn by the laws' dice. Conditions: as the contract says. Puzzles drawn by the laws' dice. Conditions: as the contract says. Drawn puzzles are puzzles. Conditions: as each theorem says. How many patterns of few points there are. Conditions: as each theorem says. The fill job of a drawn puzzle is short. Conditions: as each theorem says. -/
import Derived.Test.YtfhdnanbhigpmaaJk
import Derived.Test.YtfhdnanbhigpmaaBy
import Derived.Test.YtfhdnanbhigpmaaGf
import Derived.Deep.RegionHeld3
import Derived.Test.YtfhdnanbhigpmaaRp
import Derived.Test.YtfhdnanbhigpmaaRu
namespace Go.Proofs.Ytfhdnanbhigpmaa
section
section
open Go.RowKit Grp

/-- A list of the numbers below n, each once. -/
structure PmL (n : Nat) (l : List Nat) : Prop where
  len : l.length = n
  lt : ∀ x, x ∈ l → x < n
  nd : l.Nodup
theorem PmL.isP {n : Nat} {l : List Nat} (h : PmL n l) : IsP n l := by
  refine ⟨h.len, fun i hi => ?_, fun i j hi hj e => ?_⟩
  · unfold app
    rw [List.getD_eq_getElem?_getD, List.getElem?_eq_getElem (by rw [h.len]; exact hi)]
    exact h.lt _ (List.getElem_mem _)
  · unfold app at e
    rw [List.getD_eq_getElem?_getD, List.getD_eq_getElem?_getD, List.getElem?_eq_getElem (by rw [h.len]; exact hi), List.getElem?_eq_getElem (by rw [h.len]; exact hj)] at e
    exact (List.getElem_inj h.nd).1 e
theorem PmL.ins {n k : Nat} {l : List Nat} (h : PmL n l) : PmL (n + 1) (l.take k ++ [n] ++ l.drop k) := by
  have hp : (l.take k ++ [n] ++ l.drop k).Perm (n :: l) := by
    have := (List.perm_middle (a := n) (l₁ := l.take k) (l₂ := l.drop k))
    rw [List.take_append_drop] at this
    simpa using this
  refine ⟨by rw [hp.length_eq, List.length_cons, h.len], fun x hx => ?_, (hp.nodup_iff).2 (List.nodup_cons.2 ⟨fun q => ?_, h.nd⟩)⟩
  · have := hp.mem_iff.1 hx
    rw [List.mem_cons] at this
    rcases this with rfl | q
    · omega
    · have := h.lt x q; omega
  · have := h.lt n q; omega
theorem cut0W {w : World} {l : List Int} {j : Nat} (A : Option Addr) (h : l.length ≤ j) : IntsAt w A (l.drop j) := by
  rw [List.drop_eq_nil_of_le h]
  exact IntsAt.nil _ _
theorem dropAtW {w : World} {g : Nat} {l : List Int} (h : IntsAt w (some ⟨g, 0, none⟩) l) (i : Nat) : IntsAt w (some ⟨g, i, none⟩) (l.drop i) := by
  intro k hk
  rw [List.length_drop] at hk
  obtain ⟨b', off', e, hb, hc⟩ := h (i + k) (by omega)
  injection e with e
  injection e with e1 e2
  subst e1 e2
  refine ⟨g, i, rfl, hb, ?_⟩
  rw [show i + k = 0 + (i + k) from by omega, hc]
  have hk2 : i + k < l.length := by omega
  simp [List.getD_eq_getElem?_getD, hk2]
theorem Fresh.at0 {B : Nat} {w : World} {v : Value} {l : List Int} (h : Fresh B w v l) (hn : 0 < l.length) : ∃ g c, v = .slice (some ⟨g, 0, none⟩) l.length c ∧ l.length ≤ c := by
  obtain ⟨A, c, hc, hv, _⟩ := h.capped
  obtain ⟨A', c', hv', hi, hA⟩ := h.ints
  rw [hv] at hv'
  simp only [Value.slice.injEq] at hv'
  obtain ⟨rfl, _, rfl⟩ := hv'
  rcases hA with rfl | ⟨g, rfl, hg, hlt⟩
  · obtain ⟨b, off, e, _⟩ := hi 0 hn
    cases e
  · exact ⟨g, c, hv, hc⟩
def PermD (g : Nat) (A : Option Addr) (c : Nat) (xs : List Int) (n : Nat) (w : World) (e : Ending) (w' : World) : Prop :=
  ∃ v l, e = .returned v ∧ IsP n l ∧ Fresh w.heap.size w' v (natI l) ∧ DiceAt w' g A c xs ∧ w.grownBy w' (some g)
set_option maxRecDepth 100000 in
set_option maxHeartbeats 4000000 in
theorem drawPerm (g : Nat) (A : Option Addr) (c : Nat) (xs : List Int) (n : Nat) (w : World) (hd : DiceAt w g A c xs) (hl : xs.length ≤ 4096) (hn : n ≤ 1000) :
    Calls Try.prog 44 #[.pointer (some ⟨g, 0, none⟩), .int .i64 (n : Int)] w (PermD g A c xs n w) := by
  have hgl := hd.lt
  have hF0 := Fresh.empty (w := w) (Nat.le_refl _)
  have hb0 : Below w.heap.size w (w.alloc (.cells #[] 2)) := (by repeat (first | exact Below.refl _ _ | assumption | refine Below.setCell ?_ (by first | omega | (simp <;> omega)) _ | refine Below.alloc ?_ (by first | omega | (simp <;> omega)) _ | refine Below.drew ?_))
  have HD0 := Lib.hid (hd.below hb0)
  have hg0 : Hid (w.grownBy (w.alloc (.cells #[] 2)) (some g)) := gB hb0 (some g)
  clear hd
  go_enter Try.func44, Try.ntmps44
  go_wp2_with fail
  go_loopw [5, 6] (fun v i wr => ∃ (k : Nat) (l : List Nat) (gv cv : Nat), k ≤ n ∧ v = .slice (some ⟨gv, 0, none⟩) k cv ∧ k ≤ cv ∧ i = .int .i64 k ∧ Hid (PmL k l) ∧ Fresh w.heap.size wr v (natI l) ∧ DiceAt wr g A c xs ∧ w.grownBy wr (some g)) (fun _ i _ => n - (intOf i).toNat)
  case atStart => exact ⟨0, [], w.heap.size, 0, Nat.zero_le _, rfl, Nat.zero_le _, rfl, ⟨rfl, (fun x hx => by cases hx), List.nodup_nil⟩, hF0, HD0.out, hg0.out⟩
  case round =>
    obtain ⟨k, l, gv, cv, hk, rfl, hkv, rfl, HPL, hF, hD, hG⟩ := hrel
    clear hF0 hb0
    have HD := Lib.hid hD
    have HG := Lib.hid hG
    have HF := Lib.hid hF
    have hzG := hG.size
    by_cases hlt : k < n
    · have q0 : (k : Int) < (n : Int) := by omega
      have hw1 : IntKind.i64.wrap ((k : Int) + 1) = (k : Int) + 1 := IntWalk.i64_in _ (by omega)
      clear hD hG hF
      go_wp2_with fail
      refine (diceBelow g A c xs ((k : Int) + 1) wr HD.out hl (by omega) (by omega)).mono ?_
      rintro e w1 ⟨x, rfl, x0, x1, hD1, hG1⟩
      obtain ⟨j, rfl⟩ : ∃ j : Nat, x = (j : Int) := ⟨x.toNat, by omega⟩
      have hjk : j ≤ k := by omega
      have hz1 := hG1.size
      have hF1 : Fresh w.heap.size w1 _ (natI l) := HF.out.row hG1 (fun b hb e => by have := (World.ownsRow.lt HF.out b hb).1; injection e with e; omega)
      have hll : (natI l).length = k := by rw [natI_len]; exact HPL.out.len
      have HD1 := Lib.hid hD1
      have HG1 := Lib.hid (HG.out.trans hG1)
      have HI1 : Hid (IntsAt w1 (some ⟨gv, 0, none⟩) (natI l)) := hF1.intsAt
      have hlJ : (natI (l.take j)).length = j := by rw [natI_len, List.length_take, HPL.out.len]; omega
      have HLJ := Lib.hid hlJ
      have hlD : (natI (l.drop j)).length = k - j := by rw [natI_len, List.length_drop, HPL.out.len]
      have HLD := Lib.hid hlD
      have HLZ : Hid (j = cv → (natI (l.drop j)).length = 0) := fun e => by rw [hlD]; omega
      have hE := Fresh.empty (B := w1.heap.size) (w := w1) (Nat.le_refl _)
      have ht : natI (l.take j) = (natI l).take j := by simp [natI, List.map_take]
      have hd : natI (l.drop j) = (natI l).drop j := by simp [natI, List.map_drop]
      have HTK : Hid (IntsAt w1 (some ⟨gv, 0, none⟩) (natI (l.take j))) := by rw [ht]; exact HI1.out.take j
      have HTD : Hid (IntsAt w1 (some ⟨gv, j, none⟩) (natI (l.drop j))) := by rw [hd]; exact dropAtW HI1.out j
      have HTN : Hid (j = cv → ∀ wx A', IntsAt wx A' (natI (l.drop j))) := fun e wx A' => by rw [hd]; exact cut0W A' (by omega)
      have HNW := Lib.hid (HPL.out.ins (k := j))
      have HPK : Hid (natI (l.take j) ++ [(k : Int)] ++ natI (l.drop j) = natI (l.take j ++ [k] ++ l.drop j)) := by unfold Hid; simp [natI]
      have HPE : Hid ((natI (l.take j ++ [k] ++ l.drop j)).length = k + 1) := by unfold Hid; rw [natI_len]; exact HNW.out.len
      have j0 : (0 : Int) ≤ (j : Int) := by omega
      have j1 : (j : Int) ≤ (k : Int) := by omega
      have j2 : (j : Int) ≤ (cv : Int) := by omega
      have hjc : j ≤ cv := by omega
      have hkc : (k : Int) ≤ (cv : Int) := by omega
      clear hD1 hG1 hF1 hlJ hlD ht hd hll HF
      rcases Nat.eq_or_lt_of_le hjc with rfl | hjlt
      all_goals
        try (have hne : ¬ cv = j := by omega)
        try (have hnf : (cv == j) = false := by simp; omega)
        go_wp2_with (first
          | (at_builtin; refine append_ints rfl (.tmp 19) (.tmp 22) rfl w1.heap.size _ [] (natI (l.take j)) rfl (by exact hE) _ _ _ HLJ.out rfl (by exact HTK.out.below ((Below.refl _ _).alloc (Nat.le_refl _) _)) (by simp; omega) (by simp) ?_; intro v2 w2 hF2 hg2 hb2; rw [List.nil_append] at hF2; have HB2 : Hid (Below w1.heap.size w1 w2) := ((Below.refl _ _).alloc (Nat.le_refl _) _).trans hb2)
          | (at_builtin; refine append_one rfl (.tmp 24) (.tmp 26) rfl w1.heap.size _ (natI (l.take j)) (k : Int) rfl (by exact hF2.below ((Below.refl _ _).alloc (Nat.le_refl _) _)) w2.heap.size rfl (by simp) (by rw [HLJ.out]; omega) (by have := HB2.out.size; simp; omega) ?_; intro v3 w3 hF3 hg3 hb3; have HB3 : Hid (Below w1.heap.size w1 w3) := (HB2.out.alloc (by have := HB2.out.size; omega) _).trans hb3)
          | (at_builtin; refine append_ints rfl (.tmp 28) (.tmp 31) rfl w1.heap.size _ (natI (l.take j) ++ [(k : Int)]) (natI (l.drop j)) rfl hF3 _ _ _ (by first | exact HLD.out | exact HLZ.out (by trivial)) rfl (by first | exact HTD.out.below HB3.out | exact HTN.out (by trivial) _ _) (by rw [List.length_append, HLJ.out]; simp; omega) (by have := HB3.out.size; omega) ?_; intro v4 w4 hF4 hg4 hb4; rw [HPK.out] at hF4; obtain ⟨gw, cw, rfl, hcw⟩ := hF4.at0 (by rw [HPE.out]; omega); rw [HPE.out] at hF4 hcw ⊢; have HB4 := Lib.hid (HB3.out.trans hb4)))
        go_roundw
        case rel => exact ⟨k + 1, l.take j ++ [k] ++ l.drop j, gw, cw, by omega, rfl, hcw, by go_num, HNW.out, hF4.mono (by omega), HD1.out.below HB4.out, HG1.out.trans (gB HB4.out (some g))⟩
        case measure => simp [intOf]; omega
    · obtain rfl : k = n := by omega
      go_wp2_with fail
      go_ret
      exact ⟨_, l, rfl, HPL.out.isP, HF.out, HD.out, HG.out⟩
end
section
open Go.RowKit Grp

theorem Fresh.lit1 {B : Nat} {w : World} (hB : B ≤ w.heap.size) (x : Int) : Fresh B (w.alloc (.cells #[.int .i64 x] 2)) (.slice (some ⟨w.heap.size, 0, none⟩) 1 1) [x] :=
  ⟨by simp, .inr ⟨w.heap.size, 1, #[.int .i64 x], rfl, hB, heap_alloc_new w _, Nat.le_refl _, by unfold maxLen; omega, by simp, by simp⟩⟩
theorem Fresh.lit2 {B : Nat} {w : World} (hB : B ≤ w.heap.size) (x y : Int) : Fresh B (w.alloc (.cells #[.int .i64 x, .int .i64 y] 2)) (.slice (some ⟨w.heap.size, 0, none⟩) 2 2) [x, y] :=
  ⟨by simp, .inr ⟨w.heap.size, 2, #[.int .i64 x, .int .i64 y], rfl, hB, heap_alloc_new w _, Nat.le_refl _, by unfold maxLen; omega, by simp, by simp⟩⟩
/-- One point below 3, or one below 2 and the point 2. -/
def IsTrk (l : List Int) : Prop := (∃ x : Int, l = [x] ∧ 0 ≤ x ∧ x < 3) ∨ (∃ x : Int, l = [x, 2] ∧ 0 ≤ x ∧ x < 2)
def TrkD (g : Nat) (A : Option Addr) (c : Nat) (xs : List Int) (w : World) (e : Ending) (w' : World) : Prop :=
  ∃ v l, e = .returned v ∧ IsTrk l ∧ Fresh w.heap.size w' v l ∧ DiceAt w' g A c xs ∧ w.grownBy w' (some g)
set_option maxRecDepth 100000 in
set_option maxHeartbeats 4000000 in
theorem drawTrk (g : Nat) (A : Option Addr) (c : Nat) (xs : List Int) (w : World) (hd : DiceAt w g A c xs) (hl : xs.length ≤ 4096) :
    Calls Try.prog 13 #[.pointer (some ⟨g, 0, none⟩)] w (TrkD g A c xs w) := by
  have HD := Lib.hid hd
  clear hd
  go_enter Try.func13, Try.ntmps13
  go_wp2_with fail
  refine (diceBelow g A c xs 2 w HD.out hl (by decide) (by decide)).mono ?_
  rintro e w1 ⟨x, rfl, x0, x1, hD1, hG1⟩
  have HD1 := Lib.hid hD1
  have HG1 := Lib.hid hG1
  have hz1 := hG1.size
  clear hD1 hG1
  by_cases hx : x = 0
  · subst hx
    go_wp2_with fail
    refine (diceBelow g A c xs 3 w1 HD1.out hl (by decide) (by decide)).mono ?_
    rintro e w2 ⟨y, rfl, y0, y1, hD2, hG2⟩
    have hz2 := hG2.size
    have hF := Fresh.lit1 (B := w.heap.size) (w := w2) (by omega) y
    have hb : Below w2.heap.size w2 (w2.alloc (.cells #[.int .i64 y] 2)) := (Below.refl _ _).alloc (Nat.le_refl _) _
    have hD := hD2.below hb
    have hG := (HG1.out.trans hG2).trans (gB hb (some g))
    clear hD2 hG2 hb
    go_wp2_with fail
    go_ret
    exact ⟨_, [y], rfl, .inl ⟨y, rfl, y0, y1⟩, hF, hD, hG⟩
  · have q0 : (x == 0) = false := by simpa using hx
    go_wp2_with fail
    refine (diceBelow g A c xs 2 w1 HD1.out hl (by decide) (by decide)).mono ?_
    rintro e w2 ⟨y, rfl, y0, y1, hD2, hG2⟩
    have hz2 := hG2.size
    have hF := Fresh.lit2 (B := w.heap.size) (w := w2) (by omega) y 2
    have hb : Below w2.heap.size w2 (w2.alloc (.cells #[.int .i64 y, .int .i64 2] 2)) := (Below.refl _ _).alloc (Nat.le_refl _) _
    have hD := hD2.below hb
    have hG := (HG1.out.trans hG2).trans (gB hb (some g))
    clear hD2 hG2 hb
    go_wp2_with fail
    go_ret
    exact ⟨_, [y, 2], rfl, .inr ⟨y, rfl, y0, y1⟩, hF, hD, hG⟩
end
section
open Go.RowKit Grp

theorem DiceAt.past {w0 w w' : World} {g : Nat} {A : Option Addr} {c : Nat} {xs : List Int} (h0 : BytesAt w0 A xs) (hg0 : g < w0.heap.size) (h : DiceAt w g A c xs) (hb : Below w0.heap.size w w') : DiceAt w' g A c xs :=
  h.move (hb.block g hg0) (fun k hk => by
    obtain ⟨b, off, e, hl, hc, r⟩ := h.bytes k hk
    obtain ⟨b', off', e', hl', -⟩ := h0 k hk
    rw [e] at e'
    injection e' with e'
    injection e' with e1 e2
    exact ⟨b, off, e, Nat.lt_of_lt_of_le hl hb.size, (hb.cell (p := ⟨b, off + k, none⟩) (by simp only; omega)).trans hc, r⟩)
theorem grownPast {w w1 w2 : World} {row : Option Nat} (h : w.grownBy w1 row) (hb : Below w.heap.size w1 w2) : w.grownBy w2 row := ⟨hb.os.trans h.os, hb.tape.trans h.tape, hb.output.trans h.output, Nat.le_trans h.size hb.size, fun k hk hne => (hb.block k hk).trans (h.block k hk hne)⟩
/-- A drawn move. -/
def IsMv (n : Nat) (x : List Int) : Prop := ∃ l, IsP n l ∧ x = natI l
theorem mvSnoc {n : Nat} {ms : List (List Int)} {x : List Int} (h : ∀ i, i < ms.length → IsMv n (ms.getD i [])) (hx : IsMv n x) : ∀ i, i < (ms ++ [x]).length → IsMv n ((ms ++ [x]).getD i []) := fun i hi => by
  rw [List.length_append] at hi
  simp only [List.length_cons, List.length_nil] at hi
  rw [List.getD_eq_getElem?_getD]
  rcases Nat.lt_or_ge i ms.length with h1 | h1
  · rw [List.getElem?_append_left h1, ← List.getD_eq_getElem?_getD]
    exact h i h1
  · obtain rfl : i = ms.length := by omega
    simpa using hx
def PzlD (g : Nat) (A : Option Addr) (c : Nat) (xs : List Int) (w : World) (e : Ending) (w' : World) : Prop :=
  ∃ (n : Nat) (nm : ByteArray) (Am : Option Addr) (ms : List (List Int)) (cm : Nat), e = .returned (.agg #[.int .i64 (n : Int), .string nm, .slice Am ms.length cm]) ∧ 3 ≤ n ∧ n ≤ 5 ∧ ms.length = nm.size ∧ 1 ≤ nm.size ∧ nm.size ≤ 3 ∧ nm = (⟨#[65, 66, 67]⟩ : ByteArray).extract 0 nm.size ∧ (∀ i, i < ms.length → IsMv n (ms.getD i [])) ∧ GrAt w.heap.size (fun b => b < w.heap.size) w' (.slice Am ms.length cm) ms ∧ DiceAt w' g A c xs ∧ w.grownBy w' (some g)
set_option maxRecDepth 100000 in
set_option maxHeartbeats 4000000 in
theorem drawPzl (g : Nat) (A : Option Addr) (c : Nat) (xs : List Int) (w : World) (hd : DiceAt w g A c xs) (hl : xs.length ≤ 4096) :
    Calls Try.prog 12 #[.pointer (some ⟨g, 0, none⟩)] w (PzlD g A c xs w) := by
  have hgl := hd.lt
  obtain ⟨w0, hw0⟩ : ∃ w0, w.alloc (.cells #[.int .i64 0, .string ⟨#[]⟩, .slice none 0 0] 29) = w0 := ⟨_, rfl⟩
  have hb0 : Below w.heap.size w w0 := by rw [← hw0]; exact (by repeat (first | exact Below.refl _ _ | assumption | refine Below.setCell ?_ (by first | omega | (simp <;> omega)) _ | refine Below.alloc ?_ (by first | omega | (simp <;> omega)) _ | refine Below.drew ?_))
  have R0 : Hid (w0.heap[w.heap.size]? = some (.cells #[.int .i64 0, .string ⟨#[]⟩, .slice none 0 0] 29 (0, 0))) := by rw [← hw0]; exact heap_alloc_new _ _
  have HD := Lib.hid (hd.below hb0)
  have HBY := Lib.hid hd.bytes
  have HG0 : Hid (w.grownBy w0 (some g)) := gB hb0 (some g)
  have HW0 := Lib.hid hw0
  clear hd hw0
  go_enter Try.func12, Try.ntmps12
  go_wp2_with fail
  rw [HW0.out]
  refine (diceBelow g A c xs 3 w0 HD.out hl (by decide) (by decide)).mono ?_
  rintro e w1 ⟨x, rfl, x0, x1, hD1, hG1⟩
  obtain ⟨n, hn⟩ : ∃ n : Nat, 3 + x = (n : Int) := ⟨(3 + x).toNat, by omega⟩
  have hn3 : 3 ≤ n := by omega
  have hn5 : n ≤ 5 := by omega
  have HN := Lib.hid hn
  have hwr : IntKind.i64.wrap (3 + x) = (n : Int) := by rw [hn]; exact IntWalk.i64_in _ (by omega)
  have HD1 := Lib.hid hD1
  have HG1 := Lib.hid (HG0.out.trans hG1)
  have R1 := Lib.hid (rowR hG1 R0.out (fun e => by injection e with e; omega))
  clear hn hD1 hG1
  go_wp2_with fail
  refine (diceBelow g A c xs 3 w1 HD1.out hl (by decide) (by decide)).mono ?_
  rintro e w2 ⟨y, rfl, y0, y1, hD2, hG2⟩
  obtain ⟨j, hj⟩ : ∃ j : Nat, 1 + y = (j : Int) := ⟨(1 + y).toNat, by omega⟩
  have hj1 : 1 ≤ j := by omega
  have hj3 : j ≤ 3 := by omega
  have hwj : IntKind.i64.wrap (1 + y) = (j : Int) := by rw [hj]; exact IntWalk.i64_in _ (by omega)
  have hj30 : (0 : Int) ≤ (j : Int) := by omega
  have hj31 : (j : Int) ≤ 3 := by omega
  have HD2 := Lib.hid hD2
  have HG2 := Lib.hid (HG1.out.trans hG2)
  have R2 := Lib.hid (rowR hG2 R1.out (fun e => by injection e with e; omega))
  obtain ⟨nm, hnm⟩ : ∃ nm, (⟨#[65, 66, 67]⟩ : ByteArray).extract 0 j = nm := ⟨_, rfl⟩
  have hns : nm.size = j := by rw [← hnm, ByteArray.size_extract]; show min j 3 - 0 = j; omega
  have HNM := Lib.hid hnm
  clear hD2 hG2 hj hnm
  go_wp2_with fail
  rw [HNM.out]
  obtain ⟨w3, hw3⟩ : ∃ w3, w2.alloc (.cells #[.int .i64 (n : Int), .string nm, .slice none 0 0] 29) = w3 := ⟨_, rfl⟩
  rw [hw3]
  have hb3 : Below w2.heap.size w2 w3 := by rw [← hw3]; exact (by repeat (first | exact Below.refl _ _ | assumption | refine Below.setCell ?_ (by first | omega | (simp <;> omega)) _ | refine Below.alloc ?_ (by first | omega | (simp <;> omega)) _ | refine Below.drew ?_))
  have RX3 : Hid (w3.heap[w2.heap.size]? = some (.cells #[.int .i64 (n : Int), .string nm, .slice none 0 0] 29 (0, 0))) := by rw [← hw3]; exact heap_alloc_new _ _
  have R3 := Lib.hid (rowB hb3 R2.out)
  have HD3 := Lib.hid (HD2.out.below hb3)
  have HG3 := Lib.hid (HG2.out.trans (gB hb3 (some g)))
  have hwX : w.heap.size < w2.heap.size := row_lt R2.out
  obtain ⟨X, hX⟩ : ∃ X, w2.heap.size = X := ⟨_, rfl⟩
  rw [hX] at RX3 hwX ⊢
  clear hw3 hb3 hX HD2 HG2 R2 HD1 HG1 R1 HD HG0 R0 HW0 hwr hwj
  go_loopw [5] (fun i wr => ∃ (k : Nat) (Am : Option Addr) (cm : Nat) (ms : List (List Int)), k ≤ j ∧ i = .int .i64 (k : Int) ∧ Hid (ms.length = k) ∧ Hid (wr.heap[X]? = some (.cells #[.int .i64 (n : Int), .string nm, .slice Am k cm] 29 (0, 0))) ∧ Hid (wr.heap[w.heap.size]? = some (.cells #[.int .i64 0, .string ⟨#[]⟩, .slice none 0 0] 29 (0, 0))) ∧ Hid (GrAt w.heap.size (fun b => b < w.heap.size ∨ b = w.heap.size ∨ b = X) wr (.slice Am k cm) ms) ∧ Hid (∀ i, i < ms.length → IsMv n (ms.getD i [])) ∧ Hid (DiceAt wr g A c xs) ∧ Hid (w.grownBy wr (some g))) (fun i _ => j - (intOf i).toNat)
  case atStart => exact ⟨0, none, 0, [], Nat.zero_le _, rfl, rfl, RX3.out, R3.out, GrAt.nil _ _ _, (fun i hi => by simp at hi), HD3.out, HG3.out⟩
  case round =>
    obtain ⟨k, Am, cm, ms, hk, rfl, HML, HRX, HRR, HGA, HMV, HDR, HGR⟩ := hrel
    clear RX3 R3 HD3 HG3
    have hXr := row_lt HRX.out
    obtain ⟨t0, t1, t2, tf, tl⟩ := row3 HRX.out
    by_cases hlt : k < j
    · have q0 : (k : Int) < (nm.size : Int) := by rw [hns]; omega
      have hml : ms.length ≤ 1048576 := by rw [HML.out]; omega
      go_wp2_with fail
      go_region_law (first
        | (refine step_append_gr (by rfl) _ _ (by rfl) w.heap.size (fun b => b < w.heap.size ∨ b = w.heap.size ∨ b = X) (.slice Am k cm) ms (natI l4) A4 c4 (by rfl) (HG4.out.below ((Below.refl _ _).alloc (Nat.le_refl _) _)) (fun b hb => by simp; rcases hb with h | h | h <;> omega) w4.heap.size (by rfl) (by simp) hc4 (HI4.out.below ((Below.refl _ _).alloc (Nat.le_refl _) _)) (HYZ.out) hml (by simp; omega) ?_; intro A5 c5 w5 hG5 hg5 hat5; rw [HML.out] at hG5 ⊢; have hr5 := rowR hg5 (rowB ((Below.refl _ _).alloc (Nat.le_refl _) _) RX4.out) (fun e => (HG4.out.own _ e).2.2 (.inr (.inr rfl))); have hrr5 := rowR hg5 (rowB ((Below.refl _ _).alloc (Nat.le_refl _) _) RR4.out) (fun e => (HG4.out.own _ e).2.2 (.inr (.inl rfl))); obtain ⟨v0, v1, v2, vf, vl⟩ := row3 hr5)
        | (go_simp; go_at_call 44; refine (drawPerm g A c xs n _ (by exact HDR.out.below (by repeat (first | exact Below.refl _ _ | assumption | refine Below.setCell ?_ (by first | omega | (simp <;> omega)) _ | refine Below.alloc ?_ (by first | omega | (simp <;> omega)) _ | refine Below.drew ?_))) hl (by omega)).mono ?_; rintro e w4 ⟨v4, l4, rfl, hP4, hF4, hD4, hG4⟩; obtain ⟨A4, c4, hc4, rfl, hI4⟩ := hF4.capped; have hW4 : wr.grownBy w4 (some g) := (gB (by exact (by repeat (first | exact Below.refl _ _ | assumption | refine Below.setCell ?_ (by first | omega | (simp <;> omega)) _ | refine Below.alloc ?_ (by first | omega | (simp <;> omega)) _ | refine Below.drew ?_))) (some g)).trans hG4; have HG4 : Hid (GrAt w.heap.size (fun b => b < w.heap.size ∨ b = w.heap.size ∨ b = X) w4 (.slice Am k cm) ms) := HGA.out.kept hW4 (fun b e => by injection e with e; exact .inl (by omega)); have RX4 := Lib.hid (rowR hW4 HRX.out (fun e => by injection e with e; omega)); have RR4 := Lib.hid (rowR hW4 HRR.out (fun e => by injection e with e; omega)); obtain ⟨u0, u1, u2, uf, ul⟩ := row3 RX4.out; have hz4 := hW4.size; have HI4 := Lib.hid hI4; have HYZ : Hid (0 < (natI l4).length → ∀ g off s, A4 = some ⟨g, off, s⟩ → ¬ (g < w.heap.size ∨ g = w.heap.size ∨ g = X) ∧ (Value.slice Am k cm).ownBlock ≠ some g) := fun _ b off s e => by { have h1 : wr.heap.size ≤ b := (World.ownsRow.lt hF4 b (by rw [e]; rfl)).1; exact ⟨fun h => by omega, fun e2 => by have := (HGA.out.own b e2).2.1; omega⟩ }))
      all_goals
        have hgS := setGrown w5 X 2 (.slice A5 (k + 1) c5)
        have HX6 : Hid ((w5.setCell ⟨X, 2, none⟩ (.slice A5 (k + 1) c5)).heap[X]? = some (.cells #[.int .i64 (n : Int), .string nm, .slice A5 (k + 1) c5] 29 (0, 0))) := rowSet (p := 2) _ hr5
        have HR6 := Lib.hid (rowR hgS hrr5 (fun e => by injection e with e; omega))
        have HG6 := Lib.hid (GrAt.kept hG5 hgS (fun b e => by injection e with e; exact .inr (.inr e.symm)))
        have hB6 : Below w.heap.size w4 (w5.setCell ⟨X, 2, none⟩ (.slice A5 (k + 1) c5)) := (((Below.refl w.heap.size w4).alloc (by omega) _).grown hg5 (by simp; omega) (fun b e => (HG4.out.own b e).1)).setCell (by simp only; omega) _
        have HD6 := Lib.hid (DiceAt.past HBY.out hgl hD4 hB6)
        have HW6 := Lib.hid (grownPast (HGR.out.trans hW4) hB6)
        have HM6 := Lib.hid (mvSnoc HMV.out ⟨l4, hP4, rfl⟩)
        have HL6 : Hid ((ms ++ [natI l4]).length = k + 1) := by unfold Hid; rw [List.length_append, HML.out]; rfl
        clear hgS hr5 hrr5 hG5 hB6 hg5 hat5 hD4 hW4 hG4 hF4 hc4 u0 u1 u2 uf ul v0 v1 v2 vf vl t0 t1 t2 tf tl hP4
        go_wp2_with fail
        go_roundw
        case rel => exact ⟨k + 1, A5, c5, ms ++ [natI l4], by omega, by go_num, HL6.out, HX6.out, HR6.out, HG6.out, HM6.out, HD6.out, HW6.out⟩
        case measure => simp [intOf]; omega
    · obtain rfl : k = j := by omega
      have q1 : ¬ (k : Int) < (nm.size : Int) := by rw [hns]; omega
      obtain ⟨r0, r1, r2, rf, rl⟩ := row3 HRR.out
      have hne : X ≠ w.heap.size := by omega
      go_wp2_with fail
      obtain ⟨b0, b1, b2, -, -⟩ := row3 (row3S HRR.out (.int .i64 (n : Int)) (.string nm) (.slice Am k cm))
      refine bodyPost_ret (v := .agg #[.int .i64 (n : Int), .string nm, .slice Am k cm]) (by simp [results, Try.results12, go_sem, b0, b1, b2]) rfl ?_
      have hgS := ((setGrown wr w.heap.size 0 (.int .i64 (n : Int))).trans (setGrown _ w.heap.size 1 (.string nm))).trans (setGrown _ w.heap.size 2 (.slice Am k cm))
      have hB6 := (Below.refl w.heap.size wr).grown hgS (by omega) (fun b e => by injection e with e; omega)
      have hG6 := (GrAt.kept HGA.out hgS (fun b e => by injection e with e; exact .inr (.inl e.symm))).weak (zs' := fun b => b < w.heap.size) (Nat.le_refl _) (fun b hb => .inl hb)
      exact ⟨n, nm, Am, ms, cm, by rw [HML.out], hn3, hn5, by rw [HML.out, hns], by omega, by omega, by rw [hns]; exact HNM.out.symm, HMV.out, by rw [HML.out]; exact hG6, DiceAt.past HBY.out hgl HDR.out hB6, grownPast HGR.out hB6⟩
end
end
section
section
open Go.RowKit Grp

theorem mv_perm {n : Nat} {x : List Int} (h : IsMv n x) (h1 : 1 ≤ n) (h2 : n ≤ 20) : x.length = n ∧ PermL x := by
  obtain ⟨l, ⟨hl, hlt, hinj⟩, rfl⟩ := h
  have hn : (natI l).length = n := by rw [natI_len, hl]
  refine ⟨hn, by omega, by omega, fun j hj => ⟨by rw [natI_getD]; omega, ?_, fun j' hj' e => ?_⟩⟩
  · have := hlt j (by omega)
    rw [natI_getD, hn]
    omega
  · rw [natI_getD, natI_getD] at e
    have := hinj j' j (by omega) (by omega) (by omega)
    omega
theorem gs_drawn {n : Nat} {ms : List (List Int)} (h1 : 1 ≤ n) (h2 : n ≤ 20) (h8 : ms.length ≤ 8) (h : ∀ i, i < ms.length → IsMv n (ms.getD i [])) : gsQ (n : Int) ms = true := by
  rw [gsQ_any (inR_iff.2 ⟨by omega, by omega⟩) h8, Bool.not_eq_true', List.any_eq_false]
  intro x hx
  obtain ⟨i, hi, rfl⟩ := List.getElem_of_mem hx
  have hm := h i hi
  rw [List.getD_eq_getElem?_getD, List.getElem?_eq_getElem hi] at hm
  obtain ⟨e, hp⟩ := mv_perm hm h1 h2
  rw [badL_perm (by exact congrArg Int.ofNat e), Bool.not_eq_true']
  intro e2
  have e3 := permQ_yes hp
  rw [Option.getD_some, e2] at e3
  cases e3
theorem nm_drawn {j : Nat} (h1 : 1 ≤ j) (h3 : j ≤ 3) : NmTo ((⟨#[65, 66, 67]⟩ : ByteArray).extract 0 j) j := by
  have h : j = 1 ∨ j = 2 ∨ j = 3 := by omega
  rcases h with rfl | rfl | rfl <;> (unfold NmTo NmAt bt; decide)
theorem pz_drawn {n : Nat} {nm : ByteArray} {ms : List (List Int)} (hn : 3 ≤ n) (hn5 : n ≤ 5) (hl : ms.length = nm.size) (h1 : 1 ≤ nm.size) (h3 : nm.size ≤ 3) (hnm : nm = (⟨#[65, 66, 67]⟩ : ByteArray).extract 0 nm.size) (h : ∀ i, i < ms.length → IsMv n (ms.getD i [])) : pzQ ⟨(n : Int), nm, ms⟩ = true := by
  have hto : NmTo nm nm.size := by
    have := nm_drawn h1 h3
    rwa [← hnm] at this
  unfold pzQ
  dsimp only
  rw [gs_drawn (by omega) (by omega) (by omega) h, nmTo_yes hto, decide_eq_true (by omega : nm.size = ms.length), decide_eq_true (by omega : 1 ≤ ms.length)]
  rfl
theorem trk_drawn {n : Nat} {l : List Int} (hn : 3 ≤ n) (h : IsTrk l) : ptQ (n : Int) l = true := by
  refine ptQ_yes ?_
  rcases h with ⟨x, rfl, h0, h1⟩ | ⟨x, rfl, h0, h1⟩
  · refine ⟨by simp, fun j hj => ?_⟩
    obtain rfl : j = 0 := by simp at hj; omega
    simp
    omega
  · refine ⟨by simp, fun j hj => ?_⟩
    have hj2 : j = 0 ∨ j = 1 := by simp at hj; omega
    rcases hj2 with rfl | rfl
    · simp
      omega
    · simp
      omega
end
section
open Go.RowKit Grp

theorem nodup_lt : ∀ (m : Nat) (l : List Nat), l.Nodup → (∀ x, x ∈ l → x < m) → l.length ≤ m
  | 0, l, _, h => by
    cases l with
    | nil => simp
    | cons a l => exact absurd (h a (by simp)) (by omega)
  | m + 1, l, hn, h => by
    have h1 := nodup_lt m (l.erase m) (hn.erase m) (fun x hx => by
      have h2 := h x (List.mem_of_mem_erase hx)
      have h3 : x ≠ m := fun e => by subst e; exact hn.not_mem_erase hx
      omega)
    rw [List.length_erase] at h1
    split at h1 <;> omega
/-- A pattern of one or two points below 5, as a number. -/
def codeP (x : List Int) : Nat := (x.getD 0 0).toNat * 5 + (x.getD 1 0).toNat
theorem code_inj {L : Nat} {x y : List Int} (hL : L = 1 ∨ L = 2) (hx : PtsOk 5 L x) (hy : PtsOk 5 L y) (e : codeP x = codeP y) : x = y := by
  obtain ⟨x1, x2⟩ := hx
  obtain ⟨y1, y2⟩ := hy
  unfold codeP at e
  refine List.ext_getElem (by rw [x1, y1]) fun i h1 h2 => ?_
  have hxi : x[i] = x.getD i 0 := by rw [List.getD_eq_getElem?_getD, List.getElem?_eq_getElem h1]; rfl
  have hyi : y[i] = y.getD i 0 := by rw [List.getD_eq_getElem?_getD, List.getElem?_eq_getElem h2]; rfl
  rw [hxi, hyi]
  have a0 := x2 0 (by omega)
  have b0 := y2 0 (by omega)
  rcases hL with rfl | rfl
  · obtain rfl : i = 0 := by omega
    have ex : x.getD 1 0 = 0 := by rw [List.getD_eq_getElem?_getD, List.getElem?_eq_none (by omega)]; rfl
    have ey : y.getD 1 0 = 0 := by rw [List.getD_eq_getElem?_getD, List.getElem?_eq_none (by omega)]; rfl
    rw [ex, ey] at e
    omega
  · have a1 := x2 1 (by omega)
    have b1 := y2 1 (by omega)
    have hi : i = 0 ∨ i = 1 := by omega
    rcases hi with rfl | rfl <;> omega
theorem few_pats {L : Nat} {ls : List (List Int)} (hL : L = 1 ∨ L = 2) (hn : ls.Nodup) (h : ∀ x, x ∈ ls → PtsOk 5 L x) : ls.length ≤ 25 := by
  have h1 : (ls.map codeP).Nodup := by
    unfold List.Nodup
    rw [List.pairwise_map]
    exact List.Pairwise.imp_of_mem (fun ha hb hne e => hne (code_inj hL (h _ ha) (h _ hb) e)) hn
  have h2 := nodup_lt 25 (ls.map codeP) h1 (fun c hc => by
    obtain ⟨x, hx, rfl⟩ := List.mem_map.1 hc
    obtain ⟨x1, x2⟩ := h x hx
    have a0 := x2 0 (by omega)
    unfold codeP
    rcases hL with rfl | rfl
    · have ex : x.getD 1 0 = 0 := by rw [List.getD_eq_getElem?_getD, List.getElem?_eq_none (by omega)]; rfl
      rw [ex]
      omega
    · have a1 := x2 1 (by omega)
      omega)
  simpa using h2
theorem PtsOk.up {n L : Nat} {x : List Int} (h : PtsOk n L x) (hn : n ≤ 5) : PtsOk 5 L x := ⟨h.1, fun j hj => by have := h.2 j hj; omega⟩
/-- What the search has found, as long as the points are few. -/
def Small (n L : Nat) (s : Bs) : Prop := s.ls.Nodup ∧ ∀ x, x ∈ s.ls → PtsOk n L x
theorem Small.few {n L : Nat} {s : Bs} (h : Small n L s) (hn : n ≤ 5) (hL : L = 1 ∨ L = 2) : s.ls.length ≤ 25 := few_pats hL h.1 (fun x hx => (h.2 x hx).up hn)
theorem Small.add {n L : Nat} {s : Bs} (h : Small n L s) (hn : n ≤ 5) (hL : L = 1 ∨ L = 2) {x : List Int} (hx : PtsOk n L x) (d : Int) : ∃ s', addB s x d = some s' ∧ Small n L s' ∧ s.ls.length ≤ s'.ls.length := by
  unfold addB
  have hf := h.few hn hL
  by_cases hi : inL s.ls x = true
  · rw [if_pos hi]
    exact ⟨s, rfl, h, Nat.le_refl _⟩
  · rw [if_neg hi, if_neg (by omega)]
    refine ⟨_, rfl, ⟨?_, fun y hy => ?_⟩, by simp⟩
    · dsimp only
      rw [List.nodup_append]
      refine ⟨h.1, by simp, fun a ha b hb e => ?_⟩
      rw [List.mem_singleton] at hb
      subst hb e
      exact hi (inL_iff.2 ha)
    · dsimp only at hy
      rw [List.mem_append, List.mem_singleton] at hy
      rcases hy with hy | rfl
      · exact h.2 y hy
      · exact hx
theorem Small.inn {n L k : Nat} (hn : n ≤ 5) (hL : L = 1 ∨ L = 2) : ∀ (mvs : List (List Int)) (s : Bs), (∀ m, m ∈ mvs → PtsOk n n m) → Small n L s → k < s.ls.length → ∃ s', innB k mvs s = some s' ∧ Small n L s'
  | [], s, _, h, _ => ⟨s, rfl, h⟩
  | m :: r, s, hm, h, hk => by
    have hp : PtsOk n L (s.ls.getD k []) := by
      rw [List.getD_eq_getElem?_getD, List.getElem?_eq_getElem hk]
      exact h.2 _ (List.getElem_mem hk)
    obtain ⟨s1, e1, h1, hl⟩ := h.add hn hL (PtsOk.pick (hm m (by simp)) hp) (depOf k s)
    have := Small.inn (k := k) hn hL r s1 (fun m' h' => hm m' (by simp [h'])) h1 (by omega)
    unfold innB nextOf
    rw [e1]
    exact this
theorem Small.bfs {n L : Nat} (hn : n ≤ 5) (hL : L = 1 ∨ L = 2) (mvs : List (List Int)) (hm : ∀ m, m ∈ mvs → PtsOk n n m) : ∀ (f k : Nat) (s : Bs), Small n L s → (bfsB mvs f k s).isSome = true
  | 0, k, s, _ => rfl
  | f + 1, k, s, h => by
    unfold bfsB
    by_cases hk : k < s.ls.length
    · obtain ⟨s1, e1, h1⟩ := Small.inn hn hL mvs s hm h hk
      rw [if_pos hk, e1]
      exact Small.bfs hn hL mvs hm f (k + 1) s1 h1
    · rw [if_neg hk]
      rfl
theorem search_drawn {n : Nat} {ms : List (List Int)} {l : List Int} (hn3 : 3 ≤ n) (hn : n ≤ 5) (h : ∀ i, i < ms.length → IsMv n (ms.getD i [])) (hl : IsTrk l) : (searchB (mvsOf ms) l).isSome = true := by
  have hL : l.length = 1 ∨ l.length = 2 := by
    rcases hl with ⟨x, rfl, -⟩ | ⟨x, rfl, -⟩
    · exact .inl rfl
    · exact .inr rfl
  have hM : MvsOk n ms := fun i hi => by
    obtain ⟨q, hq, e⟩ := h i hi
    exact ⟨q, hq, e⟩
  have hpt := ptQ_iff.1 (trk_drawn hn3 hl)
  refine Small.bfs hn hL _ (fun m hm => ?_) _ _ _ ⟨by simp, fun x hx => ?_⟩
  · obtain ⟨i, hi, rfl⟩ := List.getElem_of_mem hm
    have := hM.all i hi
    rwa [List.getD_eq_getElem?_getD, List.getElem?_eq_getElem hi] at this
  · rw [List.mem_singleton] at hx
    subst hx
    exact ⟨rfl, fun j hj => by have := hpt.2 j hj; omega⟩
theorem build_drawn {n : Nat} {nm : ByteArray} {ms : List (List Int)} {l : List Int} (hn : 3 ≤ n) (hn5 : n ≤ 5) (hlm : ms.length = nm.size) (h1 : 1 ≤ nm.size) (h3 : nm.size ≤ 3) (hnm : nm = (⟨#[65, 66, 67]⟩ : ByteArray).extract 0 nm.size) (h : ∀ i, i < ms.length → IsMv n (ms.getD i [])) (hl : IsTrk l) : buildQ ⟨(n : Int), nm, ms⟩ l = true := by
  unfold buildQ trkQ
  dsimp only
  rw [pz_drawn hn hn5 hlm h1 h3 hnm h, trk_drawn hn hl, search_drawn hn hn5 h hl]
  rfl
end
section
open Go.RowKit Grp

theorem drawn_pts {p : Pz} {trk : List Int} (h : buildQ p trk = true) : ∃ N : Nat, p.pts = (N : Int) ∧ ∀ i, chOk (mvsOf p.moves) trk i → BsOk N trk.length (chF (mvsOf p.moves) trk i).1 := by
  have ht : trkQ p trk = true := by
    unfold buildQ at h
    rw [Bool.and_eq_true] at h
    exact h.1
  obtain ⟨N, h1, h2, h3, h4, h5, h6⟩ := trk_parts ht
  have hs : (searchB (mvsOf p.moves) trk).isSome = true := by
    unfold buildQ at h
    rw [Bool.and_eq_true] at h
    exact h.2
  obtain ⟨r, hr⟩ := Option.isSome_iff_exists.1 hs
  exact ⟨N, h1, fun i hi => (ch_bfs h3.all h5 hr i hi).1⟩
theorem ch_few {n : Nat} {nm : ByteArray} {ms : List (List Int)} {trk : List Int} (hn : n ≤ 5) (hb : buildQ ⟨(n : Int), nm, ms⟩ trk = true) (ht : IsTrk trk) {i : Nat} (hi : chOk (mvsOf ms) trk i) : (chF (mvsOf ms) trk i).1.ls.length ≤ 25 := by
  have hL : trk.length = 1 ∨ trk.length = 2 := by
    rcases ht with ⟨x, rfl, -⟩ | ⟨x, rfl, -⟩
    · exact .inl rfl
    · exact .inr rfl
  obtain ⟨N, h1, h2⟩ := drawn_pts hb
  dsimp only at h1
  obtain rfl : n = N := by omega
  have hB := h2 i hi
  refine few_pats hL (ch_nodup i) (fun x hx => ?_)
  obtain ⟨j, hj, rfl⟩ := List.getElem_of_mem hx
  have := hB.rows j hj
  rw [List.getD_eq_getElem?_getD, List.getElem?_eq_getElem hj] at this
  exact PtsOk.up this hn
theorem added_rows {N L : Nat} {mvs : List (List Int)} {s : Bs} {k : Nat} (h : BsOk N L (nextB mvs s k)) : RowsOk N L (addedB mvs s.ls k) := by
  intro j hj
  have := h.rows (s.ls.length + j) (by unfold nextB; simp only [List.length_append]; omega)
  unfold nextB at this
  dsimp only at this
  rw [List.getD_eq_getElem?_getD, List.getElem?_append_right (by omega), Nat.add_sub_cancel_left, ← List.getD_eq_getElem?_getD] at this
  exact this
/-- How long the log is. -/
theorem ch_log {p : Pz} {trk : List Int} (h : buildQ p trk = true) : ∀ i, chOk (mvsOf p.moves) trk i → (chF (mvsOf p.moves) trk i).2.size + trk.length = 7 * i + (chF (mvsOf p.moves) trk i).1.ls.length * trk.length := by
  obtain ⟨N, h1, h2⟩ := drawn_pts h
  intro i
  induction i with
  | zero =>
    intro _
    have hz : (⟨#[]⟩ : ByteArray).size = 0 := rfl
    simp only [chF, hz, List.length_singleton]
    omega
  | succ i ih =>
    intro hi
    have h3 := ih (hi.less (by omega))
    have h4 := added_rows (h2 (i + 1) hi)
    have h5 := full_size i h4
    simp only [chF, nextB, ByteArray.size_append, List.length_append, h5, Nat.add_mul]
    omega
/-- A drawn puzzle's fill job always goes on, until all is found. -/
theorem can_drawn {n : Nat} {nm : ByteArray} {ms : List (List Int)} {trk : List Int} (hn : n ≤ 5) (hb : buildQ ⟨(n : Int), nm, ms⟩ trk = true) (ht : IsTrk trk) {i : Nat} (hi : chOk (mvsOf ms) trk i) : canF (mvsOf ms) trk i ↔ i < (chF (mvsOf ms) trk i).1.ls.length := by
  refine ⟨fun h => h.1, fun h => ⟨h, ?_⟩⟩
  have h1 := ch_next hi h
  have h2 := ch_few hn hb ht h1
  have h3 := ch_log hb (i + 1) h1
  have h4 := ch_few hn hb ht hi
  dsimp only at h3
  have hL : trk.length ≤ 2 := by
    rcases ht with ⟨x, rfl, -⟩ | ⟨x, rfl, -⟩
    · simp
    · simp
  have h5 : (chF (mvsOf ms) trk (i + 1)).1.ls.length * trk.length ≤ 25 * 2 := Nat.mul_le_mul h2 hL
  omega
end
end
end Go.Proofs.Ytfhdnanbhigpmaa
