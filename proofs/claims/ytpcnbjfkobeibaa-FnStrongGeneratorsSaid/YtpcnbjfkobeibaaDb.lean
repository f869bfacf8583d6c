/- Permutations drawn from a source. Conditions: as each contract says. Lists of permutations drawn from a source. Conditions: as each contract says. Permutations, valid or not, and lists of generators drawn from a source. Conditions: as each contract says. -/
import Derived.Test.YtpcnbjfkobeibaaDr
import Derived.Test.YtpcnbjfkobeibaaBld
import Derived.Test.YtpcnbjfkobeibaaCh
import Derived.Deep.AppendLies
import Derived.Deep.RegionLaw
import Derived.Test.YtpcnbjfkobeibaaIm
import Derived.Test.YtpcnbjfkobeibaaFr
import Derived.Deep.CutRange
import Derived.Deep.CutBlock
namespace Go.Proofs.Ytpcnbjfkobeibaa
section
open Go.RowKit Grp

theorem wp_append_one {w : World} {o : Oper} {a : Act} {K : Act → World → Prop} {Q : Exit → Act → World → Prop} (s x : Operand)
    (hop : o.op = Op.call { callee := Callee.builtin Builtin.append, args := #[s, x], argTypes := #[23, 23] })
    (B : Nat) (v : Value) (xs : List Int) (n : Int) (hs : a.eval s = v) (hown : Fresh B w v xs) (g : Nat) (hx : a.eval x = .slice (some ⟨g, 0, none⟩) 1 1)
    (hcell : w.cell? ⟨g, 0, none⟩ = some (.int .i64 n)) (hl : xs.length ≤ 1048576) (hB : B ≤ w.heap.size)
    (h : ∀ v' w', Fresh B w' v' (xs ++ [n]) → w.grownBy w' v.ownBlock → Below B w w' → K (a.put o.dst v') w') : o.wp Try.prog a w K Q := by
  obtain ⟨i0, hi, hz0, hz1, hz2⟩ := info_parts intInfo
  refine wp_append_own _ s x 23 hop B 2 i0 (.int .i64 0) 1 8 Try.underlying23 hi hz0 hz1 hz2 rfl (by decide) v xs.length (xs.map (Value.int .i64)) hs hown ⟨g, 0, none⟩ 1 1 [.int .i64 n] hx rfl ?_ ?_ ?_ ?_ hB ?_
  · intro j u hj
    match j, hj with
    | 0, hj => simp at hj; subst hj; simpa [Addr.add] using hcell
  · intro u hu; simp at hu; subst hu; rfl
  · unfold maxLen; omega
  · omega
  · intro v' w' hown' hgrow _
    refine h v' w' ?_ hgrow ((Below.refl _ _).grown hgrow hB hown.block)
    simpa [Fresh] using hown'
theorem step_append_one {w : World} {ops : Array Oper} {o : Oper} {a : Act} {K : Act → World → Prop} {Q : Exit → Act → World → Prop} {E : Prop} (hgd : o.guard = none) (s x : Operand)
    (hop : o.op = Op.call { callee := Callee.builtin Builtin.append, args := #[s, x], argTypes := #[23, 23] })
    (B : Nat) (v : Value) (xs : List Int) (n : Int) (hs : a.eval s = v) (hown : Fresh B w v xs) (g : Nat) (hx : a.eval x = .slice (some ⟨g, 0, none⟩) 1 1)
    (hcell : w.cell? ⟨g, 0, none⟩ = some (.int .i64 n)) (hl : xs.length ≤ 1048576) (hB : B ≤ w.heap.size)
    (h : ∀ v' w', Fresh B w' v' (xs ++ [n]) → w.grownBy w' v.ownBlock → Below B w w' → K (a.put o.dst v') w') :
    if Region.wanted o (yielded ops a.tmps) = true then Oper.wp Try.prog o a w K Q else E := by
  have hw : Region.wanted o (yielded ops a.tmps) = true := by simp [Region.wanted, hgd]
  rw [if_pos hw]
  exact wp_append_one s x hop B v xs n hs hown g hx hcell hl hB h
set_option maxRecDepth 100000 in
theorem step_append_ints {w : World} {ops : Array Oper} {o : Oper} {a : Act} {K : Act → World → Prop} {Q : Exit → Act → World → Prop} {E : Prop} (hgd : o.guard = none) (s x : Operand)
    (hop : o.op = Op.call { callee := Callee.builtin Builtin.append, args := #[s, x], argTypes := #[23, 23] })
    (B : Nat) (v : Value) (xs ys : List Int) (hs : a.eval s = v) (hown : Fresh B w v xs) (ad : Addr) (m c : Nat) (hm : ys.length = m) (hx : a.eval x = .slice (some ad) m c)
    (hy : IntsAt w (some ad) ys) (hl : xs.length + m ≤ 1048576) (hB : B ≤ w.heap.size)
    (h : ∀ v' w', Fresh B w' v' (xs ++ ys) → w.grownBy w' v.ownBlock → Below B w w' → K (a.put o.dst v') w') :
    if Region.wanted o (yielded ops a.tmps) = true then Oper.wp Try.prog o a w K Q else E := by
  have hw : Region.wanted o (yielded ops a.tmps) = true := by simp [Region.wanted, hgd]
  rw [if_pos hw]
  obtain ⟨i0, hi, hz0, hz1, hz2⟩ := info_parts intInfo
  subst hm
  refine wp_append_own _ s x 23 hop B 2 i0 (.int .i64 0) 1 8 Try.underlying23 hi hz0 hz1 hz2 rfl (by decide) v xs.length (xs.map (Value.int .i64)) hs hown ad ys.length c (ys.map (Value.int .i64)) hx (by simp) ?_ ?_ ?_ ?_ hB ?_
  · intro j u hj
    have hjl : j < ys.length := by simpa using (List.getElem?_eq_some_iff.1 hj).1
    obtain ⟨b, off, e, _, hc⟩ := hy j hjl
    injection e with e
    subst e
    rw [Addr.add_lit, hc]
    rw [List.getElem?_map, List.getElem?_eq_getElem hjl] at hj
    rw [getD_at _ _ hjl]
    exact hj
  · exact ints_oneCell _ _
  · unfold maxLen; omega
  · omega
  · intro v' w' hown' hgrow _
    refine h v' w' ?_ hgrow ((Below.refl _ _).grown hgrow hB hown.block)
    simpa [Fresh] using hown'
/-- A list of n numbers of the call's own, drawn. -/
def DrawnL (n : Nat) (g : Nat) (A : Option Addr) (c : Nat) (xs : List Int) (w : World) (e : Ending) (w' : World) : Prop :=
  ∃ v ys, e = .returned v ∧ Fresh w.heap.size w' v ys ∧ ys.length = n ∧ SrcAt w' g A c xs ∧ w.grownBy w' (some g)
theorem Fresh.addr {B : Nat} {w : World} {v : Value} {ys : List Int} (h : Fresh B w v ys) (hn : 0 < ys.length) : ∃ g c, v = .slice (some ⟨g, 0, none⟩) ys.length c ∧ ys.length ≤ c ∧ IntsAt w (some ⟨g, 0, none⟩) ys ∧ B ≤ g ∧ g < w.heap.size := by
  obtain ⟨A, c, hc, hv, _⟩ := h.capped
  obtain ⟨A', c', hv', hi, hA⟩ := h.ints
  rw [hv] at hv'
  simp only [Value.slice.injEq] at hv'
  obtain ⟨rfl, _, rfl⟩ := hv'
  rcases hA with rfl | ⟨g, rfl, hg, hlt⟩
  · obtain ⟨b, off, e, _⟩ := hi 0 hn
    cases e
  · exact ⟨g, c, hv, hc, hi, hg, hlt⟩
theorem grownAfter {w w1 w2 : World} {row : Option Nat} (h : w.grownBy w1 row) (hb : Below w1.heap.size w1 w2) : w.grownBy w2 row :=
  ⟨hb.os.trans h.os, hb.tape.trans h.tape, hb.output.trans h.output, Nat.le_trans h.size hb.size, fun k hk hne => (hb.block k (Nat.lt_of_lt_of_le hk h.size)).trans (h.block k hk hne)⟩
theorem allocCell (w : World) (x : Int) (T : TypeId) : (w.alloc (.cells #[.int .i64 x] T)).cell? ⟨w.heap.size, 0, none⟩ = some (.int .i64 x) := by simp
set_option maxRecDepth 100000 in
set_option maxHeartbeats 8000000 in
theorem srcPerm (g : Nat) (A : Option Addr) (c : Nat) (xs : List Int) (n : Nat) (w : World) (hd : SrcAt w g A c xs) (hl : xs.length ≤ 4096) (hn : n ≤ 21) :
    Calls Try.prog 148 #[.pointer (some ⟨g, 0, none⟩), .int .i64 (n : Int)] w (DrawnL n g A c xs w) := by
  have hlow := Lib.hid hd.low
  have hgw := hd.lt
  have hE : Fresh w.heap.size (w.alloc (.cells #[] 2)) (.slice (some ⟨w.heap.size, 0, none⟩) 0 0) [] := Fresh.empty (Nat.le_refl _)
  have hg0 : w.grownBy (w.alloc (.cells #[] 2)) (some g) := World.grownBy_alloc _ _ _
  have hd0 : SrcAt (w.alloc (.cells #[] 2)) g A c xs := hd.below (by repeat (first | exact Below.refl _ _ | assumption | refine Below.setCell ?_ (by first | omega | (simp <;> omega)) _ | refine Below.alloc ?_ (by first | omega | (simp <;> omega)) _ | refine Below.drew ?_))
  clear hd
  go_enter Try.func148, Try.ntmps148
  go_wp2_with fail
  go_loopw [5, 6] (fun v i wr => ∃ (ys : List Int) (k gp cp : Nat), i = .int .i64 (k : Int) ∧ k ≤ n ∧ v = .slice (some ⟨gp, 0, none⟩) k cp ∧ k ≤ cp ∧ Hid (ys.length = k) ∧ Hid (Fresh w.heap.size wr v ys) ∧ Hid (IntsAt wr (some ⟨gp, 0, none⟩) ys) ∧ Hid (SrcAt wr g A c xs) ∧ Hid (w.grownBy wr (some g)) ∧ w.heap.size ≤ gp ∧ gp < wr.heap.size) (fun _ i _ => n - (intOf i).toNat)
  case atStart => exact ⟨[], 0, w.heap.size, 0, rfl, Nat.zero_le _, rfl, Nat.le_refl _, rfl, hE, IntsAt.nil _ _, hd0, hg0, Nat.le_refl _, by simp⟩
  case round =>
    obtain ⟨ys, k, gp, cp, rfl, hk, rfl, hkc, HYL, HF, HI, HD, HG, hgp, hgpl⟩ := hrel
    clear hE hd0 hg0
    by_cases hlt : k < n
    · have p1 : (k : Int) < (n : Int) := by omega
      have w0 : IntKind.i64.wrap ((k : Int) + 1) = (k : Int) + 1 := IntWalk.i64_in _ (by omega)
      go_wp2_with fail
      refine (srcBelow g A c xs ((k : Int) + 1) _ HD.out hl (by omega) (by omega)).mono ?_
      rintro e w2 ⟨x, rfl, x0, x1, hD2, hg2⟩
      obtain ⟨m, rfl⟩ := Int.eq_ofNat_of_zero_le x0
      have hmk : m ≤ k := by omega
      have hG2 := grownTrans HG.out hg2
      have HI2 : Hid (IntsAt w2 (some ⟨gp, 0, none⟩) ys) := fun j hj => by
        obtain ⟨b, off, e, hb, hc⟩ := HI.out j hj
        injection e with e
        injection e with e1 e2
        subst e1 e2
        exact ⟨gp, 0, rfl, Nat.lt_of_lt_of_le hb hg2.size, (World.cell?_of_block (a := ⟨gp, 0 + j, none⟩) (hg2.block gp hb (fun e => by injection e with e; omega))).trans hc⟩
      have HTK : Hid ((ys.take m).length = m) := by unfold Hid; rw [List.length_take, HYL.out]; omega
      have HTD : Hid ((ys.drop m).length = k - m) := by unfold Hid; rw [List.length_drop, HYL.out]
      have HTE : Hid (k ≤ m → (ys.drop m).length = 0) := fun h => by rw [HTD.out]; omega
      have HCP : Hid (∀ wx : World, Below w2.heap.size w2 wx → Calls Try.prog 129 #[.slice (some ⟨gp, 0, none⟩) m cp] wx fun e w' => ∃ v, e = .returned v ∧ Fresh wx.heap.size w' v (ys.take m) ∧ Below wx.heap.size wx w') := fun wx hb => specCopy (some ⟨gp, 0, none⟩) cp m (ys.take m) wx ((HI2.out.take m).below hb) HTK.out (by omega)
      have hzw2 : w.heap.size ≤ w2.heap.size := hG2.size
      have HD2 := Lib.hid hD2
      have HG2 := Lib.hid hG2
      have q0 : (0 : Int) ≤ (m : Int) := by omega
      have q1 : (m : Int) ≤ (k : Int) := by omega
      have q2 : (m : Int) ≤ (cp : Int) := by omega
      have q3 : m ≤ cp := by omega
      have q4 : ¬ k < m := by omega
      clear HF HD HG HI hD2 hG2 hg2 x1
      rcases Nat.eq_or_lt_of_le q3 with rfl | hjlt
      all_goals
        try (have hne : ¬ cp = m := by omega)
        try (have hnf : (cp == m) = false := by simp; omega)
        go_wp2_with fail
        go_region_law (first
          | (refine step_append_one (by rfl) (.tmp 21) (.tmp 23) (by rfl) w2.heap.size _ (ys.take m) (k : Int) (by rfl) (by exact HF3.out.below (by exact (by repeat (first | exact Below.refl _ _ | assumption | refine Below.setCell ?_ (by first | omega | (simp <;> omega)) _ | refine Below.alloc ?_ (by first | omega | (simp <;> omega)) _ | refine Below.drew ?_)))) _ (by rfl) (by first | exact hc3 | simp) (by rw [HTK.out]; omega) (by have := hB3.size; simp; omega) ?_; intro v4 w4 hF4 hg4 hb4
              ; have hB4 : Below w2.heap.size w2 w4 := (by first | exact hB3.trans hb4 | exact (hB3.alloc hB3.size _).trans hb4); have HF4 := Lib.hid hF4; clear hF4)
          | (refine step_append_ints (by rfl) (.tmp 24) (.tmp 27) (by rfl) w2.heap.size _ (ys.take m ++ [(k : Int)]) (ys.drop m) (by rfl) (by exact HF4.out) ⟨gp, m, none⟩ (k - m) (cp - m) (by exact HTD.out) (by rfl) (by exact dropAt (HI2.out.below hB4) m) (by have h1 := HTK.out; simp only [List.length_append, List.length_cons, List.length_nil]; omega) (by exact hB4.size) ?_; intro v5 w5 hF5 hg5 hb5
              ; have hB5 := hB4.trans hb5; have HF5 := Lib.hid hF5; clear hF5)
          | (refine step_append_ints (by rfl) (.tmp 24) (.tmp 27) (by rfl) w2.heap.size _ (ys.take m ++ [(k : Int)]) (ys.drop m) (by rfl) (by exact HF4.out) ⟨gp, 0, none⟩ 0 0 (by exact HTE.out hkc) (by rfl) (by exact cut0 _ (by rw [HYL.out]; exact hkc)) (by have h1 := HTK.out; simp only [List.length_append, List.length_cons, List.length_nil]; omega) (by exact hB4.size) ?_; intro v5 w5 hF5 hg5 hb5
              ; have hB5 := hB4.trans hb5; have HF5 := Lib.hid hF5; clear hF5)
          | (go_simp; go_at_call 129; refine (HCP.out _ (by exact (by repeat (first | exact Below.refl _ _ | assumption | refine Below.setCell ?_ (by first | omega | (simp <;> omega)) _ | refine Below.alloc ?_ (by first | omega | (simp <;> omega)) _ | refine Below.drew ?_)))).mono ?_; rintro e w3 ⟨v3, rfl, hF3, hb3⟩
              ; have hB3 : Below w2.heap.size w2 w3 := belowStep hb3 (by exact (by repeat (first | exact Below.refl _ _ | assumption | refine Below.setCell ?_ (by first | omega | (simp <;> omega)) _ | refine Below.alloc ?_ (by first | omega | (simp <;> omega)) _ | refine Below.drew ?_)))
              ; have hc3 : w3.cell? ⟨w2.heap.size, 0, none⟩ = some (.int .i64 (k : Int)) := (by exact (hb3.cell (p := ⟨w2.heap.size, 0, none⟩) (by simp)).trans (allocCell _ _ _))
              ; have HF3 : Hid (Fresh w2.heap.size w3 v3 (ys.take m)) := hF3.mono (by simp); clear hF3)
          | (go_simp; go_at_call 129; refine (HCP.out _ (by exact (by repeat (first | exact Below.refl _ _ | assumption | refine Below.setCell ?_ (by first | omega | (simp <;> omega)) _ | refine Below.alloc ?_ (by first | omega | (simp <;> omega)) _ | refine Below.drew ?_)))).mono ?_; rintro e w3 ⟨v3, rfl, hF3, hb3⟩
              ; have hB3 : Below w2.heap.size w2 w3 := belowStep hb3 (by exact (by repeat (first | exact Below.refl _ _ | assumption | refine Below.setCell ?_ (by first | omega | (simp <;> omega)) _ | refine Below.alloc ?_ (by first | omega | (simp <;> omega)) _ | refine Below.drew ?_)))
              ; have HF3 : Hid (Fresh w2.heap.size w3 v3 (ys.take m)) := hF3.mono (by simp); clear hF3))
        all_goals
          go_wp2_with fail
          have hlen : (ys.take m ++ [(k : Int)] ++ ys.drop m).length = k + 1 := by
            have h1 := HTK.out
            have h2 := HTD.out
            simp only [List.length_append, List.length_cons, List.length_nil]
            omega
          clear hg4 hg5
          obtain ⟨zs, hzs⟩ : ∃ zs, ys.take m ++ [(k : Int)] ++ ys.drop m = zs := ⟨_, rfl⟩
          rw [hzs] at HF5 hlen
          obtain ⟨g5, c5, rfl, hc5, hI5, hl5, hu5⟩ := HF5.out.addr (by omega)
          go_roundw
          case rel => exact ⟨zs, k + 1, g5, c5, by go_num, by omega, by rw [hlen], by omega, hlen, HF5.out.mono hzw2, hI5, HD2.out.below hB5, grownAfter HG2.out hB5, by omega, hu5⟩
          case measure => simp [intOf]; omega
    · obtain rfl : k = n := by omega
      go_wp2_with fail
      go_ret
      exact ⟨_, ys, rfl, HF.out, HYL.out, HD.out, HG.out⟩
end
section
open Go.RowKit Grp

/-- Blocks of numbers from B on stay as they are. -/
def KeepB (B : Nat) (w w' : World) : Prop := KeepI (fun b => B ≤ b) w w'
theorem KeepB.below {B : Nat} {w w' : World} (h : Below w.heap.size w w') : KeepB B w w' := KeepI.below h
theorem KeepB.src {B g : Nat} {w w' : World} (h : w.grownBy w' (some g)) (hg : g < B) : KeepB B w w' := KeepI.grownQ h (by omega)
theorem Fresh.keepB {B : Nat} {w w' : World} {u : Value} {ys : List Int} (h : Fresh B w u ys) (hk : KeepB B w w') : Fresh B w' u ys := by
  refine ⟨h.1, ?_⟩
  rcases h.2 with hn | ⟨g, cap, cur, rfl, hb, hgg, rest⟩
  · exact .inl hn
  · exact .inr ⟨g, cap, cur, rfl, hb, hk.2 g cur hb hgg, rest⟩
/-- A list of numbers in a block of the call's own; at the start of its block if it has N members. -/
def RowOk (B : Nat) (N : Int) (w : World) (u : Value) (ys : List Int) : Prop :=
  (∃ A c, u = .slice A ys.length c ∧ ys.length ≤ c ∧ IntsAt w A ys ∧ ∀ b off s, A = some ⟨b, off, s⟩ → B ≤ b ∧ ∃ cs, w.heap[b]? = some (.cells cs 2 (0, 0))) ∧ ((ys.length : Int) = N → Fresh B w u ys)
theorem RowOk.keep {B : Nat} {N : Int} {w w' : World} {u : Value} {ys : List Int} (h : RowOk B N w u ys) (hk : KeepB B w w') : RowOk B N w' u ys := by
  obtain ⟨⟨A, c, e, hc, hI, hA⟩, hF⟩ := h
  refine ⟨⟨A, c, e, hc, fun k hkl => ?_, fun b off s hA' => ?_⟩, fun hl => (hF hl).keepB hk⟩
  · obtain ⟨b, off, e1, hb, hcell⟩ := hI k hkl
    obtain ⟨hB, cs, hcs⟩ := hA b off none e1
    have h2 := hk.2 b cs hB hcs
    exact ⟨b, off, e1, row_lt h2, (World.cell?_of_block (a := ⟨b, off + k, none⟩) (h2.trans hcs.symm)).trans hcell⟩
  · obtain ⟨hB, cs, hcs⟩ := hA b off s hA'
    exact ⟨hB, cs, hk.2 b cs hB hcs⟩
theorem Fresh.row {B : Nat} {w : World} {u : Value} {ys : List Int} (h : Fresh B w u ys) (N : Int) : RowOk B N w u ys := by
  obtain ⟨A, c, hc, hv, hI⟩ := h.capped
  refine ⟨⟨A, c, hv, hc, hI, fun b off s e => ?_⟩, fun _ => h⟩
  rcases h.2 with ⟨hn, _⟩ | ⟨g, cap, cur, hu, hb, hgg, _⟩
  · rw [hv] at hn
    injection hn with hn
    rw [hn] at e
    cases e
  · rw [hv] at hu
    injection hu with hu
    rw [hu] at e
    injection e with e
    injection e with e1 e2 e3
    subst e1
    exact ⟨hb, cur, hgg⟩
theorem RowOk.mono {B B' : Nat} {N : Int} {w : World} {u : Value} {ys : List Int} (h : RowOk B N w u ys) (hB : B' ≤ B) : RowOk B' N w u ys := by
  obtain ⟨⟨A, c, e, hc, hI, hA⟩, hF⟩ := h
  exact ⟨⟨A, c, e, hc, hI, fun b off s e => ⟨Nat.le_trans hB (hA b off s e).1, (hA b off s e).2⟩⟩, fun hl => (hF hl).mono hB⟩
/-- A list of such lists in a row of the call's own. -/
def LsOk (B : Nat) (N : Int) (w : World) (v : Value) (ls : List (List Int)) : Prop :=
  ∃ cs : List Value, w.ownsRow B 23 1 v ls.length cs ∧ ∀ j, j < ls.length → ∃ u, cs[j]? = some u ∧ RowOk B N w u (ls.getD j [])
theorem LsOk.block {B : Nat} {N : Int} {w : World} {v : Value} {ls : List (List Int)} (h : LsOk B N w v ls) {b : Nat} (hb : v.ownBlock = some b) : B ≤ b ∧ ∃ cs, w.heap[b]? = some (.cells cs 23 (0, 0)) := by
  obtain ⟨cs, h1, _⟩ := h
  rcases h1.2 with ⟨rfl, hn⟩ | ⟨g, cap, cur, rfl, hbg, hg, _⟩
  · simp [Value.ownBlock] at hb
  · simp [Value.ownBlock] at hb
    subst hb
    exact ⟨hbg, _, hg⟩
theorem LsOk.grown {B : Nat} {N : Int} {w w' : World} {v : Value} {ls : List (List Int)} {row : Option Nat} (h : LsOk B N w v ls) (hg : w.grownBy w' row) (hr : ∀ g, row = some g → g < B) : LsOk B N w' v ls := by
  have hk : KeepB B w w' := by
    cases row with
    | none => exact KeepI.grown0 hg
    | some g => exact KeepB.src hg (hr g rfl)
  have hblk := fun b (hb : v.ownBlock = some b) => (h.block hb).1
  obtain ⟨cs, h1, h2⟩ := h
  refine ⟨cs, World.ownsRow.kept h1 hg ?_, fun j hj => ?_⟩
  · cases hv : v.ownBlock with
    | none => exact .inl rfl
    | some b =>
      refine .inr fun e => ?_
      have h1 := hblk b hv
      have h2 := hr b e.symm
      omega
  · obtain ⟨u, e, hu⟩ := h2 j hj
    exact ⟨u, e, hu.keep hk⟩
theorem LsOk.below {B : Nat} {N : Int} {w w' : World} {v : Value} {ls : List (List Int)} (h : LsOk B N w v ls) (hb : Below w.heap.size w w') : LsOk B N w' v ls :=
  h.grown (gB hb none) (fun g e => by cases e)
theorem LsOk.empty (N : Int) (w : World) {B : Nat} (h : B ≤ w.heap.size) : LsOk B N (w.alloc (.cells #[] 23)) (.slice (some ⟨w.heap.size, 0, none⟩) 0 0) [] :=
  ⟨[], ⟨rfl, .inr ⟨w.heap.size, 0, #[], rfl, h, heap_alloc_new w _, Nat.le_refl _, by unfold maxLen; omega, rfl, rfl⟩⟩, fun j hj => by simp at hj⟩
theorem LsOk.shape {B : Nat} {N : Int} {w : World} {v : Value} {ls : List (List Int)} (h : LsOk B N w v ls) (hn : 0 < ls.length) : ∃ g c, v = .slice (some ⟨g, 0, none⟩) ls.length c := by
  obtain ⟨cs, h1, _⟩ := h
  rcases h1.2 with ⟨rfl, hn2⟩ | ⟨g, cap, cur, rfl, hbg, hg, _⟩
  · omega
  · exact ⟨g, cap, rfl⟩
theorem getDsnocI (l : List (List Int)) (p : List Int) (j : Nat) (hj : j < l.length) : (l ++ [p]).getD j [] = l.getD j [] := by rw [List.getD_eq_getElem?_getD, List.getD_eq_getElem?_getD, List.getElem?_append_left hj]
theorem getDlastI (l : List (List Int)) (p : List Int) : (l ++ [p]).getD l.length [] = p := by rw [List.getD_eq_getElem?_getD, List.getElem?_append_right (Nat.le_refl _), Nat.sub_self]; rfl
theorem append_rw {w : World} {ops : Array Oper} {rest : List Oper} {o : Oper} {a : Act} {Q : Exit → Act → World → Prop} (hgd : o.guard = none) (s x : Operand)
    (hop : o.op = Op.call { callee := Callee.builtin Builtin.append, args := #[s, x], argTypes := #[22, 22] })
    (B : Nat) (N : Int) (v : Value) (ls : List (List Int)) (ys : List Int) (u : Value) (hs : a.eval s = v) (hown : LsOk B N w v ls) (g : Nat) (hx : a.eval x = .slice (some ⟨g, 0, none⟩) 1 1) (hcell : w.cell? ⟨g, 0, none⟩ = some u) (hu : RowOk B N w u ys) (hl : ls.length ≤ 1048576) (hB : B ≤ w.heap.size)
    (h : ∀ gl c' w', LsOk B N w' (.slice (some ⟨gl, 0, none⟩) (ls.length + 1) c') (ls ++ [ys]) → Below B w w' → wpList Try.prog ops Q rest (a.put o.dst (.slice (some ⟨gl, 0, none⟩) (ls.length + 1) c')) w') : wpList Try.prog ops Q (o :: rest) a w := by
  refine wpList_plain hgd fun K hK => ?_
  obtain ⟨i0, hi, hz0, hz1, hz2⟩ := info_parts listInfo
  have hblk := fun b (hb : v.ownBlock = some b) => hown.block hb
  obtain ⟨cs, h1, h2⟩ := hown
  obtain ⟨v', w', hr, hown', hgrow, _, -⟩ := run_append_own_at (P := Try.prog) w B 22 o.type 23 i0 (.slice none 0 0) 1 24 Try.underlying22 hi hz0 hz1 hz2 rfl (by decide) v ls.length cs h1 ⟨g, 0, none⟩ 1 1 [u] rfl
    (by intro j u2 hj; match j, hj with
        | 0, hj => simp at hj; subst hj; simpa [Addr.add] using hcell)
    (by intro u2 hu2; simp at hu2; subst hu2; obtain ⟨⟨A, c, hv, _⟩, _⟩ := hu; rw [hv]; rfl) (by unfold maxLen; omega) (by omega) hB
  have hcl : cs.length = ls.length := by simpa using h1.1
  have hlen : (ls ++ [ys]).length = ls.length + 1 := by simp
  have hk : KeepB B w w' := by
    cases hv : v.ownBlock with
    | none => rw [hv] at hgrow; exact KeepI.grown0 hgrow
    | some b =>
      obtain ⟨_, ds, hds⟩ := hblk b hv
      rw [hv] at hgrow
      exact KeepI.grown hgrow hds (by decide)
  have hF : LsOk B N w' v' (ls ++ [ys]) := by
    refine ⟨cs ++ [u], by simpa using hown', fun j hj => ?_⟩
    rw [hlen] at hj
    by_cases e : j = ls.length
    · subst e
      refine ⟨u, ?_, by rw [getDlastI]; exact hu.keep hk⟩
      rw [List.getElem?_append_right (by omega), hcl, Nat.sub_self]
      rfl
    · obtain ⟨u2, e2, hu2⟩ := h2 j (by omega)
      refine ⟨u2, ?_, by rw [getDsnocI _ _ _ (by omega)]; exact hu2.keep hk⟩
      rw [List.getElem?_append_left (by omega)]
      exact e2
  obtain ⟨gl, c', e⟩ := hF.shape (by omega)
  rw [hlen] at e
  subst e
  have hbel : Below B w w' := (Below.refl _ _).grown hgrow hB fun b hb => (hblk b hb).1
  unfold Oper.wp execOp
  simp only [hop, resolve, invoke, builtin, Sem.run_bind, Sem.run_pure, Result.andThen_ok, List.map_toArray, List.map_cons, List.map_nil, hs, hx, hr]
  exact hK _ _ (h gl c' w' hF hbel)
theorem permMapI {ps : List (List Nat)} {i : Nat} (hi : i < ps.length) : (ps.map natI).getD i [] = natI (ps.getD i []) := by
  rw [List.getD_eq_getElem?_getD, List.getElem?_map, List.getD_eq_getElem?_getD, List.getElem?_eq_getElem hi]
  rfl
/-- Read where it lies. -/
theorem LsOk.may {B : Nat} {N n : Int} {w : World} {gl c : Nat} {ls : List (List Int)} (h : LsOk B N w (.slice (some ⟨gl, 0, none⟩) ls.length c) ls) (hn : n = N ∨ ∀ j, j < ls.length → (((ls.getD j []).length : Nat) : Int) = N) (hlt : gl < w.heap.size) : LMay n w gl ls := by
  obtain ⟨cs, h1, h2⟩ := h
  have hcell : ∀ j, j < ls.length → ∃ u, w.cell? ⟨gl, j, none⟩ = some u ∧ RowOk B N w u (ls.getD j []) := fun j hj => by
    obtain ⟨u, e, hu⟩ := h2 j hj
    exact ⟨u, by rw [World.ownsRow.cellAt h1 j (by omega)]; exact e, hu⟩
  refine ⟨fun j hj => ?_, fun hg => ⟨hlt, fun j hj => ?_⟩⟩
  · obtain ⟨u, e, ⟨A, c2, rfl, hc2, hI, -⟩, -⟩ := hcell j hj
    exact ⟨gl, 0, A, c2, rfl, hlt, hc2, by rw [Nat.zero_add]; exact e, hI⟩
  · obtain ⟨u, e, hu⟩ := hcell j hj
    refine ⟨u, e, (hu.2 ?_).mono (Nat.zero_le _)⟩
    rcases hn with rfl | hn
    · obtain ⟨M, ps, rfl, -, -, rfl, -, hP⟩ := gsOpen hg
      have hj2 : j < ps.length := by simpa using hj
      rw [permMapI hj2, natI_len, (hP _ (getD_mem hj2)).len]
    · exact hn j hj
end
section
open Go.RowKit Grp

/-- A list of numbers drawn, in a block of the call's own. -/
def DrawnRow (N : Int) (g : Nat) (A : Option Addr) (c : Nat) (xs : List Int) (w : World) (e : Ending) (w' : World) : Prop :=
  ∃ u ys, e = .returned u ∧ RowOk w.heap.size N w' u ys ∧ ys.length ≤ 22 ∧ SrcAt w' g A c xs ∧ w.grownBy w' (some g)
set_option maxRecDepth 100000 in
set_option maxHeartbeats 4000000 in
theorem srcAny (g : Nat) (A : Option Addr) (c : Nat) (xs : List Int) (n : Nat) (w : World) (hd : SrcAt w g A c xs) (hl : xs.length ≤ 4096) (h0 : 0 < n) (hn : n ≤ 20) :
    Calls Try.prog 138 #[.pointer (some ⟨g, 0, none⟩), .int .i64 (n : Int)] w (DrawnRow (n : Int) g A c xs w) := by
  have hlow := Lib.hid hd.low
  have hgw := hd.lt
  have hn0 : (0 : Int) < (n : Int) := by omega
  go_enter Try.func138, Try.ntmps138
  go_wp2_with fail
  refine (srcPerm g A c xs n _ hd hl (by omega)).mono ?_
  rintro e w1 ⟨v1, ys, rfl, hF1, hyl, hd1, hg1⟩
  clear hd
  obtain ⟨gp, cp, rfl, hcp, hI1, hgp, hgpl⟩ := hF1.addr (by omega)
  have HF1 := Lib.hid hF1
  have HYL := Lib.hid hyl
  rw [hyl] at hcp ⊢
  have HF1 : Hid (Fresh w.heap.size w1 (.slice (some ⟨gp, 0, none⟩) n cp) ys) := by unfold Hid; rw [← HYL.out]; exact HF1.out
  clear hF1 hI1 hyl
  go_upto_region 2 with fail
  go_cut [14] from 9 to 14 (fun p wx => ∃ bb : Bool, p = .bool bb ∧ Hid (Fresh w.heap.size wx (.slice (some ⟨gp, 0, none⟩) n cp) ys) ∧ SrcAt wx g A c xs ∧ w.grownBy wx (some g))
  case first =>
    go_wp2_with fail
    refine (srcOneIn g A c xs 12 _ hd1 hl (by omega) (by omega)).mono ?_
    rintro e w2 ⟨b2, rfl, hd2, hg2⟩
    have HF2 : Hid (Fresh w.heap.size w2 (.slice (some ⟨gp, 0, none⟩) n cp) ys) := HF1.out.keepB (KeepB.src hg2 hgw)
    have hG2 := grownTrans hg1 hg2
    clear HF1 hd1 hg1 hg2 hgpl
    cases b2
    all_goals
      go_wp2_with fail
      go_meet
      exact ⟨_, rfl, HF2, hd2, hG2⟩
  case rest =>
  clear HF1 hd1 hg1 hgpl
  obtain ⟨b2, rfl, HF2, hd2, hG2⟩ := hcut
  have hz2 : w.heap.size ≤ wc.heap.size := hG2.size
  go_upto_if 14 with fail
  go_cut [5] from 15 to 36 (fun v wx => ∃ zs : List Int, RowOk w.heap.size (n : Int) wx v zs ∧ zs.length ≤ 22 ∧ SrcAt wx g A c xs ∧ w.grownBy wx (some g))
  case first =>
    cases b2
    · go_wp2_with fail
      go_meet
      exact ⟨ys, HF2.out.row _, by rw [HYL.out]; omega, hd2, hG2⟩
    · go_wp2_with fail
      refine (srcBelow g A c xs 3 _ hd2 hl (by omega) (by omega)).mono ?_
      rintro e w3 ⟨y, rfl, y0, y1, hd3, hg3⟩
      have HF3 : Hid (Fresh w.heap.size w3 (.slice (some ⟨gp, 0, none⟩) n cp) ys) := HF2.out.keepB (KeepB.src hg3 hgw)
      have hG3 := grownTrans hG2 hg3
      have hz3 : w.heap.size ≤ w3.heap.size := hG3.size
      clear HF2 hd2 hg3 hG2
      by_cases hy0 : y = 0
      · subst hy0
        go_wp2_with fail
        refine (srcBelow g A c xs (n : Int) _ hd3 hl (by omega) (by omega)).mono ?_
        rintro e w4 ⟨x, rfl, x0, x1, hd4, hg4⟩
        obtain ⟨m, rfl⟩ := Int.eq_ofNat_of_zero_le x0
        go_wp2_with fail
        refine (srcUpTo g A c xs (n : Int) _ hd4 hl (by omega) (by omega)).mono ?_
        rintro e w5 ⟨z, rfl, hd5, hg5⟩
        have HF5 : Hid (Fresh w.heap.size w5 (.slice (some ⟨gp, 0, none⟩) n cp) ys) := (HF3.out.keepB (KeepB.src hg4 hgw)).keepB (KeepB.src hg5 hgw)
        have hG5 := grownTrans (grownTrans hG3 hg4) hg5
        clear HF3 hd3 hd4 hg4 hg5 hG3
        have hmn : m < n := by omega
        have hst : w5.ownsRow w.heap.size 2 1 (.slice (some ⟨gp, 0, none⟩) n cp) n (ys.map (Value.int .i64)) := by have := HF5.out; unfold Fresh at this; rwa [HYL.out] at this
        have hfz : w5.frozen? ⟨gp, m, none⟩ = false := by
          rcases hst.2 with ⟨e, _⟩ | ⟨g', cap, cur, e, _, hgg, _⟩
          · cases e
          · injection e with e; injection e with e; injection e with e; subst e
            exact row_free hgg
        have hcl : w5.cell? ⟨gp, m, none⟩ = some (.int .i64 (ys.getD m 0)) := by
          rw [hst.cellAt m (by omega), List.getElem?_map, List.getElem?_eq_getElem (by rw [HYL.out]; exact hmn), getD_at _ _ (by rw [HYL.out]; exact hmn)]; rfl
        have HST := Lib.hid hst
        clear hst
        go_wp2_with fail
        go_meet
        have h1 := (HST.out.stored m (.int .i64 z)).1
        rw [← List.map_set] at h1
        have hFz : Fresh w.heap.size (w5.setCell ⟨gp, m, none⟩ (.int .i64 z)) (.slice (some ⟨gp, 0, none⟩) n cp) (ys.set m z) := by
          unfold Fresh; rw [List.length_set, HYL.out]; exact h1
        exact ⟨ys.set m z, hFz.row _, by rw [List.length_set, HYL.out]; omega, hd5.keep (B := w.heap.size) ((Below.refl _ _).setCell hgp _) hgw hlow.out, grownThen hG5 ((Below.refl _ _).setCell hgp _)⟩
      · have hy0' : ¬ (y == 0) = true := by simpa using hy0
        by_cases hy1 : y = 1
        · subst hy1
          have hty : ∃ cs, w3.heap[gp]? = some (.cells cs 2 (0, 0)) := HF3.out.blockI rfl
          have HTY := Lib.hid hty
          have HI3 : Hid (IntsAt w3 (some ⟨gp, 0, none⟩) ys) := by
            obtain ⟨A', c', hv', hi, -⟩ := HF3.out.ints
            injection hv' with e1
            subst e1
            exact hi
          have hdl : Hid ((ys.drop 1).length = n - 1) := by unfold Hid; rw [List.length_drop, HYL.out]
          have hk0 : (1 : Int) ≤ (cp : Int) := by omega
          have hk1 : (1 : Int) ≤ (n : Int) := by omega
          have hk2 : 1 ≤ cp := by omega
          have hk3 : 1 ≤ n := by omega
          clear hty hy0 hy0'
          rcases Nat.eq_or_lt_of_le hk2 with rfl | hlt1
          · go_wp2_with fail
            go_meet
            refine ⟨ys.drop 1, ⟨⟨some ⟨gp, 0, none⟩, 0, by rw [show (ys.drop 1).length = 0 from by rw [hdl.out]; omega], by rw [hdl.out]; omega, cut0 _ (by rw [HYL.out]; omega), fun b off s e => ?_⟩, fun e => ?_⟩, by rw [hdl.out]; omega, hd3, hG3⟩
            · injection e with e; injection e with e1 e2; subst e1
              exact ⟨hgp, HTY.out⟩
            · rw [hdl.out] at e; omega
          · have hne : ¬ cp = 1 := by omega
            have hnf : (cp == 1) = false := by simp; omega
            go_wp2_with fail
            go_meet
            refine ⟨ys.drop 1, ⟨⟨some ⟨gp, 1, none⟩, cp - 1, by rw [hdl.out], by rw [hdl.out]; omega, dropAt HI3.out 1, fun b off s e => ?_⟩, fun e => ?_⟩, by rw [hdl.out]; omega, hd3, hG3⟩
            · injection e with e; injection e with e1 e2; subst e1
              exact ⟨hgp, HTY.out⟩
            · rw [hdl.out] at e; omega
        · have hy2 : y = 2 := by omega
          subst hy2
          have hyll : ys.length ≤ 1048576 := by rw [HYL.out]; omega
          clear hy0 hy0' hy1
          go_wp2_with (first | (at_builtin; refine append_one rfl (.tmp 33) (.tmp 35) rfl w.heap.size _ ys (n : Int) rfl (by exact HF3.out.below (by exact (by repeat (first | exact Below.refl _ _ | assumption | refine Below.setCell ?_ (by first | omega | (simp <;> omega)) _ | refine Below.alloc ?_ (by first | omega | (simp <;> omega)) _ | refine Below.drew ?_)))) w3.heap.size rfl (by simp) hyll (by simp; omega) ?_; intro v4 w4 hF4 hg4 hb4))
          have hb5 : Below w.heap.size w3 w4 := ((Below.refl _ _).alloc hz3 _).trans hb4
          go_meet
          exact ⟨ys ++ [(n : Int)], hF4.row _, by rw [List.length_append, HYL.out]; simp; omega, hd3.keep hb5 hgw hlow.out, grownThen hG3 hb5⟩
  case rest =>
    clear HF2 hG2 hd2 hz2
    obtain ⟨zs, hR, hzl, hd3, hG3⟩ := hcut
    go_wp2_with fail
    refine (srcOneIn g A c xs 60 _ hd3 hl (by omega) (by omega)).mono ?_
    rintro e w4 ⟨b4, rfl, hd4, hg4⟩
    have hR4 := hR.keep (KeepB.src hg4 hgw)
    have hG4 := grownTrans hG3 hg4
    clear hR hd3 hG3 hg4
    cases b4
    · go_wp2_with fail
      go_ret
      exact ⟨_, zs, rfl, hR4, hzl, hd4, hG4⟩
    · go_wp2_with fail
      refine (srcBelow g A c xs 2 _ hd4 hl (by omega) (by omega)).mono ?_
      rintro e w5 ⟨y, rfl, y0, y1, hd5, hg5⟩
      obtain ⟨m, rfl⟩ := Int.eq_ofNat_of_zero_le y0
      have hG5 := grownTrans hG4 hg5
      have HC : Hid (Calls Try.prog 148 #[.pointer (some ⟨g, 0, none⟩), .int .i64 (20 + (m : Int))] w5 (DrawnL (20 + m) g A c xs w5)) := by
        have := srcPerm g A c xs (20 + m) w5 hd5 hl (by omega)
        rwa [show ((20 + m : Nat) : Int) = 20 + (m : Int) from by omega] at this
      have hz5 : w.heap.size ≤ w5.heap.size := hG5.size
      clear hR4 hd4 hG4 hg5 hd5
      go_wp2_with fail
      refine HC.out.mono ?_
      rintro e w6 ⟨v6, ys6, rfl, hF6, hyl6, hd6, hg6⟩
      go_wp2_with fail
      go_ret
      exact ⟨_, ys6, rfl, (hF6.mono hz5).row _, by omega, hd6, grownTrans hG5 hg6⟩
/-- A slice of n numbers at the start of a block of the call's own. -/
def Fil (B : Nat) (w : World) (gp n cp : Nat) (ys : List Int) : Prop := ys.length = n ∧ w.ownsRow B 2 1 (.slice (some ⟨gp, 0, none⟩) n cp) n (ys.map (Value.int .i64))
theorem Fresh.fil {B : Nat} {w : World} {v : Value} {ys : List Int} {n : Nat} (h : Fresh B w v ys) (hl : ys.length = n) (hn : 0 < n) : ∃ gp cp, v = .slice (some ⟨gp, 0, none⟩) n cp ∧ Fil B w gp n cp ys ∧ B ≤ gp ∧ gp < w.heap.size := by
  subst hl
  obtain ⟨g, c, hv, -, -, h1, h2⟩ := h.addr hn
  subst hv
  exact ⟨g, c, rfl, ⟨rfl, h⟩, h1, h2⟩
theorem Fil.fresh {B : Nat} {w : World} {gp n cp : Nat} {ys : List Int} (h : Fil B w gp n cp ys) : Fresh B w (.slice (some ⟨gp, 0, none⟩) n cp) ys := by
  unfold Fresh
  rw [h.1]
  exact h.2
theorem Fil.free {B : Nat} {w : World} {gp n cp : Nat} {ys : List Int} (h : Fil B w gp n cp ys) (m : Nat) : w.frozen? ⟨gp, m, none⟩ = false := by
  rcases h.2.2 with ⟨e, _⟩ | ⟨g', cap, cur, e, _, hgg, _⟩
  · cases e
  · injection e with e; injection e with e; injection e with e; subst e
    exact row_free hgg
theorem Fil.cell {B : Nat} {w : World} {gp n cp : Nat} {ys : List Int} (h : Fil B w gp n cp ys) {m : Nat} (hm : m < n) : w.cell? ⟨gp, m, none⟩ = some (.int .i64 (ys.getD m 0)) := by
  rw [h.2.cellAt m (by omega), List.getElem?_map, List.getElem?_eq_getElem (by rw [h.1]; exact hm), getD_at _ _ (by rw [h.1]; exact hm)]; rfl
theorem Fil.store {B : Nat} {w : World} {gp n cp : Nat} {ys : List Int} (h : Fil B w gp n cp ys) (m : Nat) (z : Int) : Fil B (w.setCell ⟨gp, m, none⟩ (.int .i64 z)) gp n cp (ys.set m z) := by
  refine ⟨by rw [List.length_set]; exact h.1, ?_⟩
  have h1 := (h.2.stored m (.int .i64 z)).1
  rwa [← List.map_set] at h1
theorem Fil.grown {B : Nat} {w w' : World} {gp n cp g : Nat} {ys : List Int} (h : Fil B w gp n cp ys) (hg : w.grownBy w' (some g)) (hgB : g < B) : Fil B w' gp n cp ys := by
  refine ⟨h.1, ?_⟩
  have := h.fresh.keepB (KeepB.src hg hgB)
  unfold Fresh at this
  rwa [h.1] at this
theorem Fil.base {B : Nat} {w : World} {gp n cp : Nat} {ys : List Int} (h : Fil B w gp n cp ys) : B ≤ gp ∧ gp < w.heap.size := by
  rcases h.2.2 with ⟨e, _⟩ | ⟨g', cap, cur, e, hb, hgg, _⟩
  · cases e
  · injection e with e; injection e with e; injection e with e; subst e
    exact ⟨hb, row_lt hgg⟩
theorem natI_idp_len (n : Nat) : (natI (idp n)).length = n := by rw [natI_len]; exact idp_len
/-- Generators drawn: up to three lists of n numbers each. -/
def DrawnGens (N : Nat) (g : Nat) (A : Option Addr) (c : Nat) (xs : List Int) (w : World) (e : Ending) (w' : World) : Prop :=
  ∃ gl cl ls, e = .returned (.slice (some ⟨gl, 0, none⟩) ls.length cl) ∧ LsOk w.heap.size (N : Int) w' (.slice (some ⟨gl, 0, none⟩) ls.length cl) ls ∧ ls.length ≤ 3 ∧ (∀ j, j < ls.length → (ls.getD j []).length = N) ∧ SrcAt w' g A c xs ∧ w.grownBy w' (some g)
set_option maxRecDepth 100000 in
set_option maxHeartbeats 4000000 in
theorem srcGens (g : Nat) (A : Option Addr) (c : Nat) (xs : List Int) (n : Nat) (w : World) (hd : SrcAt w g A c xs) (hl : xs.length ≤ 4096) (h0 : 0 < n) (hn : n ≤ 20) :
    Calls Try.prog 140 #[.pointer (some ⟨g, 0, none⟩), .int .i64 (n : Int)] w (DrawnGens n g A c xs w) := by
  have hlow := Lib.hid hd.low
  have hgw := hd.lt
  have hn0 : (0 : Int) < (n : Int) := by omega
  have hE : LsOk w.heap.size (n : Int) (w.alloc (.cells #[] 23)) (.slice (some ⟨w.heap.size, 0, none⟩) 0 0) [] := LsOk.empty _ w (Nat.le_refl _)
  have hg0 : w.grownBy (w.alloc (.cells #[] 23)) (some g) := World.grownBy_alloc _ _ _
  have hd0 : SrcAt (w.alloc (.cells #[] 23)) g A c xs := hd.below (by repeat (first | exact Below.refl _ _ | assumption | refine Below.setCell ?_ (by first | omega | (simp <;> omega)) _ | refine Below.alloc ?_ (by first | omega | (simp <;> omega)) _ | refine Below.drew ?_))
  go_enter Try.func140, Try.ntmps140
  go_wp2_with fail
  refine (srcBelow g A c xs 3 _ hd0 hl (by omega) (by omega)).mono ?_
  rintro e w1 ⟨y, rfl, y0, y1, hd1, hg1⟩
  obtain ⟨k0, rfl⟩ := Int.eq_ofNat_of_zero_le y0
  have hE1 := Lib.hid (hE.grown hg1 (fun g' e => by injection e with e; omega))
  have hG1 := Lib.hid (grownTrans hg0 hg1)
  have hD1 := Lib.hid hd1
  have hzw : w.heap.size < w1.heap.size := by have := hg1.size; simp at this; omega
  clear hE hg0 hd0 hd hd1 hg1
  go_wp2_with fail
  go_loopw [5, 6] (fun v q wr => ∃ (ls : List (List Int)) (gl cl m k : Nat), v = .slice (some ⟨gl, 0, none⟩) m cl ∧ q = .int .i64 (k : Int) ∧ m + k ≤ 3 ∧ Hid (ls.length = m) ∧ Hid (LsOk w.heap.size (n : Int) wr (.slice (some ⟨gl, 0, none⟩) m cl) ls) ∧ Hid (∀ j, j < ls.length → (ls.getD j []).length = n) ∧ Hid (SrcAt wr g A c xs) ∧ Hid (w.grownBy wr (some g))) (fun _ q _ => (intOf q).toNat)
  case atStart => exact ⟨[], w.heap.size, 0, 0, 1 + k0, rfl, by simp, by omega, rfl, hE1, fun j hj => by simp at hj, hD1, hG1⟩
  case round =>
    obtain ⟨wo, rfl⟩ : ∃ wo : World, wo = wr := ⟨_, rfl⟩
    obtain ⟨ls, gl, cl, m, k, rfl, rfl, hmk, HLN, HLS, HAL, HD, HG⟩ := hrel
    clear hE1 hG1 hD1
    by_cases hpos : 0 < k
    · have pk : (0 : Int) < (k : Int) := by omega
      have hzo : w.heap.size ≤ wo.heap.size := HG.out.size
      have hgo : g < wo.heap.size := by omega
      have HLO : Hid (∀ b off, A = some ⟨b, off, none⟩ → 0 < xs.length → b < wo.heap.size) := HD.out.low
      go_wp2_with fail
      refine (specIdentity n _ (by omega)).mono ?_
      rintro e w2 ⟨v2, rfl, hF2, hb2⟩
      obtain ⟨gp, cp, rfl, hP2, hgp, hgpl⟩ := hF2.fil (natI_idp_len n) h0
      have hd2 := HD.out.below hb2
      have hg2 : wo.grownBy w2 (some g) := gB hb2 _
      clear hF2 hb2
      go_wp2_with fail
      refine (srcBelow g A c xs 4 _ hd2 hl (by omega) (by omega)).mono ?_
      rintro e w3 ⟨y, rfl, y0, y1, hd3, hg3⟩
      have HP3 := Lib.hid (hP2.grown hg3 hgo)
      have hG3 := grownTrans hg2 hg3
      clear hd2 hg2 hg3 hP2 hgpl
      go_upto_block 2 with fail
      go_cut [7, 8, 9, 10] from 15 to 59 (fun v _ _ _ wx => ∃ (gq cq : Nat) (ys : List Int), v = .slice (some ⟨gq, 0, none⟩) n cq ∧ Fil wo.heap.size wx gq n cq ys ∧ SrcAt wx g A c xs ∧ wo.grownBy wx (some g))
      case first =>
        by_cases hy0 : y = 0
        · subst hy0
          go_wp2_with fail
          refine (srcPerm g A c xs n _ hd3 hl (by omega)).mono ?_
          rintro e w4 ⟨v4, ys, rfl, hF4, hyl, hd4, hg4⟩
          have hG4 := grownTrans hG3 hg4
          have hz3 : wo.heap.size ≤ w3.heap.size := hG3.size
          obtain ⟨gq, cq, rfl, hP4, -, -⟩ := (hF4.mono hz3).fil hyl h0
          clear hF4 hg4 hG3 hd3 hyl
          go_wp2_with fail
          go_meet
          exact ⟨gq, cq, ys, rfl, hP4, hd4, hG4⟩
        · have hy0' : (y == 0) = false := by simpa using hy0
          by_cases hy1 : y = 1
          · subst hy1
            go_wp2_with fail
            go_loopw [8] (fun q wr => ∃ (i : Nat) (ys : List Int), q = .int .i64 (i : Int) ∧ i ≤ n ∧ Hid (Fil wo.heap.size wr gp n cp ys) ∧ Hid (SrcAt wr g A c xs) ∧ Hid (wo.grownBy wr (some g))) (fun q _ => n - (intOf q).toNat)
            case atStart => exact ⟨0, _, rfl, Nat.zero_le _, HP3, hd3, hG3⟩
            case round =>
              obtain ⟨i, ys, rfl, hi, HP, HDi, HGi⟩ := hrel
              by_cases hin : i < n
              · have p0 : (0 : Int) ≤ (i : Int) := by omega
                have p1 : (i : Int) < (n : Int) := by omega
                have hfz := HP.out.free i
                have hcl := HP.out.cell hin
                have hne : ¬ (n : Int) = 0 := by omega
                obtain ⟨z, hz⟩ : ∃ z, Int.tmod ((i : Int) + 1) (n : Int) = z := ⟨_, rfl⟩
                go_wp2_with fail
                go_roundw
                case rel => exact ⟨i + 1, _, by go_num, by omega, HP.out.store i _, HDi.out.keep (B := wo.heap.size) ((Below.refl _ _).setCell hgp _) hgo HLO.out, grownThen HGi.out ((Below.refl _ _).setCell hgp _)⟩
                case measure => simp [intOf]; omega
              · obtain rfl : i = n := by omega
                go_wp2_with fail
                go_meet
                exact ⟨gp, cp, ys, rfl, HP.out, HDi.out, HGi.out⟩
          · have hy1' : (y == 1) = false := by simpa using hy1
            go_wp2_with fail
            refine (srcBelow g A c xs (n : Int) _ hd3 hl (by omega) (by omega)).mono ?_
            rintro e w4 ⟨x, rfl, x0, x1, hd4, hg4⟩
            obtain ⟨i, rfl⟩ := Int.eq_ofNat_of_zero_le x0
            have HP4 := Lib.hid (HP3.out.grown hg4 hgo)
            have hG4 := grownTrans hG3 hg4
            clear hd3 hG3 hg4 HP3
            go_wp2_with fail
            refine (srcBelow g A c xs (n : Int) _ hd4 hl (by omega) (by omega)).mono ?_
            rintro e w5 ⟨x', rfl, x0', x1', hd5, hg5⟩
            obtain ⟨j, rfl⟩ := Int.eq_ofNat_of_zero_le x0'
            have HP5 := Lib.hid (HP4.out.grown hg5 hgo)
            have hG5 := grownTrans hG4 hg5
            clear hd4 hG4 hg5 HP4
            have hfz := HP5.out.free i
            have hcl := HP5.out.cell (m := i) (by omega)
            have hfz2 := (HP5.out.store i (j : Int)).free j
            have hcl2 := (HP5.out.store i (j : Int)).cell (m := j) (by omega)
            go_wp2_with fail
            go_meet
            refine ⟨gp, cp, _, rfl, (HP5.out.store i (j : Int)).store j (i : Int), ?_, ?_⟩
            · exact hd5.keep (B := wo.heap.size) (((Below.refl _ _).setCell hgp _).setCell hgp _) hgo HLO.out
            · exact grownThen hG5 (((Below.refl _ _).setCell hgp _).setCell hgp _)
      case rest =>
        clear HP3 hd3 hG3 hgp
        obtain ⟨gq, cq, ys, rfl, hP4, hd4, hG4⟩ := hcut
        have HLS4 := Lib.hid (HLS.out.grown hG4 (fun g' e => by injection e with e; omega))
        have HG4 := Lib.hid (grownTrans HG.out hG4)
        have HR4 : Hid (RowOk w.heap.size (n : Int) wc (.slice (some ⟨gq, 0, none⟩) n cq) ys) := (hP4.fresh.row _).mono hzo
        have hzc : w.heap.size ≤ wc.heap.size := HG4.out.size
        have HYN : Hid (ys.length = n) := hP4.1
        have hml : ls.length ≤ 1048576 := by rw [HLN.out]; omega
        have HLSn : Hid (LsOk w.heap.size (n : Int) wc (.slice (some ⟨gl, 0, none⟩) m cl) ls) := HLS4
        clear hP4 hG4 HLS4
        go_wp2_with (first | (at_builtin; refine append_rw rfl (.tmp 56) (.tmp 58) rfl w.heap.size (n : Int) _ ls ys (.slice (some ⟨gq, 0, none⟩) n cq) rfl (by exact HLSn.out.below (by exact (by repeat (first | exact Below.refl _ _ | assumption | refine Below.setCell ?_ (by first | omega | (simp <;> omega)) _ | refine Below.alloc ?_ (by first | omega | (simp <;> omega)) _ | refine Below.drew ?_)))) wc.heap.size rfl (by simp) (by exact HR4.out.keep (KeepB.below (by exact (by repeat (first | exact Below.refl _ _ | assumption | refine Below.setCell ?_ (by first | omega | (simp <;> omega)) _ | refine Below.alloc ?_ (by first | omega | (simp <;> omega)) _ | refine Below.drew ?_))))) hml (by simp; omega) ?_; intro gl5 cl5 w5 hL5 hb5))
        have hB5 : Below w.heap.size wc w5 := ((Below.refl _ _).alloc hzc _).trans hb5
        rw [HLN.out] at hL5 ⊢
        go_roundw
        case rel => exact ⟨ls ++ [ys], gl5, cl5, m + 1, k - 1, rfl, by rw [show ((k - 1 : Nat) : Int) = (k : Int) - 1 from by omega], by omega, by unfold Hid; rw [List.length_append, HLN.out]; rfl, hL5, fun j hj => by
            rw [List.length_append] at hj
            by_cases e : j < ls.length
            · rw [getDsnocI _ _ _ e]; exact HAL.out j e
            · rw [show j = ls.length from by simp at hj; omega, getDlastI]; exact HYN.out, hd4.keep hB5 hgw hlow.out, grownThen HG4.out hB5⟩
        case measure => simp [intOf]; omega
    · obtain rfl : k = 0 := by omega
      go_wp2_with fail
      go_ret
      exact ⟨gl, cl, ls, by rw [HLN.out]; rfl, by rw [HLN.out]; exact HLS.out, by rw [HLN.out]; omega, HAL.out, HD.out, HG.out⟩
end
end Go.Proofs.Ytpcnbjfkobeibaa
