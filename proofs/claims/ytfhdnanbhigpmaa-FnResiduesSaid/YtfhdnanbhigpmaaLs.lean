/- The law file's helpers over lists of lists of numbers. Conditions: as each contract says. -/
import Derived.Test.YtfhdnanbhigpmaaMark
import Derived.Deep.RegionHeld3
namespace Go.Proofs.Ytfhdnanbhigpmaa
open Go.RowKit

theorem rowB {w w' : World} {H : Nat} {o : Obj} (hb : Below w.heap.size w w') (h : w.heap[H]? = some o) : w'.heap[H]? = some o := (hb.block H (Array.getElem?_eq_some_iff.1 h).1).trans h
theorem rowS {w : World} {H : Nat} {o : Obj} {a : Addr} {v : Value} (h : w.heap[H]? = some o) (hne : H ≠ a.block) : (w.setCell a v).heap[H]? = some o := (heap_setCell_other w a H v hne).trans h
theorem row_free {w : World} {g : Nat} {cs : Array Value} {p : Nat} {T : TypeId} (h : w.heap[g]? = some (.cells cs T (0, 0))) : w.frozen? ⟨g, p, none⟩ = false := by simp [World.frozen?, h]
theorem row_lt {w : World} {g : Nat} {o : Obj} (h : w.heap[g]? = some o) : g < w.heap.size := (Array.getElem?_eq_some_iff.1 h).1
theorem list_cell {w : World} {g : Nat} {cs : List Value} {T : TypeId} {p : Nat} {v : Value} (h : w.heap[g]? = some (.cells cs.toArray T (0, 0))) (hp : cs[p]? = some v) : w.cell? ⟨g, p, none⟩ = some v := by
  rw [cell_of_row w g p _ _ (0, 0) h, List.getElem?_toArray]; exact hp
theorem list_store {w : World} {g : Nat} {cs : List Value} {T : TypeId} {p : Nat} (v : Value) (h : w.heap[g]? = some (.cells cs.toArray T (0, 0))) : (w.setCell ⟨g, p, none⟩ v).heap[g]? = some (.cells (cs.set p v).toArray T (0, 0)) := by
  have := heap_setCell_same w g p _ _ v h
  simpa using this
theorem gB {w w' : World} (hb : Below w.heap.size w w') (row : Option Nat) : w.grownBy w' row := ⟨hb.os, hb.tape, hb.output, hb.size, fun k hk _ => hb.block k hk⟩
theorem listInfo : (Try.prog.info? 31).map (fun i => (i.zero, i.size, i.bytes)) = some (some (.slice none 0 0), 1, 24) := by kernel_rfl
theorem made_nil (n : Nat) : (madeCells #[Value.slice none 0 0] n).toList = List.replicate n (Value.slice none 0 0) := by rw [toList_madeCells_one]
theorem made_whole {w : World} {B g n : Nat} {t : TypeId} {xs : List Value} (h : w.ownsRow B t 1 (.slice (some ⟨g, 0, none⟩) n n) n xs) : w.heap[g]? = some (.cells xs.toArray t (0, 0)) := by
  rcases h.2 with ⟨he, _⟩ | ⟨g', cap, cur, he, _, hg, _, _, hcs, htake⟩
  · simp at he
  · simp only [Value.slice.injEq, Option.some.injEq, Addr.mk.injEq] at he
    obtain ⟨⟨rfl, _⟩, _, rfl⟩ := he
    have e : cur.toList = xs := by
      rw [← htake, List.take_of_length_le]
      simp [hcs]
    rw [hg, ← e]
/-- Lists of numbers in memory. -/
def LAt (w : World) (A : Option Addr) (ls : List (List Int)) : Prop := ∀ i, i < ls.length → ∃ b off Ai ci, A = some ⟨b, off, none⟩ ∧ b < w.heap.size ∧ (ls.getD i []).length ≤ ci ∧ w.cell? ⟨b, off + i, none⟩ = some (.slice Ai (ls.getD i []).length ci) ∧ IntsAt w Ai (ls.getD i [])
theorem LAt.below {w w' : World} {A : Option Addr} {ls : List (List Int)} (h : LAt w A ls) (hb : Below w.heap.size w w') : LAt w' A ls := fun i hi => by
  obtain ⟨b, off, Ai, ci, e, h1, h2, h3, h4⟩ := h i hi
  exact ⟨b, off, Ai, ci, e, Nat.lt_of_lt_of_le h1 hb.size, h2, (hb.cell (p := ⟨b, off + i, none⟩) h1).trans h3, h4.below hb⟩
theorem LAt.at_ {w : World} {A : Option Addr} {ls : List (List Int)} (h : LAt w A ls) {i : Nat} (hi : i < ls.length) :
    ∃ b off Ai ci xs, A = some ⟨b, off, none⟩ ∧ b < w.heap.size ∧ (xs : List Int).length ≤ ci ∧ w.cell? ⟨b, off + i, none⟩ = some (.slice Ai xs.length ci) ∧ IntsAt w Ai xs ∧ Hid (ls.getD i [] = xs) := by
  obtain ⟨b, off, Ai, ci, e, h1, h2, h3, h4⟩ := h i hi
  exact ⟨b, off, Ai, ci, _, e, h1, h2, h3, h4, rfl⟩
/-- Lists of the call's own, in one block of their own. -/
def LOwn (w : World) (g : Nat) (ls : List (List Int)) : Prop := g < w.heap.size ∧ ∀ i, i < ls.length → ∃ u, w.cell? ⟨g, i, none⟩ = some u ∧ Fresh 0 w u (ls.getD i [])
theorem LOwn.below {w w' : World} {g : Nat} {ls : List (List Int)} (h : LOwn w g ls) (hb : Below w.heap.size w w') : LOwn w' g ls := ⟨Nat.lt_of_lt_of_le h.1 hb.size, fun i hi => by
  obtain ⟨u, h1, h2⟩ := h.2 i hi
  exact ⟨u, (hb.cell (p := ⟨g, i, none⟩) h.1).trans h1, h2.below hb⟩⟩
theorem LOwn.at_ {w : World} {g : Nat} {ls : List (List Int)} (h : LOwn w g ls) : LAt w (some ⟨g, 0, none⟩) ls := fun i hi => by
  obtain ⟨u, h1, h2⟩ := h.2 i hi
  obtain ⟨Ai, ci, h3, rfl, h4⟩ := h2.capped
  exact ⟨g, 0, Ai, ci, rfl, h.1, h3, by rw [Nat.zero_add]; exact h1, h4⟩
def szLeft (left : Int) (n : Nat) : Int := if left < n then -1 else left - n
theorem szLeft_pos {lf : Int} {n : Nat} (h0 : 0 ≤ lf) (h1 : lf ≤ 1048576) (h : ¬ szLeft lf n < 0) : 0 ≤ szLeft lf n ∧ szLeft lf n ≤ 1048576 ∧ n ≤ 1048576 := by
  unfold szLeft at *
  split at h
  · omega
  · rename_i h2
    rw [if_neg h2]
    omega
theorem quietDrew {P : Program} {f : FuncId} {args : Array Value} {w : World} {n : Nat} {v : Value} (h : Calls P f args (w.drewN n) (Quiet v (w.drewN n))) : Calls P f args (w.drewN n) fun e w' => e = .returned v ∧ ∃ m, w' = w.drewN m :=
  h.mono fun _ _ ⟨he, m, hw⟩ => ⟨he, n + m, by rw [hw, World.drewN_drewN]⟩
theorem szInts (A : Option Addr) (n c : Nat) (left : Int) (w : World) (hn : n ≤ 9223372036854775807) (h0 : 0 ≤ left) (h1 : left ≤ 1048576) :
    Calls Try.prog 93 #[.slice A n c, .int .i64 left] w fun e w' => e = .returned (.int .i64 (szLeft left n)) ∧ w = w' := by
  by_cases h : left < (n : Int)
  · have hneg : left - (n : Int) < 0 := by omega
    go_enter Try.func93, Try.ntmps93
    go_wp2_with fail
    go_ret
    exact ⟨ret_int (by rw [szLeft, if_pos h]), rfl⟩
  · have hneg : ¬ left - (n : Int) < 0 := by omega
    go_enter Try.func93, Try.ntmps93
    go_wp2_with fail
    go_ret
    exact ⟨ret_int (by rw [szLeft, if_neg (by omega)]), rfl⟩
def ShortL (ls : List (List Int)) : Prop := ∀ i, i < ls.length → (ls.getD i []).length ≤ 1048576
def SzPost (ls : List (List Int)) (w : World) (e : Ending) (w' : World) : Prop := ∃ q : Int, e = .returned (.int .i64 q) ∧ (0 ≤ q → ls.length ≤ 1048576 ∧ ShortL ls) ∧ (0 ≤ q → q ≤ 1048576) ∧ w = w'
set_option maxHeartbeats 2000000 in
theorem szLists (A : Option Addr) (c : Nat) (ls : List (List Int)) (left : Int) (w : World) (hx : LAt w A ls) (hn : ls.length ≤ 9223372036854775807) (hm : ∀ i, i < ls.length → (ls.getD i []).length ≤ 9223372036854775807) (l0 : 0 ≤ left) (l1 : left ≤ 1048576) :
    Calls Try.prog 55 #[.slice A ls.length c, .int .i64 left] w (SzPost ls w) := by
  have HM := Lib.hid hm
  clear hm
  by_cases hl : (ls.length : Int) ≤ left
  · have h1 : ¬ left - (ls.length : Int) < 0 := by omega
    go_enter Try.func55, Try.ntmps55
    go_wp2_with fail
    go_loop [1, 5] (fun q i => ∃ (k : Nat) (lf : Int), k ≤ ls.length ∧ i = .int .i64 k ∧ q = .int .i64 lf ∧ 0 ≤ lf ∧ lf ≤ 1048576 ∧ Hid (∀ j, j < k → (ls.getD j []).length ≤ 1048576)) (fun _ i => ls.length - (intOf i).toNat)
    case atStart => exact ⟨0, _, Nat.zero_le _, rfl, rfl, by omega, by omega, fun j hj => by omega⟩
    case round =>
      obtain ⟨k, lf, hk, rfl, rfl, l0, l1, HS⟩ := hrel
      by_cases hlt : k < ls.length
      · obtain ⟨b, off, Ai, ci, ys, rfl, hb, hcap, hc0, hI, HX⟩ := hx.at_ hlt
        have p0 : (0 : Int) ≤ (k : Int) := by omega
        have p1 : (k : Int) < (ls.length : Int) := by omega
        have hyl : ys.length ≤ 9223372036854775807 := by have := HM.out k hlt; rw [HX.out] at this; exact this
        go_wp2_with fail
        refine (szInts Ai ys.length ci lf _ hyl l0 l1).mono ?_
        rintro e w1 ⟨rfl, rfl⟩
        obtain ⟨q, hq⟩ : ∃ q, szLeft lf ys.length = q := ⟨_, rfl⟩
        have HQ := Lib.hid hq
        rw [hq]
        clear hq
        by_cases hneg : q < 0
        · go_wp2_with fail
          go_ret
          exact ⟨-1, rfl, fun h => by omega, fun h => by omega, rfl⟩
        · have hb := szLeft_pos l0 l1 (by rw [HQ.out]; exact hneg)
          rw [HQ.out] at hb
          have HB := Lib.hid hb
          clear hb
          go_wp2_with fail
          go_round
          case rel =>
            refine ⟨k + 1, q, by omega, by go_num, rfl, HB.out.1, HB.out.2.1, fun j hj => ?_⟩
            rcases Nat.lt_or_ge j k with h | h
            · exact HS.out j h
            · rw [show j = k from by omega, HX.out]; exact HB.out.2.2
          case measure => simp [intOf]; omega
      · go_wp2_with fail
        go_ret
        exact ⟨lf, rfl, fun _ => ⟨by omega, fun i hi => HS.out i (by omega)⟩, fun _ => l1, rfl⟩
  · have h1 : left - (ls.length : Int) < 0 := by omega
    go_enter Try.func55, Try.ntmps55
    go_wp2_with fail
    go_ret
    exact ⟨-1, rfl, fun h => by omega, fun h => by omega, rfl⟩
def ToLists (ls : List (List Int)) (w : World) (e : Ending) (w' : World) : Prop := ∃ g, e = .returned (.slice (some ⟨g, 0, none⟩) ls.length ls.length) ∧ LOwn w' g ls ∧ Below w.heap.size w w'
set_option maxRecDepth 3000 in
set_option maxHeartbeats 2000000 in
theorem toLists (A : Option Addr) (c : Nat) (ls : List (List Int)) (w : World) (hx : LAt w A ls) (hl : ls.length ≤ 1048576) (hs : ShortL ls) :
    Calls Try.prog 57 #[.slice A ls.length c] w (ToLists ls w) := by
  obtain ⟨i1, hi1, hy0, hy1, hy2⟩ := info_parts listInfo
  have HS := Lib.hid hs
  clear hs
  go_enter Try.func57, Try.ntmps57
  go_wp2_with (first | (at_make; refine wpList_make_full _ rfl _ _ 27 rfl w.heap.size 31 i1 (.slice none 0 0) 1 Try.underlying27 hi1 hy0 hy1 _ _ _ _ ls.length rfl rfl rfl rfl ?_ ?_ ?_ ?_))
  · rw [hy2]; omega
  · unfold maxLen; omega
  · simp
  intro w1 hown hgrow
  rw [made_nil] at hown
  have hB1 : Below w.heap.size w w1 := (Below.refl _ _).grown hgrow (Nat.le_refl _) (by simp)
  have hr1 := made_whole hown
  clear hown hgrow
  go_wp2_with fail
  go_loopw [4] (fun i wr => ∃ (k : Nat) (cs : List Value), k ≤ ls.length ∧ i = .int .i64 k ∧ wr.heap[w.heap.size]? = some (.cells cs.toArray 31 (0, 0)) ∧ cs.length = ls.length ∧ Hid (∀ j, j < k → ∃ u, cs[j]? = some u ∧ Fresh (w.heap.size + 1) wr u (ls.getD j [])) ∧ Below w.heap.size w wr) (fun i _ => ls.length - (intOf i).toNat)
  case atStart => exact ⟨0, _, Nat.zero_le _, rfl, hr1, by simp, fun j hj => by omega, hB1⟩
  case round =>
    obtain ⟨k, cs, hk, rfl, hr, hcl, HF, hB⟩ := hrel
    clear hB1 hr1
    by_cases hlt : k < ls.length
    · obtain ⟨b, off, Ai, ci, ys, rfl, hb, hcap, hc0, hI, HX⟩ := (hx.below hB).at_ hlt
      have p0 : (0 : Int) ≤ (k : Int) := by omega
      have p1 : (k : Int) < (ls.length : Int) := by omega
      have hyl : ys.length ≤ 1048576 := by have := HS.out k hlt; rw [HX.out] at this; exact this
      have HR := Lib.hid hr
      have hgw := row_lt hr
      clear hr
      go_wp2_with fail
      refine (toInts Ai ci ys _ hI hyl).mono ?_
      rintro e w2 ⟨v2, rfl, hF2, hb2⟩
      have hr2 := rowB hb2 HR.out
      have hck : cs[k]? = some cs[k] := List.getElem?_eq_getElem (by omega)
      have c1 : w2.cell? ⟨w.heap.size, k, none⟩ = some cs[k] := list_cell hr2 hck
      have f1 : w2.frozen? ⟨w.heap.size, k, none⟩ = false := row_free hr2
      have hB2 := belowStep hb2 hB
      obtain ⟨A2, c2, rfl, -, -⟩ := hF2.ints
      have HR3 := Lib.hid (list_store (p := k) (.slice A2 ys.length c2) hr2)
      have HF3 : Hid (∀ j, j < k + 1 → ∃ u, (cs.set k (.slice A2 ys.length c2))[j]? = some u ∧ Fresh (w.heap.size + 1) (w2.setCell ⟨w.heap.size, k, none⟩ (.slice A2 ys.length c2)) u (ls.getD j [])) := by
        intro j hj
        by_cases e : j = k
        · subst e
          refine ⟨_, by rw [List.getElem?_set, if_pos rfl, if_pos (by omega)], ?_⟩
          rw [HX.out]
          exact (hF2.mono hgw).setCell (a := ⟨w.heap.size, j, none⟩) (Nat.lt_succ_self _) _
        · obtain ⟨u, h1, h2⟩ := HF.out j (by omega)
          exact ⟨u, by rw [List.getElem?_set, if_neg (fun e2 => e e2.symm)]; exact h1, (h2.below hb2).setCell (a := ⟨w.heap.size, k, none⟩) (Nat.lt_succ_self _) _⟩
      clear hr2 hF2 hb2 hck HR
      obtain ⟨cv, hcv⟩ : ∃ cv, cs[k] = cv := ⟨_, rfl⟩
      rw [hcv] at c1
      clear hcv
      go_wp2_with fail
      exact ⟨⟨k + 1, _, by omega, by go_num, HR3.out, by rw [List.length_set]; exact hcl, HF3, hB2.setCell (by simp) _⟩, by simp [intOf]; omega⟩
    · obtain rfl : k = ls.length := by omega
      go_wp2_with fail
      go_ret
      refine ⟨w.heap.size, rfl, ⟨row_lt hr, fun i hi => ?_⟩, hB⟩
      obtain ⟨u, h1, h2⟩ := HF.out i hi
      exact ⟨u, list_cell hr h1, h2.mono (Nat.zero_le _)⟩
set_option maxRecDepth 3000 in
set_option maxHeartbeats 2000000 in
theorem eqLists (A B : Option Addr) (c d : Nat) (ls : List (List Int)) (w : World) (hx : LAt w A ls) (hy : LAt w B ls) (hl : ls.length ≤ 1048576) (hs : ShortL ls) :
    Calls Try.prog 60 #[.slice A ls.length c, .slice B ls.length d] w (ReadsBool true w) := by
  have HS := Lib.hid hs
  clear hs
  go_enter Try.func60, Try.ntmps60
  go_wp2_with fail
  go_loopw [5] (fun i wr => ∃ k : Nat, k ≤ ls.length ∧ i = .int .i64 k ∧ Below w.heap.size w wr) (fun i _ => ls.length - (intOf i).toNat)
  case atStart => exact ⟨0, Nat.zero_le _, rfl, Below.refl _ _⟩
  case round =>
    obtain ⟨k, hk, rfl, hB⟩ := hrel
    by_cases hlt : k < ls.length
    · obtain ⟨b, off, Ai, ci, ys, rfl, hb, hcap, hc0, hI, HX⟩ := (hx.below hB).at_ hlt
      obtain ⟨b', off', Ai', ci', ys', rfl, hb', hcap', hc0', hI', HX'⟩ := (hy.below hB).at_ hlt
      have e2 : ys = ys' := HX.out.symm.trans HX'.out
      subst e2
      have p0 : (0 : Int) ≤ (k : Int) := by omega
      have p1 : (k : Int) < (ls.length : Int) := by omega
      have hyl : ys.length ≤ 1048576 := by have := HS.out k hlt; rw [HX.out] at this; exact this
      have hq := fun wq (h1 : IntsAt wq Ai ys) (h2 : IntsAt wq Ai' ys) => eqInts Ai Ai' ci ci' ys ys wq h1 h2 hyl
      rw [sameB_yes rfl] at hq
      have HQ := Lib.hid hq
      clear hq
      go_wp2_with fail
      go_quiet ((go_at_call 25; exact quietDrew (HQ.out _ (by exact hI) (by exact hI'))))
      go_wp2_with fail
      go_roundw
      case rel => exact ⟨k + 1, by omega, by go_num, belowDrewN hB _⟩
      case measure => simp [intOf]; omega
    · go_wp2_with fail
      go_ret
      exact ⟨rfl, hB⟩
end Go.Proofs.Ytfhdnanbhigpmaa
