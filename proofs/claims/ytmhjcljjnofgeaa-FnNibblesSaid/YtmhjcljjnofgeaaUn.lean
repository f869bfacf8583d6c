/- Unpacking of nibbles, at both packages. Conditions: as each contract says. -/
import Derived.Test.YtmhjcljjnofgeaaPr
import Derived.Test.YtmhjcljjnofgeaaDec
namespace Go.Proofs.Ytmhjcljjnofgeaa
open Go.RowKit

theorem wp_append_one {w : World} {o : Oper} {a : Act} {K : Act → World → Prop} {Q : Exit → Act → World → Prop} (s x : Operand)
    (hop : o.op = Op.call { callee := Callee.builtin Builtin.append, args := #[s, x], argTypes := #[27, 27] })
    (B : Nat) (v : Value) (xs : List Int) (n : Int) (hs : a.eval s = v) (hown : Fresh B w v xs) (g : Nat) (hx : a.eval x = .slice (some ⟨g, 0, none⟩) 1 1)
    (hcell : w.cell? ⟨g, 0, none⟩ = some (.int .i64 n)) (hl : xs.length ≤ 1048576) (hB : B ≤ w.heap.size)
    (h : ∀ v' w', Fresh B w' v' (xs ++ [n]) → w.grownBy w' v.ownBlock → Below B w w' → K (a.put o.dst v') w') : o.wp Try.prog a w K Q := by
  obtain ⟨i0, hi, hz0, hz1, hz2⟩ := info_parts intInfo
  refine wp_append_own _ s x 27 hop B 2 i0 (.int .i64 0) 1 8 Try.underlying27 hi hz0 hz1 hz2 rfl (by decide) v xs.length (xs.map (Value.int .i64)) hs hown ⟨g, 0, none⟩ 1 1 [.int .i64 n] hx rfl ?_ ?_ ?_ ?_ hB ?_
  · intro j u hj
    match j, hj with
    | 0, hj => simp at hj; subst hj; simpa [Addr.add] using hcell
  · intro u hu; simp at hu; subst hu; rfl
  · unfold maxLen; omega
  · omega
  · intro v' w' hown' hgrow _
    refine h v' w' ?_ hgrow ((Below.refl _ _).grown hgrow hB hown.block)
    simpa [Fresh] using hown'
theorem step_append_one {w : World} {ops : Array Oper} {o : Oper} {a : Act} {K : Act → World → Prop} {Q : Exit → Act → World → Prop} {E : Prop} (hgd : o.guard = none) (s x : Operand)
    (hop : o.op = Op.call { callee := Callee.builtin Builtin.append, args := #[s, x], argTypes := #[27, 27] })
    (B : Nat) (v : Value) (xs : List Int) (n : Int) (hs : a.eval s = v) (hown : Fresh B w v xs) (g : Nat) (hx : a.eval x = .slice (some ⟨g, 0, none⟩) 1 1)
    (hcell : w.cell? ⟨g, 0, none⟩ = some (.int .i64 n)) (hl : xs.length ≤ 1048576) (hB : B ≤ w.heap.size)
    (h : ∀ v' w', Fresh B w' v' (xs ++ [n]) → w.grownBy w' v.ownBlock → Below B w w' → K (a.put o.dst v') w') :
    if Region.wanted o (yielded ops a.tmps) = true then Oper.wp Try.prog o a w K Q else E := by
  have hw : Region.wanted o (yielded ops a.tmps) = true := by simp [Region.wanted, hgd]
  rw [if_pos hw]
  exact wp_append_one s x hop B v xs n hs hown g hx hcell hl hB h
theorem Fresh.ad {B : Nat} {w : World} {v : Value} {xs : List Int} (h : Fresh B w v xs) (o : Obj) : Fresh B (w.alloc o).drew v xs := World.ownsRow.alloc h o

def unAt (s : ByteArray) (i : Nat) : Int := if i % 2 = 0 then byteAt s (i / 2) / 16 % 16 else byteAt s (i / 2) % 16
def unb (s : ByteArray) (n : Nat) : List Int := (List.range n).map (unAt s)
theorem unb_len (s : ByteArray) (n : Nat) : (unb s n).length = n := by simp [unb]
theorem unb_more (s : ByteArray) (n : Nat) : unb s (n + 1) = unb s n ++ [unAt s n] := by simp [unb, List.range_succ]
theorem unAt_bd (s : ByteArray) (n : Nat) : 0 ≤ unAt s n ∧ unAt s n ≤ 15 := by unfold unAt; split <;> omega
theorem unb_bd (s : ByteArray) (n : Nat) : ∀ k, k < (unb s n).length → 0 ≤ (unb s n).getD k 0 ∧ (unb s n).getD k 0 ≤ 15 := by
  intro k hk
  rw [getD_at _ _ hk]
  simp only [unb, List.getElem_map]
  exact unAt_bd s _
theorem unb_allIn (s : ByteArray) (n : Nat) (h : n ≤ 3000) : allIn (unb s n) 15 = true := by
  simp only [allIn, Bool.and_eq_true, decide_eq_true_eq, List.all_eq_true]
  refine ⟨by rw [unb_len]; exact h, fun x hx => inR_iff.2 ?_⟩
  obtain ⟨k, hk, rfl⟩ := List.mem_iff_getElem.1 hx
  have := unb_bd s n k hk
  rwa [getD_at _ _ hk] at this
def unP (s : ByteArray) (n : Nat) : ByteArray := strOfNums (bytesBy (nib (unb s n)) ((n + 1) / 2))
def unOk (s : ByteArray) (c : Int) : Bool := inR c 0 3000 && decide ((s.size : Int) = (c + 1) / 2) && decide (unP s c.toNat = s)
def unL (s : ByteArray) (c : Int) : List Int := if unOk s c then unb s c.toNat else []
theorem unL_no {s : ByteArray} {c : Int} (h : unOk s c = false) : unL s c = [] := by simp [unL, h]
theorem str_eq (a b : ByteArray) : (a.toList == b.toList) = decide (a = b) := by
  rw [Bool.eq_iff_iff]
  simp only [beq_iff_eq, decide_eq_true_eq]
  constructor
  · intro h
    rw [ByteArray.toList_eq, ByteArray.toList_eq] at h
    exact ByteArray.ext (Array.toList_inj.1 h)
  · intro h; rw [h]
def IntsBool (B : Nat) (xs : List Int) (b : Bool) (w : World) (e : Ending) (w' : World) : Prop := ∃ v, e = .returned (.tuple #[v, .bool b]) ∧ Fresh B w' v xs ∧ Below B w w'
theorem mask15i (x : Int) (h0 : 0 ≤ x) (h1 : x < 256) : bits BinOp.and IntKind.i64 x 15 = x % 16 := bits_mask .i64 8 (by decide) (fun n h0 h1 => IntWalk.i64_in n (by omega)) 4 (by decide) x h0 h1
theorem ret_vb {a b : Value} {p q : Bool} (h : a = b) (h2 : p = q) : Ending.returned (.tuple #[a, .bool p]) = .returned (.tuple #[b, .bool q]) := by rw [h, h2]
set_option maxRecDepth 100000 in
set_option maxHeartbeats 2000000 in
theorem specUn (s : ByteArray) (cn : Int) (w : World) (hs : s.size ≤ 1048576) : Calls Try.prog 24 #[.string s, .int .i64 cn] w (IntsBool w.heap.size (unL s cn) (unOk s cn) w) := by
  have hE : Fresh w.heap.size (w.alloc (.cells #[] 2)) (.slice (some ⟨w.heap.size, 0, none⟩) 0 0) [] := Fresh.empty (Nat.le_refl _)
  have hB0 : Below w.heap.size w (w.alloc (.cells #[] 2)) := (by repeat (first | exact Below.refl _ _ | assumption | refine Below.setCell ?_ (by first | omega | (simp <;> omega)) _ | refine Below.alloc ?_ (by first | omega | (simp <;> omega)) _ | refine Below.drew ?_))
  cases hr : inR cn 0 3000
  · have HK : Hid (unOk s cn = false) := by simp [Hid, unOk, hr]
    go_enter Try.func24, Try.ntmps24
    go_wp2_with (first | (go_at_call 47; refine (inRange_any _ _ _ _).mono ?_; rintro e w' ⟨rfl, rfl⟩))
    go_ret2
    exact ⟨_, ret_vb rfl HK.out.symm, by rw [unL_no HK.out]; exact hE, hB0⟩
  have hcn := inR_iff.1 hr
  obtain ⟨n, rfl⟩ := Int.eq_ofNat_of_zero_le hcn.1
  have hn : n ≤ 3000 := by omega
  clear hcn
  by_cases hsz : (s.size : Int) = ((n : Int) + 1) / 2
  · have hne : ((s.size : Int) != ((n : Int) + 1) / 2) = false := by simpa using hsz
    have hsz2 : (n + 1) / 2 = s.size := by omega
    have HSZ := Lib.hid hsz2
    clear hsz hsz2
    go_enter Try.func24, Try.ntmps24
    go_wp2_with (first | (go_at_call 47; refine (inRange_any _ _ _ _).mono ?_; rintro e w' ⟨rfl, rfl⟩))
    clear hne
    go_loopw [6, 7] (fun v i wr => ∃ (k : Nat) (ys : List Int), k ≤ n ∧ i = .int .i64 k ∧ Fresh w.heap.size wr v ys ∧ Below w.heap.size w wr ∧ Hid (unb s k = ys)) (fun _ i _ => n - (intOf i).toNat)
    case atStart => exact ⟨0, [], Nat.zero_le _, rfl, hE, hB0, rfl⟩
    case round =>
      obtain ⟨k, ys, hk, rfl, hF, hB, HY⟩ := hrel
      clear hE hB0
      have hyl : ys.length ≤ 1048576 := by rw [← HY.out, unb_len]; omega
      by_cases hlt : k < n
      · obtain ⟨j, hj⟩ : ∃ j, k / 2 = j := ⟨_, rfl⟩
        have hjs : j < s.size := by have := HSZ.out; omega
        have c0 : (0 : Int) ≤ (s[j].toNat : Int) := by omega
        have c1 : (s[j].toNat : Int) ≤ 255 := by have := s[j].toNat_lt; omega
        have p0 : (0 : Int) ≤ (k : Int) := by omega
        have p1 : (k : Int) < (n : Int) := by omega
        have q0 : (0 : Int) ≤ (j : Int) := by omega
        have q1 : (j : Int) < (s.size : Int) := by omega
        have hd : (k : Int) / 2 = (j : Int) := by omega
        have hBz := hB.size
        by_cases he : k % 2 = 0
        · have hr2 : (k : Int) % 2 = 0 := by omega
          have HYN : Hid (unb s (k + 1) = ys ++ [(s[j].toNat : Int) / 16 % 16]) := by unfold Hid; rw [unb_more, HY.out, unAt, if_pos he, hj, byteAt_is s j hjs]
          have d0 : (0 : Int) ≤ (s[j].toNat : Int) / 16 := by omega
          have d1 : (s[j].toNat : Int) / 16 ≤ 15 := by omega
          clear hj he
          go_wp2_with (first | (at_builtin; refine append_one rfl (.tmp 39) (.tmp 42) rfl w.heap.size _ ys ((s[j].toNat : Int) / 16 % 16) rfl (hF.below (by repeat (first | exact Below.refl _ _ | assumption | refine Below.setCell ?_ (by first | omega | (simp <;> omega)) _ | refine Below.alloc ?_ (by first | omega | (simp <;> omega)) _ | refine Below.drew ?_))) wr.heap.size rfl (by simp) hyl (by simp; omega) ?_; intro v1 w1 hF1 hg1 hb1))
          clear hd hr2
          go_roundw
          case rel => exact ⟨k + 1, _, by omega, by go_num, hF1, (hB.alloc hB.size _).trans hb1, HYN⟩
          case measure => simp [intOf]; omega
        · have hr2 : (k : Int) % 2 = 1 := by omega
          have HYN : Hid (unb s (k + 1) = ys ++ [(s[j].toNat : Int) % 16]) := by unfold Hid; rw [unb_more, HY.out, unAt, if_neg he, hj, byteAt_is s j hjs]
          clear hj he
          go_wp2_with (first | (at_builtin; refine append_one rfl (.tmp 39) (.tmp 42) rfl w.heap.size _ ys ((s[j].toNat : Int) % 16) rfl (hF.below (by repeat (first | exact Below.refl _ _ | assumption | refine Below.setCell ?_ (by first | omega | (simp <;> omega)) _ | refine Below.alloc ?_ (by first | omega | (simp <;> omega)) _ | refine Below.drew ?_))) wr.heap.size rfl (by simp) hyl (by simp; omega) ?_; intro v1 w1 hF1 hg1 hb1))
          clear hd hr2
          go_roundw
          case rel => exact ⟨k + 1, _, by omega, by go_num, hF1, (hB.alloc hB.size _).trans hb1, HYN⟩
          case measure => simp [intOf]; omega
      · have p1 : ¬ (k : Int) < (n : Int) := by omega
        obtain rfl : k = n := by omega
        obtain ⟨Ah, ch, rfl, hIh, -⟩ := hF.ints
        obtain ⟨X, hX⟩ : ∃ X, unP s k = X := ⟨_, rfl⟩
        have HN : Hid (nibS ys = X) := by unfold Hid; rw [nibS, ← HY.out, unb_allIn s k hn, if_pos rfl, unb_len, ← hX]; rfl
        have HOK : Hid (unOk s (k : Int) = decide (X = s)) := by
          unfold Hid
          rw [unOk, hr, ← hX, show decide ((s.size : Int) = ((k : Int) + 1) / 2) = true from decide_eq_true (by have := HSZ.out; omega)]
          simp
        have HX := Lib.hid hX
        clear hX
        go_wp2_with fail
        refine (specNibs Ah ch ys _ hIh hyl).mono ?_
        rintro e w2 ⟨rfl, hb2⟩
        rw [HN.out]
        have hB2 := belowStep hb2 hB
        have hF2 := hF.below hb2
        by_cases hXs : X = s
        · have hq : (X.toList == s.toList) = true := by rw [str_eq]; simpa using hXs
          have HOK2 : Hid (unOk s (k : Int) = true) := by unfold Hid; rw [HOK.out]; simpa using hXs
          clear hXs
          go_wp2_with fail
          go_ret2
          exact ⟨_, ret_vb rfl HOK2.out.symm, by rw [unL, HOK2.out, if_pos rfl, Int.toNat_natCast, HY.out]; exact hF2, hB2⟩
        · have hq : (X.toList == s.toList) = false := by rw [str_eq]; simpa using hXs
          have HOK2 : Hid (unOk s (k : Int) = false) := by unfold Hid; rw [HOK.out]; simpa using hXs
          clear hXs
          have hE2 : Fresh w.heap.size (w2.alloc (.cells #[] 2)) (.slice (some ⟨w2.heap.size, 0, none⟩) 0 0) [] := Fresh.empty hB2.size
          go_wp2_with fail
          go_ret2
          exact ⟨_, ret_vb rfl HOK2.out.symm, by rw [unL_no HOK2.out]; exact hE2, hB2.alloc hB2.size _⟩
  · have hne : ((s.size : Int) != ((n : Int) + 1) / 2) = true := by simpa using hsz
    have HK : Hid (unOk s (n : Int) = false) := by simp [Hid, unOk, hsz]
    clear hsz
    go_enter Try.func24, Try.ntmps24
    go_wp2_with (first | (go_at_call 47; refine (inRange_any _ _ _ _).mono ?_; rintro e w' ⟨rfl, rfl⟩))
    go_ret2
    exact ⟨_, ret_vb rfl HK.out.symm, by rw [unL_no HK.out]; exact hE, hB0⟩
end Go.Proofs.Ytmhjcljjnofgeaa
