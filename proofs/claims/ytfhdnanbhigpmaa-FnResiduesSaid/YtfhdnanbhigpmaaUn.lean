/- Unpacking of nibbles, at both packages. Conditions: as each contract says. -/
import Derived.Test.YtfhdnanbhigpmaaPr
import Derived.Test.YtfhdnanbhigpmaaBt
namespace Go.Proofs.Ytfhdnanbhigpmaa
open Go.RowKit

theorem wp_append_one {w : World} {o : Oper} {a : Act} {K : Act → World → Prop} {Q : Exit → Act → World → Prop} (s x : Operand)
    (hop : o.op = Op.call { callee := Callee.builtin Builtin.append, args := #[s, x], argTypes := #[31, 31] })
    (B : Nat) (v : Value) (xs : List Int) (n : Int) (hs : a.eval s = v) (hown : Fresh B w v xs) (g : Nat) (hx : a.eval x = .slice (some ⟨g, 0, none⟩) 1 1)
    (hcell : w.cell? ⟨g, 0, none⟩ = some (.int .i64 n)) (hl : xs.length ≤ 1048576) (hB : B ≤ w.heap.size)
    (h : ∀ v' w', Fresh B w' v' (xs ++ [n]) → w.grownBy w' v.ownBlock → Below B w w' → K (a.put o.dst v') w') : o.wp Try.prog a w K Q := by
  obtain ⟨i0, hi, hz0, hz1, hz2⟩ := info_parts intInfo
  refine wp_append_own _ s x 31 hop B 2 i0 (.int .i64 0) 1 8 Try.underlying31 hi hz0 hz1 hz2 rfl (by decide) v xs.length (xs.map (Value.int .i64)) hs hown ⟨g, 0, none⟩ 1 1 [.int .i64 n] hx rfl ?_ ?_ ?_ ?_ hB ?_
  · intro j u hj
    match j, hj with
    | 0, hj => simp at hj; subst hj; simpa [Addr.add] using hcell
  · intro u hu; simp at hu; subst hu; rfl
  · unfold maxLen; omega
  · omega
  · intro v' w' hown' hgrow _
    refine h v' w' ?_ hgrow ((Below.refl _ _).grown hgrow hB hown.block)
    simpa [Fresh] using hown'
theorem step_append_one {w : World} {ops : Array Oper} {o : Oper} {a : Act} {K : Act → World → Prop} {Q : Exit → Act → World → Prop} {E : Prop} (hgd : o.guard = none) (s x : Operand)
    (hop : o.op = Op.call { callee := Callee.builtin Builtin.append, args := #[s, x], argTypes := #[31, 31] })
    (B : Nat) (v : Value) (xs : List Int) (n : Int) (hs : a.eval s = v) (hown : Fresh B w v xs) (g : Nat) (hx : a.eval x = .slice (some ⟨g, 0, none⟩) 1 1)
    (hcell : w.cell? ⟨g, 0, none⟩ = some (.int .i64 n)) (hl : xs.length ≤ 1048576) (hB : B ≤ w.heap.size)
    (h : ∀ v' w', Fresh B w' v' (xs ++ [n]) → w.grownBy w' v.ownBlock → Below B w w' → K (a.put o.dst v') w') :
    if Region.wanted o (yielded ops a.tmps) = true then Oper.wp Try.prog o a w K Q else E := by
  have hw : Region.wanted o (yielded ops a.tmps) = true := by simp [Region.wanted, hgd]
  rw [if_pos hw]
  exact wp_append_one s x hop B v xs n hs hown g hx hcell hl hB h
theorem Fresh.ad {B : Nat} {w : World} {v : Value} {xs : List Int} (h : Fresh B w v xs) (o : Obj) : Fresh B (w.alloc o).drew v xs := World.ownsRow.alloc h o

def unAt (s : ByteArray) (i : Nat) : Int := if i % 2 = 0 then byteAt s (i / 2) / 16 % 16 else byteAt s (i / 2) % 16
def unb (s : ByteArray) (n : Nat) : List Int := (List.range n).map (unAt s)
theorem unb_len (s : ByteArray) (n : Nat) : (unb s n).length = n := by simp [unb]
theorem unb_more (s : ByteArray) (n : Nat) : unb s (n + 1) = unb s n ++ [unAt s n] := by simp [unb, List.range_succ]
theorem unAt_bd (s : ByteArray) (n : Nat) : 0 ≤ unAt s n ∧ unAt s n ≤ 15 := by unfold unAt; split <;> omega
theorem unb_bd (s : ByteArray) (n : Nat) : ∀ k, k < (unb s n).length → 0 ≤ (unb s n).getD k 0 ∧ (unb s n).getD k 0 ≤ 15 := by
  intro k hk
  rw [getD_at _ _ hk]
  simp only [unb, List.getElem_map]
  exact unAt_bd s _
theorem unb_allIn (s : ByteArray) (n : Nat) (h : n ≤ 3000) : allIn (unb s n) 15 = true := by
  simp only [allIn, Bool.and_eq_true, decide_eq_true_eq, List.all_eq_true]
  refine ⟨by rw [unb_len]; exact h, fun x hx => inR_iff.2 ?_⟩
  obtain ⟨k, hk, rfl⟩ := List.mem_iff_getElem.1 hx
  have := unb_bd s n k hk
  rwa [getD_at _ _ hk] at this
def unP (s : ByteArray) (n : Nat) : ByteArray := strOfNums (bytesBy (nib (unb s n)) ((n + 1) / 2))
def unOk (s : ByteArray) (c : Int) : Bool := inR c 0 3000 && decide ((s.size : Int) = (c + 1) / 2) && decide (unP s c.toNat = s)
def unL (s : ByteArray) (c : Int) : List Int := if unOk s c then unb s c.toNat else []
theorem unL_no {s : ByteArray} {c : Int} (h : unOk s c = false) : unL s c = [] := by simp [unL, h]
theorem str_eq (a b : ByteArray) : (a.toList == b.toList) = decide (a = b) := by
  rw [Bool.eq_iff_iff]
  simp only [beq_iff_eq, decide_eq_true_eq]
  constructor
  · intro h
    rw [ByteArray.toList_eq, ByteArray.toList_eq] at h
    exact ByteArray.ext (Array.toList_inj.1 h)
  · intro h; rw [h]
def IntsBool (B : Nat) (xs : List Int) (b : Bool) (w : World) (e : Ending) (w' : World) : Prop := ∃ v, e = .returned (.tuple #[v, .bool b]) ∧ Fresh B w' v xs ∧ Below B w w'
theorem mask15i (x : Int) (h0 : 0 ≤ x) (h1 : x < 256) : bits BinOp.and IntKind.i64 x 15 = x % 16 := bits_mask .i64 8 (by decide) (fun n h0 h1 => IntWalk.i64_in n (by omega)) 4 (by decide) x h0 h1
theorem ret_vb {a b : Value} {p q : Bool} (h : a = b) (h2 : p = q) : Ending.returned (.tuple #[a, .bool p]) = .returned (.tuple #[b, .bool q]) := by rw [h, h2]
end Go.Proofs.Ytfhdnanbhigpmaa
