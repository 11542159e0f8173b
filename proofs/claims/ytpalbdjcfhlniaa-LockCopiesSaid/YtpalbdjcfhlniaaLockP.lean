/- Plain facts on lists of levels: what asking and dropping make of them. No program in sight. -/
import Derived.RowKit
import Derived.Deep.Draws
import Derived.Laws.AppendOwn
import Derived.OwnWalk
import Derived.Laws.Rows
namespace Go.Proofs.Ytpalbdjcfhlniaa
open Go.RowKit

/-- Is there such a one? -/
def isB (n : Nat) (who : Int) : Bool := decide (0 ≤ who) && decide (who < n)

/-- The highest level that another one holds, among the first k. -/
def oth (xs : List Int) (who : Int) : Nat → Int
  | 0 => 0
  | k + 1 => if (k : Int) = who then oth xs who k else max (oth xs who k) (xs.getD k 0)

theorem oth_succ_eq (xs : List Int) (who : Int) (k : Nat) (h : (k : Int) = who) : oth xs who (k + 1) = oth xs who k := by simp [oth, h]
theorem oth_succ_ne (xs : List Int) (who : Int) (k : Nat) (h : (k : Int) ≠ who) : oth xs who (k + 1) = max (oth xs who k) (xs.getD k 0) := by simp [oth, h]

theorem oth_succ_ne' (xs : List Int) (who : Int) (k : Nat) (h : (k : Int) ≠ who) (x : Int) (hx : xs.getD k 0 = x) : oth xs who (k + 1) = if oth xs who k < x then x else oth xs who k := by
  rw [oth_succ_ne xs who k h, hx]; split <;> omega

theorem oth_nonneg (xs : List Int) (who : Int) (k : Nat) : 0 ≤ oth xs who k := by
  induction k with
  | zero => simp [oth]
  | succ k ih => simp only [oth]; split <;> omega

/-- What asking for a level makes of the levels, and what it answers. -/
def askF (xs : List Int) (who level : Int) : List Int × Int :=
  if isB xs.length who = false ∨ ¬ (level = 1 ∨ level = 2 ∨ level = 4) then (xs, 1)
  else if level ≤ xs.getD who.toNat 0 then (xs, 0)
  else if level = 1 then (if 3 ≤ oth xs who xs.length then (xs, 15) else (xs.set who.toNat 1, 0))
  else if level = 2 then (if xs.getD who.toNat 0 ≠ 1 then (xs, 10) else if 2 ≤ oth xs who xs.length then (xs, 15) else (xs.set who.toNat 2, 0))
  else if xs.getD who.toNat 0 < 2 then (xs, 10)
  else if oth xs who xs.length ≠ 0 then (xs.set who.toNat 3, 15) else (xs.set who.toNat 4, 0)

/-- What dropping to a level makes of them, and what it answers. -/
def dropF (xs : List Int) (who level : Int) : List Int × Int :=
  if isB xs.length who = false ∨ level < 0 ∨ xs.getD who.toNat 0 < level then (xs, 1) else (xs.set who.toNat level, 0)

theorem askF_in {xs : List Int} {i : Nat} {x o : Int} (hi : i < xs.length) (hx : xs.getD i 0 = x) (ho : oth xs i xs.length = o) (level : Int) :
    askF xs i level = if ¬ (level = 1 ∨ level = 2 ∨ level = 4) then (xs, 1) else if level ≤ x then (xs, 0)
      else if level = 1 then (if 3 ≤ o then (xs, 15) else (xs.set i 1, 0))
      else if level = 2 then (if x ≠ 1 then (xs, 10) else if 2 ≤ o then (xs, 15) else (xs.set i 2, 0))
      else if x < 2 then (xs, 10) else if o ≠ 0 then (xs.set i 3, 15) else (xs.set i 4, 0) := by
  have hB : isB xs.length (i : Int) = true := by simp [isB, hi]
  simp only [askF, hB, Int.toNat_natCast, hx, ho, Bool.true_eq_false, false_or]
theorem askF_out {xs : List Int} {who : Int} (h : isB xs.length who = false) (level : Int) : askF xs who level = (xs, 1) := by simp [askF, h]
theorem dropF_in {xs : List Int} {i : Nat} {x : Int} (hi : i < xs.length) (hx : xs.getD i 0 = x) (level : Int) :
    dropF xs i level = if level < 0 ∨ x < level then (xs, 1) else (xs.set i level, 0) := by
  have hB : isB xs.length (i : Int) = true := by simp [isB, hi]
  simp only [dropF, hB, Int.toNat_natCast, hx, Bool.true_eq_false, false_or]
theorem dropF_out {xs : List Int} {who : Int} (h : isB xs.length who = false) (level : Int) : dropF xs who level = (xs, 1) := by simp [dropF, h]

theorem askF_length (xs : List Int) (who level : Int) : (askF xs who level).1.length = xs.length := by
  unfold askF; (repeat' split) <;> simp
theorem dropF_length (xs : List Int) (who level : Int) : (dropF xs who level).1.length = xs.length := by
  unfold dropF; split <;> simp

/-- Who among the first k holds a level, or a higher one. -/
def hold (xs : List Int) (level : Int) : Nat → List Int
  | 0 => []
  | k + 1 => if level ≤ xs.getD k 0 then hold xs level k ++ [(k : Int)] else hold xs level k

theorem hold_le (xs : List Int) (level : Int) (k : Nat) : (hold xs level k).length ≤ k := by
  induction k with
  | zero => simp [hold]
  | succ k ih => simp only [hold]; split <;> first | omega | (simp; omega)
theorem hold_yes {xs : List Int} {level : Int} {k : Nat} (h : level ≤ xs.getD k 0) : hold xs level (k + 1) = hold xs level k ++ [(k : Int)] := by simp only [hold, if_pos h]
theorem hold_no {xs : List Int} {level : Int} {k : Nat} (h : ¬ level ≤ xs.getD k 0) : hold xs level (k + 1) = hold xs level k := by simp only [hold, if_neg h]

end Go.Proofs.Ytpalbdjcfhlniaa
