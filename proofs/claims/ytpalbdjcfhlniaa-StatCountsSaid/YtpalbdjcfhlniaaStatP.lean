/- Plain words for texts: small letters. No program in sight. -/
import Derived.RowKit
namespace Go.Proofs.Ytpalbdjcfhlniaa

/-- A byte as a small letter. -/
def lowB (c : UInt8) : UInt8 := if 65 ≤ c.toNat ∧ c.toNat ≤ 90 then c + 32 else c
/-- A text in small letters. -/
def foldL (l : List UInt8) : List UInt8 := l.map lowB
def foldS (s : ByteArray) : ByteArray := ⟨(foldL s.data.toList).toArray⟩

theorem lowB_yes {c : UInt8} (h : 65 ≤ c.toNat) (h' : c.toNat ≤ 90) : (lowB c).toNat = c.toNat + 32 := by
  unfold lowB; rw [if_pos ⟨h, h'⟩, UInt8.toNat_add]; show (c.toNat + 32) % 256 = _; omega
theorem lowB_no {c : UInt8} (h : ¬ (65 ≤ c.toNat ∧ c.toNat ≤ 90)) : lowB c = c := by unfold lowB; rw [if_neg h]

/-- The first k bytes small, the rest as they were. -/
def mixL (l : List UInt8) (k : Nat) : List UInt8 := (l.take k).map lowB ++ l.drop k

theorem mixL_zero (l : List UInt8) : mixL l 0 = l := by simp [mixL]
theorem mixL_all (l : List UInt8) : mixL l l.length = foldL l := by simp [mixL, foldL]
theorem mixL_length (l : List UInt8) (k : Nat) : (mixL l k).length = l.length := by simp [mixL]; omega
theorem mixL_at (l : List UInt8) (k j : Nat) (hj : j < l.length) : (mixL l k)[j]? = some (if j < k then lowB l[j] else l[j]) := by
  unfold mixL
  rw [List.getElem?_append]
  simp only [List.length_map, List.length_take]
  by_cases h : j < k
  · rw [if_pos (by omega), if_pos h, List.getElem?_map, List.getElem?_take, if_pos h, List.getElem?_eq_getElem hj]; rfl
  · rw [if_neg (by omega), if_neg h, List.getElem?_drop, show k + (j - min k l.length) = j by omega, List.getElem?_eq_getElem hj]

/-- The first k bytes as small letters. -/
def foldTo (s : ByteArray) (k : Nat) : ByteArray := ⟨((s.data.toList.take k).map lowB).toArray⟩

theorem foldTo_zero (s : ByteArray) : foldTo s 0 = ⟨#[]⟩ := by simp [foldTo]
theorem foldTo_all (s : ByteArray) : foldTo s s.size = foldS s := by
  unfold foldTo foldS foldL
  rw [show s.data.toList.take s.size = s.data.toList from List.take_of_length_le (Nat.le_of_eq Array.length_toList)]
theorem foldTo_size (s : ByteArray) (k : Nat) (h : k ≤ s.size) : (foldTo s k).size = k := by
  have : k ≤ s.data.size := h
  show ((s.data.toList.take k).map lowB).toArray.size = k
  simp; omega
theorem foldTo_succ (s : ByteArray) (k : Nat) (h : k < s.size) (c : UInt8) (hc : c = lowB (s[k]'h)) : foldTo s (k + 1) = foldTo s k ++ ⟨#[c]⟩ := by
  subst hc
  unfold foldTo
  rw [List.take_succ_eq_append_getElem (by simpa using h), List.map_append]
  apply ByteArray.ext
  simp [ByteArray.data_append]
  rfl

theorem foldL_length (l : List UInt8) : (foldL l).length = l.length := by simp [foldL]
theorem foldS_size (s : ByteArray) : (foldS s).size = s.size := by
  show (foldL s.data.toList).toArray.size = s.data.size
  simp [foldL]

end Go.Proofs.Ytpalbdjcfhlniaa
