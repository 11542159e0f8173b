/- The walk over counts: how many keys there are. -/
import Derived.Test.YtpalbdjcfhlniaaStatN
namespace Go.Proofs.Ytpalbdjcfhlniaa
open Go.RowKit

/-- A row's key. -/
def keyTo (cols : List Cm) (row : List Vl) (ics : List Ic) (j : Nat) : List UInt8 := (ics.take j).flatMap fun ic => layF ic.coll (atF cols row ic.name)
def keyF (cols : List Cm) (row : List Vl) (ics : List Ic) : List UInt8 := ics.flatMap fun ic => layF ic.coll (atF cols row ic.name)
/-- How many keys there are. -/
def countsF (cols : List Cm) (rows : List (List Vl)) (ics : List Ic) : Nat := (dist (rows.map fun r => keyF cols r ics)).length

theorem keyTo_all (cols : List Cm) (row : List Vl) (ics : List Ic) : keyTo cols row ics ics.length = keyF cols row ics := by simp [keyTo, keyF]
theorem keyTo_succ {cols : List Cm} {row : List Vl} {ics : List Ic} {j : Nat} {ic : Ic} (h : ics[j]? = some ic) : keyTo cols row ics (j + 1) = keyTo cols row ics j ++ layF ic.coll (atF cols row ic.name) := by
  simp [keyTo, List.take_add_one, h]
theorem layF_length (coll : Int) (v : Vl) : (layF coll v).length = 24 + v.s.size := by
  unfold layF
  simp only [List.length_append, leTo_length]
  have : (layS coll v).data.toList.length = v.s.size := by
    have h : (layS coll v).size = v.s.size := by unfold layS; split <;> simp [foldS_size]
    rw [Array.length_toList]; exact h
  omega
theorem atGo_mem {row : List Vl} {name : ByteArray} : ∀ (cols : List Cm) (k : Nat), atGo row name cols k = vl0 ∨ atGo row name cols k ∈ row
  | [], _ => .inl rfl
  | c :: cs, k => by
    unfold atGo
    split
    · rename_i h
      refine .inr ?_
      rw [List.getD_eq_getElem?_getD, List.getElem?_eq_getElem h.2]
      exact List.getElem_mem h.2
    · exact atGo_mem cs (k + 1)
theorem atF_size {cols : List Cm} {row : List Vl} {name : ByteArray} {S : Nat} (h : ∀ v ∈ row, v.s.size ≤ S) : (atF cols row name).s.size ≤ S := by
  rcases atGo_mem (row := row) (name := name) cols 0 with e | e
  · show (atGo row name cols 0).s.size ≤ S; rw [e]; exact Nat.zero_le _
  · exact h _ e
theorem keyTo_length {cols : List Cm} {row : List Vl} {ics : List Ic} (h : ∀ v ∈ row, v.s.size ≤ 4096) : ∀ j, j ≤ ics.length → (keyTo cols row ics j).length ≤ j * 4120
  | 0, _ => by simp [keyTo]
  | j + 1, hj => by
    rw [keyTo_succ (List.getElem?_eq_getElem (by omega)), List.length_append, layF_length]
    have := keyTo_length (cols := cols) (ics := ics) h j (by omega)
    have := atF_size (cols := cols) (name := (ics[j]'(by omega)).name) h
    omega

theorem run_key (w : World) (B : Nat) (v : Value) (l : List UInt8) (h : w.ownsRow B 5 1 v l.length (byteCells l)) : (convert 113 9 v).run Try.prog w = .ok (.string ⟨l.toArray⟩) w := by
  have h0 := h
  rcases h.2 with ⟨rfl, hn⟩ | ⟨g, cap, cur, rfl, _⟩
  · obtain rfl : l = [] := List.length_eq_zero_iff.1 hn
    rw [run_convert_bytes_string w 113 9 5 none 0 0 Try.underlying113 Try.underlying5 Try.underlying9]
    rfl
  · refine run_convert_bytes_back w 113 9 5 ⟨g, 0, none⟩ cap l Try.underlying113 Try.underlying5 Try.underlying9 fun j hj => ?_
    refine h0.cells rfl j _ ?_
    simp [byteCells, hj]

theorem Try.zero3 (w : World) : (zeroValue 3).run Try.prog w = .ok (.int .i64 0) w := by kernel_rfl

end Go.Proofs.Ytpalbdjcfhlniaa
