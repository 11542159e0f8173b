/- Records that the call itself lays: what is owned. -/
import Derived.Test.YtpalbdjcfhlniaaStatKh
namespace Go.Proofs.Ytpalbdjcfhlniaa
open Go.RowKit

/-- A list of rows that the call has laid: the list's own row, and each row's own row, all below R. -/
structure RecOwn (w : World) (B R : Nat) (o : Value) (L : List (List Vl)) (us : List Value) : Prop where
  len : us.length = L.length
  row : w.ownsRow B 66 1 o L.length us
  each : ∀ (j : Nat) u r, us[j]? = some u → L[j]? = some r → w.ownsRow B 78 3 u r.length (vlCells r) ∧ ∀ g, u.ownBlock = some g → g < R
  low : ∀ g, o.ownBlock = some g → g < R

theorem RecOwn.nil (w : World) (B R : Nat) : RecOwn w B R (.slice none 0 0) [] [] := ⟨rfl, World.ownsRow_nil _ _ _ _, fun j u s h => by simp at h, fun g h => by simp [Value.ownBlock] at h⟩
theorem RecOwn.grown {w w' : World} {B R : Nat} {o : Value} {L : List (List Vl)} {us : List Value} {row : Option Nat} (h : RecOwn w B R o L us) (hg : w.grownBy w' row) (hr : ∀ g, row = some g → R ≤ g) : RecOwn w' B R o L us := by
  have key : ∀ (v : Value), (∀ g, v.ownBlock = some g → g < R) → v.ownBlock = none ∨ v.ownBlock ≠ row := fun v hv => by
    cases hb : v.ownBlock with
    | none => exact .inl rfl
    | some g => exact .inr fun e => by have := hr g e.symm; have := hv g hb; omega
  exact ⟨h.len, h.row.kept hg (key o h.low), fun j u s hu hs => ⟨(h.each j u s hu hs).1.kept hg (key u (h.each j u s hu hs).2), (h.each j u s hu hs).2⟩, h.low⟩
theorem RecOwn.below {w w' : World} {B R : Nat} {o : Value} {L : List (List Vl)} {us : List Value} (h : RecOwn w B R o L us) (hb : Below w.heap.size w w') : RecOwn w' B R o L us := h.grown (goK hb none) fun g e => by cases e
theorem RecOwn.alloc {w : World} {B R : Nat} {o : Value} {L : List (List Vl)} {us : List Value} (h : RecOwn w B R o L us) (O : Obj) : RecOwn (w.alloc O) B R o L us := h.grown (World.grownBy_alloc w O none) fun g e => by cases e
theorem RecOwn.push {w w1 : World} {B R : Nat} {o v' u : Value} {L : List (List Vl)} {us : List Value} {r : List Vl} (h : RecOwn w B R o L us) (hu : w.ownsRow B 78 3 u r.length (vlCells r)) (hg : w.grownBy w1 o.ownBlock)
    (hown : w1.ownsRow B 66 1 v' (L.length + 1) (us ++ [u])) : RecOwn w1 B w1.heap.size v' (L ++ [r]) (us ++ [u]) := by
  refine ⟨by simp [h.len], by rw [List.length_append]; exact hown, fun j v t hv ht => ?_, fun g e => (hown.lt g e).2⟩
  have main : w1.ownsRow B 78 3 v t.length (vlCells t) := by
    by_cases hj : j < L.length
    · rw [List.getElem?_append_left (by rw [h.len]; exact hj)] at hv
      rw [List.getElem?_append_left hj] at ht
      have := (h.each j v t hv ht).1
      exact this.kept hg (own_ne this h.row (by decide))
    · have hjl : j = L.length := by have := (List.getElem?_eq_some_iff.1 ht).1; simp at this; omega
      subst hjl
      rw [List.getElem?_append_right (by rw [h.len]; exact Nat.le_refl _), h.len] at hv
      rw [List.getElem?_append_right (Nat.le_refl _)] at ht
      simp at hv ht
      subst hv; subst ht
      exact hu.kept hg (own_ne hu h.row (by decide))
  exact ⟨main, fun g e => (main.lt g e).2⟩
theorem RecOwn.seen {w : World} {B R : Nat} {o : Value} {L : List (List Vl)} {us : List Value} (h : RecOwn w B R o L us) (hz : ∀ r ∈ L, ∀ v ∈ r, v.s.size ≤ maxLen) : Sl RowE 1 w o L :=
  seq_of_own h.row fun g k r hg hr => by
    have hkl := (List.getElem?_eq_some_iff.1 hr).1
    have hu : us[k]? = some (us[k]'(by rw [h.len]; exact hkl)) := List.getElem?_eq_getElem _
    have hc := h.row.cells hg k _ hu
    rw [add_zero] at hc
    refine ⟨_, by rw [Nat.mul_one]; exact hc, vals_of_own (h.each k _ r hu hr).1 (hz r (List.mem_of_getElem? hr))⟩

theorem recs_take {cols : List Cm} {rows : List (List Vl)} {ics : List Ic} {k : Nat} {r : List Vl} (h : rows[k]? = some r) : (rows.take (k + 1)).map (fun r => recF cols r ics) = (rows.take k).map (fun r => recF cols r ics) ++ [recF cols r ics] := by
  rw [List.take_add_one, h, List.map_append]; rfl
theorem recF_length (cols : List Cm) (r : List Vl) (ics : List Ic) : (recF cols r ics).length = ics.length + 1 := by
  unfold recF; rw [List.length_append, recTo_length (Nat.le_refl _)]; rfl
theorem recF_size {cols : List Cm} {r : List Vl} {ics : List Ic} {S : Nat} (h : ∀ v ∈ r, v.s.size ≤ S) : ∀ v ∈ recF cols r ics, v.s.size ≤ S := fun v hv => by
  unfold recF recTo at hv
  rcases List.mem_append.1 hv with h1 | h1
  · obtain ⟨ic, _, rfl⟩ := List.mem_map.1 h1
    exact atF_size h
  · simp at h1
    subst h1
    rw [← List.getD_eq_getElem?_getD, List.getD_eq_getElem?_getD]
    cases hk : r[0]? with
    | none => exact Nat.zero_le _
    | some v => exact h v (List.mem_of_getElem? hk)

end Go.Proofs.Ytpalbdjcfhlniaa
