/- Plain laws of keys: a value's bytes are a code; how many distinct keys there are. -/
import Derived.Test.YtpalbdjcfhlniaaStatT
namespace Go.Proofs.Ytpalbdjcfhlniaa
open Go.RowKit

theorem byte_eq {a b : Nat} (h : UInt8.ofNat a = UInt8.ofNat b) : a % 256 = b % 256 := by
  have := congrArg UInt8.toNat h
  simpa using this

theorem leTo_inj (n m : Nat) : ∀ k, leTo n k = leTo m k → n % 256 ^ k = m % 256 ^ k
  | 0, _ => by simp [Nat.mod_one]
  | k + 1, h => by
    rw [leTo_succ, leTo_succ] at h
    obtain ⟨h1, h2⟩ := List.append_inj h (by rw [leTo_length, leTo_length])
    have e1 := leTo_inj n m k h1
    injection h2 with h2
    have e2 := byte_eq h2
    rw [Nat.pow_succ, Nat.mod_mul, Nat.mod_mul, e1, e2]
theorem leTo_inj8 {n m : Nat} (hn : n < 18446744073709551616) (hm : m < 18446744073709551616) (h : leTo n 8 = leTo m 8) : n = m := by
  have := leTo_inj n m 8 h
  rw [show (256 ^ 8 : Nat) = 18446744073709551616 from rfl, Nat.mod_eq_of_lt hn, Nat.mod_eq_of_lt hm] at this
  exact this

theorem layS_size (coll : Int) (v : Vl) : (layS coll v).size = v.s.size := by unfold layS; split <;> simp [foldS_size]

/-- A value's bytes end by themselves. -/
theorem lay_code {coll : Int} {v v' : Vl} {x y : List UInt8} (hv : v.s.size ≤ 4096) (hv' : v'.s.size ≤ 4096) (h : layF coll v ++ x = layF coll v' ++ y) :
    (u64 v.kind = u64 v'.kind ∧ u64 v.n = u64 v'.n ∧ (layS coll v).data.toList = (layS coll v').data.toList) ∧ x = y := by
  unfold layF at h
  simp only [List.append_assoc] at h
  obtain ⟨h1, h⟩ := List.append_inj h (by rw [leTo_length, leTo_length])
  obtain ⟨h2, h⟩ := List.append_inj h (by rw [leTo_length, leTo_length])
  obtain ⟨h3, h⟩ := List.append_inj h (by rw [leTo_length, leTo_length])
  have e3 := leTo_inj8 (by rw [layS_size]; omega) (by rw [layS_size]; omega) h3
  obtain ⟨h4, h5⟩ := List.append_inj h (by rw [Array.length_toList, Array.length_toList]; exact e3)
  exact ⟨⟨leTo_inj8 (u64_lt _) (u64_lt _) h1, leTo_inj8 (u64_lt _) (u64_lt _) h2, h4⟩, h5⟩

/-- Two values that lay the same bytes. -/
def SameV (coll : Int) (v v' : Vl) : Prop := u64 v.kind = u64 v'.kind ∧ u64 v.n = u64 v'.n ∧ (layS coll v).data.toList = (layS coll v').data.toList
theorem SameV.lay {coll : Int} {v v' : Vl} (h : SameV coll v v') : layF coll v = layF coll v' := by
  unfold layF
  have h4 : (layS coll v).size = (layS coll v').size := by
    have := congrArg List.length h.2.2
    rw [Array.length_toList, Array.length_toList] at this
    exact this
  rw [h.1, h.2.1, h.2.2, h4]

theorem keys_code {cols : List Cm} {r r' : List Vl} (hr : ∀ v ∈ r, v.s.size ≤ 4096) (hr' : ∀ v ∈ r', v.s.size ≤ 4096) : ∀ (ics : List Ic) (x y : List UInt8), keyF cols r ics ++ x = keyF cols r' ics ++ y → (∀ ic ∈ ics, SameV ic.coll (atF cols r ic.name) (atF cols r' ic.name)) ∧ x = y
  | [], x, y, h => ⟨fun ic hi => by simp at hi, h⟩
  | ic :: ics, x, y, h => by
    unfold keyF at h
    rw [List.flatMap_cons, List.flatMap_cons, List.append_assoc, List.append_assoc] at h
    obtain ⟨h1, h2⟩ := lay_code (atF_size hr) (atF_size hr') h
    obtain ⟨h3, h4⟩ := keys_code hr hr' ics x y h2
    refine ⟨fun jc hj => ?_, h4⟩
    rcases List.mem_cons.1 hj with rfl | hj
    · exact h1
    · exact h3 jc hj
theorem keys_same {cols : List Cm} {r r' : List Vl} : ∀ (ics : List Ic), (∀ ic ∈ ics, SameV ic.coll (atF cols r ic.name) (atF cols r' ic.name)) → keyF cols r ics = keyF cols r' ics
  | [], _ => rfl
  | ic :: ics, h => by
    unfold keyF
    rw [List.flatMap_cons, List.flatMap_cons, (h ic (List.mem_cons_self ..)).lay]
    have := keys_same (cols := cols) (r := r) (r' := r') ics (fun jc hj => h jc (List.mem_cons_of_mem _ hj))
    unfold keyF at this
    rw [this]
theorem keys_iff {cols : List Cm} {r r' : List Vl} (hr : ∀ v ∈ r, v.s.size ≤ 4096) (hr' : ∀ v ∈ r', v.s.size ≤ 4096) (ics : List Ic) : keyF cols r ics = keyF cols r' ics ↔ ∀ ic ∈ ics, SameV ic.coll (atF cols r ic.name) (atF cols r' ic.name) :=
  ⟨fun h => (keys_code hr hr' ics [] [] (by rw [h])).1, keys_same ics⟩

/-! ### Distinct keys -/
theorem mem_addKey {acc : List (List UInt8)} {k x : List UInt8} : x ∈ addKey acc k ↔ x ∈ acc ∨ x = k := by
  unfold addKey
  split
  · rename_i h
    exact ⟨.inl, fun e => e.elim id (fun e => by subst e; exact h)⟩
  · simp
theorem snoc_ind {α : Type} {P : List α → Prop} (h0 : P []) (h1 : ∀ l x, P l → P (l ++ [x])) (l : List α) : P l := by
  have key : ∀ n, P (l.take n) := fun n => by
    induction n with
    | zero => exact h0
    | succ n ih =>
      by_cases hn : n < l.length
      · rw [List.take_add_one, List.getElem?_eq_getElem hn]; exact h1 _ _ ih
      · rw [List.take_of_length_le (by omega)]; rw [List.take_of_length_le (by omega)] at ih; exact ih
  have := key l.length
  rwa [List.take_length] at this
theorem mem_dist (l : List (List UInt8)) (x : List UInt8) : x ∈ dist l ↔ x ∈ l := by
  refine snoc_ind (P := fun l => x ∈ dist l ↔ x ∈ l) (by simp [dist]) (fun l k ih => ?_) l
  rw [dist_succ, mem_addKey, ih]
  simp
theorem addKey_le (acc : List (List UInt8)) (k : List UInt8) : (addKey acc k).length ≤ acc.length + 1 ∧ acc.length ≤ (addKey acc k).length := by
  unfold addKey; split <;> simp
theorem dist_len (l : List (List UInt8)) : (dist l).length ≤ l.length :=
  snoc_ind (P := fun l => (dist l).length ≤ l.length) (by simp [dist]) (fun l k ih => by rw [dist_succ]; have := (addKey_le (dist l) k).1; simp; omega) l
theorem dist_pos {l : List (List UInt8)} (h : 0 < l.length) : 0 < (dist l).length := by
  have hx := (mem_dist l l[0]).2 (List.getElem_mem h)
  exact List.length_pos_of_mem hx
/-- Where equal keys of the second kind have equal keys of the first, there are no more of the first. -/
theorem dist_mono {α : Type} {f g : α → List UInt8} (S : α → Prop) (h : ∀ a b, S a → S b → g a = g b → f a = f b) (l : List α) : (∀ a ∈ l, S a) → (dist (l.map f)).length ≤ (dist (l.map g)).length := by
  refine snoc_ind (P := fun l => (∀ a ∈ l, S a) → (dist (l.map f)).length ≤ (dist (l.map g)).length) (fun _ => Nat.le_refl _) (fun l x ih hS => ?_) l
  have ih := ih (fun a ha => hS a (List.mem_append_left _ ha))
  rw [List.map_append, List.map_append]
  show (dist (l.map f ++ [f x])).length ≤ (dist (l.map g ++ [g x])).length
  rw [dist_succ, dist_succ]
  by_cases hg : g x ∈ dist (l.map g)
  · have hf : f x ∈ dist (l.map f) := by
      rw [mem_dist] at hg ⊢
      obtain ⟨a, ha, he⟩ := List.mem_map.1 hg
      exact List.mem_map.2 ⟨a, ha, h a x (hS a (List.mem_append_left _ ha)) (hS x (by simp)) he⟩
    unfold addKey
    rw [if_pos hg, if_pos hf]; exact ih
  · unfold addKey
    rw [if_neg hg]
    split
    · simp; omega
    · simp; exact ih

theorem counts_mono {cols : List Cm} {rows : List (List Vl)} {ics : List Ic} (hr : ∀ r ∈ rows, ∀ v ∈ r, v.s.size ≤ 4096) {i j : Nat} (hij : i ≤ j) : countsF cols rows (ics.take i) ≤ countsF cols rows (ics.take j) := by
  unfold countsF
  refine dist_mono (fun r => ∀ v ∈ r, v.s.size ≤ 4096) (fun a b ha hb h => ?_) rows hr
  rw [keys_iff ha hb] at h ⊢
  intro ic hi
  refine h ic ?_
  rw [show i = min i j by omega, ← List.take_take] at hi
  exact List.mem_of_mem_take hi
theorem counts_le (cols : List Cm) (rows : List (List Vl)) (ics : List Ic) : countsF cols rows ics ≤ rows.length := by
  unfold countsF
  have := dist_len (rows.map fun r => keyF cols r ics)
  simpa using this
theorem counts_pos {cols : List Cm} {rows : List (List Vl)} {ics : List Ic} (h : 0 < rows.length) : 0 < countsF cols rows ics := by
  unfold countsF
  exact dist_pos (by simpa using h)

end Go.Proofs.Ytpalbdjcfhlniaa
