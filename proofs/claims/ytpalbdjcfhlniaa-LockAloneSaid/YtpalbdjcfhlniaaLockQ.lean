/- Plain facts on levels: at most one is about to write, and who writes is alone; asking lowers nobody. No program in sight. -/
import Derived.Test.YtpalbdjcfhlniaaLockP
namespace Go.Proofs.Ytpalbdjcfhlniaa

/-- At most one is about to write; who writes is alone. -/
structure Fair (xs : List Int) : Prop where
  lo : ∀ i, i < xs.length → 0 ≤ xs.getD i 0
  hi : ∀ i, i < xs.length → xs.getD i 0 ≤ 4
  one : ∀ i j, i < xs.length → j < xs.length → i ≠ j → 2 ≤ xs.getD i 0 → xs.getD j 0 < 2
  alone : ∀ i j, i < xs.length → j < xs.length → i ≠ j → 4 ≤ xs.getD i 0 → xs.getD j 0 = 0

theorem getD_set (xs : List Int) (i j : Nat) (v : Int) (hi : i < xs.length) : (xs.set i v).getD j 0 = if i = j then v else xs.getD j 0 := by
  simp only [List.getD_eq_getElem?_getD, List.getElem?_set]
  by_cases hij : i = j
  · subst hij; rw [if_pos rfl, if_pos rfl, if_pos hi]; rfl
  · rw [if_neg hij, if_neg hij]

theorem getD_replicate0 (n i : Nat) : (List.replicate n (0 : Int)).getD i 0 = 0 := by
  simp only [List.getD_eq_getElem?_getD, List.getElem?_replicate]
  split <;> rfl

theorem Fair.new (n : Nat) : Fair (List.replicate n 0) :=
  ⟨fun i _ => by rw [getD_replicate0]; omega, fun i _ => by rw [getD_replicate0]; omega, fun i j _ _ _ h => by rw [getD_replicate0] at h; omega, fun i j _ _ _ h => by rw [getD_replicate0] at h; omega⟩

theorem le_oth (xs : List Int) (who : Int) (j : Nat) : ∀ k, j < k → (j : Int) ≠ who → xs.getD j 0 ≤ oth xs who k := by
  intro k
  induction k with
  | zero => intro h; omega
  | succ k ih =>
    intro h hne
    by_cases hjk : j = k
    · subst hjk
      rw [oth_succ_ne xs who j hne]; omega
    · have := ih (by omega) hne
      simp only [oth]; split <;> omega

theorem oth_zero (xs : List Int) (who : Int) : ∀ k : Nat, (∀ j : Nat, j < k → (j : Int) ≠ who → xs.getD j 0 ≤ 0) → oth xs who k = 0 := by
  intro k
  induction k with
  | zero => intro _; rfl
  | succ k ih =>
    intro h
    have := ih (fun j hj => h j (by omega))
    simp only [oth]; split
    · exact this
    · have := h k (by omega) (by assumption); omega

theorem Fair.set {xs : List Int} (h : Fair xs) (i : Nat) (hi : i < xs.length) (v : Int) (h0 : 0 ≤ v) (h4 : v ≤ 4) (h1 : ∀ j, j < xs.length → i ≠ j → 2 ≤ v → xs.getD j 0 < 2) (h2 : ∀ j, j < xs.length → i ≠ j → 2 ≤ xs.getD j 0 → v < 2)
    (h3 : ∀ j, j < xs.length → i ≠ j → 4 ≤ v → xs.getD j 0 = 0) (h5 : ∀ j, j < xs.length → i ≠ j → 4 ≤ xs.getD j 0 → v = 0) : Fair (xs.set i v) := by
  refine ⟨fun j hj => ?_, fun j hj => ?_, fun j k hj hk hjk => ?_, fun j k hj hk hjk => ?_⟩
  all_goals rw [List.length_set] at hj
  · rw [getD_set _ _ _ _ hi]; have := h.lo j hj; split <;> omega
  · rw [getD_set _ _ _ _ hi]; have := h.hi j hj; split <;> omega
  · rw [List.length_set] at hk
    rw [getD_set _ _ _ _ hi, getD_set _ _ _ _ hi]
    have := h.one j k hj hk hjk
    split
    · subst_vars; rw [if_neg hjk]; exact h1 k hk hjk
    · split
      · subst_vars; exact h2 j hj (by omega)
      · exact this
  · rw [List.length_set] at hk
    rw [getD_set _ _ _ _ hi, getD_set _ _ _ _ hi]
    have := h.alone j k hj hk hjk
    split
    · subst_vars; rw [if_neg hjk]; exact h3 k hk hjk
    · split
      · subst_vars; exact h5 j hj (by omega)
      · exact this

theorem isB_cases' (n : Nat) (who : Int) : isB n who = false ∨ ∃ i : Nat, who = i ∧ i < n := by
  by_cases h : 0 ≤ who ∧ who < n
  · exact .inr ⟨who.toNat, by omega, by omega⟩
  · exact .inl (by simp [isB]; omega)

theorem Fair.drop {xs : List Int} (h : Fair xs) (who level : Int) : Fair (dropF xs who level).1 := by
  rcases isB_cases' xs.length who with hB | ⟨i, rfl, hi⟩
  · rw [dropF_out hB]; exact h
  · rw [dropF_in hi rfl]
    split
    · exact h
    · have hx0 := h.lo i hi
      have hx4 := h.hi i hi
      refine h.set i hi level (by omega) (by omega) (fun j hj hij h2 => h.one i j hi hj hij (by omega)) (fun j hj hij h2 => ?_) (fun j hj hij h4 => h.alone i j hi hj hij (by omega)) (fun j hj hij h4 => ?_)
      · have := h.one j i hj hi (by omega) h2; omega
      · have := h.alone j i hj hi (by omega) h4; omega

theorem Fair.ask {xs : List Int} (h : Fair xs) (who level : Int) : Fair (askF xs who level).1 := by
  rcases isB_cases' xs.length who with hB | ⟨i, rfl, hi⟩
  · rw [askF_out hB]; exact h
  · have ho : ∀ j, j < xs.length → i ≠ j → xs.getD j 0 ≤ oth xs i xs.length := fun j hj hij => le_oth xs i j _ hj (by omega)
    have hx0 := h.lo i hi
    rw [askF_in hi rfl rfl]
    (repeat' split) <;> first
      | exact h
      | (refine h.set i hi _ (by omega) (by omega) (fun j hj hij h2 => ?_) (fun j hj hij h2 => ?_) (fun j hj hij h4 => ?_) (fun j hj hij h4 => ?_) <;>
          (have h1 := ho j hj hij
           have h2' := h.one i j hi hj hij
           have h3 := h.alone j i hj hi (by omega)
           have h4' := h.lo j hj
           have h5 := h.one j i hj hi (by omega)
           omega))

/-- Asking lowers nobody. -/
theorem ask_up (xs : List Int) (who level : Int) (j : Nat) : xs.getD j 0 ≤ (askF xs who level).1.getD j 0 := by
  rcases isB_cases' xs.length who with hB | ⟨i, rfl, hi⟩
  · rw [askF_out hB]; exact Int.le_refl _
  · rw [askF_in hi rfl rfl]
    (repeat' split) <;> first
      | exact Int.le_refl _
      | (rw [getD_set _ _ _ _ hi]; split
         · subst_vars; omega
         · exact Int.le_refl _)

theorem hold_nil {xs : List Int} {level : Int} : ∀ {k : Nat}, (∀ i, i < k → xs.getD i 0 < level) → hold xs level k = [] := by
  intro k
  induction k with
  | zero => intro _; rfl
  | succ k ih =>
    intro h
    rw [hold_no (by have := h k (by omega); omega)]
    exact ih (fun i hi => h i (by omega))

theorem hold_one {xs : List Int} {level : Int} : ∀ {k : Nat}, (∀ i j, i < k → j < k → i ≠ j → level ≤ xs.getD i 0 → xs.getD j 0 < level) → (hold xs level k).length ≤ 1 := by
  intro k
  induction k with
  | zero => intro _; simp [hold]
  | succ k ih =>
    intro h
    by_cases hk : level ≤ xs.getD k 0
    · rw [hold_yes hk, hold_nil (fun i hi => h k i (by omega) (by omega) (by omega) hk)]; simp
    · rw [hold_no hk]; exact ih (fun i j hi hj => h i j (by omega) (by omega))

theorem hold_some {xs : List Int} {level : Int} : ∀ {k : Nat}, 0 < (hold xs level k).length → ∃ i, i < k ∧ level ≤ xs.getD i 0 := by
  intro k
  induction k with
  | zero => intro h; simp [hold] at h
  | succ k ih =>
    intro h
    by_cases hk : level ≤ xs.getD k 0
    · exact ⟨k, by omega, hk⟩
    · rw [hold_no hk] at h
      obtain ⟨i, hi, h1⟩ := ih h
      exact ⟨i, by omega, h1⟩

theorem Fair.writers {xs : List Int} (h : Fair xs) : (hold xs 2 xs.length).length ≤ 1 := hold_one fun i j hi hj hij h2 => h.one i j hi hj hij h2
theorem Fair.waiters {xs : List Int} (h : Fair xs) : (hold xs 3 xs.length).length ≤ 1 := hold_one fun i j hi hj hij h2 => by have := h.one i j hi hj hij (by omega); omega
theorem Fair.lone {xs : List Int} (h : Fair xs) : (hold xs 4 xs.length).length = 0 ∨ (hold xs 1 xs.length).length ≤ 1 := by
  rcases Nat.eq_zero_or_pos (hold xs 4 xs.length).length with h0 | h0
  · exact .inl h0
  · obtain ⟨p, hp, h4⟩ := hold_some h0
    refine .inr (hold_one fun i j hi hj hij h1 => ?_)
    by_cases hip : i = p
    · subst hip
      have := h.alone i j hi hj hij h4; omega
    · have := h.alone p i hp hi (by omega) h4; omega

/-- Who alone holds a level is told at place 0. -/
theorem hold_first {xs : List Int} {level : Int} : ∀ {k : Nat}, (hold xs level k).length = 1 → ∃ p : Nat, p < k ∧ hold xs level k = [(p : Int)] ∧ level ≤ xs.getD p 0 := by
  intro k
  induction k with
  | zero => intro h; simp [hold] at h
  | succ k ih =>
    intro h
    by_cases hk : level ≤ xs.getD k 0
    · rw [hold_yes hk] at h ⊢
      have : hold xs level k = [] := List.eq_nil_of_length_eq_zero (by simpa using h)
      rw [this]
      exact ⟨k, by omega, rfl, hk⟩
    · rw [hold_no hk] at h ⊢
      obtain ⟨p, hp, h1, h2⟩ := ih h
      exact ⟨p, by omega, h1, h2⟩

end Go.Proofs.Ytpalbdjcfhlniaa
