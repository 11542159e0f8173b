/- Plain law: how many records are unlike is how many keys there are. -/
import Derived.Test.YtpalbdjcfhlniaaStatKg
import Derived.Test.YtpalbdjcfhlniaaStatKd
import Derived.Test.YtpalbdjcfhlniaaStatLc
namespace Go.Proofs.Ytpalbdjcfhlniaa
open Go.RowKit

theorem u64_fits {a b : Int} (ha : Fits a) (hb : Fits b) (h : u64 a = u64 b) : a = b := by
  unfold Fits at ha hb
  unfold u64 at h
  omega

/-- A value that may be, and whose numbers fit. -/
def Val1 (v : Vl) : Prop := mayV v ∧ Fits v.n
theorem vl0_ok : Val1 vl0 := ⟨.inl ⟨rfl, rfl, rfl⟩, show Fits 0 by unfold Fits; omega⟩
theorem kind_fits {v : Vl} (h : mayV v) : Fits v.kind := by
  unfold Fits
  rcases h with ⟨h, _⟩ | ⟨h, _⟩ | ⟨h | h, _⟩ <;> omega
theorem lay_empty {coll : Int} {v : Vl} (h : v.s.size = 0) : (layS coll v).data.toList = [] := by
  have : (layS coll v).size = 0 := by rw [layS_size]; exact h
  have h2 : (layS coll v).data.toList.length = 0 := by rw [Array.length_toList]; exact this
  exact List.length_eq_zero_iff.1 h2
theorem toList_data (s : ByteArray) : s.toList = s.data.toList := by rw [ByteArray.toList_eq]

theorem cmp_same {coll : Int} {v v' : Vl} (hv : Val1 v) (hv' : Val1 v') : CmpEq coll v v' ↔ SameV coll v v' := by
  obtain ⟨m, f⟩ := hv
  obtain ⟨m', f'⟩ := hv'
  constructor
  · rintro ⟨h1, h2, h3⟩
    rcases m with ⟨k, n, s⟩ | ⟨k, s⟩ | ⟨k, n, s⟩
    · have k' : v'.kind = 0 := by omega
      rcases m' with ⟨_, n', s'⟩ | ⟨e, _⟩ | ⟨e, _⟩
      · exact ⟨by rw [h1], by rw [n, n'], by rw [lay_empty s, lay_empty s']⟩
      · omega
      · omega
    · have k' : v'.kind = 1 := by omega
      rcases m' with ⟨e, _⟩ | ⟨_, s'⟩ | ⟨e, _⟩
      · omega
      · exact ⟨by rw [h1], by rw [h2 k], by rw [lay_empty s, lay_empty s']⟩
      · omega
    · rcases m' with ⟨e, _⟩ | ⟨e, _⟩ | ⟨_, n', _⟩
      · omega
      · omega
      · have h4 := h3 k
        rw [toList_data, toList_data] at h4
        exact ⟨by rw [h1], by rw [n, n'], h4⟩
  · rintro ⟨h1, h2, h3⟩
    refine ⟨u64_fits (kind_fits m) (kind_fits m') h1, fun _ => u64_fits f f' h2, fun _ => ?_⟩
    rw [toList_data, toList_data]; exact h3

theorem at_ok {cols : List Cm} {r : List Vl} (h : ∀ v ∈ r, Val1 v) (name : ByteArray) : Val1 (atF cols r name) := by
  rcases atGo_mem (row := r) (name := name) cols 0 with e | e
  · show Val1 (atGo r name cols 0); rw [e]; exact vl0_ok
  · exact h _ e

theorem rec_at {cols : List Cm} {r : List Vl} {ics : List Ic} {i : Nat} {ic : Ic} (h : ics[i]? = some ic) : (recF cols r ics).getD i vl0 = atF cols r ic.name := by
  have hi := (List.getElem?_eq_some_iff.1 h).1
  unfold recF recTo
  rw [List.take_length, List.getD_eq_getElem?_getD, List.getElem?_append_left (by rw [List.length_map]; exact hi), List.getElem?_map, h]
  rfl
theorem keysF_take {ics : List Ic} {k : Nat} (h : k ≤ ics.length) : (keysF ics).take k = keysTo ics k := by
  unfold keysF
  rw [List.take_append_of_le_length (by rw [keysTo_length (Nat.le_refl _)]; exact h)]
  apply List.ext_getElem?
  intro i
  unfold keysTo
  rw [List.take_length, List.getElem?_take, List.getElem?_mapIdx, List.getElem?_mapIdx, List.getElem?_take]
  split <;> rfl
theorem keysTo_at {ics : List Ic} {k i : Nat} {ic : Ic} (hi : i < k) (h : ics[i]? = some ic) : (keysTo ics k)[i]? = some ⟨i, ic.coll, ic.desc⟩ := by
  unfold keysTo
  rw [List.getElem?_mapIdx, List.getElem?_take, if_pos hi, h]
  rfl

theorem cmp_keys {cols : List Cm} {r r' : List Vl} {ics : List Ic} {k : Nat} (hk : k ≤ ics.length) (hr : ∀ v ∈ r, Val1 v) (hr' : ∀ v ∈ r', Val1 v) :
    CmpAll (keysTo ics k) (recF cols r ics) (recF cols r' ics) ↔ keyF cols r (ics.take k) = keyF cols r' (ics.take k) := by
  rw [keys_iff (fun v hv => mayV_size (hr v hv).1) (fun v hv => mayV_size (hr' v hv).1)]
  constructor
  · intro h ic hic
    obtain ⟨i, hi⟩ := List.getElem?_of_mem hic
    rw [List.getElem?_take] at hi
    split at hi
    · rename_i hik
      have h1 := h _ (List.mem_of_getElem? (keysTo_at hik hi))
      simp only at h1
      rw [rec_at hi, rec_at hi] at h1
      exact (cmp_same (at_ok hr _) (at_ok hr' _)).1 h1
    · cases hi
  · intro h key hkey
    obtain ⟨i, hi⟩ := List.getElem?_of_mem hkey
    have hik : i < k := by
      have := (List.getElem?_eq_some_iff.1 hi).1
      rwa [keysTo_length hk] at this
    obtain ⟨ic, hic⟩ : ∃ ic, ics[i]? = some ic := ⟨_, List.getElem?_eq_getElem (by omega)⟩
    rw [keysTo_at hik hic] at hi
    injection hi with hi
    subst hi
    show CmpEq ic.coll _ _
    rw [rec_at hic, rec_at hic]
    exact (cmp_same (at_ok hr _) (at_ok hr' _)).2 (h ic (List.mem_of_getElem? (by rw [List.getElem?_take, if_pos hik]; exact hic)))

theorem unlike_counts {cols : List Cm} {R : List (List Vl)} {ics : List Ic} {k : Nat} (hk : k ≤ ics.length) (hR : ∀ r ∈ R, ∀ v ∈ r, Val1 v) :
    unlikeTo (keysTo ics k) (R.map fun r => recF cols r ics) R.length = countsF cols R (ics.take k) := by
  have key : ∀ m, m ≤ R.length → unlikeTo (keysTo ics k) (R.map fun r => recF cols r ics) m = (dist ((R.take m).map fun r => keyF cols r (ics.take k))).length := by
    intro m
    induction m with
    | zero => intro _; rfl
    | succ m ih =>
      intro hm
      have ih := ih (by omega)
      have hrm : R[m]? = some (R[m]'(by omega)) := List.getElem?_eq_getElem (by omega)
      have hrow : ∀ j r, R[j]? = some r → (R.map fun r => recF cols r ics).getD j [] = recF cols r ics := fun j r hj => by
        rw [List.getD_eq_getElem?_getD, List.getElem?_map, hj]; rfl
      have hd : (R.take (m + 1)).map (fun r => keyF cols r (ics.take k)) = (R.take m).map (fun r => keyF cols r (ics.take k)) ++ [keyF cols (R[m]'(by omega)) (ics.take k)] := by
        rw [List.take_add_one, hrm, List.map_append]; rfl
      rw [hd, dist_succ]
      by_cases hin : keyF cols (R[m]'(by omega)) (ics.take k) ∈ dist ((R.take m).map fun r => keyF cols r (ics.take k))
      · have hnew : newTo (keysTo ics k) (R.map fun r => recF cols r ics) m m = false := by
          rw [mem_dist] at hin
          obtain ⟨r, hr, he⟩ := List.mem_map.1 hin
          obtain ⟨j, hj⟩ := List.getElem?_of_mem hr
          rw [List.getElem?_take] at hj
          split at hj
          · rename_i hjm
            unfold newTo
            rw [List.all_eq_false]
            refine ⟨j, List.mem_range.2 hjm, ?_⟩
            rw [hrow m _ hrm, hrow j r hj, (cmpB_iff _ _ _).2 ((cmp_keys hk (hR _ (List.getElem_mem _)) (hR r (List.mem_of_getElem? hj))).2 he.symm)]
            simp
          · cases hj
        rw [unlikeTo_no hnew, ih]
        unfold addKey
        rw [if_pos hin]
      · have hnew : newTo (keysTo ics k) (R.map fun r => recF cols r ics) m m = true := by
          unfold newTo
          rw [List.all_eq_true]
          intro j hj
          have hjm := List.mem_range.1 hj
          have hrj : R[j]? = some (R[j]'(by omega)) := List.getElem?_eq_getElem (by omega)
          rw [hrow m _ hrm, hrow j _ hrj]
          cases hc : cmpB (keysTo ics k) (recF cols (R[m]'(by omega)) ics) (recF cols (R[j]'(by omega)) ics) with
          | false => rfl
          | true =>
            exfalso
            apply hin
            rw [mem_dist]
            have := (cmp_keys hk (hR _ (List.getElem_mem _)) (hR _ (List.getElem_mem _))).1 ((cmpB_iff _ _ _).1 hc)
            exact List.mem_map.2 ⟨R[j]'(by omega), List.mem_of_getElem? (i := j) (by rw [List.getElem?_take, if_pos hjm]; exact hrj), this.symm⟩
        rw [unlikeTo_yes hnew, ih]
        unfold addKey
        rw [if_neg hin]
        simp
  have := key R.length (Nat.le_refl _)
  rw [List.take_length] at this
  exact this

end Go.Proofs.Ytpalbdjcfhlniaa
