/- Plain laws of guessing: more columns tell no more rows. -/
import Derived.Test.YtpalbdjcfhlniaaStatLp
import Derived.Test.YtpalbdjcfhlniaaStatE
namespace Go.Proofs.Ytpalbdjcfhlniaa
open Go.RowKit

theorem upF_cover {n d : Int} (h1 : 1 ≤ d) : n ≤ upF n d * d := by
  have h := Int.emod_add_mul_ediv n d
  rw [Int.mul_comm] at h
  have h2 := Int.emod_lt_of_pos n (show (0 : Int) < d by omega)
  unfold upF
  split
  · omega
  · rw [Int.add_mul, Int.one_mul]; omega
theorem upF_tight {n d : Int} (h1 : 1 ≤ d) : (upF n d - 1) * d < n := by
  have h := Int.emod_add_mul_ediv n d
  rw [Int.mul_comm] at h
  have h2 := Int.emod_nonneg n (show d ≠ 0 by omega)
  unfold upF
  split
  · rw [Int.sub_mul, Int.one_mul]; omega
  · rw [Int.add_sub_cancel]; omega
theorem upF_anti {n d d' : Int} (h0 : 0 ≤ n) (h1 : 1 ≤ d) (h : d ≤ d') : upF n d' ≤ upF n d := by
  rcases Int.lt_or_le (upF n d) (upF n d') with hlt | hle
  · exfalso
    have hq := upF_nonneg h0 h1
    have a1 := upF_cover (n := n) h1
    have a2 := upF_tight (n := n) (show 1 ≤ d' by omega)
    have a3 : upF n d * d' ≤ (upF n d' - 1) * d' := Int.mul_le_mul_of_nonneg_right (by omega) (by omega)
    have a4 : upF n d * d ≤ upF n d * d' := Int.mul_le_mul_of_nonneg_left h hq
    omega
  · exact hle
theorem upF_zero (d : Int) : upF 0 d = 0 := by unfold upF; simp
theorem upF_some {n d : Int} (h0 : 1 ≤ n) (h1 : 1 ≤ d) : 1 ≤ upF n d := by
  have h := upF_nonneg (show 0 ≤ n by omega) h1
  have a1 := upF_cover (n := n) h1
  rcases Int.lt_or_le (upF n d) 1 with hlt | hle
  · have : upF n d = 0 := by omega
    rw [this, Int.zero_mul] at a1
    omega
  · exact hle
theorem upF_self {n : Int} (h : 1 ≤ n) : upF n n = 1 := by unfold upF; rw [Int.emod_self, if_pos rfl, Int.ediv_self (by omega)]

theorem oneF_one (x : Int) : 1 ≤ oneF x := by unfold oneF; split <;> omega
theorem oneF_mono {x y : Int} (h : x ≤ y) : oneF x ≤ oneF y := by unfold oneF; split <;> split <;> omega

/-- Statistics that were counted. -/
structure GoodSt (s : St) : Prop where
  nn : 0 ≤ s.many
  ne : 0 < s.unlike.length
  mono : ∀ i j, i ≤ j → j < s.unlike.length → s.unlike.getD i 0 ≤ s.unlike.getD j 0
  last : s.unlike.getD (s.unlike.length - 1) 0 = s.many

theorem posF_nn {m : Int} (h : 0 ≤ m) : posF m = m := by unfold posF; split <;> omega

/-- The divisor with so many columns. -/
theorem few_at {s : St} (h : GoodSt s) {eq : Int} (h1 : 1 ≤ eq) : ∃ i : Nat, i < s.unlike.length ∧ (i : Int) = (if eq < s.unlike.length then eq else s.unlike.length) - 1 ∧ fewF s.many s.unlike eq = upF s.many (oneF (s.unlike.getD i 0)) := by
  have hne := h.ne
  refine ⟨((if eq < s.unlike.length then eq else (s.unlike.length : Int)) - 1).toNat, ?_, ?_, ?_⟩
  · split <;> omega
  · split <;> omega
  · rw [fewF, if_neg (by omega), if_neg (by omega), posF_nn h.nn]
theorem few_less {s : St} (h : GoodSt s) {eq : Int} (h0 : 0 ≤ eq) : fewF s.many s.unlike (eq + 1) ≤ fewF s.many s.unlike eq := by
  rcases Int.lt_or_le 0 eq with h1 | h1
  · obtain ⟨i, hi, ei, e1⟩ := few_at h (show 1 ≤ eq by omega)
    obtain ⟨j, hj, ej, e2⟩ := few_at h (show 1 ≤ eq + 1 by omega)
    rw [e1, e2]
    refine upF_anti h.nn (oneF_one _) (oneF_mono (h.mono i j ?_ hj))
    split at ei <;> split at ej <;> omega
  · have : eq = 0 := by omega
    subst this
    rw [fewF_all (Int.le_refl 0)]
    exact fewF_le _ _ _
theorem few_most {s : St} (h : GoodSt s) (eq : Int) : fewF s.many s.unlike eq ≤ s.many := by
  have := fewF_le s.many s.unlike eq
  rwa [posF_nn h.nn] at this
theorem few_none {s : St} (h : s.many = 0) (eq : Int) : fewF s.many s.unlike eq = 0 := by
  rw [h]
  unfold fewF posF
  split
  · rfl
  · exact upF_zero _
theorem few_some {s : St} (h : GoodSt s) (h1 : 1 ≤ s.many) (eq : Int) : 1 ≤ fewF s.many s.unlike eq := by
  rcases Int.lt_or_le 0 eq with h2 | h2
  · obtain ⟨i, hi, ei, e1⟩ := few_at h (show 1 ≤ eq by omega)
    rw [e1]; exact upF_some h1 (oneF_one _)
  · rw [fewF_all h2, posF_nn h.nn]; exact h1
theorem few_all {s : St} (h : GoodSt s) : fewF s.many s.unlike s.unlike.length = if s.many < 1 then s.many else 1 := by
  obtain ⟨i, hi, ei, e1⟩ := few_at h (show 1 ≤ (s.unlike.length : Int) by have := h.ne; omega)
  rw [if_neg (by omega)] at ei
  have hn := h.nn
  have hi' : i = s.unlike.length - 1 := by omega
  rw [e1, hi', h.last]
  split
  · have : s.many = 0 := by omega
    rw [this]; exact upF_zero _
  · have : oneF s.many = s.many := by unfold oneF; split <;> omega
    rw [this]; exact upF_self (by omega)

/-- A guess of one that is known. -/
theorem guess_one (s : St) (eq : Int) (rg : Bool) : guessF [s] s.name eq rg = if rg then upF (fewF s.many s.unlike eq) 4 else fewF s.many s.unlike eq := by
  have hb : baseF [s] s.name eq = fewF s.many s.unlike eq := by
    have h : sameB s.name s.name = true := by unfold sameB; exact beq_self_eq_true _
    unfold baseF idxF
    rw [List.findIdx?_cons, h]
    rfl
  unfold guessF
  rw [hb]

/-! ### What is counted is good -/
theorem good_tab (all : List (List (List Vl))) (t : Tb) (k : Nat) : GoodSt (tabSt all t k) :=
  ⟨by show (0 : Int) ≤ rowsAt all k; omega, by show 0 < 1; omega, fun i j hij hj => by
    have hj' : j < 1 := hj
    obtain rfl : j = 0 := by omega
    obtain rfl : i = 0 := by omega
    exact Int.le_refl _, rfl⟩

theorem unlikes_getD {cols : List Cm} {rows : List (List Vl)} {ics : List Ic} {m i : Nat} (h : i < m) (tail : List Int) : (unlikesTo cols rows ics m ++ tail).getD i 0 = (countsF cols rows (ics.take (i + 1)) : Int) := by
  rw [List.getD_eq_getElem?_getD, List.getElem?_append_left (by rw [unlikesTo_length]; exact h)]
  unfold unlikesTo
  rw [List.getElem?_map, List.getElem?_range h]
  rfl
theorem unlikes_last {cols : List Cm} {rows : List (List Vl)} {ics : List Ic} {m : Nat} (n : Int) : (unlikesTo cols rows ics m ++ [n]).getD m 0 = n := by
  rw [List.getD_eq_getElem?_getD, List.getElem?_append_right (by rw [unlikesTo_length]; exact Nat.le_refl _), unlikesTo_length, Nat.sub_self]
  rfl

theorem good_counts (nm : ByteArray) {cols : List Cm} {rows : List (List Vl)} (ics : List Ic) (hr : ∀ r ∈ rows, ∀ v ∈ r, v.s.size ≤ 4096) : GoodSt ⟨nm, rows.length, unlikesTo cols rows ics ics.length ++ [(rows.length : Int)]⟩ := by
  have hl : (unlikesTo cols rows ics ics.length ++ [(rows.length : Int)]).length = ics.length + 1 := by rw [List.length_append, unlikesTo_length]; rfl
  refine ⟨by show (0 : Int) ≤ rows.length; omega, by show 0 < _; rw [hl]; omega, fun i j hij hj => ?_, ?_⟩
  · have hj' : j < ics.length + 1 := by rw [← hl]; exact hj
    show List.getD _ i 0 ≤ List.getD _ j 0
    by_cases hjl : j < ics.length
    · rw [unlikes_getD hjl, unlikes_getD (by omega)]
      have := counts_mono (cols := cols) (ics := ics) hr (show i + 1 ≤ j + 1 by omega)
      omega
    · obtain rfl : j = ics.length := by omega
      rw [unlikes_last]
      by_cases hil : i < ics.length
      · rw [unlikes_getD hil]
        have := counts_le cols rows (ics.take (i + 1))
        omega
      · obtain rfl : i = ics.length := by omega
        rw [unlikes_last]; exact Int.le_refl _
  · show List.getD _ (_ - 1) 0 = _
    rw [hl, Nat.add_sub_cancel, unlikes_last]

theorem good_of {tabs : List Tb} {idxs : List Ix} {all : List (List (List Vl))} (hv : ∀ R ∈ all, ∀ r ∈ R, ∀ v ∈ r, v.s.size ≤ 4096) : ∀ s ∈ ofF tabs idxs all, GoodSt s := fun s hs => by
  unfold ofF at hs
  rcases List.mem_append.1 hs with h | h
  · unfold tabStats at h
    obtain ⟨i, hi, rfl⟩ := List.mem_mapIdx.1 h
    exact good_tab _ _ _
  · obtain ⟨x, _, rfl⟩ := List.mem_map.1 h
    refine good_counts x.name x.cols fun r hr v hvr => ?_
    rcases tableGo_mem (all := all) (name := x.table) tabs 0 with e | ⟨e1, e2⟩
    · have : (tableF tabs all x.table).2 = [] := by
        show (tableGo all x.table tabs 0).2 = []
        rw [e]
      rw [this] at hr
      simp at hr
    · exact hv _ e2 r hr v hvr

theorem ofF_length (tabs : List Tb) (idxs : List Ix) (all : List (List (List Vl))) : (ofF tabs idxs all).length = tabs.length + idxs.length := by unfold ofF; rw [List.length_append, tabStats_length, List.length_map]

end Go.Proofs.Ytpalbdjcfhlniaa
