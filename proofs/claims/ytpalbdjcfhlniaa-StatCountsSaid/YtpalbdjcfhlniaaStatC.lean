/- The walks over few and Guess. -/
import Derived.Test.YtpalbdjcfhlniaaStatB
namespace Go.Proofs.Ytpalbdjcfhlniaa
open Go.RowKit

def posF (m : Int) : Int := if 0 < m then m else 0
def oneF (x : Int) : Int := if 1 < x then x else 1
/-- How many rows there may be with so many columns that are known. -/
def fewF (many : Int) (ul : List Int) (eq : Int) : Int :=
  if eq ≤ 0 then posF many else upF (posF many) (if ul.length = 0 then 10 else oneF (ul.getD ((if eq < ul.length then eq else ul.length) - 1).toNat 0))

theorem posF_pos {m : Int} (h : 0 < m) : posF m = m := if_pos h
theorem posF_neg {m : Int} (h : ¬ 0 < m) : posF m = 0 := if_neg h
theorem posF_nonneg (m : Int) : 0 ≤ posF m := by unfold posF; split <;> omega
theorem oneF_pos {m : Int} (h : 1 < m) : oneF m = m := if_pos h
theorem oneF_neg {m : Int} (h : ¬ 1 < m) : oneF m = 1 := if_neg h
theorem fewF_all {many : Int} {ul : List Int} {eq : Int} (h : eq ≤ 0) : fewF many ul eq = posF many := if_pos h
theorem fewF_none {many : Int} {ul : List Int} {eq : Int} (h : ¬ eq ≤ 0) (hu : ul.length = 0) : fewF many ul eq = upF (posF many) 10 := by rw [fewF, if_neg h, if_pos hu]
theorem fewF_low {many : Int} {ul : List Int} {i : Nat} (hi : (i : Int) + 1 ≤ ul.length) : fewF many ul ((i : Int) + 1) = upF (posF many) (oneF (ul.getD i 0)) := by
  rw [fewF, if_neg (by omega), if_neg (by omega)]
  by_cases h : (i : Int) + 1 < ul.length
  · rw [if_pos h, show ((i : Int) + 1 - 1).toNat = i by omega]
  · rw [if_neg h, show ((ul.length : Int) - 1).toNat = i by omega]
theorem fewF_high {many : Int} {ul : List Int} {eq : Int} {i : Nat} (h : ¬ eq ≤ 0) (hl : ul.length = i + 1) (hi : ¬ eq ≤ (i : Int) + 1) : fewF many ul eq = upF (posF many) (oneF (ul.getD i 0)) := by
  rw [fewF, if_neg h, if_neg (by omega), if_neg (by rw [hl]; push_cast; omega), hl, show ((((i + 1 : Nat)) : Int) - 1).toNat = i by omega]

theorem seq_int {w : World} {A : Option Addr} {ul : List Int} (h : SeqAt IntE 1 w A ul) {i : Nat} (hi : i < ul.length) : ∃ a qb qo, A = some a ∧ a.add i = ⟨qb, qo, none⟩ ∧ qb < w.heap.size ∧ w.cell? ⟨qb, qo, none⟩ = some (.int .i64 (ul.getD i 0)) := by
  obtain ⟨a, qb, qo, x, e, eq, hl, hx, hc⟩ := h.get i hi
  rw [Nat.mul_one] at eq
  refine ⟨a, qb, qo, e, eq, hl, ?_⟩
  rw [List.getD_eq_getElem?_getD, hx]; exact hc

set_option maxHeartbeats 2000000 in
set_option maxRecDepth 100000 in
theorem few_any (nm : ByteArray) (many eq : Int) (A : Option Addr) (c : Nat) (ul : List Int) (w : World) (hs : SeqAt IntE 1 w A ul) (hul : ul.length ≤ maxLen) (hmb : many ≤ 9223372036854775807) :
    Calls Try.prog 45 #[.agg #[.string nm, .int .i64 many, .slice A ul.length c], .int .i64 eq] w fun e w' => e = .returned (.int .i64 (fewF many ul eq)) ∧ Below w.heap.size w w' := by
  unfold maxLen at hul
  have hbb : ∀ O, Below w.heap.size w (w.alloc O) := fun O => (Below.refl _ _).alloc (Nat.le_refl _) O
  by_cases hm : 0 < many
  · by_cases h0 : eq ≤ 0
    · have HE := Lib.hid (show fewF many ul eq = many from (fewF_all h0).trans (posF_pos hm))
      clear hs
      go_enter Try.func45, Try.ntmps45
      go_wp2_with fail
      go_ret
      exact ⟨ret_int HE.out, hbb _⟩
    · by_cases hu : ul.length = 0
      · have HE := Lib.hid (show fewF many ul eq = upF many 10 from by rw [fewF_none h0 hu, posF_pos hm])
        rw [hu] at hul ⊢
        clear hs hu
        go_enter Try.func45, Try.ntmps45
        go_wp2_with (first
          | (go_at_call 46; (with_reducible refine (up_any _ _ _ (by omega) (by omega) (by omega)).mono ?_); rintro e w1 ⟨rfl, rfl⟩))
        go_ret
        exact ⟨ret_int HE.out, hbb _⟩
      · obtain ⟨n, hn⟩ : ∃ n, ul.length = n + 1 := ⟨ul.length - 1, by omega⟩
        by_cases hlt : eq ≤ (n : Int) + 1
        · obtain ⟨i, rfl⟩ : ∃ i : Nat, eq = (i : Int) + 1 := ⟨(eq - 1).toNat, by omega⟩
          obtain ⟨a, qb, qo, rfl, hq, hql, hc⟩ := seq_int hs (i := i) (by omega)
          have HE0 := Lib.hid (show fewF many ul ((i : Int) + 1) = upF many (oneF (ul.getD i 0)) from by rw [fewF_low (by omega), posF_pos hm])
          have hc' := (World.cell?_alloc_lt w (.cells #[.string nm, .int .i64 many, .slice (some a) ul.length c] 46) ⟨qb, qo, none⟩ hql).trans hc
          rw [hn] at hul hc' ⊢
          obtain ⟨x, hx⟩ : ∃ x, ul.getD i 0 = x := ⟨_, rfl⟩
          rw [hx] at hc' HE0
          clear hs hc hx hn hu
          by_cases h1 : 1 < x
          · have HE := Lib.hid (HE0.out.trans (congrArg (upF many) (oneF_pos h1)))
            clear HE0
            go_enter Try.func45, Try.ntmps45
            go_wp2_with (first
              | (go_at_call 46; (with_reducible refine (up_any _ _ _ (by omega) (by omega) (by omega)).mono ?_); rintro e w1 ⟨rfl, rfl⟩))
            go_ret
            exact ⟨ret_int HE.out, hbb _⟩
          · have HE := Lib.hid (HE0.out.trans (congrArg (upF many) (oneF_neg h1)))
            clear HE0
            go_enter Try.func45, Try.ntmps45
            go_wp2_with (first
              | (go_at_call 46; (with_reducible refine (up_any _ _ _ (by omega) (by omega) (by omega)).mono ?_); rintro e w1 ⟨rfl, rfl⟩))
            go_ret
            exact ⟨ret_int HE.out, hbb _⟩
        · obtain ⟨a, qb, qo, rfl, hq, hql, hc⟩ := seq_int hs (i := n) (by omega)
          have HE0 := Lib.hid (show fewF many ul eq = upF many (oneF (ul.getD n 0)) from by rw [fewF_high h0 hn hlt, posF_pos hm])
          have hc' := (World.cell?_alloc_lt w (.cells #[.string nm, .int .i64 many, .slice (some a) ul.length c] 46) ⟨qb, qo, none⟩ hql).trans hc
          rw [hn] at hul hc' ⊢
          obtain ⟨x, hx⟩ : ∃ x, ul.getD n 0 = x := ⟨_, rfl⟩
          rw [hx] at hc' HE0
          clear hs hc hx hn hu
          by_cases h1 : 1 < x
          · have HE := Lib.hid (HE0.out.trans (congrArg (upF many) (oneF_pos h1)))
            clear HE0
            go_enter Try.func45, Try.ntmps45
            go_wp2_with (first
              | (go_at_call 46; (with_reducible refine (up_any _ _ _ (by omega) (by omega) (by omega)).mono ?_); rintro e w1 ⟨rfl, rfl⟩))
            go_ret
            exact ⟨ret_int HE.out, hbb _⟩
          · have HE := Lib.hid (HE0.out.trans (congrArg (upF many) (oneF_neg h1)))
            clear HE0
            go_enter Try.func45, Try.ntmps45
            go_wp2_with (first
              | (go_at_call 46; (with_reducible refine (up_any _ _ _ (by omega) (by omega) (by omega)).mono ?_); rintro e w1 ⟨rfl, rfl⟩))
            go_ret
            exact ⟨ret_int HE.out, hbb _⟩
  · by_cases h0 : eq ≤ 0
    · have HE := Lib.hid (show fewF many ul eq = 0 from (fewF_all h0).trans (posF_neg hm))
      clear hs
      go_enter Try.func45, Try.ntmps45
      go_wp2_with fail
      go_ret
      exact ⟨ret_int HE.out, hbb _⟩
    · by_cases hu : ul.length = 0
      · have HE := Lib.hid (show fewF many ul eq = upF 0 10 from by rw [fewF_none h0 hu, posF_neg hm])
        rw [hu] at hul ⊢
        clear hs hu
        go_enter Try.func45, Try.ntmps45
        go_wp2_with (first
          | (go_at_call 46; (with_reducible refine (up_any _ _ _ (by omega) (by omega) (by omega)).mono ?_); rintro e w1 ⟨rfl, rfl⟩))
        go_ret
        exact ⟨ret_int HE.out, hbb _⟩
      · obtain ⟨n, hn⟩ : ∃ n, ul.length = n + 1 := ⟨ul.length - 1, by omega⟩
        by_cases hlt : eq ≤ (n : Int) + 1
        · obtain ⟨i, rfl⟩ : ∃ i : Nat, eq = (i : Int) + 1 := ⟨(eq - 1).toNat, by omega⟩
          obtain ⟨a, qb, qo, rfl, hq, hql, hc⟩ := seq_int hs (i := i) (by omega)
          have HE0 := Lib.hid (show fewF many ul ((i : Int) + 1) = upF 0 (oneF (ul.getD i 0)) from by rw [fewF_low (by omega), posF_neg hm])
          have hc' := (World.cell?_alloc_lt w (.cells #[.string nm, .int .i64 many, .slice (some a) ul.length c] 46) ⟨qb, qo, none⟩ hql).trans hc
          rw [hn] at hul hc' ⊢
          obtain ⟨x, hx⟩ : ∃ x, ul.getD i 0 = x := ⟨_, rfl⟩
          rw [hx] at hc' HE0
          clear hs hc hx hn hu
          by_cases h1 : 1 < x
          · have HE := Lib.hid (HE0.out.trans (congrArg (upF 0) (oneF_pos h1)))
            clear HE0
            go_enter Try.func45, Try.ntmps45
            go_wp2_with (first
              | (go_at_call 46; (with_reducible refine (up_any _ _ _ (by omega) (by omega) (by omega)).mono ?_); rintro e w1 ⟨rfl, rfl⟩))
            go_ret
            exact ⟨ret_int HE.out, hbb _⟩
          · have HE := Lib.hid (HE0.out.trans (congrArg (upF 0) (oneF_neg h1)))
            clear HE0
            go_enter Try.func45, Try.ntmps45
            go_wp2_with (first
              | (go_at_call 46; (with_reducible refine (up_any _ _ _ (by omega) (by omega) (by omega)).mono ?_); rintro e w1 ⟨rfl, rfl⟩))
            go_ret
            exact ⟨ret_int HE.out, hbb _⟩
        · obtain ⟨a, qb, qo, rfl, hq, hql, hc⟩ := seq_int hs (i := n) (by omega)
          have HE0 := Lib.hid (show fewF many ul eq = upF 0 (oneF (ul.getD n 0)) from by rw [fewF_high h0 hn hlt, posF_neg hm])
          have hc' := (World.cell?_alloc_lt w (.cells #[.string nm, .int .i64 many, .slice (some a) ul.length c] 46) ⟨qb, qo, none⟩ hql).trans hc
          rw [hn] at hul hc' ⊢
          obtain ⟨x, hx⟩ : ∃ x, ul.getD n 0 = x := ⟨_, rfl⟩
          rw [hx] at hc' HE0
          clear hs hc hx hn hu
          by_cases h1 : 1 < x
          · have HE := Lib.hid (HE0.out.trans (congrArg (upF 0) (oneF_pos h1)))
            clear HE0
            go_enter Try.func45, Try.ntmps45
            go_wp2_with (first
              | (go_at_call 46; (with_reducible refine (up_any _ _ _ (by omega) (by omega) (by omega)).mono ?_); rintro e w1 ⟨rfl, rfl⟩))
            go_ret
            exact ⟨ret_int HE.out, hbb _⟩
          · have HE := Lib.hid (HE0.out.trans (congrArg (upF 0) (oneF_neg h1)))
            clear HE0
            go_enter Try.func45, Try.ntmps45
            go_wp2_with (first
              | (go_at_call 46; (with_reducible refine (up_any _ _ _ (by omega) (by omega) (by omega)).mono ?_); rintro e w1 ⟨rfl, rfl⟩))
            go_ret
            exact ⟨ret_int HE.out, hbb _⟩

end Go.Proofs.Ytpalbdjcfhlniaa
