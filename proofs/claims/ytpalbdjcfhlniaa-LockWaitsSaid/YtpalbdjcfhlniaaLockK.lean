/- The walk over LockWaits. -/
import Derived.Test.YtpalbdjcfhlniaaLockJ
namespace Go.Proofs.Ytpalbdjcfhlniaa
open Go.RowKit

theorem ask_busy {ys : List Int} {j p : Nat} (hj : j < ys.length) (hp : p < ys.length) (hne : j ≠ p) (h3 : 3 ≤ ys.getD p 0) (h0 : ys.getD j 0 = 0) : askF ys j 1 = (ys, 15) := by
  have := le_oth ys j p _ hp (by omega)
  rw [askF_in hj h0 rfl]
  (repeat' split) <;> first | rfl | omega
theorem drop_zero {ys : List Int} {j : Nat} (hj : j < ys.length) (h0 : 0 ≤ ys.getD j 0) : dropF ys j 0 = (ys.set j 0, 0) := by
  rw [dropF_in hj rfl, if_neg (by omega)]
theorem ask_last {ys : List Int} {p : Nat} (hp : p < ys.length) (h3 : 3 ≤ ys.getD p 0) (h4 : ys.getD p 0 ≤ 4) (h0 : ∀ j, j < ys.length → j ≠ p → ys.getD j 0 = 0) : ∃ zs, askF ys p 4 = (zs, 0) ∧ levF zs p = 4 := by
  have ho : oth ys p ys.length = 0 := oth_zero ys p _ fun j hj hne => by have := h0 j hj (by omega); omega
  rw [askF_in hp rfl ho]
  by_cases h : 4 ≤ ys.getD p 0
  · refine ⟨ys, ?_, ?_⟩
    · (repeat' split) <;> first | rfl | omega
    · rw [levF_in hp]; omega
  · refine ⟨ys.set p 4, ?_, ?_⟩
    · (repeat' split) <;> first | rfl | omega
    · rw [levF_in (by rw [List.length_set]; exact hp), getD_set _ _ _ _ hp, if_pos rfl]

theorem holds_first {g p : Nat} {xs : List Int} {level : Int} {w : World} (hp : hold xs level xs.length = [(p : Int)]) (h : LockAt w g xs) :
    Calls Try.prog 19 #[.pointer (some ⟨g, 0, none⟩), .int .i64 level] w fun e w' =>
      ∃ b c, e = .returned (.slice (some ⟨b, 0, none⟩) 1 c) ∧ w.heap.size ≤ b ∧ w'.cell? ⟨b, 0, none⟩ = some (.int .i64 p) ∧ Below w.heap.size w w' := by
  refine (holds_any g xs level w h).mono ?_
  rintro e w' ⟨v, he, hown, hb⟩
  rw [hp] at hown
  obtain ⟨b, c, hv, hbb, _⟩ := hown.form (by simp)
  subst hv
  exact ⟨b, c, he, hbb, by rw [hown.cellAt 0 (by simp)]; rfl, hb⟩

/-- The locks while all others are let through: who waits keeps it, who came is through. -/
structure Passing (xs : List Int) (p j : Nat) (ys : List Int) : Prop where
  len : ys.length = xs.length
  keep : ys.getD p 0 = xs.getD p 0
  lo : ∀ i, 0 ≤ ys.getD i 0
  done : ∀ i, i < j → i ≠ p → ys.getD i 0 = 0

theorem Passing.next {xs ys : List Int} {p j : Nat} (h : Passing xs p j ys) (hj : j < ys.length) (hne : j ≠ p) : Passing xs p (j + 1) (ys.set j 0) := by
  refine ⟨by simpa using h.len, ?_, fun i => ?_, fun i hi hip => ?_⟩
  · rw [getD_set _ _ _ _ hj, if_neg hne]; exact h.keep
  · rw [getD_set _ _ _ _ hj]; have := h.lo i; split <;> omega
  · rw [getD_set _ _ _ _ hj]
    split
    · rfl
    · exact h.done i (by omega) hip
theorem Passing.skip {xs ys : List Int} {p : Nat} (h : Passing xs p p ys) : Passing xs p (p + 1) ys := ⟨h.len, h.keep, h.lo, fun i hi hip => h.done i (by omega) hip⟩

set_option maxHeartbeats 2000000 in
theorem waits_any (n : Int) (A : Option Addr) (len cap : Nat) (D : Nat → Bool × Int × Int) (w : World) (hm : len ≤ maxLen) (hD : DeedsAt w A len D) :
    Calls Try.prog 4 #[.int .i64 n, .slice A len cap] w fun e w' => e = .returned (.bool true) ∧ Below w.heap.size w w' := by
  unfold maxLen at hm
  by_cases hl : len ≤ 200
  · by_cases hn : n < 1 ∨ 8 < n
    · go_enter Try.func4, Try.ntmps4
      go_wp2_with (first
        | (go_at_call 13; (with_reducible refine (new_no n _ hn).mono ?_); rintro e w' ⟨rfl, rfl⟩)
        | (go_at_call 12; (with_reducible refine (live_any _).mono ?_); rintro e w1 ⟨rfl, hb⟩))
      go_ret
      exact ⟨rfl, hb⟩
    · obtain ⟨m, rfl⟩ : ∃ m : Nat, n = m := ⟨n.toNat, by omega⟩
      have hm1 : 1 ≤ m := by omega
      have hm8 : m ≤ 8 := by omega
      clear hn
      go_enter Try.func4, Try.ntmps4
      go_wp2_with (first
        | (go_at_call 13; (with_reducible refine (new_yes m _ hm1 hm8).mono ?_); rintro e w1 ⟨rfl, rfl⟩))
      have h1 := new_lock m hm1 hm8 w
      have hbw : Below w.heap.size w _ := (Below.refl w.heap.size w).alloc (Nat.le_refl _) (.cells #[.int .i64 0, .int .i64 0, .int .i64 0, .int .i64 0, .int .i64 0, .int .i64 0, .int .i64 0, .int .i64 0, .int .i64 m] 72)
      go_loopw [29] (fun i wr => ∃ (k : Nat) (xs : List Int), k ≤ len ∧ i = .int .i64 k ∧ xs.length = m ∧ Fair xs ∧ LockAt wr w.heap.size xs ∧ Below w.heap.size w wr)
        (fun i _ => len - (intOf i).toNat)
      case atStart => exact ⟨0, List.replicate m 0, Nat.zero_le _, rfl, by simp, Fair.new m, h1, hbw⟩
      case round =>
        obtain ⟨k, xs, hk, rfl, hxm, hF, hL, hB⟩ := hrel
        clear h1 hbw
        have HL := Lib.hid hL
        have HM := Lib.hid hxm
        clear hL hxm
        have hgs := HL.out.lt
        by_cases hlt : k < len
        · obtain ⟨a, qb, qo, rfl, hq, hql, c0, c1, c2⟩ := (hD.below hB) k hlt
          generalize D k = d at c0 c1 c2
          obtain ⟨dr, who, lev⟩ := d
          simp only at c0 c1 c2
          clear hD
          cases dr
          · go_wp2_with (first
              | (go_at_call 18; (with_reducible refine (ask_any w.heap.size xs who lev _ (HL.out.below ((Below.refl wr.heap.size wr).alloc (Nat.le_refl _) _) hgs)).mono ?_); rintro e w4 ⟨rfl, hl4, hg4⟩))
            have hB4 : Below w.heap.size w w4 := (hB.alloc (by omega) _).grown hg4 (by simp; omega) (fun j hj => by injection hj with hj; omega)
            go_roundw
            case rel => exact ⟨k + 1, _, by omega, by go_num, (askF_length ..).trans HM.out, hF.ask who lev, hl4, hB4⟩
            case measure => simp [intOf]; omega
          · go_wp2_with (first
              | (go_at_call 17; (with_reducible refine (drop_any w.heap.size xs who lev _ (HL.out.below ((Below.refl wr.heap.size wr).alloc (Nat.le_refl _) _) hgs)).mono ?_); rintro e w4 ⟨rfl, hl4, hg4⟩))
            have hB4 : Below w.heap.size w w4 := (hB.alloc (by omega) _).grown hg4 (by simp; omega) (fun j hj => by injection hj with hj; omega)
            go_roundw
            case rel => exact ⟨k + 1, _, by omega, by go_num, (dropF_length ..).trans HM.out, hF.drop who lev, hl4, hB4⟩
            case measure => simp [intOf]; omega
        · obtain rfl : k = len := by omega
          have hwt := hF.waiters
          obtain ⟨q, hq⟩ : ∃ q, (hold xs 3 xs.length).length = q := ⟨_, rfl⟩
          rw [hq] at hwt
          by_cases hq0 : q = 0
          · subst hq0
            have HQ := Lib.hid hq
            clear hq hwt hD
            go_wp2_with (first
              | (go_at_call 19; (with_reducible refine (holds_len HQ.out HL.out).mono ?_); rintro e w5 ⟨A5, c5, rfl, hb5⟩)
              | (go_at_call 12; (with_reducible refine (live_any _).mono ?_); rintro e w3 ⟨rfl, hb3⟩))
            go_ret
            exact ⟨rfl, hB.trans ((hb5.trans (hb3.mono hb5.size)).mono hB.size)⟩
          · obtain ⟨p, hp, hhp, h3⟩ := hold_first (hq.trans (by omega))
            have HP := Lib.hid hhp
            have h4 := hF.hi p hp
            have hpm : p < m := by rw [← HM.out]; exact hp
            have hlo : ∀ i, 0 ≤ xs.getD i 0 := fun i => by
              by_cases hi : i < xs.length
              · exact hF.lo i hi
              · rw [List.getD_eq_getElem?_getD, List.getElem?_eq_none (by omega)]; exact Int.le_refl _
            have HX : Hid (Passing xs p 0 xs) := ⟨rfl, rfl, hlo, fun i hi => by omega⟩
            have H3 := Lib.hid h3
            have H4 := Lib.hid h4
            clear hq hq0 hwt hD hhp hlo h3 h4 hF
            have hpd : decide ((p : Int) < 0) = false := by rw [decide_eq_false_iff_not]; omega
            have hmp : decide (m ≤ p) = false := by rw [decide_eq_false_iff_not]; omega
            go_wp2_with (first
              | (go_at_call 19; (with_reducible refine (holds_first HP.out HL.out).mono ?_); rintro e w5 ⟨b, c, rfl, hbb, hcb, hb5⟩))
            have hne : b ≠ w.heap.size := by omega
            have hL5 := HL.out.below hb5 hgs
            have hB5 : Below w.heap.size w w5 := hB.trans (hb5.mono hB.size)
            clear HL hb5
            go_loopw [10] (fun i wr => ∃ (j : Nat) (ys : List Int), j ≤ m ∧ i = .int .i64 j ∧ Passing xs p j ys ∧ LockAt wr w.heap.size ys ∧ wr.cell? ⟨b, 0, none⟩ = some (.int .i64 p) ∧ Below w.heap.size w wr)
              (fun i _ => m - (intOf i).toNat)
            case atStart => exact ⟨0, xs, Nat.zero_le _, rfl, HX.out, hL5, hcb, hB5⟩
            case round =>
              obtain ⟨j, ys, hj, rfl, hP, hL, hc, hB⟩ := hrel
              clear hcb hL5 hB5
              have HL := Lib.hid hL
              have HY := Lib.hid hP
              have HM' := Lib.hid (hP.len.trans HM.out)
              clear hL hP
              have hgs := HL.out.lt
              by_cases hjm : j < m
              · by_cases hjp : j = p
                · subst hjp
                  go_wp2_with fail
                  go_roundw
                  case rel => exact ⟨j + 1, ys, by omega, by go_num, HY.out.skip, HL.out, hc, hB⟩
                  case measure => simp [intOf]; omega
                · have hjy : j < ys.length := by rw [HM'.out]; exact hjm
                  have hjp' : ((j : Int) == (p : Int)) = false := by simp only [beq_eq_false_iff_ne]; omega
                  have HZ := Lib.hid (drop_zero hjy (HY.out.lo j))
                  obtain ⟨y, hy⟩ : ∃ y, ys.getD j 0 = y := ⟨_, rfl⟩
                  have HLV := Lib.hid ((levF_in hjy).trans hy)
                  by_cases hy0 : y = 0
                  · subst hy0
                    have HBu := Lib.hid (ask_busy hjy (by rw [HM'.out]; exact hpm) hjp (by rw [HY.out.keep]; exact H3.out) hy)
                    clear hy
                    go_wp2_with (first
                      | (go_at_call 20; (with_reducible refine (level_of HLV.out HL.out).mono ?_); rintro e w6 ⟨rfl, rfl⟩)
                      | (go_at_call 18; (with_reducible refine (ask_to HBu.out HL.out).mono ?_); rintro e w7 ⟨rfl, h7, g7⟩)
                      | (go_at_call 17; (with_reducible refine (drop_to HZ.out h7).mono ?_); rintro e w8 ⟨rfl, h8, g8⟩))
                    have g := grown_trans g7 g8
                    have hc8 := g.cell hc (by intro e; injection e with e; exact hne e)
                    have hB8 : Below w.heap.size w w8 := hB.grown g hB.size (fun j hj => by injection hj with hj; omega)
                    go_roundw
                    case rel => exact ⟨j + 1, _, by omega, by go_num, HY.out.next hjy hjp, h8, hc8, hB8⟩
                    case measure => simp [intOf]; omega
                  · have hy0' : (y == 0) = false := by simp only [beq_eq_false_iff_ne]; exact hy0
                    clear hy hy0
                    go_wp2_with (first
                      | (go_at_call 20; (with_reducible refine (level_of HLV.out HL.out).mono ?_); rintro e w6 ⟨rfl, rfl⟩)
                      | (go_at_call 17; (with_reducible refine (drop_to HZ.out HL.out).mono ?_); rintro e w8 ⟨rfl, h8, g⟩))
                    have hc8 := g.cell hc (by intro e; injection e with e; exact hne e)
                    have hB8 : Below w.heap.size w w8 := hB.grown g hB.size (fun j hj => by injection hj with hj; omega)
                    go_roundw
                    case rel => exact ⟨j + 1, _, by omega, by go_num, HY.out.next hjy hjp, h8, hc8, hB8⟩
                    case measure => simp [intOf]; omega
              · obtain rfl : j = m := by omega
                obtain ⟨zs, hz1, hz2⟩ := ask_last (ys := ys) (p := p) (by rw [HM'.out]; exact hpm) (by rw [HY.out.keep]; exact H3.out) (by rw [HY.out.keep]; exact H4.out) (fun i hi hip => HY.out.done i (by rw [HM'.out] at hi; exact hi) hip)
                have HZ1 := Lib.hid hz1
                have HZ2 := Lib.hid hz2
                clear hz1 hz2
                have hbw := World.block_lt_of_cell? wr _ hc
                simp only at hbw
                go_wp2_with (first
                  | (go_at_call 12; (with_reducible refine (live_any _).mono ?_); rintro e w6 ⟨rfl, hb6⟩; have k6 := (hb6.cell (p := ⟨b, 0, none⟩) hbw).trans hc)
                  | (go_at_call 18; (with_reducible refine (ask_to HZ1.out (HL.out.below hb6 hgs)).mono ?_); rintro e w7 ⟨rfl, h7, g7⟩; have k7 := g7.cell k6 (by intro e; injection e with e; exact hne e))
                  | (go_at_call 20; (with_reducible refine (level_of HZ2.out h7).mono ?_); rintro e w8 ⟨rfl, rfl⟩))
                go_ret
                refine ⟨rfl, ?_⟩
                have hB6 := hB.trans (hb6.mono hB.size)
                exact hB6.grown g7 hB6.size (fun j hj => by injection hj with hj; omega)
  · go_enter Try.func4, Try.ntmps4
    go_wp2_with (first
      | (go_at_call 12; (with_reducible refine (live_any _).mono ?_); rintro e w1 ⟨rfl, hb⟩))
    go_ret
    exact ⟨rfl, hb⟩

end Go.Proofs.Ytpalbdjcfhlniaa
