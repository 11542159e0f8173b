/- The walk over LockAlone. -/
import Derived.Test.YtpalbdjcfhlniaaLockH
import Derived.Test.YtpalbdjcfhlniaaLockQ
namespace Go.Proofs.Ytpalbdjcfhlniaa
open Go.RowKit

/-- What a deed's place in memory reads, carried along. -/
theorem deed_cells {w : World} {x : Bool} {y z : Int} {t : TypeId} : (w.alloc (.cells #[.bool x, .int .i64 y, .int .i64 z] t)).cell? ⟨w.heap.size, 0, none⟩ = some (.bool x) ∧
    (w.alloc (.cells #[.bool x, .int .i64 y, .int .i64 z] t)).cell? ⟨w.heap.size, 1, none⟩ = some (.int .i64 y) ∧ (w.alloc (.cells #[.bool x, .int .i64 y, .int .i64 z] t)).cell? ⟨w.heap.size, 2, none⟩ = some (.int .i64 z) :=
  ⟨World.cell?_alloc_new w _ t 0, World.cell?_alloc_new w _ t 1, World.cell?_alloc_new w _ t 2⟩

theorem holds_len {g n : Nat} {xs : List Int} {level : Int} {w : World} (hn : (hold xs level xs.length).length = n) (h : LockAt w g xs) :
    Calls Try.prog 19 #[.pointer (some ⟨g, 0, none⟩), .int .i64 level] w fun e w' => ∃ A c, e = .returned (.slice A n c) ∧ Below w.heap.size w w' := by
  rw [← hn]
  exact (holds_seen g xs level w h).mono fun _ _ ⟨A, c, he, _, hb⟩ => ⟨A, c, he, hb⟩

set_option maxHeartbeats 2000000 in
theorem alone_any (n : Int) (A : Option Addr) (len cap : Nat) (D : Nat → Bool × Int × Int) (w : World) (hm : len ≤ maxLen) (hD : DeedsAt w A len D) :
    Calls Try.prog 5 #[.int .i64 n, .slice A len cap] w fun e w' => e = .returned (.bool true) ∧ Below w.heap.size w w' := by
  unfold maxLen at hm
  by_cases hl : len ≤ 200
  · by_cases hn : n < 1 ∨ 8 < n
    · go_enter Try.func5, Try.ntmps5
      go_wp2_with (first
        | (go_at_call 13; (with_reducible refine (new_no n _ hn).mono ?_); rintro e w' ⟨rfl, rfl⟩)
        | (go_at_call 12; (with_reducible refine (live_any _).mono ?_); rintro e w1 ⟨rfl, hb⟩))
      go_ret
      exact ⟨rfl, hb⟩
    · obtain ⟨m, rfl⟩ : ∃ m : Nat, n = m := ⟨n.toNat, by omega⟩
      have hm1 : 1 ≤ m := by omega
      have hm8 : m ≤ 8 := by omega
      clear hn
      go_enter Try.func5, Try.ntmps5
      go_wp2_with (first
        | (go_at_call 13; (with_reducible refine (new_yes m _ hm1 hm8).mono ?_); rintro e w1 ⟨rfl, rfl⟩))
      have h1 := new_lock m hm1 hm8 w
      have hbw : Below w.heap.size w _ := (Below.refl w.heap.size w).alloc (Nat.le_refl _) (.cells #[.int .i64 0, .int .i64 0, .int .i64 0, .int .i64 0, .int .i64 0, .int .i64 0, .int .i64 0, .int .i64 0, .int .i64 m] 72)
      go_loopw [32] (fun i wr => ∃ (k : Nat) (xs : List Int), k ≤ len ∧ i = .int .i64 k ∧ xs.length = m ∧ Fair xs ∧ LockAt wr w.heap.size xs ∧ Below w.heap.size w wr)
        (fun i _ => len - (intOf i).toNat)
      case atStart => exact ⟨0, List.replicate m 0, Nat.zero_le _, rfl, by simp, Fair.new m, h1, hbw⟩
      case round =>
        obtain ⟨k, xs, hk, rfl, rfl, hF, hL, hB⟩ := hrel
        clear h1 hbw
        have HL := Lib.hid hL
        clear hL
        have hgs := HL.out.lt
        by_cases hlt : k < len
        · obtain ⟨a, qb, qo, rfl, hq, hql, c0, c1, c2⟩ := (hD.below hB) k hlt
          generalize D k = d at c0 c1 c2
          obtain ⟨dr, who, lev⟩ := d
          simp only at c0 c1 c2
          clear hD
          cases dr
          · go_wp2_with (first
              | (go_at_call 21; (with_reducible refine (copy_any w.heap.size xs _ (HL.out.below ((Below.refl wr.heap.size wr).alloc (Nat.le_refl _) _) hgs)).mono ?_); rintro e w3 ⟨rfl, hl3, hb3⟩; have k0 := (hb3.cell (p := ⟨wr.heap.size, 0, none⟩) (by simp)).trans deed_cells.1; have k1 := (hb3.cell (p := ⟨wr.heap.size, 1, none⟩) (by simp)).trans deed_cells.2.1; have k2 := (hb3.cell (p := ⟨wr.heap.size, 2, none⟩) (by simp)).trans deed_cells.2.2)
              | (go_at_call 18; (with_reducible refine (ask_any w.heap.size xs who lev _ ((HL.out.below ((Below.refl wr.heap.size wr).alloc (Nat.le_refl _) _) hgs).below hb3 (by simp; omega))).mono ?_); rintro e w4 ⟨rfl, hl4, hg4⟩))
            have hB4 : Below w.heap.size w w4 := (((hB.alloc (by omega) _).trans (hb3.mono (by simp; omega)))).grown hg4 (by have := hb3.size; simp at this; omega) (fun j hj => by injection hj with hj; omega)
            have hlen : (askF xs who lev).1.length = xs.length := askF_length ..
            have hF4 : Fair (askF xs who lev).1 := hF.ask who lev
            have hup : ∀ j, xs.getD j 0 ≤ (askF xs who lev).1.getD j 0 := ask_up xs who lev
            have hl3' := hl3.grown hg4 (by intro e; injection e with e; simp at e; omega)
            obtain ⟨r, hr⟩ : ∃ r, askF xs who lev = r := ⟨_, rfl⟩
            rw [hr] at hlen hF4 hl4 hup
            obtain ⟨ys, code⟩ := r
            simp only at hlen hF4 hl4 hup
            have HL4 := Lib.hid hl4
            obtain ⟨n1, hn1⟩ : ∃ n, (hold ys 1 ys.length).length = n := ⟨_, rfl⟩
            obtain ⟨n2, hn2⟩ : ∃ n, (hold ys 2 ys.length).length = n := ⟨_, rfl⟩
            obtain ⟨n4, hn4⟩ : ∃ n, (hold ys 4 ys.length).length = n := ⟨_, rfl⟩
            have hw2 := hF4.writers
            have hw4 := hF4.lone
            have hk1 := hold_le ys 1 ys.length
            have hk2 := hold_le ys 2 ys.length
            have hk4 := hold_le ys 4 ys.length
            rw [hn1] at hw4 hk1
            rw [hn2] at hw2 hk2
            rw [hn4] at hw4 hk4
            have hways : (n4 ≤ 0 ∧ n1 ≤ 8) ∨ (0 < n4 ∧ n1 ≤ 1) := by omega
            have N1 := Lib.hid hn1
            have N2 := Lib.hid hn2
            have N4 := Lib.hid hn4
            have HC := Lib.hid hlen
            clear hn1 hn2 hn4 hl4 hr hw4 hlen
            rw [show ∀ O, (wr.alloc O).heap.size = wr.heap.size + 1 from fun O => by simp] at hl3'
            have HL3 := Lib.hid hl3'
            clear hl3' hl3 c0 c1 c2 k0 k1 k2
            go_loop [10] (fun i => ∃ j : Nat, j ≤ xs.length ∧ i = .int .i64 j) (fun i => xs.length - (intOf i).toNat)
            case atStart => exact ⟨0, Nat.zero_le _, rfl⟩
            case round =>
              obtain ⟨j, hj, rfl⟩ := hrel
              by_cases hjl : j < xs.length
              · have hle := hup j
                obtain ⟨x, hx⟩ : ∃ x, xs.getD j 0 = x := ⟨_, rfl⟩
                obtain ⟨y, hy⟩ : ∃ y, ys.getD j 0 = y := ⟨_, rfl⟩
                rw [hx, hy] at hle
                have HX := Lib.hid ((levF_in hjl).trans hx)
                have HY := Lib.hid ((levF_in (by rw [HC.out]; exact hjl)).trans hy)
                clear hx hy hup
                go_wp2_with (first
                  | (go_at_call 20; (with_reducible refine (level_of HY.out HL4.out).mono ?_); rintro e w5 ⟨rfl, rfl⟩)
                  | (go_at_call 20; (with_reducible refine (level_of HX.out HL3.out).mono ?_); rintro e w5 ⟨rfl, rfl⟩))
                go_round
                case rel => exact ⟨j + 1, by omega, by go_num⟩
                case measure => simp [intOf]; omega
              · obtain rfl : j = xs.length := by omega
                rcases hways with ⟨hz, hz'⟩ | ⟨hz, hz'⟩
                all_goals
                  go_wp2_with (first
                    | (go_at_call 19; (with_reducible refine (holds_len N1.out HL4.out).mono ?_); rintro e w5 ⟨A5, c5, rfl, hb5⟩)
                    | (go_at_call 19; (with_reducible refine (holds_len N2.out (HL4.out.below hb5 HL4.out.lt)).mono ?_); rintro e w6 ⟨A6, c6, rfl, hb6⟩)
                    | (go_at_call 19; (with_reducible refine (holds_len N4.out ((HL4.out.below hb5 HL4.out.lt).below hb6 (HL4.out.below hb5 HL4.out.lt).lt)).mono ?_); rintro e w7 ⟨A7, c7, rfl, hb7⟩))
                  have h47 := hb5.trans ((hb6.trans (hb7.mono hb6.size)).mono hb5.size)
                  go_roundw
                  case rel => exact ⟨k + 1, ys, by omega, by go_num, HC.out, hF4, HL4.out.below h47 HL4.out.lt, hB4.trans (h47.mono hB4.size)⟩
                  case measure => simp [intOf]; omega
          · go_wp2_with (first
              | (go_at_call 21; (with_reducible refine (copy_any w.heap.size xs _ (HL.out.below ((Below.refl wr.heap.size wr).alloc (Nat.le_refl _) _) hgs)).mono ?_); rintro e w3 ⟨rfl, hl3, hb3⟩; have k0 := (hb3.cell (p := ⟨wr.heap.size, 0, none⟩) (by simp)).trans deed_cells.1; have k1 := (hb3.cell (p := ⟨wr.heap.size, 1, none⟩) (by simp)).trans deed_cells.2.1; have k2 := (hb3.cell (p := ⟨wr.heap.size, 2, none⟩) (by simp)).trans deed_cells.2.2)
              | (go_at_call 17; (with_reducible refine (drop_any w.heap.size xs who lev _ ((HL.out.below ((Below.refl wr.heap.size wr).alloc (Nat.le_refl _) _) hgs).below hb3 (by simp; omega))).mono ?_); rintro e w4 ⟨rfl, hl4, hg4⟩))
            have hB4 : Below w.heap.size w w4 := (((hB.alloc (by omega) _).trans (hb3.mono (by simp; omega)))).grown hg4 (by have := hb3.size; simp at this; omega) (fun j hj => by injection hj with hj; omega)
            have hlen : (dropF xs who lev).1.length = xs.length := dropF_length ..
            have hF4 : Fair (dropF xs who lev).1 := hF.drop who lev
            obtain ⟨r, hr⟩ : ∃ r, dropF xs who lev = r := ⟨_, rfl⟩
            rw [hr] at hlen hF4 hl4
            obtain ⟨ys, code⟩ := r
            simp only at hlen hF4 hl4
            have HL4 := Lib.hid hl4
            obtain ⟨n1, hn1⟩ : ∃ n, (hold ys 1 ys.length).length = n := ⟨_, rfl⟩
            obtain ⟨n2, hn2⟩ : ∃ n, (hold ys 2 ys.length).length = n := ⟨_, rfl⟩
            obtain ⟨n4, hn4⟩ : ∃ n, (hold ys 4 ys.length).length = n := ⟨_, rfl⟩
            have hw2 := hF4.writers
            have hw4 := hF4.lone
            have hk1 := hold_le ys 1 ys.length
            have hk2 := hold_le ys 2 ys.length
            have hk4 := hold_le ys 4 ys.length
            rw [hn1] at hw4 hk1
            rw [hn2] at hw2 hk2
            rw [hn4] at hw4 hk4
            have hways : (n4 ≤ 0 ∧ n1 ≤ 8) ∨ (0 < n4 ∧ n1 ≤ 1) := by omega
            have N1 := Lib.hid hn1
            have N2 := Lib.hid hn2
            have N4 := Lib.hid hn4
            have HC := Lib.hid hlen
            clear hn1 hn2 hn4 hl4 hr hw4 hlen
            clear c0 c1 c2 k0 k1 k2 hl3
            rcases hways with ⟨hz, hz'⟩ | ⟨hz, hz'⟩
            all_goals
              go_wp2_with (first
                | (go_at_call 19; (with_reducible refine (holds_len N1.out HL4.out).mono ?_); rintro e w5 ⟨A5, c5, rfl, hb5⟩)
                | (go_at_call 19; (with_reducible refine (holds_len N2.out (HL4.out.below hb5 HL4.out.lt)).mono ?_); rintro e w6 ⟨A6, c6, rfl, hb6⟩)
                | (go_at_call 19; (with_reducible refine (holds_len N4.out ((HL4.out.below hb5 HL4.out.lt).below hb6 (HL4.out.below hb5 HL4.out.lt).lt)).mono ?_); rintro e w7 ⟨A7, c7, rfl, hb7⟩))
              have h47 := hb5.trans ((hb6.trans (hb7.mono hb6.size)).mono hb5.size)
              go_roundw
              case rel => exact ⟨k + 1, ys, by omega, by go_num, HC.out, hF4, HL4.out.below h47 HL4.out.lt, hB4.trans (h47.mono hB4.size)⟩
              case measure => simp [intOf]; omega
        · obtain rfl : k = len := by omega
          go_wp2_with (first
            | (go_at_call 12; (with_reducible refine (live_any _).mono ?_); rintro e w3 ⟨rfl, hb3⟩))
          go_ret
          exact ⟨rfl, hB.trans (hb3.mono hB.size)⟩
  · go_enter Try.func5, Try.ntmps5
    go_wp2_with (first
      | (go_at_call 12; (with_reducible refine (live_any _).mono ?_); rintro e w1 ⟨rfl, hb⟩))
    go_ret
    exact ⟨rfl, hb⟩

end Go.Proofs.Ytpalbdjcfhlniaa
