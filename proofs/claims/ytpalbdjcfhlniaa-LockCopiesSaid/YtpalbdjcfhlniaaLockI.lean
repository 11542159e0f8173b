/- The walk over LockCopies. -/
import Derived.Test.YtpalbdjcfhlniaaLockH
namespace Go.Proofs.Ytpalbdjcfhlniaa
open Go.RowKit

set_option maxHeartbeats 2000000 in
theorem copies_any (n who level : Int) (A A' : Option Addr) (len cap len' cap' : Nat) (D D' : Nat → Bool × Int × Int) (w : World) (hm : len ≤ maxLen) (hm' : len' ≤ maxLen) (hD : DeedsAt w A len D) (hD' : DeedsAt w A' len' D') :
    Calls Try.prog 6 #[.int .i64 n, .slice A len cap, .slice A' len' cap', .int .i64 who, .int .i64 level] w fun e w' => e = .returned (.bool true) ∧ Below w.heap.size w w' := by
  unfold maxLen at hm hm'
  by_cases hl : len ≤ 200
  · by_cases hl' : len' ≤ 200
    · by_cases hn : n < 1 ∨ 8 < n
      · go_enter Try.func6, Try.ntmps6
        go_wp2_with (first
          | (go_at_call 18; (with_reducible refine (ask_nil who level _).mono ?_); rintro e w' ⟨rfl, rfl⟩)
          | (go_at_call 17; (with_reducible refine (drop_nil who level _).mono ?_); rintro e w' ⟨rfl, rfl⟩)
          | (go_at_call 20; (with_reducible refine (level_nil who _).mono ?_); rintro e w' ⟨rfl, rfl⟩)
          | (go_at_call 19; (with_reducible refine (holds_nil level _).mono ?_); rintro e w' ⟨rfl, rfl⟩)
          | (go_at_call 21; (with_reducible refine (copy_nil _).mono ?_); rintro e w' ⟨rfl, rfl⟩)
          | (go_at_call 13; (with_reducible refine (new_no n _ hn).mono ?_); rintro e w' ⟨rfl, rfl⟩)
          | (go_at_call 12; (with_reducible refine (live_any _).mono ?_); rintro e w1 ⟨rfl, hb⟩))
        go_ret
        exact ⟨rfl, hb⟩
      · obtain ⟨m, rfl⟩ : ∃ m : Nat, n = m := ⟨n.toNat, by omega⟩
        have hm1 : 1 ≤ m := by omega
        have hm8 : m ≤ 8 := by omega
        clear hn
        go_enter Try.func6, Try.ntmps6
        go_wp2_with (first
          | (go_at_call 18; (with_reducible refine (ask_nil who level _).mono ?_); rintro e w' ⟨rfl, rfl⟩)
          | (go_at_call 17; (with_reducible refine (drop_nil who level _).mono ?_); rintro e w' ⟨rfl, rfl⟩)
          | (go_at_call 20; (with_reducible refine (level_nil who _).mono ?_); rintro e w' ⟨rfl, rfl⟩)
          | (go_at_call 19; (with_reducible refine (holds_nil level _).mono ?_); rintro e w' ⟨rfl, rfl⟩)
          | (go_at_call 21; (with_reducible refine (copy_nil _).mono ?_); rintro e w' ⟨rfl, rfl⟩)
          | (go_at_call 13; (with_reducible refine (new_yes m _ hm1 hm8).mono ?_); rintro e w1 ⟨rfl, rfl⟩)
          | (go_at_call 14; (with_reducible refine (rnew_yes m _ hm1 hm8).mono ?_); rintro e w2 ⟨rfl, hr2, hb2⟩))
        have h1 := (new_lock m hm1 hm8 w).below hb2 (by simp)
        have hbw : Below w.heap.size w w2 := ((Below.refl w.heap.size w).alloc (Nat.le_refl _) _).trans (hb2.mono (by simp))
        go_loopw [14, 80] (fun v i wr => ∃ (k b c : Nat) (xs : List Int), k ≤ len ∧ i = .int .i64 k ∧ v = .slice (some ⟨b, 0, none⟩) xs.length c ∧ w.heap.size ≤ b ∧ LockAt wr w.heap.size xs ∧ RowAt wr b c xs ∧ Below w.heap.size w wr)
          (fun _ i _ => len - (intOf i).toNat)
        case atStart => exact ⟨0, w.heap.size + 1, m, List.replicate m 0, Nat.zero_le _, rfl, by simp, by omega, h1, by simpa using hr2, hbw⟩
        case round =>
          obtain ⟨k, b, c, xs, hk, rfl, rfl, hbb, hL, hR, hB⟩ := hrel
          clear h1 hbw hr2 hb2
          have HL := Lib.hid hL
          have HR := Lib.hid hR
          clear hL hR
          have hgs := HL.out.lt
          have hbs := HR.out.lt
          by_cases hlt : k < len
          · obtain ⟨a, qb, qo, rfl, hq, hql, c0, c1, c2⟩ := (hD.below hB) k hlt
            generalize D k = d at c0 c1 c2
            obtain ⟨dr, who', lev⟩ := d
            simp only at c0 c1 c2
            clear hD hD'
            go_wp2_with (first
              | (go_at_call 15; (with_reducible refine (step_any w.heap.size b c xs dr who' lev _ (HL.out.below ((Below.refl wr.heap.size wr).alloc (Nat.le_refl _) _) hgs) (HR.out.below ((Below.refl wr.heap.size wr).alloc (Nat.le_refl _) _) hbs)).mono ?_); rintro e w3 ⟨b', c', rfl, hb', hr', hl', hg'⟩))
            have hB3 : Below w.heap.size w w3 := (hB.alloc (by omega) _).grown hg' (by simp; omega) (fun j hj => by injection hj with hj; omega)
            have hbb' : w.heap.size ≤ b' := by
              rcases hb' with h | h
              · omega
              · simp at h; omega
            go_roundw
            case rel => exact ⟨k + 1, b', c', _, by omega, by go_num, rfl, hbb', hl', hr', hB3⟩
            case measure => simp [intOf]; omega
          · obtain rfl : k = len := by omega
            go_wp2_with (first
              | (go_at_call 21; (with_reducible refine (copy_any w.heap.size xs _ HL.out).mono ?_); rintro e w3 ⟨rfl, hl3, hb3⟩))
            have hr3 := HR.out.below hb3 hbs
            have hx3 := HL.out.below hb3 hgs
            have hB3 : Below w.heap.size w w3 := hB.trans (hb3.mono hB.size)
            clear HL HR
            obtain ⟨g2, hg2⟩ : ∃ g2, wr.heap.size = g2 := ⟨_, rfl⟩
            rw [hg2] at hl3 hb3 hgs hbs
            have hwg2 : w.heap.size ≤ g2 := by omega
            rw [hg2]
            clear hg2 hD
            go_loopw [19, 99] (fun v i wr => ∃ (k b2 c2 : Nat) (ys : List Int), k ≤ len' ∧ i = .int .i64 k ∧ v = .slice (some ⟨b2, 0, none⟩) ys.length c2 ∧ w.heap.size ≤ b2 ∧ LockAt wr g2 ys ∧ RowAt wr b2 c2 ys ∧ LockAt wr w.heap.size xs ∧ RowAt wr b c xs ∧ Below w.heap.size w wr)
              (fun _ i _ => len' - (intOf i).toNat)
            case atStart => exact ⟨0, b, c, xs, Nat.zero_le _, rfl, rfl, hbb, hl3, hr3, hx3, hr3, hB3⟩
            case round =>
              obtain ⟨k', b2, c2, ys, hk', rfl, rfl, hbb2, hL2, hR2, hL, hR, hB⟩ := hrel
              clear hr3 hx3 hB3 hl3 hb3
              have HL2 := Lib.hid hL2
              have HR2 := Lib.hid hR2
              have HL := Lib.hid hL
              have HR := Lib.hid hR
              have hne : b ≠ g2 := fun e => (hL2.ne_row hR) e.symm
              clear hL hR hL2 hR2
              have hgs2 := HL2.out.lt
              have hbs2 := HR2.out.lt
              have hgs := HL.out.lt
              have hbs := HR.out.lt
              by_cases hlt : k' < len'
              · obtain ⟨a, qb, qo, rfl, hq, hql, c0, c1, c3⟩ := (hD'.below hB) k' hlt
                generalize D' k' = d at c0 c1 c3
                obtain ⟨dr, who', lev⟩ := d
                simp only at c0 c1 c3
                clear hD'
                go_wp2_with (first
                  | (go_at_call 15; (with_reducible refine (step_any g2 b2 c2 ys dr who' lev _ (HL2.out.below ((Below.refl _ _).alloc (Nat.le_refl _) _) hgs2) (HR2.out.below ((Below.refl _ _).alloc (Nat.le_refl _) _) hbs2)).mono ?_); rintro e w3 ⟨b', c', rfl, hb', hr', hl', hg'⟩))
                have hB3 : Below w.heap.size w w3 := (hB.alloc (by omega) _).grown hg' (by simp; omega) (fun j hj => by injection hj with hj; omega)
                have hbb' : w.heap.size ≤ b' := by
                  rcases hb' with h | h
                  · omega
                  · simp at h; omega
                have hLn := (HL.out.below ((Below.refl _ _).alloc (Nat.le_refl _) _) hgs).grown hg' (by intro e; injection e with e; omega)
                have hRn := (HR.out.below ((Below.refl _ _).alloc (Nat.le_refl _) _) hbs).grown hg' (by intro e; injection e with e; omega)
                go_roundw
                case rel => exact ⟨k' + 1, b', c', _, by omega, by go_num, rfl, hbb', hl', hr', hLn, hRn, hB3⟩
                case measure => simp [intOf]; omega
              · obtain rfl : k' = len' := by omega
                go_wp2_with (first
                  | (go_at_call 12; (with_reducible refine (live_any _).mono ?_); rintro e w3 ⟨rfl, hb3⟩)
                  | (go_at_call 16; (with_reducible refine (same_any w.heap.size b c xs level _ (HL.out.below hb3 hgs) (HR.out.below hb3 hbs)).mono ?_); rintro e w4 ⟨rfl, hb4⟩)
                  | (go_at_call 16; (with_reducible refine (same_any g2 b2 c2 ys level _ ((HL2.out.below hb3 hgs2).below hb4 (Nat.lt_of_lt_of_le hgs2 hb3.size)) ((HR2.out.below hb3 hbs2).below hb4 (Nat.lt_of_lt_of_le hbs2 hb3.size))).mono ?_); rintro e w5 ⟨rfl, hb5⟩))
                go_ret
                have h35 := hb3.trans ((hb4.trans (hb5.mono hb4.size)).mono hb3.size)
                exact ⟨rfl, hB.trans (h35.mono hB.size)⟩
    · go_enter Try.func6, Try.ntmps6
      go_wp2_with (first
        | (go_at_call 12; (with_reducible refine (live_any _).mono ?_); rintro e w1 ⟨rfl, hb⟩))
      go_ret
      exact ⟨rfl, hb⟩
  · go_enter Try.func6, Try.ntmps6
    go_wp2_with (first
      | (go_at_call 12; (with_reducible refine (live_any _).mono ?_); rintro e w1 ⟨rfl, hb⟩))
    go_ret
    exact ⟨rfl, hb⟩

end Go.Proofs.Ytpalbdjcfhlniaa
