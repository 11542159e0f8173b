/- The walk over LockPlays. -/
import Derived.Test.YtpalbdjcfhlniaaLockG
namespace Go.Proofs.Ytpalbdjcfhlniaa
open Go.RowKit

/-- Deeds that lie in memory. -/
def DeedsAt (w : World) (A : Option Addr) (len : Nat) (D : Nat → Bool × Int × Int) : Prop :=
  ∀ k, k < len → ∃ a qb qo, A = some a ∧ a.add (k * 3) = ⟨qb, qo, none⟩ ∧ qb < w.heap.size ∧ w.cell? ⟨qb, qo, none⟩ = some (.bool (D k).1) ∧ w.cell? ⟨qb, qo + 1, none⟩ = some (.int .i64 (D k).2.1) ∧ w.cell? ⟨qb, qo + 2, none⟩ = some (.int .i64 (D k).2.2)

theorem DeedsAt.below {w w' : World} {A : Option Addr} {len : Nat} {D : Nat → Bool × Int × Int} (h : DeedsAt w A len D) (hb : Below w.heap.size w w') : DeedsAt w' A len D := fun k hk =>
  let ⟨a, qb, qo, e, eq, hl, c0, c1, c2⟩ := h k hk
  ⟨a, qb, qo, e, eq, Nat.lt_of_lt_of_le hl hb.size, (hb.cell hl).trans c0, (hb.cell hl).trans c1, (hb.cell hl).trans c2⟩

set_option maxHeartbeats 1000000 in
theorem plays_any (n level : Int) (A : Option Addr) (len cap : Nat) (D : Nat → Bool × Int × Int) (w : World) (hm : len ≤ maxLen) (hD : DeedsAt w A len D) :
    Calls Try.prog 3 #[.int .i64 n, .slice A len cap, .int .i64 level] w fun e w' => e = .returned (.bool true) ∧ Below w.heap.size w w' := by
  unfold maxLen at hm
  by_cases hl : len ≤ 200
  · by_cases hn : n < 1 ∨ 8 < n
    · go_enter Try.func3, Try.ntmps3
      go_wp2_with (first
        | (go_at_call 13; (with_reducible refine (new_no n _ hn).mono ?_); rintro e w' ⟨rfl, rfl⟩)
        | (go_at_call 14; (with_reducible refine (rnew_no n _ hn).mono ?_); rintro e w' ⟨rfl, rfl⟩)
        | (go_at_call 12; (with_reducible refine (live_any _).mono ?_); rintro e w1 ⟨rfl, hb⟩))
      go_ret
      exact ⟨rfl, hb⟩
    · obtain ⟨m, rfl⟩ : ∃ m : Nat, n = m := ⟨n.toNat, by omega⟩
      have hm1 : 1 ≤ m := by omega
      have hm8 : m ≤ 8 := by omega
      clear hn
      go_enter Try.func3, Try.ntmps3
      go_wp2_with (first
        | (go_at_call 13; (with_reducible refine (new_yes m _ hm1 hm8).mono ?_); rintro e w1 ⟨rfl, rfl⟩)
        | (go_at_call 14; (with_reducible refine (rnew_yes m _ hm1 hm8).mono ?_); rintro e w2 ⟨rfl, hr2, hb2⟩)
        | (go_at_call 12; (with_reducible refine (live_any _).mono ?_); rintro e w3 ⟨rfl, hb⟩))
      have h1 := (new_lock m hm1 hm8 w).below hb2 (by simp)
      have hbw : Below w.heap.size w w2 := ((Below.refl w.heap.size w).alloc (Nat.le_refl _) _).trans (hb2.mono (by simp))
      go_loopw [9, 44] (fun v i wr => ∃ (k b c : Nat) (xs : List Int), k ≤ len ∧ i = .int .i64 k ∧ v = .slice (some ⟨b, 0, none⟩) xs.length c ∧ w.heap.size ≤ b ∧ LockAt wr w.heap.size xs ∧ RowAt wr b c xs ∧ Below w.heap.size w wr)
        (fun _ i _ => len - (intOf i).toNat)
      case atStart => exact ⟨0, w.heap.size + 1, m, List.replicate m 0, Nat.zero_le _, rfl, by simp, by omega, h1, by simpa using hr2, hbw⟩
      case round =>
        obtain ⟨k, b, c, xs, hk, rfl, rfl, hbb, hL, hR, hB⟩ := hrel
        clear h1 hbw hr2 hb2
        have HL := Lib.hid hL
        have HR := Lib.hid hR
        clear hL hR
        have hgs := HL.out.lt
        have hbs := HR.out.lt
        by_cases hlt : k < len
        · obtain ⟨a, qb, qo, rfl, hq, hql, c0, c1, c2⟩ := (hD.below hB) k hlt
          generalize D k = d at c0 c1 c2
          obtain ⟨dr, who, lev⟩ := d
          simp only at c0 c1 c2
          clear hD
          go_wp2_with (first
            | (go_at_call 15; (with_reducible refine (step_any w.heap.size b c xs dr who lev _ (HL.out.below ((Below.refl wr.heap.size wr).alloc (Nat.le_refl _) _) hgs) (HR.out.below ((Below.refl wr.heap.size wr).alloc (Nat.le_refl _) _) hbs)).mono ?_); rintro e w3 ⟨b', c', rfl, hb', hr', hl', hg'⟩)
            | (go_at_call 16; (with_reducible refine (same_any w.heap.size b' c' _ level _ hl' hr').mono ?_); rintro e w4 ⟨rfl, hb4⟩))
          have hB3 : Below w.heap.size w w3 := (hB.alloc (by omega) _).grown hg' (by simp; omega) (fun j hj => by injection hj with hj; omega)
          have hB4 : Below w.heap.size w w4 := hB3.trans (hb4.mono hB3.size)
          have hbb' : w.heap.size ≤ b' := by
            rcases hb' with h | h
            · omega
            · simp at h; omega
          go_roundw
          case rel => exact ⟨k + 1, b', c', _, by omega, by go_num, rfl, hbb', hl'.below hb4 hl'.lt, hr'.below hb4 hr'.lt, hB4⟩
          case measure => simp [intOf]; omega
        · obtain rfl : k = len := by omega
          go_wp2_with (first
            | (go_at_call 12; (with_reducible refine (live_any _).mono ?_); rintro e w3 ⟨rfl, hb3⟩)
            | (go_at_call 16; (with_reducible refine (same_any w.heap.size b c xs level _ (HL.out.below hb3 hgs) (HR.out.below hb3 hbs)).mono ?_); rintro e w4 ⟨rfl, hb4⟩))
          go_ret
          exact ⟨rfl, hB.trans ((hb3.trans (hb4.mono hb3.size)).mono hB.size)⟩
  · go_enter Try.func3, Try.ntmps3
    go_wp2_with (first
      | (go_at_call 12; (with_reducible refine (live_any _).mono ?_); rintro e w1 ⟨rfl, hb⟩))
    go_ret
    exact ⟨rfl, hb⟩

end Go.Proofs.Ytpalbdjcfhlniaa
