/- The walks over one and live. -/
import Derived.Test.YtpalbdjcfhlniaaStatX
import Derived.Test.YtpalbdjcfhlniaaStatV
import Derived.Test.YtpalbdjcfhlniaaStatD
namespace Go.Proofs.Ytpalbdjcfhlniaa
open Go.RowKit

theorem one_any (n : Int) (s : ByteArray) (w : World) : Calls Try.prog 41 #[.int .i64 n, .string s] w fun e w' => e = .returned (.slice (some ⟨w.heap.size, 0, none⟩) 2 2) ∧ w' = w.alloc (.cells #[.int .i64 1, .int .i64 n, .string ⟨#[]⟩, .int .i64 2, .int .i64 0, .string s] 78) := by
  go_enter Try.func41, Try.ntmps41
  go_wp2_with fail
  go_ret
  exact ⟨rfl, rfl⟩

theorem live_same : statsB liveStats liveStats = true := by kernel_rfl
theorem live_g1 : guessF liveStats ⟨#[88]⟩ 1 false = 2 := by kernel_rfl
theorem live_g2 : guessF liveStats ⟨#[120]⟩ 1 true = 1 := by kernel_rfl
theorem live_g3 : guessF [] ⟨#[120]⟩ 2 true = 3 := by kernel_rfl
theorem live_len : ∀ s ∈ liveStats, s.unlike.length ≤ 100 := fun s h => by simp [liveStats] at h; rcases h with rfl | rfl <;> decide
theorem live_len' : ∀ s ∈ liveStats, s.unlike.length ≤ maxLen := fun s h => Nat.le_trans (live_len s h) (by unfold maxLen; omega)
theorem live_same_call (A : Option Addr) (c : Nat) (wf w : World) (h : SeqAt StatE 3 wf A liveStats) (hw : w = litW wf) :
    Calls Try.prog 27 #[.slice A 2 c, .slice (some ⟨wf.heap.size + 1 + 1, 0, none⟩) 2 2] w fun e w' => e = .returned (.bool true) ∧ Below wf.heap.size wf w' := by
  subst hw
  exact (rsameS_any A _ c 2 liveStats liveStats (litW wf) (h.below StatE.stays (litW_below wf)) (lit_stats wf) (by decide) (by decide) live_len live_len).mono fun e w' ⟨he, hb⟩ => ⟨by rw [he, live_same], (litW_below wf).trans (hb.mono (by rw [litW_size]; omega))⟩
theorem live_guess1 (A : Option Addr) (c : Nat) (w : World) (h : SeqAt StatE 3 w A liveStats) : Calls Try.prog 23 #[.slice A 2 c, .string ⟨#[88]⟩, .int .i64 1, .bool false] w fun e w' => e = .returned (.int .i64 2) ∧ Below w.heap.size w w' :=
  (guess_any A c liveStats ⟨#[88]⟩ 1 false w h (by unfold maxLen; decide) live_len' (small _ (by decide))).mono fun e w' ⟨he, hb⟩ => ⟨by rw [he, live_g1], hb⟩
theorem live_guess2 (A : Option Addr) (c : Nat) (w : World) (h : SeqAt StatE 3 w A liveStats) : Calls Try.prog 23 #[.slice A 2 c, .string ⟨#[120]⟩, .int .i64 1, .bool true] w fun e w' => e = .returned (.int .i64 1) ∧ Below w.heap.size w w' :=
  (guess_any A c liveStats ⟨#[120]⟩ 1 true w h (by unfold maxLen; decide) live_len' (small _ (by decide))).mono fun e w' ⟨he, hb⟩ => ⟨by rw [he, live_g2], hb⟩
theorem live_guess3 (w : World) : Calls Try.prog 23 #[.slice none 0 0, .string ⟨#[120]⟩, .int .i64 2, .bool true] w fun e w' => e = .returned (.int .i64 3) ∧ Below w.heap.size w w' :=
  (guess_any none 0 [] ⟨#[120]⟩ 2 true w (SeqAt.nil _ _ _ _) (Nat.zero_le _) (fun s h => by simp at h) (small _ (by decide))).mono fun e w' ⟨he, hb⟩ => ⟨by rw [he, live_g3], hb⟩

set_option maxHeartbeats 2000000 in
set_option maxRecDepth 100000 in
theorem live_any (w : World) : Calls Try.prog 22 #[] w fun e w' => e = .returned (.bool true) ∧ Below w.heap.size w w' := by
  go_enter Try.func22, Try.ntmps22
  go_wp2_with (first
    | (go_at_call 41; (with_reducible refine (one_any _ _ _).mono ?_); rintro e w1 ⟨rfl, rfl⟩)
    | (go_at_call 26; (refine (live_call w).mono ?_); rintro e wf ⟨A, c, rfl, hs, hb⟩)
    | (go_at_call 27; (refine (live_same_call A c wf _ hs rfl).mono ?_); rintro e w2 ⟨rfl, hb2⟩; have h2 := hs.below StatE.stays hb2)
    | (go_at_call 23; (with_reducible refine (live_guess1 A c _ h2).mono ?_); rintro e w3 ⟨rfl, hb3⟩; have h3 := h2.below StatE.stays hb3)
    | (go_at_call 23; (with_reducible refine (live_guess2 A c _ h3).mono ?_); rintro e w4 ⟨rfl, hb4⟩)
    | (go_at_call 23; (with_reducible refine (live_guess3 _).mono ?_); rintro e w5 ⟨rfl, hb5⟩))
  go_ret
  exact ⟨rfl, hb.trans ((hb2.trans ((hb3.trans ((hb4.trans (hb5.mono hb4.size)).mono hb3.size)).mono hb2.size)).mono hb.size)⟩

end Go.Proofs.Ytpalbdjcfhlniaa
