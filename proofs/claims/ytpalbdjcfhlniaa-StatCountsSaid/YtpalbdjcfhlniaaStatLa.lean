/- Right data: what is known of data that are right; the walk over May of a value. -/
import Derived.Test.YtpalbdjcfhlniaaStatU
import Derived.Test.YtpalbdjcfhlniaaStatMb
namespace Go.Proofs.Ytpalbdjcfhlniaa
open Go.RowKit

def mayV (v : Vl) : Prop := (v.kind = 0 ∧ v.n = 0 ∧ v.s.size = 0) ∨ (v.kind = 1 ∧ v.s.size = 0) ∨ ((v.kind = 2 ∨ v.kind = 3) ∧ v.n = 0 ∧ v.s.size ≤ 4096)

def MayOut (w : World) (v : Vl) (e : Ending) (w' : World) : Prop := Below w.heap.size w w' ∧ ∃ b, e = .returned (.bool b) ∧ (b = true → mayV v)

theorem size_list {s : ByteArray} (h : s.toList = []) : s.size = 0 := by
  have hl : s.toList.length = s.size := by rw [ByteArray.toList_eq]; exact Array.length_toList
  rw [h] at hl
  exact hl.symm

set_option maxHeartbeats 2000000 in
set_option maxRecDepth 100000 in
theorem may03_any (k n : Int) (s : ByteArray) (w : World) (hz : s.size ≤ maxLen) : Calls Try.prog 49 #[.agg #[.int .i64 k, .int .i64 n, .string s]] w (MayOut w ⟨k, n, s⟩) := by
  unfold maxLen at hz
  have hbb : ∀ O, Below w.heap.size w (w.alloc O) := fun O => (Below.refl _ _).alloc (Nat.le_refl _) O
  by_cases h0 : k = 0
  · subst h0
    by_cases hn : n = 0
    · subst hn
      obtain ⟨b, hb⟩ : ∃ b, s.toList.isEmpty = b := ⟨_, rfl⟩
      have HF := Lib.hid (fun h : b = true => show mayV ⟨0, 0, s⟩ from .inl ⟨rfl, rfl, size_list (by rw [h] at hb; exact List.isEmpty_iff.1 hb)⟩)
      go_enter Try.func49, Try.ntmps49
      go_wp2_with fail
      go_ret
      exact ⟨hbb _, b, rfl, HF.out⟩
    · go_enter Try.func49, Try.ntmps49
      go_wp2_with fail
      go_ret
      exact ⟨hbb _, false, rfl, fun h => by cases h⟩
  · by_cases h1 : k = 1
    · subst h1
      obtain ⟨b, hb⟩ : ∃ b, s.toList.isEmpty = b := ⟨_, rfl⟩
      have HF := Lib.hid (fun h : b = true => show mayV ⟨1, n, s⟩ from .inr (.inl ⟨rfl, size_list (by rw [h] at hb; exact List.isEmpty_iff.1 hb)⟩))
      go_enter Try.func49, Try.ntmps49
      go_wp2_with fail
      go_ret
      exact ⟨hbb _, b, rfl, HF.out⟩
    · by_cases h2 : k = 2
      · subst h2
        by_cases hn : n = 0
        · subst hn
          have HF := Lib.hid (fun h : decide ((s.size : Int) ≤ 4096) = true => show mayV ⟨2, 0, s⟩ from .inr (.inr ⟨.inl rfl, rfl, by rw [decide_eq_true_eq] at h; show s.size ≤ 4096; omega⟩))
          go_enter Try.func49, Try.ntmps49
          go_wp2_with fail
          go_ret
          exact ⟨hbb _, _, rfl, HF.out⟩
        · go_enter Try.func49, Try.ntmps49
          go_wp2_with fail
          go_ret
          exact ⟨hbb _, false, rfl, fun h => by cases h⟩
      · by_cases h3 : k = 3
        · subst h3
          by_cases hn : n = 0
          · subst hn
            have HF := Lib.hid (fun h : decide ((s.size : Int) ≤ 4096) = true => show mayV ⟨3, 0, s⟩ from .inr (.inr ⟨.inr rfl, rfl, by rw [decide_eq_true_eq] at h; show s.size ≤ 4096; omega⟩))
            go_enter Try.func49, Try.ntmps49
            go_wp2_with fail
            go_ret
            exact ⟨hbb _, _, rfl, HF.out⟩
          · go_enter Try.func49, Try.ntmps49
            go_wp2_with fail
            go_ret
            exact ⟨hbb _, false, rfl, fun h => by cases h⟩
        · go_enter Try.func49, Try.ntmps49
          go_wp2_with fail
          go_ret
          exact ⟨hbb _, false, rfl, fun h => by cases h⟩

end Go.Proofs.Ytpalbdjcfhlniaa
