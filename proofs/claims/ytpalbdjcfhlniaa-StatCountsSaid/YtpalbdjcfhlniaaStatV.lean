/- The walks over the document's Same and over one. -/
import Derived.Test.YtpalbdjcfhlniaaStatH
namespace Go.Proofs.Ytpalbdjcfhlniaa
open Go.RowKit

theorem rowsF_len {l : List St} {n : Nat} (h : ∀ s ∈ l, s.unlike.length ≤ n) : ∀ r ∈ rowsF l, r.length ≤ n + 2 := fun r hr => by
  obtain ⟨s, hs, rfl⟩ := List.mem_map.1 hr
  rw [rowF_length]; have := h s hs; omega

/-- Are two statistics lists one, as rows? -/
def statsB (a b : List St) : Bool := allB (allB vlB) (rowsF a) (rowsF b)

set_option maxHeartbeats 1000000 in
set_option maxRecDepth 100000 in
theorem rsameS_any (A A' : Option Addr) (c c' : Nat) (a b : List St) (w : World) (ha : SeqAt StatE 3 w A a) (hb : SeqAt StatE 3 w A' b) (hma : a.length ≤ 100) (hmb : b.length ≤ 100) (hua : ∀ s ∈ a, s.unlike.length ≤ 100) (hub : ∀ s ∈ b, s.unlike.length ≤ 100) :
    Calls Try.prog 27 #[.slice A a.length c, .slice A' b.length c'] w fun e w' => e = .returned (.bool (statsB a b)) ∧ Below w.heap.size w w' := by
  have HA := Lib.hid ha
  have HB := Lib.hid hb
  have H1 := Lib.hid (rrows_any A c a w ha hma hua)
  have hL1 : (rowsF a).length ≤ maxLen := by simp [rowsF, maxLen]; omega
  have HL1 := Lib.hid hL1
  have HR1 := Lib.hid (show ∀ r ∈ rowsF a, r.length ≤ maxLen from fun r hr => Nat.le_trans (rowsF_len hua r hr) (by unfold maxLen; omega))
  have HR2 := Lib.hid (show ∀ r ∈ rowsF b, r.length ≤ maxLen from fun r hr => Nat.le_trans (rowsF_len hub r hr) (by unfold maxLen; omega))
  have HUB := Lib.hid hub
  clear ha hb hua hub hL1
  obtain ⟨la, hla⟩ : ∃ n, a.length = n := ⟨_, rfl⟩
  obtain ⟨lb, hlb⟩ : ∃ n, b.length = n := ⟨_, rfl⟩
  have H2 := Lib.hid (fun (w1 : World) (h : Below w.heap.size w w1) => rrows_any A' c' b w1 (HB.out.below StatE.stays h) hmb HUB.out)
  rw [hla] at H1 ⊢
  rw [hlb] at H2 ⊢
  clear hla hlb hma hmb
  go_enter Try.func27, Try.ntmps27
  go_wp2_with (first
    | (go_at_call 33; (with_reducible refine (H1.out).mono ?_); rintro e w1 ⟨A1, c1, rfl, hs1, hb1⟩)
    | (go_at_call 33; (with_reducible refine (H2.out _ hb1).mono ?_); rintro e w2 ⟨A2, c2, rfl, hs2, hb2⟩; have hs1' := Lib.hid (hs1.below (SlE.stays ValE.stays 3) hb2); have hbb := Lib.hid (hb1.trans (hb2.mono hb1.size)))
    | (go_at_call 32; (with_reducible refine (sameRows_any A1 A2 c1 c2 (rowsF a) (rowsF b) _ hs1'.out hs2 HL1.out HR1.out HR2.out).mono ?_); rintro e w3 ⟨rfl, n, rfl⟩))
  go_ret
  exact ⟨rfl, below_drewN' hbb.out n⟩

end Go.Proofs.Ytpalbdjcfhlniaa
