/- The walk over the law of guesses. -/
import Derived.Test.YtpalbdjcfhlniaaStatW
import Derived.Test.YtpalbdjcfhlniaaStatE
namespace Go.Proofs.Ytpalbdjcfhlniaa
open Go.RowKit

theorem many_ok {w : World} {A : Option Addr} {l : List St} (hl : SeqAt StatE 3 w A l) : ∀ s ∈ l, s.many ≤ 9223372036854775807 := fun s hs => by
  obtain ⟨k, hk⟩ := List.getElem?_of_mem hs
  obtain ⟨_, _, _, _, _, _, hE⟩ := hl k s hk
  exact hE.mb

set_option maxHeartbeats 4000000 in
set_option maxRecDepth 100000 in
theorem guesses_any (A : Option Addr) (c : Nat) (l : List St) (name : ByteArray) (eq : Int) (ranged : Bool) (w : World) (hl : SeqAt StatE 3 w A l) (hm : l.length ≤ maxLen) (hu : ∀ s ∈ l, s.unlike.length ≤ maxLen) (hz : name.size ≤ maxLen) :
    Calls Try.prog 7 #[.slice A l.length c, .string name, .int .i64 eq, .bool ranged] w fun e w' => e = .returned (.bool true) ∧ Below w.heap.size w w' := by
  have HL := Lib.hid hl
  have HU := Lib.hid hu
  have HMB := Lib.hid (many_ok hl)
  have HM := Lib.hid hm
  have HZ := Lib.hid hz
  clear hl hu
  unfold maxLen at hm hz
  by_cases h1 : 20 < l.length
  · go_enter Try.func7, Try.ntmps7
    go_wp2_with (first
      | (go_at_call 22; (with_reducible refine (live_any _).mono ?_); rintro e w1 ⟨rfl, hb1⟩))
    go_ret
    exact ⟨rfl, hb1⟩
  · by_cases h2 : 200 < name.size
    · go_enter Try.func7, Try.ntmps7
      go_wp2_with (first
        | (go_at_call 22; (with_reducible refine (live_any _).mono ?_); rintro e w1 ⟨rfl, hb1⟩))
      go_ret
      exact ⟨rfl, hb1⟩
    · go_enter Try.func7, Try.ntmps7
      go_wp2_with fail
      go_loopw [9] (fun i wr => ∃ k : Nat, k ≤ l.length ∧ i = .int .i64 k ∧ Below w.heap.size w wr) (fun i _ => l.length - (intOf i).toNat)
      case atStart => exact ⟨0, Nat.zero_le _, rfl, Below.refl _ _⟩
      case round =>
        obtain ⟨k, hk, rfl, hB⟩ := hrel
        have hBs := hB.size
        by_cases hlt : k < l.length
        · obtain ⟨a, qb, qo, s, rfl, hq, hql, hsk, hE⟩ := (HL.out.below StatE.stays hB).get k hlt
          obtain ⟨v, hu, A2, c2, rfl, hsq⟩ := hE.unlike
          have h0 := hE.name
          have hus := HU.out s (List.mem_of_getElem? hsk)
          have hsz := hE.sz
          unfold maxLen at hus hsz
          clear hE hsq hsk
          obtain ⟨n, hn⟩ : ∃ n, s.unlike.length = n := ⟨_, rfl⟩
          obtain ⟨nm, hnm⟩ : ∃ n, s.name = n := ⟨_, rfl⟩
          rw [hn] at hu hus
          rw [hnm] at h0 hsz
          clear hn hnm
          by_cases g1 : 60 < n
          · go_wp2_with (first
              | (go_at_call 22; (with_reducible refine (live_any _).mono ?_); rintro e w1 ⟨rfl, hb1⟩))
            go_ret
            exact ⟨rfl, hB.trans (hb1.mono hBs)⟩
          · by_cases g2 : 200 < nm.size
            · go_wp2_with (first
                | (go_at_call 22; (with_reducible refine (live_any _).mono ?_); rintro e w1 ⟨rfl, hb1⟩))
              go_ret
              exact ⟨rfl, hB.trans (hb1.mono hBs)⟩
            · go_wp2_with fail
              go_roundw
              case rel => exact ⟨k + 1, by omega, by go_num, hB⟩
              case measure => simp [intOf]; omega
        · obtain rfl : k = l.length := by omega
          have HSQ := Lib.hid (HL.out.below StatE.stays hB)
          go_wp2_with (first
            | (go_at_call 22; (with_reducible refine (live_any _).mono ?_); rintro e w1 ⟨rfl, hb1⟩; have s1 := HSQ.out.below StatE.stays hb1)
            | (go_at_call 23; (with_reducible refine (guess_any A c l name eq ranged _ s1 HM.out HU.out HZ.out).mono ?_); rintro e w2 ⟨rfl, hb2⟩; have s2 := s1.below StatE.stays hb2)
            | (go_at_call 24; (with_reducible refine (rguess_any A c l name eq ranged _ s2 HM.out HU.out HZ.out HMB.out).mono ?_); rintro e w3 ⟨rfl, hb3⟩))
          go_ret
          refine ⟨by simp, hB.trans ((hb1.trans ((hb2.trans (hb3.mono hb2.size)).mono hb1.size)).mono hBs)⟩

end Go.Proofs.Ytpalbdjcfhlniaa
