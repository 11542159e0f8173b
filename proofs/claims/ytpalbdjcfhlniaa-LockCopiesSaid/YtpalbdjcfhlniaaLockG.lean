/- The statement's own pieces for lock, on: same, live. -/
import Derived.Test.YtpalbdjcfhlniaaLockF
namespace Go.Proofs.Ytpalbdjcfhlniaa
open Go.RowKit

theorem levF_in {xs : List Int} {i : Nat} (h : i < xs.length) : levF xs i = xs.getD i 0 := by simp [levF, isB_in h]
theorem level_of {g : Nat} {xs : List Int} {who x : Int} {w : World} (hx : levF xs who = x) (h : LockAt w g xs) :
    Calls Try.prog 20 #[.pointer (some ⟨g, 0, none⟩), .int .i64 who] w fun e w' => e = .returned (.int .i64 x) ∧ w = w' := by
  rw [← hx]; exact level_any g xs who w h

theorem ask_to {g : Nat} {xs ys : List Int} {who level k : Int} {w : World} (hr : askF xs who level = (ys, k)) (h : LockAt w g xs) :
    Calls Try.prog 18 #[.pointer (some ⟨g, 0, none⟩), .int .i64 who, .int .i64 level] w fun e w' => e = .returned (.int .i64 k) ∧ LockAt w' g ys ∧ w.grownBy w' (some g) :=
  (ask_any g xs who level w h).mono fun _ _ hd => by rw [hr] at hd; exact hd
theorem drop_to {g : Nat} {xs ys : List Int} {who level k : Int} {w : World} (hr : dropF xs who level = (ys, k)) (h : LockAt w g xs) :
    Calls Try.prog 17 #[.pointer (some ⟨g, 0, none⟩), .int .i64 who, .int .i64 level] w fun e w' => e = .returned (.int .i64 k) ∧ LockAt w' g ys ∧ w.grownBy w' (some g) :=
  (drop_any g xs who level w h).mono fun _ _ hd => by rw [hr] at hd; exact hd

set_option maxHeartbeats 1000000 in
theorem live_any (w : World) : Calls Try.prog 12 #[] w fun e w' => e = .returned (.bool true) ∧ Below w.heap.size w w' := by
  have E1 : Hid (askF [0, 0] 0 1 = ([1, 0], 0)) := by show _ = _; decide
  have E2 : Hid (askF [1, 0] 0 2 = ([2, 0], 0)) := by show _ = _; decide
  have E3 : Hid (askF [2, 0] 1 1 = ([2, 1], 0)) := by show _ = _; decide
  have E4 : Hid (askF [2, 1] 1 2 = ([2, 1], 15)) := by show _ = _; decide
  have E5 : Hid (askF [2, 1] 0 4 = ([3, 1], 15)) := by show _ = _; decide
  have E6 : Hid (levF [3, 1] 0 = 3) := by show _ = _; decide
  have E7 : Hid (dropF [3, 1] 1 0 = ([3, 0], 0)) := by show _ = _; decide
  have E8 : Hid (askF [3, 0] 0 4 = ([4, 0], 0)) := by show _ = _; decide
  have E9 : Hid (levF [4, 0] 0 = 4) := by show _ = _; decide
  have h0 := new_lock 2 (by decide) (by decide) w
  have N : Calls Try.prog 13 #[.int .i64 2] w fun e w' => e = .returned (.tuple #[.pointer (some ⟨w.heap.size, 0, none⟩), .int .i64 0]) ∧
      w' = w.alloc (.cells #[.int .i64 0, .int .i64 0, .int .i64 0, .int .i64 0, .int .i64 0, .int .i64 0, .int .i64 0, .int .i64 0, .int .i64 (2 : Nat)] 72) := new_yes 2 w (by decide) (by decide)
  have HN := Lib.hid N
  have H0 := Lib.hid h0
  have Hb : Hid (Below w.heap.size w (w.alloc (.cells #[.int .i64 0, .int .i64 0, .int .i64 0, .int .i64 0, .int .i64 0, .int .i64 0, .int .i64 0, .int .i64 0, .int .i64 (2 : Nat)] 72))) := by
    show Below _ _ _
    exact (Below.refl _ _).alloc (Nat.le_refl _) _
  clear h0 N
  generalize w.alloc (.cells #[.int .i64 0, .int .i64 0, .int .i64 0, .int .i64 0, .int .i64 0, .int .i64 0, .int .i64 0, .int .i64 0, .int .i64 (2 : Nat)] 72) = w0 at H0 HN Hb
  go_enter Try.func12, Try.ntmps12
  go_wp2_with (first
    | (go_at_call 13; (with_reducible refine HN.out.mono ?_); rintro e w' ⟨rfl, rfl⟩)
    | (go_at_call 18; (with_reducible refine (ask_to E1.out H0.out).mono ?_); rintro e w1 ⟨rfl, h1, g1⟩)
    | (go_at_call 18; (with_reducible refine (ask_to E2.out h1).mono ?_); rintro e w2 ⟨rfl, h2, g2⟩)
    | (go_at_call 18; (with_reducible refine (ask_to E3.out h2).mono ?_); rintro e w3 ⟨rfl, h3, g3⟩)
    | (go_at_call 18; (with_reducible refine (ask_to E4.out h3).mono ?_); rintro e w4 ⟨rfl, h4, g4⟩)
    | (go_at_call 18; (with_reducible refine (ask_to E5.out h4).mono ?_); rintro e w5 ⟨rfl, h5, g5⟩)
    | (go_at_call 20; (with_reducible refine (level_of E6.out h5).mono ?_); rintro e w6 ⟨rfl, rfl⟩)
    | (go_at_call 17; (with_reducible refine (drop_to E7.out h5).mono ?_); rintro e w7 ⟨rfl, h7, g7⟩)
    | (go_at_call 18; (with_reducible refine (ask_to E8.out h7).mono ?_); rintro e w8 ⟨rfl, h8, g8⟩)
    | (go_at_call 20; (with_reducible refine (level_of E9.out h8).mono ?_); rintro e w9 ⟨rfl, rfl⟩))
  go_ret
  refine ⟨rfl, ?_⟩
  have gg := grown_trans g1 (grown_trans g2 (grown_trans g3 (grown_trans g4 (grown_trans g5 (grown_trans g7 g8)))))
  exact Hb.out.grown gg Hb.out.size (fun k hk => by simp at hk; omega)

theorem rsame_of {A A' : Option Addr} {c c' : Nat} {xs : List Int} {w : World} (hl : xs.length ≤ 1048576) (h : Seen w A xs) (h' : Seen w A' xs) :
    Calls Try.prog 37 #[.slice A xs.length c, .slice A' xs.length c'] w fun e w' => e = .returned (.bool true) ∧ ∃ n, w' = w.drewN n :=
  rsame_any A A' c c' xs w hl h.reads h'.reads

set_option maxHeartbeats 1000000 in
theorem same_any (g b c : Nat) (xs : List Int) (level : Int) (w : World) (h : LockAt w g xs) (hr : RowAt w b c xs) :
    Calls Try.prog 16 #[.pointer (some ⟨g, 0, none⟩), .slice (some ⟨b, 0, none⟩) xs.length c, .int .i64 level] w fun e w' => e = .returned (.bool true) ∧ Below w.heap.size w w' := by
  have hl8 : xs.length ≤ 8 := hr.1
  have H := Lib.hid h
  have HR := Lib.hid hr
  have hgl := h.lt
  have hbl := hr.lt
  clear h hr
  go_enter Try.func16, Try.ntmps16
  go_wp2_with fail
  go_loopw [7] (fun i wr => ∃ k : Nat, k ≤ xs.length ∧ i = .int .i64 k ∧ LockAt wr g xs ∧ RowAt wr b c xs ∧ Below w.heap.size w wr) (fun i _ => xs.length - (intOf i).toNat)
  case atStart => exact ⟨0, Nat.zero_le _, rfl, H.out, HR.out, Below.refl _ _⟩
  case round =>
    obtain ⟨k, hk, rfl, hL, hR, hB⟩ := hrel
    have HL := Lib.hid hL
    have HR' := Lib.hid hR
    by_cases hlt : k < xs.length
    · have hck := hR.cell k hlt
      obtain ⟨x, hx⟩ : ∃ x, xs.getD k 0 = x := ⟨_, rfl⟩
      rw [hx] at hck
      have HX := Lib.hid ((levF_in hlt).trans hx)
      clear hx hL hR
      go_wp2_with fail
      go_quiet ((go_at_call 20; exact quiet_left (level_of HX.out (HL.out.drewN _))))
      go_wp2_with fail
      go_roundw
      case rel => exact ⟨k + 1, by omega, by go_num, HL.out.drewN _, HR'.out.drewN _, below_drewN hB _⟩
      case measure => simp [intOf]; omega
    · obtain rfl : k = xs.length := by omega
      have L1 : Hid (levF xs (-1) = 0) := by show _ = _; simp [levF, isB]
      have L2 : Hid (levF xs xs.length = 0) := by show _ = _; simp [levF, isB]
      have hho := hold_le xs level xs.length
      clear hL hR
      go_wp2_with (first
        | (go_at_call 20; (with_reducible refine (level_of L1.out HL.out).mono ?_); rintro e w1 ⟨rfl, rfl⟩)
        | (go_at_call 20; (with_reducible refine (level_of L2.out HL.out).mono ?_); rintro e w1 ⟨rfl, rfl⟩)
        | (go_at_call 19; (with_reducible refine (holds_seen g xs level _ HL.out).mono ?_); rintro e w2 ⟨A, c2, rfl, hs2, hb2⟩)
        | (go_at_call 38; (with_reducible refine (rholds_seen b c xs level _ (HR'.out.below hb2 HR'.out.lt)).mono ?_); rintro e w3 ⟨A', c3, rfl, hs3, hb3⟩)
        | (go_at_call 37; (with_reducible refine (rsame_of (by omega) (hs2.below hb3) hs3).mono ?_); rintro e w4 ⟨rfl, n, rfl⟩))
      go_ret
      exact ⟨rfl, below_drewN (hB.trans ((hb2.trans (hb3.mono hb2.size)).mono hB.size)) n⟩

end Go.Proofs.Ytpalbdjcfhlniaa
