/- The walks over the package lock, on: Ask, Drop, Level, Copy, New, Holds. -/
import Derived.Test.YtpalbdjcfhlniaaLockA
namespace Go.Proofs.Ytpalbdjcfhlniaa
open Go.RowKit

theorem is_of {g : Nat} {xs : List Int} {who : Int} {w : World} {b : Bool} (hb : isB xs.length who = b) (h : LockAt w g xs) :
    Calls Try.prog 39 #[.pointer (some ⟨g, 0, none⟩), .int .i64 who] w fun e w' => e = .returned (.bool b) ∧ w = w' := by
  rw [← hb]; exact is_any g xs who w h

theorem isB_cases (n : Nat) (who : Int) : isB n who = false ∨ ∃ i : Nat, who = i ∧ i < n := by
  by_cases h : 0 ≤ who ∧ who < n
  · exact .inr ⟨who.toNat, by omega, by omega⟩
  · exact .inl (by simp [isB]; omega)
theorem isB_in {n i : Nat} (h : i < n) : isB n (i : Int) = true := by simp [isB, h]

theorem Did.same0 {w : World} {g : Nat} {r : List Int × Int} {xs : List Int} {c : Int} (h : LockAt w g xs) (hr : r = (xs, c)) : Did w g r (.returned (.int .i64 c)) w := by
  subst hr; exact ⟨rfl, h, World.grownBy.refl w _⟩
theorem Did.wrote0 {w : World} {g : Nat} {r : List Int × Int} {xs : List Int} {c v : Int} (i : Nat) (h : LockAt w g xs) (hi : i < xs.length) (hr : r = (xs.set i v, c)) :
    Did w g r (.returned (.int .i64 c)) (w.setCell ⟨g, i, none⟩ (.int .i64 v)) := by
  subst hr; exact ⟨rfl, h.set i hi v, only_set (World.grownBy.refl w _) i _⟩

set_option maxHeartbeats 400000 in
theorem ask_any (g : Nat) (xs : List Int) (who level : Int) (w : World) (h : LockAt w g xs) :
    Calls Try.prog 18 #[.pointer (some ⟨g, 0, none⟩), .int .i64 who, .int .i64 level] w (Did w g (askF xs who level)) := by
  have H := Lib.hid h
  clear h
  rcases isB_cases xs.length who with hB | ⟨i, rfl, hi⟩
  · have HB := Lib.hid hB
    have HE := Lib.hid (askF_out hB level)
    clear hB
    go_enter Try.func18, Try.ntmps18
    go_wp2_with (go_at_call 39; refine (is_of HB.out H.out).mono ?_; rintro e w' ⟨rfl, rfl⟩)
    go_ret
    exact Did.same0 H.out HE.out
  · have HB := Lib.hid (isB_in hi)
    have hc := H.out.cell i hi
    have hl8 : xs.length ≤ 8 := H.out.len.2
    by_cases hlv : level = 1 ∨ level = 2 ∨ level = 4
    · by_cases hlt : xs.getD i 0 < level
      · have HR := Lib.hid (rise_any g i xs level w H.out hi hlv hlt)
        obtain ⟨x, hx⟩ : ∃ x, xs.getD i 0 = x := ⟨_, rfl⟩
        rw [hx] at hc hlt
        clear hx
        generalize hR : askF xs i level = R at HR ⊢
        clear hR
        rcases hlv with rfl | rfl | rfl
        all_goals
          go_enter Try.func18, Try.ntmps18
          go_wp2_with (first | (go_at_call 39; refine (is_of HB.out H.out).mono ?_; rintro e w' ⟨rfl, rfl⟩) | (go_at_call 40; refine HR.out.mono ?_; rintro e w' ⟨rfl, hl, hg⟩))
          go_ret
          exact ⟨rfl, hl, hg⟩
      · obtain ⟨x, hx⟩ : ∃ x, xs.getD i 0 = x := ⟨_, rfl⟩
        have HE := Lib.hid (show askF xs i level = (xs, 0) from by rw [askF_in hi rfl rfl]; (repeat' split) <;> first | rfl | omega)
        rw [hx] at hc hlt
        clear hx
        rcases hlv with rfl | rfl | rfl
        all_goals
          go_enter Try.func18, Try.ntmps18
          go_wp2_with (first | (go_at_call 39; refine (is_of HB.out H.out).mono ?_; rintro e w' ⟨rfl, rfl⟩))
          go_ret
          exact Did.same0 H.out HE.out
    · have HE := Lib.hid (show askF xs i level = (xs, 1) from by rw [askF_in hi rfl rfl, if_pos hlv])
      obtain ⟨h1, h2, h4⟩ : (level != 1) = true ∧ (level != 2) = true ∧ (level != 4) = true := by simp only [bne_iff_ne]; omega
      clear hlv hc
      go_enter Try.func18, Try.ntmps18
      go_wp2_with (first | (go_at_call 39; refine (is_of HB.out H.out).mono ?_; rintro e w' ⟨rfl, rfl⟩))
      go_ret
      exact Did.same0 H.out HE.out

theorem ask_nil (who level : Int) (w : World) : Calls Try.prog 18 #[.pointer none, .int .i64 who, .int .i64 level] w fun e w' => e = .returned (.int .i64 2) ∧ w = w' := by
  go_enter Try.func18, Try.ntmps18
  go_wp2
  go_ret
  exact ⟨rfl, rfl⟩
theorem drop_nil (who level : Int) (w : World) : Calls Try.prog 17 #[.pointer none, .int .i64 who, .int .i64 level] w fun e w' => e = .returned (.int .i64 2) ∧ w = w' := by
  go_enter Try.func17, Try.ntmps17
  go_wp2
  go_ret
  exact ⟨rfl, rfl⟩
theorem level_nil (who : Int) (w : World) : Calls Try.prog 20 #[.pointer none, .int .i64 who] w fun e w' => e = .returned (.int .i64 0) ∧ w = w' := by
  go_enter Try.func20, Try.ntmps20
  go_wp2
  go_ret
  exact ⟨rfl, rfl⟩
theorem holds_nil (level : Int) (w : World) : Calls Try.prog 19 #[.pointer none, .int .i64 level] w fun e w' => e = .returned (.slice none 0 0) ∧ w = w' := by
  go_enter Try.func19, Try.ntmps19
  go_wp2
  go_ret
  exact ⟨rfl, rfl⟩
theorem copy_nil (w : World) : Calls Try.prog 21 #[.pointer none] w fun e w' => e = .returned (.pointer none) ∧ w = w' := by
  go_enter Try.func21, Try.ntmps21
  go_wp2
  go_ret
  exact ⟨rfl, rfl⟩

set_option maxHeartbeats 400000 in
theorem drop_any (g : Nat) (xs : List Int) (who level : Int) (w : World) (h : LockAt w g xs) :
    Calls Try.prog 17 #[.pointer (some ⟨g, 0, none⟩), .int .i64 who, .int .i64 level] w (Did w g (dropF xs who level)) := by
  have H := Lib.hid h
  clear h
  rcases isB_cases xs.length who with hB | ⟨i, rfl, hi⟩
  · have HB := Lib.hid hB
    have HE := Lib.hid (dropF_out hB level)
    clear hB
    go_enter Try.func17, Try.ntmps17
    go_wp2_with (go_at_call 39; refine (is_of HB.out H.out).mono ?_; rintro e w' ⟨rfl, rfl⟩)
    go_ret
    exact Did.same0 H.out HE.out
  · have HB := Lib.hid (isB_in hi)
    have hc := H.out.cell i hi
    have hf := H.out.frozen ⟨g, i, none⟩ rfl
    have hl8 : xs.length ≤ 8 := H.out.len.2
    by_cases h0 : level < 0
    · have HE := Lib.hid (show dropF xs i level = (xs, 1) from by rw [dropF_in hi rfl, if_pos (.inl h0)])
      go_enter Try.func17, Try.ntmps17
      go_wp2_with (go_at_call 39; refine (is_of HB.out H.out).mono ?_; rintro e w' ⟨rfl, rfl⟩)
      go_ret
      exact Did.same0 H.out HE.out
    · by_cases h1 : xs.getD i 0 < level
      · have HE := Lib.hid (show dropF xs i level = (xs, 1) from by rw [dropF_in hi rfl, if_pos (.inr h1)])
        obtain ⟨x, hx⟩ : ∃ x, xs.getD i 0 = x := ⟨_, rfl⟩
        rw [hx] at hc h1
        clear hx
        go_enter Try.func17, Try.ntmps17
        go_wp2_with (go_at_call 39; refine (is_of HB.out H.out).mono ?_; rintro e w' ⟨rfl, rfl⟩)
        go_ret
        exact Did.same0 H.out HE.out
      · have HE := Lib.hid (show dropF xs i level = (xs.set i level, 0) from by rw [dropF_in hi rfl, if_neg (by omega)])
        obtain ⟨x, hx⟩ : ∃ x, xs.getD i 0 = x := ⟨_, rfl⟩
        rw [hx] at hc h1
        clear hx
        go_enter Try.func17, Try.ntmps17
        go_wp2_with (go_at_call 39; refine (is_of HB.out H.out).mono ?_; rintro e w' ⟨rfl, rfl⟩)
        go_ret
        exact Did.wrote0 i H.out hi HE.out

/-- What one holds. -/
def levF (xs : List Int) (who : Int) : Int := if isB xs.length who then xs.getD who.toNat 0 else 0

set_option maxHeartbeats 400000 in
theorem level_any (g : Nat) (xs : List Int) (who : Int) (w : World) (h : LockAt w g xs) :
    Calls Try.prog 20 #[.pointer (some ⟨g, 0, none⟩), .int .i64 who] w fun e w' => e = .returned (.int .i64 (levF xs who)) ∧ w = w' := by
  have H := Lib.hid h
  clear h
  rcases isB_cases xs.length who with hB | ⟨i, rfl, hi⟩
  · have HB := Lib.hid hB
    rw [show levF xs who = 0 from by simp [levF, hB]]
    clear hB
    go_enter Try.func20, Try.ntmps20
    go_wp2_with (go_at_call 39; refine (is_of HB.out H.out).mono ?_; rintro e w' ⟨rfl, rfl⟩)
    go_ret
    exact ⟨rfl, rfl⟩
  · have HB := Lib.hid (isB_in hi)
    have hc := H.out.cell i hi
    have hl8 : xs.length ≤ 8 := H.out.len.2
    rw [show levF xs i = xs.getD i 0 from by simp [levF, isB_in hi]]
    obtain ⟨x, hx⟩ : ∃ x, xs.getD i 0 = x := ⟨_, rfl⟩
    rw [hx] at hc ⊢
    clear hx
    go_enter Try.func20, Try.ntmps20
    go_wp2_with (go_at_call 39; refine (is_of HB.out H.out).mono ?_; rintro e w' ⟨rfl, rfl⟩)
    go_ret
    exact ⟨rfl, rfl⟩

end Go.Proofs.Ytpalbdjcfhlniaa
