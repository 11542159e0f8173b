/- The walks over the package lock: what each of its functions does, as plain functions of a list of levels. -/
import Derived.Test.YtpalbdjcfhlniaaRows
import Derived.Test.YtpalbdjcfhlniaaLockP
import Derived.WalkKit
import Derived.WalkSpells
import Derived.WalkLawsBesides
import Derived.Lib.Hide
import Derived.Deep.QuietTactic
import Derived.BigQuiet
import Derived.Outline
namespace Go.Proofs.Ytpalbdjcfhlniaa
open Go.RowKit

/-- The locks at block g hold the levels xs. -/
structure LockAt (w : World) (g : Nat) (xs : List Int) : Prop where
  len : 1 ≤ xs.length ∧ xs.length ≤ 8
  blk : w.heap[g]? = some (.cells (((xs ++ List.replicate (8 - xs.length) 0).map (Value.int .i64)).toArray.push (.int .i64 xs.length)) 72 (0, 0))

section
variable {w w' : World} {g : Nat} {xs : List Int}
theorem LockAt.lt (h : LockAt w g xs) : g < w.heap.size := by
  rcases Nat.lt_or_ge g w.heap.size with hlt | hge
  · exact hlt
  · have := h.blk; rw [Array.getElem?_eq_none hge] at this; cases this
theorem LockAt.cell (h : LockAt w g xs) (i : Nat) (hi : i < xs.length) : w.cell? ⟨g, i, none⟩ = some (.int .i64 (xs.getD i 0)) := by
  have hl := h.len
  simp only [World.cell?, h.blk]
  simp [List.getElem?_append, hi]
theorem LockAt.many (h : LockAt w g xs) : w.cell? ⟨g, 8, none⟩ = some (.int .i64 xs.length) := by
  have hl := h.len
  have h8 : ((xs ++ List.replicate (8 - xs.length) 0).map (Value.int .i64)).toArray.size = 8 := by simp; omega
  simp only [World.cell?, h.blk, Array.getElem?_push, h8]
  rfl
theorem LockAt.frozen (h : LockAt w g xs) (a : Addr) (ha : a.block = g) : w.frozen? a = false := by
  subst ha
  simp [World.frozen?, h.blk]
theorem LockAt.drewN (h : LockAt w g xs) (n : Nat) : LockAt (w.drewN n) g xs := ⟨h.len, h.blk⟩
theorem LockAt.set (h : LockAt w g xs) (i : Nat) (hi : i < xs.length) (v : Int) : LockAt (w.setCell ⟨g, i, none⟩ (.int .i64 v)) g (xs.set i v) := by
  refine ⟨by simpa using h.len, ?_⟩
  have hl := h.len
  have hb := h.blk
  simp only [World.setCell, Array.getElem?_modify, if_pos, hb, Option.map_some]
  congr 2
  apply Array.ext'
  simp only [Option.isSome_none, Bool.false_eq_true, if_false, Array.toList_setIfInBounds, Array.toList_push, List.length_set]
  rw [List.set_append_left _ _ (by simp; omega), ← List.map_set, List.set_append_left _ _ hi]
end

set_option maxHeartbeats 400000 in
theorem is_any (g : Nat) (xs : List Int) (who : Int) (w : World) (h : LockAt w g xs) :
    Calls Try.prog 39 #[.pointer (some ⟨g, 0, none⟩), .int .i64 who] w fun e w' => e = .returned (.bool (isB xs.length who)) ∧ w = w' := by
  unfold isB
  have hn := h.many
  clear h
  by_cases h0 : 0 ≤ who
  · go_enter Try.func39, Try.ntmps39
    go_wp2
    go_ret
    exact ⟨by simp [h0], rfl⟩
  · go_enter Try.func39, Try.ntmps39
    go_wp2
    go_ret
    refine ⟨?_, rfl⟩
    rw [decide_eq_false (by omega)]; rfl

theorem run_slice_held (g : Nat) (n : Nat) (h : n ≤ 8) (W : World) :
    (Instr.sliceAt 70 (.pointer (some ⟨g, 0, none⟩)) none (some (.int .i64 n)) none).run Try.prog W = .ok (.slice (some ⟨g, 0, none⟩) n 8) W := by
  have hal : Try.prog.arrayLen 70 = 8 := by simp [Program.arrayLen, Try.underlying70]
  have hel : Try.prog.elem 70 = 3 := by simp [Program.elem, Try.underlying70]
  rw [run_sliceAt_array_h W 70 ⟨g, 0, none⟩ (by simp [Program.arrayLen, Program.elem, Try.underlying70]) .i64 n (by omega) (by rw [hal]; omega), hal, hel]
  simp [slicedAt, Addr.add, go_sem]

set_option maxHeartbeats 400000 in
theorem others_any (g : Nat) (xs : List Int) (who : Int) (w : World) (h : LockAt w g xs) :
    Calls Try.prog 64 #[.pointer (some ⟨g, 0, none⟩), .int .i64 who] w fun e w' => e = .returned (.int .i64 (oth xs who xs.length)) ∧ ∃ n, w' = w.drewN n := by
  have hn := h.many
  have hl1 : 1 ≤ xs.length := h.len.1
  have hl8 : xs.length ≤ 8 := h.len.2
  have hc := h.cell
  have hsl := run_slice_held g xs.length h.len.2
  clear h
  go_enter Try.func64, Try.ntmps64
  go_wp2_with fail
  go_quiet (fail)
  go_wp2_with fail
  go_loop [5, 17] (fun m i => ∃ k : Nat, k ≤ xs.length ∧ i = .int .i64 k ∧ m = .int .i64 (oth xs who k)) (fun _ i => xs.length - (intOf i).toNat)
  case atStart => exact ⟨0, Nat.zero_le _, rfl, rfl⟩
  case round =>
    obtain ⟨k, hk, rfl, rfl⟩ := hrel
    by_cases hlt : k < xs.length
    · have hck := hc k hlt
      obtain ⟨x, hx⟩ : ∃ x, xs.getD k 0 = x := ⟨_, rfl⟩
      rw [hx] at hck
      have HX := Lib.hid hx
      clear hc hn hx
      by_cases hw : (k : Int) = who
      · have e := Lib.hid (oth_succ_eq xs who k hw)
        subst hw
        go_wp2_with fail
        go_round
        case rel => exact ⟨k + 1, by omega, by go_num, by rw [e.out]⟩
        case measure => simp [intOf]; omega
      · have e := Lib.hid (oth_succ_ne' xs who k hw x HX.out)
        go_wp2_with fail
        go_round
        case rel => exact ⟨k + 1, by omega, by go_num, by rw [e.out]⟩
        case measure => simp [intOf]; omega
    · have hke : k = xs.length := by omega
      clear hc hn
      subst hke
      go_wp2_with fail
      go_ret
      exact ⟨rfl, _, rfl⟩

theorem only_drewN {a w : World} {row : Option Nat} (h : a.grownBy w row) (n : Nat) : a.grownBy (w.drewN n) row := ⟨h.os, h.tape, h.output, h.size, h.block⟩
theorem only_set {a w : World} {g : Nat} (h : a.grownBy w (some g)) (i : Nat) (u : Value) : a.grownBy (w.setCell ⟨g, i, none⟩ u) (some g) :=
  ⟨h.os, h.tape, h.output, by simpa [World.setCell] using h.size, fun k hk hne => (Below.heap_setCell w ⟨g, i, none⟩ u k (fun e => hne (by rw [e]))).trans (h.block k hk hne)⟩

/-- What asking and dropping answer, and what they leave. -/
def Did (w : World) (g : Nat) (r : List Int × Int) (e : Ending) (w' : World) : Prop := e = .returned (.int .i64 r.2) ∧ LockAt w' g r.1 ∧ w.grownBy w' (some g)

theorem Did.same {w : World} {g : Nat} {r : List Int × Int} {xs : List Int} {c : Int} (n : Nat) (h : LockAt w g xs) (hr : r = (xs, c)) : Did w g r (.returned (.int .i64 c)) (w.drewN n) := by
  subst hr; exact ⟨rfl, h.drewN n, only_drewN (World.grownBy.refl w _) n⟩
theorem Did.wrote {w : World} {g : Nat} {r : List Int × Int} {xs : List Int} {c v : Int} (n i : Nat) (h : LockAt w g xs) (hi : i < xs.length) (hr : r = (xs.set i v, c)) :
    Did w g r (.returned (.int .i64 c)) ((w.drewN n).setCell ⟨g, i, none⟩ (.int .i64 v)) := by
  subst hr; exact ⟨rfl, (h.drewN n).set i hi v, only_set (only_drewN (World.grownBy.refl w _) n) i _⟩

set_option maxHeartbeats 400000 in
theorem rise_any (g i : Nat) (xs : List Int) (level : Int) (w : World) (h : LockAt w g xs) (hi : i < xs.length) (hlv : level = 1 ∨ level = 2 ∨ level = 4) (hlt : xs.getD i 0 < level) :
    Calls Try.prog 40 #[.pointer (some ⟨g, 0, none⟩), .int .i64 i, .int .i64 level] w (Did w g (askF xs i level)) := by
  have hB : isB xs.length (i : Int) = true := by simp [isB, hi]
  have hl8 : xs.length ≤ 8 := h.len.2
  have HC : ∀ W, LockAt W g xs → Calls Try.prog 64 #[.pointer (some ⟨g, 0, none⟩), .int .i64 i] W fun e w' => e = .returned (.int .i64 (oth xs i xs.length)) ∧ ∃ n, w' = W.drewN n := fun W hW => others_any g xs i W hW
  have hc := h.cell i hi
  have hf := h.frozen ⟨g, i, none⟩ rfl
  have ho0 := oth_nonneg xs i xs.length
  obtain ⟨o, ho⟩ : ∃ o, oth xs i xs.length = o := ⟨_, rfl⟩
  obtain ⟨x, hx⟩ : ∃ x, xs.getD i 0 = x := ⟨_, rfl⟩
  rw [ho] at HC ho0
  rw [hx] at hc hlt
  have H := Lib.hid h
  clear h
  rcases hlv with rfl | rfl | rfl
  · by_cases h3 : 3 ≤ o
    · have HE := Lib.hid (show askF xs i 1 = (xs, 15) from by rw [askF_in hi hx ho]; (repeat' split) <;> first | rfl | omega)
      clear ho hx hB
      go_enter Try.func40, Try.ntmps40
      go_wp2_with (go_at_call 64; refine (HC _ H.out).mono ?_; rintro e w' ⟨rfl, n, rfl⟩)
      go_ret
      exact Did.same _ H.out HE.out
    · have HE := Lib.hid (show askF xs i 1 = (xs.set i 1, 0) from by rw [askF_in hi hx ho]; (repeat' split) <;> first | rfl | omega)
      clear ho hx hB
      go_enter Try.func40, Try.ntmps40
      go_wp2_with (go_at_call 64; refine (HC _ H.out).mono ?_; rintro e w' ⟨rfl, n, rfl⟩)
      go_ret
      exact Did.wrote _ i H.out hi HE.out
  · by_cases h1 : x = 1
    · by_cases h3 : 2 ≤ o
      · have HE := Lib.hid (show askF xs i 2 = (xs, 15) from by rw [askF_in hi hx ho]; (repeat' split) <;> first | rfl | omega)
        clear ho hx hB
        go_enter Try.func40, Try.ntmps40
        go_wp2_with (go_at_call 64; refine (HC _ H.out).mono ?_; rintro e w' ⟨rfl, n, rfl⟩)
        go_ret
        exact Did.same _ H.out HE.out
      · have HE := Lib.hid (show askF xs i 2 = (xs.set i 2, 0) from by rw [askF_in hi hx ho]; (repeat' split) <;> first | rfl | omega)
        clear ho hx hB
        go_enter Try.func40, Try.ntmps40
        go_wp2_with (go_at_call 64; refine (HC _ H.out).mono ?_; rintro e w' ⟨rfl, n, rfl⟩)
        go_ret
        exact Did.wrote _ i H.out hi HE.out
    · have HE := Lib.hid (show askF xs i 2 = (xs, 10) from by rw [askF_in hi hx ho]; (repeat' split) <;> first | rfl | omega)
      clear ho hx hB
      go_enter Try.func40, Try.ntmps40
      go_wp2_with (go_at_call 64; refine (HC _ H.out).mono ?_; rintro e w' ⟨rfl, n, rfl⟩)
      go_ret
      exact Did.same _ H.out HE.out
  · by_cases h1 : x < 2
    · have HE := Lib.hid (show askF xs i 4 = (xs, 10) from by rw [askF_in hi hx ho]; (repeat' split) <;> first | rfl | omega)
      clear ho hx hB
      go_enter Try.func40, Try.ntmps40
      go_wp2_with (go_at_call 64; refine (HC _ H.out).mono ?_; rintro e w' ⟨rfl, n, rfl⟩)
      go_ret
      exact Did.same _ H.out HE.out
    · by_cases h3 : o = 0
      · have HE := Lib.hid (show askF xs i 4 = (xs.set i 4, 0) from by rw [askF_in hi hx ho]; (repeat' split) <;> first | rfl | omega)
        clear ho hx hB
        go_enter Try.func40, Try.ntmps40
        go_wp2_with (go_at_call 64; refine (HC _ H.out).mono ?_; rintro e w' ⟨rfl, n, rfl⟩)
        go_ret
        exact Did.wrote _ i H.out hi HE.out
      · have HE := Lib.hid (show askF xs i 4 = (xs.set i 3, 15) from by rw [askF_in hi hx ho]; (repeat' split) <;> first | rfl | omega)
        clear ho hx hB
        go_enter Try.func40, Try.ntmps40
        go_wp2_with (go_at_call 64; refine (HC _ H.out).mono ?_; rintro e w' ⟨rfl, n, rfl⟩)
        go_ret
        exact Did.wrote _ i H.out hi HE.out

end Go.Proofs.Ytpalbdjcfhlniaa
