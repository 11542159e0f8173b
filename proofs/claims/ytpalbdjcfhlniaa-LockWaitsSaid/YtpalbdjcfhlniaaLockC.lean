/- The walks over the package lock, on: New, Copy, Holds. -/
import Derived.Test.YtpalbdjcfhlniaaLockB
namespace Go.Proofs.Ytpalbdjcfhlniaa
open Go.RowKit

theorem Try.info3 : (Try.prog.info? 3).map (fun i => (i.zero, i.size, i.bytes)) = some (some (.int .i64 0), 1, 8) := by kernel_rfl

theorem LockAt.below {w w' : World} {g B : Nat} {xs : List Int} (h : LockAt w g xs) (hb : Below B w w') (hg : g < B) : LockAt w' g xs := ⟨h.len, (hb.block g hg).trans h.blk⟩
theorem LockAt.grown {w w' : World} {g : Nat} {xs : List Int} {row : Option Nat} (h : LockAt w g xs) (hb : w.grownBy w' row) (hg : some g ≠ row) : LockAt w' g xs := ⟨h.len, (hb.block g h.lt hg).trans h.blk⟩
theorem below_drewN {B : Nat} {a w : World} (h : Below B a w) (n : Nat) : Below B a (w.drewN n) := ⟨h.os, h.tape, h.output, h.size, h.block⟩

theorem new_no (n : Int) (w : World) (hn : n < 1 ∨ 8 < n) : Calls Try.prog 13 #[.int .i64 n] w fun e w' => e = .returned (.tuple #[.pointer none, .int .i64 1]) ∧ w = w' := by
  rcases hn with hn | hn
  · go_enter Try.func13, Try.ntmps13
    go_wp2
    go_ret2
    exact ⟨rfl, rfl⟩
  · have h1 : ¬ n < 1 := by omega
    go_enter Try.func13, Try.ntmps13
    go_wp2
    go_ret2
    exact ⟨rfl, rfl⟩

theorem new_lock (n : Nat) (h1 : 1 ≤ n) (h8 : n ≤ 8) (w : World) :
    LockAt (w.alloc (.cells #[.int .i64 0, .int .i64 0, .int .i64 0, .int .i64 0, .int .i64 0, .int .i64 0, .int .i64 0, .int .i64 0, .int .i64 n] 72)) w.heap.size (List.replicate n 0) := by
  refine ⟨by simp; omega, ?_⟩
  refine (heap_alloc_new w _).trans ?_
  have h : ∀ m, 1 ≤ m → m ≤ 8 → #[Value.int .i64 0, .int .i64 0, .int .i64 0, .int .i64 0, .int .i64 0, .int .i64 0, .int .i64 0, .int .i64 0, .int .i64 n] = ((List.replicate m (0 : Int) ++ List.replicate (8 - m) 0).map (Value.int .i64)).toArray.push (.int .i64 n) := by
    intro m a b
    rw [List.replicate_append_replicate, show m + (8 - m) = 8 by omega]; rfl
  rw [List.length_replicate, ← h n h1 h8]

set_option maxHeartbeats 400000 in
theorem new_yes (n : Nat) (w : World) (h1 : 1 ≤ n) (h8 : n ≤ 8) : Calls Try.prog 13 #[.int .i64 n] w fun e w' =>
    e = .returned (.tuple #[.pointer (some ⟨w.heap.size, 0, none⟩), .int .i64 0]) ∧
      w' = w.alloc (.cells #[.int .i64 0, .int .i64 0, .int .i64 0, .int .i64 0, .int .i64 0, .int .i64 0, .int .i64 0, .int .i64 0, .int .i64 n] 72) := by
  go_enter Try.func13, Try.ntmps13
  go_wp2
  go_ret2
  exact ⟨rfl, rfl⟩

set_option maxHeartbeats 400000 in
theorem holds_any (g : Nat) (xs : List Int) (level : Int) (w : World) (h : LockAt w g xs) :
    Calls Try.prog 19 #[.pointer (some ⟨g, 0, none⟩), .int .i64 level] w fun e w' =>
      ∃ v, e = .returned v ∧ w'.ownsRow w.heap.size 3 1 v (hold xs level xs.length).length ((hold xs level xs.length).map (Value.int .i64)) ∧ Below w.heap.size w w' := by
  obtain ⟨i0, hi, hz0, hz1, hz2⟩ := info_parts Try.info3
  obtain ⟨B, hB⟩ : ∃ B, w.heap.size = B := ⟨_, rfl⟩
  have hgB : g < B := hB ▸ h.lt
  have HBs : B ≤ w.heap.size := by omega
  rw [hB]
  clear hB
  have hn := h.many
  have hl8 : xs.length ≤ 8 := h.len.2
  have hsl := run_slice_held g xs.length h.len.2
  have H := Lib.hid h
  clear h
  go_enter Try.func19, Try.ntmps19
  go_wp2_with fail
  go_quiet (fail)
  go_wp2_with fail
  clear hn hsl
  go_loopw [5, 19] (fun v i wr => ∃ k : Nat, k ≤ xs.length ∧ i = .int .i64 k ∧ wr.ownsRow B 3 1 v (hold xs level k).length ((hold xs level k).map (Value.int .i64)) ∧ Below B w wr)
    (fun _ i _ => xs.length - (intOf i).toNat)
  case atStart => exact ⟨0, Nat.zero_le _, rfl, World.ownsRow_nil _ _ _ _, below_drewN (Below.refl _ _) _⟩
  case round =>
    obtain ⟨k, hk, rfl, hown, hbel⟩ := hrel
    have hle := hold_le xs level k
    by_cases hlt : k < xs.length
    · have hck := (H.out.below hbel hgB).cell k hlt
      obtain ⟨x, hx⟩ : ∃ x, xs.getD k 0 = x := ⟨_, rfl⟩
      rw [hx] at hck
      by_cases hge : level ≤ x
      · have HE := Lib.hid (hold_yes (xs := xs) (level := level) (k := k) (by rw [hx]; exact hge))
        clear hx
        go_wp2_with (first
          | (at_builtin; refine wpList_append_own _ rfl _ _ 28 rfl B 3 i0 (.int .i64 0) 1 8 Try.underlying28 hi hz0 hz1 hz2 rfl (by decide) _ _ _ rfl (hown.alloc _) ⟨wr.heap.size, 0, none⟩ 1 1 [.int .i64 k] rfl rfl ?c1 ?c2 ?c3 ?c4 ?c5 ?_))
        case c1 =>
          intro j u hj
          match j, hj with
          | 0, hj => simp at hj; subst hj; simp [Addr.add]
        case c2 => intro u hu; simp at hu; subst hu; rfl
        case c3 => unfold maxLen; omega
        case c4 => omega
        case c5 => have := hbel.size; simp; omega
        intro v' w1 hown' hgrow _
        have hbel' : Below B w w1 := (hbel.alloc (by have := hbel.size; omega) _).grown hgrow (by have := hbel.size; simp; omega) (fun g hg => (hown.lt g hg).1)
        have hown2 : Hid (w1.ownsRow B 3 1 v' (hold xs level (k + 1)).length ((hold xs level (k + 1)).map (Value.int .i64))) := by
          rw [HE.out, List.length_append, List.map_append]; exact hown'
        clear hown' hgrow hown hbel hck
        go_wp2_with fail
        go_roundw
        case rel => exact ⟨k + 1, by omega, by go_num, hown2.out, hbel'⟩
        case measure => simp [intOf]; omega
      · have HE := Lib.hid (hold_no (xs := xs) (level := level) (k := k) (by rw [hx]; exact hge))
        clear hx
        go_wp2_with fail
        go_roundw
        case rel => exact ⟨k + 1, by omega, by go_num, by rw [HE.out]; exact hown, hbel⟩
        case measure => simp [intOf]; omega
    · obtain rfl : k = xs.length := by omega
      go_wp2_with fail
      go_ret
      exact ⟨_, rfl, hown, hbel⟩

theorem list8 (l : List Int) (h : l.length = 8) : ∃ y0 y1 y2 y3 y4 y5 y6 y7, l = [y0, y1, y2, y3, y4, y5, y6, y7] := by
  match l, h with
  | [y0, y1, y2, y3, y4, y5, y6, y7], _ => exact ⟨y0, y1, y2, y3, y4, y5, y6, y7, rfl⟩

theorem LockAt.nine {w : World} {g : Nat} {xs : List Int} (h : LockAt w g xs) : ∃ y0 y1 y2 y3 y4 y5 y6 y7 : Int, w.cell? ⟨g, 0, none⟩ = some (.int .i64 y0) ∧ w.cell? ⟨g, 1, none⟩ = some (.int .i64 y1) ∧ w.cell? ⟨g, 2, none⟩ = some (.int .i64 y2) ∧ w.cell? ⟨g, 3, none⟩ = some (.int .i64 y3) ∧ w.cell? ⟨g, 4, none⟩ = some (.int .i64 y4) ∧ w.cell? ⟨g, 5, none⟩ = some (.int .i64 y5) ∧ w.cell? ⟨g, 6, none⟩ = some (.int .i64 y6) ∧ w.cell? ⟨g, 7, none⟩ = some (.int .i64 y7) ∧ w.cell? ⟨g, 8, none⟩ = some (.int .i64 xs.length) ∧
    ∀ (w' : World) (b : Nat), w'.heap[b]? = some (.cells #[.int .i64 y0, .int .i64 y1, .int .i64 y2, .int .i64 y3, .int .i64 y4, .int .i64 y5, .int .i64 y6, .int .i64 y7, .int .i64 xs.length] 72 (0, 0)) → LockAt w' b xs := by
  have hl := h.len
  have hm := h.many
  obtain ⟨y0, y1, y2, y3, y4, y5, y6, y7, hy⟩ := list8 (xs ++ List.replicate (8 - xs.length) 0) (by simp; omega)
  have hb := h.blk
  rw [hy] at hb
  have hc : ∀ i, w.cell? ⟨g, i, none⟩ = #[Value.int .i64 y0, Value.int .i64 y1, Value.int .i64 y2, Value.int .i64 y3, Value.int .i64 y4, Value.int .i64 y5, Value.int .i64 y6, Value.int .i64 y7, .int .i64 xs.length][i]? := fun i => by simp only [World.cell?, hb]; rfl
  refine ⟨y0, y1, y2, y3, y4, y5, y6, y7, hc 0, hc 1, hc 2, hc 3, hc 4, hc 5, hc 6, hc 7, hm, fun w' b hw => ⟨hl, ?_⟩⟩
  rw [hy]; exact hw

set_option maxHeartbeats 400000 in
theorem copy_any (g : Nat) (xs : List Int) (w : World) (h : LockAt w g xs) :
    Calls Try.prog 21 #[.pointer (some ⟨g, 0, none⟩)] w fun e w' =>
      e = .returned (.pointer (some ⟨w.heap.size, 0, none⟩)) ∧ LockAt w' w.heap.size xs ∧ Below w.heap.size w w' := by
  obtain ⟨y0, y1, y2, y3, y4, y5, y6, y7, c0, c1, c2, c3, c4, c5, c6, c7, c8, hL⟩ := h.nine
  clear h
  have HL := Lib.hid hL
  clear hL
  go_enter Try.func21, Try.ntmps21
  go_wp2_with fail
  go_ret
  exact ⟨rfl, HL.out _ _ (heap_alloc_new w _), (Below.refl _ _).alloc (Nat.le_refl _) _⟩

end Go.Proofs.Ytpalbdjcfhlniaa
