/- The walk over the document's Compare of values. -/
import Derived.Test.YtpalbdjcfhlniaaStatKa
namespace Go.Proofs.Ytpalbdjcfhlniaa
open Go.RowKit

/-- Do two values compare as one? -/
def CmpEq (coll : Int) (v v' : Vl) : Prop := v.kind = v'.kind ∧ (v.kind = 1 → v.n = v'.n) ∧ (v.kind = 2 ∨ v.kind = 3 → (layS coll v).toList = (layS coll v').toList)

theorem less_irrefl : ∀ (x : List UInt8), Op.bytesLess x x = false
  | [] => by simp [Op.bytesLess]
  | a :: x => by rw [Op.bytesLess, less_irrefl x]; simp

def CmpOut (w : World) (coll : Int) (v v' : Vl) (e : Ending) (w' : World) : Prop := Below w.heap.size w w' ∧ ∃ z : Int, e = .returned (.int .i64 z) ∧ -1 ≤ z ∧ z ≤ 1 ∧ (z = 0 ↔ CmpEq coll v v')

set_option maxHeartbeats 4000000 in
set_option maxRecDepth 100000 in
theorem cmp04_any (k n k' n' coll : Int) (s s' : ByteArray) (w : World) (hz : s.size ≤ maxLen) (hz' : s'.size ≤ maxLen) :
    Calls Try.prog 72 #[.agg #[.int .i64 k, .int .i64 n, .string s], .agg #[.int .i64 k', .int .i64 n', .string s'], .int .i64 coll] w (CmpOut w coll ⟨k, n, s⟩ ⟨k', n', s'⟩) := by
  have HZ := Lib.hid hz
  have HZ' := Lib.hid hz'
  clear hz hz'
  have HBB : Hid (∀ O O', Below w.heap.size w ((w.alloc O).alloc O')) := fun O O' => ((Below.refl _ _).alloc (Nat.le_refl _) O).alloc (by simp) O'
  by_cases e0 : k = k'
  · subst e0
    have f0 : (k == k) = true := beq_self_eq_true k
    have f1 : decide (k < k) = false := decide_eq_false (by omega)
    by_cases e1 : k = 1
    · subst e1
      by_cases a : n = n'
      · subst a
        have g1 : decide (n < n) = false := decide_eq_false (by omega)
        have HY : Hid (CmpEq coll ⟨1, n, s⟩ ⟨1, n, s'⟩) := ⟨rfl, fun _ => rfl, fun h => by rcases h with h | h <;> cases h⟩
        clear f0 f1
        go_enter Try.func72, Try.ntmps72
        go_wp2_with fail
        go_quiet (fail)
        go_wp2_with fail
        go_quiet (fail)
        go_wp2_with fail
        go_quiet (fail)
        go_wp2_with fail
        go_ret
        exact ⟨below_n (HBB.out _ _) _, 0, rfl, by decide, by decide, ⟨fun _ => HY.out, fun _ => rfl⟩⟩
      · have HN : Hid (¬ CmpEq coll ⟨1, n, s⟩ ⟨1, n', s'⟩) := fun h => a (h.2.1 rfl)
        clear f0 f1
        by_cases b : n < n'
        · have g1 : decide (n < n') = true := decide_eq_true b
          have g2 : decide (n' < n) = false := decide_eq_false (by omega)
          go_enter Try.func72, Try.ntmps72
          go_wp2_with fail
          go_quiet (fail)
          go_wp2_with fail
          go_quiet (fail)
          go_wp2_with fail
          go_quiet (fail)
          go_wp2_with fail
          go_ret
          exact ⟨below_n (HBB.out _ _) _, -1, rfl, by decide, by decide, ⟨fun h => absurd h (by decide), fun h => absurd h HN.out⟩⟩
        · have g1 : decide (n < n') = false := decide_eq_false b
          have g2 : decide (n' < n) = true := decide_eq_true (by omega)
          go_enter Try.func72, Try.ntmps72
          go_wp2_with fail
          go_quiet (fail)
          go_wp2_with fail
          go_quiet (fail)
          go_wp2_with fail
          go_quiet (fail)
          go_wp2_with fail
          go_ret
          exact ⟨below_n (HBB.out _ _) _, 1, rfl, by decide, by decide, ⟨fun h => absurd h (by decide), fun h => absurd h HN.out⟩⟩
    · have f2 : (k == 1) = false := by rw [beq_eq_false_iff_ne]; exact e1
      by_cases e2 : k = 2
      · subst e2
        clear f0 f1 f2 e1
        by_cases e3 : coll = 1
        · subst e3
          have HLS : Hid (layS 1 ⟨2, n, s⟩ = foldS s) := if_pos ⟨rfl, rfl⟩
          have HLS' : Hid (layS 1 ⟨2, n', s'⟩ = foldS s') := if_pos ⟨rfl, rfl⟩
          obtain ⟨bl, hbl⟩ : ∃ b, Op.bytesLess (foldS s).toList (foldS s').toList = b := ⟨_, rfl⟩
          obtain ⟨be, hbe⟩ : ∃ b, ((foldS s).toList == (foldS s').toList) = b := ⟨_, rfl⟩
          have HIFF : Hid (CmpEq 1 ⟨2, n, s⟩ ⟨2, n', s'⟩ ↔ be = true) := by
            show _ ↔ _
            rw [← hbe, beq_iff_eq]
            exact ⟨fun h => by have h2 := h.2.2 (.inl rfl); rw [HLS.out, HLS'.out] at h2; exact h2, fun h => ⟨rfl, fun (e : (2 : Int) = 1) => absurd e (by decide), fun _ => by rw [HLS.out, HLS'.out]; exact h⟩⟩
          have HIR : Hid (be = true → bl = false) := fun h => by
            rw [← hbe, beq_iff_eq] at h
            rw [← hbl, h]; exact less_irrefl _
          cases bl
          · cases be
            · skip
              go_enter Try.func72, Try.ntmps72
              go_wp2_with fail
              go_quiet (fail)
              have z0 : ∀ q, (((w.alloc (.cells #[.int .i64 2, .int .i64 n, .string s] 78)).alloc (.cells #[.int .i64 2, .int .i64 n', .string s'] 78)).drewN q).cell? ⟨w.heap.size, 0, none⟩ = some (.int .i64 2) := fun q => by simp [go_sem]
              have z1 : ∀ q, (((w.alloc (.cells #[.int .i64 2, .int .i64 n, .string s] 78)).alloc (.cells #[.int .i64 2, .int .i64 n', .string s'] 78)).drewN q).cell? ⟨w.heap.size + 1, 0, none⟩ = some (.int .i64 2) := fun q => by simp [go_sem]
              have hs0 : ∀ q, (((w.alloc (.cells #[.int .i64 2, .int .i64 n, .string s] 78)).alloc (.cells #[.int .i64 2, .int .i64 n', .string s'] 78)).drewN q).heap.size = w.heap.size + 2 := fun q => by simp
              have h00 : w.heap.size < w.heap.size + 2 := by omega
              have h11 : w.heap.size + 1 < w.heap.size + 2 := by omega
              have HBQ := Lib.hid (fun q => below_n (HBB.out (.cells #[.int .i64 2, .int .i64 n, .string s] 78) (.cells #[.int .i64 2, .int .i64 n', .string s'] 78)) q)
              go_wp2_with (first
                | (go_at_call 74; (with_reducible refine (fold04_any s _ HZ.out).mono ?_); rintro e w3 ⟨rfl, hb3⟩; have hsz := hb3.size; rw [hs0] at hsz; rw [hs0] at hb3; have t0 := (hb3.cell (p := ⟨w.heap.size, 0, none⟩) h00).trans (z0 _); have t1 := (hb3.cell (p := ⟨w.heap.size + 1, 0, none⟩) h11).trans (z1 _))
                | (go_at_call 74; (with_reducible refine (fold04_any s' _ HZ'.out).mono ?_); rintro e w4 ⟨rfl, hb4⟩; have u0 := (hb4.cell (p := ⟨w.heap.size, 0, none⟩) (Nat.lt_of_lt_of_le h00 hsz)).trans t0; have u1 := (hb4.cell (p := ⟨w.heap.size + 1, 0, none⟩) (Nat.lt_of_lt_of_le h11 hsz)).trans t1))
              have HBF := Lib.hid ((HBQ.out _).trans ((hb3.trans (hb4.mono hsz)).mono (by omega)))
              clear z0 z1 hs0 h00 h11 hb3 hb4 t0 t1 hsz
              go_quiet (fail)
              go_wp2_with fail
              go_ret
              exact ⟨below_n HBF.out _, 1, rfl, by decide, by decide, ⟨fun h => absurd h (by decide), fun h => by have := HIFF.out.1 h; cases this⟩⟩
            · skip
              go_enter Try.func72, Try.ntmps72
              go_wp2_with fail
              go_quiet (fail)
              have z0 : ∀ q, (((w.alloc (.cells #[.int .i64 2, .int .i64 n, .string s] 78)).alloc (.cells #[.int .i64 2, .int .i64 n', .string s'] 78)).drewN q).cell? ⟨w.heap.size, 0, none⟩ = some (.int .i64 2) := fun q => by simp [go_sem]
              have z1 : ∀ q, (((w.alloc (.cells #[.int .i64 2, .int .i64 n, .string s] 78)).alloc (.cells #[.int .i64 2, .int .i64 n', .string s'] 78)).drewN q).cell? ⟨w.heap.size + 1, 0, none⟩ = some (.int .i64 2) := fun q => by simp [go_sem]
              have hs0 : ∀ q, (((w.alloc (.cells #[.int .i64 2, .int .i64 n, .string s] 78)).alloc (.cells #[.int .i64 2, .int .i64 n', .string s'] 78)).drewN q).heap.size = w.heap.size + 2 := fun q => by simp
              have h00 : w.heap.size < w.heap.size + 2 := by omega
              have h11 : w.heap.size + 1 < w.heap.size + 2 := by omega
              have HBQ := Lib.hid (fun q => below_n (HBB.out (.cells #[.int .i64 2, .int .i64 n, .string s] 78) (.cells #[.int .i64 2, .int .i64 n', .string s'] 78)) q)
              go_wp2_with (first
                | (go_at_call 74; (with_reducible refine (fold04_any s _ HZ.out).mono ?_); rintro e w3 ⟨rfl, hb3⟩; have hsz := hb3.size; rw [hs0] at hsz; rw [hs0] at hb3; have t0 := (hb3.cell (p := ⟨w.heap.size, 0, none⟩) h00).trans (z0 _); have t1 := (hb3.cell (p := ⟨w.heap.size + 1, 0, none⟩) h11).trans (z1 _))
                | (go_at_call 74; (with_reducible refine (fold04_any s' _ HZ'.out).mono ?_); rintro e w4 ⟨rfl, hb4⟩; have u0 := (hb4.cell (p := ⟨w.heap.size, 0, none⟩) (Nat.lt_of_lt_of_le h00 hsz)).trans t0; have u1 := (hb4.cell (p := ⟨w.heap.size + 1, 0, none⟩) (Nat.lt_of_lt_of_le h11 hsz)).trans t1))
              have HBF := Lib.hid ((HBQ.out _).trans ((hb3.trans (hb4.mono hsz)).mono (by omega)))
              clear z0 z1 hs0 h00 h11 hb3 hb4 t0 t1 hsz
              go_quiet (fail)
              go_wp2_with fail
              go_ret
              exact ⟨below_n HBF.out _, 0, rfl, by decide, by decide, ⟨fun _ => HIFF.out.2 (by trivial), fun _ => rfl⟩⟩
          · have hbe' : be = false := by cases be; rfl; exact absurd (HIR.out rfl) (by decide)
            subst hbe'
            go_enter Try.func72, Try.ntmps72
            go_wp2_with fail
            go_quiet (fail)
            have z0 : ∀ q, (((w.alloc (.cells #[.int .i64 2, .int .i64 n, .string s] 78)).alloc (.cells #[.int .i64 2, .int .i64 n', .string s'] 78)).drewN q).cell? ⟨w.heap.size, 0, none⟩ = some (.int .i64 2) := fun q => by simp [go_sem]
            have z1 : ∀ q, (((w.alloc (.cells #[.int .i64 2, .int .i64 n, .string s] 78)).alloc (.cells #[.int .i64 2, .int .i64 n', .string s'] 78)).drewN q).cell? ⟨w.heap.size + 1, 0, none⟩ = some (.int .i64 2) := fun q => by simp [go_sem]
            have hs0 : ∀ q, (((w.alloc (.cells #[.int .i64 2, .int .i64 n, .string s] 78)).alloc (.cells #[.int .i64 2, .int .i64 n', .string s'] 78)).drewN q).heap.size = w.heap.size + 2 := fun q => by simp
            have h00 : w.heap.size < w.heap.size + 2 := by omega
            have h11 : w.heap.size + 1 < w.heap.size + 2 := by omega
            have HBQ := Lib.hid (fun q => below_n (HBB.out (.cells #[.int .i64 2, .int .i64 n, .string s] 78) (.cells #[.int .i64 2, .int .i64 n', .string s'] 78)) q)
            go_wp2_with (first
              | (go_at_call 74; (with_reducible refine (fold04_any s _ HZ.out).mono ?_); rintro e w3 ⟨rfl, hb3⟩; have hsz := hb3.size; rw [hs0] at hsz; rw [hs0] at hb3; have t0 := (hb3.cell (p := ⟨w.heap.size, 0, none⟩) h00).trans (z0 _); have t1 := (hb3.cell (p := ⟨w.heap.size + 1, 0, none⟩) h11).trans (z1 _))
              | (go_at_call 74; (with_reducible refine (fold04_any s' _ HZ'.out).mono ?_); rintro e w4 ⟨rfl, hb4⟩; have u0 := (hb4.cell (p := ⟨w.heap.size, 0, none⟩) (Nat.lt_of_lt_of_le h00 hsz)).trans t0; have u1 := (hb4.cell (p := ⟨w.heap.size + 1, 0, none⟩) (Nat.lt_of_lt_of_le h11 hsz)).trans t1))
            have HBF := Lib.hid ((HBQ.out _).trans ((hb3.trans (hb4.mono hsz)).mono (by omega)))
            clear z0 z1 hs0 h00 h11 hb3 hb4 t0 t1 hsz
            go_quiet (fail)
            go_wp2_with fail
            go_ret
            exact ⟨below_n HBF.out _, -1, rfl, by decide, by decide, ⟨fun h => absurd h (by decide), fun h => by have := HIFF.out.1 h; cases this⟩⟩
        · have f3 : (coll == 1) = false := by rw [beq_eq_false_iff_ne]; exact e3
          have HLS : Hid (layS coll ⟨2, n, s⟩ = s) := if_neg (fun h => e3 h.2)
          have HLS' : Hid (layS coll ⟨2, n', s'⟩ = s') := if_neg (fun h => e3 h.2)
          obtain ⟨bl, hbl⟩ : ∃ b, Op.bytesLess (s).toList (s').toList = b := ⟨_, rfl⟩
          obtain ⟨be, hbe⟩ : ∃ b, ((s).toList == (s').toList) = b := ⟨_, rfl⟩
          have HIFF : Hid (CmpEq coll ⟨2, n, s⟩ ⟨2, n', s'⟩ ↔ be = true) := by
            show _ ↔ _
            rw [← hbe, beq_iff_eq]
            exact ⟨fun h => by have h2 := h.2.2 (.inl rfl); rw [HLS.out, HLS'.out] at h2; exact h2, fun h => ⟨rfl, fun (e : (2 : Int) = 1) => absurd e (by decide), fun _ => by rw [HLS.out, HLS'.out]; exact h⟩⟩
          have HIR : Hid (be = true → bl = false) := fun h => by
            rw [← hbe, beq_iff_eq] at h
            rw [← hbl, h]; exact less_irrefl _
          cases bl
          · cases be
            · skip
              go_enter Try.func72, Try.ntmps72
              go_wp2_with fail
              go_quiet (fail)
              go_wp2_with fail
              go_quiet (fail)
              go_wp2_with fail
              go_ret
              exact ⟨below_n (HBB.out _ _) _, 1, rfl, by decide, by decide, ⟨fun h => absurd h (by decide), fun h => by have := HIFF.out.1 h; cases this⟩⟩
            · skip
              go_enter Try.func72, Try.ntmps72
              go_wp2_with fail
              go_quiet (fail)
              go_wp2_with fail
              go_quiet (fail)
              go_wp2_with fail
              go_ret
              exact ⟨below_n (HBB.out _ _) _, 0, rfl, by decide, by decide, ⟨fun _ => HIFF.out.2 (by trivial), fun _ => rfl⟩⟩
          · have hbe' : be = false := by cases be; rfl; exact absurd (HIR.out rfl) (by decide)
            subst hbe'
            go_enter Try.func72, Try.ntmps72
            go_wp2_with fail
            go_quiet (fail)
            go_wp2_with fail
            go_quiet (fail)
            go_wp2_with fail
            go_ret
            exact ⟨below_n (HBB.out _ _) _, -1, rfl, by decide, by decide, ⟨fun h => absurd h (by decide), fun h => by have := HIFF.out.1 h; cases this⟩⟩
      · have f4 : (k == 2) = false := by rw [beq_eq_false_iff_ne]; exact e2
        by_cases e3 : k = 3
        · subst e3
          clear f0 f1 f2 f4 e1 e2
          have HLS : Hid (layS coll ⟨3, n, s⟩ = s) := if_neg (fun h => by cases h.1)
          have HLS' : Hid (layS coll ⟨3, n', s'⟩ = s') := if_neg (fun h => by cases h.1)
          obtain ⟨bl, hbl⟩ : ∃ b, Op.bytesLess (s).toList (s').toList = b := ⟨_, rfl⟩
          obtain ⟨be, hbe⟩ : ∃ b, ((s).toList == (s').toList) = b := ⟨_, rfl⟩
          have HIFF : Hid (CmpEq coll ⟨3, n, s⟩ ⟨3, n', s'⟩ ↔ be = true) := by
            show _ ↔ _
            rw [← hbe, beq_iff_eq]
            exact ⟨fun h => by have h2 := h.2.2 (.inr rfl); rw [HLS.out, HLS'.out] at h2; exact h2, fun h => ⟨rfl, fun (e : (3 : Int) = 1) => absurd e (by decide), fun _ => by rw [HLS.out, HLS'.out]; exact h⟩⟩
          have HIR : Hid (be = true → bl = false) := fun h => by
            rw [← hbe, beq_iff_eq] at h
            rw [← hbl, h]; exact less_irrefl _
          cases bl
          · cases be
            · skip
              go_enter Try.func72, Try.ntmps72
              go_wp2_with fail
              go_quiet (fail)
              go_wp2_with fail
              go_quiet (fail)
              go_wp2_with fail
              go_ret
              exact ⟨below_n (HBB.out _ _) _, 1, rfl, by decide, by decide, ⟨fun h => absurd h (by decide), fun h => by have := HIFF.out.1 h; cases this⟩⟩
            · skip
              go_enter Try.func72, Try.ntmps72
              go_wp2_with fail
              go_quiet (fail)
              go_wp2_with fail
              go_quiet (fail)
              go_wp2_with fail
              go_ret
              exact ⟨below_n (HBB.out _ _) _, 0, rfl, by decide, by decide, ⟨fun _ => HIFF.out.2 (by trivial), fun _ => rfl⟩⟩
          · have hbe' : be = false := by cases be; rfl; exact absurd (HIR.out rfl) (by decide)
            subst hbe'
            go_enter Try.func72, Try.ntmps72
            go_wp2_with fail
            go_quiet (fail)
            go_wp2_with fail
            go_quiet (fail)
            go_wp2_with fail
            go_ret
            exact ⟨below_n (HBB.out _ _) _, -1, rfl, by decide, by decide, ⟨fun h => absurd h (by decide), fun h => by have := HIFF.out.1 h; cases this⟩⟩
        · have f5 : (k == 3) = false := by rw [beq_eq_false_iff_ne]; exact e3
          have HY : Hid (CmpEq coll ⟨k, n, s⟩ ⟨k, n', s'⟩) := ⟨rfl, fun h => absurd h e1, fun h => by rcases h with h | h <;> first | exact absurd h e2 | exact absurd h e3⟩
          go_enter Try.func72, Try.ntmps72
          go_wp2_with fail
          go_quiet (fail)
          go_wp2_with fail
          go_quiet (fail)
          go_wp2_with fail
          go_ret
          exact ⟨below_n (HBB.out _ _) _, 0, rfl, by decide, by decide, ⟨fun _ => HY.out, fun _ => rfl⟩⟩
  · have f0 : (k == k') = false := by rw [beq_eq_false_iff_ne]; exact e0
    have HN : Hid (¬ CmpEq coll ⟨k, n, s⟩ ⟨k', n', s'⟩) := fun h => e0 h.1
    by_cases l0 : k < k'
    · have f1 : decide (k < k') = true := decide_eq_true l0
      have f2 : decide (k' < k) = false := decide_eq_false (by omega)
      by_cases e2 : k = 2
      · have f3 : (k == 2) = true := by rw [beq_iff_eq]; exact e2
        have f4 : (k' == 2) = false := by rw [beq_eq_false_iff_ne]; omega
        go_enter Try.func72, Try.ntmps72
        go_wp2_with fail
        go_quiet (fail)
        go_wp2_with fail
        go_quiet (fail)
        go_wp2_with fail
        go_ret
        exact ⟨below_n (HBB.out _ _) _, -1, rfl, by decide, by decide, ⟨fun h => absurd h (by decide), fun h => absurd h HN.out⟩⟩
      · have f3 : (k == 2) = false := by rw [beq_eq_false_iff_ne]; exact e2
        go_enter Try.func72, Try.ntmps72
        go_wp2_with fail
        go_quiet (fail)
        go_wp2_with fail
        go_quiet (fail)
        go_wp2_with fail
        go_ret
        exact ⟨below_n (HBB.out _ _) _, -1, rfl, by decide, by decide, ⟨fun h => absurd h (by decide), fun h => absurd h HN.out⟩⟩
    · have f1 : decide (k < k') = false := decide_eq_false l0
      have f2 : decide (k' < k) = true := decide_eq_true (by omega)
      by_cases e2 : k = 2
      · have f3 : (k == 2) = true := by rw [beq_iff_eq]; exact e2
        have f4 : (k' == 2) = false := by rw [beq_eq_false_iff_ne]; omega
        go_enter Try.func72, Try.ntmps72
        go_wp2_with fail
        go_quiet (fail)
        go_wp2_with fail
        go_quiet (fail)
        go_wp2_with fail
        go_ret
        exact ⟨below_n (HBB.out _ _) _, 1, rfl, by decide, by decide, ⟨fun h => absurd h (by decide), fun h => absurd h HN.out⟩⟩
      · have f3 : (k == 2) = false := by rw [beq_eq_false_iff_ne]; exact e2
        go_enter Try.func72, Try.ntmps72
        go_wp2_with fail
        go_quiet (fail)
        go_wp2_with fail
        go_quiet (fail)
        go_wp2_with fail
        go_ret
        exact ⟨below_n (HBB.out _ _) _, 1, rfl, by decide, by decide, ⟨fun h => absurd h (by decide), fun h => absurd h HN.out⟩⟩

end Go.Proofs.Ytpalbdjcfhlniaa
