/- The walk over the document's May. -/
import Derived.Test.YtpalbdjcfhlniaaStatMa
namespace Go.Proofs.Ytpalbdjcfhlniaa
open Go.RowKit

theorem below_n {B : Nat} {a w : World} (h : Below B a w) (n : Nat) : Below B a (w.drewN n) := ⟨h.os, h.tape, h.output, h.size, h.block⟩

set_option maxHeartbeats 4000000 in
set_option maxRecDepth 100000 in
theorem rmay_any (nm : ByteArray) (many : Int) (ul : List Int) (A : Option Addr) (c : Nat) (w : World) (hs : SeqAt IntE 1 w A ul) (hul : ul.length ≤ maxLen) (hz : nm.size ≤ maxLen) :
    Calls Try.prog 29 #[.agg #[.string nm, .int .i64 many, .slice A ul.length c]] w fun e w' => e = .returned (.bool (mayF ⟨nm, many, ul⟩)) ∧ Below w.heap.size w w' := by
  have HS := Lib.hid hs
  clear hs
  unfold maxLen at hul hz
  have hbb : ∀ O, Below w.heap.size w (w.alloc O) := fun O => (Below.refl _ _).alloc (Nat.le_refl _) O
  by_cases hok : 1 ≤ nm.size ∧ nm.size ≤ 32 ∧ 0 ≤ many ∧ ul.length ≤ 33
  · have HE := Lib.hid (mayF_yes (s := ⟨nm, many, ul⟩) hok)
    obtain ⟨h1, h2, h3, h4⟩ := hok
    have HCH : Hid (chainB many 0 ul = chainAt many ul 0) := rfl
    go_enter Try.func29, Try.ntmps29
    go_wp2_with fail
    obtain ⟨X, hX⟩ : ∃ X, w.heap.size = X := ⟨_, rfl⟩
    obtain ⟨W1, hW⟩ : ∃ W1, w.alloc (.cells #[.string nm, .int .i64 many, .slice A ul.length c] 46) = W1 := ⟨_, rfl⟩
    have x1 : W1.cell? ⟨X, 1, none⟩ = some (.int .i64 many) := by subst hW; subst hX; exact World.cell?_alloc_new w #[.string nm, .int .i64 many, .slice A ul.length c] 46 1
    have x2 : W1.cell? ⟨X, 2, none⟩ = some (.slice A ul.length c) := by subst hW; subst hX; exact World.cell?_alloc_new w #[.string nm, .int .i64 many, .slice A ul.length c] 46 2
    have hb1 : Below X w W1 := by subst hW; subst hX; exact hbb _
    have hX1 : X < W1.heap.size := World.block_lt_of_cell? _ _ x1
    rw [hX, hW]
    have HX := Lib.hid hX
    clear hX hW hbb
    go_loopw [3] (fun i wr => ∃ k : Nat, k ≤ ul.length ∧ i = .int .i64 k ∧ Below W1.heap.size W1 wr ∧ Hid (chainB many 0 ul = chainAt many ul k) ∧ 0 ≤ prevAt ul k) (fun i _ => ul.length - (intOf i).toNat)
    case atStart => exact ⟨0, Nat.zero_le _, rfl, Below.refl _ _, HCH, Int.le_refl _⟩
    case round =>
      obtain ⟨k, hk, rfl, hB, HC, hp⟩ := hrel
      clear HCH
      have hBB := hb1.trans (hB.mono (Nat.le_of_lt hX1))
      have HBB := Lib.hid (show Below w.heap.size w wr by rw [HX.out]; exact hBB)
      have y1 := (hB.cell (p := ⟨X, 1, none⟩) hX1).trans x1
      have y2 := (hB.cell (p := ⟨X, 2, none⟩) hX1).trans x2
      clear x1 x2
      by_cases hlt : k < ul.length
      · obtain ⟨a, qb, qo, rfl, hq, hql, hc⟩ := seq_int (HS.out.below IntE.stays HBB.out) (i := k) hlt
        have HST := Lib.hid (chainAt_step (many := many) hlt)
        obtain ⟨x, hx⟩ : ∃ x, ul.getD k 0 = x := ⟨_, rfl⟩
        have HGX := Lib.hid hx
        rw [hx] at hc HST
        clear hx
        by_cases g1 : x < 0
        · have HF := Lib.hid (show mayF ⟨nm, many, ul⟩ = false from HE.out.trans (HC.out.trans (HST.out.trans (by rw [decide_eq_false (by omega)]; rfl))))
          have d1 : decide (x < 0) = true := decide_eq_true g1
          clear HE HC HST hp
          go_wp2_with fail
          go_quiet (fail)
          go_wp2_with fail
          go_ret
          exact ⟨ret_bool HF.out, below_n HBB.out _⟩
        · have d1 : decide (x < 0) = false := decide_eq_false g1
          by_cases g2 : many < x
          · have HF := Lib.hid (show mayF ⟨nm, many, ul⟩ = false from HE.out.trans (HC.out.trans (HST.out.trans (by rw [decide_eq_false (show ¬ x ≤ many by omega), Bool.false_and, Bool.and_false]))))
            have d2 : decide (many < x) = true := decide_eq_true g2
            clear HE HC HST hp
            go_wp2_with fail
            go_quiet (fail)
            go_wp2_with fail
            go_ret
            exact ⟨ret_bool HF.out, below_n HBB.out _⟩
          · have d2 : decide (many < x) = false := decide_eq_false g2
            by_cases hk0 : k = 0
            · subst hk0
              have d3 : decide ((0 : Int) < ((0 : Nat) : Int)) = false := by decide
              have HF := Lib.hid (HC.out.trans (HST.out.trans (by rw [decide_eq_true (show prevAt ul 0 ≤ x by rw [prevAt_zero]; omega), decide_eq_true (show x ≤ many by omega), Bool.true_and, Bool.true_and])))
              clear HE HC HST hp
              go_wp2_with fail
              go_quiet (fail)
              go_wp2_with fail
              go_roundw
              case rel => exact ⟨1, by omega, by go_num, below_n hB _, HF, by rw [prevAt_succ, HGX.out]; omega⟩
              case measure => simp [intOf]; omega
            · obtain ⟨j, rfl⟩ : ∃ j, k = j + 1 := ⟨k - 1, by omega⟩
              have hjl : j < ul.length := by omega
              obtain ⟨a', qb', qo', ea, hq', hql', hc'⟩ := seq_int (HS.out.below IntE.stays HBB.out) (i := j) hjl
              obtain rfl := Option.some.inj ea
              rw [prevAt_succ] at HST
              obtain ⟨y, hy⟩ : ∃ y, ul.getD j 0 = y := ⟨_, rfl⟩
              rw [hy] at HST hc'
              have d3 : decide ((0 : Int) < ((j + 1 : Nat) : Int)) = true := by rw [decide_eq_true_eq]; omega
              clear hy hp ea
              by_cases g4 : x < y
              · have HF := Lib.hid (show mayF ⟨nm, many, ul⟩ = false from HE.out.trans (HC.out.trans (HST.out.trans (by rw [decide_eq_false (show ¬ y ≤ x by omega), Bool.false_and]))))
                have d4 : decide (x < y) = true := decide_eq_true g4
                clear HE HC HST
                go_wp2_with fail
                go_quiet (fail)
                go_wp2_with fail
                go_ret
                exact ⟨ret_bool HF.out, below_n HBB.out _⟩
              · have d4 : decide (x < y) = false := decide_eq_false g4
                have HF := Lib.hid (HC.out.trans (HST.out.trans (by rw [decide_eq_true (show y ≤ x by omega), decide_eq_true (show x ≤ many by omega), Bool.true_and, Bool.true_and])))
                clear HE HC HST
                go_wp2_with fail
                go_quiet (fail)
                go_wp2_with fail
                go_roundw
                case rel => exact ⟨j + 1 + 1, by omega, by go_num, below_n hB _, HF, by rw [prevAt_succ, HGX.out]; omega⟩
                case measure => simp [intOf] <;> omega
      · obtain rfl : k = ul.length := by omega
        have HF := Lib.hid (show mayF ⟨nm, many, ul⟩ = true from HE.out.trans (HC.out.trans chainAt_end))
        clear HE HC hp
        go_wp2_with fail
        go_ret
        exact ⟨ret_bool HF.out, HBB.out⟩
  · have HE := Lib.hid (mayF_no (s := ⟨nm, many, ul⟩) hok)
    by_cases h1 : nm.size < 1
    · clear hok
      go_enter Try.func29, Try.ntmps29
      go_wp2_with fail
      go_ret
      exact ⟨ret_bool HE.out, hbb _⟩
    · by_cases h2 : 32 < nm.size
      · clear hok
        go_enter Try.func29, Try.ntmps29
        go_wp2_with fail
        go_ret
        exact ⟨ret_bool HE.out, hbb _⟩
      · by_cases h3 : many < 0
        · clear hok
          go_enter Try.func29, Try.ntmps29
          go_wp2_with fail
          go_ret
          exact ⟨ret_bool HE.out, hbb _⟩
        · have h4 : 33 < ul.length := by omega
          clear hok
          go_enter Try.func29, Try.ntmps29
          go_wp2_with fail
          go_ret
          exact ⟨ret_bool HE.out, hbb _⟩

end Go.Proofs.Ytpalbdjcfhlniaa
