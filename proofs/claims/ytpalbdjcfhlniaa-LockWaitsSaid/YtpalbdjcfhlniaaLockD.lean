/- The walks over the document's answer for lock: New, is, others, with, Ask, Drop. -/
import Derived.Test.YtpalbdjcfhlniaaLockC
import Derived.Deep.AppendLies
namespace Go.Proofs.Ytpalbdjcfhlniaa
open Go.RowKit

/-- Block b is a row of ints that reads xs, of capacity c. -/
def RowAt (w : World) (b c : Nat) (xs : List Int) : Prop := xs.length ≤ 8 ∧ w.ownsRow 0 3 1 (.slice (some ⟨b, 0, none⟩) xs.length c) xs.length (xs.map (Value.int .i64))

section
variable {w w' : World} {b c : Nat} {xs : List Int}
theorem RowAt.cell (h : RowAt w b c xs) (i : Nat) (hi : i < xs.length) : w.cell? ⟨b, i, none⟩ = some (.int .i64 (xs.getD i 0)) := by
  rw [h.2.cellAt i (by omega), List.getElem?_map]; simp [hi]
theorem RowAt.lt (h : RowAt w b c xs) : b < w.heap.size := (h.2.lt b rfl).2
theorem RowAt.drewN (h : RowAt w b c xs) (n : Nat) : RowAt (w.drewN n) b c xs := h
theorem RowAt.grown {row : Option Nat} (h : RowAt w b c xs) (hb : w.grownBy w' row) (hg : some b ≠ row) : RowAt w' b c xs := ⟨h.1, h.2.kept hb (.inr hg)⟩
theorem RowAt.below {B : Nat} (h : RowAt w b c xs) (hb : Below B w w') (hg : b < B) : RowAt w' b c xs := by
  refine ⟨h.1, h.2.1, ?_⟩
  rcases h.2.2 with hn | ⟨g, cap, cur, hv, h0, hgg, rest⟩
  · exact .inl hn
  · refine .inr ⟨g, cap, cur, hv, h0, ?_, rest⟩
    have : b = g := by simpa [Value.ownBlock] using congrArg Value.ownBlock hv
    subst this
    exact (hb.block b hg).trans hgg
theorem own_base {base base' : Nat} {e : TypeId} {size n : Nat} {v : Value} {ys : List Value} (h : w.ownsRow base e size v n ys) (hb : base' ≤ base) : w.ownsRow base' e size v n ys := by
  refine ⟨h.1, ?_⟩
  rcases h.2 with hn | ⟨g, cap, cur, hv, h0, rest⟩
  · exact .inl hn
  · exact .inr ⟨g, cap, cur, hv, by omega, rest⟩
end

theorem rnew_no (n : Int) (w : World) (hn : n < 1 ∨ 8 < n) : Calls Try.prog 14 #[.int .i64 n] w fun e w' => e = .returned (.tuple #[.slice none 0 0, .int .i64 1]) ∧ w = w' := by
  rcases hn with hn | hn
  · go_enter Try.func14, Try.ntmps14
    go_wp2
    go_ret2
    exact ⟨rfl, rfl⟩
  · have h1 : ¬ n < 1 := by omega
    go_enter Try.func14, Try.ntmps14
    go_wp2
    go_ret2
    exact ⟨rfl, rfl⟩

theorem run_make_ints (n : Nat) (hn : n ≤ 1048576) (W : World) :
    (Instr.makeSlice 28 (.int .i64 (n : Int)) (.int .i64 (n : Int))).run Try.prog W = .ok (.slice (some ⟨W.heap.size, 0, none⟩) n n) (W.alloc (.cells (madeCells #[.int .i64 0] n) 3)) := by
  obtain ⟨i0, hi, hz0, hz1, hz2⟩ := info_parts Try.info3
  have hr := run_make (P := Try.prog) W 28 3 i0 (.int .i64 0) Try.underlying28 hi hz0 .i64 .i64 n n (by omega) (Int.le_refl _) (by rw [hz2]; omega) (by omega)
  simp only [Int.toNat_natCast, hz1, Nat.mul_one] at hr
  exact hr

set_option maxHeartbeats 400000 in
theorem rnew_yes (n : Nat) (w : World) (h1 : 1 ≤ n) (h8 : n ≤ 8) : Calls Try.prog 14 #[.int .i64 n] w fun e w' =>
    e = .returned (.tuple #[.slice (some ⟨w.heap.size, 0, none⟩) n n, .int .i64 0]) ∧ RowAt w' w.heap.size n (List.replicate n 0) ∧ Below w.heap.size w w' := by
  have hmk := run_make_ints n (by omega)
  go_enter Try.func14, Try.ntmps14
  go_wp2_with fail
  go_ret2
  refine ⟨rfl, ⟨by simpa using h8, ?_⟩, (Below.refl _ _).alloc (Nat.le_refl _) _⟩
  rw [List.length_replicate, List.map_replicate, ← toList_madeCells_one]
  exact World.ownsRow_lit w _ n (Nat.zero_le _) (by unfold maxLen; omega) (by simpa using size_madeCells #[.int .i64 0] n)

set_option maxHeartbeats 400000 in
theorem ris_any (ad : Option Addr) (n c : Nat) (_hn : n ≤ 8) (who : Int) (w : World) :
    Calls Try.prog 61 #[.slice ad n c, .int .i64 who] w fun e w' => e = .returned (.bool (isB n who)) ∧ w = w' := by
  unfold isB
  by_cases h0 : 0 ≤ who
  · go_enter Try.func61, Try.ntmps61
    go_wp2
    go_ret
    exact ⟨by simp [h0], rfl⟩
  · go_enter Try.func61, Try.ntmps61
    go_wp2
    go_ret
    refine ⟨?_, rfl⟩
    rw [decide_eq_false (by omega)]; rfl

theorem ris_of {ad : Option Addr} {n c : Nat} {who : Int} {w : World} {b : Bool} (hb : isB n who = b) (hn : n ≤ 8) :
    Calls Try.prog 61 #[.slice ad n c, .int .i64 who] w fun e w' => e = .returned (.bool b) ∧ w = w' := by
  rw [← hb]; exact ris_any ad n c hn who w

set_option maxHeartbeats 400000 in
theorem rothers_any (b c : Nat) (xs : List Int) (who : Int) (w : World) (h : RowAt w b c xs) :
    Calls Try.prog 63 #[.slice (some ⟨b, 0, none⟩) xs.length c, .int .i64 who] w fun e w' => e = .returned (.int .i64 (oth xs who xs.length)) ∧ w = w' := by
  have hl8 : xs.length ≤ 8 := h.1
  have hc := h.cell
  clear h
  go_enter Try.func63, Try.ntmps63
  go_wp2_with fail
  go_loop [5, 6] (fun m i => ∃ k : Nat, k ≤ xs.length ∧ i = .int .i64 k ∧ m = .int .i64 (oth xs who k)) (fun _ i => xs.length - (intOf i).toNat)
  case atStart => exact ⟨0, Nat.zero_le _, rfl, rfl⟩
  case round =>
    obtain ⟨k, hk, rfl, rfl⟩ := hrel
    by_cases hlt : k < xs.length
    · have hck := hc k hlt
      obtain ⟨x, hx⟩ : ∃ x, xs.getD k 0 = x := ⟨_, rfl⟩
      rw [hx] at hck
      have HX := Lib.hid hx
      clear hc hx
      by_cases hw : (k : Int) = who
      · have e := Lib.hid (oth_succ_eq xs who k hw)
        subst hw
        go_wp2_with fail
        go_round
        case rel => exact ⟨k + 1, by omega, by go_num, by rw [e.out]⟩
        case measure => simp [intOf]; omega
      · have e := Lib.hid (oth_succ_ne' xs who k hw x HX.out)
        go_wp2_with fail
        go_round
        case rel => exact ⟨k + 1, by omega, by go_num, by rw [e.out]⟩
        case measure => simp [intOf]; omega
    · have hke : k = xs.length := by omega
      clear hc
      subst hke
      go_wp2_with fail
      go_ret
      exact ⟨rfl, rfl⟩

theorem rothers_of {b c : Nat} {xs : List Int} {who o : Int} {w : World} (ho : oth xs who xs.length = o) (h : RowAt w b c xs) :
    Calls Try.prog 63 #[.slice (some ⟨b, 0, none⟩) xs.length c, .int .i64 who] w fun e w' => e = .returned (.int .i64 o) ∧ w = w' := by
  rw [← ho]; exact rothers_any b c xs who w h

/-- A new row that reads ys. -/
def NewRow (w : World) (ys : List Int) (v : Value) (w' : World) : Prop := ∃ b' c', v = .slice (some ⟨b', 0, none⟩) ys.length c' ∧ w.heap.size ≤ b' ∧ RowAt w' b' c' ys ∧ Below w.heap.size w w'

set_option maxHeartbeats 400000 in
theorem with_any (b c i : Nat) (xs : List Int) (level : Int) (w : World) (h : RowAt w b c xs) (hil : i < xs.length) :
    Calls Try.prog 62 #[.slice (some ⟨b, 0, none⟩) xs.length c, .int .i64 i, .int .i64 level] w fun e w' => ∃ v, e = .returned v ∧ NewRow w (xs.set i level) v w' := by
  obtain ⟨i0, hi, hz0, hz1, hz2⟩ := info_parts Try.info3
  have hl8 : xs.length ≤ 8 := h.1
  have H := Lib.hid h
  have hbs := h.lt
  clear h
  go_enter Try.func62, Try.ntmps62
  go_wp2_with (first
    | (at_builtin; refine wpList_append_own _ rfl _ _ 28 rfl w.heap.size 3 i0 (.int .i64 0) 1 8 Try.underlying28 hi hz0 hz1 hz2 rfl (by decide) _ 0 [] rfl (World.ownsRow_lit w #[] 0 (Nat.le_refl _) (by decide) (by decide)) ⟨b, 0, none⟩ xs.length c (xs.map (Value.int .i64)) rfl (by simp) ?c1 ?c2 ?c3 ?c4 ?c5 ?_))
  case c1 =>
    intro j u hj
    rw [List.getElem?_map] at hj
    obtain ⟨x, hx, rfl⟩ := Option.map_eq_some_iff.1 hj
    have hjl : j < xs.length := (List.getElem?_eq_some_iff.1 hx).1
    have := H.out.cell j hjl
    have e : (⟨b, 0, none⟩ : Addr).add j = ⟨b, j, none⟩ := by cases j <;> simp [Addr.add]
    rw [e]
    refine (World.cell?_alloc_lt w _ ⟨b, j, none⟩ hbs).trans (this.trans ?_)
    rw [List.getD_eq_getElem?_getD, hx]; rfl
  case c2 => intro u hu; simp at hu; obtain ⟨x, _, rfl⟩ := hu; rfl
  case c3 => unfold maxLen; omega
  case c4 => omega
  case c5 => simp
  intro v' w1 hown hgrow _
  obtain ⟨g', cap, hv, hg1, hg2⟩ := hown.form (by omega)
  subst hv
  have hbel : Below w.heap.size w w1 := ((Below.refl _ w).alloc (Nat.le_refl _) _).grown hgrow (by simp) (fun k hk => by simp [Value.ownBlock] at hk; omega)
  have hci := hown.cellAt i (by omega)
  rw [List.getElem?_map, List.getElem?_eq_getElem hil] at hci
  have hfi := hown.frozenAt i
  have HO := Lib.hid hown
  clear hown hgrow
  simp only [Option.map_some] at hci
  go_wp2_with fail
  go_ret
  obtain ⟨hs1, hs2⟩ := HO.out.stored i (.int .i64 level)
  refine ⟨_, rfl, g', cap, by simp, hg1, ⟨by simpa using hl8, ?_⟩, ?_⟩
  · rw [List.length_set, List.map_set]
    exact own_base hs1 (Nat.zero_le _)
  · exact hbel.grown hs2 hbel.size (fun k hk => by simp at hk; omega)

end Go.Proofs.Ytpalbdjcfhlniaa
