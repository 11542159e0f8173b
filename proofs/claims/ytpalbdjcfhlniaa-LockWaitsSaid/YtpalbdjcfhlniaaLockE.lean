/- The walks over the document's answer for lock, on: Ask, Drop, Holds, Same. -/
import Derived.Test.YtpalbdjcfhlniaaLockD
namespace Go.Proofs.Ytpalbdjcfhlniaa
open Go.RowKit

/-- What the document's asking and dropping answer: a row, which is the same or new, and a number. -/
def RDid (w : World) (b : Nat) (r : List Int × Int) (e : Ending) (w' : World) : Prop :=
  ∃ b' c', e = .returned (.tuple #[.slice (some ⟨b', 0, none⟩) r.1.length c', .int .i64 r.2]) ∧ (b' = b ∨ w.heap.size ≤ b') ∧ RowAt w' b' c' r.1 ∧ Below w.heap.size w w'

theorem RDid.same {w : World} {b c : Nat} {r : List Int × Int} {xs : List Int} {k : Int} (h : RowAt w b c xs) (hr : r = (xs, k)) : RDid w b r (.returned (.tuple #[.slice (some ⟨b, 0, none⟩) xs.length c, .int .i64 k])) w := by
  subst hr; exact ⟨b, c, rfl, .inl rfl, h, Below.refl _ _⟩
theorem RDid.wrote {w w' : World} {b : Nat} {r : List Int × Int} {ys : List Int} {k : Int} {v : Value} (h : NewRow w ys v w') (hr : r = (ys, k)) : RDid w b r (.returned (.tuple #[v, .int .i64 k])) w' := by
  subst hr
  obtain ⟨b', c', rfl, hb, hrow, hbel⟩ := h
  exact ⟨b', c', rfl, .inr hb, hrow, hbel⟩

set_option maxHeartbeats 1000000 in
theorem rask_any (b c : Nat) (xs : List Int) (who level : Int) (w : World) (h : RowAt w b c xs) :
    Calls Try.prog 36 #[.slice (some ⟨b, 0, none⟩) xs.length c, .int .i64 who, .int .i64 level] w (RDid w b (askF xs who level)) := by
  have H := Lib.hid h
  have hl8 : xs.length ≤ 8 := h.1
  clear h
  rcases isB_cases xs.length who with hB | ⟨i, rfl, hi⟩
  · have HB := Lib.hid hB
    have HE := Lib.hid (askF_out hB level)
    clear hB
    go_enter Try.func36, Try.ntmps36
    go_wp2_with (go_at_call 61; refine (ris_of HB.out hl8).mono ?_; rintro e w' ⟨rfl, rfl⟩)
    go_ret2
    exact RDid.same H.out HE.out
  · have HB := Lib.hid (isB_in hi)
    have hc := H.out.cell i hi
    have ho0 := oth_nonneg xs i xs.length
    obtain ⟨o, ho⟩ : ∃ o, oth xs i xs.length = o := ⟨_, rfl⟩
    obtain ⟨x, hx⟩ : ∃ x, xs.getD i 0 = x := ⟨_, rfl⟩
    have HO := Lib.hid ho
    rw [ho] at ho0
    rw [hx] at hc
    by_cases hlv : level = 1 ∨ level = 2 ∨ level = 4
    · by_cases hlt : x < level
      · rcases hlv with rfl | rfl | rfl
        · by_cases h3 : 3 ≤ o
          · have HE := Lib.hid (show askF xs i 1 = (xs, 15) from by rw [askF_in hi hx ho]; (repeat' split) <;> first | rfl | omega)
            clear ho hx
            go_enter Try.func36, Try.ntmps36
            go_wp2_with (first | (go_at_call 61; refine (ris_of HB.out hl8).mono ?_; rintro e w' ⟨rfl, rfl⟩) | (go_at_call 63; refine (rothers_of HO.out H.out).mono ?_; rintro e w' ⟨rfl, rfl⟩) | (go_at_call 62; refine (with_any b c i xs _ _ H.out hi).mono ?_; rintro e w' ⟨v, rfl, hnew⟩))
            go_ret2
            exact RDid.same H.out HE.out
          · have HE := Lib.hid (show askF xs i 1 = (xs.set i 1, 0) from by rw [askF_in hi hx ho]; (repeat' split) <;> first | rfl | omega)
            clear ho hx
            go_enter Try.func36, Try.ntmps36
            go_wp2_with (first | (go_at_call 61; refine (ris_of HB.out hl8).mono ?_; rintro e w' ⟨rfl, rfl⟩) | (go_at_call 63; refine (rothers_of HO.out H.out).mono ?_; rintro e w' ⟨rfl, rfl⟩) | (go_at_call 62; refine (with_any b c i xs _ _ H.out hi).mono ?_; rintro e w' ⟨v, rfl, hnew⟩))
            go_ret2
            exact RDid.wrote hnew HE.out
        · by_cases h1 : x = 1
          · by_cases h3 : 2 ≤ o
            · have HE := Lib.hid (show askF xs i 2 = (xs, 15) from by rw [askF_in hi hx ho]; (repeat' split) <;> first | rfl | omega)
              clear ho hx
              go_enter Try.func36, Try.ntmps36
              go_wp2_with (first | (go_at_call 61; refine (ris_of HB.out hl8).mono ?_; rintro e w' ⟨rfl, rfl⟩) | (go_at_call 63; refine (rothers_of HO.out H.out).mono ?_; rintro e w' ⟨rfl, rfl⟩) | (go_at_call 62; refine (with_any b c i xs _ _ H.out hi).mono ?_; rintro e w' ⟨v, rfl, hnew⟩))
              go_ret2
              exact RDid.same H.out HE.out
            · have HE := Lib.hid (show askF xs i 2 = (xs.set i 2, 0) from by rw [askF_in hi hx ho]; (repeat' split) <;> first | rfl | omega)
              clear ho hx
              go_enter Try.func36, Try.ntmps36
              go_wp2_with (first | (go_at_call 61; refine (ris_of HB.out hl8).mono ?_; rintro e w' ⟨rfl, rfl⟩) | (go_at_call 63; refine (rothers_of HO.out H.out).mono ?_; rintro e w' ⟨rfl, rfl⟩) | (go_at_call 62; refine (with_any b c i xs _ _ H.out hi).mono ?_; rintro e w' ⟨v, rfl, hnew⟩))
              go_ret2
              exact RDid.wrote hnew HE.out
          · have h1' : (x != 1) = true := by simp only [bne_iff_ne]; omega
            have HE := Lib.hid (show askF xs i 2 = (xs, 10) from by rw [askF_in hi hx ho]; (repeat' split) <;> first | rfl | omega)
            clear ho hx
            go_enter Try.func36, Try.ntmps36
            go_wp2_with (first | (go_at_call 61; refine (ris_of HB.out hl8).mono ?_; rintro e w' ⟨rfl, rfl⟩) | (go_at_call 63; refine (rothers_of HO.out H.out).mono ?_; rintro e w' ⟨rfl, rfl⟩) | (go_at_call 62; refine (with_any b c i xs _ _ H.out hi).mono ?_; rintro e w' ⟨v, rfl, hnew⟩))
            go_ret2
            exact RDid.same H.out HE.out
        · by_cases h1 : x < 2
          · have HE := Lib.hid (show askF xs i 4 = (xs, 10) from by rw [askF_in hi hx ho]; (repeat' split) <;> first | rfl | omega)
            clear ho hx
            go_enter Try.func36, Try.ntmps36
            go_wp2_with (first | (go_at_call 61; refine (ris_of HB.out hl8).mono ?_; rintro e w' ⟨rfl, rfl⟩) | (go_at_call 63; refine (rothers_of HO.out H.out).mono ?_; rintro e w' ⟨rfl, rfl⟩) | (go_at_call 62; refine (with_any b c i xs _ _ H.out hi).mono ?_; rintro e w' ⟨v, rfl, hnew⟩))
            go_ret2
            exact RDid.same H.out HE.out
          · by_cases h3 : o = 0
            · have HE := Lib.hid (show askF xs i 4 = (xs.set i 4, 0) from by rw [askF_in hi hx ho]; (repeat' split) <;> first | rfl | omega)
              clear ho hx
              go_enter Try.func36, Try.ntmps36
              go_wp2_with (first | (go_at_call 61; refine (ris_of HB.out hl8).mono ?_; rintro e w' ⟨rfl, rfl⟩) | (go_at_call 63; refine (rothers_of HO.out H.out).mono ?_; rintro e w' ⟨rfl, rfl⟩) | (go_at_call 62; refine (with_any b c i xs _ _ H.out hi).mono ?_; rintro e w' ⟨v, rfl, hnew⟩))
              go_ret2
              exact RDid.wrote hnew HE.out
            · have h3' : 0 < o := by omega
              have HE := Lib.hid (show askF xs i 4 = (xs.set i 3, 15) from by rw [askF_in hi hx ho]; (repeat' split) <;> first | rfl | omega)
              clear ho hx
              go_enter Try.func36, Try.ntmps36
              go_wp2_with (first | (go_at_call 61; refine (ris_of HB.out hl8).mono ?_; rintro e w' ⟨rfl, rfl⟩) | (go_at_call 63; refine (rothers_of HO.out H.out).mono ?_; rintro e w' ⟨rfl, rfl⟩) | (go_at_call 62; refine (with_any b c i xs _ _ H.out hi).mono ?_; rintro e w' ⟨v, rfl, hnew⟩))
              go_ret2
              exact RDid.wrote hnew HE.out
      · have HE := Lib.hid (show askF xs i level = (xs, 0) from by rw [askF_in hi hx ho]; (repeat' split) <;> first | rfl | omega)
        clear ho hx
        rcases hlv with rfl | rfl | rfl
        all_goals
          go_enter Try.func36, Try.ntmps36
          go_wp2_with (first | (go_at_call 61; refine (ris_of HB.out hl8).mono ?_; rintro e w' ⟨rfl, rfl⟩))
          go_ret2
          exact RDid.same H.out HE.out
    · have HE := Lib.hid (show askF xs i level = (xs, 1) from by rw [askF_in hi hx ho, if_pos hlv])
      obtain ⟨h1, h2, h4⟩ : (level != 1) = true ∧ (level != 2) = true ∧ (level != 4) = true := by simp only [bne_iff_ne]; omega
      clear hlv hc ho hx
      go_enter Try.func36, Try.ntmps36
      go_wp2_with (first | (go_at_call 61; refine (ris_of HB.out hl8).mono ?_; rintro e w' ⟨rfl, rfl⟩))
      go_ret2
      exact RDid.same H.out HE.out

set_option maxHeartbeats 400000 in
theorem rdrop_any (b c : Nat) (xs : List Int) (who level : Int) (w : World) (h : RowAt w b c xs) :
    Calls Try.prog 35 #[.slice (some ⟨b, 0, none⟩) xs.length c, .int .i64 who, .int .i64 level] w (RDid w b (dropF xs who level)) := by
  have H := Lib.hid h
  have hl8 : xs.length ≤ 8 := h.1
  clear h
  rcases isB_cases xs.length who with hB | ⟨i, rfl, hi⟩
  · have HB := Lib.hid hB
    have HE := Lib.hid (dropF_out hB level)
    clear hB
    go_enter Try.func35, Try.ntmps35
    go_wp2_with (go_at_call 61; refine (ris_of HB.out hl8).mono ?_; rintro e w' ⟨rfl, rfl⟩)
    go_ret2
    exact RDid.same H.out HE.out
  · have HB := Lib.hid (isB_in hi)
    have hc := H.out.cell i hi
    obtain ⟨x, hx⟩ : ∃ x, xs.getD i 0 = x := ⟨_, rfl⟩
    rw [hx] at hc
    by_cases h0 : level < 0
    · have HE := Lib.hid (show dropF xs i level = (xs, 1) from by rw [dropF_in hi rfl, if_pos (.inl h0)])
      clear hx
      go_enter Try.func35, Try.ntmps35
      go_wp2_with (go_at_call 61; refine (ris_of HB.out hl8).mono ?_; rintro e w' ⟨rfl, rfl⟩)
      go_ret2
      exact RDid.same H.out HE.out
    · by_cases h1 : x < level
      · have HE := Lib.hid (show dropF xs i level = (xs, 1) from by rw [dropF_in hi hx, if_pos (.inr h1)])
        clear hx
        go_enter Try.func35, Try.ntmps35
        go_wp2_with (go_at_call 61; refine (ris_of HB.out hl8).mono ?_; rintro e w' ⟨rfl, rfl⟩)
        go_ret2
        exact RDid.same H.out HE.out
      · have HE := Lib.hid (show dropF xs i level = (xs.set i level, 0) from by rw [dropF_in hi hx, if_neg (by omega)])
        clear hx
        go_enter Try.func35, Try.ntmps35
        go_wp2_with (first | (go_at_call 61; refine (ris_of HB.out hl8).mono ?_; rintro e w' ⟨rfl, rfl⟩) | (go_at_call 62; refine (with_any b c i xs _ _ H.out hi).mono ?_; rintro e w' ⟨v, rfl, hnew⟩))
        go_ret2
        exact RDid.wrote hnew HE.out

set_option maxHeartbeats 400000 in
theorem rholds_any (b c : Nat) (xs : List Int) (level : Int) (w : World) (h : RowAt w b c xs) :
    Calls Try.prog 38 #[.slice (some ⟨b, 0, none⟩) xs.length c, .int .i64 level] w fun e w' =>
      ∃ v, e = .returned v ∧ w'.ownsRow w.heap.size 3 1 v (hold xs level xs.length).length ((hold xs level xs.length).map (Value.int .i64)) ∧ Below w.heap.size w w' := by
  obtain ⟨i0, hi, hz0, hz1, hz2⟩ := info_parts Try.info3
  obtain ⟨B, hB⟩ : ∃ B, w.heap.size = B := ⟨_, rfl⟩
  have hgB : b < B := hB ▸ h.lt
  have HBs : B ≤ w.heap.size := by omega
  rw [hB]
  clear hB
  have hl8 : xs.length ≤ 8 := h.1
  have H := Lib.hid h
  clear h
  go_enter Try.func38, Try.ntmps38
  go_wp2_with fail
  go_loopw [5, 6] (fun v i wr => ∃ k : Nat, k ≤ xs.length ∧ i = .int .i64 k ∧ wr.ownsRow B 3 1 v (hold xs level k).length ((hold xs level k).map (Value.int .i64)) ∧ Below B w wr)
    (fun _ i _ => xs.length - (intOf i).toNat)
  case atStart => exact ⟨0, Nat.zero_le _, rfl, World.ownsRow_nil _ _ _ _, Below.refl _ _⟩
  case round =>
    obtain ⟨k, hk, rfl, hown, hbel⟩ := hrel
    have hle := hold_le xs level k
    by_cases hlt : k < xs.length
    · have hck := (H.out.below hbel hgB).cell k hlt
      obtain ⟨x, hx⟩ : ∃ x, xs.getD k 0 = x := ⟨_, rfl⟩
      rw [hx] at hck
      by_cases hge : level ≤ x
      · have HE := Lib.hid (hold_yes (xs := xs) (level := level) (k := k) (by rw [hx]; exact hge))
        clear hx
        go_wp2_with (first
          | (at_builtin; refine wpList_append_own _ rfl _ _ 28 rfl B 3 i0 (.int .i64 0) 1 8 Try.underlying28 hi hz0 hz1 hz2 rfl (by decide) _ _ _ rfl (hown.alloc _) ⟨wr.heap.size, 0, none⟩ 1 1 [.int .i64 k] rfl rfl ?c1 ?c2 ?c3 ?c4 ?c5 ?_))
        case c1 =>
          intro j u hj
          match j, hj with
          | 0, hj => simp at hj; subst hj; simp [Addr.add]
        case c2 => intro u hu; simp at hu; subst hu; rfl
        case c3 => unfold maxLen; omega
        case c4 => omega
        case c5 => have := hbel.size; simp; omega
        intro v' w1 hown' hgrow _
        have hbel' : Below B w w1 := (hbel.alloc (by have := hbel.size; omega) _).grown hgrow (by have := hbel.size; simp; omega) (fun g hg => (hown.lt g hg).1)
        have hown2 : Hid (w1.ownsRow B 3 1 v' (hold xs level (k + 1)).length ((hold xs level (k + 1)).map (Value.int .i64))) := by
          rw [HE.out, List.length_append, List.map_append]; exact hown'
        clear hown' hgrow hown hbel hck
        go_wp2_with fail
        go_roundw
        case rel => exact ⟨k + 1, by omega, by go_num, hown2.out, hbel'⟩
        case measure => simp [intOf]; omega
      · have HE := Lib.hid (hold_no (xs := xs) (level := level) (k := k) (by rw [hx]; exact hge))
        clear hx
        go_wp2_with fail
        go_roundw
        case rel => exact ⟨k + 1, by omega, by go_num, by rw [HE.out]; exact hown, hbel⟩
        case measure => simp [intOf]; omega
    · obtain rfl : k = xs.length := by omega
      go_wp2_with fail
      go_ret
      exact ⟨_, rfl, hown, hbel⟩

/-- A slice that reads a list, nil let in. -/
def Reads (w : World) (A : Option Addr) (xs : List Int) : Prop := ∀ k, k < xs.length → ∃ a, A = some a ∧ w.cell? (a.add k) = some (.int .i64 (xs.getD k 0))

theorem Reads.of_own {w : World} {base c n : Nat} {A : Option Addr} {xs : List Int} (h : w.ownsRow base 3 1 (.slice A n c) xs.length (xs.map (Value.int .i64))) : Reads w A xs := by
  intro k hk
  obtain ⟨g, cap, hv, _, _⟩ := h.form (by omega)
  simp only [Value.slice.injEq] at hv
  obtain ⟨rfl, _, _⟩ := hv
  refine ⟨_, rfl, h.cells (g := g) rfl k _ ?_⟩
  rw [List.getElem?_map]; simp [hk]

set_option maxHeartbeats 400000 in
theorem rsame_any (A A' : Option Addr) (c c' : Nat) (xs : List Int) (w : World) (hl : xs.length ≤ 1048576) (h : Reads w A xs) (h' : Reads w A' xs) :
    Calls Try.prog 37 #[.slice A xs.length c, .slice A' xs.length c'] w fun e w' => e = .returned (.bool true) ∧ ∃ n, w' = w.drewN n := by
  go_enter Try.func37, Try.ntmps37
  go_wp2_with fail
  go_loopw [5] (fun i wr => ∃ k n : Nat, k ≤ xs.length ∧ i = .int .i64 k ∧ wr = w.drewN n) (fun i _ => xs.length - (intOf i).toNat)
  case atStart => exact ⟨0, 0, Nat.zero_le _, rfl, rfl⟩
  case round =>
    obtain ⟨k, n, hk, rfl, rfl⟩ := hrel
    by_cases hlt : k < xs.length
    · obtain ⟨a, rfl, hca⟩ := h k hlt
      obtain ⟨a', rfl, hca'⟩ := h' k hlt
      obtain ⟨x, hx⟩ : ∃ x, xs.getD k 0 = x := ⟨_, rfl⟩
      rw [hx] at hca hca'
      clear h h' hx
      go_wp2_with fail
      go_quiet (fail)
      go_wp2_with fail
      go_roundw
      case rel => exact ⟨k + 1, _, by omega, by go_num, rfl⟩
      case measure => simp [intOf]; omega
    · obtain rfl : k = xs.length := by omega
      clear h h'
      go_wp2_with fail
      go_ret
      exact ⟨rfl, _, rfl⟩

end Go.Proofs.Ytpalbdjcfhlniaa
