/- The walk over the law of reading. -/
import Derived.Test.YtpalbdjcfhlniaaStatRe
import Derived.Test.YtpalbdjcfhlniaaStatRd
namespace Go.Proofs.Ytpalbdjcfhlniaa
open Go.RowKit Go.ChangeShapes Go.WideShapes Go.ChangeAt Go.Deep

theorem opens_rowC : OpE Try.prog 66 RowC RowOk := by
  intro H enc w base spare held n a cs x hc h
  obtain ⟨v, xs, hcs, h1, h2⟩ := open_list opens_val Try.underlying66 Try.cellsOf78 h
  obtain ⟨b, o, rfl, hb⟩ := hc.base (by rw [hcs]; simp)
  subst hcs
  exact ⟨b, o, xs, rfl, hb, ⟨v, cells_one_at hc, h1⟩, h1.len, h2⟩

set_option maxRecDepth 100000 in
/-- An argument of rows, the room of each told. -/
theorem open_rowsC {H : Type} {enc : TypeId × Value → H} {w : World} {base : Nat} {spare : Nat → Bool} {held : Bool} {v : Value} {d : DataW H} {ps : List MemPlace} {r : Reach} {b0 : Nat}
    (hv : Value.okWide Try.prog w r b0 61 v) (h : DataW.Trod enc Try.prog w base spare held 61 v d ps) :
    ∃ (A : Option Addr) (c : Nat) (l : List (List Vl)), v = .slice A l.length c ∧ SeqAt RowC 1 w A l ∧ RowsOk l := by
  obtain ⟨A, len, cap, rfl⟩ := okWide_slice Try.underlying61 hv
  obtain ⟨fuel, hf⟩ := h
  obtain ⟨v, xs, hcs, h1, h2⟩ := open_list opens_rowC Try.underlying61 Try.cellsOf66 hf
  simp [Value.cells] at hcs
  subst hcs
  have hlen := h1.len
  obtain ⟨A', c', e, _, _, hs⟩ := h1
  simp only [Value.slice.injEq] at e
  obtain ⟨rfl, rfl, rfl⟩ := e
  exact ⟨_, _, xs, rfl, hs, hlen, h2⟩

theorem vals_ok {w : World} {A : Option Addr} {l : List (List Vl)} (h : SeqAt RowC 1 w A l) : ∀ r ∈ l, ∀ v ∈ r, v.s.size ≤ maxLen := fun r hr v hv => by
  obtain ⟨k, hk⟩ := List.getElem?_of_mem hr
  obtain ⟨_, _, _, _, _, _, u, _, A', _, _, _, _, hs⟩ := h k r hk
  obtain ⟨j, hj⟩ := List.getElem?_of_mem hv
  obtain ⟨_, _, _, _, _, _, hE⟩ := hs j v hj
  exact hE.sz

/-- Rows that say something are just what they say. -/
theorem reads_back {rows : List (List Vl)} (h : readsB rows = true) : allB (allB vlB) (rowsF (rows.map headSt)) rows = true := by
  unfold readsB at h
  rw [List.all_eq_true] at h
  refine allB_true (by simp [rowsF]) fun j x y hx hy => ?_
  have hm := h y (List.mem_of_getElem? hy)
  unfold rowsF at hx
  rw [List.map_map, List.getElem?_map, hy] at hx
  simp at hx
  subst hx
  unfold readB at hm
  rw [Bool.and_eq_true] at hm
  have h2 : 2 ≤ y.length := by
    have := hm.1
    unfold formB at this
    rw [Bool.and_eq_true, decide_eq_true_eq] at this
    exact this.1
  rw [readB_ref h2]
  exact hm.1
theorem reads_short {rows : List (List Vl)} (h : readsB rows = true) : ∀ s ∈ rows.map headSt, s.unlike.length ≤ 100 := fun s hs => by
  obtain ⟨r, hr, rfl⟩ := List.mem_map.1 hs
  unfold readsB at h
  rw [List.all_eq_true] at h
  have hm := h r hr
  unfold readB at hm
  rw [Bool.and_eq_true] at hm
  exact Nat.le_trans (mayF_len hm.2) (by omega)

set_option maxHeartbeats 4000000 in
set_option maxRecDepth 100000 in
theorem lreads_any (A : Option Addr) (c : Nat) (rows : List (List Vl)) (w : World) (hr : SeqAt RowC 1 w A rows) (hk : RowsOk rows) :
    Calls Try.prog 11 #[.slice A rows.length c] w fun e w' => e = .returned (.bool true) ∧ Below w.heap.size w w' := by
  have hm := hk.1
  have HR := Lib.hid hr
  have HK := Lib.hid hk
  clear hr hk
  unfold maxLen at hm
  by_cases h1 : 20 < rows.length
  · go_enter Try.func11, Try.ntmps11
    go_wp2_with (first
      | (go_at_call 22; (with_reducible refine (live_any _).mono ?_); rintro e w1 ⟨rfl, hb1⟩))
    go_ret
    exact ⟨rfl, hb1⟩
  · go_enter Try.func11, Try.ntmps11
    go_wp2_with fail
    go_loopw [3] (fun i wr => ∃ k : Nat, k ≤ rows.length ∧ i = .int .i64 k ∧ Below w.heap.size w wr ∧ Hid (∀ j r, j < k → rows[j]? = some r → r.length ≤ 60)) (fun i _ => rows.length - (intOf i).toNat)
    case atStart => exact ⟨0, Nat.zero_le _, rfl, Below.refl _ _, fun j s h => by omega⟩
    case round =>
      obtain ⟨k, hk, rfl, hB, H60⟩ := hrel
      have hBs := hB.size
      by_cases hlt : k < rows.length
      · obtain ⟨a, qb, qo, r, rfl, hq, hql, hsk, hE⟩ := (HR.out.below RowC.stays hB).get k hlt
        rw [Nat.mul_one] at hq
        obtain ⟨v, hv, A1, c1, rfl, _, hcm, hsq⟩ := hE
        have HSK := Lib.hid hsk
        clear hsq hsk hcm
        obtain ⟨n, hn⟩ : ∃ n, r.length = n := ⟨_, rfl⟩
        rw [hn] at hv
        have HN := Lib.hid hn
        clear hn
        by_cases g1 : 60 < n
        · go_wp2_with (first
            | (go_at_call 22; (with_reducible refine (live_any _).mono ?_); rintro e w1 ⟨rfl, hb1⟩))
          go_ret
          exact ⟨rfl, hB.trans (hb1.mono hBs)⟩
        · have H60' : Hid (∀ j r, j < k + 1 → rows[j]? = some r → r.length ≤ 60) := fun j t hj ht => by
            by_cases hjk : j < k
            · exact H60.out j t hjk ht
            · obtain rfl : j = k := by omega
              have := HSK.out
              rw [this] at ht
              injection ht with ht
              subst ht
              rw [HN.out]; omega
          go_wp2_with fail
          go_roundw
          case rel => exact ⟨k + 1, by omega, by go_num, hB, H60'⟩
          case measure => simp [intOf]; omega
      · obtain rfl : k = rows.length := by omega
        have HFIT : Hid (RowsFit rows) := ⟨by omega, fun r hr => by
          obtain ⟨j, hj⟩ := List.getElem?_of_mem hr
          have := H60.out j r (List.getElem?_eq_some_iff.1 hj).1 hj
          exact ⟨by omega, fun v hv => ⟨((HK.out.2 r hr).2 v hv).2.2, vals_ok HR.out r hr v hv⟩⟩⟩
        have SQ := Lib.hid (HR.out.below RowC.stays hB)
        have HB0 := Lib.hid hB
        obtain ⟨rb, hrb⟩ : ∃ b, readsB rows = b := ⟨_, rfl⟩
        have HRB := Lib.hid hrb
        clear hrb
        cases rb
        · have H30 : Hid (∀ (W : World), SeqAt RowC 1 W A rows → Calls Try.prog 30 #[.slice A rows.length c] W fun e w' => e = .returned (.tuple #[.slice none 0 0, .int .i64 8]) ∧ Below W.heap.size W w') := fun W h => (sread_any rows A c W h HFIT.out).mono fun e w' ⟨hb, hc⟩ => by
            rcases hc with ⟨_, he⟩ | ⟨h1, _⟩
            · exact ⟨he, hb⟩
            · rw [HRB.out] at h1; cases h1
          have H34 : Hid (∀ (W : World), SeqAt RowC 1 W A rows → Calls Try.prog 34 #[.slice A rows.length c] W fun e w' => e = .returned (.tuple #[.slice none 0 0, .int .i64 8]) ∧ Below W.heap.size W w') := fun W h => (rread_any rows A c W (seq_rows h) HFIT.out).mono fun e w' ⟨hb, hc⟩ => by
            rcases hc with ⟨_, he⟩ | ⟨h1, _⟩
            · exact ⟨he, hb⟩
            · rw [HRB.out] at h1; cases h1
          have H27 : Hid (∀ (W : World), Calls Try.prog 27 #[.slice none 0 0, .slice none 0 0] W fun e w' => e = .returned (.bool true) ∧ Below W.heap.size W w') := fun W =>
            (rsameS_any none none 0 0 [] [] W (SeqAt.nil _ _ _ _) (SeqAt.nil _ _ _ _) (Nat.zero_le _) (Nat.zero_le _) (fun s h => by simp at h) (fun s h => by simp at h)).mono fun e w' ⟨he, hb⟩ => ⟨by rw [he, statsB_refl], hb⟩
          go_wp2_with (first
            | (go_at_call 30; (with_reducible refine (H30.out _ SQ.out).mono ?_); rintro e w1 ⟨rfl, hb1⟩; have s1 := SQ.out.below RowC.stays hb1)
            | (go_at_call 34; (with_reducible refine (H34.out _ s1).mono ?_); rintro e w2 ⟨rfl, hb2⟩)
            | (go_at_call 22; (with_reducible refine (live_any _).mono ?_); rintro e w3 ⟨rfl, hb3⟩)
            | (go_at_call 27; (with_reducible refine (H27.out _).mono ?_); rintro e w4 ⟨rfl, hb4⟩))
          go_ret
          exact ⟨rfl, HB0.out.trans ((hb1.trans ((hb2.trans ((hb3.trans (hb4.mono hb3.size)).mono hb2.size)).mono hb1.size)).mono HB0.out.size)⟩
        · obtain ⟨L, hL⟩ : ∃ L, rows.map headSt = L := ⟨_, rfl⟩
          have H30 : Hid (∀ (W : World), SeqAt RowC 1 W A rows → Calls Try.prog 30 #[.slice A rows.length c] W fun e w' => ∃ A3 c3, e = .returned (.tuple #[.slice A3 L.length c3, .int .i64 0]) ∧ SeqAt StatE 3 w' A3 L ∧ Below W.heap.size W w') := fun W h => (sread_any rows A c W h HFIT.out).mono fun e w' ⟨hb, hc⟩ => by
            rcases hc with ⟨h1, _⟩ | ⟨_, A3, c3, he, hs⟩
            · rw [HRB.out] at h1; cases h1
            · rw [hL] at he hs
              exact ⟨A3, c3, he, hs, hb⟩
          have H34 : Hid (∀ (W : World), SeqAt RowC 1 W A rows → Calls Try.prog 34 #[.slice A rows.length c] W fun e w' => ∃ A3 c3, e = .returned (.tuple #[.slice A3 L.length c3, .int .i64 0]) ∧ SeqAt StatE 3 w' A3 L ∧ Below W.heap.size W w') := fun W h => (rread_any rows A c W (seq_rows h) HFIT.out).mono fun e w' ⟨hb, hc⟩ => by
            rcases hc with ⟨h1, _⟩ | ⟨_, A3, c3, he, hs⟩
            · rw [HRB.out] at h1; cases h1
            · rw [hL] at he hs
              exact ⟨A3, c3, he, hs, hb⟩
          have hLl : L.length ≤ 100 := by rw [← hL, List.length_map]; omega
          have hLu : ∀ s ∈ L, s.unlike.length ≤ 100 := by rw [← hL]; exact reads_short HRB.out
          have H27 : Hid (∀ (W : World) (A3 A4 : Option Addr) (c3 c4 : Nat), SeqAt StatE 3 W A3 L → SeqAt StatE 3 W A4 L → Calls Try.prog 27 #[.slice A3 L.length c3, .slice A4 L.length c4] W fun e w' => e = .returned (.bool true) ∧ Below W.heap.size W w') := fun W A3 A4 c3 c4 h1 h2 =>
            (rsameS_any A3 A4 c3 c4 L L W h1 h2 hLl hLl hLu hLu).mono fun e w' ⟨he, hb⟩ => ⟨by rw [he, statsB_refl], hb⟩
          have H31 : Hid (∀ (W : World) (A3 : Option Addr) (c3 : Nat), SeqAt StatE 3 W A3 L → Calls Try.prog 31 #[.slice A3 L.length c3] W (RowsOut W L)) := fun W A3 c3 h => rows_any A3 c3 L W h hLl hLu
          have H32 : Hid (∀ (W : World) (A5 : Option Addr) (c5 : Nat), SeqAt RowE 1 W A5 (rowsF L) → SeqAt RowC 1 W A rows → Calls Try.prog 32 #[.slice A5 (rowsF L).length c5, .slice A rows.length c] W fun e w' => e = .returned (.bool true) ∧ Below W.heap.size W w') := fun W A5 c5 h1 h2 => by
            refine (sameRows_any A5 A c5 c (rowsF L) rows W h1 (seq_rows h2) ?_ ?_ ?_).mono ?_
            · rw [← hL]; simp [rowsF]; unfold maxLen; omega
            · exact fun r hr => Nat.le_trans (rowsF_len hLu r hr) (by unfold maxLen; omega)
            · exact fun r hr => (HK.out.2 r hr).1
            · rintro e w' ⟨he, n, rfl⟩
              exact ⟨by rw [he, ← hL, reads_back HRB.out], below_n (Below.refl _ _) _⟩
          clear hL hLl hLu
          go_wp2_with (first
            | (go_at_call 30; (with_reducible refine (H30.out _ SQ.out).mono ?_); rintro e w1 ⟨A3, c3, rfl, hl1, hb1⟩; have s1 := SQ.out.below RowC.stays hb1)
            | (go_at_call 34; (with_reducible refine (H34.out _ s1).mono ?_); rintro e w2 ⟨A4, c4, rfl, hm2, hb2⟩; have s2 := s1.below RowC.stays hb2; have hl2 := hl1.below StatE.stays hb2)
            | (go_at_call 22; (with_reducible refine (live_any _).mono ?_); rintro e w3 ⟨rfl, hb3⟩; have s3 := s2.below RowC.stays hb3; have hl3 := hl2.below StatE.stays hb3; have hm3 := hm2.below StatE.stays hb3)
            | (go_at_call 27; (with_reducible refine (H27.out _ _ _ _ _ hl3 hm3).mono ?_); rintro e w4 ⟨rfl, hb4⟩; have s4 := s3.below RowC.stays hb4; have hl4 := hl3.below StatE.stays hb4)
            | (go_at_call 31; (with_reducible refine (H31.out _ _ _ hl4).mono ?_); rintro e w5 ⟨A5, c5, rfl, hr5, hb5⟩; have s5 := s4.below RowC.stays hb5)
            | (go_at_call 32; (with_reducible refine (H32.out _ _ _ hr5 s5).mono ?_); rintro e w6 ⟨rfl, hb6⟩))
          go_ret
          exact ⟨rfl, HB0.out.trans ((hb1.trans ((hb2.trans ((hb3.trans ((hb4.trans ((hb5.trans (hb6.mono hb5.size)).mono hb4.size)).mono hb3.size)).mono hb2.size)).mono hb1.size)).mono HB0.out.size)⟩

end Go.Proofs.Ytpalbdjcfhlniaa
