/- The walk over the document's Guess. -/
import Derived.Test.YtpalbdjcfhlniaaStatD
namespace Go.Proofs.Ytpalbdjcfhlniaa
open Go.RowKit

theorem posF_ge {m : Int} (h : 0 ≤ m) : posF m = m := by unfold posF; split <;> omega
theorem oneF_ge {m : Int} (h : 1 ≤ m) : oneF m = m := by unfold oneF; split <;> omega
theorem oneF_lt {m : Int} (h : m < 1) : oneF m = 1 := by unfold oneF; split <;> omega

/-- What is guessed of the statistics from place k on. -/
def suffF (l : List St) (name : ByteArray) (eq : Int) (k : Nat) : Int :=
  match (l.drop k).find? fun s => sameB s.name name with
  | some s => fewF s.many s.unlike eq
  | none => if 0 < eq then 10 else 1000

theorem suffF_all (l : List St) (name : ByteArray) (eq : Int) : suffF l name eq l.length = if 0 < eq then 10 else 1000 := by simp [suffF]
theorem suffF_hit {l : List St} {name : ByteArray} {eq : Int} {k : Nat} {s : St} (hs : l[k]? = some s) (h : sameB s.name name = true) : suffF l name eq k = fewF s.many s.unlike eq := by
  have hk := (List.getElem?_eq_some_iff.1 hs).1
  have he := (List.getElem?_eq_some_iff.1 hs).2
  unfold suffF
  rw [List.drop_eq_getElem_cons hk, he, List.find?_cons_of_pos (by exact h)]
theorem suffF_miss {l : List St} {name : ByteArray} {eq : Int} {k : Nat} {s : St} (hs : l[k]? = some s) (h : sameB s.name name = false) : suffF l name eq k = suffF l name eq (k + 1) := by
  have hk := (List.getElem?_eq_some_iff.1 hs).1
  have he := (List.getElem?_eq_some_iff.1 hs).2
  unfold suffF
  rw [List.drop_eq_getElem_cons hk, he, List.find?_cons_of_neg (by rw [h]; simp)]
theorem find_idx (p : St → Bool) (l : List St) : ((l.findIdx? p).bind fun i => l[i]?) = l.find? p := by
  induction l with
  | nil => rfl
  | cons x l ih =>
    rw [List.findIdx?_cons, List.find?_cons]
    cases h : p x
    · simp only [Bool.false_eq_true, if_false]
      rw [← ih]
      cases l.findIdx? p <;> simp
    · simp
theorem suffF_zero (l : List St) (name : ByteArray) (eq : Int) : suffF l name eq 0 = baseF l name eq := by
  unfold suffF baseF idxF
  rw [find_idx, List.drop_zero]
  rfl

theorem suffF_nonneg (l : List St) (name : ByteArray) (eq : Int) (k : Nat) : 0 ≤ suffF l name eq k := by
  unfold suffF; split
  · exact fewF_nonneg _ _ _
  · split <;> omega

set_option maxHeartbeats 4000000 in
set_option maxRecDepth 100000 in
theorem rguess_any (A : Option Addr) (c : Nat) (l : List St) (name : ByteArray) (eq : Int) (ranged : Bool) (w : World) (hl : SeqAt StatE 3 w A l) (hm : l.length ≤ maxLen) (hu : ∀ s ∈ l, s.unlike.length ≤ maxLen) (hz : name.size ≤ maxLen) (hmb : ∀ s ∈ l, s.many ≤ 9223372036854775807) :
    Calls Try.prog 24 #[.slice A l.length c, .string name, .int .i64 eq, .bool ranged] w fun e w' => e = .returned (.int .i64 (guessF l name eq ranged)) ∧ Below w.heap.size w w' := by
  have HL := Lib.hid hl
  have HZ := Lib.hid hz
  have HU := Lib.hid hu
  have HUP : Hid (suffF l name eq 0 ≤ 9223372036854775807) := by
    show _ ≤ _
    unfold suffF
    split
    · rename_i s h
      exact Int.le_trans (fewF_le _ _ _) (posF_le (hmb s (List.mem_of_find?_eq_some h)))
    · split <;> omega
  have HMB := Lib.hid hmb
  unfold maxLen at hm
  clear hl hz hu hmb
  by_cases he0 : 0 < eq
  · have HI := Lib.hid (suffF_all l name eq)
    rw [if_pos he0] at HI
    go_enter Try.func24, Try.ntmps24
    go_wp2_with fail
    go_loopw [9, 10] (fun n i wr => ∃ j : Int, -1 ≤ j ∧ j < l.length ∧ i = .int .i64 j ∧ n = .int .i64 (suffF l name eq (j + 1).toNat) ∧ Below w.heap.size w wr) (fun _ i _ => (intOf i + 1).toNat)
    case atStart => exact ⟨(l.length : Int) - 1, by omega, by omega, rfl, by rw [show ((l.length : Int) - 1 + 1).toNat = l.length by omega, HI.out], Below.refl _ _⟩
    case round =>
      obtain ⟨j, hj1, hj2, rfl, rfl, hB⟩ := hrel
      clear HI
      by_cases hj0 : 0 ≤ j
      · obtain ⟨k, rfl⟩ : ∃ k : Nat, j = k := ⟨j.toNat, by omega⟩
        have hk : k < l.length := by omega
        obtain ⟨a, qb, qo, s, rfl, hq, hql, hsk, hE⟩ := (HL.out.below StatE.stays hB).get k hk
        obtain ⟨v, hu, A2, c2, rfl, hsq⟩ := hE.unlike
        have h0 := hE.name
        have h1 := hE.many
        have HSZ := Lib.hid hE.sz
        have HHM := Lib.hid hE.mb
        have HUS := Lib.hid (HU.out s (List.mem_of_getElem? hsk))
        have HHit := Lib.hid (fun h => suffF_hit (name := name) (eq := eq) hsk h)
        have HMiss := Lib.hid (fun h => suffF_miss (name := name) (eq := eq) hsk h)
        have HSQ := Lib.hid hsq
        clear hE hsk hsq
        obtain ⟨nm, many, ul⟩ := s
        simp only at h0 h1 hu HSZ HHM HUS HHit HMiss HSQ
        obtain ⟨b, hb⟩ : ∃ b, sameB nm name = b := ⟨_, rfl⟩
        rw [hb] at HHit HMiss
        have HP := Lib.hid (fun W => rsameN_any nm name W HSZ.out HZ.out)
        rw [hb] at HP
        clear hb
        cases b
        · have HE := Lib.hid (HMiss.out rfl)
          rw [show ((k : Int) + 1).toNat = k + 1 by omega]
          clear HHit HMiss HSQ HUS HHM
          go_wp2_with (first
            | (go_at_call 47; (with_reducible refine (HP.out _).mono ?_); rintro e w1 ⟨rfl, hb1⟩))
          go_roundw
          case rel => exact ⟨(k : Int) - 1, by omega, by omega, rfl, by rw [show ((k : Int) - 1 + 1).toNat = k by omega, HE.out], hB.trans (hb1.mono hB.size)⟩
          case measure => simp [intOf] <;> omega
        · have HF := Lib.hid (HHit.out rfl)
          rw [show ((k : Int) + 1).toNat = k + 1 by omega]
          generalize suffF l name eq (k + 1) = oldn
          clear HHit HMiss
          by_cases hm : 0 ≤ many
          · have h00 : ¬ eq ≤ 0 := by omega
            by_cases hu0 : ul.length = 0
            · have HE := Lib.hid (HF.out.trans ((fewF_none h00 hu0).trans (congrArg (upF · 10) (posF_ge hm))))
              rw [hu0] at hu
              clear HF HSQ hu0
              go_wp2_with (first
                | (go_at_call 47; (with_reducible refine (HP.out _).mono ?_); rintro e w1 ⟨rfl, hb1⟩; have g0 := (hb1.cell (p := ⟨qb, qo, none⟩) hql).trans h0; have g1 := (hb1.cell (p := ⟨qb, qo + 1, none⟩) hql).trans h1; have g2 := (hb1.cell (p := ⟨qb, qo + 2, none⟩) hql).trans hu)
                | (go_at_call 48; (with_reducible refine (rup_any _ _ _ (by omega) (by omega) (by first | omega | exact HHM.out)).mono ?_); rintro e w2 ⟨rfl, rfl⟩))
              go_roundw
              case rel => exact ⟨(k : Int) - 1, by omega, by omega, rfl, by rw [show ((k : Int) - 1 + 1).toNat = k by omega, HE.out], hB.trans (hb1.mono hB.size)⟩
              case measure => simp [intOf] <;> omega
            · obtain ⟨n, hn⟩ : ∃ n, ul.length = n + 1 := ⟨ul.length - 1, by omega⟩
              have hnb : n + 1 ≤ maxLen := by have := HUS.out; rw [← hn]; exact this
              unfold maxLen at hnb
              by_cases hlt : eq ≤ (n : Int) + 1
              · obtain ⟨i, rfl⟩ : ∃ i : Nat, eq = (i : Int) + 1 := ⟨(eq - 1).toNat, by omega⟩
                obtain ⟨a2, qb2, qo2, rfl, hq2, hql2, hc2⟩ := seq_int HSQ.out (i := i) (by omega)
                have HE0 := Lib.hid (HF.out.trans ((fewF_low (by omega)).trans (congrArg (upF · (oneF (ul.getD i 0))) (posF_ge hm))))
                rw [hn] at hu
                obtain ⟨x, hx⟩ : ∃ x, ul.getD i 0 = x := ⟨_, rfl⟩
                rw [hx] at hc2 HE0
                clear HF HSQ hx hn hu0 HUS
                by_cases h11 : 1 ≤ x
                · have HE := Lib.hid (HE0.out.trans (congrArg (upF many) (oneF_ge h11)))
                  clear HE0
                  go_wp2_with (first
                    | (go_at_call 47; (with_reducible refine (HP.out _).mono ?_); rintro e w1 ⟨rfl, hb1⟩; have g0 := (hb1.cell (p := ⟨qb, qo, none⟩) hql).trans h0; have g1 := (hb1.cell (p := ⟨qb, qo + 1, none⟩) hql).trans h1; have g2 := (hb1.cell (p := ⟨qb, qo + 2, none⟩) hql).trans hu; have g3 := (hb1.cell (p := ⟨qb2, qo2, none⟩) hql2).trans hc2))
                  go_quiet (fail)
                  go_wp2_with (first
                    | (go_at_call 48; (with_reducible refine (rup_any _ _ _ (by omega) (by omega) (by first | omega | exact HHM.out)).mono ?_); rintro e w2 ⟨rfl, rfl⟩))
                  go_roundw
                  case rel => exact ⟨(k : Int) - 1, by omega, by omega, rfl, by rw [show ((k : Int) - 1 + 1).toNat = k by omega, HE.out], below_drewN' (hB.trans (hb1.mono hB.size)) _⟩
                  case measure => simp [intOf] <;> omega
                · have HE := Lib.hid (HE0.out.trans (congrArg (upF many) (oneF_lt (by omega))))
                  clear HE0
                  go_wp2_with (first
                    | (go_at_call 47; (with_reducible refine (HP.out _).mono ?_); rintro e w1 ⟨rfl, hb1⟩; have g0 := (hb1.cell (p := ⟨qb, qo, none⟩) hql).trans h0; have g1 := (hb1.cell (p := ⟨qb, qo + 1, none⟩) hql).trans h1; have g2 := (hb1.cell (p := ⟨qb, qo + 2, none⟩) hql).trans hu; have g3 := (hb1.cell (p := ⟨qb2, qo2, none⟩) hql2).trans hc2))
                  go_quiet (fail)
                  go_wp2_with (first
                    | (go_at_call 48; (with_reducible refine (rup_any _ _ _ (by omega) (by omega) (by first | omega | exact HHM.out)).mono ?_); rintro e w2 ⟨rfl, rfl⟩))
                  go_roundw
                  case rel => exact ⟨(k : Int) - 1, by omega, by omega, rfl, by rw [show ((k : Int) - 1 + 1).toNat = k by omega, HE.out], below_drewN' (hB.trans (hb1.mono hB.size)) _⟩
                  case measure => simp [intOf] <;> omega
              · have hin : n < ul.length := by omega
                obtain ⟨a2, qb2, qo2, rfl, hq2, hql2, hc2⟩ := seq_int HSQ.out (i := n) (by omega)
                have HE0 := Lib.hid (HF.out.trans ((fewF_high h00 hn hlt).trans (congrArg (upF · (oneF (ul.getD n 0))) (posF_ge hm))))
                rw [hn] at hu
                obtain ⟨x, hx⟩ : ∃ x, ul.getD n 0 = x := ⟨_, rfl⟩
                rw [hx] at hc2 HE0
                clear HF HSQ hx hn hu0 HUS hin
                by_cases h11 : 1 ≤ x
                · have HE := Lib.hid (HE0.out.trans (congrArg (upF many) (oneF_ge h11)))
                  clear HE0
                  go_wp2_with (first
                    | (go_at_call 47; (with_reducible refine (HP.out _).mono ?_); rintro e w1 ⟨rfl, hb1⟩; have g0 := (hb1.cell (p := ⟨qb, qo, none⟩) hql).trans h0; have g1 := (hb1.cell (p := ⟨qb, qo + 1, none⟩) hql).trans h1; have g2 := (hb1.cell (p := ⟨qb, qo + 2, none⟩) hql).trans hu; have g3 := (hb1.cell (p := ⟨qb2, qo2, none⟩) hql2).trans hc2))
                  go_quiet (fail)
                  go_wp2_with (first
                    | (go_at_call 48; (with_reducible refine (rup_any _ _ _ (by omega) (by omega) (by first | omega | exact HHM.out)).mono ?_); rintro e w2 ⟨rfl, rfl⟩))
                  go_roundw
                  case rel => exact ⟨(k : Int) - 1, by omega, by omega, rfl, by rw [show ((k : Int) - 1 + 1).toNat = k by omega, HE.out], below_drewN' (hB.trans (hb1.mono hB.size)) _⟩
                  case measure => simp [intOf] <;> omega
                · have HE := Lib.hid (HE0.out.trans (congrArg (upF many) (oneF_lt (by omega))))
                  clear HE0
                  go_wp2_with (first
                    | (go_at_call 47; (with_reducible refine (HP.out _).mono ?_); rintro e w1 ⟨rfl, hb1⟩; have g0 := (hb1.cell (p := ⟨qb, qo, none⟩) hql).trans h0; have g1 := (hb1.cell (p := ⟨qb, qo + 1, none⟩) hql).trans h1; have g2 := (hb1.cell (p := ⟨qb, qo + 2, none⟩) hql).trans hu; have g3 := (hb1.cell (p := ⟨qb2, qo2, none⟩) hql2).trans hc2))
                  go_quiet (fail)
                  go_wp2_with (first
                    | (go_at_call 48; (with_reducible refine (rup_any _ _ _ (by omega) (by omega) (by first | omega | exact HHM.out)).mono ?_); rintro e w2 ⟨rfl, rfl⟩))
                  go_roundw
                  case rel => exact ⟨(k : Int) - 1, by omega, by omega, rfl, by rw [show ((k : Int) - 1 + 1).toNat = k by omega, HE.out], below_drewN' (hB.trans (hb1.mono hB.size)) _⟩
                  case measure => simp [intOf] <;> omega
          · have h00 : ¬ eq ≤ 0 := by omega
            by_cases hu0 : ul.length = 0
            · have HE := Lib.hid (HF.out.trans ((fewF_none h00 hu0).trans (congrArg (upF · 10) (posF_neg (by omega)))))
              rw [hu0] at hu
              clear HF HSQ hu0
              go_wp2_with (first
                | (go_at_call 47; (with_reducible refine (HP.out _).mono ?_); rintro e w1 ⟨rfl, hb1⟩; have g0 := (hb1.cell (p := ⟨qb, qo, none⟩) hql).trans h0; have g1 := (hb1.cell (p := ⟨qb, qo + 1, none⟩) hql).trans h1; have g2 := (hb1.cell (p := ⟨qb, qo + 2, none⟩) hql).trans hu)
                | (go_at_call 48; (with_reducible refine (rup_any _ _ _ (by omega) (by omega) (by first | omega | exact HHM.out)).mono ?_); rintro e w2 ⟨rfl, rfl⟩))
              go_roundw
              case rel => exact ⟨(k : Int) - 1, by omega, by omega, rfl, by rw [show ((k : Int) - 1 + 1).toNat = k by omega, HE.out], hB.trans (hb1.mono hB.size)⟩
              case measure => simp [intOf] <;> omega
            · obtain ⟨n, hn⟩ : ∃ n, ul.length = n + 1 := ⟨ul.length - 1, by omega⟩
              have hnb : n + 1 ≤ maxLen := by have := HUS.out; rw [← hn]; exact this
              unfold maxLen at hnb
              by_cases hlt : eq ≤ (n : Int) + 1
              · obtain ⟨i, rfl⟩ : ∃ i : Nat, eq = (i : Int) + 1 := ⟨(eq - 1).toNat, by omega⟩
                obtain ⟨a2, qb2, qo2, rfl, hq2, hql2, hc2⟩ := seq_int HSQ.out (i := i) (by omega)
                have HE0 := Lib.hid (HF.out.trans ((fewF_low (by omega)).trans (congrArg (upF · (oneF (ul.getD i 0))) (posF_neg (by omega)))))
                rw [hn] at hu
                obtain ⟨x, hx⟩ : ∃ x, ul.getD i 0 = x := ⟨_, rfl⟩
                rw [hx] at hc2 HE0
                clear HF HSQ hx hn hu0 HUS
                by_cases h11 : 1 ≤ x
                · have HE := Lib.hid (HE0.out.trans (congrArg (upF 0) (oneF_ge h11)))
                  clear HE0
                  go_wp2_with (first
                    | (go_at_call 47; (with_reducible refine (HP.out _).mono ?_); rintro e w1 ⟨rfl, hb1⟩; have g0 := (hb1.cell (p := ⟨qb, qo, none⟩) hql).trans h0; have g1 := (hb1.cell (p := ⟨qb, qo + 1, none⟩) hql).trans h1; have g2 := (hb1.cell (p := ⟨qb, qo + 2, none⟩) hql).trans hu; have g3 := (hb1.cell (p := ⟨qb2, qo2, none⟩) hql2).trans hc2))
                  go_quiet (fail)
                  go_wp2_with (first
                    | (go_at_call 48; (with_reducible refine (rup_any _ _ _ (by omega) (by omega) (by first | omega | exact HHM.out)).mono ?_); rintro e w2 ⟨rfl, rfl⟩))
                  go_roundw
                  case rel => exact ⟨(k : Int) - 1, by omega, by omega, rfl, by rw [show ((k : Int) - 1 + 1).toNat = k by omega, HE.out], below_drewN' (hB.trans (hb1.mono hB.size)) _⟩
                  case measure => simp [intOf] <;> omega
                · have HE := Lib.hid (HE0.out.trans (congrArg (upF 0) (oneF_lt (by omega))))
                  clear HE0
                  go_wp2_with (first
                    | (go_at_call 47; (with_reducible refine (HP.out _).mono ?_); rintro e w1 ⟨rfl, hb1⟩; have g0 := (hb1.cell (p := ⟨qb, qo, none⟩) hql).trans h0; have g1 := (hb1.cell (p := ⟨qb, qo + 1, none⟩) hql).trans h1; have g2 := (hb1.cell (p := ⟨qb, qo + 2, none⟩) hql).trans hu; have g3 := (hb1.cell (p := ⟨qb2, qo2, none⟩) hql2).trans hc2))
                  go_quiet (fail)
                  go_wp2_with (first
                    | (go_at_call 48; (with_reducible refine (rup_any _ _ _ (by omega) (by omega) (by first | omega | exact HHM.out)).mono ?_); rintro e w2 ⟨rfl, rfl⟩))
                  go_roundw
                  case rel => exact ⟨(k : Int) - 1, by omega, by omega, rfl, by rw [show ((k : Int) - 1 + 1).toNat = k by omega, HE.out], below_drewN' (hB.trans (hb1.mono hB.size)) _⟩
                  case measure => simp [intOf] <;> omega
              · have hin : n < ul.length := by omega
                obtain ⟨a2, qb2, qo2, rfl, hq2, hql2, hc2⟩ := seq_int HSQ.out (i := n) (by omega)
                have HE0 := Lib.hid (HF.out.trans ((fewF_high h00 hn hlt).trans (congrArg (upF · (oneF (ul.getD n 0))) (posF_neg (by omega)))))
                rw [hn] at hu
                obtain ⟨x, hx⟩ : ∃ x, ul.getD n 0 = x := ⟨_, rfl⟩
                rw [hx] at hc2 HE0
                clear HF HSQ hx hn hu0 HUS hin
                by_cases h11 : 1 ≤ x
                · have HE := Lib.hid (HE0.out.trans (congrArg (upF 0) (oneF_ge h11)))
                  clear HE0
                  go_wp2_with (first
                    | (go_at_call 47; (with_reducible refine (HP.out _).mono ?_); rintro e w1 ⟨rfl, hb1⟩; have g0 := (hb1.cell (p := ⟨qb, qo, none⟩) hql).trans h0; have g1 := (hb1.cell (p := ⟨qb, qo + 1, none⟩) hql).trans h1; have g2 := (hb1.cell (p := ⟨qb, qo + 2, none⟩) hql).trans hu; have g3 := (hb1.cell (p := ⟨qb2, qo2, none⟩) hql2).trans hc2))
                  go_quiet (fail)
                  go_wp2_with (first
                    | (go_at_call 48; (with_reducible refine (rup_any _ _ _ (by omega) (by omega) (by first | omega | exact HHM.out)).mono ?_); rintro e w2 ⟨rfl, rfl⟩))
                  go_roundw
                  case rel => exact ⟨(k : Int) - 1, by omega, by omega, rfl, by rw [show ((k : Int) - 1 + 1).toNat = k by omega, HE.out], below_drewN' (hB.trans (hb1.mono hB.size)) _⟩
                  case measure => simp [intOf] <;> omega
                · have HE := Lib.hid (HE0.out.trans (congrArg (upF 0) (oneF_lt (by omega))))
                  clear HE0
                  go_wp2_with (first
                    | (go_at_call 47; (with_reducible refine (HP.out _).mono ?_); rintro e w1 ⟨rfl, hb1⟩; have g0 := (hb1.cell (p := ⟨qb, qo, none⟩) hql).trans h0; have g1 := (hb1.cell (p := ⟨qb, qo + 1, none⟩) hql).trans h1; have g2 := (hb1.cell (p := ⟨qb, qo + 2, none⟩) hql).trans hu; have g3 := (hb1.cell (p := ⟨qb2, qo2, none⟩) hql2).trans hc2))
                  go_quiet (fail)
                  go_wp2_with (first
                    | (go_at_call 48; (with_reducible refine (rup_any _ _ _ (by omega) (by omega) (by first | omega | exact HHM.out)).mono ?_); rintro e w2 ⟨rfl, rfl⟩))
                  go_roundw
                  case rel => exact ⟨(k : Int) - 1, by omega, by omega, rfl, by rw [show ((k : Int) - 1 + 1).toNat = k by omega, HE.out], below_drewN' (hB.trans (hb1.mono hB.size)) _⟩
                  case measure => simp [intOf] <;> omega
      · obtain rfl : j = -1 := by omega
        have HS := Lib.hid (suffF_zero l name eq)
        rw [show ((-1 : Int) + 1).toNat = 0 from rfl]
        have h0 := suffF_nonneg l name eq 0
        have H0 := Lib.hid h0
        clear h0
        cases ranged
        · have HE := Lib.hid (show guessF l name eq false = suffF l name eq 0 from HS.out.symm)
          go_wp2_with fail
          go_ret
          exact ⟨ret_int HE.out, hB⟩
        · have HE := Lib.hid (show guessF l name eq true = upF (suffF l name eq 0) 4 from congrArg (upF · 4) HS.out.symm)
          go_wp2_with (first
            | (go_at_call 48; (with_reducible refine (rup_any _ _ _ H0.out (by omega) HUP.out).mono ?_); rintro e w2 ⟨rfl, rfl⟩))
          go_ret
          exact ⟨ret_int HE.out, hB⟩

  · have HI := Lib.hid (suffF_all l name eq)
    rw [if_neg he0] at HI
    go_enter Try.func24, Try.ntmps24
    go_wp2_with fail
    go_loopw [9, 10] (fun n i wr => ∃ j : Int, -1 ≤ j ∧ j < l.length ∧ i = .int .i64 j ∧ n = .int .i64 (suffF l name eq (j + 1).toNat) ∧ Below w.heap.size w wr) (fun _ i _ => (intOf i + 1).toNat)
    case atStart => exact ⟨(l.length : Int) - 1, by omega, by omega, rfl, by rw [show ((l.length : Int) - 1 + 1).toNat = l.length by omega, HI.out], Below.refl _ _⟩
    case round =>
      obtain ⟨j, hj1, hj2, rfl, rfl, hB⟩ := hrel
      clear HI
      by_cases hj0 : 0 ≤ j
      · obtain ⟨k, rfl⟩ : ∃ k : Nat, j = k := ⟨j.toNat, by omega⟩
        have hk : k < l.length := by omega
        obtain ⟨a, qb, qo, s, rfl, hq, hql, hsk, hE⟩ := (HL.out.below StatE.stays hB).get k hk
        obtain ⟨v, hu, A2, c2, rfl, hsq⟩ := hE.unlike
        have h0 := hE.name
        have h1 := hE.many
        have HSZ := Lib.hid hE.sz
        have HHM := Lib.hid hE.mb
        have HUS := Lib.hid (HU.out s (List.mem_of_getElem? hsk))
        have HHit := Lib.hid (fun h => suffF_hit (name := name) (eq := eq) hsk h)
        have HMiss := Lib.hid (fun h => suffF_miss (name := name) (eq := eq) hsk h)
        have HSQ := Lib.hid hsq
        clear hE hsk hsq
        obtain ⟨nm, many, ul⟩ := s
        simp only at h0 h1 hu HSZ HHM HUS HHit HMiss HSQ
        obtain ⟨b, hb⟩ : ∃ b, sameB nm name = b := ⟨_, rfl⟩
        rw [hb] at HHit HMiss
        have HP := Lib.hid (fun W => rsameN_any nm name W HSZ.out HZ.out)
        rw [hb] at HP
        clear hb
        cases b
        · have HE := Lib.hid (HMiss.out rfl)
          rw [show ((k : Int) + 1).toNat = k + 1 by omega]
          clear HHit HMiss HSQ HUS HHM
          go_wp2_with (first
            | (go_at_call 47; (with_reducible refine (HP.out _).mono ?_); rintro e w1 ⟨rfl, hb1⟩))
          go_roundw
          case rel => exact ⟨(k : Int) - 1, by omega, by omega, rfl, by rw [show ((k : Int) - 1 + 1).toNat = k by omega, HE.out], hB.trans (hb1.mono hB.size)⟩
          case measure => simp [intOf] <;> omega
        · have HF := Lib.hid (HHit.out rfl)
          rw [show ((k : Int) + 1).toNat = k + 1 by omega]
          generalize suffF l name eq (k + 1) = oldn
          clear HHit HMiss
          by_cases hm : 0 ≤ many
          · have h00 : eq ≤ 0 := by omega
            have HE := Lib.hid (HF.out.trans ((fewF_all h00).trans (posF_ge hm)))
            clear HF HSQ
            go_wp2_with (first
              | (go_at_call 47; (with_reducible refine (HP.out _).mono ?_); rintro e w1 ⟨rfl, hb1⟩; have g0 := (hb1.cell (p := ⟨qb, qo, none⟩) hql).trans h0; have g1 := (hb1.cell (p := ⟨qb, qo + 1, none⟩) hql).trans h1; have g2 := (hb1.cell (p := ⟨qb, qo + 2, none⟩) hql).trans hu)
              | (go_at_call 48; (with_reducible refine (rup_any _ _ _ (by omega) (by omega) (by first | omega | exact HHM.out)).mono ?_); rintro e w2 ⟨rfl, rfl⟩))
            go_roundw
            case rel => exact ⟨(k : Int) - 1, by omega, by omega, rfl, by rw [show ((k : Int) - 1 + 1).toNat = k by omega, HE.out], hB.trans (hb1.mono hB.size)⟩
            case measure => simp [intOf] <;> omega
          · have h00 : eq ≤ 0 := by omega
            have HE := Lib.hid (HF.out.trans ((fewF_all h00).trans (posF_neg (by omega))))
            clear HF HSQ
            go_wp2_with (first
              | (go_at_call 47; (with_reducible refine (HP.out _).mono ?_); rintro e w1 ⟨rfl, hb1⟩; have g0 := (hb1.cell (p := ⟨qb, qo, none⟩) hql).trans h0; have g1 := (hb1.cell (p := ⟨qb, qo + 1, none⟩) hql).trans h1; have g2 := (hb1.cell (p := ⟨qb, qo + 2, none⟩) hql).trans hu)
              | (go_at_call 48; (with_reducible refine (rup_any _ _ _ (by omega) (by omega) (by first | omega | exact HHM.out)).mono ?_); rintro e w2 ⟨rfl, rfl⟩))
            go_roundw
            case rel => exact ⟨(k : Int) - 1, by omega, by omega, rfl, by rw [show ((k : Int) - 1 + 1).toNat = k by omega, HE.out], hB.trans (hb1.mono hB.size)⟩
            case measure => simp [intOf] <;> omega
      · obtain rfl : j = -1 := by omega
        have HS := Lib.hid (suffF_zero l name eq)
        rw [show ((-1 : Int) + 1).toNat = 0 from rfl]
        have h0 := suffF_nonneg l name eq 0
        have H0 := Lib.hid h0
        clear h0
        cases ranged
        · have HE := Lib.hid (show guessF l name eq false = suffF l name eq 0 from HS.out.symm)
          go_wp2_with fail
          go_ret
          exact ⟨ret_int HE.out, hB⟩
        · have HE := Lib.hid (show guessF l name eq true = upF (suffF l name eq 0) 4 from congrArg (upF · 4) HS.out.symm)
          go_wp2_with (first
            | (go_at_call 48; (with_reducible refine (rup_any _ _ _ H0.out (by omega) HUP.out).mono ?_); rintro e w2 ⟨rfl, rfl⟩))
          go_ret
          exact ⟨ret_int HE.out, hB⟩

end Go.Proofs.Ytpalbdjcfhlniaa
