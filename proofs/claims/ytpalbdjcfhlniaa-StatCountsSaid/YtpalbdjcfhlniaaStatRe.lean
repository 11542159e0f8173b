/- The walk over the law of rows. -/
import Derived.Test.YtpalbdjcfhlniaaStatRc
import Derived.Test.YtpalbdjcfhlniaaStatW
namespace Go.Proofs.Ytpalbdjcfhlniaa
open Go.RowKit Go.ChangeShapes Go.WideShapes Go.ChangeAt Go.Deep

theorem vlB_refl (v : Vl) : vlB v v = true := by unfold vlB; rw [beq_self_eq_true, beq_self_eq_true, beq_self_eq_true]; rfl
theorem allB_refl {α : Type} {p : α → α → Bool} (h : ∀ x, p x x = true) (l : List α) : allB p l l = true := allB_true rfl (fun j x y hx hy => by rw [hx] at hy; injection hy with hy; subst hy; exact h x)
theorem rowsB_refl (l : List (List Vl)) : allB (allB vlB) l l = true := allB_refl (allB_refl vlB_refl) l
theorem statsB_refl (l : List St) : statsB l l = true := rowsB_refl _

theorem headSt_rowF (s : St) : headSt (rowF s) = s := by
  obtain ⟨nm, many, ul⟩ := s
  unfold headSt rowF
  simp only [List.getD_cons_zero, List.getD_cons_succ, List.drop_succ_cons, List.drop_zero, List.map_map]
  congr 1
  exact (List.map_congr_left (fun _ _ => rfl)).trans (List.map_id ul)
theorem readB_rowF (s : St) : readB (rowF s) = mayF s := by
  unfold readB
  rw [← readB_ref (by simp [rowF]), headSt_rowF, allB_refl vlB_refl, Bool.true_and]
theorem readsB_rowsF (l : List St) : readsB (rowsF l) = l.all mayF := by
  unfold readsB rowsF
  rw [List.all_map]
  congr 1
  funext s
  exact readB_rowF s
theorem heads_rowsF (l : List St) : (rowsF l).map headSt = l := by
  unfold rowsF
  rw [List.map_map]
  exact (List.map_congr_left (fun s _ => headSt_rowF s)).trans (List.map_id l)
theorem rowsF_fit {l : List St} (hm : l.length ≤ 1000) (hu : ∀ s ∈ l, s.unlike.length ≤ 60) (hk : ∀ s ∈ l, StOk s) : RowsFit (rowsF l) := by
  refine ⟨by simp [rowsF]; omega, fun r hr => ?_⟩
  obtain ⟨s, hs, rfl⟩ := List.mem_map.1 hr
  obtain ⟨k1, k2, k3, k4⟩ := hk s hs
  refine ⟨by rw [rowF_length]; have := hu s hs; omega, fun v hv => ?_⟩
  simp only [rowF, List.mem_cons, List.mem_map] at hv
  rcases hv with rfl | rfl | ⟨n, hn, rfl⟩
  · exact ⟨by show (0 : Int) ≤ _; omega, k1⟩
  · exact ⟨k2.2, Nat.zero_le _⟩
  · exact ⟨(k4 n hn).2, Nat.zero_le _⟩

/-- The document's May of a statistic at hand. -/
theorem may_doc {s : St} {A : Option Addr} {c : Nat} {w : World} (h : SeqAt IntE 1 w A s.unlike) (hk : StOk s) :
    Calls Try.prog 29 #[.agg #[.string s.name, .int .i64 s.many, .slice A s.unlike.length c]] w fun e w' => e = .returned (.bool (mayF s)) ∧ Below w.heap.size w w' := rmay_any s.name s.many s.unlike A c w h hk.2.2.1 hk.1

/-- May the first k be? -/
def allTo (l : List St) (k : Nat) : Bool := (l.take k).all mayF
theorem allTo_zero (l : List St) : allTo l 0 = true := by simp [allTo]
theorem allTo_all (l : List St) : allTo l l.length = l.all mayF := by simp [allTo]
theorem allTo_succ {l : List St} {k : Nat} {s : St} (hs : l[k]? = some s) : allTo l (k + 1) = (allTo l k && mayF s) := by
  unfold allTo
  rw [List.take_add_one, hs]
  simp

set_option maxHeartbeats 4000000 in
set_option maxRecDepth 100000 in
theorem lrows_any (A : Option Addr) (c : Nat) (l : List St) (w : World) (hl : SeqAt StatE 3 w A l) (hm : l.length ≤ maxLen) (hk : ∀ s ∈ l, StOk s) :
    Calls Try.prog 10 #[.slice A l.length c] w fun e w' => e = .returned (.bool true) ∧ Below w.heap.size w w' := by
  have HL := Lib.hid hl
  have HK := Lib.hid hk
  clear hl hk
  unfold maxLen at hm
  by_cases h1 : 20 < l.length
  · go_enter Try.func10, Try.ntmps10
    go_wp2_with (first
      | (go_at_call 22; (with_reducible refine (live_any _).mono ?_); rintro e w1 ⟨rfl, hb1⟩))
    go_ret
    exact ⟨rfl, hb1⟩
  · go_enter Try.func10, Try.ntmps10
    go_wp2_with fail
    go_loopw [3, 4] (fun al i wr => ∃ k : Nat, k ≤ l.length ∧ i = .int .i64 k ∧ al = .bool (allTo l k) ∧ Below w.heap.size w wr ∧ Hid (∀ j s, j < k → l[j]? = some s → s.unlike.length ≤ 60)) (fun _ i _ => l.length - (intOf i).toNat)
    case atStart => exact ⟨0, Nat.zero_le _, rfl, by rw [allTo_zero], Below.refl _ _, fun j s h => by omega⟩
    case round =>
      obtain ⟨k, hk, rfl, rfl, hB, H60⟩ := hrel
      have hBs := hB.size
      by_cases hlt : k < l.length
      · obtain ⟨a, qb, qo, s, rfl, hq, hql, hsk, hE⟩ := (HL.out.below StatE.stays hB).get k hlt
        obtain ⟨v, hu, A2, c2, rfl, hsq⟩ := hE.unlike
        have hst := HK.out s (List.mem_of_getElem? hsk)
        have h0 := hE.name
        have h1' := hE.many
        have HSK := Lib.hid hsk
        have HMC := Lib.hid (may_doc (s := s) (c := c2) hsq hst)
        have HAS := Lib.hid (allTo_succ hsk)
        clear hE hsq hsk hst
        obtain ⟨n, hn⟩ : ∃ n, s.unlike.length = n := ⟨_, rfl⟩
        obtain ⟨nm, hnm⟩ : ∃ n, s.name = n := ⟨_, rfl⟩
        obtain ⟨many, hmany⟩ : ∃ n, s.many = n := ⟨_, rfl⟩
        rw [hn] at hu HMC
        rw [hnm] at h0 HMC
        rw [hmany] at h1' HMC
        have HN := Lib.hid hn
        clear hn hnm hmany
        by_cases g1 : 60 < n
        · clear HAS HMC
          go_wp2_with (first
            | (go_at_call 22; (with_reducible refine (live_any _).mono ?_); rintro e w1 ⟨rfl, hb1⟩))
          go_ret
          exact ⟨rfl, hB.trans (hb1.mono hBs)⟩
        · have H60' : Hid (∀ j s, j < k + 1 → l[j]? = some s → s.unlike.length ≤ 60) := fun j t hj ht => by
            by_cases hjk : j < k
            · exact H60.out j t hjk ht
            · obtain rfl : j = k := by omega
              have := HSK.out
              rw [this] at ht
              injection ht with ht
              subst ht
              rw [HN.out]; omega
          obtain ⟨ab, hab⟩ : ∃ b, allTo l k = b := ⟨_, rfl⟩
          rw [hab] at HAS ⊢
          clear hab
          cases ab
          · have HF := Lib.hid (HAS.out.trans (Bool.false_and _))
            clear HAS HMC
            go_wp2_with fail
            go_roundw
            case rel => exact ⟨k + 1, by omega, by go_num, by rw [HF.out], hB, H60'⟩
            case measure => simp [intOf]; omega
          · have HF := Lib.hid (HAS.out.trans (Bool.true_and _))
            clear HAS
            obtain ⟨mb, hmb⟩ : ∃ b, mayF s = b := ⟨_, rfl⟩
            rw [hmb] at HMC HF
            clear hmb
            go_wp2_with (first
              | (go_at_call 29; (with_reducible refine HMC.out.mono ?_); rintro e w1 ⟨rfl, hb1⟩))
            go_roundw
            case rel => exact ⟨k + 1, by omega, by go_num, by rw [HF.out], hB.trans (hb1.mono hBs), H60'⟩
            case measure => simp [intOf]; omega
      · obtain rfl : k = l.length := by omega
        have hu60 : ∀ s ∈ l, s.unlike.length ≤ 60 := fun s hs => by
          obtain ⟨j, hj⟩ := List.getElem?_of_mem hs
          exact H60.out j s (List.getElem?_eq_some_iff.1 hj).1 hj
        have hu100 : ∀ s ∈ l, s.unlike.length ≤ 100 := fun s hs => Nat.le_trans (hu60 s hs) (by omega)
        have HFIT := Lib.hid (rowsF_fit (by omega) hu60 HK.out)
        have HU := Lib.hid hu100
        have SQ := Lib.hid (HL.out.below StatE.stays hB)
        have hl100 : l.length ≤ 100 := by omega
        have HL100 := Lib.hid hl100
        have HSM : Hid (∀ (W : World) (A1 A2 : Option Addr) (c1 c2 : Nat), SeqAt RowC 1 W A1 (rowsF l) → SeqAt RowE 1 W A2 (rowsF l) → Calls Try.prog 32 #[.slice A1 (rowsF l).length c1, .slice A2 (rowsF l).length c2] W fun e w' => e = .returned (.bool true) ∧ Below W.heap.size W w') := fun W A1 A2 c1 c2 h1 h2 => by
          refine (sameRows_any A1 A2 c1 c2 (rowsF l) (rowsF l) W (seq_rows h1) h2 ?_ ?_ ?_).mono ?_
          · exact Nat.le_trans HFIT.out.1 (by unfold maxLen; omega)
          · exact fun r hr => Nat.le_trans (HFIT.out.2 r hr).1 (by unfold maxLen; omega)
          · exact fun r hr => Nat.le_trans (HFIT.out.2 r hr).1 (by unfold maxLen; omega)
          · rintro e w' ⟨he, n, rfl⟩
            exact ⟨by rw [he, rowsB_refl], below_n (Below.refl _ _) _⟩
        rw [allTo_all]
        obtain ⟨mb, hmb⟩ : ∃ b, l.all mayF = b := ⟨_, rfl⟩
        have HB0 := Lib.hid hB
        have HRD : Hid (∀ (W : World) (A1 : Option Addr) (c1 : Nat), SeqAt RowC 1 W A1 (rowsF l) → Calls Try.prog 30 #[.slice A1 (rowsF l).length c1] W (ReadsOut W (rowsF l) 0)) := fun W A1 c1 h => sread_any (rowsF l) A1 c1 W h HFIT.out
        have HRB := Lib.hid (readsB_rowsF l)
        rw [hmb] at HRB ⊢
        clear hmb hu60 hu100
        cases mb
        · have HRD' : Hid (∀ (W : World) (A1 : Option Addr) (c1 : Nat), SeqAt RowC 1 W A1 (rowsF l) → Calls Try.prog 30 #[.slice A1 (rowsF l).length c1] W fun e w' => e = .returned (.tuple #[.slice none 0 0, .int .i64 8]) ∧ Below W.heap.size W w') := fun W A1 c1 h => (HRD.out W A1 c1 h).mono fun e w' ⟨hb, hc⟩ => by
            rcases hc with ⟨_, he⟩ | ⟨h1, _⟩
            · exact ⟨he, hb⟩
            · rw [HRB.out] at h1; cases h1
          go_wp2_with (first
            | (go_at_call 31; (with_reducible refine (rows_anyC A c l _ SQ.out HL100.out HU.out).mono ?_); rintro e w1 ⟨A1, c1, rfl, hs1, hb1⟩; have sq1 := SQ.out.below StatE.stays hb1)
            | (go_at_call 33; (with_reducible refine (rrows_any A c l _ sq1 HL100.out HU.out).mono ?_); rintro e w2 ⟨A2, c2, rfl, hs2, hb2⟩; have hs1' := hs1.below RowC.stays hb2)
            | (go_at_call 32; (with_reducible refine (HSM.out _ _ _ _ _ hs1' hs2).mono ?_); rintro e w3 ⟨rfl, hb3⟩; have hs3 := hs1'.below RowC.stays hb3)
            | (go_at_call 30; (with_reducible refine (HRD'.out _ _ _ hs3).mono ?_); rintro e w4 ⟨rfl, hb4⟩)
            | (go_at_call 22; (with_reducible refine (live_any _).mono ?_); rintro e w5 ⟨rfl, hb5⟩))
          go_ret
          exact ⟨rfl, HB0.out.trans ((hb1.trans ((hb2.trans ((hb3.trans ((hb4.trans (hb5.mono hb4.size)).mono hb3.size)).mono hb2.size)).mono hb1.size)).mono HB0.out.size)⟩
        · have HRD' : Hid (∀ (W : World) (A1 : Option Addr) (c1 : Nat), SeqAt RowC 1 W A1 (rowsF l) → Calls Try.prog 30 #[.slice A1 (rowsF l).length c1] W fun e w' => ∃ A3 c3, e = .returned (.tuple #[.slice A3 l.length c3, .int .i64 0]) ∧ SeqAt StatE 3 w' A3 l ∧ Below W.heap.size W w') := fun W A1 c1 h => (HRD.out W A1 c1 h).mono fun e w' ⟨hb, hc⟩ => by
            rcases hc with ⟨h1, _⟩ | ⟨_, A3, c3, he, hs⟩
            · rw [HRB.out] at h1; cases h1
            · rw [heads_rowsF] at he hs
              exact ⟨A3, c3, he, hs, hb⟩
          have HSS : Hid (∀ (W : World) (A3 : Option Addr) (c3 : Nat), SeqAt StatE 3 W A l → SeqAt StatE 3 W A3 l → Calls Try.prog 27 #[.slice A l.length c, .slice A3 l.length c3] W fun e w' => e = .returned (.bool true) ∧ Below W.heap.size W w') := fun W A3 c3 h1 h2 =>
            (rsameS_any A A3 c c3 l l W h1 h2 HL100.out HL100.out HU.out HU.out).mono fun e w' ⟨he, hb⟩ => ⟨by rw [he, statsB_refl], hb⟩
          go_wp2_with (first
            | (go_at_call 31; (with_reducible refine (rows_anyC A c l _ SQ.out HL100.out HU.out).mono ?_); rintro e w1 ⟨A1, c1, rfl, hs1, hb1⟩; have sq1 := SQ.out.below StatE.stays hb1)
            | (go_at_call 33; (with_reducible refine (rrows_any A c l _ sq1 HL100.out HU.out).mono ?_); rintro e w2 ⟨A2, c2, rfl, hs2, hb2⟩; have hs1' := hs1.below RowC.stays hb2; have sq2 := sq1.below StatE.stays hb2)
            | (go_at_call 32; (with_reducible refine (HSM.out _ _ _ _ _ hs1' hs2).mono ?_); rintro e w3 ⟨rfl, hb3⟩; have hs3 := hs1'.below RowC.stays hb3; have sq3 := sq2.below StatE.stays hb3)
            | (go_at_call 30; (with_reducible refine (HRD'.out _ _ _ hs3).mono ?_); rintro e w4 ⟨A3, c3, rfl, hm4, hb4⟩; have sq4 := sq3.below StatE.stays hb4)
            | (go_at_call 22; (with_reducible refine (live_any _).mono ?_); rintro e w5 ⟨rfl, hb5⟩; have sq5 := sq4.below StatE.stays hb5; have hm5 := hm4.below StatE.stays hb5)
            | (go_at_call 27; (with_reducible refine (HSS.out _ _ _ sq5 hm5).mono ?_); rintro e w6 ⟨rfl, hb6⟩))
          go_ret
          exact ⟨rfl, HB0.out.trans ((hb1.trans ((hb2.trans ((hb3.trans ((hb4.trans ((hb5.trans (hb6.mono hb5.size)).mono hb4.size)).mono hb3.size)).mono hb2.size)).mono hb1.size)).mono HB0.out.size)⟩

end Go.Proofs.Ytpalbdjcfhlniaa
