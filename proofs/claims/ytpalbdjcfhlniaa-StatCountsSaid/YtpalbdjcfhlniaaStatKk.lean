/- The walk over the law of counts. -/
import Derived.Test.YtpalbdjcfhlniaaStatKj
import Derived.Test.YtpalbdjcfhlniaaStatRe
import Derived.Test.YtpalbdjcfhlniaaStatLc
import Derived.Test.YtpalbdjcfhlniaaStatY
namespace Go.Proofs.Ytpalbdjcfhlniaa
open Go.RowKit

theorem chain_ok (many : Int) : ∀ (l : List Int) (last : Int), (∀ x ∈ l, last ≤ x ∧ x ≤ many) → l.Pairwise (· ≤ ·) → chainB many last l = true
  | [], _, _, _ => rfl
  | x :: l, last, h, hp => by
    have h1 := h x (List.mem_cons_self ..)
    have h2 := List.pairwise_cons.1 hp
    unfold chainB
    rw [decide_eq_true h1.1, decide_eq_true h1.2, chain_ok many l x (fun y hy => ⟨h2.1 y hy, (h y (List.mem_cons_of_mem _ hy)).2⟩) h2.2]
    rfl
theorem good_le {s : St} (h : GoodSt s) : ∀ x ∈ s.unlike, x ≤ s.many := fun x hx => by
  obtain ⟨i, hi⟩ := List.getElem?_of_mem hx
  have hl := (List.getElem?_eq_some_iff.1 hi).1
  have := h.mono i (s.unlike.length - 1) (by omega) (by omega)
  rw [h.last, List.getD_eq_getElem?_getD, hi] at this
  exact this
theorem good_may {s : St} (h : GoodSt s) (h1 : 1 ≤ s.name.size) (h2 : s.name.size ≤ 32) (h3 : s.unlike.length ≤ 33) (h4 : ∀ x ∈ s.unlike, 0 ≤ x) : mayF s = true := by
  rw [mayF_yes ⟨h1, h2, h.nn, h3⟩]
  refine chain_ok s.many s.unlike 0 (fun x hx => ⟨h4 x hx, good_le h x hx⟩) ?_
  rw [List.pairwise_iff_getElem]
  intro i j hi hj hij
  have := h.mono i j (by omega) hj
  rwa [List.getD_eq_getElem?_getD, List.getD_eq_getElem?_getD, List.getElem?_eq_getElem hi, List.getElem?_eq_getElem hj] at this
theorem of_parts {tabs : List Tb} {idxs : List Ix} {all : List (List (List Vl))} (h : RightP tabs idxs all) : ∀ s ∈ ofF tabs idxs all, 1 ≤ s.name.size ∧ s.name.size ≤ 32 ∧ ∀ x ∈ s.unlike, 0 ≤ x := fun s hs => by
  unfold ofF at hs
  rcases List.mem_append.1 hs with h1 | h1
  · unfold tabStats at h1
    obtain ⟨i, hi, rfl⟩ := List.mem_mapIdx.1 h1
    have hp := h.tab i tabs[i] (all[i]'(by rw [h.len]; exact hi)) (List.getElem?_eq_getElem hi) (List.getElem?_eq_getElem (by rw [h.len]; exact hi))
    refine ⟨hp.2.2.1, hp.2.2.2.1, fun x hx => ?_⟩
    have : x = (rowsAt all i : Int) := by simpa [tabSt] using hx
    omega
  · obtain ⟨x, hx, rfl⟩ := List.mem_map.1 h1
    have hp := h.idx x hx
    refine ⟨hp.2.1, hp.2.2.1, fun y hy => ?_⟩
    unfold idxSt unlikesTo at hy
    rcases List.mem_append.1 hy with h2 | h2
    · obtain ⟨j, _, rfl⟩ := List.mem_map.1 h2
      omega
    · simp at h2
      omega
theorem of_may {tabs : List Tb} {idxs : List Ix} {all : List (List (List Vl))} (h : RightP tabs idxs all) : ∀ s ∈ ofF tabs idxs all, mayF s = true := fun s hs => by
  obtain ⟨h1, h2, h3⟩ := of_parts h s hs
  exact good_may (good_of (right_sizes h) s hs) h1 h2 (of_short h s hs) h3

set_option maxHeartbeats 8000000 in
set_option maxRecDepth 100000 in
theorem lcounts_any (v : Value) (tabs : List Tb) (idxs : List Ix) (all : List (List (List Vl))) (w : World) (hd : DataAt w v tabs idxs all) :
    Calls Try.prog 9 #[v] w fun e w' => e = .returned (.bool true) ∧ Below w.heap.size w w' := by
  obtain ⟨AT, cT, AX, cX, AR, cR, rfl, ht, hx, hcp, hr⟩ := hd.val
  have HT := Lib.hid ht
  have HX := Lib.hid hx
  have HCP := Lib.hid hcp
  have HR := Lib.hid hr
  have HRC := Lib.hid (fun (W : World) (h : Below w.heap.size w W) => right_any tabs idxs all AT AX AR cT cX cR W (HT.out.below TabE.stays h) (HX.out.below IdxE.stays h) (HR.out.below (SlE.stays (SlE.stays ValE.stays 3) 1) h) hd.tabs.1 hd.idxs.1 hd.all hd.tabs.2 hd.idxs.2)
  have HALL := Lib.hid hd.all
  clear ht hx hcp hr hd
  have hbb := Lib.hid (fun O => (Below.refl w.heap.size w).alloc (Nat.le_refl _) O)
  go_enter Try.func9, Try.ntmps9
  go_upto_region 1 with fail
  have b0 := hbb.out (.cells #[.slice AT tabs.length cT, .slice AX idxs.length cX, .slice AR all.length cR] 53)
  have d0 : (w.alloc (.cells #[.slice AT tabs.length cT, .slice AX idxs.length cX, .slice AR all.length cR] 53)).cell? ⟨w.heap.size, 0, none⟩ = some (.slice AT tabs.length cT) := World.cell?_alloc_new w _ 53 0
  have d1 : (w.alloc (.cells #[.slice AT tabs.length cT, .slice AX idxs.length cX, .slice AR all.length cR] 53)).cell? ⟨w.heap.size, 1, none⟩ = some (.slice AX idxs.length cX) := World.cell?_alloc_new w _ 53 1
  have d2 : (w.alloc (.cells #[.slice AT tabs.length cT, .slice AX idxs.length cX, .slice AR all.length cR] 53)).cell? ⟨w.heap.size, 2, none⟩ = some (.slice AR all.length cR) := World.cell?_alloc_new w _ 53 2
  have hz : (w.alloc (.cells #[.slice AT tabs.length cT, .slice AX idxs.length cX, .slice AR all.length cR] 53)).heap.size = w.heap.size + 1 := by simp
  generalize w.alloc (.cells #[.slice AT tabs.length cT, .slice AX idxs.length cX, .slice AR all.length cR] 53) = W1 at b0 d0 d1 d2 hz
  obtain ⟨X, hX⟩ : ∃ X, w.heap.size = X := ⟨_, rfl⟩
  have HB0 := Lib.hid b0
  rw [hX] at d0 d1 d2 hz
  simp only [hX]
  have hX1 : X < W1.heap.size := by omega
  clear b0 hX hz
  go_wp2_with (first
    | (go_at_call 25; (with_reducible refine (HRC.out _ HB0.out).mono ?_); rintro e w1 ⟨hb1, b, rfl, hp⟩; have HP := Lib.hid hp; clear hp; have f0 := (hb1.cell (p := ⟨X, 0, none⟩) hX1).trans d0; have f1 := (hb1.cell (p := ⟨X, 1, none⟩) hX1).trans d1; have f2 := (hb1.cell (p := ⟨X, 2, none⟩) hX1).trans d2; cases b)
    | (go_at_call 22; (with_reducible refine (live_any _).mono ?_); rintro e w2 ⟨rfl, hb2⟩))
  · go_ret
    exact ⟨rfl, HB0.out.trans ((hb1.trans (hb2.mono hb1.size)).mono HB0.out.size)⟩
  · have RP := Lib.hid (HP.out (by trivial))
    have bw1 := HB0.out.trans (hb1.mono HB0.out.size)
    have HOF := Lib.hid (of_right (cT := cT) (cX := cX) (cR := cR) w1 RP.out (HT.out.below TabE.stays bw1) (HX.out.below IdxE.stays bw1) (HR.out.below (SlE.stays (SlE.stays ValE.stays 3) 1) bw1) (cap_below HCP.out bw1))
    have HRF := Lib.hid (fun (W : World) (h : Below w.heap.size w W) => rof_any tabs idxs all AT AX AR cT cX cR W RP.out HALL.out (HT.out.below TabE.stays h) (HX.out.below IdxE.stays h) (HR.out.below (SlE.stays (SlE.stays ValE.stays 3) 1) h))
    have hLl := ofF_length tabs idxs all
    have HMAY := Lib.hid (of_may RP.out)
    have HGD := Lib.hid (good_of (tabs := tabs) (idxs := idxs) (right_sizes RP.out))
    have HSH := Lib.hid (of_short RP.out)
    have HPT := Lib.hid (of_parts RP.out)
    obtain ⟨L, hL⟩ : ∃ L, ofF tabs idxs all = L := ⟨_, rfl⟩
    rw [hL] at HOF HRF hLl HGD HSH HMAY HPT
    have hnt := RP.out.nt
    have hnx := RP.out.nx
    have hL12 : L.length ≤ 12 := by omega
    have hl100 : L.length ≤ 100 := by omega
    have HL100 := Lib.hid hl100
    have HU := Lib.hid (show ∀ s ∈ L, s.unlike.length ≤ 100 from fun s hs => Nat.le_trans (HSH.out s hs) (by omega))
    have HSS : Hid (∀ (W : World) (A3 A4 : Option Addr) (c3 c4 : Nat), SeqAt StatE 3 W A3 L → SeqAt StatE 3 W A4 L → Calls Try.prog 27 #[.slice A3 L.length c3, .slice A4 L.length c4] W fun e w' => e = .returned (.bool true) ∧ Below W.heap.size W w') := fun W A3 A4 c3 c4 h1 h2 =>
      (rsameS_any A3 A4 c3 c4 L L W h1 h2 HL100.out HL100.out HU.out HU.out).mono fun e w' ⟨he, hb⟩ => ⟨by rw [he, statsB_refl], hb⟩
    have HBW1 := Lib.hid bw1
    have hX2 : X < w1.heap.size := Nat.lt_of_lt_of_le hX1 hb1.size
    clear hL bw1 hLl hl100
    go_wp2_with (first
      | (go_at_call 26; (with_reducible refine HOF.out.mono ?_); rintro e w2 ⟨A, c, rfl, hs2, hb2⟩; have g0 := (hb2.cell (p := ⟨X, 0, none⟩) hX2).trans f0; have g1 := (hb2.cell (p := ⟨X, 1, none⟩) hX2).trans f1; have g2 := (hb2.cell (p := ⟨X, 2, none⟩) hX2).trans f2; have bw2 := HBW1.out.trans (hb2.mono HBW1.out.size))
      | (go_at_call 28; (with_reducible refine (HRF.out _ bw2).mono ?_); rintro e w3 ⟨A', c', rfl, hs3, hb3⟩; have hs23 := hs2.below StatE.stays hb3; have bw3 := bw2.trans (hb3.mono bw2.size))
      | (go_at_call 27; (with_reducible refine (HSS.out _ _ _ _ _ hs23 hs3).mono ?_); rintro e w4 ⟨rfl, hb4⟩; have hs4 := hs23.below StatE.stays hb4; have bw4 := bw3.trans (hb4.mono bw3.size)))
    have HS := Lib.hid hs4
    have HBW4 := Lib.hid bw4
    have HMB := Lib.hid (many_ok hs4)
    clear d0 d1 d2 f0 f1 f2 g0 g1 g2 hb1 hb2 hb3 hb4 hs2 hs3 hs23 hs4 bw2 bw3 bw4
    go_loopw [4] (fun i wr => ∃ k : Nat, k ≤ L.length ∧ i = .int .i64 k ∧ Below w4.heap.size w4 wr) (fun i _ => L.length - (intOf i).toNat)
    case atStart => exact ⟨0, Nat.zero_le _, rfl, Below.refl _ _⟩
    case round =>
      obtain ⟨k, hk, rfl, hB⟩ := hrel
      by_cases hkl : k < L.length
      · obtain ⟨a, qb, qo, s, rfl, hq, hql, hsk, hE⟩ := (HS.out.below StatE.stays hB).get k hkl
        have c0 := hE.name
        have c1 := hE.many
        obtain ⟨u, c2, Au, cu, rfl, hsq⟩ := hE.unlike
        have HMC := Lib.hid (rmay_any s.name s.many s.unlike Au cu wr hsq (Nat.le_trans (HU.out s (List.mem_of_getElem? hsk)) (by unfold maxLen; decide)) hE.sz)
        rw [show (⟨s.name, s.many, s.unlike⟩ : St) = s from rfl, HMAY.out s (List.mem_of_getElem? hsk)] at HMC
        clear hE hsk hsq
        obtain ⟨nm, hnm⟩ : ∃ v, s.name = v := ⟨_, rfl⟩
        obtain ⟨many, hmany⟩ : ∃ v, s.many = v := ⟨_, rfl⟩
        obtain ⟨n, hn⟩ : ∃ v, s.unlike.length = v := ⟨_, rfl⟩
        rw [hnm] at c0 HMC
        rw [hmany] at c1 HMC
        rw [hn] at c2 HMC
        clear hnm hmany hn
        go_wp2_with (first
          | (go_at_call 29; (with_reducible refine HMC.out.mono ?_); rintro e w5 ⟨rfl, hb5⟩))
        go_roundw
        case rel => exact ⟨k + 1, by omega, by go_num, hB.trans (hb5.mono hB.size)⟩
        case measure => simp [intOf] <;> omega
      · obtain rfl : k = L.length := by omega
        have SQ := Lib.hid (HS.out.below StatE.stays hB)
        have HFIT := Lib.hid (rowsF_fit (l := L) (by omega) (fun s hs => Nat.le_trans (HSH.out s hs) (by omega)) (fun s hs => ⟨Nat.le_trans (HPT.out s hs).2.1 (by unfold maxLen; decide), ⟨Int.le_trans (by decide) (HGD.out s hs).nn, HMB.out s hs⟩, Nat.le_trans (HSH.out s hs) (by unfold maxLen; decide), fun n hn => ⟨Int.le_trans (by decide) ((HPT.out s hs).2.2 n hn), Int.le_trans (good_le (HGD.out s hs) n hn) (HMB.out s hs)⟩⟩))
        have HRB := Lib.hid ((readsB_rowsF L).trans (List.all_eq_true.2 HMAY.out))
        have HRD : Hid (∀ (W : World) (A1 : Option Addr) (c1 : Nat), SeqAt RowC 1 W A1 (rowsF L) → Calls Try.prog 30 #[.slice A1 (rowsF L).length c1] W fun e w' => ∃ A3 c3, e = .returned (.tuple #[.slice A3 L.length c3, .int .i64 0]) ∧ SeqAt StatE 3 w' A3 L ∧ Below W.heap.size W w') := fun W A1 c1 h => (sread_any (rowsF L) A1 c1 W h HFIT.out).mono fun e w' ⟨hb, hc⟩ => by
          rcases hc with ⟨h1, _⟩ | ⟨_, A3, c3, he, hs⟩
          · rw [HRB.out] at h1; cases h1
          · rw [heads_rowsF] at he hs
            exact ⟨A3, c3, he, hs, hb⟩
        have HBW := Lib.hid (HBW4.out.trans (hB.mono HBW4.out.size))
        go_wp2_with (first
          | (go_at_call 31; (with_reducible refine (rows_anyC A c L _ SQ.out HL100.out HU.out).mono ?_); rintro e w5 ⟨A1, c1, rfl, hs1, hb5⟩; have sq5 := SQ.out.below StatE.stays hb5)
          | (go_at_call 30; (with_reducible refine (HRD.out _ _ _ hs1).mono ?_); rintro e w6 ⟨A3, c3, rfl, hm6, hb6⟩; have sq6 := sq5.below StatE.stays hb6)
          | (go_at_call 22; (with_reducible refine (live_any _).mono ?_); rintro e w7 ⟨rfl, hb7⟩; have sq7 := sq6.below StatE.stays hb7; have hm7 := hm6.below StatE.stays hb7)
          | (go_at_call 27; (with_reducible refine (HSS.out _ _ _ _ _ sq7 hm7).mono ?_); rintro e w8 ⟨rfl, hb8⟩))
        go_ret
        exact ⟨rfl, HBW.out.trans ((hb5.trans ((hb6.trans ((hb7.trans (hb8.mono hb7.size)).mono hb6.size)).mono hb5.size)).mono HBW.out.size)⟩

end Go.Proofs.Ytpalbdjcfhlniaa
