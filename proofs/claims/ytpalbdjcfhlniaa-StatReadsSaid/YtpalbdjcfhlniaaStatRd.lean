/- The walk over the document's Read. -/
import Derived.Test.YtpalbdjcfhlniaaStatRc
import Derived.Deep.CutRange
namespace Go.Proofs.Ytpalbdjcfhlniaa
open Go.RowKit

theorem numsTo_next {row : List Vl} {m : Nat} {v : Vl} (h2 : 2 ≤ m) (hv : row[m]? = some v) : ints (numsTo row m) = ints (numsTo row (m - 1)) ++ [.int .i64 v.n] := by
  obtain ⟨p, rfl⟩ : ∃ p, m = p + 2 := ⟨m - 2, by omega⟩
  rw [numsTo_succ hv, ints_append]
  rfl

theorem one_stat {W : World} {Z : Nat} {s : St} {u : Value} (h0 : W.cell? ⟨Z, 0, none⟩ = some (.string s.name)) (h1 : W.cell? ⟨Z, 1, none⟩ = some (.int .i64 s.many)) (h2 : W.cell? ⟨Z, 2, none⟩ = some u) (hu : Sl IntE 1 W u s.unlike)
    (hz : s.name.size ≤ maxLen ∧ s.many ≤ 9223372036854775807) : SeqAt StatE 3 W (some ⟨Z, 0, none⟩) [s] := fun k x hx => by
  match k, hx with
  | 0, hx =>
    simp at hx
    subst hx
    exact ⟨_, Z, 0, rfl, rfl, World.block_lt_of_cell? W _ h0, h0, h1, ⟨u, h2, hu⟩, hz.1, hz.2⟩

theorem take_none {P : Program} {md : Region.Mode} {ops : Array Oper} {Q : Exit → Act → World → Prop} {i d : Nat} {oi : Oper} {fuel : Nat} {listed : Array Bool} {a a' : Act} {w : World} (hi : ops[i]? = some oi) (hd : oi.dst = some d)
    (hs : Region.noSelect ops = true) (hf : Region.free md ops listed i = true) (hr : (Region.ready md ops listed).contains i = true) (hQ : ∀ c a w, Q (.panic c) (a.put oi.dst undef) w → Q (.panic c) a w)
    (hw : Region.wanted oi (yielded ops a.tmps) = false) (ha : a.put (some d) undef = a') (h : wpAny P md ops Q fuel (listed.setIfInBounds i true) a' w) : wpAny P md ops Q (fuel + 1) listed a w :=
  wpAny_take hi hs hf hr hQ (Or.inr ⟨hw, rfl⟩) (by rw [hd, ha]; exact h)
theorem take_val {P : Program} {md : Region.Mode} {ops : Array Oper} {Q : Exit → Act → World → Prop} {i d : Nat} {oi : Oper} {v : Value} {fuel : Nat} {listed : Array Bool} {a a' : Act} {w : World} (hi : ops[i]? = some oi) (hd : oi.dst = some d)
    (hs : Region.noSelect ops = true) (hf : Region.free md ops listed i = true) (hr : (Region.ready md ops listed).contains i = true) (hQ : ∀ c a w, Q (.panic c) (a.put oi.dst v) w → Q (.panic c) a w)
    (hw : Region.wanted oi (yielded ops a.tmps) = true) (hv : ∀ w, (execOp a.eval oi).run P w = .ok (.value v) w) (ha : a.put (some d) v = a') (h : wpAny P md ops Q fuel (listed.setIfInBounds i true) a' w) : wpAny P md ops Q (fuel + 1) listed a w :=
  wpAny_take hi hs hf hr hQ (Or.inl ⟨hw, hv⟩) (by rw [hd, ha]; exact h)

theorem mayF_len {s : St} (h : mayF s = true) : s.unlike.length ≤ 33 := by
  by_cases hk : 1 ≤ s.name.size ∧ s.name.size ≤ 32 ∧ 0 ≤ s.many ∧ s.unlike.length ≤ 33
  · exact hk.2.2.2
  · rw [mayF_no hk] at h; cases h

theorem laid_stat {at0 : ByteArray} {bn : Int} {L : List Int} {Au : Option Addr} {cu : Nat} (hz : at0.size ≤ maxLen ∧ bn ≤ 9223372036854775807) (W : World) (h : SeqAt IntE 1 W Au L) :
    SeqAt StatE 3 (W.alloc (.cells #[.string at0, .int .i64 bn, .slice Au L.length cu] 46)) (some ⟨W.heap.size, 0, none⟩) [⟨at0, bn, L⟩] :=
  one_stat (World.cell?_alloc_new W _ 46 0) (World.cell?_alloc_new W _ 46 1) (World.cell?_alloc_new W _ 46 2) ⟨Au, cu, rfl, h.below IntE.stays ((Below.refl _ _).alloc (Nat.le_refl _) _)⟩ hz

/-- One statistic's row. -/
def OneOut (w : World) (s : St) (F : Nat) (e : Ending) (w' : World) : Prop :=
  ∃ zb zo c6 A7 c7, e = .returned (.slice (some ⟨zb, zo, none⟩) 1 c6) ∧ zb < w'.heap.size ∧ w'.cell? ⟨zb, zo, none⟩ = some (.slice A7 F c7) ∧ SeqAt ValE 3 w' A7 (rowF s) ∧ Below w.heap.size w w'
theorem rows_one {s : St} {F Z c : Nat} {w : World} (hF : (rowF s).length = F) (hu : s.unlike.length ≤ 100) (hs : SeqAt StatE 3 w (some ⟨Z, 0, none⟩) [s]) : Calls Try.prog 33 #[.slice (some ⟨Z, 0, none⟩) 1 c] w (OneOut w s F) := by
  refine (rrows_any (some ⟨Z, 0, none⟩) c [s] w hs (by simp) (by intro x hx; simp at hx; subst hx; exact hu)).mono ?_
  rintro e w' ⟨A, c6, rfl, h, hb⟩
  obtain ⟨zb, zo, rfl, hzb, hz⟩ := seq_plain h (by simp [rowsF])
  obtain ⟨v, hv, A7, c7, rfl, h7⟩ := hz 0 (rowF s) rfl
  rw [hF] at hv
  exact ⟨zb, zo, c6, A7, c7, rfl, hzb, by simpa using hv, h7, hb⟩

set_option maxHeartbeats 8000000 in
set_option maxRecDepth 100000 in
theorem rread_any (rows : List (List Vl)) (A : Option Addr) (c : Nat) (w : World) (hr : SeqAt RowE 1 w A rows) (hf : RowsFit rows) :
    Calls Try.prog 34 #[.slice A rows.length c] w (ReadsOut w rows 0) := by
  obtain ⟨i46, ji, jz0, jz1, jz2⟩ := info_parts Try.info46
  obtain ⟨i2, ki, kz0, kz1, kz2⟩ := info_parts Try.info2
  have hrl := hf.1
  have HF := Lib.hid hf.2
  have HR := Lib.hid hr
  clear hr hf
  obtain ⟨B, hB⟩ : ∃ B, w.heap.size = B := ⟨_, rfl⟩
  have HB := Lib.hid hB
  clear hB
  go_enter Try.func34, Try.ntmps34
  go_wp2_with fail
  go_loopw [4, 5] (fun o i wr => ∃ (k : Nat) (us : List Value), k ≤ rows.length ∧ i = .int .i64 k ∧ OutOwn wr B wr.heap.size o ((rows.take k).map headSt) us ∧ Below B w wr ∧ Hid (∀ j r, j < k → rows[j]? = some r → readB r = true)) (fun _ i _ => rows.length - (intOf i).toNat)
  case atStart => exact ⟨0, [], Nat.zero_le _, rfl, OutOwn.nil _ _ _, Below.refl _ _, fun j r h => by omega⟩
  case round =>
    obtain ⟨k, us, hk, rfl, hout, hbel, HALL⟩ := hrel
    obtain ⟨L, hL⟩ : ∃ L, (rows.take k).map headSt = L := ⟨_, rfl⟩
    rw [hL] at hout
    have HLE := Lib.hid hL
    have HLL := Lib.hid (show L.length = k by rw [← hL, List.length_map, List.length_take]; omega)
    clear hL
    have HO := Lib.hid hout
    have hBw : B ≤ wr.heap.size := by have := hbel.size; rw [HB.out] at this; exact this
    have hbw : Below w.heap.size w wr := by rw [HB.out]; exact hbel
    clear hout
    by_cases hlt : k < rows.length
    · obtain ⟨a, qb, qo, r, rfl, hq, hql, hsk, hE⟩ := (HR.out.below (SlE.stays ValE.stays 3) hbw).get k hlt
      rw [Nat.mul_one] at hq
      obtain ⟨v, hv, A1, c1, rfl, hsq⟩ := hE
      have HSK := Lib.hid hsk
      have HFR := Lib.hid (HF.out r (List.mem_of_getElem? hsk))
      by_cases h2 : r.length < 2
      · have HE := Lib.hid (readsB_no HSK.out (readB_short h2))
        clear hsk hsq
        obtain ⟨n1, hn1⟩ : ∃ n, r.length = n := ⟨_, rfl⟩
        rw [hn1] at hv h2
        clear hn1
        go_wp2_with fail
        exact bodyPost_ret (v := .tuple #[.slice none 0 0, .int .i64 8]) (by simp [results, Try.results34, go_sem]) rfl ⟨hbw, .inl ⟨HE.out, rfl⟩⟩
      · obtain ⟨rb, ro, rfl, hrb, hV⟩ := seq_plain hsq (by omega)
        have HV := Lib.hid hV
        obtain ⟨v0, hv0⟩ : ∃ v, r[0]? = some v := ⟨_, List.getElem?_eq_getElem (by omega)⟩
        obtain ⟨v1, hv1⟩ : ∃ v, r[1]? = some v := ⟨_, List.getElem?_eq_getElem (by omega)⟩
        have hE0 := hV 0 v0 hv0
        have hE1 := hV 1 v1 hv1
        rw [Nat.zero_mul, Nat.add_zero] at hE0
        rw [Nat.one_mul] at hE1
        have HV0 := Lib.hid hv0
        have HV1 := Lib.hid hv1
        have c2 := hE0.s
        have d1 := hE1.n
        have HSQ := Lib.hid hsq
        clear hsq hsk hV hv0 hv1 hE0 hE1
        obtain ⟨at0, has⟩ : ∃ v, v0.s = v := ⟨_, rfl⟩
        obtain ⟨bn, hbn⟩ : ∃ v, v1.n = v := ⟨_, rfl⟩
        rw [has] at c2
        rw [hbn] at d1
        have HAS := Lib.hid has
        have HBN := Lib.hid hbn
        clear has hbn
        obtain ⟨n1, hn1⟩ : ∃ n, r.length = n := ⟨_, rfl⟩
        rw [hn1] at hv h2 HFR
        have HN1 := Lib.hid hn1
        have hn100 := HFR.out.1
        have hd2 : decide ((n1 : Int) < 2) = false := by rw [decide_eq_false_iff_not]; omega
        obtain ⟨wo, rfl⟩ : ∃ wo : World, wo = wr := ⟨_, rfl⟩
        clear hn1
        go_wp2_with fail
        go_region
        go_wp2_with fail
        have bY : Below wo.heap.size wo (wo.alloc (.cells #[.string at0, .int .i64 bn, .slice none 0 0] 46)).drew := ((Below.refl _ _).alloc (Nat.le_refl _) _).drew
        have s0 : (wo.alloc (.cells #[.string at0, .int .i64 bn, .slice none 0 0] 46)).drew.cell? ⟨wo.heap.size, 0, none⟩ = some (.string at0) := World.cell?_alloc_new wo _ 46 0
        have s1 : (wo.alloc (.cells #[.string at0, .int .i64 bn, .slice none 0 0] 46)).drew.cell? ⟨wo.heap.size, 1, none⟩ = some (.int .i64 bn) := World.cell?_alloc_new wo _ 46 1
        have s2 : (wo.alloc (.cells #[.string at0, .int .i64 bn, .slice none 0 0] 46)).drew.cell? ⟨wo.heap.size, 2, none⟩ = some (.slice none 0 0) := World.cell?_alloc_new wo _ 46 2
        have s3 : (wo.alloc (.cells #[.string at0, .int .i64 bn, .slice none 0 0] 46)).drew.frozen? ⟨wo.heap.size, 2, none⟩ = false := by simp [go_sem]
        have hs2 : (wo.alloc (.cells #[.string at0, .int .i64 bn, .slice none 0 0] 46)).drew.heap.size = wo.heap.size + 1 := by simp
        have hB2 := hbel.trans (bY.mono hBw)
        have hw2 := hbw.trans (bY.mono hbw.size)
        have hbY := bY
        have hO2 := HO.out.below bY
        have hv2 := (bY.cell (p := ⟨qb, qo, none⟩) hql).trans hv
        have hV2 : ∀ k x, r[k]? = some x → ValE (wo.alloc (.cells #[.string at0, .int .i64 bn, .slice none 0 0] 46)).drew rb (ro + k * 3) x := fun k x hx => ValE.stays _ _ _ _ _ bY hrb (HV.out k x hx)
        generalize (wo.alloc (.cells #[.string at0, .int .i64 bn, .slice none 0 0] 46)).drew = W2 at s0 s1 s2 s3 hs2 hB2 hw2 hO2 hv2 hV2 hbY
        have HBY := Lib.hid hbY
        obtain ⟨Y, hY⟩ : ∃ Y, wo.heap.size = Y := ⟨_, rfl⟩
        rw [hY] at s0 s1 s2 s3 hs2 hO2 hBw hql hrb ⊢
        have HS0 := Lib.hid s0
        have HS1 := Lib.hid s1
        have HS2 := Lib.hid s2
        have HS3 := Lib.hid s3
        have HSZ := Lib.hid hs2
        have HB2 := Lib.hid hB2
        have HW2 := Lib.hid hw2
        have HO2 := Lib.hid hO2
        have HV2 := Lib.hid hV2
        have HVV := Lib.hid hv2
        have HYE := Lib.hid hY
        clear s0 s1 s2 s3 hs2 hB2 hw2 hO2 hv2 hV2 hbY bY hY hv c2 d1 HO HV hbel hbw
        go_loopw [7] (fun j wr => ∃ (m : Nat) (Au : Option Addr) (cu : Nat), 2 ≤ m ∧ m ≤ n1 ∧ j = .int .i64 m ∧ wr.cell? ⟨Y, 0, none⟩ = some (.string at0) ∧ wr.cell? ⟨Y, 1, none⟩ = some (.int .i64 bn) ∧ wr.cell? ⟨Y, 2, none⟩ = some (.slice Au (m - 2) cu) ∧ wr.frozen? ⟨Y, 2, none⟩ = false ∧
            wr.ownsRow (Y + 1) 2 1 (.slice Au (m - 2) cu) (m - 2) (ints (numsTo r (m - 1))) ∧ W2.grownBy wr (some Y)) (fun j _ => n1 - (intOf j).toNat)
        case atStart => exact ⟨2, none, 0, Nat.le_refl _, by omega, rfl, HS0.out, HS1.out, HS2.out, HS3.out, by rw [numsTo_one]; exact World.ownsRow_nil _ _ _ _, World.grownBy.refl _ _⟩
        case round =>
          obtain ⟨m, Au, cu, hm2, hmn, rfl, j0, j1, j2, j3, hown, hgr⟩ := hrel
          have HOWN := Lib.hid hown
          have HG := Lib.hid hgr
          clear hown hgr
          have hYw : Y + 1 ≤ wr.heap.size := by have := HG.out.size; rw [HSZ.out] at this; exact this
          have hqw : qb < wr.heap.size := by omega
          have neO : ∀ b, b < Y → some b ≠ some Y := fun b hb e => by injection e with e; omega
          have hvw := HG.out.cell HVV.out (neO qb hql)
          by_cases hmn' : m < n1
          · obtain ⟨v, hvm⟩ : ∃ v, r[m]? = some v := ⟨_, List.getElem?_eq_getElem (by rw [HN1.out]; omega)⟩
            have e1 := HG.out.cell (HV2.out m v hvm).n (neO rb hrb)
            have HNX := Lib.hid (numsTo_next hm2 hvm)
            obtain ⟨vn, hvn⟩ : ∃ x, v.n = x := ⟨_, rfl⟩
            rw [hvn] at e1 HNX
            clear hvm hvn neO
            have hq1 : m - 2 + 1 ≤ maxLen := by unfold maxLen; omega
            have hq2 : (m - 2 + 1) * 8 ≤ 140737488355328 := by omega
            have HQ1 := Lib.hid hq1
            have HQ2 := Lib.hid hq2
            obtain ⟨p, hp⟩ : ∃ p, m - 2 = p := ⟨_, rfl⟩
            have HP2 := Lib.hid (show m + 1 - 2 = p + 1 by omega)
            rw [hp] at j2 HOWN HQ1 HQ2
            clear hq1 hq2 hp
            have k2' := alloc_cell j2 hYw
            have k0' := alloc_cell j0 hYw
            have k1' := alloc_cell j1 hYw
            have k3' := alloc_frozen j3 hYw
            have hYa : ∀ O, Y < (wr.alloc O).heap.size := fun O => by simp; omega
            have HOD := Lib.hid (fun O => (HOWN.out.alloc O).drew)
            have hY1 : ∀ O, Y + 1 ≤ (wr.alloc O).heap.size := fun O => by simp; omega
            have HY1 := Lib.hid hY1
            clear hY1
            go_wp2_with fail
            go_region_law (first
              | (refine step_append_own rfl (.tmp 45) (.tmp 54) 44 rfl (Y + 1) 2 i2 (.int .i64 0) 1 8 Try.underlying44 ki kz0 kz1 kz2 rfl (by decide) (.slice Au p cu) p _ rfl (HOD.out _) ⟨wr.heap.size, 0, none⟩ 1 1 [.int .i64 vn] rfl rfl (cells_one wr _ 2) (one_one _) HQ1.out HQ2.out (HY1.out _) ?_; intro v' w' hown' hgrow'; obtain ⟨g, cp, rfl, hgl, hgh⟩ := hown'.form (Nat.succ_pos _);
                  have m0 : w'.cell? ⟨Y, 2, none⟩ = some (.slice Au p cu) := hgrow'.cell (k2' _) (fun e => by have := (HOWN.out.lt Y e.symm).1; omega);
                  have m1 : w'.cell? ⟨Y, 0, none⟩ = some (.string at0) := hgrow'.cell (k0' _) (fun e => by have := (HOWN.out.lt Y e.symm).1; omega);
                  have m2 : w'.cell? ⟨Y, 1, none⟩ = some (.int .i64 bn) := hgrow'.cell (k1' _) (fun e => by have := (HOWN.out.lt Y e.symm).1; omega);
                  have m3 : w'.frozen? ⟨Y, 2, none⟩ = false := grown_frozen hgrow' (k3' _) (hYa _) (fun e => by have := (HOWN.out.lt Y e.symm).1; omega)))
            all_goals
              have g5 := (grown_then (grown_then HG.out (World.grownBy_alloc wr (.cells #[.int .i64 vn] 2) none) (fun _ h => by cases h)) ⟨hgrow'.os, hgrow'.tape, hgrow'.output, hgrow'.size, hgrow'.block⟩ (fun j hj => by have := (HOWN.out.lt j hj).1; rw [HSZ.out]; exact this)).andThen (World.grownBy_set w' Y 2 (.slice (some ⟨g, 0, none⟩) (p + 1) cp)) (fun j hj => .inr hj)
              have own5 := hown'.kept (World.grownBy_set w' Y 2 (.slice (some ⟨g, 0, none⟩) (p + 1) cp)) (.inr (by simp [Value.ownBlock]; omega))
              rw [← HNX.out] at own5
              have G5 := Lib.hid g5
              have OWN5 := Lib.hid (show (w'.setCell ⟨Y, 2, none⟩ (.slice (some ⟨g, 0, none⟩) (p + 1) cp)).ownsRow (Y + 1) 2 1 (.slice (some ⟨g, 0, none⟩) (m + 1 - 2) cp) (m + 1 - 2) (ints (numsTo r (m + 1 - 1))) by rw [HP2.out, Nat.add_sub_cancel]; exact own5)
              have n0 := (World.cell?_setCell_other w' ⟨Y, 2, none⟩ ⟨Y, 0, none⟩ (.slice (some ⟨g, 0, none⟩) (p + 1) cp) (by simp)).trans m1
              have n1' := (World.cell?_setCell_other w' ⟨Y, 2, none⟩ ⟨Y, 1, none⟩ (.slice (some ⟨g, 0, none⟩) (p + 1) cp) (by simp)).trans m2
              have n2 := World.cell?_setCell_same w' ⟨Y, 2, none⟩ (.slice (some ⟨g, 0, none⟩) (p + 1) cp) m0
              have n3 := (World.frozen?_setCell w' ⟨Y, 2, none⟩ ⟨Y, 2, none⟩ (.slice (some ⟨g, 0, none⟩) (p + 1) cp)).trans m3
              have N0 := Lib.hid n0
              have N1 := Lib.hid n1'
              have N2 := Lib.hid n2
              have N3 := Lib.hid n3
              clear g5 own5 hown' hgrow' m0 m1 m2 m3 n0 n1' n2 n3 j0 j1 j2 j3 k0' k1' k2' k3' hvw e1
              go_wp2_with fail
              go_roundw
              case rel => exact ⟨m + 1, some ⟨g, 0, none⟩, cp, by omega, by omega, by go_num, N0.out, N1.out, by rw [HP2.out]; exact N2.out, N3.out, OWN5.out, G5.out⟩
              case measure => simp [intOf] <;> omega
          · obtain rfl : m = n1 := by omega
            obtain ⟨L', hL'⟩ : ∃ L', numsTo r (m - 1) = L' := ⟨_, rfl⟩
            have hLl : L'.length = m - 2 := by rw [← hL']; exact numsTo_length (by rw [HN1.out]; omega)
            have HHS := Lib.hid (show headSt r = ⟨at0, bn, L'⟩ by
              have e1 := HV0.out
              have e2 := HV1.out
              have e3 := HBN.out
              have e4 := HAS.out
              unfold headSt
              rw [List.getD_eq_getElem?_getD, List.getD_eq_getElem?_getD, e1, e2, ← numsTo_all (m - 1) (by rw [HN1.out]; omega), hL']
              simp [e3, e4])
            rw [hL'] at HOWN
            obtain ⟨Au', cu', eu, hsq⟩ := ints_seq HOWN.out hLl
            injection eu with eu1 eu2 eu3
            subst eu1; subst eu3
            rw [← hLl] at j2 HOWN
            have HRB := Lib.hid (show readB r = (formB r && mayF ⟨at0, bn, L'⟩) by unfold readB; rw [HHS.out])
            have HOK := Lib.hid (head_ok HFR.out.2)
            rw [HHS.out] at HOK
            have HFM := Lib.hid (show allB vlB (rowF ⟨at0, bn, L'⟩) r = formB r by rw [← readB_ref (by rw [HN1.out]; omega), HHS.out])
            have HMC := Lib.hid (fun (W : World) (h : SeqAt IntE 1 W Au L') => rmay_any at0 bn L' Au cu W h (by rw [hLl]; unfold maxLen; omega) HOK.out.1)
            obtain ⟨mb, hmb⟩ : ∃ mb, mayF ⟨at0, bn, L'⟩ = mb := ⟨_, rfl⟩
            have HMB := Lib.hid hmb
            rw [hmb] at HRB HMC
            have HSQI := Lib.hid (hsq.below IntE.stays ((Below.refl wr.heap.size wr).drew))
            have HL2 := Lib.hid hLl
            have hYd : Y < wr.drew.heap.size := hYw
            have hqd : qb < wr.drew.heap.size := hqw
            have hbW : Below B w wr := HB2.out.grown HG.out (by rw [HSZ.out]; omega) (fun j hj => by cases hj; omega)
            have HBW := Lib.hid (show Below w.heap.size w wr by rw [HB.out]; exact hbW)
            clear hsq hL' hmb hLl neO
            cases mb
            · have HE := Lib.hid (readsB_no HSK.out (HRB.out.trans (Bool.and_false _)))
              go_wp2_with fail
              refine wp_region_any (by kernel_rfl) ?_
              change wpAny _ _ _ _ _ _ _ (World.drew _)
              refine wpAny_ready (rs := [0]) (by kernel_rfl) (by simp) ?_
              refine AllReady.cons rfl (fun K hK => ?_) AllReady.nil
              go_simp
              refine hK _ _ ?_; clear hK K
              refine wpAny_ready (rs := [1]) (by kernel_rfl) (by simp) ?_
              refine AllReady.cons rfl (fun K hK => ?_) AllReady.nil
              go_simp
              go_wp2_with (first | (go_at_call 29; (with_reducible refine (HMC.out _ HSQI.out).mono ?_); rintro e w5 ⟨rfl, hb5⟩))
              refine take_val (i := 2) (d := 59) (v := .bool true) rfl rfl (by kernel_rfl) (by kernel_rfl) (by kernel_rfl) (fun _ _ _ h => h) (by rfl) (by intro w; go_simp) (by simp only [Act.put, List.setIfInBounds_toArray, List.set_cons_zero, List.set_cons_succ]; rfl) ?_
              refine take_val (i := 3) (d := 60) (v := .bool true) rfl rfl (by kernel_rfl) (by kernel_rfl) (by kernel_rfl) (fun _ _ _ h => h) (by rfl) (by intro w; go_simp) (by simp only [Act.put, List.setIfInBounds_toArray, List.set_cons_zero, List.set_cons_succ]; rfl) ?_
              refine take_none (i := 4) (d := 61) rfl rfl (by kernel_rfl) (by kernel_rfl) (by kernel_rfl) (fun _ _ _ h => h) (by rfl) (by simp only [Act.put, List.setIfInBounds_toArray, List.set_cons_zero, List.set_cons_succ]; rfl) ?_
              refine take_none (i := 5) (d := 62) rfl rfl (by kernel_rfl) (by kernel_rfl) (by kernel_rfl) (fun _ _ _ h => h) (by rfl) (by simp only [Act.put, List.setIfInBounds_toArray, List.set_cons_zero, List.set_cons_succ]; rfl) ?_
              refine take_none (i := 6) (d := 63) rfl rfl (by kernel_rfl) (by kernel_rfl) (by kernel_rfl) (fun _ _ _ h => h) (by rfl) (by simp only [Act.put, List.setIfInBounds_toArray, List.set_cons_zero, List.set_cons_succ]; rfl) ?_
              refine take_none (i := 7) (d := 64) rfl rfl (by kernel_rfl) (by kernel_rfl) (by kernel_rfl) (fun _ _ _ h => h) (by rfl) (by simp only [Act.put, List.setIfInBounds_toArray, List.set_cons_zero, List.set_cons_succ]; rfl) ?_
              refine take_none (i := 8) (d := 65) rfl rfl (by kernel_rfl) (by kernel_rfl) (by kernel_rfl) (fun _ _ _ h => h) (by rfl) (by simp only [Act.put, List.setIfInBounds_toArray, List.set_cons_zero, List.set_cons_succ]; rfl) ?_
              refine take_none (i := 9) (d := 66) rfl rfl (by kernel_rfl) (by kernel_rfl) (by kernel_rfl) (fun _ _ _ h => h) (by rfl) (by simp only [Act.put, List.setIfInBounds_toArray, List.set_cons_zero, List.set_cons_succ]; rfl) ?_
              refine take_none (i := 10) (d := 67) rfl rfl (by kernel_rfl) (by kernel_rfl) (by kernel_rfl) (fun _ _ _ h => h) (by rfl) (by simp only [Act.put, List.setIfInBounds_toArray, List.set_cons_zero, List.set_cons_succ]; rfl) ?_
              refine take_none (i := 11) (d := 68) rfl rfl (by kernel_rfl) (by kernel_rfl) (by kernel_rfl) (fun _ _ _ h => h) (by rfl) (by simp only [Act.put, List.setIfInBounds_toArray, List.set_cons_zero, List.set_cons_succ]; rfl) ?_
              refine take_none (i := 12) (d := 69) rfl rfl (by kernel_rfl) (by kernel_rfl) (by kernel_rfl) (fun _ _ _ h => h) (by rfl) (by simp only [Act.put, List.setIfInBounds_toArray, List.set_cons_zero, List.set_cons_succ]; rfl) ?_
              refine take_none (i := 13) (d := 70) rfl rfl (by kernel_rfl) (by kernel_rfl) (by kernel_rfl) (fun _ _ _ h => h) (by rfl) (by simp only [Act.put, List.setIfInBounds_toArray, List.set_cons_zero, List.set_cons_succ]; rfl) ?_
              refine take_none (i := 14) (d := 71) rfl rfl (by kernel_rfl) (by kernel_rfl) (by kernel_rfl) (fun _ _ _ h => h) (by rfl) (by simp only [Act.put, List.setIfInBounds_toArray, List.set_cons_zero, List.set_cons_succ]; rfl) ?_
              refine take_val (i := 15) (d := 72) (v := .bool true) rfl rfl (by kernel_rfl) (by kernel_rfl) (by kernel_rfl) (fun _ _ _ h => h) (by rfl) (by intro w; go_simp) (by simp only [Act.put, List.setIfInBounds_toArray, List.set_cons_zero, List.set_cons_succ]; rfl) ?_
              refine wpAny_done (by kernel_rfl) ?_ _
              go_wp2_with fail
              exact bodyPost_ret (v := .tuple #[.slice none 0 0, .int .i64 8]) (by simp [results, Try.results34, go_sem]) rfl ⟨HBW.out.trans ((undrew hb5).mono HBW.out.size), .inl ⟨HE.out, rfl⟩⟩
            · have HL33 := Lib.hid (mayF_len HMB.out)
              have hbr : Below wo.heap.size wo wr := HBY.out.grown HG.out (by rw [HSZ.out, HYE.out]; omega) (fun j hj => by cases hj; rw [HYE.out]; exact Nat.le_refl _)
              have SRD := Lib.hid (HSQ.out.below ValE.stays hbr.drew)
              have HLS := Lib.hid (fun (W : World) (h : SeqAt IntE 1 W Au L') => laid_stat (cu := cu) HOK.out W h)
              obtain ⟨F, hF⟩ : ∃ F, (rowF ⟨at0, bn, L'⟩).length = F := ⟨_, rfl⟩
              have HONE := Lib.hid (fun (W : World) (Z : Nat) (h : SeqAt StatE 3 W (some ⟨Z, 0, none⟩) [⟨at0, bn, L'⟩]) => rows_one (c := 1) hF (Nat.le_trans HL33.out (by omega)) h)
              obtain ⟨fb, hfb⟩ : ∃ fb, formB r = fb := ⟨_, rfl⟩
              have HSAME : Hid (∀ (W : World) (A7 : Option Addr) (c7 : Nat), SeqAt ValE 3 W A7 (rowF ⟨at0, bn, L'⟩) → SeqAt ValE 3 W (some ⟨rb, ro, none⟩) r → Calls Try.prog 60 #[.slice A7 F c7, .slice (some ⟨rb, ro, none⟩) m c1] W fun e w' => e = .returned (.bool fb) ∧ Below W.heap.size W w') := fun W A7 c7 h1 h2 => by
                rw [← hF, ← HN1.out, ← hfb, ← HFM.out]
                refine (sameRow_any A7 (some ⟨rb, ro, none⟩) c7 c1 (rowF ⟨at0, bn, L'⟩) r W h1 h2 ?_ ?_).mono ?_
                · have := HL33.out; simp [rowF]; unfold maxLen; simp at this; omega
                · rw [HN1.out]; unfold maxLen; omega
                · rintro e w' ⟨he, n, rfl⟩
                  exact ⟨he, below_n (Below.refl _ _) _⟩
              have HFB := Lib.hid hfb
              have HO3 := Lib.hid (HO2.out.grown HG.out (fun j hj => by cases hj; exact Nat.le_refl _))
              clear hF hfb hbr
              go_wp2_with fail
              first | (go_region_with (first
                | (go_at_call 29; (with_reducible refine (HMC.out _ HSQI.out).mono ?_); rintro e w5 ⟨rfl, hb5⟩;
                    have sq5 := HSQI.out.below IntE.stays hb5; have hs5 := HLS.out w5 sq5; have sr5 := SRD.out.below ValE.stays hb5; have hY5 := Nat.lt_of_lt_of_le hYd hb5.size; have hq5 := Nat.lt_of_lt_of_le hqd hb5.size;
                    have y0 := (hb5.cell (p := ⟨Y, 0, none⟩) hYd).trans j0; have y1 := (hb5.cell (p := ⟨Y, 1, none⟩) hYd).trans j1; have y2 := (hb5.cell (p := ⟨Y, 2, none⟩) hYd).trans j2; have yq := (hb5.cell (p := ⟨qb, qo, none⟩) hqd).trans hvw;
                    have z0 := alloc_cell y0 hY5; have z1 := alloc_cell y1 hY5; have z2 := alloc_cell y2 hY5; have zq := alloc_cell yq hq5)
                | (go_at_call 33; (with_reducible refine (HONE.out _ _ hs5).mono ?_); rintro e w6 ⟨zb, zo, c6, A7, c7, rfl, hzb, hz, hsz, hb6⟩;
                    have sr6 := (sr5.below ValE.stays ((Below.refl _ _).alloc (Nat.le_refl _) _)).below ValE.stays hb6;
                    have hYa := Nat.lt_of_lt_of_le hY5 (((Below.refl _ w5).alloc (Nat.le_refl _) (.cells #[.string at0, .int .i64 bn, .slice Au L'.length cu] 46)).size); have hqa := Nat.lt_of_lt_of_le hq5 (((Below.refl _ w5).alloc (Nat.le_refl _) (.cells #[.string at0, .int .i64 bn, .slice Au L'.length cu] 46)).size);
                    have x0 := (hb6.cell (p := ⟨Y, 0, none⟩) hYa).trans (z0 _); have x1 := (hb6.cell (p := ⟨Y, 1, none⟩) hYa).trans (z1 _); have x2 := (hb6.cell (p := ⟨Y, 2, none⟩) hYa).trans (z2 _); have xq := (hb6.cell (p := ⟨qb, qo, none⟩) hqa).trans (zq _))
                | (go_at_call 60; (with_reducible refine (HSAME.out _ _ _ hsz sr6).mono ?_); rintro e w7 ⟨rfl, hb7⟩;
                    have hY6 := Nat.lt_of_lt_of_le hYa hb6.size; have hq6 := Nat.lt_of_lt_of_le hqa hb6.size;
                    have v0 := (hb7.cell (p := ⟨Y, 0, none⟩) hY6).trans x0; have v1 := (hb7.cell (p := ⟨Y, 1, none⟩) hY6).trans x1; have v2 := (hb7.cell (p := ⟨Y, 2, none⟩) hY6).trans x2; have vq := (hb7.cell (p := ⟨qb, qo, none⟩) hq6).trans xq))) | fail
              all_goals
                have hbA : Below wr.heap.size wr w5 := undrew hb5
                have hbB : Below w5.heap.size w5 w6 := ((Below.refl _ w5).alloc (Nat.le_refl _) (.cells #[.string at0, .int .i64 bn, .slice Au L'.length cu] 46)).trans (hb6.mono (by simp))
                have hbT : Below wr.heap.size wr w7 := hbA.trans ((hbB.trans (hb7.mono hbB.size)).mono hbA.size)
                have hBT : B ≤ w7.heap.size := by have := hbT.size; omega
                have HB7 := Lib.hid (hbW.trans (hbT.mono (by omega)))
                have HBW7 := Lib.hid (HBW.out.trans (hbT.mono HBW.out.size))
                have HO4 := Lib.hid (HO3.out.below hbT)
                have HOW := Lib.hid (own_base' (own_below HOWN.out hbT) (show B ≤ Y + 1 by omega))
                clear sq5 hs5 sr5 sr6 z0 z1 z2 zq hbA hbB hbT hsz
                cases fb
                · have HE := Lib.hid (readsB_no HSK.out (HRB.out.trans (by rw [HFB.out]; rfl)))
                  go_wp2_with fail
                  exact bodyPost_ret (v := .tuple #[.slice none 0 0, .int .i64 8]) (by simp [results, Try.results34, go_sem]) rfl ⟨HBW7.out, .inl ⟨HE.out, rfl⟩⟩
                · have HALL' := Lib.hid (readB_upto HALL.out HSK.out (HRB.out.trans (by rw [HFB.out]; rfl)))
                  have hl1 : L.length + 1 ≤ maxLen := by have := HLL.out; unfold maxLen; omega
                  have hl2 : (L.length + 1) * 48 ≤ 140737488355328 := by have := HLL.out; omega
                  have HL1 := Lib.hid hl1
                  have HL2' := Lib.hid hl2
                  clear hl1 hl2
                  go_wp2_with (first
                    | (at_builtin; refine wpList_append_own _ rfl (.tmp 73) (.tmp 75) 43 rfl B 46 i46 (.agg #[.string ⟨#[]⟩, .int .i64 0, .slice none 0 0]) 3 48 Try.underlying43 ji jz0 jz1 jz2 rfl (by decide) _ L.length _ rfl (HO4.out.row.alloc _) ⟨w7.heap.size, 0, none⟩ 1 1 [.string at0, .int .i64 bn, .slice Au L'.length cu] rfl rfl ?c1 ?c2 HL1.out HL2'.out ?c5 ?_))
                  case c1 =>
                    intro j u hj
                    match j, hj with
                    | 0, hj => simp at hj; subst hj; simp [Addr.add, go_sem]
                    | 1, hj => simp at hj; subst hj; simp [Addr.add, go_sem]
                    | 2, hj => simp at hj; subst hj; simp [Addr.add, go_sem]
                  case c2 => intro u hu; simp at hu; rcases hu with rfl | rfl | rfl <;> rfl
                  case c5 => simp; omega
                  intro v' w8 hown' hgrow _
                  have HP : Hid (OutOwn w8 B w8.heap.size v' ((rows.take (k + 1)).map headSt) (us ++ [.slice Au L'.length cu])) := by
                    show OutOwn _ _ _ _ _ _
                    rw [heads_take HSK.out, HLE.out, HHS.out]
                    exact (HO4.out.alloc _).push (s := ⟨at0, bn, L'⟩) (HOW.out.alloc _) hgrow hown'
                  have hB3 : Below B w w8 := (HB7.out.alloc hBT _).grown hgrow (by simp; omega) (fun g hg => (HO4.out.row.lt g hg).1)
                  have HB3 := Lib.hid hB3
                  clear hown' hgrow hB3 v0 v1 v2 vq x0 x1 x2 xq y0 y1 y2 yq j0 j1 j2 j3
                  go_wp2_with fail
                  go_roundw
                  case rel => exact ⟨k + 1, _, by omega, by go_num, HP.out, HB3.out, HALL'⟩
                  case measure => simp [intOf] <;> omega
    · obtain rfl : k = rows.length := by omega
      have hE := readsB_yes HALL.out
      have HE := Lib.hid hE
      have hsn := HO.out.seen (by
        rw [← HLE.out, List.take_length]
        intro s hs
        obtain ⟨r, hr, rfl⟩ := List.mem_map.1 hs
        exact head_ok (HF.out r hr).2)
      rw [← HLE.out, List.take_length] at hsn
      obtain ⟨A', c', rfl, hs⟩ := hsn
      have HS := Lib.hid hs
      clear hs hE
      go_wp2_with fail
      exact bodyPost_ret (v := .tuple #[.slice A' (rows.map headSt).length c', .int .i64 0]) (by simp [results, Try.results34, go_sem]) rfl ⟨hbw, .inr ⟨HE.out, A', c', rfl, HS.out⟩⟩

end Go.Proofs.Ytpalbdjcfhlniaa
