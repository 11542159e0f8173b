/- The walk over stat's read. -/
import Derived.Test.YtpalbdjcfhlniaaStatRa
import Derived.Test.YtpalbdjcfhlniaaStatU
import Derived.Deep.CutRange
namespace Go.Proofs.Ytpalbdjcfhlniaa
open Go.RowKit

theorem str_eq (k n : Int) (s : ByteArray) (W : World) : (Op.equalIn 10000 78 (.agg #[.int .i64 k, .int .i64 n, .string s]) (.agg #[.int .i64 2, .int .i64 0, .string s])).run Try.prog W = .ok (strB ⟨k, n, s⟩) W := run_eq78 ⟨k, n, s⟩ (strV s) W
theorem num_eq (k n : Int) (s : ByteArray) (W : World) : (Op.equalIn 10000 78 (.agg #[.int .i64 k, .int .i64 n, .string s]) (.agg #[.int .i64 1, .int .i64 n, .string ⟨#[]⟩])).run Try.prog W = .ok (numB ⟨k, n, s⟩) W := run_eq78 ⟨k, n, s⟩ (numV n) W

theorem undrew {w w' : World} (h : Below w.drew.heap.size w.drew w') : Below w.heap.size w w' := (Below.refl w.heap.size w).drew.trans h

theorem plain_add (b o k : Nat) : (⟨b, o, none⟩ : Addr).add k = ⟨b, o + k, none⟩ := by
  unfold Addr.add; split
  · rename_i h0; rw [h0]; rfl
  · rfl

theorem ints_seq {w : World} {B n : Nat} {u : Value} {l : List Int} (h : w.ownsRow B 2 1 u n (ints l)) (hl : l.length = n) : Sl IntE 1 w u l := by
  subst hl
  refine seq_of_own h fun g' j x hg' hx => ?_
  have := h.cells hg' j (.int .i64 x) (by simp [ints, hx])
  rw [add_zero] at this
  show w.cell? _ = _
  rw [Nat.mul_one]; exact this

theorem numB_upto {row : List Vl} {q : Nat} {v : Vl} (h : ∀ k v, k < q → row[k + 1]? = some v → numB v = true) (hv : row[q + 1]? = some v) (hn : numB v = true) : ∀ k v, k < q + 1 → row[k + 1]? = some v → numB v = true := fun k u hk hu => by
  by_cases hkq : k < q
  · exact h k u hkq hu
  · obtain rfl : k = q := by omega
    rw [hv] at hu
    injection hu with hu
    subst hu
    exact hn

theorem seq_plain {α : Type} {E : World → Nat → Nat → α → Prop} {size : Nat} {w : World} {A : Option Addr} {xs : List α} (h : SeqAt E size w A xs) (hl : 0 < xs.length) :
    ∃ b o, A = some ⟨b, o, none⟩ ∧ b < w.heap.size ∧ ∀ k x, xs[k]? = some x → E w b (o + k * size) x := by
  obtain ⟨a, b, o, rfl, hq, hb, _⟩ := h 0 _ (List.getElem?_eq_getElem hl)
  have ha : a = ⟨b, o, none⟩ := by simpa [Addr.add] using hq
  subst ha
  refine ⟨b, o, rfl, hb, fun k x hx => ?_⟩
  obtain ⟨a', b', o', e, hq', _, hE⟩ := h k x hx
  obtain rfl := Option.some.inj e
  have e1 : (⟨b, o, none⟩ : Addr).add (k * size) = ⟨b, o + k * size, none⟩ := by
    unfold Addr.add; split
    · rename_i h0; rw [h0]; rfl
    · rfl
  rw [e1] at hq'
  injection hq' with e2 e3
  subst e2; subst e3
  exact hE

set_option maxHeartbeats 8000000 in
set_option maxRecDepth 100000 in
theorem read_any (row : List Vl) (A : Option Addr) (c : Nat) (w : World) (hr : SeqAt ValE 3 w A row) (hlc : row.length ≤ c) (_hcm : c ≤ maxLen) (hm : row.length ≤ 100000) :
    Calls Try.prog 57 #[.slice A row.length c] w (ReadOut w row) := by
  obtain ⟨i2, ki, kz0, kz1, kz2⟩ := info_parts Try.info2
  have hg := run_guard78
  by_cases h2 : row.length < 2
  · have HE := Lib.hid (readB_short h2)
    clear hr
    have d1 : decide ((row.length : Int) < 2) = true := by rw [decide_eq_true_eq]; omega
    go_enter Try.func57, Try.ntmps57
    go_wp2_with fail
    go_quiet (fail)
    go_wp2_with fail
    refine bodyPost_ret (v := .tuple #[.agg #[.string ⟨#[]⟩, .int .i64 0, .slice none 0 0], .bool false]) (by simp [results, Try.results57, go_sem]) rfl ⟨?_, _, _, _, _, _, by rw [HE.out], fun h => by rw [HE.out] at h; cases h⟩
    exact (((below_n ((Below.refl _ _).alloc (Nat.le_refl _) _) _).setCell (Nat.le_refl _) _).setCell (Nat.le_refl _) _).setCell (Nat.le_refl _) _
  · obtain ⟨qb, qo, rfl, hqb, hV⟩ := seq_plain hr (by omega)
    have HV := Lib.hid hV
    have hz2 : decide ((row.length : Int) < 2) = false := by rw [decide_eq_false_iff_not]; omega
    obtain ⟨v0, hv0⟩ : ∃ v, row[0]? = some v := ⟨_, List.getElem?_eq_getElem (by omega)⟩
    obtain ⟨v1, hv1⟩ : ∃ v, row[1]? = some v := ⟨_, List.getElem?_eq_getElem (by omega)⟩
    have hE0 := hV 0 v0 hv0
    have hE1 := hV 1 v1 hv1
    rw [Nat.zero_mul, Nat.add_zero] at hE0
    rw [Nat.one_mul] at hE1
    have HV0 := Lib.hid hv0
    have HV1 := Lib.hid hv1
    have c0 := hE0.kind
    have c1 := hE0.n
    have c2 := hE0.s
    have HB1 := Lib.hid hE1.n
    clear hr hV hv0 hv1 hE0 hE1
    obtain ⟨ak, hak⟩ : ∃ v, v0.kind = v := ⟨_, rfl⟩
    obtain ⟨an, han⟩ : ∃ v, v0.n = v := ⟨_, rfl⟩
    obtain ⟨at0, has⟩ : ∃ v, v0.s = v := ⟨_, rfl⟩
    obtain ⟨bn, hbn⟩ : ∃ v, v1.n = v := ⟨_, rfl⟩
    obtain rfl : v0 = ⟨ak, an, at0⟩ := by subst hak; subst han; subst has; rfl
    rw [hak] at c0
    rw [han] at c1
    rw [has] at c2
    rw [hbn] at HB1
    have HBN := Lib.hid hbn
    clear hak han has hbn
    have hse := str_eq ak an at0
    obtain ⟨sb, hsb⟩ : ∃ b, strB ⟨ak, an, at0⟩ = b := ⟨_, rfl⟩
    rw [hsb] at hse
    have HSB := Lib.hid hsb
    clear hsb
    go_enter Try.func57, Try.ntmps57
    go_upto_region 1 with fail
    have b1 : Below w.heap.size w (w.alloc (.cells #[.string ⟨#[]⟩, .int .i64 0, .slice none 0 0] 46)) := (Below.refl _ _).alloc (Nat.le_refl _) _
    have x0 : (w.alloc (.cells #[.string ⟨#[]⟩, .int .i64 0, .slice none 0 0] 46)).cell? ⟨w.heap.size, 0, none⟩ = some (.string ⟨#[]⟩) := by simp [go_sem]
    have x1 : (w.alloc (.cells #[.string ⟨#[]⟩, .int .i64 0, .slice none 0 0] 46)).cell? ⟨w.heap.size, 1, none⟩ = some (.int .i64 0) := by simp [go_sem]
    have x2 : (w.alloc (.cells #[.string ⟨#[]⟩, .int .i64 0, .slice none 0 0] 46)).cell? ⟨w.heap.size, 2, none⟩ = some (.slice none 0 0) := by simp [go_sem]
    have xf : ∀ j, (w.alloc (.cells #[.string ⟨#[]⟩, .int .i64 0, .slice none 0 0] 46)).frozen? ⟨w.heap.size, j, none⟩ = false := fun j => by simp [go_sem]
    have hz1 : (w.alloc (.cells #[.string ⟨#[]⟩, .int .i64 0, .slice none 0 0] 46)).heap.size = w.heap.size + 1 := by simp
    replace c0 := (b1.cell (p := ⟨qb, qo, none⟩) hqb).trans c0
    replace c1 := (b1.cell (p := ⟨qb, qo + 1, none⟩) hqb).trans c1
    replace c2 := (b1.cell (p := ⟨qb, qo + 2, none⟩) hqb).trans c2
    generalize w.alloc (.cells #[.string ⟨#[]⟩, .int .i64 0, .slice none 0 0] 46) = W1 at b1 x0 x1 x2 xf hz1 c0 c1 c2
    obtain ⟨X, hX⟩ : ∃ X, w.heap.size = X := ⟨_, rfl⟩
    have HX := Lib.hid hX
    rw [hX] at x0 x1 x2 xf hz1 hqb b1
    simp only [hX]
    clear hX
    have hqb1 : qb < W1.heap.size := by omega
    have hX1 : X < W1.heap.size := by omega
    have HW1 := Lib.hid b1
    have HX0 := Lib.hid x0
    have HX1 := Lib.hid x1
    have HX2 := Lib.hid x2
    have HXF := Lib.hid xf
    clear x0 x1 x2 xf b1
    go_cut [20] from 7 to 20 (fun t wx => t = .bool (!sb) ∧ Below W1.heap.size W1 wx)
    case first =>
      first | (go_region_with (first
        | (go_at_call 58; (with_reducible refine (str_any at0 _).mono ?_); rintro e w2 ⟨rfl, hb2⟩; have f0 := (hb2.cell (p := ⟨qb, qo, none⟩) hqb1).trans c0; have f1 := (hb2.cell (p := ⟨qb, qo + 1, none⟩) hqb1).trans c1; have f2 := (hb2.cell (p := ⟨qb, qo + 2, none⟩) hqb1).trans c2))) | fail
      all_goals (go_wp2_with fail; go_meet; exact ⟨rfl, undrew hb2⟩)
    case rest =>
      obtain ⟨rfl, hb2⟩ := hcut
      have hX2 : X < wc.heap.size := Nat.lt_of_lt_of_le hX1 hb2.size
      have hqb2 : qb < wc.heap.size := Nat.lt_of_lt_of_le hqb1 hb2.size
      have x0 := (hb2.cell (p := ⟨X, 0, none⟩) hX1).trans HX0.out
      have x1 := (hb2.cell (p := ⟨X, 1, none⟩) hX1).trans HX1.out
      have x2 := (hb2.cell (p := ⟨X, 2, none⟩) hX1).trans HX2.out
      have xf := fun j => (hb2.frozen (p := ⟨X, j, none⟩) hX1).trans (HXF.out j)
      have hbw : Below X w wc := HW1.out.trans (hb2.mono (Nat.le_of_lt hX1))
      have HBW := Lib.hid (show Below w.heap.size w wc by rw [HX.out]; exact hbw)
      cases sb
      · have HE := Lib.hid (readB_str HV0.out HSB.out)
        have xf0 := xf 0
        have xf1 := xf 1
        have xf2 := xf 2
        clear xf
        go_wp2_with fail
        refine bodyPost_ret (v := .tuple #[.agg #[.string ⟨#[]⟩, .int .i64 0, .slice none 0 0], .bool false]) (by simp [results, Try.results57, go_sem, x0, x1, x2]) rfl ⟨?_, _, _, _, _, _, by rw [HE.out], fun h => by rw [HE.out] at h; cases h⟩
        exact ((HBW.out.setCell (Nat.le_of_eq HX.out) _).setCell (Nat.le_of_eq HX.out) _).setCell (Nat.le_of_eq HX.out) _
      · rw [show (!true) = false from rfl]
        have d2 : wc.cell? ⟨qb, qo + 2, none⟩ = some (.string at0) := (hb2.cell (p := ⟨qb, qo + 2, none⟩) hqb1).trans c2
        have d1 := (hbw.cell (p := ⟨qb, qo + 3 + 1, none⟩) hqb).trans HB1.out
        have HXC0 := Lib.hid x0
        have HXC1 := Lib.hid x1
        have HXC2 := Lib.hid x2
        have HXF2 := Lib.hid xf
        clear x0 x1 x2 xf hb2 c0 c1 c2 hse
        go_wp2_with fail
        go_region
        go_wp2_with fail
        have b2 : Below wc.heap.size wc (wc.alloc (.cells #[.string at0, .int .i64 bn, .slice none 0 0] 46)).drew := ((Below.refl _ _).alloc (Nat.le_refl _) _).drew
        have s0 : (wc.alloc (.cells #[.string at0, .int .i64 bn, .slice none 0 0] 46)).drew.cell? ⟨wc.heap.size, 0, none⟩ = some (.string at0) := World.cell?_alloc_new wc _ 46 0
        have s1 : (wc.alloc (.cells #[.string at0, .int .i64 bn, .slice none 0 0] 46)).drew.cell? ⟨wc.heap.size, 1, none⟩ = some (.int .i64 bn) := World.cell?_alloc_new wc _ 46 1
        have s2 : (wc.alloc (.cells #[.string at0, .int .i64 bn, .slice none 0 0] 46)).drew.cell? ⟨wc.heap.size, 2, none⟩ = some (.slice none 0 0) := World.cell?_alloc_new wc _ 46 2
        have s3 : (wc.alloc (.cells #[.string at0, .int .i64 bn, .slice none 0 0] 46)).drew.frozen? ⟨wc.heap.size, 2, none⟩ = false := by simp [go_sem]
        have hs2 : (wc.alloc (.cells #[.string at0, .int .i64 bn, .slice none 0 0] 46)).drew.heap.size = wc.heap.size + 1 := by simp
        have hb3 := hbw.trans (b2.mono (Nat.le_of_lt hX2))
        have hx0 := (b2.cell (p := ⟨X, 0, none⟩) hX2).trans HXC0.out
        have hx1 := (b2.cell (p := ⟨X, 1, none⟩) hX2).trans HXC1.out
        have hx2 := (b2.cell (p := ⟨X, 2, none⟩) hX2).trans HXC2.out
        have hxf := fun j => (b2.frozen (p := ⟨X, j, none⟩) hX2).trans (HXF2.out j)
        obtain ⟨m, hm1⟩ : ∃ m, row.length - 1 = m := ⟨_, rfl⟩
        rw [hm1]
        have HM := Lib.hid (show row.length = m + 1 by omega)
        have hmm : m ≤ 100000 := by omega
        generalize (wc.alloc (.cells #[.string at0, .int .i64 bn, .slice none 0 0] 46)).drew = W2 at s0 s1 s2 s3 hs2 hb3 hx0 hx1 hx2 hxf
        obtain ⟨Y, hY⟩ : ∃ Y, wc.heap.size = Y := ⟨_, rfl⟩
        rw [hY] at s0 s1 s2 s3 hs2 hX2 ⊢
        have hXY : X ≠ Y := by omega
        have HS0 := Lib.hid s0
        have HS1 := Lib.hid s1
        have HS2 := Lib.hid s2
        have HS3 := Lib.hid s3
        have HSZ := Lib.hid hs2
        have HB3 := Lib.hid hb3
        have HZ0 := Lib.hid hx0
        have HZ1 := Lib.hid hx1
        have HZ2 := Lib.hid hx2
        have HZF := Lib.hid hxf
        clear s0 s1 s2 s3 hs2 hb3 hx0 hx1 hx2 hxf b2 d1 d2 hbw hY hm1 HXC0 HXC1 HXC2 HXF2 HX0 HX1 HX2 HXF HBW HW1 hqb1 hqb2 hX1 hz1
        go_loopw [34] (fun j wr => ∃ (q : Nat) (Au : Option Addr) (cu : Nat), q ≤ m ∧ j = .int .i64 q ∧ wr.cell? ⟨Y, 0, none⟩ = some (.string at0) ∧ wr.cell? ⟨Y, 1, none⟩ = some (.int .i64 bn) ∧ wr.cell? ⟨Y, 2, none⟩ = some (.slice Au (q - 1) cu) ∧ wr.frozen? ⟨Y, 2, none⟩ = false ∧
            wr.ownsRow (Y + 1) 2 1 (.slice Au (q - 1) cu) (q - 1) (ints (numsTo row q)) ∧ W2.grownBy wr (some Y) ∧ Hid (∀ k v, k < q → row[k + 1]? = some v → numB v = true)) (fun j _ => m - (intOf j).toNat)
        case atStart => exact ⟨0, none, 0, Nat.zero_le _, rfl, HS0.out, HS1.out, HS2.out, HS3.out, World.ownsRow_nil _ _ _ _, World.grownBy.refl _ _, fun k v h => by omega⟩
        case round =>
          obtain ⟨q, Au, cu, hq', rfl, j0, j1, j2, j3, hown, hgr, HALL⟩ := hrel
          have HOWN := Lib.hid hown
          have HG := Lib.hid hgr
          clear hown hgr
          have hYw : Y + 1 ≤ wr.heap.size := by have := HG.out.size; rw [HSZ.out] at this; exact this
          have hXw : X < wr.heap.size := by omega
          have hbr : Below X w wr := HB3.out.grown HG.out (by rw [HSZ.out]; omega) (fun j hj => by cases hj; omega)
          have neX : ∀ i, some (⟨X, i, none⟩ : Addr).block ≠ some Y := fun i e => by injection e with e; exact hXY e
          have hx0 := HG.out.cell HZ0.out (neX 0)
          have hx1 := HG.out.cell HZ1.out (neX 1)
          have hx2 := HG.out.cell HZ2.out (neX 2)
          have hxf := fun j => grown_frozen HG.out (HZF.out j) (by rw [HSZ.out]; show X < Y + 1; omega) (neX j)
          by_cases hqm : q < m
          · obtain ⟨v, hv⟩ : ∃ v, row[q + 1]? = some v := ⟨_, List.getElem?_eq_getElem (by rw [HM.out]; omega)⟩
            have hE := HV.out (q + 1) v hv
            have HVV := Lib.hid hv
            rw [show qo + (q + 1) * 3 = qo + 3 + q * 3 by omega] at hE
            have e0 := (hbr.cell (p := ⟨qb, qo + 3 + q * 3, none⟩) hqb).trans hE.kind
            have e1 := (hbr.cell (p := ⟨qb, qo + 3 + q * 3 + 1, none⟩) hqb).trans hE.n
            have e2 := (hbr.cell (p := ⟨qb, qo + 3 + q * 3 + 2, none⟩) hqb).trans hE.s
            clear hE hv
            obtain ⟨vk, hvk⟩ : ∃ x, v.kind = x := ⟨_, rfl⟩
            obtain ⟨vn, hvn⟩ : ∃ x, v.n = x := ⟨_, rfl⟩
            obtain ⟨vs, hvs⟩ : ∃ x, v.s = x := ⟨_, rfl⟩
            obtain rfl : v = ⟨vk, vn, vs⟩ := by subst hvk; subst hvn; subst hvs; rfl
            rw [hvk] at e0
            rw [hvn] at e1
            rw [hvs] at e2
            clear hvk hvn hvs
            have hne := num_eq vk vn vs
            obtain ⟨nb, hnb⟩ : ∃ b, numB ⟨vk, vn, vs⟩ = b := ⟨_, rfl⟩
            rw [hnb] at hne
            have HNB := Lib.hid hnb
            clear hnb
            go_wp2_with fail
            have z0 : (wr.alloc (.cells #[.int .i64 vk, .int .i64 vn, .string vs] 78)).cell? ⟨wr.heap.size, 0, none⟩ = some (.int .i64 vk) := World.cell?_alloc_new wr _ 78 0
            have z1 : (wr.alloc (.cells #[.int .i64 vk, .int .i64 vn, .string vs] 78)).cell? ⟨wr.heap.size, 1, none⟩ = some (.int .i64 vn) := World.cell?_alloc_new wr _ 78 1
            have z2 : (wr.alloc (.cells #[.int .i64 vk, .int .i64 vn, .string vs] 78)).cell? ⟨wr.heap.size, 2, none⟩ = some (.string vs) := World.cell?_alloc_new wr _ 78 2
            have bz : Below wr.heap.size wr (wr.alloc (.cells #[.int .i64 vk, .int .i64 vn, .string vs] 78)) := (Below.refl _ _).alloc (Nat.le_refl _) _
            have hzs : (wr.alloc (.cells #[.int .i64 vk, .int .i64 vn, .string vs] 78)).heap.size = wr.heap.size + 1 := by simp
            clear e0 e1 e2
            generalize wr.alloc (.cells #[.int .i64 vk, .int .i64 vn, .string vs] 78) = W3 at z0 z1 z2 bz hzs
            have HBZ := Lib.hid bz
            obtain ⟨Z, hZ⟩ : ∃ Z, wr.heap.size = Z := ⟨_, rfl⟩
            rw [hZ] at z0 z1 z2 hzs
            simp only [hZ]
            have hZ3 : Z < W3.heap.size := by omega
            have HZS := Lib.hid hZ
            clear bz hZ hzs
            first | (go_region_with (first
              | (go_at_call 59; (with_reducible refine (num_any vn _).mono ?_); rintro e w4 ⟨rfl, hb4⟩; have f0 := (hb4.cell (p := ⟨Z, 0, none⟩) hZ3).trans z0; have f1 := (hb4.cell (p := ⟨Z, 1, none⟩) hZ3).trans z1; have f2 := (hb4.cell (p := ⟨Z, 2, none⟩) hZ3).trans z2))) | fail
            all_goals
              have hb5 : Below wr.heap.size wr w4 := HBZ.out.trans ((undrew hb4).mono HBZ.out.size)
              have hb6 := hbr.trans (hb5.mono (Nat.le_of_lt hXw))
              have HB6 := Lib.hid (show Below w.heap.size w w4 by rw [HX.out]; exact hb6)
              have f1 := (hb4.cell (p := ⟨Z, 1, none⟩) hZ3).trans z1
              have hX4 : X < w4.heap.size := Nat.lt_of_lt_of_le hXw hb5.size
              have hY4 : Y < w4.heap.size := by have := hb5.size; omega
              have k0 := (hb5.cell (p := ⟨X, 0, none⟩) hXw).trans hx0
              have k1 := (hb5.cell (p := ⟨X, 1, none⟩) hXw).trans hx1
              have k2 := (hb5.cell (p := ⟨X, 2, none⟩) hXw).trans hx2
              have kf0 := (hb5.frozen (p := ⟨X, 0, none⟩) hXw).trans (hxf 0)
              have kf1 := (hb5.frozen (p := ⟨X, 1, none⟩) hXw).trans (hxf 1)
              have kf2 := (hb5.frozen (p := ⟨X, 2, none⟩) hXw).trans (hxf 2)
              have l0 := (hb5.cell (p := ⟨Y, 0, none⟩) hYw).trans j0
              have l1 := (hb5.cell (p := ⟨Y, 1, none⟩) hYw).trans j1
              have l2 := (hb5.cell (p := ⟨Y, 2, none⟩) hYw).trans j2
              have l3 := (hb5.frozen (p := ⟨Y, 2, none⟩) hYw).trans j3
              have oa := own_below HOWN.out hb5
              have ga := grown_below HG.out hb5
              have HOA := Lib.hid oa
              have HGA := Lib.hid ga
              clear j0 j1 j2 j3 hx0 hx1 hx2 hxf z0 z1 z2 oa ga hb5 hb6
              cases nb
              · have HE := Lib.hid (readB_num HVV.out HNB.out)
                go_wp2_with fail
                refine bodyPost_ret (v := .tuple #[.agg #[.string ⟨#[]⟩, .int .i64 0, .slice none 0 0], .bool false]) (by simp [results, Try.results57, go_sem, k0, k1, k2]) rfl ⟨?_, _, _, _, _, _, by rw [HE.out], fun h => by rw [HE.out] at h; cases h⟩
                exact ((HB6.out.setCell (Nat.le_of_eq HX.out) _).setCell (Nat.le_of_eq HX.out) _).setCell (Nat.le_of_eq HX.out) _
              · have HALL' := Lib.hid (numB_upto HALL.out HVV.out HNB.out)
                clear k0 k1 k2 kf0 kf1 kf2
                by_cases hq0 : q = 0
                · subst hq0
                  go_wp2_with fail
                  go_roundw
                  case rel => exact ⟨1, Au, cu, by omega, by go_num, l0, l1, l2, l3, by rw [numsTo_one]; rw [numsTo_zero] at HOA; exact HOA.out, HGA.out, HALL'⟩
                  case measure => simp [intOf] <;> omega
                · obtain ⟨p, rfl⟩ : ∃ p, q = p + 1 := ⟨q - 1, by omega⟩
                  rw [show p + 1 - 1 = p by omega] at l2 HOA
                  have hqp : decide ((0 : Int) < ((p + 1 : Nat) : Int)) = true := by rw [decide_eq_true_eq]; omega
                  have HNT := Lib.hid (show ints (numsTo row (p + 1 + 1)) = ints (numsTo row (p + 1)) ++ [.int .i64 vn] by rw [numsTo_succ HVV.out, ints_append]; rfl)
                  have hq1 : p + 1 ≤ maxLen := by unfold maxLen; omega
                  have hq2 : (p + 1) * 8 ≤ 140737488355328 := by omega
                  have HQ1 := Lib.hid hq1
                  have HQ2 := Lib.hid hq2
                  have L0 := alloc_cell l0 hY4
                  have L1 := alloc_cell l1 hY4
                  have L2 := alloc_cell l2 hY4
                  have L3 := alloc_frozen l3 hY4
                  have hYa : ∀ O, Y < (w4.alloc O).heap.size := fun O => by simp; omega
                  have hY1 : ∀ O, Y + 1 ≤ (w4.alloc O).heap.size := fun O => by simp; omega
                  have HY1 := Lib.hid hY1
                  clear hq1 hq2 hY1
                  go_wp2_with (first
                    | (at_builtin; refine wpList_append_own _ rfl (.tmp 48) (.tmp 51) 44 rfl (Y + 1) 2 i2 (.int .i64 0) 1 8 Try.underlying44 ki kz0 kz1 kz2 rfl (by decide) (.slice Au p cu) p _ rfl (HOA.out.alloc _) ⟨w4.heap.size, 0, none⟩ 1 1 [.int .i64 vn] rfl rfl (cells_one w4 _ 2) (one_one _) HQ1.out HQ2.out (HY1.out _) ?_))
                  intro v' w5 hown' hgrow' _
                  obtain ⟨g, cp, rfl, hgl, hgh⟩ := hown'.form (Nat.succ_pos _)
                  have hne' : ∀ (a : Addr), a.block = Y → some a.block ≠ (Value.slice Au p cu).ownBlock := fun a ha e => by rw [ha] at e; have := (HOA.out.lt Y e.symm).1; omega
                  have m0 := hgrow'.cell (L0 _) (hne' _ rfl)
                  have m1 := hgrow'.cell (L1 _) (hne' _ rfl)
                  have m2 := hgrow'.cell (L2 _) (hne' _ rfl)
                  have m3 := grown_frozen hgrow' (L3 _) (hYa _) (hne' _ rfl)
                  have g5 := (grown_then (grown_then HGA.out (World.grownBy_alloc w4 (.cells #[.int .i64 vn] 2) none) (fun _ h => by cases h)) hgrow' (fun j hj => by have := (HOA.out.lt j hj).1; rw [HSZ.out]; exact this)).andThen (World.grownBy_set w5 Y 2 (.slice (some ⟨g, 0, none⟩) (p + 1) cp)) (fun j hj => .inr hj)
                  have own5 := hown'.kept (World.grownBy_set w5 Y 2 (.slice (some ⟨g, 0, none⟩) (p + 1) cp)) (.inr (by simp [Value.ownBlock]; omega))
                  rw [← HNT.out] at own5
                  have n0 := (World.cell?_setCell_other w5 ⟨Y, 2, none⟩ ⟨Y, 0, none⟩ (.slice (some ⟨g, 0, none⟩) (p + 1) cp) (by simp)).trans m0
                  have n1 := (World.cell?_setCell_other w5 ⟨Y, 2, none⟩ ⟨Y, 1, none⟩ (.slice (some ⟨g, 0, none⟩) (p + 1) cp) (by simp)).trans m1
                  have n2 := World.cell?_setCell_same w5 ⟨Y, 2, none⟩ (.slice (some ⟨g, 0, none⟩) (p + 1) cp) m2
                  have n3 := (World.frozen?_setCell w5 ⟨Y, 2, none⟩ ⟨Y, 2, none⟩ (.slice (some ⟨g, 0, none⟩) (p + 1) cp)).trans m3
                  have G5 := Lib.hid g5
                  have OWN5 := Lib.hid own5
                  have N0 := Lib.hid n0
                  have N1 := Lib.hid n1
                  have N2 := Lib.hid n2
                  have N3 := Lib.hid n3
                  clear g5 own5 n0 n1 n2 n3 hown' hgrow' hne' L0 L1 L2 L3 m0 m1 l0 l1 l2 l3
                  go_wp2_with fail
                  go_roundw
                  case rel => exact ⟨p + 1 + 1, _, _, by omega, by go_num, N0.out, N1.out, N2.out, N3.out, OWN5.out, G5.out, HALL'⟩
                  case measure => simp [intOf] <;> omega
          · obtain rfl : q = m := by omega
            obtain ⟨L, hL⟩ : ∃ L, numsTo row q = L := ⟨_, rfl⟩
            have hLl : L.length = q - 1 := by rw [← hL]; exact numsTo_length (by rw [HM.out]; omega)
            have HHS := Lib.hid (show headSt row = ⟨at0, bn, L⟩ by
              have e1 := HV0.out
              have e2 := HV1.out
              have e3 := HBN.out
              unfold headSt
              rw [List.getD_eq_getElem?_getD, List.getD_eq_getElem?_getD, e1, e2, ← numsTo_all q (by rw [HM.out]; exact Nat.le_refl _), hL]
              simp [e3])
            rw [hL] at HOWN
            have hseq := ints_seq HOWN.out hLl
            obtain ⟨Au', cu', eu, hsq⟩ := hseq
            injection eu with eu1 eu2 eu3
            subst eu1; subst eu3
            have HRB := Lib.hid (show readB row = mayF ⟨at0, bn, L⟩ by rw [readB_all (by omega) HV0.out HSB.out (fun k v hv => HALL.out k v (by have := (List.getElem?_eq_some_iff.1 hv).1; rw [HM.out] at this; omega) hv), HHS.out])
            rw [← hLl] at j2 HOWN
            obtain ⟨mb, hmb⟩ : ∃ mb, mayF ⟨at0, bn, L⟩ = mb := ⟨_, rfl⟩
            have hMC : ∀ W, SeqAt IntE 1 W Au L → Calls Try.prog 69 #[.agg #[.string at0, .int .i64 bn, .slice Au L.length cu]] W fun e w' => e = .returned (.bool mb) ∧ Below W.heap.size W w' := fun W h => by
              rw [← hmb]; exact may_any at0 bn L Au cu W h (by rw [hLl]; unfold maxLen; omega) (HV.out 0 _ HV0.out).sz
            rw [hmb] at HRB
            have HMC := Lib.hid hMC
            have HSQ := Lib.hid (hsq.below IntE.stays ((Below.refl wr.heap.size wr).drew))
            have hYd : Y < wr.drew.heap.size := hYw
            have hXd : X < wr.drew.heap.size := hXw
            have HLL := Lib.hid hLl
            clear hMC hsq hL hmb hLl neX
            go_wp2_with fail
            go_region_held3 (fun w' => w'.cell? ⟨Y, 0, none⟩ = some (.string at0) ∧ w'.cell? ⟨Y, 1, none⟩ = some (.int .i64 bn) ∧ w'.cell? ⟨Y, 2, none⟩ = some (.slice Au L.length cu)) (go_keep) (first
              | (go_at_call 69; (with_reducible refine (HMC.out _ HSQ.out).mono ?_); rintro e w4 ⟨rfl, hb4⟩;
                  have l0 := (hb4.cell (p := ⟨Y, 0, none⟩) hYd).trans j0; have l1 := (hb4.cell (p := ⟨Y, 1, none⟩) hYd).trans j1; have l2 := (hb4.cell (p := ⟨Y, 2, none⟩) hYd).trans j2;
                  have k0 := (hb4.cell (p := ⟨X, 0, none⟩) hXd).trans hx0; have k1 := (hb4.cell (p := ⟨X, 1, none⟩) hXd).trans hx1; have k2 := (hb4.cell (p := ⟨X, 2, none⟩) hXd).trans hx2;
                  have kf0 := (hb4.frozen (p := ⟨X, 0, none⟩) hXd).trans (hxf 0); have kf1 := (hb4.frozen (p := ⟨X, 1, none⟩) hXd).trans (hxf 1); have kf2 := (hb4.frozen (p := ⟨X, 2, none⟩) hXd).trans (hxf 2)))
            go_wp2_with fail
            have hno : (Value.slice Au L.length cu).ownBlock ≠ some X := fun e => by have := (HOWN.out.lt X e).1; omega
            have own4 := (((own_below HOWN.out.drew hb4).kept (World.grownBy_set w4 X 0 (.string at0)) (.inr hno)).kept (World.grownBy_set _ X 1 (.int .i64 bn)) (.inr hno)).kept (World.grownBy_set _ X 2 (.slice Au L.length cu)) (.inr hno)
            have hb7 : Below w.heap.size w w4 := by rw [HX.out]; exact hbr.trans ((undrew hb4).mono (Nat.le_of_lt hXw))
            refine bodyPost_ret (v := .tuple #[.agg #[.string at0, .int .i64 bn, .slice Au L.length cu], .bool mb]) (by simp [results, Try.results57, go_sem, k0, k1, k2]) rfl ⟨?_, _, _, _, _, _, by rw [HRB.out], fun _ => by rw [HHS.out]; exact ⟨rfl, rfl, own_base' own4 (by rw [HX.out]; omega)⟩⟩
            exact ((hb7.setCell (Nat.le_of_eq HX.out) _).setCell (Nat.le_of_eq HX.out) _).setCell (Nat.le_of_eq HX.out) _

end Go.Proofs.Ytpalbdjcfhlniaa
