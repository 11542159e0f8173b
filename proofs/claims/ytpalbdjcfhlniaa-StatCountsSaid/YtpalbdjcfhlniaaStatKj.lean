/- The walk over the document's Of. -/
import Derived.Test.YtpalbdjcfhlniaaStatKi
import Derived.Deep.RegionHeld3
namespace Go.Proofs.Ytpalbdjcfhlniaa
open Go.RowKit

theorem news1 (w : World) (O : Obj) (u0 : Value) (e : TypeId) : ∀ (j : Nat) (u : Value), [u0][j]? = some u → ((w.alloc O).alloc (.cells #[u0] e)).cell? ((⟨w.heap.size + 1, 0, none⟩ : Addr).add j) = some u := fun j u hj => by
  match j, hj with
  | 0, hj =>
    simp at hj; subst hj
    have := World.cell?_alloc_new (w.alloc O) #[u0] e 0
    rwa [show (w.alloc O).heap.size = w.heap.size + 1 by simp] at this

theorem cell1 (w : World) (u0 : Value) (e : TypeId) : ∀ (j : Nat) (u : Value), [u0][j]? = some u → (w.alloc (.cells #[u0] e)).cell? ((⟨w.heap.size, 0, none⟩ : Addr).add j) = some u := fun j u hj => by
  match j, hj with
  | 0, hj => simp at hj; subst hj; exact World.cell?_alloc_new w _ e 0
theorem one1 (A : Option Addr) (n c : Nat) : ∀ u ∈ [Value.slice A n c], u.oneCell' = true := fun u hu => by simp at hu; subst hu; rfl

theorem own_lt {w : World} {B e s n b : Nat} {v : Value} {xs : List Value} (h : w.ownsRow B e s v n xs) (hb : b < B) : some b ≠ v.ownBlock := fun e => by have := (h.lt b e.symm).1; omega

theorem unlike_of {l : List (List Vl)} {keys : List Ky} {nl nk N : Nat} {A AK : Option Addr} (hl : l.length = nl) (hk : keys.length = nk) (hN : unlikeTo keys l l.length = N) (W : World) (cA ck : Nat) (h1 : SeqAt RowE 1 W A l) (h2 : SeqAt KeyE 3 W AK keys) (hm : nl ≤ 1000) (hr : ∀ r ∈ l, r.length ≤ maxLen) (hmk : nk ≤ 100) (hc : ∀ k ∈ keys, k.coll = 0 ∨ k.coll = 1) :
    Calls Try.prog 55 #[.slice A nl cA, .slice AK nk ck] W fun e w' => e = .returned (.int .i64 N) ∧ Below W.heap.size W w' := by
  subst hl; subst hk; subst hN
  exact unlike_any l keys A AK cA ck W h1 h2 hm hr hmk hc
theorem keys_coll {ics : List Ic} (h : ∀ c ∈ ics, c.coll = 0 ∨ c.coll = 1) : ∀ k ∈ keysF ics, k.coll = 0 ∨ k.coll = 1 := fun k hk => by
  unfold keysF keysTo at hk
  rcases List.mem_append.1 hk with h1 | h1
  · obtain ⟨i, hi, rfl⟩ := List.mem_mapIdx.1 h1
    exact h _ (List.mem_of_mem_take (List.getElem_mem _))
  · simp at h1; subst h1; exact .inl rfl

theorem fits_vals {tabs : List Tb} {idxs : List Ix} {all : List (List (List Vl))} (h : RightP tabs idxs all) (ha : AllOk all) : ∀ R ∈ all, ∀ r ∈ R, ∀ v ∈ r, Val1 v := fun R hR r hr v hv => by
  obtain ⟨t, _, hp⟩ := right_vals h R hR
  exact ⟨(hp.2.2.2.2 r hr).2 v hv, (((ha.2 R hR).2 r hr).2 v hv).2⟩

set_option maxHeartbeats 16000000 in
set_option maxRecDepth 100000 in
theorem rof_any (tabs : List Tb) (idxs : List Ix) (all : List (List (List Vl))) (AT AX AR : Option Addr) (cT cX cR : Nat) (w : World) (hp : RightP tabs idxs all) (hok : AllOk all)
    (ht : SeqAt TabE 4 w AT tabs) (hx : SeqAt IdxE 5 w AX idxs) (hr : SeqAt RowsE 1 w AR all) :
    Calls Try.prog 28 #[.agg #[.slice AT tabs.length cT, .slice AX idxs.length cX, .slice AR all.length cR]] w fun e w' => ∃ A c, e = .returned (.slice A (ofF tabs idxs all).length c) ∧ SeqAt StatE 3 w' A (ofF tabs idxs all) ∧ Below w.heap.size w w' := by
  obtain ⟨i46, ji, jz0, jz1, jz2⟩ := info_parts Try.info46
  obtain ⟨i2, ki, kz0, kz1, kz2⟩ := info_parts Try.info2
  obtain ⟨i66, li, lz0, lz1, lz2⟩ := info_parts Try.info66
  have HT := Lib.hid ht
  have HX := Lib.hid hx
  have HR := Lib.hid hr
  have HP := Lib.hid hp
  have HVAL := Lib.hid (fits_vals hp hok)
  have HAL := Lib.hid hp.len
  have hnt := hp.nt
  have hnx := hp.nx
  have hna : all.length ≤ 6 := by have := hp.len; omega
  have HPL := Lib.hid (fun (W : World) (h : Below w.heap.size w W) (name : ByteArray) (hz : name.size ≤ maxLen) => place_any tabs AT AX AR cT idxs.length cX all.length cR name W (ht.below TabE.stays h) (by unfold maxLen; omega) hz)
  clear ht hx hr hp hok
  rw [HAL.out] at HPL hna ⊢
  go_enter Try.func28, Try.ntmps28
  go_wp2_with fail
  have hb0 : Below w.heap.size w (w.alloc (.cells #[.slice AT tabs.length cT, .slice AX idxs.length cX, .slice AR tabs.length cR] 53)) := (Below.refl _ _).alloc (Nat.le_refl _) _
  have d0 : (w.alloc (.cells #[.slice AT tabs.length cT, .slice AX idxs.length cX, .slice AR tabs.length cR] 53)).cell? ⟨w.heap.size, 0, none⟩ = some (.slice AT tabs.length cT) := World.cell?_alloc_new w _ 53 0
  have d1 : (w.alloc (.cells #[.slice AT tabs.length cT, .slice AX idxs.length cX, .slice AR tabs.length cR] 53)).cell? ⟨w.heap.size, 1, none⟩ = some (.slice AX idxs.length cX) := World.cell?_alloc_new w _ 53 1
  have d2 : (w.alloc (.cells #[.slice AT tabs.length cT, .slice AX idxs.length cX, .slice AR tabs.length cR] 53)).cell? ⟨w.heap.size, 2, none⟩ = some (.slice AR tabs.length cR) := World.cell?_alloc_new w _ 53 2
  have hz : (w.alloc (.cells #[.slice AT tabs.length cT, .slice AX idxs.length cX, .slice AR tabs.length cR] 53)).heap.size = w.heap.size + 1 := by simp
  generalize w.alloc (.cells #[.slice AT tabs.length cT, .slice AX idxs.length cX, .slice AR tabs.length cR] 53) = w1 at hb0 d0 d1 d2 hz
  obtain ⟨X, hX⟩ : ∃ X, w.heap.size = X := ⟨_, rfl⟩
  obtain ⟨B, hB⟩ : ∃ B, w1.heap.size = B := ⟨_, rfl⟩
  rw [hX] at d0 d1 d2 hz
  rw [hB] at hz
  simp only [hX]
  have hXB : X < B := by omega
  have HWX := Lib.hid hX
  have HWB := Lib.hid hB
  have HB0 := Lib.hid hb0
  have D0 := Lib.hid d0
  have D1 := Lib.hid d1
  have D2 := Lib.hid d2
  clear hb0 d0 d1 d2 hz hX hB
  go_loopw [3, 4] (fun o i wr => ∃ (k : Nat) (us : List Value), k ≤ tabs.length ∧ i = .int .i64 k ∧ OutOwn wr B wr.heap.size o ((tabStats tabs all).take k) us ∧ Below B w1 wr) (fun _ i _ => tabs.length - (intOf i).toNat)
  case atStart => exact ⟨0, [], Nat.zero_le _, rfl, OutOwn.nil _ _ _, Below.refl _ _⟩
  case round =>
    obtain ⟨k, us, hk, rfl, hout, hbel⟩ := hrel
    have HO := Lib.hid hout
    have hBw : B ≤ wr.heap.size := by have := hbel.size; rw [HWB.out] at this; exact this
    have hbw : Below w.heap.size w wr := HB0.out.trans (hbel.mono (by rw [HWX.out]; omega))
    have x0 := (hbel.cell (p := ⟨X, 0, none⟩) hXB).trans D0.out
    have x1 := (hbel.cell (p := ⟨X, 1, none⟩) hXB).trans D1.out
    have x2 := (hbel.cell (p := ⟨X, 2, none⟩) hXB).trans D2.out
    clear hout
    by_cases hlt : k < tabs.length
    · obtain ⟨a, qb, qo, t, rfl, hq, hql, hsk, hE⟩ := HT.out.get k hlt
      have HSK := Lib.hid hsk
      have c0 := (hbw.cell (p := ⟨qb, qo, none⟩) hql).trans hE.name
      clear hE hsk
      obtain ⟨nm, hnm⟩ : ∃ v, t.name = v := ⟨_, rfl⟩
      have HN := Lib.hid hnm
      rw [hnm] at c0
      clear hnm
      have hll : ((tabStats tabs all).take k).length = k := by rw [List.length_take, tabStats_length]; omega
      obtain ⟨L, hL⟩ : ∃ L, (tabStats tabs all).take k = L := ⟨_, rfl⟩
      have HLE := Lib.hid hL
      rw [hL] at hll HO
      have HLL := Lib.hid hll
      clear hll hL
      obtain ⟨p, rb, ro, rs, rfl, hrq, hrql, hrr, u, hu', A3, c3', rfl, _⟩ := HR.out.get k (by rw [HAL.out]; exact hlt)
      rw [Nat.mul_one] at hrq
      have hu := (hbw.cell (p := ⟨rb, ro, none⟩) hrql).trans hu'
      have hrl : rs.length ≤ 40 := by
        obtain ⟨t', _, hp⟩ := right_vals HP.out rs (List.mem_of_getElem? hrr)
        exact hp.2.1
      have HS : Hid (tabSt all t k = ⟨nm, rs.length, [(rs.length : Int)]⟩) := by show _ = _; simp only [tabSt, rowsAt, List.getD_eq_getElem?_getD, hrr, HN.out]; rfl
      clear hu' hrr hbw
      have hul : ((wr.alloc (.cells #[.int .i64 (rs.length : Int)] 2)).alloc (.cells #[.string nm, .int .i64 (rs.length : Int), .slice (some ⟨wr.heap.size, 0, none⟩) 1 1] 46)).ownsRow B 2 1 (.slice (some ⟨wr.heap.size, 0, none⟩) 1 1) 1 [.int .i64 (rs.length : Int)] :=
        (World.ownsRow_lit (base := B) (e := 2) (size := 1) wr #[.int .i64 (rs.length : Int)] 1 hBw (by decide) rfl).alloc _
      have HUL := Lib.hid hul
      obtain ⟨nr, hnr⟩ : ∃ n, rs.length = n := ⟨_, rfl⟩
      rw [hnr] at hu hrl HS HUL
      have hl1 : k + 1 ≤ maxLen := by unfold maxLen; omega
      have hl2 : (k + 1) * 48 ≤ 140737488355328 := by omega
      have HL1 := Lib.hid hl1
      have HL2 := Lib.hid hl2
      rw [← HLL.out] at HL1 HL2
      clear hul hnr hl1 hl2
      go_wp2_with (first
        | (at_builtin; refine wpList_append_own _ rfl (.tmp 26) (.tmp 37) 43 rfl B 46 i46 (.agg #[.string ⟨#[]⟩, .int .i64 0, .slice none 0 0]) 3 48 Try.underlying43 ji jz0 jz1 jz2 rfl (by decide) _ L.length _ rfl ((HO.out.row.alloc _).alloc _) ⟨wr.heap.size + 1, 0, none⟩ 1 1 [.string nm, .int .i64 nr, .slice (some ⟨wr.heap.size, 0, none⟩) 1 1] rfl rfl ?c1 ?c2 HL1.out HL2.out ?c5 ?_))
      case c1 =>
        intro j u hj
        match j, hj with
        | 0, hj => simp at hj; subst hj; simp [Addr.add, go_sem]
        | 1, hj => simp at hj; subst hj; simp [Addr.add, go_sem]
        | 2, hj => simp at hj; subst hj; simp [Addr.add, go_sem]
      case c2 => intro u hu; simp at hu; rcases hu with rfl | rfl | rfl <;> rfl
      case c5 => simp <;> omega
      intro v' w3 hown' hgrow _
      have HPU : Hid (OutOwn w3 B w3.heap.size v' ((tabStats tabs all).take (k + 1)) (us ++ [.slice (some ⟨wr.heap.size, 0, none⟩) 1 1])) := by
        show OutOwn _ _ _ _ _ _
        rw [tabStats_take HSK.out, HS.out, HLE.out]
        exact ((HO.out.alloc _).alloc _).push (s := ⟨nm, nr, [(nr : Int)]⟩) HUL.out hgrow hown'
      have hB3 : Below B w1 w3 := ((hbel.alloc hBw _).alloc (by simp; omega) _).grown hgrow (by simp; omega) (fun g hg => (HO.out.row.lt g hg).1)
      clear hown' hgrow x0 x1 x2 hu c0
      go_wp2_with fail
      go_roundw
      case rel => exact ⟨k + 1, _, by omega, by go_num, HPU.out, hB3⟩
      case measure => simp [intOf] <;> omega
    · obtain rfl : k = tabs.length := by omega
      have hout := HO.out
      rw [List.take_of_length_le (by rw [tabStats_length]; exact Nat.le_refl _)] at hout
      have HO1 := Lib.hid hout
      have HBEL := Lib.hid hbel
      clear hout HO hbel hbw hBw
      go_wp2_with fail
      clear x0 x1 x2
      go_loopw [3, 6] (fun o i wr => ∃ (m : Nat) (us : List Value), m ≤ idxs.length ∧ i = .int .i64 m ∧ OutOwn wr B wr.heap.size o (tabStats tabs all ++ (idxs.take m).map (idxSt tabs all)) us ∧ Below B w1 wr) (fun _ i _ => idxs.length - (intOf i).toNat)
      case atStart => exact ⟨0, us, Nat.zero_le _, rfl, by simpa using HO1.out, HBEL.out⟩
      case round =>
        obtain ⟨m, us', hm', rfl, hout, hbel⟩ := hrel
        clear HO1 HBEL
        obtain ⟨L, hL⟩ : ∃ L, tabStats tabs all ++ (idxs.take m).map (idxSt tabs all) = L := ⟨_, rfl⟩
        have hll : L.length ≤ 12 := by rw [← hL, List.length_append, tabStats_length, List.length_map, List.length_take]; omega
        rw [hL] at hout
        have HLE := Lib.hid hL
        clear hL
        have HO := Lib.hid hout
        have hBw : B ≤ wr.heap.size := by have := hbel.size; rw [HWB.out] at this; exact this
        have hbw : Below w.heap.size w wr := HB0.out.trans (hbel.mono (by rw [HWX.out]; omega))
        have x0 := (hbel.cell (p := ⟨X, 0, none⟩) hXB).trans D0.out
        have x1 := (hbel.cell (p := ⟨X, 1, none⟩) hXB).trans D1.out
        have x2 := (hbel.cell (p := ⟨X, 2, none⟩) hXB).trans D2.out
        clear hout
        by_cases hmi : m < idxs.length
        · obtain ⟨a, qb, qo, x, rfl, hq, hql, hsk, hE⟩ := HX.out.get m hmi
          obtain ⟨u, c2', AC, cC, rfl, hics⟩ := hE.cols
          have HICS := Lib.hid hics
          have HSK := Lib.hid hsk
          have HTZ := Lib.hid hE.tz
          have HXP := Lib.hid (HP.out.idx x (List.mem_of_getElem? hsk))
          have c0 := (hbw.cell (p := ⟨_, _, none⟩) hql).trans hE.name
          have c1 := (hbw.cell (p := ⟨_, _, none⟩) hql).trans hE.table
          have c2 := (hbw.cell (p := ⟨_, _, none⟩) hql).trans c2'
          have c3 := (hbw.cell (p := ⟨_, _, none⟩) hql).trans hE.unique
          have c4 := (hbw.cell (p := ⟨_, _, none⟩) hql).trans hE.root
          have hicl := HXP.out.1
          clear hE hsk hics c2'
          have HPT := Lib.hid (place_table (name := x.table) HAL.out)
          have HIS0 := Lib.hid (fun (tt : Tb) (rows : List (List Vl)) (h : tableF tabs all x.table = (tt, rows)) => show idxSt tabs all x = ⟨x.name, rows.length, unlikesTo tt.cols rows x.cols x.cols.length ++ [(rows.length : Int)]⟩ by simp only [idxSt, h])
          obtain ⟨xn, hxn⟩ : ∃ v, x.name = v := ⟨_, rfl⟩
          obtain ⟨xt, hxt⟩ : ∃ v, x.table = v := ⟨_, rfl⟩
          obtain ⟨xu, hxu⟩ : ∃ v, x.unique = v := ⟨_, rfl⟩
          obtain ⟨xr, hxr⟩ : ∃ v, x.root = v := ⟨_, rfl⟩
          obtain ⟨ics, hic⟩ : ∃ v, x.cols = v := ⟨_, rfl⟩
          rw [hxn] at c0 HIS0
          rw [hxt] at c1 HTZ HPT HIS0
          rw [hxu] at c3
          rw [hxr] at c4
          rw [hic] at c2 hicl HICS HIS0
          have HIC := Lib.hid hic
          clear hxn hxt hxu hxr hic
          have HKEYS := Lib.hid (fun (W : World) (h : Below w.heap.size w W) => keys_any xn xt xr xu ics AC cC W (HICS.out.below IcE.stays h) (by omega))
          have HPC := Lib.hid (fun (W : World) (h : Below w.heap.size w W) => HPL.out W h xt HTZ.out)
          have bZ : Below wr.heap.size wr (wr.alloc (.cells #[.string xn, .string xt, .slice AC ics.length cC, .bool xu, .int .i64 xr] 89)) := (Below.refl _ _).alloc (Nat.le_refl _) _
          have z0 : (wr.alloc (.cells #[.string xn, .string xt, .slice AC ics.length cC, .bool xu, .int .i64 xr] 89)).cell? ⟨wr.heap.size, 0, none⟩ = some (.string xn) := World.cell?_alloc_new wr _ 89 0
          have z1 : (wr.alloc (.cells #[.string xn, .string xt, .slice AC ics.length cC, .bool xu, .int .i64 xr] 89)).cell? ⟨wr.heap.size, 1, none⟩ = some (.string xt) := World.cell?_alloc_new wr _ 89 1
          have z2 : (wr.alloc (.cells #[.string xn, .string xt, .slice AC ics.length cC, .bool xu, .int .i64 xr] 89)).cell? ⟨wr.heap.size, 2, none⟩ = some (.slice AC ics.length cC) := World.cell?_alloc_new wr _ 89 2
          have z3 : (wr.alloc (.cells #[.string xn, .string xt, .slice AC ics.length cC, .bool xu, .int .i64 xr] 89)).cell? ⟨wr.heap.size, 3, none⟩ = some (.bool xu) := World.cell?_alloc_new wr _ 89 3
          have z4 : (wr.alloc (.cells #[.string xn, .string xt, .slice AC ics.length cC, .bool xu, .int .i64 xr] 89)).cell? ⟨wr.heap.size, 4, none⟩ = some (.int .i64 xr) := World.cell?_alloc_new wr _ 89 4
          have y0 := alloc_cell x0 (show X < wr.heap.size by omega) (.cells #[.string xn, .string xt, .slice AC ics.length cC, .bool xu, .int .i64 xr] 89)
          have y1 := alloc_cell x1 (show X < wr.heap.size by omega) (.cells #[.string xn, .string xt, .slice AC ics.length cC, .bool xu, .int .i64 xr] 89)
          have y2 := alloc_cell x2 (show X < wr.heap.size by omega) (.cells #[.string xn, .string xt, .slice AC ics.length cC, .bool xu, .int .i64 xr] 89)
          have hzs : (wr.alloc (.cells #[.string xn, .string xt, .slice AC ics.length cC, .bool xu, .int .i64 xr] 89)).heap.size = wr.heap.size + 1 := by simp
          have HBZ := Lib.hid (hbw.trans (bZ.mono hbw.size))
          have HB1Z := Lib.hid (hbel.trans (bZ.mono hBw))
          have HOZ := Lib.hid (HO.out.below bZ)
          go_upto_region 11 with fail
          clear c0 c1 c2 c3 c4 x0 x1 x2 bZ
          generalize wr.alloc (.cells #[.string xn, .string xt, .slice AC ics.length cC, .bool xu, .int .i64 xr] 89) = W2 at z0 z1 z2 z3 z4 y0 y1 y2 hzs HBZ HB1Z HOZ
          obtain ⟨Z, hZ⟩ : ∃ Z, wr.heap.size = Z := ⟨_, rfl⟩
          rw [hZ] at z0 z1 z2 z3 z4 hzs HOZ hBw
          simp only [hZ]
          have hZ2 : Z < W2.heap.size := by omega
          have hX2 : X < W2.heap.size := by omega
          clear hZ hbel hbw HO
          rcases HPT.out with ⟨p1, p2⟩ | ⟨i, t, R, p1, p2, p3, p4⟩
          · rw [p1] at HPC
            have HIS := Lib.hid (HIS0.out tb0 [] p2)
            have HRV : Hid (∀ r ∈ ([] : List (List Vl)), ∀ v ∈ r, Val1 v) := fun r hr => by simp at hr
            have hlenR : ([] : List (List Vl)).length ≤ 40 := by decide
            obtain ⟨cols, hcl⟩ : ∃ v, tb0.cols = v := ⟨_, rfl⟩
            rw [hcl] at HIS
            clear hcl p1 p2
            have hBw2 : B ≤ W2.heap.size := by omega
            go_wp2_with (first
              | (go_at_call 53; (with_reducible refine (HPC.out _ HBZ.out).mono ?_); rintro e w3 ⟨rfl, hb3⟩))
            obtain ⟨B2, hB2⟩ : ∃ B2, w3.heap.size = B2 := ⟨_, rfl⟩
            have HB2E := Lib.hid hB2
            have HW3 := Lib.hid (HBZ.out.trans (hb3.mono HBZ.out.size))
            have HB13 := Lib.hid (HB1Z.out.trans (hb3.mono hBw2))
            have HO3 := Lib.hid (HOZ.out.below hb3)
            have hs3 := hb3.size
            rw [hB2] at hs3
            have hXB2 : X < B2 := Nat.lt_of_lt_of_le hX2 hs3
            have hZB2 : Z < B2 := Nat.lt_of_lt_of_le hZ2 hs3
            have hwB2 : w.heap.size ≤ B2 := by rw [HWX.out]; omega
            have Y0 := Lib.hid ((hb3.cell (p := ⟨X, 0, none⟩) hX2).trans y0)
            have Y1 := Lib.hid ((hb3.cell (p := ⟨X, 1, none⟩) hX2).trans y1)
            have Y2 := Lib.hid ((hb3.cell (p := ⟨X, 2, none⟩) hX2).trans y2)
            have Z0 := Lib.hid ((hb3.cell (p := ⟨Z, 0, none⟩) hZ2).trans z0)
            have Z1 := Lib.hid ((hb3.cell (p := ⟨Z, 1, none⟩) hZ2).trans z1)
            have Z2 := Lib.hid ((hb3.cell (p := ⟨Z, 2, none⟩) hZ2).trans z2)
            have Z3 := Lib.hid ((hb3.cell (p := ⟨Z, 3, none⟩) hZ2).trans z3)
            have Z4 := Lib.hid ((hb3.cell (p := ⟨Z, 4, none⟩) hZ2).trans z4)
            have hBB2 : B ≤ B2 := by omega
            have hZU : Z + 1 ≤ B2 := by omega
            clear y0 y1 y2 z0 z1 z2 z3 z4 hb3 hB2
            go_loopw [9, 10] (fun l i wr => ∃ vs : List Value, i = .int .i64 0 ∧ RecOwn wr B2 wr.heap.size l (([] : List (List Vl)).map fun r => recF cols r ics) vs ∧ Below B2 w3 wr) (fun _ _ _ => 0)
            case atStart => exact ⟨[], rfl, RecOwn.nil _ _ _, Below.refl _ _⟩
            case round =>
              obtain ⟨vs, rfl, hrec, hB⟩ := hrel
              have HRO := Lib.hid hrec
              clear hrec
              have hseen := HRO.out.seen (fun r hr v hv => by
                obtain ⟨r', hr', rfl⟩ := List.mem_map.1 hr
                exact Nat.le_trans (recF_size (S := 4096) (fun v hv => mayV_size (HRV.out r' hr' v hv).1) v hv) (by unfold maxLen; decide))
              have hlens : ∀ r ∈ (([] : List (List Vl))).map (fun r => recF cols r ics), r.length ≤ maxLen := fun r hr => by
                obtain ⟨r', hr', rfl⟩ := List.mem_map.1 hr
                rw [recF_length]; unfold maxLen; omega
              have hL3l : ((([] : List (List Vl))).map (fun r => recF cols r ics)).length = (([] : List (List Vl))).length := by rw [List.length_map]
              have HUC := Lib.hid (fun (q : Nat) (hq : q ≤ ics.length) => unlike_counts (cols := cols) (ics := ics) (k := q) hq HRV.out)
              obtain ⟨nl, hnl⟩ : ∃ v, (([] : List (List Vl))).length = v := ⟨_, rfl⟩
              rw [hnl] at HUC HIS hL3l
              have hnl40 : nl ≤ 40 := by rw [← hnl]; exact hlenR
              obtain ⟨L3, hL3⟩ : ∃ v, (([] : List (List Vl))).map (fun r => recF cols r ics) = v := ⟨_, rfl⟩
              rw [hL3] at HRO hseen hlens hL3l HUC
              clear hnl hL3
              obtain ⟨Al, cl, hlv, hAl⟩ := hseen
              rw [hL3l] at hlv
              subst hlv
              have HL3L := Lib.hid hL3l
              have HLENS := Lib.hid hlens
              have HAL3 := Lib.hid hAl
              have HKC := Lib.hid (fun k (hk : k ∈ keysF ics) => show k.coll = 0 ∨ k.coll = 1 from keys_coll (by rw [← HIC.out]; exact HXP.out.2.2.2) k hk)
              have HKL := Lib.hid (show (keysF ics).length = ics.length + 1 by unfold keysF; rw [List.length_append, keysTo_length (Nat.le_refl _)]; rfl)
              have HUNL := Lib.hid (fun (W : World) (q : Nat) (hq : q ≤ ics.length) (AK : Option Addr) (ck : Nat) (h1 : SeqAt RowE 1 W Al L3) (h2 : SeqAt KeyE 3 W AK (keysF ics)) =>
                unlike_of (l := L3) (keys := (keysF ics).take q) (nl := nl) (nk := q) (N := countsF cols ([] : List (List Vl)) (ics.take q)) HL3L.out (by rw [List.length_take, HKL.out]; omega) (by rw [keysF_take hq, HL3L.out]; exact HUC.out q hq) W cl ck h1 (h2.take q) (by omega) HLENS.out (by omega) (fun k hk => HKC.out k (List.mem_of_mem_take hk)))
              clear hlens hL3l hAl
              obtain ⟨wo, rfl⟩ : ∃ wo : World, wo = wr := ⟨_, rfl⟩
              have HO4 := Lib.hid (HO3.out.below (by rw [HB2E.out]; exact hB))
              have hbwo : Below w.heap.size w wo := HW3.out.trans (hB.mono (by rw [HWX.out]; omega))
              have hbw1 : Below B w1 wo := HB13.out.trans (hB.mono hBB2)
              have hwoB : B2 ≤ wo.heap.size := by have := hB.size; rw [HB2E.out] at this; exact this
              have z0 := (hB.cell (p := ⟨Z, 0, none⟩) hZB2).trans Z0.out
              have z1 := (hB.cell (p := ⟨Z, 1, none⟩) hZB2).trans Z1.out
              have z2 := (hB.cell (p := ⟨Z, 2, none⟩) hZB2).trans Z2.out
              have z3 := (hB.cell (p := ⟨Z, 3, none⟩) hZB2).trans Z3.out
              have z4 := (hB.cell (p := ⟨Z, 4, none⟩) hZB2).trans Z4.out
              go_wp2_with fail
              obtain ⟨OS, hOS⟩ : ∃ OS, Obj.cells #[.string xn, .int .i64 nl, .slice none 0 0] 46 = OS := ⟨_, rfl⟩
              have hs2 : (wo.alloc OS).heap.size = wo.heap.size + 1 := by simp
              have s0 : (wo.alloc OS).cell? ⟨wo.heap.size, 0, none⟩ = some (.string xn) := by rw [← hOS]; exact World.cell?_alloc_new _ _ 46 0
              have s1 : (wo.alloc OS).cell? ⟨wo.heap.size, 1, none⟩ = some (.int .i64 nl) := by rw [← hOS]; exact World.cell?_alloc_new _ _ 46 1
              have s2 : (wo.alloc OS).cell? ⟨wo.heap.size, 2, none⟩ = some (.slice none 0 0) := by rw [← hOS]; exact World.cell?_alloc_new _ _ 46 2
              have s3 : (wo.alloc OS).frozen? ⟨wo.heap.size, 2, none⟩ = false := by rw [← hOS]; simp [go_sem]
              have hbS : Below wo.heap.size wo (wo.alloc OS) := (Below.refl _ _).alloc (Nat.le_refl _) OS
              have HO5 := Lib.hid (HO4.out.below hbS)
              have hbw2 := hbw1.trans (hbS.mono (show B ≤ wo.heap.size by omega))
              rw [hOS]
              clear hOS
              generalize wo.alloc OS = W4 at s0 s1 s2 s3 hbS HO5 hbw2 hs2
              obtain ⟨S, hS⟩ : ∃ S, wo.heap.size = S := ⟨_, rfl⟩
              obtain ⟨R2, hR2⟩ : ∃ R2, W4.heap.size = R2 := ⟨_, rfl⟩
              have HSE := Lib.hid hS
              have HR2 := Lib.hid hR2
              rw [hS] at s0 s1 s2 s3 hs2 hwoB
              simp only [hS]
              rw [hR2] at hs2
              have hSR : S < R2 := by omega
              have hZS : Z < S := by omega
              have HS0 := Lib.hid s0
              have HS1 := Lib.hid s1
              have HS2 := Lib.hid s2
              have HS3 := Lib.hid s3
              have HBS := Lib.hid hbS
              have HBW1 := Lib.hid hbw2
              have HBWO := Lib.hid hbwo
              have Z0' := Lib.hid z0
              have Z1' := Lib.hid z1
              have Z2' := Lib.hid z2
              have Z3' := Lib.hid z3
              have Z4' := Lib.hid z4
              clear s0 s1 s2 s3 hbS hbw2 hbw1 hs2 hR2 hS hbwo z0 z1 z2 z3 z4 hB
              go_loopw [12] (fun j wr => ∃ (q : Nat) (Au : Option Addr) (cu : Nat), q ≤ ics.length ∧ j = .int .i64 ((q : Int) + 1) ∧ wr.cell? ⟨S, 0, none⟩ = some (.string xn) ∧ wr.cell? ⟨S, 1, none⟩ = some (.int .i64 nl) ∧ wr.cell? ⟨S, 2, none⟩ = some (.slice Au q cu) ∧ wr.frozen? ⟨S, 2, none⟩ = false ∧
                  wr.ownsRow R2 2 1 (.slice Au q cu) q (ints (unlikesTo cols ([] : List (List Vl)) ics q)) ∧ W4.grownBy wr (some S)) (fun j _ => ics.length + 1 - (intOf j).toNat)
              case atStart => exact ⟨0, none, 0, Nat.zero_le _, rfl, HS0.out, HS1.out, HS2.out, HS3.out, World.ownsRow_nil _ _ _ _, World.grownBy.refl _ _⟩
              case round =>
                obtain ⟨q, Au, cu, hq', rfl, j0, j1, j2, j3, hown, hg⟩ := hrel
                have HOWN := Lib.hid hown
                have HG := Lib.hid hg
                clear hown hg
                have hbr : Below S wo wr := by rw [← HSE.out]; exact HBS.out.grown HG.out (by rw [HR2.out, HSE.out]; omega) (fun j hj => by cases hj; rw [HSE.out]; exact Nat.le_refl _)
                have hBwr : R2 ≤ wr.heap.size := by have := HG.out.size; rw [HR2.out] at this; exact this
                have hbw : Below w.heap.size w wr := HBWO.out.trans (hbr.mono (by rw [HWX.out]; omega))
                have hSw : S < wr.heap.size := by omega
                have z0 := (hbr.cell (p := ⟨Z, 0, none⟩) hZS).trans Z0'.out
                have z1 := (hbr.cell (p := ⟨Z, 1, none⟩) hZS).trans Z1'.out
                have z2 := (hbr.cell (p := ⟨Z, 2, none⟩) hZS).trans Z2'.out
                have z3 := (hbr.cell (p := ⟨Z, 3, none⟩) hZS).trans Z3'.out
                have z4 := (hbr.cell (p := ⟨Z, 4, none⟩) hZS).trans Z4'.out
                by_cases hqi : q < ics.length
                · obtain ⟨N, hN⟩ : ∃ N : Int, (countsF cols ([] : List (List Vl)) (ics.take (q + 1)) : Int) = N := ⟨_, rfl⟩
                  have HUN := Lib.hid (show ints (unlikesTo cols ([] : List (List Vl)) ics (q + 1)) = ints (unlikesTo cols ([] : List (List Vl)) ics q) ++ [.int .i64 N] by rw [unlikesTo_succ, hN, ints_append]; rfl)
                  have HUQ := Lib.hid (fun (W : World) (AK : Option Addr) (ck : Nat) (h1 : SeqAt RowE 1 W Al L3) (h2 : SeqAt KeyE 3 W AK (keysF ics)) => HUNL.out W (q + 1) (by omega) AK ck h1 h2)
                  rw [hN] at HUQ
                  have HKQ := Lib.hid (HKEYS.out wr.drew hbw.drew)
                  have HA3 := Lib.hid (HAL3.out.below (SlE.stays ValE.stays 3) (by rw [HSE.out]; exact hbr.drew))
                  have hq1 : q + 1 ≤ maxLen := by unfold maxLen; omega
                  have hq2 : (q + 1) * 8 ≤ 140737488355328 := by omega
                  have HQ1 := Lib.hid hq1
                  have HQ2 := Lib.hid hq2
                  have hsl0 : (0 : Int) ≤ (q : Int) + 1 := by omega
                  have hsl2 : (q : Int) + 1 ≤ (ics.length : Int) := by omega
                  have hwrp : IntKind.i64.wrap ((q : Int) + 1) = (q : Int) + 1 := by rw [IntKind.wrap_i64]; omega
                  have htn : ((q : Int) + 1).toNat = q + 1 := by omega
                  have hckf : ∀ {ck : Nat}, ics.length + 1 ≤ ck → (q : Int) + 1 ≤ (ck : Int) := fun {ck} h => by omega
                  clear hN hq1 hq2
                  go_wp2_with fail
                  go_region_law (first
                    | (go_simp; go_at_call 56; (with_reducible refine HKQ.out.mono ?_); rintro e wa ⟨AK, ck, rfl, hck1, hck2, hks, hba⟩;
                        have hck : (q : Int) + 1 ≤ (ck : Int) := hckf hck1; have hSx : S < wa.heap.size := Nat.lt_of_lt_of_le hSw hba.size; have oa := own_below HOWN.out.drew hba; have hA4 := HA3.out.below (SlE.stays ValE.stays 3) hba; have i2' := (hba.cell (p := ⟨S, 2, none⟩) hSw).trans j2; have i0' := (hba.cell (p := ⟨S, 0, none⟩) hSw).trans j0; have i1' := (hba.cell (p := ⟨S, 1, none⟩) hSw).trans j1; have i3' := (hba.frozen (p := ⟨S, 2, none⟩) hSw).trans j3)
                    | (go_simp; go_at_call 55; (with_reducible refine (HUQ.out _ _ _ hA4 hks).mono ?_); rintro e wb ⟨rfl, hbb⟩;
                        have k2 := (hbb.cell (p := ⟨S, 2, none⟩) hSx).trans i2'; have hSy : S < wb.heap.size := Nat.lt_of_lt_of_le hSx hbb.size; have k2' := alloc_cell k2 hSy; have k0' := alloc_cell ((hbb.cell (p := ⟨S, 0, none⟩) hSx).trans i0') hSy; have k1' := alloc_cell ((hbb.cell (p := ⟨S, 1, none⟩) hSx).trans i1') hSy; have k3' := alloc_frozen ((hbb.frozen (p := ⟨S, 2, none⟩) hSx).trans i3') hSy;
                        have hSa : S < (wb.alloc (.cells #[.int .i64 N] 2)).heap.size := Nat.lt_of_lt_of_le hSy (by simp); have ob := own_below oa hbb)
                    | (refine step_append_own rfl (.tmp 100) (.tmp 107) 44 rfl R2 2 i2 (.int .i64 0) 1 8 Try.underlying44 ki kz0 kz1 kz2 rfl (by decide) (.slice Au q cu) q _ rfl (ob.alloc _) ⟨wb.heap.size, 0, none⟩ 1 1 [.int .i64 N] rfl rfl (cells_one wb N 2) (one_one N) HQ1.out HQ2.out (Nat.le_trans (Nat.le_trans hBwr (Nat.le_trans hba.size hbb.size)) (by simp)) ?_; intro v' w' hown' hgrow'; obtain ⟨g, cp, rfl, hgl, hgh⟩ := hown'.form (Nat.succ_pos _);
                        have m0 : w'.cell? ⟨S, 2, none⟩ = some (.slice Au q cu) := hgrow'.cell (k2' _) (fun e => by have := (ob.lt S e.symm).1; omega);
                        have m1 : w'.cell? ⟨S, 0, none⟩ = some (.string xn) := hgrow'.cell (k0' _) (fun e => by have := (ob.lt S e.symm).1; omega);
                        have m2 : w'.cell? ⟨S, 1, none⟩ = some (.int .i64 nl) := hgrow'.cell (k1' _) (fun e => by have := (ob.lt S e.symm).1; omega);
                        have m3 : w'.frozen? ⟨S, 2, none⟩ = false := grown_frozen hgrow' (k3' _) hSa (fun e => by have := (ob.lt S e.symm).1; omega)))
                  all_goals
                    have g5 := (grown_then (grown_then (grown_below (grown_below (b := wr.drew) ⟨HG.out.os, HG.out.tape, HG.out.output, HG.out.size, HG.out.block⟩ hba) hbb) (World.grownBy_alloc wb (.cells #[.int .i64 N] 2) none) (fun _ h => by cases h)) hgrow' (fun j hj => by have := (ob.lt j hj).1; rw [HR2.out]; exact this)).andThen (World.grownBy_set w' S 2 (.slice (some ⟨g, 0, none⟩) (q + 1) cp)) (fun j hj => .inr hj)
                    have own5 := hown'.kept (World.grownBy_set w' S 2 (.slice (some ⟨g, 0, none⟩) (q + 1) cp)) (.inr (by simp [Value.ownBlock]; omega))
                    rw [← HUN.out] at own5
                    have G5 := Lib.hid g5
                    have OWN5 := Lib.hid own5
                    have N0 := Lib.hid ((World.cell?_setCell_other w' ⟨S, 2, none⟩ ⟨S, 0, none⟩ (.slice (some ⟨g, 0, none⟩) (q + 1) cp) (by simp)).trans m1)
                    have N1 := Lib.hid ((World.cell?_setCell_other w' ⟨S, 2, none⟩ ⟨S, 1, none⟩ (.slice (some ⟨g, 0, none⟩) (q + 1) cp) (by simp)).trans m2)
                    have N2 := Lib.hid (World.cell?_setCell_same w' ⟨S, 2, none⟩ (.slice (some ⟨g, 0, none⟩) (q + 1) cp) m0)
                    have N3 := Lib.hid ((World.frozen?_setCell w' ⟨S, 2, none⟩ ⟨S, 2, none⟩ (.slice (some ⟨g, 0, none⟩) (q + 1) cp)).trans m3)
                    clear g5 own5 hown' hgrow' oa ob k2 k2' k0' k1' k3' i0' i1' i2' i3' m0 m1 m2 m3 j0 j1 j2 j3 z0 z1 z2 z3 z4
                    go_wp2_with fail
                    go_roundw
                    case rel => exact ⟨q + 1, _, _, by omega, by go_num, N0.out, N1.out, N2.out, N3.out, OWN5.out, G5.out⟩
                    case measure => simp [intOf] <;> omega
                · obtain rfl : q = ics.length := by omega
                  have hbw1 : Below B w1 wr := HBW1.out.grown HG.out (by rw [HR2.out]; omega) (fun j hj => by cases hj; omega)
                  have hB1 : B ≤ wr.heap.size := by omega
                  have HBW1' := Lib.hid hbw1
                  have hZS' : Z + 1 ≤ S := hZS
                  have HO6 := Lib.hid (HO5.out.grown HG.out (fun j hj => by cases hj; omega))
                  have k0 := alloc_cell j0 hSw
                  have k1 := alloc_cell j1 hSw
                  have k2 := alloc_cell j2 hSw
                  have k3 := alloc_frozen j3 hSw
                  have hSa : ∀ O, S < (wr.alloc O).heap.size := fun O => by simp; omega
                  have hq1 : ics.length + 1 ≤ maxLen := by unfold maxLen; omega
                  have hq2 : (ics.length + 1) * 8 ≤ 140737488355328 := by omega
                  have HQ1 := Lib.hid hq1
                  have HQ2 := Lib.hid hq2
                  have hl1 : L.length + 1 ≤ maxLen := by unfold maxLen; omega
                  have hl2 : (L.length + 1) * 48 ≤ 140737488355328 := by omega
                  have HL1 := Lib.hid hl1
                  have HL2 := Lib.hid hl2
                  clear hq1 hq2 hl1 hl2 hbw1 z1 z3 z4
                  go_wp2_with (first
                    | (at_builtin; refine wpList_append_own _ rfl (.tmp 111) (.tmp 114) 44 rfl R2 2 i2 (.int .i64 0) 1 8 Try.underlying44 ki kz0 kz1 kz2 rfl (by decide) (.slice Au ics.length cu) ics.length _ rfl (HOWN.out.alloc _) ⟨wr.heap.size, 0, none⟩ 1 1 [.int .i64 nl] rfl rfl (cells_one wr _ 2) (one_one _) HQ1.out HQ2.out (Nat.le_trans hBwr (by simp)) ?_))
                  intro v' w5 hown' hgrow' _
                  obtain ⟨g, cp, rfl, hgl, hgh⟩ := hown'.form (Nat.succ_pos _)
                  have hne : ∀ (p : Addr), p.block = S → some p.block ≠ (Value.slice Au ics.length cu).ownBlock := fun p hp e => by rw [hp] at e; have := (HOWN.out.lt S e.symm).1; omega
                  have m0 := hgrow'.cell (k0 _) (hne _ rfl)
                  have m1 := hgrow'.cell (k1 _) (hne _ rfl)
                  have m2 := hgrow'.cell (k2 _) (hne _ rfl)
                  have m3 := grown_frozen hgrow' (k3 _) (hSa _) (hne _ rfl)
                  have ho5 := ((HO6.out.alloc _).grown hgrow' (fun j hj => by have := (HOWN.out.lt j hj).1; omega)).grown (World.grownBy_set w5 S 2 (.slice (some ⟨g, 0, none⟩) (ics.length + 1) cp)) (fun j hj => by cases hj; omega)
                  have own5 := own_base' (hown'.kept (World.grownBy_set w5 S 2 (.slice (some ⟨g, 0, none⟩) (ics.length + 1) cp)) (.inr (by simp [Value.ownBlock]; omega))) (show B ≤ R2 by omega)
                  have hb5 : Below B w1 (w5.setCell ⟨S, 2, none⟩ (.slice (some ⟨g, 0, none⟩) (ics.length + 1) cp)) := ((HBW1'.out.alloc hB1 _).grown hgrow' (by simp; omega) (fun j hj => by have := (HOWN.out.lt j hj).1; omega)).setCell (show B ≤ S by omega) _
                  have hz5 : (w5.setCell ⟨S, 2, none⟩ (.slice (some ⟨g, 0, none⟩) (ics.length + 1) cp)).heap.size = w5.heap.size := by simp [World.setCell]
                  have hB5 : B ≤ w5.heap.size := by have := hgrow'.size; simp at this; omega
                  have HO7 := Lib.hid ho5
                  have OWN5 := Lib.hid own5
                  have HB5 := Lib.hid hb5
                  have HZ5 := Lib.hid hz5
                  clear hown' hgrow' hne ho5 own5 hb5 hz5 k0 k1 k2 k3 j0 j1 j2 j3 z0 z2
                  go_wp2_with (first
                    | (at_builtin; refine wpList_append_own _ rfl (.tmp 117) (.tmp 119) 43 rfl B 46 i46 (.agg #[.string ⟨#[]⟩, .int .i64 0, .slice none 0 0]) 3 48 Try.underlying43 ji jz0 jz1 jz2 rfl (by decide) _ L.length _ rfl (HO7.out.row.alloc _) ⟨w5.heap.size, 0, none⟩ 1 1 [.string xn, .int .i64 nl, .slice (some ⟨g, 0, none⟩) (ics.length + 1) cp] rfl rfl ?g1 ?g2 HL1.out HL2.out ?g5 ?_))
                  case g1 =>
                    intro j u hj
                    rw [← HZ5.out]
                    match j, hj with
                    | 0, hj => simp at hj; subst hj; simp [Addr.add, go_sem]
                    | 1, hj => simp at hj; subst hj; simp [Addr.add, go_sem]
                    | 2, hj => simp at hj; subst hj; simp [Addr.add, go_sem]
                  case g2 => intro u hu; simp at hu; rcases hu with rfl | rfl | rfl <;> rfl
                  case g5 => simp [World.setCell]; omega
                  intro v'' w6 hown6 hgrow6 _
                  have HOUT6 := Lib.hid ((HO7.out.alloc _).push (s := ⟨xn, nl, unlikesTo cols ([] : List (List Vl)) ics ics.length ++ [(nl : Int)]⟩) (u := .slice (some ⟨g, 0, none⟩) (ics.length + 1) cp) (by rw [List.length_append, unlikesTo_length, ints_append]; exact OWN5.out.alloc _) hgrow6 hown6)
                  have HSTEP := Lib.hid (show tabStats tabs all ++ (idxs.take (m + 1)).map (idxSt tabs all) = L ++ [⟨xn, nl, unlikesTo cols ([] : List (List Vl)) ics ics.length ++ [(nl : Int)]⟩] by rw [idxSt_take HSK.out, ← List.append_assoc, HLE.out, HIS.out])
                  have HB6 := Lib.hid ((HB5.out.alloc (by rw [HZ5.out]; exact hB5) _).grown hgrow6 (by simp [World.setCell]; omega) (fun j hj => (HO7.out.row.lt j hj).1))
                  clear hown6 hgrow6
                  go_wp2_with fail
                  go_roundw
                  case rel => exact ⟨m + 1, _, by omega, by go_num, by rw [HSTEP.out]; exact HOUT6.out, HB6.out⟩
                  case measure => simp [intOf] <;> omega
          · rw [p1] at HPC
            have HIS := Lib.hid (HIS0.out t R p4)
            have HRV := Lib.hid (HVAL.out R (List.mem_of_getElem? p3))
            have HTP := Lib.hid (HP.out.tab i t R p2 p3)
            have hnR := HTP.out.2.1
            have hnC := HTP.out.1
            have hit : i < tabs.length := (List.getElem?_eq_some_iff.1 p2).1
            obtain ⟨ta, tb, to2, eAT, htq, htl, htE⟩ := HT.out i t p2
            subst eAT
            obtain ⟨ra0, rb, ro, eAR, hrq, hrl, hrE⟩ := HR.out i R p3
            subst eAR
            rw [Nat.mul_one] at hrq
            obtain ⟨ut, t1w, A1, cc1, rfl, hcols⟩ := htE.cols
            obtain ⟨A6, n6, c6, t2w⟩ := htE.checks
            obtain ⟨ur, r0w, A3, c3, rfl, hrows⟩ := hrE
            have HREC := Lib.hid (fun (W : World) (h : Below w.heap.size w W) (r : List Vl) (Ar : Option Addr) (cr : Nat) (hr : SeqAt ValE 3 W Ar r) (hrr : r ∈ R) =>
              record_any t.name xn xt t.root xr xu t.cols ics r A1 A6 AC Ar cc1 n6 c6 cC cr W (hcols.below ColE.stays h) (HICS.out.below IcE.stays h) hr (by omega) (by omega) (HTP.out.2.2.2.2 r hrr).1)
            have HROWS := Lib.hid hrows
            have T0W := Lib.hid htE.name
            have T1W := Lib.hid t1w
            have T2W := Lib.hid t2w
            have T3W := Lib.hid htE.root
            have R0W := Lib.hid r0w
            clear hcols hrows htE t1w t2w r0w p1 p2 p3 p4
            obtain ⟨tn, htn⟩ : ∃ v, t.name = v := ⟨_, rfl⟩
            obtain ⟨tr, htr⟩ : ∃ v, t.root = v := ⟨_, rfl⟩
            obtain ⟨cols, hcl⟩ : ∃ v, t.cols = v := ⟨_, rfl⟩
            rw [htn] at HREC T0W
            rw [htr] at HREC T3W
            rw [hcl] at HREC T1W HIS hnC
            clear htn htr hcl
            obtain ⟨nc, hnc⟩ : ∃ v, cols.length = v := ⟨_, rfl⟩
            rw [hnc] at HREC T1W hnC
            obtain ⟨nr, hnr⟩ : ∃ v, R.length = v := ⟨_, rfl⟩
            rw [hnr] at R0W hnR
            have HNR := Lib.hid hnr
            clear hnc hnr
            have hBw2 : B ≤ W2.heap.size := by omega
            go_wp2_with (first
              | (go_at_call 53; (with_reducible refine (HPC.out _ HBZ.out).mono ?_); rintro e w3 ⟨rfl, hb3⟩))
            obtain ⟨B2, hB2⟩ : ∃ B2, w3.heap.size = B2 := ⟨_, rfl⟩
            have HB2E := Lib.hid hB2
            have HW3 := Lib.hid (HBZ.out.trans (hb3.mono HBZ.out.size))
            have HB13 := Lib.hid (HB1Z.out.trans (hb3.mono hBw2))
            have HO3 := Lib.hid (HOZ.out.below hb3)
            have hs3 := hb3.size
            rw [hB2] at hs3
            have hXB2 : X < B2 := Nat.lt_of_lt_of_le hX2 hs3
            have hZB2 : Z < B2 := Nat.lt_of_lt_of_le hZ2 hs3
            have hwB2 : w.heap.size ≤ B2 := by rw [HWX.out]; omega
            have htB2 : tb < B2 := Nat.lt_of_lt_of_le htl hwB2
            have hrB2 : rb < B2 := Nat.lt_of_lt_of_le hrl hwB2
            have Y0 := Lib.hid ((hb3.cell (p := ⟨X, 0, none⟩) hX2).trans y0)
            have Y1 := Lib.hid ((hb3.cell (p := ⟨X, 1, none⟩) hX2).trans y1)
            have Y2 := Lib.hid ((hb3.cell (p := ⟨X, 2, none⟩) hX2).trans y2)
            have Z0 := Lib.hid ((hb3.cell (p := ⟨Z, 0, none⟩) hZ2).trans z0)
            have Z1 := Lib.hid ((hb3.cell (p := ⟨Z, 1, none⟩) hZ2).trans z1)
            have Z2 := Lib.hid ((hb3.cell (p := ⟨Z, 2, none⟩) hZ2).trans z2)
            have Z3 := Lib.hid ((hb3.cell (p := ⟨Z, 3, none⟩) hZ2).trans z3)
            have Z4 := Lib.hid ((hb3.cell (p := ⟨Z, 4, none⟩) hZ2).trans z4)
            have hBB2 : B ≤ B2 := by omega
            have hZU : Z + 1 ≤ B2 := by omega
            clear y0 y1 y2 z0 z1 z2 z3 z4 hb3 hB2
            go_loopw [9, 10] (fun l i wr => ∃ (k : Nat) (vs : List Value), k ≤ nr ∧ i = .int .i64 k ∧ RecOwn wr B2 wr.heap.size l ((R.take k).map fun r => recF cols r ics) vs ∧ Below B2 w3 wr) (fun _ i _ => nr - (intOf i).toNat)
            case atStart => exact ⟨0, [], Nat.zero_le _, rfl, RecOwn.nil _ _ _, Below.refl _ _⟩
            case round =>
              obtain ⟨k, vs, hk, rfl, hrec, hB⟩ := hrel
              have HRO := Lib.hid hrec
              have hBw3 : B2 ≤ wr.heap.size := by have := hB.size; rw [HB2E.out] at this; exact this
              have HBW := Lib.hid (HW3.out.trans (hB.mono (by omega)))
              have x0 := (hB.cell (p := ⟨X, 0, none⟩) hXB2).trans Y0.out
              have x2 := (hB.cell (p := ⟨X, 2, none⟩) hXB2).trans Y2.out
              have z0 := (hB.cell (p := ⟨Z, 0, none⟩) hZB2).trans Z0.out
              have z1 := (hB.cell (p := ⟨Z, 1, none⟩) hZB2).trans Z1.out
              have z2 := (hB.cell (p := ⟨Z, 2, none⟩) hZB2).trans Z2.out
              have z3 := (hB.cell (p := ⟨Z, 3, none⟩) hZB2).trans Z3.out
              have z4 := (hB.cell (p := ⟨Z, 4, none⟩) hZB2).trans Z4.out
              have t0 := (HBW.out.cell (p := ⟨tb, to2, none⟩) htl).trans T0W.out
              have t1 := (HBW.out.cell (p := ⟨tb, to2 + 1, none⟩) htl).trans T1W.out
              have t2 := (HBW.out.cell (p := ⟨tb, to2 + 2, none⟩) htl).trans T2W.out
              have t3 := (HBW.out.cell (p := ⟨tb, to2 + 3, none⟩) htl).trans T3W.out
              have r0 := (HBW.out.cell (p := ⟨rb, ro, none⟩) hrl).trans R0W.out
              clear hrec
              by_cases hkn : k < nr
              · obtain ⟨ra, sb, so, r, rfl, hsq, hsl, hrk, hrE⟩ := HROWS.out.get k (by rw [HNR.out]; exact hkn)
                rw [Nat.mul_one] at hsq
                obtain ⟨us, s0w, A4, c4, rfl, hvs⟩ := hrE
                have s0 := (HBW.out.cell (p := ⟨sb, so, none⟩) hsl).trans s0w
                have HRC := Lib.hid (HREC.out wr.drew HBW.out.drew r A4 c4 (hvs.below ValE.stays HBW.out.drew) (List.mem_of_getElem? hrk))
                have HTK := Lib.hid (recs_take (cols := cols) (ics := ics) hrk)
                obtain ⟨n4, hn4⟩ : ∃ v, r.length = v := ⟨_, rfl⟩
                rw [hn4] at s0 HRC
                obtain ⟨rc, hrc⟩ : ∃ v, recF cols r ics = v := ⟨_, rfl⟩
                rw [hrc] at HRC HTK
                obtain ⟨LR, hLR⟩ : ∃ v, (R.take k).map (fun r => recF cols r ics) = v := ⟨_, rfl⟩
                have hLRl : LR.length = k := by rw [← hLR, List.length_map, List.length_take, HNR.out]; omega
                rw [hLR] at HRO HTK
                have HLRL := Lib.hid hLRl
                have hl1 : LR.length + 1 ≤ maxLen := by unfold maxLen; omega
                have hl2 : (LR.length + 1) * 24 ≤ 140737488355328 := by omega
                have HL1 := Lib.hid hl1
                have HL2 := Lib.hid hl2
                have hXw : X < wr.drew.heap.size := Nat.lt_of_lt_of_le hXB2 hBw3
                have hZw : Z < wr.drew.heap.size := Nat.lt_of_lt_of_le hZB2 hBw3
                have htw : tb < wr.drew.heap.size := Nat.lt_of_lt_of_le htB2 hBw3
                have hrw : rb < wr.drew.heap.size := Nat.lt_of_lt_of_le hrB2 hBw3
                have hsB2 : sb < B2 := Nat.lt_of_lt_of_le hsl hwB2
                have hsw : sb < wr.drew.heap.size := Nat.lt_of_lt_of_le hsB2 hBw3
                have hXw2 := hXB2
                have hZw2 := hZB2
                have htw2 := htB2
                have hrw2 := hrB2
                have hsw2 := hsB2
                have hin : (i : Int) < (tabs.length : Int) := by omega
                have hkn' : (k : Int) < (nr : Int) := by omega
                clear hvs s0w hrk hn4 hrc hLR hLRl hl1 hl2
                go_wp2_with fail
                go_region_held3 (fun w' => w'.cell? ⟨X, 0, none⟩ = some (.slice (some ta) tabs.length cT) ∧ w'.cell? ⟨X, 2, none⟩ = some (.slice (some ra0) tabs.length cR) ∧ w'.cell? ⟨tb, to2, none⟩ = some (.string tn) ∧ w'.cell? ⟨tb, to2 + 1, none⟩ = some (.slice A1 nc cc1) ∧ w'.cell? ⟨tb, to2 + 2, none⟩ = some (.slice A6 n6 c6) ∧ w'.cell? ⟨tb, to2 + 3, none⟩ = some (.int .i64 tr) ∧ w'.cell? ⟨Z, 0, none⟩ = some (.string xn) ∧ w'.cell? ⟨Z, 1, none⟩ = some (.string xt) ∧ w'.cell? ⟨Z, 2, none⟩ = some (.slice AC ics.length cC) ∧ w'.cell? ⟨Z, 3, none⟩ = some (.bool xu) ∧ w'.cell? ⟨Z, 4, none⟩ = some (.int .i64 xr) ∧ w'.cell? ⟨rb, ro, none⟩ = some (.slice (some ra) nr c3) ∧ w'.cell? ⟨sb, so, none⟩ = some (.slice A4 n4 c4)) (first | exact ⟨x0, x2, t0, t1, t2, t3, z0, z1, z2, z3, z4, r0, s0⟩ | exact ⟨u0, u1, u2, u3, u4, u5, u6, u7, u8, u9, u10, u11, u12⟩ | exact ⟨v0 _, v1 _, v2 _, v3 _, v4 _, v5 _, v6 _, v7 _, v8 _, v9 _, v10 _, v11 _, v12 _⟩ | exact ⟨q0, q1, q2, q3, q4, q5, q6, q7, q8, q9, q10, q11, q12⟩) (first
                  | (go_at_call 54; (with_reducible refine HRC.out.mono ?_); rintro e w4 ⟨v, rfl, hown4, hb4⟩; obtain ⟨Av, cv, rfl, _, _⟩ := own_cap hown4; have HRO2 := Lib.hid (HRO.out.below (undrew hb4)); have hB4 := Lib.hid (Nat.le_trans (Nat.le_trans hBw3 hb4.size) (show w4.heap.size ≤ (w4.alloc (.cells #[.slice Av rc.length cv] 66)).heap.size by simp)); have u0 := (hb4.cell (p := ⟨X, 0, none⟩) hXw).trans x0; have u1 := (hb4.cell (p := ⟨X, 2, none⟩) hXw).trans x2; have u2 := (hb4.cell (p := ⟨tb, to2, none⟩) htw).trans t0; have u3 := (hb4.cell (p := ⟨tb, to2 + 1, none⟩) htw).trans t1; have u4 := (hb4.cell (p := ⟨tb, to2 + 2, none⟩) htw).trans t2; have u5 := (hb4.cell (p := ⟨tb, to2 + 3, none⟩) htw).trans t3; have u6 := (hb4.cell (p := ⟨Z, 0, none⟩) hZw).trans z0; have u7 := (hb4.cell (p := ⟨Z, 1, none⟩) hZw).trans z1; have u8 := (hb4.cell (p := ⟨Z, 2, none⟩) hZw).trans z2; have u9 := (hb4.cell (p := ⟨Z, 3, none⟩) hZw).trans z3; have u10 := (hb4.cell (p := ⟨Z, 4, none⟩) hZw).trans z4; have u11 := (hb4.cell (p := ⟨rb, ro, none⟩) hrw).trans r0; have u12 := (hb4.cell (p := ⟨sb, so, none⟩) hsw).trans s0; have v0 := alloc_cell u0 (Nat.lt_of_lt_of_le hXw hb4.size); have v1 := alloc_cell u1 (Nat.lt_of_lt_of_le hXw hb4.size); have v2 := alloc_cell u2 (Nat.lt_of_lt_of_le htw hb4.size); have v3 := alloc_cell u3 (Nat.lt_of_lt_of_le htw hb4.size); have v4 := alloc_cell u4 (Nat.lt_of_lt_of_le htw hb4.size); have v5 := alloc_cell u5 (Nat.lt_of_lt_of_le htw hb4.size); have v6 := alloc_cell u6 (Nat.lt_of_lt_of_le hZw hb4.size); have v7 := alloc_cell u7 (Nat.lt_of_lt_of_le hZw hb4.size); have v8 := alloc_cell u8 (Nat.lt_of_lt_of_le hZw hb4.size); have v9 := alloc_cell u9 (Nat.lt_of_lt_of_le hZw hb4.size); have v10 := alloc_cell u10 (Nat.lt_of_lt_of_le hZw hb4.size); have v11 := alloc_cell u11 (Nat.lt_of_lt_of_le hrw hb4.size); have v12 := alloc_cell u12 (Nat.lt_of_lt_of_le hsw hb4.size))
                  | (refine step_append_own rfl (.tmp 69) (.tmp 85) 61 rfl B2 66 i66 (.slice none 0 0) 1 24 Try.underlying61 li lz0 lz1 lz2 rfl (by decide) _ LR.length vs rfl (HRO2.out.row.alloc _) ⟨w4.heap.size, 0, none⟩ 1 1 [.slice Av rc.length cv] rfl rfl (cell1 w4 _ 66) (one1 Av rc.length cv) HL1.out HL2.out hB4.out ?_; intro v' w' hown' hgrow'; have q0 := hgrow'.cell (v0 _) (own_lt HRO2.out.row hXw2); have q1 := hgrow'.cell (v1 _) (own_lt HRO2.out.row hXw2); have q2 := hgrow'.cell (v2 _) (own_lt HRO2.out.row htw2); have q3 := hgrow'.cell (v3 _) (own_lt HRO2.out.row htw2); have q4 := hgrow'.cell (v4 _) (own_lt HRO2.out.row htw2); have q5 := hgrow'.cell (v5 _) (own_lt HRO2.out.row htw2); have q6 := hgrow'.cell (v6 _) (own_lt HRO2.out.row hZw2); have q7 := hgrow'.cell (v7 _) (own_lt HRO2.out.row hZw2); have q8 := hgrow'.cell (v8 _) (own_lt HRO2.out.row hZw2); have q9 := hgrow'.cell (v9 _) (own_lt HRO2.out.row hZw2); have q10 := hgrow'.cell (v10 _) (own_lt HRO2.out.row hZw2); have q11 := hgrow'.cell (v11 _) (own_lt HRO2.out.row hrw2); have q12 := hgrow'.cell (v12 _) (own_lt HRO2.out.row hsw2)))
                have hB5 := (hB.trans ((undrew hb4).mono hBw3)).alloc (show B2 ≤ w4.heap.size from Nat.le_trans hBw3 hb4.size) (.cells #[.slice Av rc.length cv] 66)
                have HPU := Lib.hid ((HRO2.out.alloc (.cells #[.slice Av rc.length cv] 66)).push (r := rc) ((own_base' hown4 hBw3).alloc _) hgrow' hown')
                rw [← HTK.out] at HPU
                have HB6 := Lib.hid (hB5.grown hgrow' hB4.out (fun g hg => (HRO2.out.row.lt g hg).1))
                clear hown' hgrow' hB5 hown4 t0 t1 t2 t3 z0 z1 z2 z3 z4 r0 s0 x0 x2 u0 u1 u2 u3 u4 u5 u6 u7 u8 u9 u10 u11 u12 v0 v1 v2 v3 v4 v5 v6 v7 v8 v9 v10 v11 v12 q0 q1 q2 q3 q4 q5 q6 q7 q8 q9 q10 q11 q12
                go_wp2_with fail
                go_roundw
                case rel => exact ⟨k + 1, _, by omega, by go_num, HPU.out, HB6.out⟩
                case measure => simp [intOf] <;> omega
              · obtain rfl : k = nr := by omega
                rw [List.take_of_length_le (by rw [HNR.out]; exact Nat.le_refl _)] at HRO
                have hlenR : R.length ≤ 40 := by rw [HNR.out]; exact hnR
                clear x0 t0 t1 t2 t3 z0 z1 z2 z3 z4
                have hseen := HRO.out.seen (fun r hr v hv => by
                  obtain ⟨r', hr', rfl⟩ := List.mem_map.1 hr
                  exact Nat.le_trans (recF_size (S := 4096) (fun v hv => mayV_size (HRV.out r' hr' v hv).1) v hv) (by unfold maxLen; decide))
                have hlens : ∀ r ∈ (R).map (fun r => recF cols r ics), r.length ≤ maxLen := fun r hr => by
                  obtain ⟨r', hr', rfl⟩ := List.mem_map.1 hr
                  rw [recF_length]; unfold maxLen; omega
                have hL3l : ((R).map (fun r => recF cols r ics)).length = (R).length := by rw [List.length_map]
                have HUC := Lib.hid (fun (q : Nat) (hq : q ≤ ics.length) => unlike_counts (cols := cols) (ics := ics) (k := q) hq HRV.out)
                obtain ⟨nl, hnl⟩ : ∃ v, (R).length = v := ⟨_, rfl⟩
                rw [hnl] at HUC HIS hL3l
                have hnl40 : nl ≤ 40 := by rw [← hnl]; exact hlenR
                obtain ⟨L3, hL3⟩ : ∃ v, (R).map (fun r => recF cols r ics) = v := ⟨_, rfl⟩
                rw [hL3] at HRO hseen hlens hL3l HUC
                clear hnl hL3
                obtain ⟨Al, cl, hlv, hAl⟩ := hseen
                rw [hL3l] at hlv
                subst hlv
                have HL3L := Lib.hid hL3l
                have HLENS := Lib.hid hlens
                have HAL3 := Lib.hid hAl
                have HKC := Lib.hid (fun k (hk : k ∈ keysF ics) => show k.coll = 0 ∨ k.coll = 1 from keys_coll (by rw [← HIC.out]; exact HXP.out.2.2.2) k hk)
                have HKL := Lib.hid (show (keysF ics).length = ics.length + 1 by unfold keysF; rw [List.length_append, keysTo_length (Nat.le_refl _)]; rfl)
                have HUNL := Lib.hid (fun (W : World) (q : Nat) (hq : q ≤ ics.length) (AK : Option Addr) (ck : Nat) (h1 : SeqAt RowE 1 W Al L3) (h2 : SeqAt KeyE 3 W AK (keysF ics)) =>
                  unlike_of (l := L3) (keys := (keysF ics).take q) (nl := nl) (nk := q) (N := countsF cols R (ics.take q)) HL3L.out (by rw [List.length_take, HKL.out]; omega) (by rw [keysF_take hq, HL3L.out]; exact HUC.out q hq) W cl ck h1 (h2.take q) (by omega) HLENS.out (by omega) (fun k hk => HKC.out k (List.mem_of_mem_take hk)))
                clear hlens hL3l hAl
                obtain ⟨wo, rfl⟩ : ∃ wo : World, wo = wr := ⟨_, rfl⟩
                have HO4 := Lib.hid (HO3.out.below (by rw [HB2E.out]; exact hB))
                have hbwo : Below w.heap.size w wo := HW3.out.trans (hB.mono (by rw [HWX.out]; omega))
                have hbw1 : Below B w1 wo := HB13.out.trans (hB.mono hBB2)
                have hwoB : B2 ≤ wo.heap.size := by have := hB.size; rw [HB2E.out] at this; exact this
                have z0 := (hB.cell (p := ⟨Z, 0, none⟩) hZB2).trans Z0.out
                have z1 := (hB.cell (p := ⟨Z, 1, none⟩) hZB2).trans Z1.out
                have z2 := (hB.cell (p := ⟨Z, 2, none⟩) hZB2).trans Z2.out
                have z3 := (hB.cell (p := ⟨Z, 3, none⟩) hZB2).trans Z3.out
                have z4 := (hB.cell (p := ⟨Z, 4, none⟩) hZB2).trans Z4.out
                go_wp2_with fail
                obtain ⟨OS, hOS⟩ : ∃ OS, Obj.cells #[.string xn, .int .i64 nl, .slice none 0 0] 46 = OS := ⟨_, rfl⟩
                have hs2 : (wo.alloc OS).heap.size = wo.heap.size + 1 := by simp
                have s0 : (wo.alloc OS).cell? ⟨wo.heap.size, 0, none⟩ = some (.string xn) := by rw [← hOS]; exact World.cell?_alloc_new _ _ 46 0
                have s1 : (wo.alloc OS).cell? ⟨wo.heap.size, 1, none⟩ = some (.int .i64 nl) := by rw [← hOS]; exact World.cell?_alloc_new _ _ 46 1
                have s2 : (wo.alloc OS).cell? ⟨wo.heap.size, 2, none⟩ = some (.slice none 0 0) := by rw [← hOS]; exact World.cell?_alloc_new _ _ 46 2
                have s3 : (wo.alloc OS).frozen? ⟨wo.heap.size, 2, none⟩ = false := by rw [← hOS]; simp [go_sem]
                have hbS : Below wo.heap.size wo (wo.alloc OS) := (Below.refl _ _).alloc (Nat.le_refl _) OS
                have HO5 := Lib.hid (HO4.out.below hbS)
                have hbw2 := hbw1.trans (hbS.mono (show B ≤ wo.heap.size by omega))
                rw [hOS]
                clear hOS
                generalize wo.alloc OS = W4 at s0 s1 s2 s3 hbS HO5 hbw2 hs2
                obtain ⟨S, hS⟩ : ∃ S, wo.heap.size = S := ⟨_, rfl⟩
                obtain ⟨R2, hR2⟩ : ∃ R2, W4.heap.size = R2 := ⟨_, rfl⟩
                have HSE := Lib.hid hS
                have HR2 := Lib.hid hR2
                rw [hS] at s0 s1 s2 s3 hs2 hwoB
                simp only [hS]
                rw [hR2] at hs2
                have hSR : S < R2 := by omega
                have hZS : Z < S := by omega
                have HS0 := Lib.hid s0
                have HS1 := Lib.hid s1
                have HS2 := Lib.hid s2
                have HS3 := Lib.hid s3
                have HBS := Lib.hid hbS
                have HBW1 := Lib.hid hbw2
                have HBWO := Lib.hid hbwo
                have Z0' := Lib.hid z0
                have Z1' := Lib.hid z1
                have Z2' := Lib.hid z2
                have Z3' := Lib.hid z3
                have Z4' := Lib.hid z4
                clear s0 s1 s2 s3 hbS hbw2 hbw1 hs2 hR2 hS hbwo z0 z1 z2 z3 z4 hB x2 r0
                go_loopw [12] (fun j wr => ∃ (q : Nat) (Au : Option Addr) (cu : Nat), q ≤ ics.length ∧ j = .int .i64 ((q : Int) + 1) ∧ wr.cell? ⟨S, 0, none⟩ = some (.string xn) ∧ wr.cell? ⟨S, 1, none⟩ = some (.int .i64 nl) ∧ wr.cell? ⟨S, 2, none⟩ = some (.slice Au q cu) ∧ wr.frozen? ⟨S, 2, none⟩ = false ∧
                    wr.ownsRow R2 2 1 (.slice Au q cu) q (ints (unlikesTo cols R ics q)) ∧ W4.grownBy wr (some S)) (fun j _ => ics.length + 1 - (intOf j).toNat)
                case atStart => exact ⟨0, none, 0, Nat.zero_le _, rfl, HS0.out, HS1.out, HS2.out, HS3.out, World.ownsRow_nil _ _ _ _, World.grownBy.refl _ _⟩
                case round =>
                  obtain ⟨q, Au, cu, hq', rfl, j0, j1, j2, j3, hown, hg⟩ := hrel
                  have HOWN := Lib.hid hown
                  have HG := Lib.hid hg
                  clear hown hg
                  have hbr : Below S wo wr := by rw [← HSE.out]; exact HBS.out.grown HG.out (by rw [HR2.out, HSE.out]; omega) (fun j hj => by cases hj; rw [HSE.out]; exact Nat.le_refl _)
                  have hBwr : R2 ≤ wr.heap.size := by have := HG.out.size; rw [HR2.out] at this; exact this
                  have hbw : Below w.heap.size w wr := HBWO.out.trans (hbr.mono (by rw [HWX.out]; omega))
                  have hSw : S < wr.heap.size := by omega
                  have z0 := (hbr.cell (p := ⟨Z, 0, none⟩) hZS).trans Z0'.out
                  have z1 := (hbr.cell (p := ⟨Z, 1, none⟩) hZS).trans Z1'.out
                  have z2 := (hbr.cell (p := ⟨Z, 2, none⟩) hZS).trans Z2'.out
                  have z3 := (hbr.cell (p := ⟨Z, 3, none⟩) hZS).trans Z3'.out
                  have z4 := (hbr.cell (p := ⟨Z, 4, none⟩) hZS).trans Z4'.out
                  by_cases hqi : q < ics.length
                  · obtain ⟨N, hN⟩ : ∃ N : Int, (countsF cols R (ics.take (q + 1)) : Int) = N := ⟨_, rfl⟩
                    have HUN := Lib.hid (show ints (unlikesTo cols R ics (q + 1)) = ints (unlikesTo cols R ics q) ++ [.int .i64 N] by rw [unlikesTo_succ, hN, ints_append]; rfl)
                    have HUQ := Lib.hid (fun (W : World) (AK : Option Addr) (ck : Nat) (h1 : SeqAt RowE 1 W Al L3) (h2 : SeqAt KeyE 3 W AK (keysF ics)) => HUNL.out W (q + 1) (by omega) AK ck h1 h2)
                    rw [hN] at HUQ
                    have HKQ := Lib.hid (HKEYS.out wr.drew hbw.drew)
                    have HA3 := Lib.hid (HAL3.out.below (SlE.stays ValE.stays 3) (by rw [HSE.out]; exact hbr.drew))
                    have hq1 : q + 1 ≤ maxLen := by unfold maxLen; omega
                    have hq2 : (q + 1) * 8 ≤ 140737488355328 := by omega
                    have HQ1 := Lib.hid hq1
                    have HQ2 := Lib.hid hq2
                    have hsl0 : (0 : Int) ≤ (q : Int) + 1 := by omega
                    have hsl2 : (q : Int) + 1 ≤ (ics.length : Int) := by omega
                    have hwrp : IntKind.i64.wrap ((q : Int) + 1) = (q : Int) + 1 := by rw [IntKind.wrap_i64]; omega
                    have htn : ((q : Int) + 1).toNat = q + 1 := by omega
                    have hckf : ∀ {ck : Nat}, ics.length + 1 ≤ ck → (q : Int) + 1 ≤ (ck : Int) := fun {ck} h => by omega
                    clear hN hq1 hq2
                    go_wp2_with fail
                    go_region_law (first
                      | (go_simp; go_at_call 56; (with_reducible refine HKQ.out.mono ?_); rintro e wa ⟨AK, ck, rfl, hck1, hck2, hks, hba⟩;
                          have hck : (q : Int) + 1 ≤ (ck : Int) := hckf hck1; have hSx : S < wa.heap.size := Nat.lt_of_lt_of_le hSw hba.size; have oa := own_below HOWN.out.drew hba; have hA4 := HA3.out.below (SlE.stays ValE.stays 3) hba; have i2' := (hba.cell (p := ⟨S, 2, none⟩) hSw).trans j2; have i0' := (hba.cell (p := ⟨S, 0, none⟩) hSw).trans j0; have i1' := (hba.cell (p := ⟨S, 1, none⟩) hSw).trans j1; have i3' := (hba.frozen (p := ⟨S, 2, none⟩) hSw).trans j3)
                      | (go_simp; go_at_call 55; (with_reducible refine (HUQ.out _ _ _ hA4 hks).mono ?_); rintro e wb ⟨rfl, hbb⟩;
                          have k2 := (hbb.cell (p := ⟨S, 2, none⟩) hSx).trans i2'; have hSy : S < wb.heap.size := Nat.lt_of_lt_of_le hSx hbb.size; have k2' := alloc_cell k2 hSy; have k0' := alloc_cell ((hbb.cell (p := ⟨S, 0, none⟩) hSx).trans i0') hSy; have k1' := alloc_cell ((hbb.cell (p := ⟨S, 1, none⟩) hSx).trans i1') hSy; have k3' := alloc_frozen ((hbb.frozen (p := ⟨S, 2, none⟩) hSx).trans i3') hSy;
                          have hSa : S < (wb.alloc (.cells #[.int .i64 N] 2)).heap.size := Nat.lt_of_lt_of_le hSy (by simp); have ob := own_below oa hbb)
                      | (refine step_append_own rfl (.tmp 100) (.tmp 107) 44 rfl R2 2 i2 (.int .i64 0) 1 8 Try.underlying44 ki kz0 kz1 kz2 rfl (by decide) (.slice Au q cu) q _ rfl (ob.alloc _) ⟨wb.heap.size, 0, none⟩ 1 1 [.int .i64 N] rfl rfl (cells_one wb N 2) (one_one N) HQ1.out HQ2.out (Nat.le_trans (Nat.le_trans hBwr (Nat.le_trans hba.size hbb.size)) (by simp)) ?_; intro v' w' hown' hgrow'; obtain ⟨g, cp, rfl, hgl, hgh⟩ := hown'.form (Nat.succ_pos _);
                          have m0 : w'.cell? ⟨S, 2, none⟩ = some (.slice Au q cu) := hgrow'.cell (k2' _) (fun e => by have := (ob.lt S e.symm).1; omega);
                          have m1 : w'.cell? ⟨S, 0, none⟩ = some (.string xn) := hgrow'.cell (k0' _) (fun e => by have := (ob.lt S e.symm).1; omega);
                          have m2 : w'.cell? ⟨S, 1, none⟩ = some (.int .i64 nl) := hgrow'.cell (k1' _) (fun e => by have := (ob.lt S e.symm).1; omega);
                          have m3 : w'.frozen? ⟨S, 2, none⟩ = false := grown_frozen hgrow' (k3' _) hSa (fun e => by have := (ob.lt S e.symm).1; omega)))
                    all_goals
                      have g5 := (grown_then (grown_then (grown_below (grown_below (b := wr.drew) ⟨HG.out.os, HG.out.tape, HG.out.output, HG.out.size, HG.out.block⟩ hba) hbb) (World.grownBy_alloc wb (.cells #[.int .i64 N] 2) none) (fun _ h => by cases h)) hgrow' (fun j hj => by have := (ob.lt j hj).1; rw [HR2.out]; exact this)).andThen (World.grownBy_set w' S 2 (.slice (some ⟨g, 0, none⟩) (q + 1) cp)) (fun j hj => .inr hj)
                      have own5 := hown'.kept (World.grownBy_set w' S 2 (.slice (some ⟨g, 0, none⟩) (q + 1) cp)) (.inr (by simp [Value.ownBlock]; omega))
                      rw [← HUN.out] at own5
                      have G5 := Lib.hid g5
                      have OWN5 := Lib.hid own5
                      have N0 := Lib.hid ((World.cell?_setCell_other w' ⟨S, 2, none⟩ ⟨S, 0, none⟩ (.slice (some ⟨g, 0, none⟩) (q + 1) cp) (by simp)).trans m1)
                      have N1 := Lib.hid ((World.cell?_setCell_other w' ⟨S, 2, none⟩ ⟨S, 1, none⟩ (.slice (some ⟨g, 0, none⟩) (q + 1) cp) (by simp)).trans m2)
                      have N2 := Lib.hid (World.cell?_setCell_same w' ⟨S, 2, none⟩ (.slice (some ⟨g, 0, none⟩) (q + 1) cp) m0)
                      have N3 := Lib.hid ((World.frozen?_setCell w' ⟨S, 2, none⟩ ⟨S, 2, none⟩ (.slice (some ⟨g, 0, none⟩) (q + 1) cp)).trans m3)
                      clear g5 own5 hown' hgrow' oa ob k2 k2' k0' k1' k3' i0' i1' i2' i3' m0 m1 m2 m3 j0 j1 j2 j3 z0 z1 z2 z3 z4
                      go_wp2_with fail
                      go_roundw
                      case rel => exact ⟨q + 1, _, _, by omega, by go_num, N0.out, N1.out, N2.out, N3.out, OWN5.out, G5.out⟩
                      case measure => simp [intOf] <;> omega
                  · obtain rfl : q = ics.length := by omega
                    have hbw1 : Below B w1 wr := HBW1.out.grown HG.out (by rw [HR2.out]; omega) (fun j hj => by cases hj; omega)
                    have hB1 : B ≤ wr.heap.size := by omega
                    have HBW1' := Lib.hid hbw1
                    have hZS' : Z + 1 ≤ S := hZS
                    have HO6 := Lib.hid (HO5.out.grown HG.out (fun j hj => by cases hj; omega))
                    have k0 := alloc_cell j0 hSw
                    have k1 := alloc_cell j1 hSw
                    have k2 := alloc_cell j2 hSw
                    have k3 := alloc_frozen j3 hSw
                    have hSa : ∀ O, S < (wr.alloc O).heap.size := fun O => by simp; omega
                    have hq1 : ics.length + 1 ≤ maxLen := by unfold maxLen; omega
                    have hq2 : (ics.length + 1) * 8 ≤ 140737488355328 := by omega
                    have HQ1 := Lib.hid hq1
                    have HQ2 := Lib.hid hq2
                    have hl1 : L.length + 1 ≤ maxLen := by unfold maxLen; omega
                    have hl2 : (L.length + 1) * 48 ≤ 140737488355328 := by omega
                    have HL1 := Lib.hid hl1
                    have HL2 := Lib.hid hl2
                    clear hq1 hq2 hl1 hl2 hbw1 z1 z3 z4
                    go_wp2_with (first
                      | (at_builtin; refine wpList_append_own _ rfl (.tmp 111) (.tmp 114) 44 rfl R2 2 i2 (.int .i64 0) 1 8 Try.underlying44 ki kz0 kz1 kz2 rfl (by decide) (.slice Au ics.length cu) ics.length _ rfl (HOWN.out.alloc _) ⟨wr.heap.size, 0, none⟩ 1 1 [.int .i64 nl] rfl rfl (cells_one wr _ 2) (one_one _) HQ1.out HQ2.out (Nat.le_trans hBwr (by simp)) ?_))
                    intro v' w5 hown' hgrow' _
                    obtain ⟨g, cp, rfl, hgl, hgh⟩ := hown'.form (Nat.succ_pos _)
                    have hne : ∀ (p : Addr), p.block = S → some p.block ≠ (Value.slice Au ics.length cu).ownBlock := fun p hp e => by rw [hp] at e; have := (HOWN.out.lt S e.symm).1; omega
                    have m0 := hgrow'.cell (k0 _) (hne _ rfl)
                    have m1 := hgrow'.cell (k1 _) (hne _ rfl)
                    have m2 := hgrow'.cell (k2 _) (hne _ rfl)
                    have m3 := grown_frozen hgrow' (k3 _) (hSa _) (hne _ rfl)
                    have ho5 := ((HO6.out.alloc _).grown hgrow' (fun j hj => by have := (HOWN.out.lt j hj).1; omega)).grown (World.grownBy_set w5 S 2 (.slice (some ⟨g, 0, none⟩) (ics.length + 1) cp)) (fun j hj => by cases hj; omega)
                    have own5 := own_base' (hown'.kept (World.grownBy_set w5 S 2 (.slice (some ⟨g, 0, none⟩) (ics.length + 1) cp)) (.inr (by simp [Value.ownBlock]; omega))) (show B ≤ R2 by omega)
                    have hb5 : Below B w1 (w5.setCell ⟨S, 2, none⟩ (.slice (some ⟨g, 0, none⟩) (ics.length + 1) cp)) := ((HBW1'.out.alloc hB1 _).grown hgrow' (by simp; omega) (fun j hj => by have := (HOWN.out.lt j hj).1; omega)).setCell (show B ≤ S by omega) _
                    have hz5 : (w5.setCell ⟨S, 2, none⟩ (.slice (some ⟨g, 0, none⟩) (ics.length + 1) cp)).heap.size = w5.heap.size := by simp [World.setCell]
                    have hB5 : B ≤ w5.heap.size := by have := hgrow'.size; simp at this; omega
                    have HO7 := Lib.hid ho5
                    have OWN5 := Lib.hid own5
                    have HB5 := Lib.hid hb5
                    have HZ5 := Lib.hid hz5
                    clear hown' hgrow' hne ho5 own5 hb5 hz5 k0 k1 k2 k3 j0 j1 j2 j3 z0 z2
                    go_wp2_with (first
                      | (at_builtin; refine wpList_append_own _ rfl (.tmp 117) (.tmp 119) 43 rfl B 46 i46 (.agg #[.string ⟨#[]⟩, .int .i64 0, .slice none 0 0]) 3 48 Try.underlying43 ji jz0 jz1 jz2 rfl (by decide) _ L.length _ rfl (HO7.out.row.alloc _) ⟨w5.heap.size, 0, none⟩ 1 1 [.string xn, .int .i64 nl, .slice (some ⟨g, 0, none⟩) (ics.length + 1) cp] rfl rfl ?g1 ?g2 HL1.out HL2.out ?g5 ?_))
                    case g1 =>
                      intro j u hj
                      rw [← HZ5.out]
                      match j, hj with
                      | 0, hj => simp at hj; subst hj; simp [Addr.add, go_sem]
                      | 1, hj => simp at hj; subst hj; simp [Addr.add, go_sem]
                      | 2, hj => simp at hj; subst hj; simp [Addr.add, go_sem]
                    case g2 => intro u hu; simp at hu; rcases hu with rfl | rfl | rfl <;> rfl
                    case g5 => simp [World.setCell]; omega
                    intro v'' w6 hown6 hgrow6 _
                    have HOUT6 := Lib.hid ((HO7.out.alloc _).push (s := ⟨xn, nl, unlikesTo cols R ics ics.length ++ [(nl : Int)]⟩) (u := .slice (some ⟨g, 0, none⟩) (ics.length + 1) cp) (by rw [List.length_append, unlikesTo_length, ints_append]; exact OWN5.out.alloc _) hgrow6 hown6)
                    have HSTEP := Lib.hid (show tabStats tabs all ++ (idxs.take (m + 1)).map (idxSt tabs all) = L ++ [⟨xn, nl, unlikesTo cols R ics ics.length ++ [(nl : Int)]⟩] by rw [idxSt_take HSK.out, ← List.append_assoc, HLE.out, HIS.out])
                    have HB6 := Lib.hid ((HB5.out.alloc (by rw [HZ5.out]; exact hB5) _).grown hgrow6 (by simp [World.setCell]; omega) (fun j hj => (HO7.out.row.lt j hj).1))
                    clear hown6 hgrow6
                    go_wp2_with fail
                    go_roundw
                    case rel => exact ⟨m + 1, _, by omega, by go_num, by rw [HSTEP.out]; exact HOUT6.out, HB6.out⟩
                    case measure => simp [intOf] <;> omega
        · obtain rfl : m = idxs.length := by omega
          have HF := Lib.hid (show tabStats tabs all ++ (idxs.take idxs.length).map (idxSt tabs all) = ofF tabs idxs all by rw [List.take_length]; rfl)
          have HLO := Lib.hid (HLE.out.symm.trans HF.out)
          have hfin := HO.out.seen (by rw [HLO.out]; exact ofF_ok (tab_names HT.out) (idx_names HX.out) (fun t ht => Nat.le_trans (right_cols HP.out t ht) (by omega)) (fun R hR => by obtain ⟨t, _, hp⟩ := right_vals HP.out R hR; have := hp.2.1; omega) (fun R hR r hr => by obtain ⟨t, _, hp⟩ := right_vals HP.out R hR; have h1 := hp.1; have h2 := (hp.2.2.2.2 r hr).1; unfold maxLen; omega) (right_sizes HP.out))
          rw [HLO.out] at hfin
          obtain ⟨A, c, rfl, hs⟩ := hfin
          have HS := Lib.hid hs
          clear hs
          go_wp2_with fail
          go_ret
          exact ⟨A, c, rfl, HS.out, hbw⟩

end Go.Proofs.Ytpalbdjcfhlniaa
