/- The walk over Right. -/
import Derived.Test.YtpalbdjcfhlniaaStatLa
import Derived.Test.YtpalbdjcfhlniaaStatO
import Derived.Test.YtpalbdjcfhlniaaStatRb
namespace Go.Proofs.Ytpalbdjcfhlniaa
open Go.RowKit

/-- A row of a table of n columns. -/
def RowP (n : Nat) (r : List Vl) : Prop := r.length = n + 1 ∧ ∀ v ∈ r, mayV v
/-- A table and its rows. -/
def TabP (t : Tb) (R : List (List Vl)) : Prop := t.cols.length ≤ 32 ∧ R.length ≤ 40 ∧ 1 ≤ t.name.size ∧ t.name.size ≤ 32 ∧ ∀ r ∈ R, RowP t.cols.length r
def IdxP (x : Ix) : Prop := x.cols.length ≤ 32 ∧ 1 ≤ x.name.size ∧ x.name.size ≤ 32 ∧ ∀ c ∈ x.cols, c.coll = 0 ∨ c.coll = 1

structure RightP (tabs : List Tb) (idxs : List Ix) (all : List (List (List Vl))) : Prop where
  len : all.length = tabs.length
  nt : tabs.length ≤ 6
  nx : idxs.length ≤ 6
  tab : ∀ (i : Nat) t R, tabs[i]? = some t → all[i]? = some R → TabP t R
  idx : ∀ x ∈ idxs, IdxP x

def RightOut (w : World) (tabs : List Tb) (idxs : List Ix) (all : List (List (List Vl))) (e : Ending) (w' : World) : Prop := Below w.heap.size w w' ∧ ∃ b, e = .returned (.bool b) ∧ (b = true → RightP tabs idxs all)

theorem upto {α : Type} {P : Nat → α → Prop} {l : List α} {k : Nat} (h : ∀ j x, j < k → l[j]? = some x → P j x) {y : α} (hy : l[k]? = some y) (hp : P k y) : ∀ j x, j < k + 1 → l[j]? = some x → P j x := fun j x hj hx => by
  by_cases hjk : j < k
  · exact h j x hjk hx
  · obtain rfl : j = k := by omega
    rw [hy] at hx
    injection hx with hx
    subst hx
    exact hp
theorem upto_all {α : Type} {P : α → Prop} {l : List α} (h : ∀ j x, j < l.length → l[j]? = some x → P x) : ∀ x ∈ l, P x := fun x hx => by
  obtain ⟨j, hj⟩ := List.getElem?_of_mem hx
  exact h j x (List.getElem?_eq_some_iff.1 hj).1 hj

set_option maxHeartbeats 8000000 in
set_option maxRecDepth 100000 in
theorem right_any (tabs : List Tb) (idxs : List Ix) (all : List (List (List Vl))) (AT AX AR : Option Addr) (cT cX cR : Nat) (w : World)
    (ht : SeqAt TabE 4 w AT tabs) (hx : SeqAt IdxE 5 w AX idxs) (hr : SeqAt RowsE 1 w AR all) (hmt : tabs.length ≤ maxLen) (hmx : idxs.length ≤ maxLen) (hma : AllOk all) (hkt : ∀ t ∈ tabs, TbOk t) (hkx : ∀ x ∈ idxs, IxOk x) :
    Calls Try.prog 25 #[.agg #[.slice AT tabs.length cT, .slice AX idxs.length cX, .slice AR all.length cR]] w (RightOut w tabs idxs all) := by
  have HT := Lib.hid ht
  have HX := Lib.hid hx
  have HR := Lib.hid hr
  have HKT := Lib.hid hkt
  have HKX := Lib.hid hkx
  have HKA := Lib.hid hma.2
  have hma' := hma.1
  clear ht hx hr hkt hkx hma
  unfold maxLen at hmt hmx hma'
  have hbb : ∀ O, Below w.heap.size w (w.alloc O) := fun O => (Below.refl _ _).alloc (Nat.le_refl _) O
  by_cases g1 : all.length = tabs.length
  · have HL := Lib.hid g1
    rw [g1]
    rw [g1] at hma'
    clear g1
    by_cases g2 : 6 < tabs.length
    · go_enter Try.func25, Try.ntmps25
      go_wp2_with fail
      go_ret
      exact ⟨hbb _, false, rfl, fun h => by cases h⟩
    · by_cases g3 : 6 < idxs.length
      · go_enter Try.func25, Try.ntmps25
        go_wp2_with fail
        go_ret
        exact ⟨hbb _, false, rfl, fun h => by cases h⟩
      · go_enter Try.func25, Try.ntmps25
        go_wp2_with fail
        have hb0 := hbb (.cells #[.slice AT tabs.length cT, .slice AX idxs.length cX, .slice AR tabs.length cR] 53)
        have d0 : (w.alloc (.cells #[.slice AT tabs.length cT, .slice AX idxs.length cX, .slice AR tabs.length cR] 53)).cell? ⟨w.heap.size, 0, none⟩ = some (.slice AT tabs.length cT) := World.cell?_alloc_new w _ 53 0
        have d1 : (w.alloc (.cells #[.slice AT tabs.length cT, .slice AX idxs.length cX, .slice AR tabs.length cR] 53)).cell? ⟨w.heap.size, 1, none⟩ = some (.slice AX idxs.length cX) := World.cell?_alloc_new w _ 53 1
        have d2 : (w.alloc (.cells #[.slice AT tabs.length cT, .slice AX idxs.length cX, .slice AR tabs.length cR] 53)).cell? ⟨w.heap.size, 2, none⟩ = some (.slice AR tabs.length cR) := World.cell?_alloc_new w _ 53 2
        have hz : (w.alloc (.cells #[.slice AT tabs.length cT, .slice AX idxs.length cX, .slice AR tabs.length cR] 53)).heap.size = w.heap.size + 1 := by simp
        generalize w.alloc (.cells #[.slice AT tabs.length cT, .slice AX idxs.length cX, .slice AR tabs.length cR] 53) = W1 at hb0 d0 d1 d2 hz
        obtain ⟨X, hX⟩ : ∃ X, w.heap.size = X := ⟨_, rfl⟩
        rw [hX] at d0 d1 d2 hz
        simp only [hX]
        have hX1 : X < W1.heap.size := by omega
        have HXE := Lib.hid hX
        have HB0 := Lib.hid hb0
        have D0 := Lib.hid d0
        have D1 := Lib.hid d1
        have D2 := Lib.hid d2
        clear hb0 d0 d1 d2 hz hX hbb
        go_loopw [3] (fun i wr => ∃ k : Nat, k ≤ tabs.length ∧ i = .int .i64 k ∧ Below W1.heap.size W1 wr ∧ Hid (∀ j t, j < k → tabs[j]? = some t → ∀ R, all[j]? = some R → TabP t R)) (fun i _ => tabs.length - (intOf i).toNat)
        case atStart => exact ⟨0, Nat.zero_le _, rfl, Below.refl _ _, fun j t h => by omega⟩
        case round =>
          obtain ⟨k, hk, rfl, hB, HP⟩ := hrel
          have hXw : X < wr.heap.size := Nat.lt_of_lt_of_le hX1 hB.size
          have x0 := (hB.cell (p := ⟨X, 0, none⟩) hX1).trans D0.out
          have x1 := (hB.cell (p := ⟨X, 1, none⟩) hX1).trans D1.out
          have x2 := (hB.cell (p := ⟨X, 2, none⟩) hX1).trans D2.out
          have HBW := Lib.hid (HB0.out.trans (hB.mono HB0.out.size))
          by_cases hlt : k < tabs.length
          · obtain ⟨a, qb, qo, t, rfl, hq, hql, hsk, hE⟩ := HT.out.get k hlt
            obtain ⟨a', rb, ro, R, rfl, hq', hql', hsk', hER⟩ := HR.out.get k (by rw [HL.out]; exact hlt)
            rw [Nat.mul_one] at hq'
            have HSK := Lib.hid hsk
            have HSK' := Lib.hid hsk'
            obtain ⟨u, c1w, A1, cc1, rfl, _⟩ := hE.cols
            obtain ⟨u', e0w, A3, cc3, rfl, hRS⟩ := hER
            have c0w := hE.name
            have HRS := Lib.hid hRS
            have hkt := HKT.out t (List.mem_of_getElem? hsk)
            have hz1 := hkt.1
            have hz2 := hkt.2.1
            have hkr := HKA.out R (List.mem_of_getElem? hsk')
            have hz3 := hkr.1
            have HKR := Lib.hid hkr.2
            unfold maxLen at hz1 hz2 hz3
            clear hE hRS hkt hkr hsk hsk'
            obtain ⟨nm, hnm⟩ : ∃ v, t.name = v := ⟨_, rfl⟩
            obtain ⟨cl, hcl⟩ : ∃ v, t.cols.length = v := ⟨_, rfl⟩
            obtain ⟨rl, hrl⟩ : ∃ v, R.length = v := ⟨_, rfl⟩
            rw [hnm] at c0w hz1
            rw [hcl] at c1w hz2
            rw [hrl] at e0w hz3
            have HNM := Lib.hid hnm
            have HCL := Lib.hid hcl
            have HRL := Lib.hid hrl
            have c0 := (HBW.out.cell (p := ⟨qb, qo, none⟩) hql).trans c0w
            have c1 := (HBW.out.cell (p := ⟨qb, qo + 1, none⟩) hql).trans c1w
            have e0 := (HBW.out.cell (p := ⟨rb, ro, none⟩) hql').trans e0w
            have C1W := Lib.hid c1w
            have E0W := Lib.hid e0w
            clear hnm hcl hrl c0w c1w e0w
            by_cases f1 : 32 < cl
            ·
              go_wp2_with fail
              go_ret
              exact ⟨HBW.out, false, rfl, fun h => by cases h⟩
            · by_cases f2 : 40 < rl
              ·
                go_wp2_with fail
                go_ret
                exact ⟨HBW.out, false, rfl, fun h => by cases h⟩
              · by_cases f3 : nm.size < 1
                ·
                  go_wp2_with fail
                  go_ret
                  exact ⟨HBW.out, false, rfl, fun h => by cases h⟩
                · by_cases f4 : 32 < nm.size
                  ·
                    go_wp2_with fail
                    go_ret
                    exact ⟨HBW.out, false, rfl, fun h => by cases h⟩
                  · have HB1 := Lib.hid hB
                    clear hB
                    go_wp2_with fail
                    have HXC0 := Lib.hid x0
                    clear x0 x1 x2 c0 c1 e0
                    go_loopw [4] (fun i wr => ∃ j : Nat, j ≤ rl ∧ i = .int .i64 j ∧ Below W1.heap.size W1 wr ∧ Hid (∀ m r, m < j → R[m]? = some r → RowP cl r)) (fun i _ => rl - (intOf i).toNat)
                    case atStart => exact ⟨0, Nat.zero_le _, rfl, HB1.out, fun j t h => by omega⟩
                    case round =>
                      obtain ⟨j, hj, rfl, hB, HPR⟩ := hrel
                      have HBW := Lib.hid (HB0.out.trans (hB.mono HB0.out.size))
                      have x0 := (hB.cell (p := ⟨X, 0, none⟩) hX1).trans D0.out
                      have x2 := (hB.cell (p := ⟨X, 2, none⟩) hX1).trans D2.out
                      have c1 := (HBW.out.cell (p := ⟨qb, qo + 1, none⟩) hql).trans C1W.out
                      have e0 := (HBW.out.cell (p := ⟨rb, ro, none⟩) hql').trans E0W.out
                      by_cases hjl : j < rl
                      · obtain ⟨a4, sb, so, r, rfl, hq4, hql4, hsk4, hE4⟩ := HRS.out.get j (by rw [HRL.out]; exact hjl)
                        rw [Nat.mul_one] at hq4
                        obtain ⟨u4, r0w, A4, c4, rfl, hVS⟩ := hE4
                        have HSK4 := Lib.hid hsk4
                        have hz4 := (HKR.out r (List.mem_of_getElem? hsk4)).1
                        have HVS := Lib.hid hVS
                        unfold maxLen at hz4
                        clear hVS hsk4
                        obtain ⟨n4, hn4⟩ : ∃ v, r.length = v := ⟨_, rfl⟩
                        rw [hn4] at r0w hz4
                        have HN4 := Lib.hid hn4
                        have r0 := (HBW.out.cell (p := ⟨sb, so, none⟩) hql4).trans r0w
                        clear hn4 r0w
                        by_cases k1 : n4 = cl + 1
                        · have b1 : ((n4 : Int) == (cl : Int) + 1) = true := by rw [beq_iff_eq]; omega
                          have b1' : ((n4 : Int) != (cl : Int) + 1) = false := by rw [bne, b1]; rfl
                          obtain ⟨vb, vo, rfl, hvb, hV⟩ := seq_plain HVS.out (by rw [HN4.out]; omega)
                          obtain ⟨v0, hv0⟩ : ∃ v, r[0]? = some v := ⟨_, List.getElem?_eq_getElem (by rw [HN4.out]; omega)⟩
                          have hE0 := hV 0 v0 hv0
                          rw [Nat.zero_mul, Nat.add_zero] at hE0
                          have m0 := (HBW.out.cell (p := ⟨vb, vo, none⟩) hvb).trans hE0.kind
                          have m1 := (HBW.out.cell (p := ⟨vb, vo + 1, none⟩) hvb).trans hE0.n
                          have HV := Lib.hid hV
                          clear hV hv0 hE0
                          obtain ⟨vk, hvk⟩ : ∃ x, v0.kind = x := ⟨_, rfl⟩
                          obtain ⟨vn, hvn⟩ : ∃ x, v0.n = x := ⟨_, rfl⟩
                          rw [hvk] at m0
                          rw [hvn] at m1
                          clear hvk hvn
                          by_cases k2 : vk = 1
                          · subst k2
                            have hVAL : Hid True := trivial
                            by_cases k3 : j = 0
                            · have b3 : decide ((0 : Int) < (j : Int)) = false := by rw [decide_eq_false_iff_not]; omega
                              have b3' : decide (0 < j) = false := by rw [decide_eq_false_iff_not]; omega
                              have b3'' : (j : Int) ≤ 0 := by omega
                              have K3 := Lib.hid k3
                              clear k3
                              go_wp2_with fail
                              go_quiet (fail)
                              go_wp2_with fail
                              have HBQ := Lib.hid (below_n hB nq)
                              clear x0 x2 c1 e0 r0 m0 m1
                              go_loopw [6] (fun i wr => ∃ m : Nat, m ≤ n4 ∧ i = .int .i64 m ∧ Below W1.heap.size W1 wr ∧ Hid (∀ i v, i < m → r[i]? = some v → mayV v)) (fun i _ => n4 - (intOf i).toNat)
                              case atStart => exact ⟨0, Nat.zero_le _, rfl, HBQ.out, fun j t h => by omega⟩
                              case round =>
                                obtain ⟨m, hm, rfl, hB, HPV⟩ := hrel
                                have HBW := Lib.hid (HB0.out.trans (hB.mono HB0.out.size))
                                by_cases hmn : m < n4
                                · obtain ⟨v, hv⟩ : ∃ v, r[m]? = some v := ⟨_, List.getElem?_eq_getElem (by rw [HN4.out]; exact hmn)⟩
                                  have hEv := HV.out m v hv
                                  have y0 := (HBW.out.cell (p := ⟨vb, vo + m * 3, none⟩) hvb).trans hEv.kind
                                  have y1 := (HBW.out.cell (p := ⟨vb, vo + m * 3 + 1, none⟩) hvb).trans hEv.n
                                  have y2 := (HBW.out.cell (p := ⟨vb, vo + m * 3 + 2, none⟩) hvb).trans hEv.s
                                  have HMV := Lib.hid (may03_any v.kind v.n v.s wr hEv.sz)
                                  have HSV := Lib.hid hv
                                  clear hEv hv
                                  obtain ⟨zk, hzk⟩ : ∃ x, v.kind = x := ⟨_, rfl⟩
                                  obtain ⟨zn, hzn⟩ : ∃ x, v.n = x := ⟨_, rfl⟩
                                  obtain ⟨zs, hzs⟩ : ∃ x, v.s = x := ⟨_, rfl⟩
                                  obtain rfl : v = ⟨zk, zn, zs⟩ := by subst hzk; subst hzn; subst hzs; rfl
                                  rw [hzk] at y0 HMV
                                  rw [hzn] at y1 HMV
                                  rw [hzs] at y2 HMV
                                  clear hzk hzn hzs
                                  go_wp2_with (first
                                    | (go_at_call 49; (with_reducible refine HMV.out.mono ?_); rintro e w5 ⟨hb5, b, rfl, hmay⟩; have HMAY := Lib.hid hmay; clear hmay; cases b))
                                  all_goals first
                                    | (go_ret; exact ⟨HBW.out.trans (hb5.mono HBW.out.size), false, rfl, fun h => by cases h⟩)
                                    | (have HPV' := Lib.hid (upto (P := fun _ v => mayV v) HPV.out HSV.out (HMAY.out (by trivial)))
                                       go_roundw
                                       case rel => exact ⟨m + 1, by omega, by go_num, hB.trans (hb5.mono hB.size), HPV'⟩
                                       case measure => simp [intOf] <;> omega)
                                · obtain rfl : m = n4 := by omega
                                  have HRP : Hid (RowP cl r) := ⟨by rw [HN4.out]; exact k1, upto_all (by rw [HN4.out]; exact HPV.out)⟩
                                  have HPR' := Lib.hid (upto (P := fun _ r => RowP cl r) HPR.out HSK4.out HRP.out)
                                  go_wp2_with fail
                                  go_roundw
                                  case rel => exact ⟨j + 1, by omega, by go_num, hB, HPR'⟩
                                  case measure => simp [intOf] <;> omega
                            · obtain ⟨q, rfl⟩ : ∃ q, j = q + 1 := ⟨j - 1, by omega⟩
                              have b3 : decide ((0 : Int) < ((q + 1 : Nat) : Int)) = true := by rw [decide_eq_true_eq]; omega
                              obtain ⟨a5, tb2, to2, r', ea5, hq5, hql5, hsk5, hE5⟩ := HRS.out.get q (by rw [HRL.out]; omega)
                              obtain rfl := Option.some.inj ea5
                              rw [Nat.mul_one] at hq5
                              obtain ⟨u5, r1w, A5, c5, rfl, hVS5⟩ := hE5
                              have hrp := (HPR.out q r' (by omega) hsk5).1
                              obtain ⟨wb, wo, rfl, hwb, hV5⟩ := seq_plain hVS5 (by omega)
                              obtain ⟨v5, hv5⟩ : ∃ v, r'[0]? = some v := ⟨_, List.getElem?_eq_getElem (by omega)⟩
                              have hE5 := hV5 0 v5 hv5
                              rw [Nat.zero_mul, Nat.add_zero] at hE5
                              have p1 := (HBW.out.cell (p := ⟨wb, wo + 1, none⟩) hwb).trans hE5.n
                              have r1 := (HBW.out.cell (p := ⟨tb2, to2, none⟩) hql5).trans r1w
                              rw [hrp] at r1
                              obtain ⟨pn, hpn⟩ : ∃ x, v5.n = x := ⟨_, rfl⟩
                              rw [hpn] at p1
                              clear hV5 hv5 hE5 hVS5 hsk5 r1w ea5 hpn hrp
                              by_cases k4 : vn ≤ pn
                              · have b4 : decide (vn ≤ pn) = true := decide_eq_true k4
                                go_wp2_with fail
                                go_quiet (fail)
                                go_wp2_with fail
                                go_ret
                                exact ⟨below_n HBW.out _, false, rfl, fun h => by cases h⟩
                              · have b4 : decide (vn ≤ pn) = false := decide_eq_false k4
                                go_wp2_with fail
                                go_quiet (fail)
                                go_wp2_with fail
                                have HBQ := Lib.hid (below_n hB nq)
                                clear x0 x2 c1 e0 r0 m0 m1 p1 r1
                                go_loopw [6] (fun i wr => ∃ m : Nat, m ≤ n4 ∧ i = .int .i64 m ∧ Below W1.heap.size W1 wr ∧ Hid (∀ i v, i < m → r[i]? = some v → mayV v)) (fun i _ => n4 - (intOf i).toNat)
                                case atStart => exact ⟨0, Nat.zero_le _, rfl, HBQ.out, fun j t h => by omega⟩
                                case round =>
                                  obtain ⟨m, hm, rfl, hB, HPV⟩ := hrel
                                  have HBW := Lib.hid (HB0.out.trans (hB.mono HB0.out.size))
                                  by_cases hmn : m < n4
                                  · obtain ⟨v, hv⟩ : ∃ v, r[m]? = some v := ⟨_, List.getElem?_eq_getElem (by rw [HN4.out]; exact hmn)⟩
                                    have hEv := HV.out m v hv
                                    have y0 := (HBW.out.cell (p := ⟨vb, vo + m * 3, none⟩) hvb).trans hEv.kind
                                    have y1 := (HBW.out.cell (p := ⟨vb, vo + m * 3 + 1, none⟩) hvb).trans hEv.n
                                    have y2 := (HBW.out.cell (p := ⟨vb, vo + m * 3 + 2, none⟩) hvb).trans hEv.s
                                    have HMV := Lib.hid (may03_any v.kind v.n v.s wr hEv.sz)
                                    have HSV := Lib.hid hv
                                    clear hEv hv
                                    obtain ⟨zk, hzk⟩ : ∃ x, v.kind = x := ⟨_, rfl⟩
                                    obtain ⟨zn, hzn⟩ : ∃ x, v.n = x := ⟨_, rfl⟩
                                    obtain ⟨zs, hzs⟩ : ∃ x, v.s = x := ⟨_, rfl⟩
                                    obtain rfl : v = ⟨zk, zn, zs⟩ := by subst hzk; subst hzn; subst hzs; rfl
                                    rw [hzk] at y0 HMV
                                    rw [hzn] at y1 HMV
                                    rw [hzs] at y2 HMV
                                    clear hzk hzn hzs
                                    go_wp2_with (first
                                      | (go_at_call 49; (with_reducible refine HMV.out.mono ?_); rintro e w5 ⟨hb5, b, rfl, hmay⟩; have HMAY := Lib.hid hmay; clear hmay; cases b))
                                    all_goals first
                                      | (go_ret; exact ⟨HBW.out.trans (hb5.mono HBW.out.size), false, rfl, fun h => by cases h⟩)
                                      | (have HPV' := Lib.hid (upto (P := fun _ v => mayV v) HPV.out HSV.out (HMAY.out (by trivial)))
                                         go_roundw
                                         case rel => exact ⟨m + 1, by omega, by go_num, hB.trans (hb5.mono hB.size), HPV'⟩
                                         case measure => simp [intOf] <;> omega)
                                  · obtain rfl : m = n4 := by omega
                                    have HRP : Hid (RowP cl r) := ⟨by rw [HN4.out]; exact k1, upto_all (by rw [HN4.out]; exact HPV.out)⟩
                                    have HPR' := Lib.hid (upto (P := fun _ r => RowP cl r) HPR.out HSK4.out HRP.out)
                                    go_wp2_with fail
                                    go_roundw
                                    case rel => exact ⟨q + 1 + 1, by omega, by go_num, hB, HPR'⟩
                                    case measure => simp [intOf] <;> omega
                          · have b2 : (vk == 1) = false := by rw [beq_eq_false_iff_ne]; exact k2
                            have b2' : (vk != 1) = true := by rw [bne, b2]; rfl
                            go_wp2_with fail
                            go_quiet (fail)
                            go_wp2_with fail
                            go_ret
                            exact ⟨below_n HBW.out _, false, rfl, fun h => by cases h⟩
                        · have b1 : ((n4 : Int) == (cl : Int) + 1) = false := by rw [beq_eq_false_iff_ne]; omega
                          have b1' : ((n4 : Int) != (cl : Int) + 1) = true := by rw [bne, b1]; rfl
                          go_wp2_with fail
                          go_quiet (fail)
                          go_wp2_with fail
                          go_ret
                          exact ⟨below_n HBW.out _, false, rfl, fun h => by cases h⟩
                      · obtain rfl : j = rl := by omega
                        have HTP : Hid (∀ R', all[k]? = some R' → TabP t R') := fun R' hR' => by
                          have e := HSK'.out
                          rw [e] at hR'
                          injection hR' with hR'
                          subst hR'
                          exact ⟨by rw [HCL.out]; omega, by rw [HRL.out]; omega, by rw [HNM.out]; omega, by rw [HNM.out]; omega, by rw [HCL.out]; exact upto_all (by rw [HRL.out]; exact HPR.out)⟩
                        have HP' := Lib.hid (upto (P := fun i t => ∀ R, all[i]? = some R → TabP t R) HP.out HSK.out HTP.out)
                        go_wp2_with fail
                        go_roundw
                        case rel => exact ⟨k + 1, by omega, by go_num, hB, HP'⟩
                        case measure => simp [intOf]; omega
          · obtain rfl : k = tabs.length := by omega
            have HTP : Hid (∀ (i : Nat) t R, tabs[i]? = some t → all[i]? = some R → TabP t R) := fun i t R h1 h2 => HP.out i t (List.getElem?_eq_some_iff.1 h1).1 h1 R h2
            have HB1 := Lib.hid hB
            clear HP hB
            go_wp2_with fail
            clear x0 x1 x2
            go_loopw [7] (fun i wr => ∃ k : Nat, k ≤ idxs.length ∧ i = .int .i64 k ∧ Below W1.heap.size W1 wr ∧ Hid (∀ j x, j < k → idxs[j]? = some x → IdxP x)) (fun i _ => idxs.length - (intOf i).toNat)
            case atStart => exact ⟨0, Nat.zero_le _, rfl, HB1.out, fun j t h => by omega⟩
            case round =>
              obtain ⟨k, hk, rfl, hB, HPX⟩ := hrel
              have HBW := Lib.hid (HB0.out.trans (hB.mono HB0.out.size))
              have x1 := (hB.cell (p := ⟨X, 1, none⟩) hX1).trans D1.out
              by_cases hkl : k < idxs.length
              · obtain ⟨a, qb, qo, x, rfl, hq, hql, hsk, hE⟩ := HX.out.get k hkl
                have HSK := Lib.hid hsk
                have hkx := HKX.out x (List.mem_of_getElem? hsk)
                have c0 := (HBW.out.cell (p := ⟨qb, qo, none⟩) hql).trans hE.name
                have c1 := (HBW.out.cell (p := ⟨qb, qo + 1, none⟩) hql).trans hE.table
                obtain ⟨u, c2w, A5, c5, rfl, hcs⟩ := hE.cols
                have c2 := (HBW.out.cell (p := ⟨qb, qo + 2, none⟩) hql).trans c2w
                have c3 := (HBW.out.cell (p := ⟨qb, qo + 3, none⟩) hql).trans hE.unique
                have c4 := (HBW.out.cell (p := ⟨qb, qo + 4, none⟩) hql).trans hE.root
                have HCS := Lib.hid hcs
                have hz1 := hkx.1
                have HTZ := Lib.hid hkx.2.1
                have hz3 := hkx.2.2.1
                unfold maxLen at hz1 hz3
                clear hE hkx hsk c2w hcs
                obtain ⟨nm, hnm⟩ : ∃ v, x.name = v := ⟨_, rfl⟩
                obtain ⟨tn, htn⟩ : ∃ v, x.table = v := ⟨_, rfl⟩
                obtain ⟨cl, hcl⟩ : ∃ v, x.cols.length = v := ⟨_, rfl⟩
                obtain ⟨un, hun⟩ : ∃ v, x.unique = v := ⟨_, rfl⟩
                obtain ⟨ro, hro⟩ : ∃ v, x.root = v := ⟨_, rfl⟩
                rw [hnm] at c0 hz1
                rw [htn] at c1 HTZ
                rw [hcl] at c2 hz3
                rw [hun] at c3
                rw [hro] at c4
                have HNM := Lib.hid hnm
                have HCL := Lib.hid hcl
                clear hnm htn hcl hun hro
                go_wp2_with fail
                have bZ : Below wr.heap.size wr (wr.alloc (.cells #[.string nm, .string tn, .slice A5 cl c5, .bool un, .int .i64 ro] 89)) := (Below.refl _ _).alloc (Nat.le_refl _) _
                have z0 : (wr.alloc (.cells #[.string nm, .string tn, .slice A5 cl c5, .bool un, .int .i64 ro] 89)).cell? ⟨wr.heap.size, 0, none⟩ = some (.string nm) := World.cell?_alloc_new wr _ 89 0
                have z1 : (wr.alloc (.cells #[.string nm, .string tn, .slice A5 cl c5, .bool un, .int .i64 ro] 89)).cell? ⟨wr.heap.size, 1, none⟩ = some (.string tn) := World.cell?_alloc_new wr _ 89 1
                have z2 : (wr.alloc (.cells #[.string nm, .string tn, .slice A5 cl c5, .bool un, .int .i64 ro] 89)).cell? ⟨wr.heap.size, 2, none⟩ = some (.slice A5 cl c5) := World.cell?_alloc_new wr _ 89 2
                have hzs : (wr.alloc (.cells #[.string nm, .string tn, .slice A5 cl c5, .bool un, .int .i64 ro] 89)).heap.size = wr.heap.size + 1 := by simp
                clear c0 c1 c2 c3 c4 x1
                generalize wr.alloc (.cells #[.string nm, .string tn, .slice A5 cl c5, .bool un, .int .i64 ro] 89) = W2 at bZ z0 z1 z2 hzs
                have HBZ := Lib.hid (hB.trans (bZ.mono hB.size))
                obtain ⟨Z, hZ⟩ : ∃ Z, wr.heap.size = Z := ⟨_, rfl⟩
                rw [hZ] at z0 z1 z2 hzs
                simp only [hZ]
                have hZ2 : Z < W2.heap.size := by omega
                have Z0 := Lib.hid z0
                have Z1 := Lib.hid z1
                have Z2 := Lib.hid z2
                clear z0 z1 z2 hzs bZ hZ hB HBW
                go_loopw [9, 10] (fun b i wr => ∃ (m : Nat) (ib : Bool), m ≤ tabs.length ∧ b = .bool ib ∧ i = .int .i64 m ∧ Below W2.heap.size W2 wr) (fun _ i _ => tabs.length - (intOf i).toNat)
                case atStart => exact ⟨0, false, Nat.zero_le _, rfl, rfl, Below.refl _ _⟩
                case round =>
                  obtain ⟨m, ib, hm, rfl, rfl, hB⟩ := hrel
                  have hB1 := HBZ.out.trans (hB.mono HBZ.out.size)
                  have HBW := Lib.hid (HB0.out.trans (hB1.mono HB0.out.size))
                  have x0 := (hB1.cell (p := ⟨X, 0, none⟩) hX1).trans D0.out
                  have z0 := (hB.cell (p := ⟨Z, 0, none⟩) hZ2).trans Z0.out
                  have z1 := (hB.cell (p := ⟨Z, 1, none⟩) hZ2).trans Z1.out
                  have z2 := (hB.cell (p := ⟨Z, 2, none⟩) hZ2).trans Z2.out
                  by_cases hmt' : m < tabs.length
                  · obtain ⟨a6, tb2, to2, t, rfl, hq6, hql6, hsk6, hE6⟩ := HT.out.get m hmt'
                    have t0 := (HBW.out.cell (p := ⟨tb2, to2, none⟩) hql6).trans hE6.name
                    have HSZ6 := Lib.hid hE6.sz
                    clear hE6 hsk6
                    obtain ⟨n6, hn6⟩ : ∃ v, t.name = v := ⟨_, rfl⟩
                    rw [hn6] at t0 HSZ6
                    clear hn6
                    cases ib
                    · have hXd : X < wr.drew.heap.size := Nat.lt_of_lt_of_le hX1 hB1.size
                      have hZd : Z < wr.drew.heap.size := Nat.lt_of_lt_of_le hZ2 hB.size
                      have htd : tb2 < wr.drew.heap.size := Nat.lt_of_lt_of_le hql6 HBW.out.size
                      go_wp2_with fail
                      first | (go_region_with (first
                        | (go_at_call 50; (with_reducible refine (rfold_any n6 _ HSZ6.out).mono ?_); rintro e w5 ⟨rfl, hb5⟩; have x0' := (hb5.cell (p := ⟨X, 0, none⟩) hXd).trans x0; have z1' := (hb5.cell (p := ⟨Z, 1, none⟩) hZd).trans z1; have t0' := (hb5.cell (p := ⟨tb2, to2, none⟩) htd).trans t0)
                        | (go_at_call 50; (with_reducible refine (rfold_any tn _ HTZ.out).mono ?_); rintro e w6 ⟨rfl, hb6⟩))) | fail
                      all_goals
                        have hb7 := (undrew hb5).trans (hb6.mono hb5.size)
                        have HB7 := Lib.hid (hB.trans (hb7.mono hB.size))
                        go_wp2_with fail
                        go_roundw
                        case rel => exact ⟨m + 1, _, by omega, rfl, by go_num, HB7.out⟩
                        case measure => simp [intOf] <;> omega
                    · go_wp2_with fail
                      go_quiet (fail)
                      go_wp2_with fail
                      go_roundw
                      case rel => exact ⟨m + 1, true, by omega, rfl, by go_num, below_n hB _⟩
                      case measure => simp [intOf] <;> omega
                  · obtain rfl : m = tabs.length := by omega
                    cases ib
                    ·
                      go_wp2_with fail
                      go_ret
                      exact ⟨HBW.out, false, rfl, fun h => by cases h⟩
                    · by_cases f1 : 32 < cl
                      ·
                        go_wp2_with fail
                        go_ret
                        exact ⟨HBW.out, false, rfl, fun h => by cases h⟩
                      · by_cases f2 : nm.size < 1
                        ·
                          go_wp2_with fail
                          go_ret
                          exact ⟨HBW.out, false, rfl, fun h => by cases h⟩
                        · by_cases f3 : 32 < nm.size
                          ·
                            go_wp2_with fail
                            go_ret
                            exact ⟨HBW.out, false, rfl, fun h => by cases h⟩
                          · have HB2 := Lib.hid hB
                            go_wp2_with fail
                            clear x0 z0 z1 z2 hB hB1
                            go_loopw [11] (fun i wr => ∃ m : Nat, m ≤ cl ∧ i = .int .i64 m ∧ Below W2.heap.size W2 wr ∧ Hid (∀ j c, j < m → x.cols[j]? = some c → c.coll = 0 ∨ c.coll = 1)) (fun i _ => cl - (intOf i).toNat)
                            case atStart => exact ⟨0, Nat.zero_le _, rfl, HB2.out, fun j t h => by omega⟩
                            case round =>
                              obtain ⟨m, hm, rfl, hB, HPC⟩ := hrel
                              have hB1 := HBZ.out.trans (hB.mono HBZ.out.size)
                              have HBW := Lib.hid (HB0.out.trans (hB1.mono HB0.out.size))
                              have z2 := (hB.cell (p := ⟨Z, 2, none⟩) hZ2).trans Z2.out
                              by_cases hmc : m < cl
                              · obtain ⟨a7, ib, io, ic, rfl, hq7, hql7, hsk7, hE7⟩ := HCS.out.get m (by rw [HCL.out]; exact hmc)
                                have i1 := (HBW.out.cell (p := ⟨ib, io + 1, none⟩) hql7).trans hE7.coll
                                have HSK7 := Lib.hid hsk7
                                clear hE7 hsk7
                                obtain ⟨co, hco⟩ : ∃ v, ic.coll = v := ⟨_, rfl⟩
                                rw [hco] at i1
                                have HCO := Lib.hid hco
                                clear hco
                                by_cases e1 : co = 0
                                · have HPC' := Lib.hid (upto (P := fun _ (c : Ic) => c.coll = 0 ∨ c.coll = 1) HPC.out HSK7.out (.inl (HCO.out.trans e1)))
                                  subst e1
                                  go_wp2_with fail
                                  go_roundw
                                  case rel => exact ⟨m + 1, by omega, by go_num, hB, HPC'⟩
                                  case measure => simp [intOf] <;> omega
                                · by_cases e2 : co = 1
                                  · have HPC' := Lib.hid (upto (P := fun _ (c : Ic) => c.coll = 0 ∨ c.coll = 1) HPC.out HSK7.out (.inr (HCO.out.trans e2)))
                                    subst e2
                                    clear e1
                                    go_wp2_with fail
                                    go_roundw
                                    case rel => exact ⟨m + 1, by omega, by go_num, hB, HPC'⟩
                                    case measure => simp [intOf] <;> omega
                                  · have b1 : (co != 0) = true := by rw [bne, beq_eq_false_iff_ne.2 e1]; rfl
                                    have b2 : (co != 1) = true := by rw [bne, beq_eq_false_iff_ne.2 e2]; rfl
                                    go_wp2_with fail
                                    go_ret
                                    exact ⟨HBW.out, false, rfl, fun h => by cases h⟩
                              · obtain rfl : m = cl := by omega
                                have HIX : Hid (IdxP x) := ⟨by rw [HCL.out]; omega, by rw [HNM.out]; omega, by rw [HNM.out]; omega, upto_all (by rw [HCL.out]; exact HPC.out)⟩
                                have HPX' := Lib.hid (upto (P := fun _ x => IdxP x) HPX.out HSK.out HIX.out)
                                go_wp2_with fail
                                go_roundw
                                case rel => exact ⟨k + 1, by omega, by go_num, hB1, HPX'⟩
                                case measure => simp [intOf] <;> omega
              · obtain rfl : k = idxs.length := by omega
                have HRP : Hid (RightP tabs idxs all) := ⟨HL.out, by omega, by omega, HTP.out, upto_all HPX.out⟩
                go_wp2_with fail
                go_ret
                exact ⟨HBW.out, true, rfl, fun _ => HRP.out⟩
  · go_enter Try.func25, Try.ntmps25
    go_wp2_with fail
    go_ret
    exact ⟨hbb _, false, rfl, fun h => by cases h⟩

end Go.Proofs.Ytpalbdjcfhlniaa
