/- The walk over Of. -/
import Derived.Test.YtpalbdjcfhlniaaStatT
namespace Go.Proofs.Ytpalbdjcfhlniaa
open Go.RowKit

/-- An index's columns lie in a slice whose room is no less than its length. -/
def CapE (w : World) (b o : Nat) (x : Ix) : Prop := ∃ A c, w.cell? ⟨b, o + 2, none⟩ = some (.slice A x.cols.length c) ∧ x.cols.length ≤ c ∧ c ≤ maxLen

theorem idxSt_take {tabs : List Tb} {idxs : List Ix} {all : List (List (List Vl))} {m : Nat} {x : Ix} (h : idxs[m]? = some x) : (idxs.take (m + 1)).map (idxSt tabs all) = (idxs.take m).map (idxSt tabs all) ++ [idxSt tabs all x] := by
  rw [List.take_add_one]; simp [h]

theorem alloc_cell {w : World} {p : Addr} {v : Value} (h : w.cell? p = some v) (hp : p.block < w.heap.size) (O : Obj) : (w.alloc O).cell? p = some v := (World.cell?_alloc_lt w O p hp).trans h
theorem alloc_cell2 {w : World} {p : Addr} {v : Value} (h : w.cell? p = some v) (hp : p.block < w.heap.size) (O O' : Obj) : ((w.alloc O).alloc O').cell? p = some v := alloc_cell (alloc_cell h hp O) (by simp; omega) O'

theorem tableF_ok {tabs : List Tb} {all : List (List (List Vl))} {name : ByteArray} {t : Tb} {rows : List (List Vl)} (h : tableF tabs all name = (t, rows)) (hc : ∀ t ∈ tabs, t.cols.length ≤ 100000) (hra : ∀ R ∈ all, R.length ≤ 100000) (hrl : ∀ R ∈ all, ∀ r ∈ R, r.length ≤ maxLen) (hvs : ∀ R ∈ all, ∀ r ∈ R, ∀ v ∈ r, v.s.size ≤ 4096) :
    t.cols.length ≤ 100000 ∧ rows.length ≤ 100000 ∧ (∀ r ∈ rows, r.length ≤ maxLen) ∧ ∀ r ∈ rows, ∀ v ∈ r, v.s.size ≤ 4096 := by
  rcases tableGo_mem (all := all) (name := name) tabs 0 with e | ⟨e1, e2⟩
  · have := (h.symm.trans e)
    injection this with h1 h2
    subst h1; subst h2
    exact ⟨Nat.zero_le _, Nat.zero_le _, fun r hr => by simp at hr, fun r hr => by simp at hr⟩
  · have h1 : (tableGo all name tabs 0).1 = t := congrArg Prod.fst h
    have h2 : (tableGo all name tabs 0).2 = rows := congrArg Prod.snd h
    rw [h1] at e1
    rw [h2] at e2
    exact ⟨hc _ e1, hra _ e2, hrl _ e2, hvs _ e2⟩

theorem SeqAt.take {α : Type} {E : World → Nat → Nat → α → Prop} {size : Nat} {w : World} {A : Option Addr} {xs : List α} (h : SeqAt E size w A xs) (n : Nat) : SeqAt E size w A (xs.take n) := fun k x hx => by
  rw [List.getElem?_take] at hx
  split at hx
  · exact h k x hx
  · cases hx

theorem counts_of {tn : ByteArray} {root : Int} {cols : List Cm} {rows : List (List Vl)} {ics : List Ic} {A A' AR AI : Option Addr} {c c' n' cR cI n : Nat} {w : World} {N : Int} (hn : ics.length = n) (hN : (countsF cols rows ics : Int) = N)
    (ht : SeqAt ColE 9 w A cols) (hr : SeqAt RowE 1 w AR rows) (hi : SeqAt IcE 3 w AI ics) (hm : cols.length ≤ 100000) (hmr : rows.length ≤ 100000) (hmi : ics.length ≤ 1000)
    (hrl : ∀ r ∈ rows, r.length ≤ maxLen) (hvs : ∀ r ∈ rows, ∀ v ∈ r, v.s.size ≤ 4096) :
    Calls Try.prog 52 #[.agg #[.string tn, .slice A cols.length c, .slice A' n' c', .int .i64 root], .slice AR rows.length cR, .slice AI n cI] w fun e w' => e = .returned (.int .i64 N) ∧ Below w.heap.size w w' := by
  subst hn; subst hN; exact counts_any tn root cols rows ics A A' AR AI c c' n' cR cI w ht hr hi hm hmr hmi hrl hvs

theorem alloc_frozen {w : World} {p : Addr} (h : w.frozen? p = false) (hp : p.block < w.heap.size) (O : Obj) : (w.alloc O).frozen? p = false :=
  (((Below.refl w.heap.size w).alloc (Nat.le_refl _) O).frozen hp).trans h
theorem grown_frozen {w w' : World} {row : Option Nat} {p : Addr} (hg : w.grownBy w' row) (h : w.frozen? p = false) (hp : p.block < w.heap.size) (hne : some p.block ≠ row) : w'.frozen? p = false :=
  (World.frozen?_of_block (w := w) (hg.block p.block hp hne)).trans h

theorem tab_names {w : World} {A : Option Addr} {l : List Tb} (h : SeqAt TabE 4 w A l) : ∀ s ∈ l, s.name.size ≤ maxLen := fun s hs => by
  obtain ⟨k, hk, rfl⟩ := List.getElem_of_mem hs
  obtain ⟨_, _, _, _, _, _, hE⟩ := h k _ (List.getElem?_eq_getElem hk)
  exact hE.sz
theorem idx_names {w : World} {A : Option Addr} {l : List Ix} (h : SeqAt IdxE 5 w A l) : ∀ s ∈ l, s.name.size ≤ maxLen := fun s hs => by
  obtain ⟨k, hk, rfl⟩ := List.getElem_of_mem hs
  obtain ⟨_, _, _, _, _, _, hE⟩ := h k _ (List.getElem?_eq_getElem hk)
  exact hE.sz
theorem ofF_ok {tabs : List Tb} {idxs : List Ix} {all : List (List (List Vl))} (ht : ∀ t ∈ tabs, t.name.size ≤ maxLen) (hx : ∀ x ∈ idxs, x.name.size ≤ maxLen) (hc : ∀ t ∈ tabs, t.cols.length ≤ 100000) (hra : ∀ R ∈ all, R.length ≤ 100000) (hrl : ∀ R ∈ all, ∀ r ∈ R, r.length ≤ maxLen) (hvs : ∀ R ∈ all, ∀ r ∈ R, ∀ v ∈ r, v.s.size ≤ 4096) :
    ∀ s ∈ ofF tabs idxs all, s.name.size ≤ maxLen ∧ s.many ≤ 9223372036854775807 := fun s hs => by
  rcases List.mem_append.1 hs with h | h
  · obtain ⟨k, hk, rfl⟩ := List.mem_mapIdx.1 h
    refine ⟨ht _ (List.getElem_mem hk), ?_⟩
    show ((rowsAt all k : Nat) : Int) ≤ _
    have : rowsAt all k ≤ 100000 := by
      unfold rowsAt
      rw [List.getD_eq_getElem?_getD]
      by_cases hka : k < all.length
      · rw [List.getElem?_eq_getElem hka]; exact hra _ (List.getElem_mem hka)
      · rw [List.getElem?_eq_none (by omega)]; exact Nat.zero_le _
    omega
  · obtain ⟨x, hxm, rfl⟩ := List.mem_map.1 h
    refine ⟨hx _ hxm, ?_⟩
    obtain ⟨⟨tt, rows⟩, htr⟩ : ∃ r, tableF tabs all x.table = r := ⟨_, rfl⟩
    have := (tableF_ok htr hc hra hrl hvs).2.1
    simp only [idxSt, htr]
    omega

theorem cells_one (w : World) (N : Int) (e : TypeId) : ∀ (j : Nat) (u : Value), [Value.int .i64 N][j]? = some u → (w.alloc (.cells #[.int .i64 N] e)).cell? ((⟨w.heap.size, 0, none⟩ : Addr).add j) = some u := fun j u hj => by
  match j, hj with
  | 0, hj => simp at hj; subst hj; exact World.cell?_alloc_new w _ e 0
theorem one_one (N : Int) : ∀ u ∈ [Value.int .i64 N], u.oneCell' = true := fun u hu => by simp at hu; subst hu; rfl

set_option maxHeartbeats 8000000 in
set_option maxRecDepth 100000 in
theorem of_any (tabs : List Tb) (idxs : List Ix) (all : List (List (List Vl))) (AT AX AR : Option Addr) (cT cX cR : Nat) (w : World)
    (ht : SeqAt TabE 4 w AT tabs) (hx : SeqAt IdxE 5 w AX idxs) (hr : SeqAt RowsE 1 w AR all) (hcp : SeqAt CapE 5 w AX idxs) (hmt : tabs.length ≤ 1000) (hmx : idxs.length ≤ 1000) (hma : all.length ≤ 100000)
    (hc : ∀ t ∈ tabs, t.cols.length ≤ 100000) (hic : ∀ x ∈ idxs, x.cols.length ≤ 1000) (hra : ∀ R ∈ all, R.length ≤ 100000) (hrl : ∀ R ∈ all, ∀ r ∈ R, r.length ≤ maxLen) (hvs : ∀ R ∈ all, ∀ r ∈ R, ∀ v ∈ r, v.s.size ≤ 4096) :
    Calls Try.prog 26 #[.agg #[.slice AT tabs.length cT, .slice AX idxs.length cX, .slice AR all.length cR]] w fun e w' => ∃ v, e = .returned v ∧ Sl StatE 3 w' v (ofF tabs idxs all) ∧ Below w.heap.size w w' := by
  obtain ⟨i46, ji, jz0, jz1, jz2⟩ := info_parts Try.info46
  obtain ⟨i2, ki, kz0, kz1, kz2⟩ := info_parts Try.info2
  have HT := Lib.hid ht
  have HX := Lib.hid hx
  have HR := Lib.hid hr
  have HCP := Lib.hid hcp
  have HC := Lib.hid hc
  have HIC := Lib.hid hic
  have HRA := Lib.hid hra
  have HRL := Lib.hid hrl
  have HVS := Lib.hid hvs
  clear ht hx hr hcp hc hic hra hrl hvs
  go_enter Try.func26, Try.ntmps26
  go_wp2_with fail
  have hb0 : Below w.heap.size w (w.alloc (.cells #[.slice AT tabs.length cT, .slice AX idxs.length cX, .slice AR all.length cR] 53)) := (Below.refl _ _).alloc (Nat.le_refl _) _
  have d0 : (w.alloc (.cells #[.slice AT tabs.length cT, .slice AX idxs.length cX, .slice AR all.length cR] 53)).cell? ⟨w.heap.size, 0, none⟩ = some (.slice AT tabs.length cT) := World.cell?_alloc_new w _ 53 0
  have d1 : (w.alloc (.cells #[.slice AT tabs.length cT, .slice AX idxs.length cX, .slice AR all.length cR] 53)).cell? ⟨w.heap.size, 1, none⟩ = some (.slice AX idxs.length cX) := World.cell?_alloc_new w _ 53 1
  have d2 : (w.alloc (.cells #[.slice AT tabs.length cT, .slice AX idxs.length cX, .slice AR all.length cR] 53)).cell? ⟨w.heap.size, 2, none⟩ = some (.slice AR all.length cR) := World.cell?_alloc_new w _ 53 2
  have hz : (w.alloc (.cells #[.slice AT tabs.length cT, .slice AX idxs.length cX, .slice AR all.length cR] 53)).heap.size = w.heap.size + 1 := by simp
  generalize w.alloc (.cells #[.slice AT tabs.length cT, .slice AX idxs.length cX, .slice AR all.length cR] 53) = w1 at hb0 d0 d1 d2 hz
  obtain ⟨X, hX⟩ : ∃ X, w.heap.size = X := ⟨_, rfl⟩
  obtain ⟨B, hB⟩ : ∃ B, w1.heap.size = B := ⟨_, rfl⟩
  rw [hX] at d0 d1 d2 hz
  rw [hB] at hz
  simp only [hX]
  have hXB : X < B := by omega
  have HWX := Lib.hid hX
  have HWB := Lib.hid hB
  have HB0 := Lib.hid hb0
  have D0 := Lib.hid d0
  have D1 := Lib.hid d1
  have D2 := Lib.hid d2
  clear hb0 d0 d1 d2 hz hX hB
  go_loopw [3, 16] (fun o i wr => ∃ (k : Nat) (us : List Value), k ≤ tabs.length ∧ i = .int .i64 k ∧ OutOwn wr B wr.heap.size o ((tabStats tabs all).take k) us ∧ Below B w1 wr) (fun _ i _ => tabs.length - (intOf i).toNat)
  case atStart => exact ⟨0, [], Nat.zero_le _, rfl, OutOwn.nil _ _ _, Below.refl _ _⟩
  case round =>
    obtain ⟨k, us, hk, rfl, hout, hbel⟩ := hrel
    have HO := Lib.hid hout
    have hBw : B ≤ wr.heap.size := by have := hbel.size; rw [HWB.out] at this; exact this
    have hbw : Below w.heap.size w wr := HB0.out.trans (hbel.mono (by rw [HWX.out]; omega))
    have f2 : ∀ O, (wr.alloc O).cell? ⟨X, 2, none⟩ = some (.slice AR all.length cR) := fun O => (World.cell?_alloc_lt wr O _ (show X < wr.heap.size by omega)).trans ((hbel.cell (p := ⟨X, 2, none⟩) hXB).trans D2.out)
    have f1 := (hbel.cell (p := ⟨X, 1, none⟩) hXB).trans D1.out
    clear hout
    by_cases hlt : k < tabs.length
    · obtain ⟨a, qb, qo, t, rfl, hq, hql, hsk, hE⟩ := HT.out.get k hlt
      have HSK := Lib.hid hsk
      have HSZ := Lib.hid hE.sz
      have c0 := (hbw.cell (p := ⟨qb, qo, none⟩) hql).trans hE.name
      obtain ⟨u, c1', A1, cc1, rfl, _⟩ := hE.cols
      have c1 := (hbw.cell (p := ⟨qb, qo + 1, none⟩) hql).trans c1'
      obtain ⟨A2, n2, cc2, c2'⟩ := hE.checks
      have c2 := (hbw.cell (p := ⟨qb, qo + 2, none⟩) hql).trans c2'
      have c3 := (hbw.cell (p := ⟨qb, qo + 3, none⟩) hql).trans hE.root
      clear hE hsk c1' c2' hql
      obtain ⟨nm, hnm⟩ : ∃ v, t.name = v := ⟨_, rfl⟩
      obtain ⟨root, hroot⟩ : ∃ v, t.root = v := ⟨_, rfl⟩
      obtain ⟨cl, hcl⟩ : ∃ v, t.cols.length = v := ⟨_, rfl⟩
      have HN := Lib.hid hnm
      rw [hnm] at c0 HSZ
      rw [hroot] at c3
      rw [hcl] at c1
      clear hnm hroot hcl
      have hll : ((tabStats tabs all).take k).length = k := by rw [List.length_take, tabStats_length]; omega
      obtain ⟨L, hL⟩ : ∃ L, (tabStats tabs all).take k = L := ⟨_, rfl⟩
      have HLE := Lib.hid hL
      rw [hL] at hll HO
      have HLL := Lib.hid hll
      clear hll hL
      have hs1 : ∀ O, (wr.alloc O).heap.size = wr.heap.size + 1 := fun O => by simp
      by_cases hkl : k < all.length
      · obtain ⟨p, rb, ro, rs, rfl, hrq, hrql, hrr, u, hu', A3, c3', rfl, _⟩ := HR.out.get k hkl
        rw [Nat.mul_one] at hrq
        have hu : ∀ O, (wr.alloc O).cell? ⟨rb, ro, none⟩ = some (.slice A3 rs.length c3') := fun O => (World.cell?_alloc_lt wr O _ (show rb < wr.heap.size by have := hbw.size; omega)).trans ((hbw.cell (p := ⟨rb, ro, none⟩) hrql).trans hu')
        have hrl : rs.length ≤ 100000 := HRA.out rs (List.mem_of_getElem? hrr)
        have HS : Hid (tabSt all t k = ⟨nm, rs.length, [(rs.length : Int)]⟩) := by show _ = _; simp only [tabSt, rowsAt, List.getD_eq_getElem?_getD, hrr, HN.out]; rfl
        clear hu' hrr hbw
        have hul : ∀ O O', (((wr.alloc O).alloc (.cells #[.int .i64 (rs.length : Int)] 2)).alloc O').ownsRow B 2 1 (.slice (some ⟨wr.heap.size + 1, 0, none⟩) 1 1) 1 [.int .i64 (rs.length : Int)] := fun O O' => by
          have h := World.ownsRow_lit (base := B) (e := 2) (size := 1) (wr.alloc O) #[.int .i64 (rs.length : Int)] 1 (by rw [hs1]; omega) (by decide) rfl
          rw [hs1] at h
          exact h.alloc O'
        have HUL := Lib.hid hul
        clear hul
        go_wp2_with (first
          | (at_builtin; refine wpList_append_own _ rfl (.tmp 32) (.tmp 39) 43 rfl B 46 i46 (.agg #[.string ⟨#[]⟩, .int .i64 0, .slice none 0 0]) 3 48 Try.underlying43 ji jz0 jz1 jz2 rfl (by decide) _ _ _ rfl (((HO.out.row.alloc _).alloc _).alloc _) ⟨wr.heap.size + 1 + 1, 0, none⟩ 1 1 [.string nm, .int .i64 (rs.length : Int), .slice (some ⟨wr.heap.size + 1, 0, none⟩) 1 1] rfl rfl ?c1 ?c2 ?c3 ?c4 ?c5 ?_))
        case c1 =>
          intro j u hj
          match j, hj with
          | 0, hj => simp at hj; subst hj; simp [Addr.add, go_sem]
          | 1, hj => simp at hj; subst hj; simp [Addr.add, go_sem]
          | 2, hj => simp at hj; subst hj; simp [Addr.add, go_sem]
        case c2 => intro u hu; simp at hu; rcases hu with rfl | rfl | rfl <;> rfl
        case c3 => have := HLL.out; unfold maxLen; omega
        case c4 => have := HLL.out; omega
        case c5 => simp; omega
        intro v' w3 hown' hgrow _
        have HP : Hid (OutOwn w3 B w3.heap.size v' ((tabStats tabs all).take (k + 1)) (us ++ [.slice (some ⟨wr.heap.size + 1, 0, none⟩) 1 1])) := by
          show OutOwn _ _ _ _ _ _
          rw [tabStats_take HSK.out, HS.out, HLE.out]
          exact (((HO.out.alloc _).alloc _).alloc _).push (s := ⟨nm, rs.length, [(rs.length : Int)]⟩) (HUL.out _ _) hgrow hown'
        have hB3 : Below B w1 w3 := (((hbel.alloc hBw _).alloc (by simp; omega) _).alloc (by simp; omega) _).grown hgrow (by simp; omega) (fun g hg => (HO.out.row.lt g hg).1)
        clear hown' hgrow f2
        go_wp2_with fail
        go_roundw
        case rel => exact ⟨k + 1, _, by omega, by go_num, HP.out, hB3⟩
        case measure => simp [intOf] <;> omega
      · have HS : Hid (tabSt all t k = ⟨nm, 0, [(0 : Int)]⟩) := by show _ = _; simp only [tabSt, rowsAt, List.getD_eq_getElem?_getD, List.getElem?_eq_none (Nat.le_of_not_lt hkl), HN.out]; rfl
        have hkb : decide ((k : Int) < (all.length : Int)) = false := by simp only [decide_eq_false_iff_not]; omega
        clear hbw
        have hul : ∀ O O', (((wr.alloc O).alloc (.cells #[.int .i64 (0 : Int)] 2)).alloc O').ownsRow B 2 1 (.slice (some ⟨wr.heap.size + 1, 0, none⟩) 1 1) 1 [.int .i64 (0 : Int)] := fun O O' => by
          have h := World.ownsRow_lit (base := B) (e := 2) (size := 1) (wr.alloc O) #[.int .i64 (0 : Int)] 1 (by rw [hs1]; omega) (by decide) rfl
          rw [hs1] at h
          exact h.alloc O'
        have HUL := Lib.hid hul
        clear hul
        go_wp2_with (first
          | (at_builtin; refine wpList_append_own _ rfl (.tmp 32) (.tmp 39) 43 rfl B 46 i46 (.agg #[.string ⟨#[]⟩, .int .i64 0, .slice none 0 0]) 3 48 Try.underlying43 ji jz0 jz1 jz2 rfl (by decide) _ _ _ rfl (((HO.out.row.alloc _).alloc _).alloc _) ⟨wr.heap.size + 1 + 1, 0, none⟩ 1 1 [.string nm, .int .i64 (0 : Int), .slice (some ⟨wr.heap.size + 1, 0, none⟩) 1 1] rfl rfl ?c1 ?c2 ?c3 ?c4 ?c5 ?_))
        case c1 =>
          intro j u hj
          match j, hj with
          | 0, hj => simp at hj; subst hj; simp [Addr.add, go_sem]
          | 1, hj => simp at hj; subst hj; simp [Addr.add, go_sem]
          | 2, hj => simp at hj; subst hj; simp [Addr.add, go_sem]
        case c2 => intro u hu; simp at hu; rcases hu with rfl | rfl | rfl <;> rfl
        case c3 => have := HLL.out; unfold maxLen; omega
        case c4 => have := HLL.out; omega
        case c5 => simp; omega
        intro v' w3 hown' hgrow _
        have HP : Hid (OutOwn w3 B w3.heap.size v' ((tabStats tabs all).take (k + 1)) (us ++ [.slice (some ⟨wr.heap.size + 1, 0, none⟩) 1 1])) := by
          show OutOwn _ _ _ _ _ _
          rw [tabStats_take HSK.out, HS.out, HLE.out]
          exact (((HO.out.alloc _).alloc _).alloc _).push (s := ⟨nm, 0, [(0 : Int)]⟩) (HUL.out _ _) hgrow hown'
        have hB3 : Below B w1 w3 := (((hbel.alloc hBw _).alloc (by simp; omega) _).alloc (by simp; omega) _).grown hgrow (by simp; omega) (fun g hg => (HO.out.row.lt g hg).1)
        clear hown' hgrow f2
        go_wp2_with fail
        go_roundw
        case rel => exact ⟨k + 1, _, by omega, by go_num, HP.out, hB3⟩
        case measure => simp [intOf] <;> omega
    · obtain rfl : k = tabs.length := by omega
      have hout := HO.out
      rw [List.take_of_length_le (by rw [tabStats_length]; exact Nat.le_refl _)] at hout
      have HO1 := Lib.hid hout
      have HBEL := Lib.hid hbel
      clear hout f2 HO hbel hbw hBw
      go_wp2_with fail
      go_loopw [3, 45] (fun o i wr => ∃ (m : Nat) (us : List Value), m ≤ idxs.length ∧ i = .int .i64 m ∧ OutOwn wr B wr.heap.size o (tabStats tabs all ++ (idxs.take m).map (idxSt tabs all)) us ∧ Below B w1 wr) (fun _ i _ => idxs.length - (intOf i).toNat)
      case atStart => exact ⟨0, us, Nat.zero_le _, rfl, by simpa using HO1.out, HBEL.out⟩
      case round =>
        obtain ⟨m, us', hm', rfl, hout, hbel⟩ := hrel
        clear HO1 HBEL f1
        obtain ⟨L, hL⟩ : ∃ L, tabStats tabs all ++ (idxs.take m).map (idxSt tabs all) = L := ⟨_, rfl⟩
        have hll : L.length ≤ 2000 := by rw [← hL, List.length_append, tabStats_length, List.length_map, List.length_take]; omega
        rw [hL] at hout
        have HLE := Lib.hid hL
        clear hL
        have HO := Lib.hid hout
        have hBw : B ≤ wr.heap.size := by have := hbel.size; rw [HWB.out] at this; exact this
        have hbw : Below w.heap.size w wr := HB0.out.trans (hbel.mono (by rw [HWX.out]; omega))
        clear hout
        by_cases hmi : m < idxs.length
        · obtain ⟨a, qb, qo, x, rfl, hq, hql, hsk, hE⟩ := HX.out.get m hmi
          obtain ⟨_, _, _, eA, eq2, _, A0, c0', hcell0, hcap, hcmax⟩ := HCP.out m x hsk
          obtain rfl := Option.some.inj eA
          rw [hq] at eq2
          obtain ⟨rfl, rfl, _⟩ := Addr.mk.inj eq2
          obtain ⟨u, c2', AC, cC, rfl, hics⟩ := hE.cols
          obtain ⟨rfl, rfl⟩ : A0 = AC ∧ c0' = cC := by
            rw [c2'] at hcell0
            injection hcell0 with h
            injection h with h1 h2 h3
            exact ⟨h1.symm, h3.symm⟩
          have HICS := Lib.hid hics
          have HSK := Lib.hid hsk
          have HNZ := Lib.hid hE.sz
          have HTZ := Lib.hid hE.tz
          have c0 := (hbw.cell (p := ⟨_, _, none⟩) hql).trans hE.name
          have c1 := (hbw.cell (p := ⟨_, _, none⟩) hql).trans hE.table
          have c2 := (hbw.cell (p := ⟨_, _, none⟩) hql).trans c2'
          have c3 := (hbw.cell (p := ⟨_, _, none⟩) hql).trans hE.unique
          have c4 := (hbw.cell (p := ⟨_, _, none⟩) hql).trans hE.root
          have hicl := HIC.out x (List.mem_of_getElem? hsk)
          clear hE hsk hics c2' hcell0 eq2 eA
          obtain ⟨⟨tt, rows⟩, htr⟩ : ∃ r, tableF tabs all x.table = r := ⟨_, rfl⟩
          have HTAB : ∀ W, SeqAt TabE 4 W AT tabs → SeqAt RowsE 1 W AR all → Calls Try.prog 51 #[.agg #[.slice AT tabs.length cT, .slice (some a) idxs.length cX, .slice AR all.length cR], .agg #[.string x.name, .string x.table, .slice A0 x.cols.length c0', .bool x.unique, .int .i64 x.root]] W (TableOut W (tt, rows)) := fun W h1 h2 => by
            rw [← htr]; exact table_any tabs all x AT (some a) AR A0 cT idxs.length cX cR x.cols.length c0' W h1 h2 (by omega) hma HTZ.out
          obtain ⟨htc, hrm, hrl, hvs⟩ := tableF_ok htr HC.out HRA.out HRL.out HVS.out
          have HIS := Lib.hid (show idxSt tabs all x = ⟨x.name, rows.length, unlikesTo tt.cols rows x.cols x.cols.length ++ [(rows.length : Int)]⟩ by simp only [idxSt, htr])
          have HRLs := Lib.hid hrl
          have HVSs := Lib.hid hvs
          clear htr hrl hvs
          have hbO : ∀ O, Below w.heap.size w (wr.alloc O) := fun O => hbw.alloc hbw.size _
          have ST := Lib.hid (fun O => HT.out.below TabE.stays (hbO O))
          have SR := Lib.hid (fun O => HR.out.below (SlE.stays (SlE.stays ValE.stays 3) 1) (hbO O))
          have HBO := Lib.hid hbO
          clear hbO
          have hXw : X < wr.heap.size := by omega
          have g0 := alloc_cell ((hbel.cell (p := ⟨X, 0, none⟩) hXB).trans D0.out) hXw
          have g1 := alloc_cell ((hbel.cell (p := ⟨X, 1, none⟩) hXB).trans D1.out) hXw
          have g2 := alloc_cell ((hbel.cell (p := ⟨X, 2, none⟩) hXB).trans D2.out) hXw
          go_wp2_with (first
            | (go_at_call 51; (with_reducible refine (HTAB _ (ST.out _) (SR.out _)).mono ?_); rintro e wt ⟨tv, rv, rfl, ⟨A5, c5, A6, n6, c6, rfl, hcols, hnz⟩, ⟨A7, c7, rfl, hrows⟩, hbt⟩;
                have hUt : wr.heap.size < wt.heap.size := Nat.lt_of_lt_of_le (by simp) hbt.size;
                have u0 := alloc_cell (v := .string x.name) ((hbt.cell (p := ⟨wr.heap.size, 0, none⟩) (by simp)).trans (World.cell?_alloc_new wr _ 89 0)) hUt;
                have u2 := alloc_cell2 (v := .slice A0 x.cols.length c0') ((hbt.cell (p := ⟨wr.heap.size, 2, none⟩) (by simp)).trans (World.cell?_alloc_new wr _ 89 2)) hUt))
          obtain ⟨OT, hOT⟩ : ∃ OT, Obj.cells #[.string tt.name, .slice A5 tt.cols.length c5, .slice A6 n6 c6, .int .i64 tt.root] 84 = OT := ⟨_, rfl⟩
          obtain ⟨OS, hOS⟩ : ∃ OS, Obj.cells #[.string x.name, .int .i64 rows.length, .slice none 0 0] 46 = OS := ⟨_, rfl⟩
          have hs1 : (wt.alloc OT).heap.size = wt.heap.size + 1 := by simp
          have hs2 : ((wt.alloc OT).alloc OS).heap.size = wt.heap.size + 2 := by simp
          have t0 : ((wt.alloc OT).alloc OS).cell? ⟨wt.heap.size, 0, none⟩ = some (.string tt.name) := alloc_cell (by rw [← hOT]; exact World.cell?_alloc_new wt _ 84 0) (by rw [hs1]; simp) OS
          have t1 : ((wt.alloc OT).alloc OS).cell? ⟨wt.heap.size, 1, none⟩ = some (.slice A5 tt.cols.length c5) := alloc_cell (by rw [← hOT]; exact World.cell?_alloc_new wt _ 84 1) (by rw [hs1]; simp) OS
          have t2 : ((wt.alloc OT).alloc OS).cell? ⟨wt.heap.size, 2, none⟩ = some (.slice A6 n6 c6) := alloc_cell (by rw [← hOT]; exact World.cell?_alloc_new wt _ 84 2) (by rw [hs1]; simp) OS
          have t3 : ((wt.alloc OT).alloc OS).cell? ⟨wt.heap.size, 3, none⟩ = some (.int .i64 tt.root) := alloc_cell (by rw [← hOT]; exact World.cell?_alloc_new wt _ 84 3) (by rw [hs1]; simp) OS
          have s0 : ((wt.alloc OT).alloc OS).cell? ⟨wt.heap.size + 1, 0, none⟩ = some (.string x.name) := by rw [← hs1, ← hOS]; exact World.cell?_alloc_new _ _ 46 0
          have s1 : ((wt.alloc OT).alloc OS).cell? ⟨wt.heap.size + 1, 1, none⟩ = some (.int .i64 rows.length) := by rw [← hs1, ← hOS]; exact World.cell?_alloc_new _ _ 46 1
          have s2 : ((wt.alloc OT).alloc OS).cell? ⟨wt.heap.size + 1, 2, none⟩ = some (.slice none 0 0) := by rw [← hs1, ← hOS]; exact World.cell?_alloc_new _ _ 46 2
          have s3 : ((wt.alloc OT).alloc OS).frozen? ⟨wt.heap.size + 1, 2, none⟩ = false := by rw [← hs1, ← hOS]; simp [go_sem]
          have uu := u2 OT OS
          have hbT : Below wt.heap.size wt ((wt.alloc OT).alloc OS) := ((Below.refl _ _).alloc (Nat.le_refl _) _).alloc (by rw [hs1]; omega) _
          have HO2 := Lib.hid ((((HO.out.alloc _).below hbt).alloc OT).alloc OS)
          have hB2 : Below B w1 ((wt.alloc OT).alloc OS) := (((hbel.alloc hBw _).trans (hbt.mono (by simp; omega))).alloc (by omega) OT).alloc (by rw [hs1]; omega) OS
          rw [hOT, hOS]
          clear hOT hOS u0 u2 g0 g1 g2 c0 c1 c2 c3 c4 hbt HO hbel ST SR HBO HTAB hbw
          generalize (wt.alloc OT).alloc OS = w2 at t0 t1 t2 t3 s0 s1 s2 s3 uu hbT HO2 hB2 hs2
          obtain ⟨U, hU⟩ : ∃ U, wr.heap.size = U := ⟨_, rfl⟩
          obtain ⟨T, hT⟩ : ∃ T, wt.heap.size = T := ⟨_, rfl⟩
          obtain ⟨S, hS⟩ : ∃ S, T + 1 = S := ⟨_, rfl⟩
          obtain ⟨R2, hR2⟩ : ∃ R2, w2.heap.size = R2 := ⟨_, rfl⟩
          have HTT := Lib.hid hT
          have HR2 := Lib.hid hR2
          rw [hT] at t0 t1 t2 t3 s0 s1 s2 s3 hbT hUt hs2
          simp only [hT]
          rw [hU] at uu hUt HO2 hBw hXw
          simp only [hU]
          rw [hS] at s0 s1 s2 s3
          simp only [hS]
          rw [hR2] at hs2
          have hTR : T < R2 := by omega
          have hSR : S < R2 := by omega
          have hTS : T ≠ S := by omega
          have hUS : U ≠ S := by omega
          have HT0 := Lib.hid t0
          have HT1 := Lib.hid t1
          have HT2 := Lib.hid t2
          have HT3 := Lib.hid t3
          have HS0 := Lib.hid s0
          have HS1 := Lib.hid s1
          have HS2 := Lib.hid s2
          have HS3 := Lib.hid s3
          have HU2 := Lib.hid uu
          have HBT := Lib.hid hbT
          have HB2 := Lib.hid hB2
          have HCOLS := Lib.hid hcols
          have HROWS := Lib.hid hrows
          clear t0 t1 t2 t3 s0 s1 s2 s3 uu hbT hB2 hcols hrows hs1 hs2 hR2 hU
          go_loopw [63] (fun j wr => ∃ (q : Nat) (Au : Option Addr) (cu : Nat), q ≤ x.cols.length ∧ j = .int .i64 q ∧ wr.cell? ⟨S, 0, none⟩ = some (.string x.name) ∧ wr.cell? ⟨S, 1, none⟩ = some (.int .i64 rows.length) ∧ wr.cell? ⟨S, 2, none⟩ = some (.slice Au q cu) ∧ wr.frozen? ⟨S, 2, none⟩ = false ∧
              wr.ownsRow R2 2 1 (.slice Au q cu) q (ints (unlikesTo tt.cols rows x.cols q)) ∧ w2.grownBy wr (some S)) (fun j _ => x.cols.length - (intOf j).toNat)
          case atStart => exact ⟨0, none, 0, Nat.zero_le _, rfl, HS0.out, HS1.out, HS2.out, HS3.out, World.ownsRow_nil _ _ _ _, World.grownBy.refl _ _⟩
          case round =>
            obtain ⟨q, Au, cu, hq', rfl, j0, j1, j2, j3, hown, hg⟩ := hrel
            have HOWN := Lib.hid hown
            have HG := Lib.hid hg
            clear hown hg
            by_cases hqi : q < x.cols.length
            · have hbr : Below wt.heap.size wt wr := by rw [HTT.out]; exact HBT.out.grown HG.out (by rw [HR2.out]; omega) (fun j hj => by cases hj; omega)
              have hBwr : R2 ≤ wr.heap.size := by have := HG.out.size; rw [HR2.out] at this; exact this
              have hbw1 : Below B w1 wr := HB2.out.grown HG.out (by rw [HR2.out]; omega) (fun j hj => by cases hj; omega)
              have hbw : Below w.heap.size w wr := HB0.out.trans (hbw1.mono (by rw [HWX.out]; omega))
              have v0 := HG.out.cell HT0.out (fun e => by injection e with e; simp only at e; omega)
              have v1 := HG.out.cell HT1.out (fun e => by injection e with e; simp only at e; omega)
              have v2 := HG.out.cell HT2.out (fun e => by injection e with e; simp only at e; omega)
              have v3 := HG.out.cell HT3.out (fun e => by injection e with e; simp only at e; omega)
              have w2c := HG.out.cell HU2.out (fun e => by injection e with e; simp only at e; omega)
              obtain ⟨N, hN⟩ : ∃ N : Int, (countsF tt.cols rows (x.cols.take (q + 1)) : Int) = N := ⟨_, rfl⟩
              have HUN := Lib.hid (show ints (unlikesTo tt.cols rows x.cols (q + 1)) = ints (unlikesTo tt.cols rows x.cols q) ++ [.int .i64 N] by rw [unlikesTo_succ, hN, ints_append]; rfl)
              have HCNT := Lib.hid (fun (c c' n' cR cI : Nat) (A' : Option Addr) => counts_of (tn := tt.name) (root := tt.root) (A := A5) (A' := A') (AR := A7) (AI := A0) (c := c) (c' := c') (n' := n') (cR := cR) (cI := cI) (n := q + 1) (w := wr.drew) (by rw [List.length_take]; omega) hN (HCOLS.out.below ColE.stays hbr.drew) (HROWS.out.below (SlE.stays ValE.stays 3) hbr.drew) ((HICS.out.below IcE.stays hbw.drew).take (q + 1)) htc hrm (by rw [List.length_take]; omega) HRLs.out HVSs.out)
              have hq1 : q + 1 ≤ maxLen := by unfold maxLen; omega
              have hq2 : (q + 1) * 8 ≤ 140737488355328 := by omega
              have HQ1 := Lib.hid hq1
              have HQ2 := Lib.hid hq2
              have hsl0 : (0 : Int) ≤ (q : Int) + 1 := by omega
              have hsl1 : ((q : Int) + 1) ≤ (c0' : Int) := by omega
              have hwrp : IntKind.i64.wrap ((q : Int) + 1) = (q : Int) + 1 := by rw [IntKind.wrap_i64]; omega
              have htn : ((q : Int) + 1).toNat = q + 1 := by omega
              have hSw : S < wr.heap.size := by omega
              clear hN hq1 hq2 hbr hbw1 hbw
              go_wp2_with fail
              go_region_law (first
                | (refine step_append_own rfl (.tmp 67) (.tmp 76) 44 rfl R2 2 i2 (.int .i64 0) 1 8 Try.underlying44 ki kz0 kz1 kz2 rfl (by decide) (.slice Au q cu) q _ rfl (oa.alloc _) ⟨wa.heap.size, 0, none⟩ 1 1 [.int .i64 N] rfl rfl (cells_one wa N 2) (one_one N) HQ1.out HQ2.out (Nat.le_trans (Nat.le_trans hBwr hba.size) (by simp)) ?_; intro v' w' hown' hgrow'; obtain ⟨g, cp, rfl, hgl, hgh⟩ := hown'.form (Nat.succ_pos _);
                    have m0 : w'.cell? ⟨S, 2, none⟩ = some (.slice Au q cu) := hgrow'.cell (k2' _) (fun e => by have := (oa.lt S e.symm).1; omega);
                    have m1 : w'.cell? ⟨S, 0, none⟩ = some (.string x.name) := hgrow'.cell (k0' _) (fun e => by have := (oa.lt S e.symm).1; omega);
                    have m2 : w'.cell? ⟨S, 1, none⟩ = some (.int .i64 rows.length) := hgrow'.cell (k1' _) (fun e => by have := (oa.lt S e.symm).1; omega);
                    have m3 : w'.frozen? ⟨S, 2, none⟩ = false := grown_frozen hgrow' (k3' _) hSa (fun e => by have := (oa.lt S e.symm).1; omega))
                | (go_simp; go_at_call 52; (with_reducible refine (HCNT.out _ _ _ _ _ _).mono ?_); rintro e wa ⟨rfl, hba⟩;
                    have k2 := (hba.cell (p := ⟨S, 2, none⟩) hSw).trans j2; have hSx : S < wa.heap.size := Nat.lt_of_lt_of_le hSw hba.size; have k2' := alloc_cell k2 hSx; have k0' := alloc_cell ((hba.cell (p := ⟨S, 0, none⟩) hSw).trans j0) hSx; have k1' := alloc_cell ((hba.cell (p := ⟨S, 1, none⟩) hSw).trans j1) hSx; have k3' := alloc_frozen ((hba.frozen (p := ⟨S, 2, none⟩) hSw).trans j3) hSx;
                    have hSa : S < (wa.alloc (.cells #[.int .i64 N] 2)).heap.size := Nat.lt_of_lt_of_le hSx (by simp); have oa := own_below HOWN.out.drew hba))
              all_goals
                have g5 := (grown_then (grown_then (grown_below (b := wr.drew) ⟨HG.out.os, HG.out.tape, HG.out.output, HG.out.size, HG.out.block⟩ hba) (World.grownBy_alloc wa (.cells #[.int .i64 N] 2) none) (fun _ h => by cases h)) hgrow' (fun j hj => by have := (oa.lt j hj).1; rw [HR2.out]; exact this)).andThen (World.grownBy_set w' S 2 (.slice (some ⟨g, 0, none⟩) (q + 1) cp)) (fun j hj => .inr hj)
                have own5 := hown'.kept (World.grownBy_set w' S 2 (.slice (some ⟨g, 0, none⟩) (q + 1) cp)) (.inr (by simp [Value.ownBlock]; omega))
                rw [← HUN.out] at own5
                have G5 := Lib.hid g5
                have OWN5 := Lib.hid own5
                have n0 := (World.cell?_setCell_other w' ⟨S, 2, none⟩ ⟨S, 0, none⟩ (.slice (some ⟨g, 0, none⟩) (q + 1) cp) (by simp)).trans m1
                have n1 := (World.cell?_setCell_other w' ⟨S, 2, none⟩ ⟨S, 1, none⟩ (.slice (some ⟨g, 0, none⟩) (q + 1) cp) (by simp)).trans m2
                have n2' := World.cell?_setCell_same w' ⟨S, 2, none⟩ (.slice (some ⟨g, 0, none⟩) (q + 1) cp) m0
                have n3 := (World.frozen?_setCell w' ⟨S, 2, none⟩ ⟨S, 2, none⟩ (.slice (some ⟨g, 0, none⟩) (q + 1) cp)).trans m3
                have N0 := Lib.hid n0
                have N1 := Lib.hid n1
                have N2 := Lib.hid n2'
                have N3 := Lib.hid n3
                clear g5 own5 hown' hgrow' oa k2' k0' k1' k3' m0 m1 m2 m3 n0 n1 n2' n3
                go_wp2_with fail
                go_roundw
                case rel => exact ⟨q + 1, _, _, by omega, by go_num, N0.out, N1.out, N2.out, N3.out, OWN5.out, G5.out⟩
                case measure => simp [intOf] <;> omega
            · obtain rfl : q = x.cols.length := by omega
              have hBwr : R2 ≤ wr.heap.size := by have := HG.out.size; rw [HR2.out] at this; exact this
              have hSw : S < wr.heap.size := by omega
              have hUS' : U ≤ S := by omega
              have hBR : B ≤ R2 := by omega
              have hbw1 : Below B w1 wr := HB2.out.grown HG.out (by rw [HR2.out]; omega) (fun j hj => by cases hj; omega)
              have hB1 : B ≤ wr.heap.size := by omega
              have HBW1 := Lib.hid hbw1
              have HO3 := Lib.hid (HO2.out.grown HG.out (fun j hj => by cases hj; exact hUS'))
              have k0 := alloc_cell j0 hSw
              have k1 := alloc_cell j1 hSw
              have k2 := alloc_cell j2 hSw
              have k3 := alloc_frozen j3 hSw
              have hSa : ∀ O, S < (wr.alloc O).heap.size := fun O => by simp; omega
              have hq1 : x.cols.length + 1 ≤ maxLen := by unfold maxLen; omega
              have hq2 : (x.cols.length + 1) * 8 ≤ 140737488355328 := by omega
              have HQ1 := Lib.hid hq1
              have HQ2 := Lib.hid hq2
              have hl1 : L.length + 1 ≤ maxLen := by unfold maxLen; omega
              have hl2 : (L.length + 1) * 48 ≤ 140737488355328 := by omega
              have HL1 := Lib.hid hl1
              have HL2 := Lib.hid hl2
              clear hq1 hq2 hl1 hl2 hbw1
              go_wp2_with (first
                | (at_builtin; refine wpList_append_own _ rfl (.tmp 81) (.tmp 84) 44 rfl R2 2 i2 (.int .i64 0) 1 8 Try.underlying44 ki kz0 kz1 kz2 rfl (by decide) (.slice Au x.cols.length cu) x.cols.length _ rfl (HOWN.out.alloc _) ⟨wr.heap.size, 0, none⟩ 1 1 [.int .i64 rows.length] rfl rfl (cells_one wr _ 2) (one_one _) HQ1.out HQ2.out (Nat.le_trans hBwr (by simp)) ?_))
              intro v' w3 hown' hgrow' _
              obtain ⟨g, cp, rfl, hgl, hgh⟩ := hown'.form (Nat.succ_pos _)
              have hne : ∀ (p : Addr), p.block = S → some p.block ≠ (Value.slice Au x.cols.length cu).ownBlock := fun p hp e => by rw [hp] at e; have := (HOWN.out.lt S e.symm).1; omega
              have m0 := hgrow'.cell (k0 _) (hne _ rfl)
              have m1 := hgrow'.cell (k1 _) (hne _ rfl)
              have m2 := hgrow'.cell (k2 _) (hne _ rfl)
              have m3 := grown_frozen hgrow' (k3 _) (hSa _) (hne _ rfl)
              have ho5 := ((HO3.out.alloc _).grown hgrow' (fun j hj => by have := (HOWN.out.lt j hj).1; omega)).grown (World.grownBy_set w3 S 2 (.slice (some ⟨g, 0, none⟩) (x.cols.length + 1) cp)) (fun j hj => by cases hj; exact hUS')
              have own5 := own_base' (hown'.kept (World.grownBy_set w3 S 2 (.slice (some ⟨g, 0, none⟩) (x.cols.length + 1) cp)) (.inr (by simp [Value.ownBlock]; omega))) hBR
              have hb5 : Below B w1 (w3.setCell ⟨S, 2, none⟩ (.slice (some ⟨g, 0, none⟩) (x.cols.length + 1) cp)) := ((HBW1.out.alloc hB1 _).grown hgrow' (by simp; omega) (fun j hj => by have := (HOWN.out.lt j hj).1; omega)).setCell (show B ≤ S by omega) _
              have hz5 : (w3.setCell ⟨S, 2, none⟩ (.slice (some ⟨g, 0, none⟩) (x.cols.length + 1) cp)).heap.size = w3.heap.size := by simp [World.setCell]
              have hB5 : B ≤ w3.heap.size := by have := hgrow'.size; simp at this; omega
              have HO5 := Lib.hid ho5
              have OWN5 := Lib.hid own5
              have HB5 := Lib.hid hb5
              have HZ5 := Lib.hid hz5
              clear hown' hgrow' hne ho5 own5 hb5 hz5 k0 k1 k2 k3 j0 j1 j2 j3
              go_wp2_with (first
                | (at_builtin; refine wpList_append_own _ rfl (.tmp 87) (.tmp 89) 43 rfl B 46 i46 (.agg #[.string ⟨#[]⟩, .int .i64 0, .slice none 0 0]) 3 48 Try.underlying43 ji jz0 jz1 jz2 rfl (by decide) _ L.length _ rfl (HO5.out.row.alloc _) ⟨w3.heap.size, 0, none⟩ 1 1 [.string x.name, .int .i64 rows.length, .slice (some ⟨g, 0, none⟩) (x.cols.length + 1) cp] rfl rfl ?g1 ?g2 HL1.out HL2.out ?g5 ?_))
              case g1 =>
                intro j u hj
                rw [← HZ5.out]
                match j, hj with
                | 0, hj => simp at hj; subst hj; simp [Addr.add, go_sem]
                | 1, hj => simp at hj; subst hj; simp [Addr.add, go_sem]
                | 2, hj => simp at hj; subst hj; simp [Addr.add, go_sem]
              case g2 => intro u hu; simp at hu; rcases hu with rfl | rfl | rfl <;> rfl
              case g5 => simp [World.setCell]; omega
              intro v'' w6 hown6 hgrow6 _
              have hout6 := (HO5.out.alloc _).push (s := ⟨x.name, rows.length, unlikesTo tt.cols rows x.cols x.cols.length ++ [(rows.length : Int)]⟩) (u := .slice (some ⟨g, 0, none⟩) (x.cols.length + 1) cp) (by rw [List.length_append, unlikesTo_length, ints_append]; exact OWN5.out.alloc _) hgrow6 hown6
              have HOUT6 := Lib.hid hout6
              have HSTEP := Lib.hid (show tabStats tabs all ++ (idxs.take (m + 1)).map (idxSt tabs all) = L ++ [⟨x.name, rows.length, unlikesTo tt.cols rows x.cols x.cols.length ++ [(rows.length : Int)]⟩] by rw [idxSt_take HSK.out, ← List.append_assoc, HLE.out, HIS.out])
              have hb6 := (HB5.out.alloc (by rw [HZ5.out]; exact hB5) _).grown hgrow6 (by simp [World.setCell]; omega) (fun j hj => (HO5.out.row.lt j hj).1)
              have HB6 := Lib.hid hb6
              clear hown6 hgrow6 hout6 hb6
              go_wp2_with fail
              go_roundw
              case rel => exact ⟨m + 1, _, by omega, by go_num, by rw [HSTEP.out]; exact HOUT6.out, HB6.out⟩
              case measure => simp [intOf] <;> omega
        · obtain rfl : m = idxs.length := by omega
          have HF := Lib.hid (show tabStats tabs all ++ (idxs.take idxs.length).map (idxSt tabs all) = ofF tabs idxs all by rw [List.take_length]; rfl)
          have HLO := Lib.hid (HLE.out.symm.trans HF.out)
          go_wp2_with fail
          go_ret
          refine ⟨_, rfl, ?_, hbw⟩
          rw [← HLO.out]
          exact HO.out.seen (by rw [HLO.out]; exact ofF_ok (tab_names HT.out) (idx_names HX.out) HC.out HRA.out HRL.out HVS.out)

end Go.Proofs.Ytpalbdjcfhlniaa
