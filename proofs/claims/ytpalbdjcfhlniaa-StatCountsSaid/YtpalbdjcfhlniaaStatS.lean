/- The walk over table: an index's table and its rows. -/
import Derived.Test.YtpalbdjcfhlniaaStatR
namespace Go.Proofs.Ytpalbdjcfhlniaa
open Go.RowKit

def tb0 : Tb := ⟨⟨#[]⟩, [], 0⟩
def tableGo (all : List (List (List Vl))) (name : ByteArray) : List Tb → Nat → Tb × List (List Vl)
  | [], _ => (tb0, [])
  | t :: ts, k => if sameB t.name name = true ∧ k < all.length then (t, all.getD k []) else tableGo all name ts (k + 1)
/-- An index's table and its rows. -/
def tableF (tabs : List Tb) (all : List (List (List Vl))) (name : ByteArray) : Tb × List (List Vl) := tableGo all name tabs 0

theorem tableGo_hit {all : List (List (List Vl))} {name : ByteArray} {tabs : List Tb} {k : Nat} {t : Tb} {r : List (List Vl)} (hc : tabs[k]? = some t) (h1 : sameB t.name name = true) (hv : all[k]? = some r) : tableGo all name (tabs.drop k) k = (t, r) := by
  obtain ⟨hk, rfl⟩ := List.getElem?_eq_some_iff.1 hc
  rw [List.drop_eq_getElem_cons hk, tableGo, if_pos ⟨h1, (List.getElem?_eq_some_iff.1 hv).1⟩, List.getD_eq_getElem?_getD, hv]; rfl
theorem tableGo_miss {all : List (List (List Vl))} {name : ByteArray} {tabs : List Tb} {k : Nat} {t : Tb} (hc : tabs[k]? = some t) (h1 : sameB t.name name = false) : tableGo all name (tabs.drop k) k = tableGo all name (tabs.drop (k + 1)) (k + 1) := by
  obtain ⟨hk, rfl⟩ := List.getElem?_eq_some_iff.1 hc
  rw [List.drop_eq_getElem_cons hk, tableGo, if_neg (by simp [h1])]
theorem tableGo_short {all : List (List (List Vl))} {name : ByteArray} {tabs : List Tb} {k : Nat} {t : Tb} (hc : tabs[k]? = some t) (h1 : ¬ k < all.length) : tableGo all name (tabs.drop k) k = tableGo all name (tabs.drop (k + 1)) (k + 1) := by
  obtain ⟨hk, rfl⟩ := List.getElem?_eq_some_iff.1 hc
  rw [List.drop_eq_getElem_cons hk, tableGo, if_neg (by simp [h1])]
theorem tableGo_mem {all : List (List (List Vl))} {name : ByteArray} : ∀ (tabs : List Tb) (k : Nat), tableGo all name tabs k = (tb0, []) ∨ ((tableGo all name tabs k).1 ∈ tabs ∧ (tableGo all name tabs k).2 ∈ all)
  | [], _ => .inl rfl
  | t :: ts, k => by
    unfold tableGo
    split
    · rename_i h
      refine .inr ⟨List.mem_cons_self .., ?_⟩
      rw [List.getD_eq_getElem?_getD, List.getElem?_eq_getElem h.2]
      exact List.getElem_mem h.2
    · rcases tableGo_mem ts (k + 1) with e | ⟨e1, e2⟩
      · exact .inl e
      · exact .inr ⟨List.mem_cons_of_mem _ e1, e2⟩

def TableOut (w : World) (r : Tb × List (List Vl)) (e : Ending) (w' : World) : Prop :=
  ∃ tv rv, e = .returned (.tuple #[tv, rv]) ∧ TabV w' tv r.1 ∧ Sl RowE 1 w' rv r.2 ∧ Below w.heap.size w w'

set_option maxHeartbeats 4000000 in
set_option maxRecDepth 100000 in
theorem table_any (tabs : List Tb) (all : List (List (List Vl))) (x : Ix) (AT AX AR AC : Option Addr) (cT nX cX cR nC cC : Nat) (w : World)
    (ht : SeqAt TabE 4 w AT tabs) (hr : SeqAt RowsE 1 w AR all) (hm : tabs.length ≤ 100000) (_hmr : all.length ≤ 100000) (hz : x.table.size ≤ maxLen) :
    Calls Try.prog 51 #[.agg #[.slice AT tabs.length cT, .slice AX nX cX, .slice AR all.length cR], .agg #[.string x.name, .string x.table, .slice AC nC cC, .bool x.unique, .int .i64 x.root]] w (TableOut w (tableF tabs all x.table)) := by
  have HT := Lib.hid ht
  have HR := Lib.hid hr
  have HZ := Lib.hid hz
  clear ht hr hz
  obtain ⟨xn, hxn⟩ : ∃ v, x.name = v := ⟨_, rfl⟩
  obtain ⟨name, hname⟩ : ∃ v, x.table = v := ⟨_, rfl⟩
  obtain ⟨xu, hxu⟩ : ∃ v, x.unique = v := ⟨_, rfl⟩
  obtain ⟨xr, hxr⟩ : ∃ v, x.root = v := ⟨_, rfl⟩
  rw [hname] at HZ
  rw [hxn, hname, hxu, hxr]
  clear hxn hname hxu hxr x
  go_enter Try.func51, Try.ntmps51
  go_wp2_with fail
  have hb0 : Below w.heap.size w (((w.alloc (.cells #[.slice AT tabs.length cT, .slice AX nX cX, .slice AR all.length cR] 53)).alloc (.cells #[.string xn, .string name, .slice AC nC cC, .bool xu, .int .i64 xr] 89)).alloc (.cells #[.string ⟨#[]⟩, .slice none 0 0, .slice none 0 0, .int .i64 0] 84)) :=
    (((Below.refl _ _).alloc (Nat.le_refl _) _).alloc (by simp) _).alloc (by simp; omega) _
  have d2 : (((w.alloc (.cells #[.slice AT tabs.length cT, .slice AX nX cX, .slice AR all.length cR] 53)).alloc (.cells #[.string xn, .string name, .slice AC nC cC, .bool xu, .int .i64 xr] 89)).alloc (.cells #[.string ⟨#[]⟩, .slice none 0 0, .slice none 0 0, .int .i64 0] 84)).cell? ⟨w.heap.size, 2, none⟩ = some (.slice AR all.length cR) := by simp [go_sem]
  have p1 : (((w.alloc (.cells #[.slice AT tabs.length cT, .slice AX nX cX, .slice AR all.length cR] 53)).alloc (.cells #[.string xn, .string name, .slice AC nC cC, .bool xu, .int .i64 xr] 89)).alloc (.cells #[.string ⟨#[]⟩, .slice none 0 0, .slice none 0 0, .int .i64 0] 84)).cell? ⟨w.heap.size + 1, 1, none⟩ = some (.string name) := by simp [go_sem]
  have x0 : (((w.alloc (.cells #[.slice AT tabs.length cT, .slice AX nX cX, .slice AR all.length cR] 53)).alloc (.cells #[.string xn, .string name, .slice AC nC cC, .bool xu, .int .i64 xr] 89)).alloc (.cells #[.string ⟨#[]⟩, .slice none 0 0, .slice none 0 0, .int .i64 0] 84)).cell? ⟨w.heap.size + 1 + 1, 0, none⟩ = some (.string ⟨#[]⟩) := by simp [go_sem]
  have x1 : (((w.alloc (.cells #[.slice AT tabs.length cT, .slice AX nX cX, .slice AR all.length cR] 53)).alloc (.cells #[.string xn, .string name, .slice AC nC cC, .bool xu, .int .i64 xr] 89)).alloc (.cells #[.string ⟨#[]⟩, .slice none 0 0, .slice none 0 0, .int .i64 0] 84)).cell? ⟨w.heap.size + 1 + 1, 1, none⟩ = some (.slice none 0 0) := by simp [go_sem]
  have x2 : (((w.alloc (.cells #[.slice AT tabs.length cT, .slice AX nX cX, .slice AR all.length cR] 53)).alloc (.cells #[.string xn, .string name, .slice AC nC cC, .bool xu, .int .i64 xr] 89)).alloc (.cells #[.string ⟨#[]⟩, .slice none 0 0, .slice none 0 0, .int .i64 0] 84)).cell? ⟨w.heap.size + 1 + 1, 2, none⟩ = some (.slice none 0 0) := by simp [go_sem]
  have x3 : (((w.alloc (.cells #[.slice AT tabs.length cT, .slice AX nX cX, .slice AR all.length cR] 53)).alloc (.cells #[.string xn, .string name, .slice AC nC cC, .bool xu, .int .i64 xr] 89)).alloc (.cells #[.string ⟨#[]⟩, .slice none 0 0, .slice none 0 0, .int .i64 0] 84)).cell? ⟨w.heap.size + 1 + 1, 3, none⟩ = some (.int .i64 0) := by simp [go_sem]
  have y0 : ∀ j, (((w.alloc (.cells #[.slice AT tabs.length cT, .slice AX nX cX, .slice AR all.length cR] 53)).alloc (.cells #[.string xn, .string name, .slice AC nC cC, .bool xu, .int .i64 xr] 89)).alloc (.cells #[.string ⟨#[]⟩, .slice none 0 0, .slice none 0 0, .int .i64 0] 84)).frozen? ⟨w.heap.size + 1 + 1, j, none⟩ = false := fun j => by simp [go_sem]
  have hz1 : (((w.alloc (.cells #[.slice AT tabs.length cT, .slice AX nX cX, .slice AR all.length cR] 53)).alloc (.cells #[.string xn, .string name, .slice AC nC cC, .bool xu, .int .i64 xr] 89)).alloc (.cells #[.string ⟨#[]⟩, .slice none 0 0, .slice none 0 0, .int .i64 0] 84)).heap.size = w.heap.size + 3 := by simp
  generalize ((w.alloc (.cells #[.slice AT tabs.length cT, .slice AX nX cX, .slice AR all.length cR] 53)).alloc (.cells #[.string xn, .string name, .slice AC nC cC, .bool xu, .int .i64 xr] 89)).alloc (.cells #[.string ⟨#[]⟩, .slice none 0 0, .slice none 0 0, .int .i64 0] 84) = w1 at hb0 d2 p1 x0 x1 x2 x3 y0 hz1
  obtain ⟨X, hX⟩ : ∃ X, w.heap.size = X := ⟨_, rfl⟩
  obtain ⟨Y, hY⟩ : ∃ Y, X + 1 = Y := ⟨_, rfl⟩
  obtain ⟨Z, hZ⟩ : ∃ Z, Y + 1 = Z := ⟨_, rfl⟩
  rw [hX] at hb0 d2 p1 x0 x1 x2 x3 y0 hz1
  simp only [hX]
  rw [hY] at p1 x0 x1 x2 x3 y0
  simp only [hY]
  rw [hZ] at x0 x1 x2 x3 y0
  simp only [hZ]
  have hX1 : X < w1.heap.size := by omega
  have hY1 : Y < w1.heap.size := by omega
  have hZ1 : Z < w1.heap.size := by omega
  have hXZ : X ≤ Z := by omega
  have hXZ' : X < Z := by omega
  have HX := Lib.hid hX
  have HB0 := Lib.hid hb0
  have hb0' : Below w.heap.size w w1 := by rw [hX]; exact hb0
  have D2 := Lib.hid d2
  have P1 := Lib.hid p1
  have X0 := Lib.hid x0
  have X1 := Lib.hid x1
  have X2 := Lib.hid x2
  have X3 := Lib.hid x3
  have Y0 := Lib.hid y0
  clear hb0 hb0' d2 p1 x0 x1 x2 x3 y0 hz1 hX hY hZ
  go_loopw [11] (fun i wr => ∃ k : Nat, k ≤ tabs.length ∧ i = .int .i64 k ∧ tableF tabs all name = tableGo all name (tabs.drop k) k ∧ Below w1.heap.size w1 wr) (fun i _ => tabs.length - (intOf i).toNat)
  case atStart => exact ⟨0, Nat.zero_le _, rfl, rfl, Below.refl _ _⟩
  case round =>
    obtain ⟨k, hk, rfl, hat, hB⟩ := hrel
    have HAT := Lib.hid hat
    clear hat
    by_cases hlt : k < tabs.length
    · have hbw : Below w.heap.size w wr := by rw [HX.out]; exact HB0.out.trans (hB.mono (by omega))
      obtain ⟨a, qb, qo, s, rfl, hq, hql, hsk, hE⟩ := HT.out.get k hlt
      have HSK := Lib.hid hsk
      have HSZ := Lib.hid hE.sz
      have c0 := (hbw.cell (p := ⟨qb, qo, none⟩) hql).trans hE.name
      obtain ⟨u, c1', A1, cc1, rfl, hcols⟩ := hE.cols
      have c1 := (hbw.cell (p := ⟨qb, qo + 1, none⟩) hql).trans c1'
      obtain ⟨A2, n2, cc2, c2'⟩ := hE.checks
      have c2 := (hbw.cell (p := ⟨qb, qo + 2, none⟩) hql).trans c2'
      have c3 := (hbw.cell (p := ⟨qb, qo + 3, none⟩) hql).trans hE.root
      have HCOLS := Lib.hid hcols
      clear hE hsk hcols c1' c2' hql hbw
      obtain ⟨nm, hnm⟩ : ∃ v, s.name = v := ⟨_, rfl⟩
      obtain ⟨root, hroot⟩ : ∃ v, s.root = v := ⟨_, rfl⟩
      obtain ⟨cols, hcols⟩ : ∃ v, s.cols = v := ⟨_, rfl⟩
      have HS : Hid (s = ⟨nm, cols, root⟩) := by subst hnm; subst hroot; subst hcols; exact rfl
      rw [hnm] at c0 HSZ
      rw [hroot] at c3
      rw [hcols] at c1 HCOLS
      clear hnm hroot hcols
      obtain ⟨b, hb⟩ : ∃ b, sameB nm name = b := ⟨_, rfl⟩
      have HBB := Lib.hid hb
      have hfe := sameB_fold hb
      clear hb
      go_wp2_with fail
      have hB2 : Below w1.heap.size w1 (wr.alloc (.cells #[.string nm, .slice A1 cols.length cc1, .slice A2 n2 cc2, .int .i64 root] 84)) := hB.alloc hB.size _
      have e0 : (wr.alloc (.cells #[.string nm, .slice A1 cols.length cc1, .slice A2 n2 cc2, .int .i64 root] 84)).cell? ⟨wr.heap.size, 0, none⟩ = some (.string nm) := World.cell?_alloc_new wr _ 84 0
      have e1 : (wr.alloc (.cells #[.string nm, .slice A1 cols.length cc1, .slice A2 n2 cc2, .int .i64 root] 84)).cell? ⟨wr.heap.size, 1, none⟩ = some (.slice A1 cols.length cc1) := World.cell?_alloc_new wr _ 84 1
      have e2 : (wr.alloc (.cells #[.string nm, .slice A1 cols.length cc1, .slice A2 n2 cc2, .int .i64 root] 84)).cell? ⟨wr.heap.size, 2, none⟩ = some (.slice A2 n2 cc2) := World.cell?_alloc_new wr _ 84 2
      have e3 : (wr.alloc (.cells #[.string nm, .slice A1 cols.length cc1, .slice A2 n2 cc2, .int .i64 root] 84)).cell? ⟨wr.heap.size, 3, none⟩ = some (.int .i64 root) := World.cell?_alloc_new wr _ 84 3
      have hz : (wr.alloc (.cells #[.string nm, .slice A1 cols.length cc1, .slice A2 n2 cc2, .int .i64 root] 84)).heap.size = wr.heap.size + 1 := by simp
      clear c0 c1 c2 c3
      generalize wr.alloc (.cells #[.string nm, .slice A1 cols.length cc1, .slice A2 n2 cc2, .int .i64 root] 84) = w2 at hB2 e0 e1 e2 e3 hz
      obtain ⟨V, hV⟩ : ∃ V, wr.heap.size = V := ⟨_, rfl⟩
      have hV1 : w1.heap.size ≤ V := by rw [← hV]; exact hB.size
      rw [hV] at e0 e1 e2 e3 hz ⊢
      have hVlt : V < w2.heap.size := by omega
      have f2 := (hB2.cell (p := ⟨X, 2, none⟩) hX1).trans D2.out
      have g1 := (hB2.cell (p := ⟨Y, 1, none⟩) hY1).trans P1.out
      have hX2 : X < w2.heap.size := by omega
      have hY2 : Y < w2.heap.size := by omega
      clear hV hz hB
      cases b
      · first
          | (go_region_with (first
            | (go_at_call 44; (with_reducible refine (fold_any nm _ HSZ.out).mono ?_); rintro e wa ⟨rfl, hba⟩; have a1 := (hba.cell (p := ⟨Y, 1, none⟩) hY2).trans g1)
            | (go_at_call 44; (with_reducible refine (fold_any name _ HZ.out).mono ?_); rintro e wb ⟨rfl, hbb⟩)))
          | fail
        all_goals
          go_wp2_with fail
          refine ⟨⟨k + 1, by omega, by go_num, HAT.out.trans (tableGo_miss HSK.out (by rw [HS.out]; exact HBB.out)), hB2.drew.trans ((hba.trans (hbb.mono hba.size)).mono hB2.size)⟩, ?_⟩
          simp [intOf] <;> omega
      · by_cases hkl : k < all.length
        · have hkb : decide ((k : Int) < (all.length : Int)) = true := by simp only [decide_eq_true_eq]; omega
          go_region_held3 (fun w' => w'.cell? ⟨X, 2, none⟩ = some (.slice AR all.length cR) ∧ w'.cell? ⟨Y, 1, none⟩ = some (.string name) ∧ w'.cell? ⟨V, 0, none⟩ = some (.string nm)) (go_keep)
            (first
              | (go_at_call 44; (with_reducible refine (fold_any nm _ HSZ.out).mono ?_); rintro e wa ⟨rfl, hba⟩; have a0 := (hba.cell (p := ⟨X, 2, none⟩) hX2).trans f2; have a1 := (hba.cell (p := ⟨Y, 1, none⟩) hY2).trans g1; have a2 := (hba.cell (p := ⟨V, 0, none⟩) hVlt).trans e0)
              | (go_at_call 44; (with_reducible refine (fold_any name _ HZ.out).mono ?_); rintro e wb ⟨rfl, hbb⟩; have b0 := (hbb.cell (p := ⟨X, 2, none⟩) (Nat.lt_of_lt_of_le hX2 hba.size)).trans a0; have b1 := (hbb.cell (p := ⟨Y, 1, none⟩) (Nat.lt_of_lt_of_le hY2 hba.size)).trans a1; have b2 := (hbb.cell (p := ⟨V, 0, none⟩) (Nat.lt_of_lt_of_le hVlt hba.size)).trans a2))
          have hbx := hba.trans (hbb.mono hba.size)
          have hBB : Below w1.heap.size w1 wb := hB2.drew.trans (hbx.mono hB2.size)
          have hbw : Below w.heap.size w wb := by rw [HX.out]; exact HB0.out.trans (hBB.mono (by omega))
          obtain ⟨p, rb, ro, rs, rfl, hrq, hrql, hr, u, hu', A3, c3, rfl, hs3⟩ := HR.out.get k hkl
          rw [Nat.mul_one] at hrq
          have hu := (hbw.cell (p := ⟨rb, ro, none⟩) hrql).trans hu'
          have HE := Lib.hid (HAT.out.trans (tableGo_hit HSK.out (by rw [HS.out]; exact HBB.out) hr))
          have HS3 := Lib.hid hs3
          have b3 := (hbx.cell (p := ⟨V, 1, none⟩) hVlt).trans e1
          have b4 := (hbx.cell (p := ⟨V, 2, none⟩) hVlt).trans e2
          have b5 := (hbx.cell (p := ⟨V, 3, none⟩) hVlt).trans e3
          have x0 := (hBB.cell (p := ⟨Z, 0, none⟩) hZ1).trans X0.out
          have x1 := (hBB.cell (p := ⟨Z, 1, none⟩) hZ1).trans X1.out
          have x2 := (hBB.cell (p := ⟨Z, 2, none⟩) hZ1).trans X2.out
          have x3 := (hBB.cell (p := ⟨Z, 3, none⟩) hZ1).trans X3.out
          have y0 := (hBB.frozen (p := ⟨Z, 0, none⟩) hZ1).trans (Y0.out 0)
          have y1 := (hBB.frozen (p := ⟨Z, 1, none⟩) hZ1).trans (Y0.out 1)
          have y2 := (hBB.frozen (p := ⟨Z, 2, none⟩) hZ1).trans (Y0.out 2)
          have y3 := (hBB.frozen (p := ⟨Z, 3, none⟩) hZ1).trans (Y0.out 3)
          have HBW := Lib.hid hbw
          rw [HX.out] at hrql
          have n1 : rb ≠ Z := by omega
          have n2' : X ≠ Z := by omega
          have n3 : V ≠ Z := by omega
          clear hbx hba hbb hB2 e0 e1 e2 e3 f2 g1 a0 a1 a2 hr hs3 hu' hBB hbw
          go_wp2_with fail
          go_region
          all_goals
            go_wp2_with fail
            have hZw : w.heap.size ≤ Z := by rw [HX.out]; exact hXZ
            have hbF := ((((HBW.out.setCell (p := ⟨Z, 0, none⟩) hZw (.string nm)).setCell (p := ⟨Z, 1, none⟩) hZw (.slice A1 cols.length cc1)).setCell (p := ⟨Z, 2, none⟩) hZw (.slice A2 n2 cc2)).setCell (p := ⟨Z, 3, none⟩) hZw (.int .i64 root)).drew
            refine bodyPost_ret (v := .tuple #[.agg #[.string nm, .slice A1 cols.length cc1, .slice A2 n2 cc2, .int .i64 root], .slice A3 rs.length c3]) (by simp [results, Try.results51, go_sem, x0, x1, x2, x3]) rfl ?_
            refine ⟨_, _, rfl, ?_, ?_, hbF⟩
            · rw [HE.out, HS.out]; exact ⟨A1, cc1, A2, n2, cc2, rfl, HCOLS.out.below ColE.stays hbF, HSZ.out⟩
            · rw [HE.out]; exact ⟨A3, c3, rfl, HS3.out.below (SlE.stays ValE.stays 3) hbF⟩
        · have hkb : decide ((k : Int) < (all.length : Int)) = false := by simp only [decide_eq_false_iff_not]; omega
          go_region_held3 (fun w' => w'.cell? ⟨X, 2, none⟩ = some (.slice AR all.length cR) ∧ w'.cell? ⟨Y, 1, none⟩ = some (.string name) ∧ w'.cell? ⟨V, 0, none⟩ = some (.string nm)) (go_keep)
            (first
              | (go_at_call 44; (with_reducible refine (fold_any nm _ HSZ.out).mono ?_); rintro e wa ⟨rfl, hba⟩; have a0 := (hba.cell (p := ⟨X, 2, none⟩) hX2).trans f2; have a1 := (hba.cell (p := ⟨Y, 1, none⟩) hY2).trans g1; have a2 := (hba.cell (p := ⟨V, 0, none⟩) hVlt).trans e0)
              | (go_at_call 44; (with_reducible refine (fold_any name _ HZ.out).mono ?_); rintro e wb ⟨rfl, hbb⟩; have b0 := (hbb.cell (p := ⟨X, 2, none⟩) (Nat.lt_of_lt_of_le hX2 hba.size)).trans a0; have b1 := (hbb.cell (p := ⟨Y, 1, none⟩) (Nat.lt_of_lt_of_le hY2 hba.size)).trans a1; have b2 := (hbb.cell (p := ⟨V, 0, none⟩) (Nat.lt_of_lt_of_le hVlt hba.size)).trans a2))
          go_wp2_with fail
          go_roundw
          case rel => exact ⟨k + 1, by omega, by go_num, HAT.out.trans (tableGo_short HSK.out hkl), hB2.drew.trans ((hba.trans (hbb.mono hba.size)).mono hB2.size)⟩
          case measure => simp [intOf] <;> omega
    · obtain rfl : k = tabs.length := by omega
      have HE := Lib.hid (show tableF tabs all name = (tb0, []) from HAT.out.trans (by rw [List.drop_length]; rfl))
      have x0 := (hB.cell (p := ⟨Z, 0, none⟩) hZ1).trans X0.out
      have x1 := (hB.cell (p := ⟨Z, 1, none⟩) hZ1).trans X1.out
      have x2 := (hB.cell (p := ⟨Z, 2, none⟩) hZ1).trans X2.out
      have x3 := (hB.cell (p := ⟨Z, 3, none⟩) hZ1).trans X3.out
      have y0 := (hB.frozen (p := ⟨Z, 0, none⟩) hZ1).trans (Y0.out 0)
      have y1 := (hB.frozen (p := ⟨Z, 1, none⟩) hZ1).trans (Y0.out 1)
      have y2 := (hB.frozen (p := ⟨Z, 2, none⟩) hZ1).trans (Y0.out 2)
      have y3 := (hB.frozen (p := ⟨Z, 3, none⟩) hZ1).trans (Y0.out 3)
      have hb1 : Below X w wr := HB0.out.trans (hB.mono (by omega))
      go_wp2_with fail
      refine bodyPost_ret (v := .tuple #[.agg #[.string ⟨#[]⟩, .slice none 0 0, .slice none 0 0, .int .i64 0], .slice none 0 0]) (by simp [results, Try.results51, go_sem, x0, x1, x2, x3]) rfl ?_
      refine ⟨_, _, rfl, ?_, ?_, ?_⟩
      · rw [HE.out]; exact ⟨_, _, _, _, _, rfl, SeqAt.nil _ _ _ _, Nat.zero_le _⟩
      · rw [HE.out]; exact ⟨_, _, rfl, SeqAt.nil _ _ _ _⟩
      · rw [HX.out]; exact (((hb1.setCell hXZ _).setCell hXZ _).setCell hXZ _).setCell hXZ _

end Go.Proofs.Ytpalbdjcfhlniaa
