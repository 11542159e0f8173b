/- The walk over at: a row's value in a column. -/
import Derived.Test.YtpalbdjcfhlniaaStatK
namespace Go.Proofs.Ytpalbdjcfhlniaa
open Go.RowKit

def atGo (row : List Vl) (name : ByteArray) : List Cm → Nat → Vl
  | [], _ => vl0
  | c :: cs, k => if sameB c.name name = true ∧ k + 1 < row.length then row.getD (k + 1) vl0 else atGo row name cs (k + 1)
/-- A row's value in the column of a name. -/
def atF (cols : List Cm) (row : List Vl) (name : ByteArray) : Vl := atGo row name cols 0

theorem atGo_hit {row : List Vl} {name : ByteArray} {cols : List Cm} {k : Nat} {c : Cm} {v : Vl} (hc : cols[k]? = some c) (h1 : sameB c.name name = true) (hv : row[k + 1]? = some v) : atGo row name (cols.drop k) k = v := by
  obtain ⟨hk, rfl⟩ := List.getElem?_eq_some_iff.1 hc
  rw [List.drop_eq_getElem_cons hk, atGo, if_pos ⟨h1, (List.getElem?_eq_some_iff.1 hv).1⟩, List.getD_eq_getElem?_getD, hv]; rfl
theorem atGo_miss {row : List Vl} {name : ByteArray} {cols : List Cm} {k : Nat} {c : Cm} (hc : cols[k]? = some c) (h1 : sameB c.name name = false) : atGo row name (cols.drop k) k = atGo row name (cols.drop (k + 1)) (k + 1) := by
  obtain ⟨hk, rfl⟩ := List.getElem?_eq_some_iff.1 hc
  rw [List.drop_eq_getElem_cons hk, atGo, if_neg (by simp [h1])]
theorem atGo_short {row : List Vl} {name : ByteArray} {cols : List Cm} {k : Nat} {c : Cm} (hc : cols[k]? = some c) (h1 : ¬ k + 1 < row.length) : atGo row name (cols.drop k) k = atGo row name (cols.drop (k + 1)) (k + 1) := by
  obtain ⟨hk, rfl⟩ := List.getElem?_eq_some_iff.1 hc
  rw [List.drop_eq_getElem_cons hk, atGo, if_neg (by simp [h1])]

theorem sameB_fold {a b : ByteArray} {v : Bool} (h : sameB a b = v) : ((foldS a).toList == (foldS b).toList) = v := h

theorem ret_vl {x v : Vl} (h : x = v) : Ending.returned (.agg #[.int .i64 v.kind, .int .i64 v.n, .string v.s]) = .returned (.agg #[.int .i64 x.kind, .int .i64 x.n, .string x.s]) := by rw [h]

set_option maxHeartbeats 2000000 in
set_option maxRecDepth 100000 in
theorem at_any (t : Tb) (A A' Ar : Option Addr) (c c' n' cr : Nat) (row : List Vl) (name : ByteArray) (w : World) (ht : SeqAt ColE 9 w A t.cols) (hr : SeqAt ValE 3 w Ar row) (hm : t.cols.length ≤ 100000) (hmr : row.length ≤ maxLen) (hz : name.size ≤ maxLen) :
    Calls Try.prog 66 #[.agg #[.string t.name, .slice A t.cols.length c, .slice A' n' c', .int .i64 t.root], .slice Ar row.length cr, .string name] w fun e w' =>
      (e = .returned (.agg #[.int .i64 (atF t.cols row name).kind, .int .i64 (atF t.cols row name).n, .string (atF t.cols row name).s])) ∧ Below w.heap.size w w' := by
  unfold maxLen at hmr
  have HT := Lib.hid ht
  have HR := Lib.hid hr
  have HZ := Lib.hid hz
  clear ht hr hz
  obtain ⟨tn, htn⟩ : ∃ x, t.name = x := ⟨_, rfl⟩
  obtain ⟨root, hroot⟩ : ∃ x, t.root = x := ⟨_, rfl⟩
  obtain ⟨cols, hcols⟩ : ∃ x, t.cols = x := ⟨_, rfl⟩
  rw [htn, hroot]
  rw [hcols] at HT hm ⊢
  clear htn hroot hcols t
  go_enter Try.func66, Try.ntmps66
  go_wp2_with fail
  have hb0 : Below w.heap.size w ((w.alloc (.cells #[.string tn, .slice A cols.length c, .slice A' n' c', .int .i64 root] 84)).alloc (.cells #[.int .i64 0, .int .i64 0, .string ⟨#[]⟩] 78)) :=
    ((Below.refl _ _).alloc (Nat.le_refl _) _).alloc (by simp) _
  have x0 : ((w.alloc (.cells #[.string tn, .slice A cols.length c, .slice A' n' c', .int .i64 root] 84)).alloc (.cells #[.int .i64 0, .int .i64 0, .string ⟨#[]⟩] 78)).cell? ⟨w.heap.size + 1, 0, none⟩ = some (.int .i64 0) := by simp [go_sem]
  have x1 : ((w.alloc (.cells #[.string tn, .slice A cols.length c, .slice A' n' c', .int .i64 root] 84)).alloc (.cells #[.int .i64 0, .int .i64 0, .string ⟨#[]⟩] 78)).cell? ⟨w.heap.size + 1, 1, none⟩ = some (.int .i64 0) := by simp [go_sem]
  have x2 : ((w.alloc (.cells #[.string tn, .slice A cols.length c, .slice A' n' c', .int .i64 root] 84)).alloc (.cells #[.int .i64 0, .int .i64 0, .string ⟨#[]⟩] 78)).cell? ⟨w.heap.size + 1, 2, none⟩ = some (.string ⟨#[]⟩) := by simp [go_sem]
  have y0 : ∀ j, ((w.alloc (.cells #[.string tn, .slice A cols.length c, .slice A' n' c', .int .i64 root] 84)).alloc (.cells #[.int .i64 0, .int .i64 0, .string ⟨#[]⟩] 78)).frozen? ⟨w.heap.size + 1, j, none⟩ = false := fun j => by simp [go_sem]
  have hz1 : ((w.alloc (.cells #[.string tn, .slice A cols.length c, .slice A' n' c', .int .i64 root] 84)).alloc (.cells #[.int .i64 0, .int .i64 0, .string ⟨#[]⟩] 78)).heap.size = w.heap.size + 2 := by simp
  generalize (w.alloc (.cells #[.string tn, .slice A cols.length c, .slice A' n' c', .int .i64 root] 84)).alloc (.cells #[.int .i64 0, .int .i64 0, .string ⟨#[]⟩] 78) = w1 at hb0 x0 x1 x2 y0 hz1
  obtain ⟨X, hX⟩ : ∃ X, w.heap.size + 1 = X := ⟨_, rfl⟩
  rw [hX] at x0 x1 x2 y0 ⊢
  have hX1 : X < w1.heap.size := by omega
  have HB0 := Lib.hid hb0
  have HT1 := Lib.hid (HT.out.below ColE.stays hb0)
  have HR1 := Lib.hid (HR.out.below ValE.stays hb0)
  have X0 := Lib.hid x0
  have X1 := Lib.hid x1
  have X2 := Lib.hid x2
  have Y0 := Lib.hid y0
  have hX0 : w.heap.size ≤ X := by omega
  clear hb0 x0 x1 x2 y0 HT HR hz1 hX
  go_loopw [12] (fun i wr => ∃ k : Nat, k ≤ cols.length ∧ i = .int .i64 k ∧ atF cols row name = atGo row name (cols.drop k) k ∧ Below w1.heap.size w1 wr) (fun i _ => cols.length - (intOf i).toNat)
  case atStart => exact ⟨0, Nat.zero_le _, rfl, rfl, Below.refl _ _⟩
  case round =>
    obtain ⟨k, hk, rfl, hat, hB⟩ := hrel
    have HAT := Lib.hid hat
    clear hat
    by_cases hlt : k < cols.length
    · obtain ⟨a, qb, qo, s, rfl, hq, hql, hsk, hE⟩ := (HT1.out.below ColE.stays hB).get k hlt
      have HSK := Lib.hid hsk
      have HSZ := Lib.hid hE.sz
      have c0 := hE.name
      have c1 := hE.ty
      have c2 := hE.coll
      have c3 := hE.key
      have c4 := hE.nn
      have c5 := hE.uq
      have c6 := hE.d0
      have c7 := hE.d1
      have c8 := hE.d2
      clear hE hsk
      obtain ⟨nm, hnm⟩ : ∃ x, s.name = x := ⟨_, rfl⟩
      have HN := Lib.hid hnm
      rw [hnm] at c0 HSZ
      clear hnm
      obtain ⟨v1, h1⟩ : ∃ x, s.ty = x := ⟨_, rfl⟩
      obtain ⟨v2, h2⟩ : ∃ x, s.coll = x := ⟨_, rfl⟩
      obtain ⟨v3, h3⟩ : ∃ x, s.key = x := ⟨_, rfl⟩
      obtain ⟨v4, h4⟩ : ∃ x, s.nn = x := ⟨_, rfl⟩
      obtain ⟨v5, h5⟩ : ∃ x, s.uq = x := ⟨_, rfl⟩
      obtain ⟨v6, h6⟩ : ∃ x, s.d.kind = x := ⟨_, rfl⟩
      obtain ⟨v7, h7⟩ : ∃ x, s.d.n = x := ⟨_, rfl⟩
      obtain ⟨v8, h8⟩ : ∃ x, s.d.s = x := ⟨_, rfl⟩
      rw [h1] at c1
      rw [h2] at c2
      rw [h3] at c3
      rw [h4] at c4
      rw [h5] at c5
      rw [h6] at c6
      rw [h7] at c7
      rw [h8] at c8
      clear h1 h2 h3 h4 h5 h6 h7 h8
      obtain ⟨b, hb⟩ : ∃ b, sameB nm name = b := ⟨_, rfl⟩
      have HBB := Lib.hid hb
      have hfe := sameB_fold hb
      clear hb
      cases b
      · go_wp2_with (first
          | (go_at_call 44; (with_reducible refine (fold_any nm _ HSZ.out).mono ?_); rintro e wa ⟨rfl, hba⟩)
          | (go_at_call 44; (with_reducible refine (fold_any name _ HZ.out).mono ?_); rintro e wb ⟨rfl, hbb⟩))
        go_roundw
        case rel => exact ⟨k + 1, by omega, by go_num, HAT.out.trans (atGo_miss HSK.out (by rw [HN.out]; exact HBB.out)), (hB.alloc hB.size _).trans ((hba.trans (hbb.mono hba.size)).mono (by have := hB.size; simp; omega))⟩
        case measure => simp [intOf] <;> omega
      · by_cases hrl : k + 1 < row.length
        · obtain ⟨p, rb, ro, v, rfl, hrq, hrql, hv, hV⟩ := HR1.out.get (k + 1) hrl
          have HE := Lib.hid (HAT.out.trans (atGo_hit HSK.out (by rw [HN.out]; exact HBB.out) hv))
          have d0 := hV.kind
          have d1 := hV.n
          have d2 := hV.s
          clear hV hv
          obtain ⟨g1, j1⟩ : ∃ x, v.kind = x := ⟨_, rfl⟩
          obtain ⟨g2, j2⟩ : ∃ x, v.n = x := ⟨_, rfl⟩
          obtain ⟨g3, j3⟩ : ∃ x, v.s = x := ⟨_, rfl⟩
          have HV : Hid (v = ⟨g1, g2, g3⟩) := by subst j1; subst j2; subst j3; exact rfl
          rw [j1] at d0
          rw [j2] at d1
          rw [j3] at d2
          clear j1 j2 j3
          have hrb : decide ((k : Int) + 1 < (row.length : Int)) = true := by simp only [decide_eq_true_eq]; omega
          have hBs := hB.size
          go_wp2_with (first
            | (go_at_call 44; (with_reducible refine (fold_any nm _ HSZ.out).mono ?_); rintro e wa ⟨rfl, hba⟩)
            | (go_at_call 44; (with_reducible refine (fold_any name _ HZ.out).mono ?_); rintro e wb ⟨rfl, hbb⟩;
                have hBB := (hB.alloc hBs (.cells #[.string nm, .int .i64 v1, .int .i64 v2, .bool v3, .bool v4, .bool v5, .int .i64 v6, .int .i64 v7, .string v8] 80)).trans ((hba.trans (hbb.mono hba.size)).mono (by simp; omega));
                have x0 := (hBB.cell (p := ⟨X, 0, none⟩) hX1).trans X0.out;
                have x1 := (hBB.cell (p := ⟨X, 1, none⟩) hX1).trans X1.out;
                have x2 := (hBB.cell (p := ⟨X, 2, none⟩) hX1).trans X2.out;
                have y0 := (hBB.frozen (p := ⟨X, 0, none⟩) hX1).trans (Y0.out 0);
                have y1 := (hBB.frozen (p := ⟨X, 1, none⟩) hX1).trans (Y0.out 1);
                have y2 := (hBB.frozen (p := ⟨X, 2, none⟩) hX1).trans (Y0.out 2);
                have e0 := (hBB.cell (p := ⟨rb, ro, none⟩) hrql).trans d0;
                have e1 := (hBB.cell (p := ⟨rb, ro + 1, none⟩) hrql).trans d1;
                have e2 := (hBB.cell (p := ⟨rb, ro + 2, none⟩) hrql).trans d2))
          refine bodyPost_ret (v := .agg #[.int .i64 g1, .int .i64 g2, .string g3]) (by simp [results, Try.results66, go_sem, x0, x1, x2]) rfl ⟨?_, ?_⟩
          · exact ret_vl (v := ⟨g1, g2, g3⟩) (HE.out.trans HV.out)
          · exact (((HB0.out.trans (hBB.mono HB0.out.size)).setCell hX0 _).setCell hX0 _).setCell hX0 _
        · have hrb : decide ((k : Int) + 1 < (row.length : Int)) = false := by simp only [decide_eq_false_iff_not]; omega
          go_wp2_with (first
            | (go_at_call 44; (with_reducible refine (fold_any nm _ HSZ.out).mono ?_); rintro e wa ⟨rfl, hba⟩)
            | (go_at_call 44; (with_reducible refine (fold_any name _ HZ.out).mono ?_); rintro e wb ⟨rfl, hbb⟩))
          go_roundw
          case rel => exact ⟨k + 1, by omega, by go_num, HAT.out.trans (atGo_short HSK.out hrl), (hB.alloc hB.size _).trans ((hba.trans (hbb.mono hba.size)).mono (by have := hB.size; simp; omega))⟩
          case measure => simp [intOf] <;> omega
    · obtain rfl : k = cols.length := by omega
      have HE := Lib.hid (show atF cols row name = vl0 from HAT.out.trans (by rw [List.drop_length]; rfl))
      have x0 := (hB.cell (p := ⟨X, 0, none⟩) hX1).trans X0.out
      have x1 := (hB.cell (p := ⟨X, 1, none⟩) hX1).trans X1.out
      have x2 := (hB.cell (p := ⟨X, 2, none⟩) hX1).trans X2.out
      have y0 := (hB.frozen (p := ⟨X, 0, none⟩) hX1).trans (Y0.out 0)
      have y1 := (hB.frozen (p := ⟨X, 1, none⟩) hX1).trans (Y0.out 1)
      have y2 := (hB.frozen (p := ⟨X, 2, none⟩) hX1).trans (Y0.out 2)
      go_wp2_with fail
      refine bodyPost_ret (v := .agg #[.int .i64 0, .int .i64 0, .string ⟨#[]⟩]) (by simp [results, Try.results66, go_sem, x0, x1, x2]) rfl ⟨?_, ?_⟩
      · exact ret_vl (v := vl0) HE.out
      · exact (((HB0.out.trans (hB.mono HB0.out.size)).setCell hX0 _).setCell hX0 _).setCell hX0 _

end Go.Proofs.Ytpalbdjcfhlniaa
