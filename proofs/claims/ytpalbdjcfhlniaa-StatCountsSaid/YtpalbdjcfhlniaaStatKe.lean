/- The walks over the document's column and place. -/
import Derived.Test.YtpalbdjcfhlniaaStatLb
namespace Go.Proofs.Ytpalbdjcfhlniaa
open Go.RowKit

/-- The first place that meets p, from k on; -1: there is none. -/
def idxGo {α : Type} (p : α → Bool) : List α → Nat → Int
  | [], _ => -1
  | x :: l, k => if p x = true then k else idxGo p l (k + 1)
theorem idxGo_hit {α : Type} {p : α → Bool} {l : List α} {k : Nat} {x : α} (hx : l[k]? = some x) (h : p x = true) : idxGo p (l.drop k) k = k := by
  obtain ⟨hk, rfl⟩ := List.getElem?_eq_some_iff.1 hx
  rw [List.drop_eq_getElem_cons hk, idxGo, if_pos h]
theorem idxGo_miss {α : Type} {p : α → Bool} {l : List α} {k : Nat} {x : α} (hx : l[k]? = some x) (h : p x = false) : idxGo p (l.drop k) k = idxGo p (l.drop (k + 1)) (k + 1) := by
  obtain ⟨hk, rfl⟩ := List.getElem?_eq_some_iff.1 hx
  rw [List.drop_eq_getElem_cons hk, idxGo, if_neg (by rw [h]; simp)]
theorem idxGo_end {α : Type} (p : α → Bool) (l : List α) : idxGo p (l.drop l.length) l.length = -1 := by rw [List.drop_length]; rfl

def colI (cols : List Cm) (name : ByteArray) : Int := idxGo (fun c => sameB c.name name) cols 0
def placeI (tabs : List Tb) (name : ByteArray) : Int := idxGo (fun t => sameB t.name name) tabs 0

theorem same_eq {a b : ByteArray} {v : Bool} (h : sameB a b = v) (ha : a.size ≤ maxLen) (hb : b.size ≤ maxLen) (W : World) : Calls Try.prog 47 #[.string a, .string b] W fun e w' => e = .returned (.bool v) ∧ Below W.heap.size W w' := by
  subst h; exact rsameN_any a b W ha hb

set_option maxHeartbeats 2000000 in
set_option maxRecDepth 100000 in
theorem column_any (tn : ByteArray) (root : Int) (cols : List Cm) (A A' : Option Addr) (c n' c' : Nat) (name : ByteArray) (w : World) (ht : SeqAt ColE 9 w A cols) (hm : cols.length ≤ maxLen) (hz : name.size ≤ maxLen) :
    Calls Try.prog 67 #[.agg #[.string tn, .slice A cols.length c, .slice A' n' c', .int .i64 root], .string name] w fun e w' => e = .returned (.int .i64 (colI cols name)) ∧ Below w.heap.size w w' := by
  have HT := Lib.hid ht
  have HZ := Lib.hid hz
  clear ht hz
  unfold maxLen at hm
  have HS0 : Hid (colI cols name = idxGo (fun c => sameB c.name name) (cols.drop 0) 0) := rfl
  go_enter Try.func67, Try.ntmps67
  go_wp2_with fail
  have b0 : Below w.heap.size w (w.alloc (.cells #[.string tn, .slice A cols.length c, .slice A' n' c', .int .i64 root] 84)) := (Below.refl _ _).alloc (Nat.le_refl _) _
  have d1 : (w.alloc (.cells #[.string tn, .slice A cols.length c, .slice A' n' c', .int .i64 root] 84)).cell? ⟨w.heap.size, 1, none⟩ = some (.slice A cols.length c) := World.cell?_alloc_new w _ 84 1
  have hz1 : (w.alloc (.cells #[.string tn, .slice A cols.length c, .slice A' n' c', .int .i64 root] 84)).heap.size = w.heap.size + 1 := by simp
  generalize w.alloc (.cells #[.string tn, .slice A cols.length c, .slice A' n' c', .int .i64 root] 84) = W1 at b0 d1 hz1
  obtain ⟨X, hX⟩ : ∃ X, w.heap.size = X := ⟨_, rfl⟩
  have HB0 := Lib.hid b0
  rw [hX] at d1 hz1
  simp only [hX]
  have hX1 : X < W1.heap.size := by omega
  have D1 := Lib.hid d1
  clear b0 d1 hz1 hX
  go_loopw [5] (fun i wr => ∃ k : Nat, k ≤ cols.length ∧ i = .int .i64 k ∧ Below W1.heap.size W1 wr ∧ Hid (colI cols name = idxGo (fun c => sameB c.name name) (cols.drop k) k)) (fun i _ => cols.length - (intOf i).toNat)
  case atStart => exact ⟨0, Nat.zero_le _, rfl, Below.refl _ _, HS0⟩
  case round =>
    obtain ⟨k, hk, rfl, hB, HI⟩ := hrel
    clear HS0
    have x1 := (hB.cell (p := ⟨X, 1, none⟩) hX1).trans D1.out
    have HBW := Lib.hid (HB0.out.trans (hB.mono HB0.out.size))
    by_cases hlt : k < cols.length
    · obtain ⟨a, qb, qo, cm, rfl, hq, hql, hsk, hE⟩ := HT.out.get k hlt
      have c0 := (HBW.out.cell (p := ⟨qb, qo, none⟩) hql).trans hE.name
      have hsz := hE.sz
      have HSK := Lib.hid hsk
      clear hE hsk
      obtain ⟨nm, hnm⟩ : ∃ v, cm.name = v := ⟨_, rfl⟩
      rw [hnm] at c0 hsz
      have HN := Lib.hid hnm
      clear hnm
      obtain ⟨b, hb⟩ : ∃ b, sameB nm name = b := ⟨_, rfl⟩
      have HSM := Lib.hid (same_eq hb hsz HZ.out)
      have HBB := Lib.hid hb
      clear hb hsz
      cases b
      · have HI' := Lib.hid (HI.out.trans (idxGo_miss HSK.out (by rw [HN.out]; exact HBB.out)))
        go_wp2_with (first
          | (go_at_call 47; (with_reducible refine (HSM.out _).mono ?_); rintro e w2 ⟨rfl, hb2⟩))
        go_roundw
        case rel => exact ⟨k + 1, by omega, by go_num, hB.trans (hb2.mono hB.size), HI'⟩
        case measure => simp [intOf] <;> omega
      · have HI' := Lib.hid (HI.out.trans (idxGo_hit HSK.out (by rw [HN.out]; exact HBB.out)))
        go_wp2_with (first
          | (go_at_call 47; (with_reducible refine (HSM.out _).mono ?_); rintro e w2 ⟨rfl, hb2⟩))
        go_ret
        exact ⟨ret_int HI'.out, HBW.out.trans (hb2.mono HBW.out.size)⟩
    · obtain rfl : k = cols.length := by omega
      have HI' := Lib.hid (HI.out.trans (idxGo_end _ _))
      go_wp2_with fail
      go_ret
      exact ⟨ret_int HI'.out, HBW.out⟩

set_option maxHeartbeats 2000000 in
set_option maxRecDepth 100000 in
theorem place_any (tabs : List Tb) (AT AX AR : Option Addr) (cT nX cX nR cR : Nat) (name : ByteArray) (w : World) (ht : SeqAt TabE 4 w AT tabs) (hm : tabs.length ≤ maxLen) (hz : name.size ≤ maxLen) :
    Calls Try.prog 53 #[.agg #[.slice AT tabs.length cT, .slice AX nX cX, .slice AR nR cR], .string name] w fun e w' => e = .returned (.int .i64 (placeI tabs name)) ∧ Below w.heap.size w w' := by
  have HT := Lib.hid ht
  have HZ := Lib.hid hz
  clear ht hz
  unfold maxLen at hm
  have HS0 : Hid (placeI tabs name = idxGo (fun t => sameB t.name name) (tabs.drop 0) 0) := rfl
  go_enter Try.func53, Try.ntmps53
  go_wp2_with fail
  have b0 : Below w.heap.size w (w.alloc (.cells #[.slice AT tabs.length cT, .slice AX nX cX, .slice AR nR cR] 53)) := (Below.refl _ _).alloc (Nat.le_refl _) _
  have d1 : (w.alloc (.cells #[.slice AT tabs.length cT, .slice AX nX cX, .slice AR nR cR] 53)).cell? ⟨w.heap.size, 0, none⟩ = some (.slice AT tabs.length cT) := World.cell?_alloc_new w _ 53 0
  have hz1 : (w.alloc (.cells #[.slice AT tabs.length cT, .slice AX nX cX, .slice AR nR cR] 53)).heap.size = w.heap.size + 1 := by simp
  generalize w.alloc (.cells #[.slice AT tabs.length cT, .slice AX nX cX, .slice AR nR cR] 53) = W1 at b0 d1 hz1
  obtain ⟨X, hX⟩ : ∃ X, w.heap.size = X := ⟨_, rfl⟩
  have HB0 := Lib.hid b0
  rw [hX] at d1 hz1
  simp only [hX]
  have hX1 : X < W1.heap.size := by omega
  have D1 := Lib.hid d1
  clear b0 d1 hz1 hX
  go_loopw [5] (fun i wr => ∃ k : Nat, k ≤ tabs.length ∧ i = .int .i64 k ∧ Below W1.heap.size W1 wr ∧ Hid (placeI tabs name = idxGo (fun t => sameB t.name name) (tabs.drop k) k)) (fun i _ => tabs.length - (intOf i).toNat)
  case atStart => exact ⟨0, Nat.zero_le _, rfl, Below.refl _ _, HS0⟩
  case round =>
    obtain ⟨k, hk, rfl, hB, HI⟩ := hrel
    clear HS0
    have x1 := (hB.cell (p := ⟨X, 0, none⟩) hX1).trans D1.out
    have HBW := Lib.hid (HB0.out.trans (hB.mono HB0.out.size))
    by_cases hlt : k < tabs.length
    · obtain ⟨a, qb, qo, cm, rfl, hq, hql, hsk, hE⟩ := HT.out.get k hlt
      have c0 := (HBW.out.cell (p := ⟨qb, qo, none⟩) hql).trans hE.name
      have hsz := hE.sz
      have HSK := Lib.hid hsk
      clear hE hsk
      obtain ⟨nm, hnm⟩ : ∃ v, cm.name = v := ⟨_, rfl⟩
      rw [hnm] at c0 hsz
      have HN := Lib.hid hnm
      clear hnm
      obtain ⟨b, hb⟩ : ∃ b, sameB nm name = b := ⟨_, rfl⟩
      have HSM := Lib.hid (same_eq hb hsz HZ.out)
      have HBB := Lib.hid hb
      clear hb hsz
      cases b
      · have HI' := Lib.hid (HI.out.trans (idxGo_miss HSK.out (by rw [HN.out]; exact HBB.out)))
        go_wp2_with (first
          | (go_at_call 47; (with_reducible refine (HSM.out _).mono ?_); rintro e w2 ⟨rfl, hb2⟩))
        go_roundw
        case rel => exact ⟨k + 1, by omega, by go_num, hB.trans (hb2.mono hB.size), HI'⟩
        case measure => simp [intOf] <;> omega
      · have HI' := Lib.hid (HI.out.trans (idxGo_hit HSK.out (by rw [HN.out]; exact HBB.out)))
        go_wp2_with (first
          | (go_at_call 47; (with_reducible refine (HSM.out _).mono ?_); rintro e w2 ⟨rfl, hb2⟩))
        go_ret
        exact ⟨ret_int HI'.out, HBW.out.trans (hb2.mono HBW.out.size)⟩
    · obtain rfl : k = tabs.length := by omega
      have HI' := Lib.hid (HI.out.trans (idxGo_end _ _))
      go_wp2_with fail
      go_ret
      exact ⟨ret_int HI'.out, HBW.out⟩

/-! ### What column finds is what at finds -/
theorem at_col {row : List Vl} {name : ByteArray} : ∀ (cols : List Cm) (k : Nat), k + cols.length + 1 = row.length →
    (idxGo (fun c => sameB c.name name) cols k = -1 ∧ atGo row name cols k = vl0) ∨ ∃ i : Nat, idxGo (fun c => sameB c.name name) cols k = i ∧ i + 1 < row.length ∧ atGo row name cols k = row.getD (i + 1) vl0
  | [], _, _ => .inl ⟨rfl, rfl⟩
  | c :: cs, k, h => by
    have hl : (c :: cs).length = cs.length + 1 := rfl
    rw [hl] at h
    unfold idxGo atGo
    by_cases hs : sameB c.name name = true
    · have hs' : (fun c : Cm => sameB c.name name) c = true := hs
      rw [if_pos hs', if_pos ⟨hs, by omega⟩]
      exact .inr ⟨k, rfl, by omega, rfl⟩
    · have hs' : ¬ (fun c : Cm => sameB c.name name) c = true := hs
      rw [if_neg hs', if_neg (fun h => hs h.1)]
      exact at_col cs (k + 1) (by omega)
theorem at_colI {row : List Vl} {name : ByteArray} {cols : List Cm} (h : row.length = cols.length + 1) :
    (colI cols name = -1 ∧ atF cols row name = vl0) ∨ ∃ i : Nat, colI cols name = i ∧ i + 1 < row.length ∧ atF cols row name = row.getD (i + 1) vl0 := at_col cols 0 (by omega)

theorem place_go {all : List (List (List Vl))} {name : ByteArray} : ∀ (tabs : List Tb) (k : Nat), k + tabs.length ≤ all.length →
    (idxGo (fun t => sameB t.name name) tabs k = -1 ∧ tableGo all name tabs k = (tb0, [])) ∨ ∃ i : Nat, idxGo (fun t => sameB t.name name) tabs k = (k + i : Nat) ∧ ∃ t, tabs[i]? = some t ∧ tableGo all name tabs k = (t, all.getD (k + i) [])
  | [], _, _ => .inl ⟨rfl, rfl⟩
  | t :: ts, k, h => by
    have hl : (t :: ts).length = ts.length + 1 := rfl
    rw [hl] at h
    have hk : k < all.length := by omega
    unfold idxGo tableGo
    by_cases hs : sameB t.name name = true
    · have hs' : (fun t : Tb => sameB t.name name) t = true := hs
      rw [if_pos hs', if_pos ⟨hs, hk⟩]
      exact .inr ⟨0, rfl, t, rfl, rfl⟩
    · have hs' : ¬ (fun t : Tb => sameB t.name name) t = true := hs
      rw [if_neg hs', if_neg (fun h => hs h.1)]
      rcases place_go (all := all) (name := name) ts (k + 1) (by omega) with h1 | ⟨i, h1, t', h2, h3⟩
      · exact .inl h1
      · exact .inr ⟨i + 1, by rw [h1]; congr 1; omega, t', h2, by rw [h3]; congr 2; omega⟩
theorem place_table {tabs : List Tb} {all : List (List (List Vl))} {name : ByteArray} (h : all.length = tabs.length) :
    (placeI tabs name = -1 ∧ tableF tabs all name = (tb0, [])) ∨ ∃ (i : Nat) (t : Tb) (R : List (List Vl)), placeI tabs name = i ∧ tabs[i]? = some t ∧ all[i]? = some R ∧ tableF tabs all name = (t, R) := by
  rcases place_go (all := all) (name := name) tabs 0 (by omega) with h1 | ⟨i, h1, t, h2, h3⟩
  · exact .inl h1
  · have hi := (List.getElem?_eq_some_iff.1 h2).1
    refine .inr ⟨i, t, all[i]'(by omega), ?_, h2, List.getElem?_eq_getElem (by omega), ?_⟩
    · show idxGo _ tabs 0 = _
      rw [h1, Nat.zero_add]
    · show tableGo all name tabs 0 = _
      rw [h3, Nat.zero_add, List.getD_eq_getElem?_getD, List.getElem?_eq_getElem (by omega)]; rfl

end Go.Proofs.Ytpalbdjcfhlniaa
