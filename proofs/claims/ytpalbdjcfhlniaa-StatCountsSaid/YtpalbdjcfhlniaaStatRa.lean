/- What a row says: plain words, and rows whose room is told. -/
import Derived.Test.YtpalbdjcfhlniaaStatMb
import Derived.Test.YtpalbdjcfhlniaaStatT
import Derived.Test.YtpalbdjcfhlniaaStatI
import Derived.Test.YtpalbdjcfhlniaaStatO
namespace Go.Proofs.Ytpalbdjcfhlniaa
open Go.RowKit

def numB (v : Vl) : Bool := vlB v (numV v.n)
def strB (v : Vl) : Bool := vlB v (strV v.s)
/-- What a row says, if it says anything. -/
def headSt (row : List Vl) : St := ⟨(row.getD 0 vl0).s, (row.getD 1 vl0).n, (row.drop 2).map (·.n)⟩
def formB (row : List Vl) : Bool := decide (2 ≤ row.length) && (strB (row.getD 0 vl0) && (row.drop 1).all numB)
def readB (row : List Vl) : Bool := formB row && mayF (headSt row)
def readF (row : List Vl) : Option St := if readB row = true then some (headSt row) else none

theorem readB_short {row : List Vl} (h : row.length < 2) : readB row = false := by unfold readB formB; rw [decide_eq_false (by omega)]; rfl
theorem readB_str {row : List Vl} {a : Vl} (ha : row[0]? = some a) (h : strB a = false) : readB row = false := by
  unfold readB formB
  rw [List.getD_eq_getElem?_getD, ha]
  simp [h]
theorem readB_num {row : List Vl} {v : Vl} {k : Nat} (hv : row[k + 1]? = some v) (h : numB v = false) : readB row = false := by
  have : (row.drop 1).all numB = false := by
    rw [List.all_eq_false]
    refine ⟨v, ?_, by rw [h]; simp⟩
    exact List.mem_of_getElem? (i := k) (by rw [List.getElem?_drop, Nat.add_comm]; exact hv)
  unfold readB formB
  rw [this, Bool.and_false, Bool.and_false, Bool.false_and]
theorem readB_all {row : List Vl} {a : Vl} (hl : 2 ≤ row.length) (ha : row[0]? = some a) (h : strB a = true) (hn : ∀ k v, row[k + 1]? = some v → numB v = true) : readB row = mayF (headSt row) := by
  have : (row.drop 1).all numB = true := by
    rw [List.all_eq_true]
    intro v hv
    obtain ⟨k, hk⟩ := List.getElem?_of_mem hv
    rw [List.getElem?_drop, Nat.add_comm] at hk
    exact hn k v hk
  unfold readB formB
  rw [this, decide_eq_true hl, List.getD_eq_getElem?_getD, ha]
  simp [h]

/-- The numbers told by the row's first q + 1 values. -/
def numsTo (row : List Vl) (q : Nat) : List Int := ((row.drop 2).take (q - 1)).map (·.n)
theorem numsTo_zero (row : List Vl) : numsTo row 0 = [] := by simp [numsTo]
theorem numsTo_one (row : List Vl) : numsTo row 1 = [] := by simp [numsTo]
theorem numsTo_succ {row : List Vl} {q : Nat} {v : Vl} (hv : row[q + 2]? = some v) : numsTo row (q + 2) = numsTo row (q + 1) ++ [v.n] := by
  have h : (row.drop 2)[q]? = some v := by rw [List.getElem?_drop, Nat.add_comm]; exact hv
  unfold numsTo
  rw [show q + 2 - 1 = q + 1 from rfl, show q + 1 - 1 = q from rfl, List.take_add_one, h]
  simp
theorem numsTo_all {row : List Vl} (q : Nat) (h : row.length ≤ q + 1) : numsTo row q = (row.drop 2).map (·.n) := by
  unfold numsTo
  rw [List.take_of_length_le (by rw [List.length_drop]; omega)]
theorem numsTo_length {row : List Vl} {q : Nat} (h : q < row.length) : (numsTo row q).length = q - 1 := by
  unfold numsTo
  rw [List.length_map, List.length_take, List.length_drop]; omega

theorem beq_symm' {α : Type} [BEq α] [LawfulBEq α] (x y : α) : (x == y) = (y == x) := by
  rw [Bool.eq_iff_iff, beq_iff_eq, beq_iff_eq]
  exact eq_comm
theorem vlB_symm (a b : Vl) : vlB a b = vlB b a := by
  unfold vlB
  rw [beq_symm' a.kind, beq_symm' a.n, beq_symm' a.s.toList]

theorem allB_nums : ∀ (r : List Vl), allB vlB (r.map fun v => numV v.n) r = r.all numB
  | [] => rfl
  | v :: r => by
    have := allB_nums r
    simp only [List.map_cons, allB, List.all_cons, this]
    rw [vlB_symm]; rfl

/-- The document's reading says the same. -/
theorem readB_ref {row : List Vl} (hl : 2 ≤ row.length) : allB vlB (rowF (headSt row)) row = formB row := by
  match row, hl with
  | a :: b :: r, _ =>
    have h := allB_nums r
    unfold formB rowF headSt
    rw [decide_eq_true (by simp)]
    simp only [List.getD_cons_zero, List.getD_cons_succ, List.drop_succ_cons, List.drop_zero, List.map_map, allB, List.all_cons, Bool.true_and]
    rw [vlB_symm _ a, vlB_symm _ b]
    show (strB a && (numB b && allB vlB (r.map fun v => numV v.n) r)) = _
    rw [h]

/-- A row at a cell, its room told. -/
def RowC (w : World) (b o : Nat) (xs : List Vl) : Prop := ∃ v, w.cell? ⟨b, o, none⟩ = some v ∧ SlC ValE 3 w v xs
theorem SlC.below {α : Type} {E : World → Nat → Nat → α → Prop} {size : Nat} {w w' : World} {v : Value} {xs : List α} (hE : Stays E) (h : SlC E size w v xs) (hb : Below w.heap.size w w') : SlC E size w' v xs :=
  let ⟨A, c, e, h1, h2, hs⟩ := h
  ⟨A, c, e, h1, h2, hs.below hE hb⟩
theorem RowC.stays : Stays RowC := fun _ _ _ _ _ hb hl h =>
  let ⟨v, hc, hs⟩ := h
  ⟨v, (hb.cell hl).trans hc, hs.below ValE.stays hb⟩
theorem RowC.row {w : World} {b o : Nat} {xs : List Vl} (h : RowC w b o xs) : RowE w b o xs := let ⟨v, hc, hs⟩ := h; ⟨v, hc, hs.sl⟩
theorem seq_rows {w : World} {A : Option Addr} {l : List (List Vl)} (h : SeqAt RowC 1 w A l) : SeqAt RowE 1 w A l := fun k x hx =>
  let ⟨a, qb, qo, e, eq, hl, hc⟩ := h k x hx
  ⟨a, qb, qo, e, eq, hl, hc.row⟩

theorem own_cap {w : World} {base e size n : Nat} {v : Value} {ys : List Value} (h : w.ownsRow base e size v n ys) : ∃ A c, v = .slice A n c ∧ n ≤ c ∧ c ≤ maxLen := by
  rcases h.2 with ⟨rfl, rfl⟩ | ⟨g, cap, cur, rfl, _, _, h1, h2, _⟩
  · exact ⟨_, _, rfl, Nat.le_refl _, Nat.zero_le _⟩
  · exact ⟨_, _, rfl, h1, h2⟩
theorem Sl.room {α : Type} {E : World → Nat → Nat → α → Prop} {size : Nat} {w : World} {v : Value} {xs : List α} (h : Sl E size w v xs) {c' : Nat} {A' : Option Addr} (hv : v = .slice A' xs.length c') (h1 : xs.length ≤ c') (h2 : c' ≤ maxLen) : SlC E size w v xs := by
  obtain ⟨A, c, rfl, hs⟩ := h
  injection hv with e1 e2 e3
  subst e1; subst e3
  exact ⟨_, _, rfl, h1, h2, hs⟩

/-- Rows that were written are read back, their room told. -/
def RowsOutC (w : World) (l : List St) (e : Ending) (w' : World) : Prop := ∃ A c, e = .returned (.slice A (rowsF l).length c) ∧ SeqAt RowC 1 w' A (rowsF l) ∧ Below w.heap.size w w'

theorem rows_seenC {w : World} {B R : Nat} {v : Value} {l : List St} {cs : List Value} (h : w.ownsRow B 66 1 v l.length cs) (hr : RowsOwn w B R l cs) (hz : ∀ s ∈ l, s.name.size ≤ maxLen) : Sl RowC 1 w v (rowsF l) := by
  have hl : (rowsF l).length = l.length := by simp [rowsF]
  refine seq_of_own (by rw [hl]; exact h) fun g k x hg hx => ?_
  have hk : k < l.length := by have := (List.getElem?_eq_some_iff.1 hx).1; omega
  have hkc : k < cs.length := by have := h.1; omega
  have hs : l[k]? = some l[k] := List.getElem?_eq_getElem hk
  have hc : cs[k]? = some cs[k] := List.getElem?_eq_getElem hkc
  have hxe : x = rowF l[k] := by
    rw [rowsF, List.getElem?_map, hs] at hx
    simpa using hx.symm
  subst hxe
  have ho := (hr k _ _ hc hs).1
  obtain ⟨A', c', e1, e2, e3⟩ := own_cap ho
  refine ⟨cs[k], ?_, (vals_of_own ho ?_).room e1 e2 e3⟩
  · have := h.cells hg k _ hc
    have e : (⟨g, 0, none⟩ : Addr).add k = ⟨g, k * 1, none⟩ := by cases k <;> simp [Addr.add]
    rwa [e] at this
  · intro y hy
    simp only [rowF, List.mem_cons, List.mem_map] at hy
    rcases hy with rfl | rfl | ⟨n, _, rfl⟩
    · exact hz _ (List.mem_of_getElem? hs)
    · exact Nat.zero_le _
    · exact Nat.zero_le _

theorem rows_anyC (A : Option Addr) (c : Nat) (l : List St) (w : World) (hl : SeqAt StatE 3 w A l) (hm : l.length ≤ 100) (hu : ∀ s ∈ l, s.unlike.length ≤ 100) :
    Calls Try.prog 31 #[.slice A l.length c] w (RowsOutC w l) :=
  (rows_own A c l w hl hm hu).mono fun _ _ ⟨v, cs, he, ho, hr, hb⟩ => by
    subst he
    obtain ⟨A', c', rfl, hs⟩ := rows_seenC ho hr (names_ok hl)
    exact ⟨A', c', rfl, hs, hb⟩

/-- What read answers. -/
def ReadOut (w : World) (row : List Vl) (e : Ending) (w' : World) : Prop :=
  Below w.heap.size w w' ∧ ∃ nm many A n c, e = .returned (.tuple #[.agg #[.string nm, .int .i64 many, .slice A n c], .bool (readB row)]) ∧
    (readB row = true → nm = (headSt row).name ∧ many = (headSt row).many ∧ w'.ownsRow w.heap.size 2 1 (.slice A n c) (headSt row).unlike.length (ints (headSt row).unlike))

end Go.Proofs.Ytpalbdjcfhlniaa
