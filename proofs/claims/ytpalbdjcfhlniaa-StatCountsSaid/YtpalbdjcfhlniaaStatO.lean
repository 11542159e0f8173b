/- Arguments opened: values, rows, statistics, tables, indexes, data. -/
import Derived.Test.YtpalbdjcfhlniaaStatU
import Derived.ProofKit
import Derived.OpenShut
import Derived.ShutString
import Derived.ChangeOld
import Derived.ChangeSame
import Derived.Deep.Slices
import Derived.Deep.Fields
import Derived.Deep.Strs
namespace Go.Proofs.Ytpalbdjcfhlniaa
open Go.ChangeShapes Go.WideShapes Go.ChangeAt Go.RowKit Go.Deep

/-- The cells from an address on. -/
def CellsAt (w : World) (a : Addr) (cs : List Value) : Prop := ∀ j v, cs[j]? = some v → w.cell? (a.add j) = some v

theorem CellsAt.sub {w : World} {a : Addr} {cs : List Value} (h : CellsAt w a cs) (o m : Nat) : CellsAt w (a.add o) ((cs.drop o).take m) := by
  intro j v hj
  rw [Go.Deep.add_add]
  refine h (o + j) v ?_
  rw [List.getElem?_take] at hj
  split at hj
  · rw [List.getElem?_drop] at hj; exact hj
  · simp at hj

theorem CellsAt.base {w : World} {a : Addr} {cs : List Value} (h : CellsAt w a cs) (hl : 0 < cs.length) : ∃ b o, a = ⟨b, o, none⟩ ∧ b < w.heap.size := by
  obtain ⟨b, o, s⟩ := a
  have h0 := h 0 _ (List.getElem?_eq_getElem hl)
  have hs : s = none := by simpa [Addr.add] using World.cell?_spot h0
  subst hs
  exact ⟨b, o, rfl, World.block_lt_of_cell? w _ h0⟩

/-- A type is read by E at its place, with Q. -/
def OpE {α : Type} (P : Program) (ty : TypeId) (E : World → Nat → Nat → α → Prop) (Q : α → Prop) : Prop :=
  ∀ {H : Type} {enc : TypeId × Value → H} {w : World} {base : Nat} {spare : Nat → Bool} {held : Bool} {n : Nat} {a : Addr} {cs : List Value} {x : DataW H × List MemPlace},
    CellsAt w a cs → DataW.trod enc P w base spare held n ty cs = some x → ∃ b o y, a = ⟨b, o, none⟩ ∧ b < w.heap.size ∧ E w b o y ∧ Q y

/-- A slice value that reads a list, of a known room. -/
def SlC {α : Type} (E : World → Nat → Nat → α → Prop) (size : Nat) (w : World) (v : Value) (xs : List α) : Prop := ∃ A c, v = .slice A xs.length c ∧ xs.length ≤ c ∧ c ≤ maxLen ∧ SeqAt E size w A xs

theorem SlC.sl {α : Type} {E : World → Nat → Nat → α → Prop} {size : Nat} {w : World} {v : Value} {xs : List α} (h : SlC E size w v xs) : Sl E size w v xs :=
  let ⟨A, c, e, _, _, hs⟩ := h
  ⟨A, c, e, hs⟩

theorem list_of {α : Type} {p : Nat → α → Prop} (l : Nat) (hex : ∀ i, i < l → ∃ y, p i y) : ∃ xs : List α, xs.length = l ∧ ∀ i y, xs[i]? = some y → p i y := by
  induction l with
  | zero => exact ⟨[], rfl, fun i y h => by simp at h⟩
  | succ l ih =>
    obtain ⟨xs, hxl, hxs⟩ := ih (fun i h => hex i (by omega))
    obtain ⟨y, hy⟩ := hex l (by omega)
    refine ⟨xs ++ [y], by simp [hxl], fun i z hz => ?_⟩
    rw [List.getElem?_append] at hz
    split at hz
    · exact hxs i z hz
    · rename_i hlt
      have hil : i = l := by
        have := (List.getElem?_eq_some_iff.1 hz).1
        simp at this
        omega
      subst hil
      rw [hxl] at hz
      simp at hz
      subst hz
      exact hy

theorem open_list {α : Type} {P : Program} {t e : TypeId} {k : Nat} {E : World → Nat → Nat → α → Prop} {Q : α → Prop} (hE : OpE P e E Q) (ht : P.underlying t = some (.slice e)) (hk : P.cellsOf e = k)
    {H : Type} {enc : TypeId × Value → H} {w : World} {base : Nat} {spare : Nat → Bool} {held : Bool} {n : Nat} {cs : List Value} {x : DataW H × List MemPlace} (h : DataW.trod enc P w base spare held n t cs = some x) :
    ∃ v xs, cs = [v] ∧ SlC E k w v xs ∧ ∀ y ∈ xs, Q y := by
  rcases open_slice ht h with ⟨hcs, _⟩ | ⟨a, l, c, m, n, D0, Pl, hcs, _, hl, hm, hmm, _, hi⟩
  · exact ⟨_, [], hcs, ⟨none, 0, rfl, Nat.le_refl _, Nat.zero_le _, SeqAt.nil _ _ _ _⟩, fun y hy => by simp at hy⟩
  · have hlm : l ≤ m := by rw [hmm]; split <;> omega
    have hex : ∀ i, i < l → ∃ y : α, ∃ b o, a.add (i * k) = ⟨b, o, none⟩ ∧ b < w.heap.size ∧ E w b o y ∧ Q y := by
      intro i hil
      obtain ⟨cs', hc, ht'⟩ := hi i (by omega)
      rw [hk] at hc
      obtain ⟨_, hcl, hat⟩ := World.cells?_some hc
      obtain ⟨b, o, y, h1, h2, h3, h4⟩ := hE (fun j v hj => (hat j (by rw [← hcl]; exact (List.getElem?_eq_some_iff.1 hj).1)).trans hj) ht'
      exact ⟨y, b, o, h1, h2, h3, h4⟩
    have hlist := list_of l hex
    obtain ⟨xs, hxl, hxs⟩ := hlist
    refine ⟨_, xs, hcs, ⟨some a, c, by rw [hxl], by omega, hm, fun i y hy => ?_⟩, fun y hy => ?_⟩
    · obtain ⟨b, o, h1, h2, h3, _⟩ := hxs i y hy
      exact ⟨a, b, o, rfl, h1, h2, h3⟩
    · obtain ⟨i, hi2⟩ := List.getElem?_of_mem hy
      obtain ⟨_, _, _, _, _, hq⟩ := hxs i y hi2
      exact hq

/-- A struct's field at an offset. -/
theorem open_field {P : Program} {t : TypeId} {fs : Array Field} {H : Type} {enc : TypeId × Value → H} {w : World} {base : Nat} {spare : Nat → Bool} {held : Bool} {n : Nat} {a : Addr} {cs : List Value} {x : DataW H × List MemPlace}
    (ht : P.underlying t = some (.struct fs)) (hc : CellsAt w a cs) (h : DataW.trod enc P w base spare held n t cs = some x) :
    cs.length = P.cellsOf t ∧ ∀ (j : Nat) (f : Field), fs[j]? = some f → ∃ n' y, CellsAt w (a.add f.offset) ((cs.drop f.offset).take (P.cellsOf f.type)) ∧ DataW.trod enc P w base spare held n' f.type ((cs.drop f.offset).take (P.cellsOf f.type)) = some y := by
  obtain ⟨ys, n', hn', hy, hlen, hyl, hf⟩ := DataW.trod_struct ht h
  refine ⟨hlen, fun j f hj => ?_⟩
  have hjl : j < fs.size := (Array.getElem?_eq_some_iff.1 hj).1
  have hys : ys[j]? = some (ys[j]'(by omega)) := List.getElem?_eq_getElem (by omega)
  exact ⟨n', _, hc.sub _ _, (hf j f hj).trans hys⟩

theorem cells_one_at {w : World} {a : Addr} {v : Value} (h : CellsAt w a [v]) : w.cell? a = some v := by
  have := h 0 v rfl
  rwa [show a.add 0 = a by obtain ⟨b, o, s⟩ := a; simp [Addr.add]] at this

/-- A number that fits 64 bits. -/
def Fits (n : Int) : Prop := -9223372036854775808 ≤ n ∧ n ≤ 9223372036854775807

theorem open_int64 {P : Program} {t : TypeId} {H : Type} {enc : TypeId × Value → H} {w : World} {base : Nat} {spare : Nat → Bool} {held : Bool} {n : Nat} {a : Addr} {cs : List Value} {x : DataW H × List MemPlace}
    (ht : P.underlying t = some (.int .i64)) (hc : CellsAt w a cs) (h : DataW.trod enc P w base spare held n t cs = some x) : ∃ z, w.cell? a = some (.int .i64 z) ∧ Fits z := by
  obtain ⟨z, rfl, _, hw⟩ := DataW.trod_int ht h
  refine ⟨z, cells_one_at hc, ?_⟩
  simp [Lit.wf, IntKind.min, IntKind.max, IntKind.signed, IntKind.bits] at hw
  unfold Fits; omega
theorem open_flag {P : Program} {t : TypeId} {H : Type} {enc : TypeId × Value → H} {w : World} {base : Nat} {spare : Nat → Bool} {held : Bool} {n : Nat} {a : Addr} {cs : List Value} {x : DataW H × List MemPlace}
    (ht : P.underlying t = some .bool) (hc : CellsAt w a cs) (h : DataW.trod enc P w base spare held n t cs = some x) : ∃ z, w.cell? a = some (.bool z) := by
  obtain ⟨z, rfl, _⟩ := DataW.trod_bool ht h
  exact ⟨z, cells_one_at hc⟩
theorem open_text {P : Program} {t : TypeId} {H : Type} {enc : TypeId × Value → H} {w : World} {base : Nat} {spare : Nat → Bool} {held : Bool} {n : Nat} {a : Addr} {cs : List Value} {x : DataW H × List MemPlace}
    (ht : P.underlying t = some .string) (hc : CellsAt w a cs) (h : DataW.trod enc P w base spare held n t cs = some x) : ∃ z, w.cell? a = some (.string z) ∧ z.size ≤ maxLen := by
  obtain ⟨z, rfl, _, hz⟩ := DataW.trod_string ht h
  exact ⟨z, cells_one_at hc, hz⟩
theorem open_row {α : Type} {P : Program} {t e : TypeId} {k : Nat} {E : World → Nat → Nat → α → Prop} {Q : α → Prop} (hE : OpE P e E Q) (ht : P.underlying t = some (.slice e)) (hk : P.cellsOf e = k)
    {H : Type} {enc : TypeId × Value → H} {w : World} {base : Nat} {spare : Nat → Bool} {held : Bool} {n : Nat} {a : Addr} {cs : List Value} {x : DataW H × List MemPlace} (hc : CellsAt w a cs) (h : DataW.trod enc P w base spare held n t cs = some x) :
    ∃ v xs, w.cell? a = some v ∧ SlC E k w v xs ∧ ∀ y ∈ xs, Q y := by
  obtain ⟨v, xs, rfl, h1, h2⟩ := open_list hE ht hk h
  exact ⟨v, xs, cells_one_at hc, h1, h2⟩

/-! ### This program's types -/
theorem Try.own : ownKnob Try.prog.godebug = none := by kernel_rfl
theorem Try.laidOut : laidOutB Try.prog = true := by kernel_rfl
theorem Try.cellsOf2 : Try.prog.cellsOf 2 = 1 := by kernel_rfl
theorem Try.cellsOf3 : Try.prog.cellsOf 3 = 1 := by kernel_rfl
theorem Try.cellsOf4 : Try.prog.cellsOf 4 = 1 := by kernel_rfl
theorem Try.cellsOf9 : Try.prog.cellsOf 9 = 1 := by kernel_rfl
theorem Try.cellsOf78 : Try.prog.cellsOf 78 = 3 := by kernel_rfl
theorem Try.cellsOf66 : Try.prog.cellsOf 66 = 1 := by kernel_rfl
theorem Try.cellsOf61 : Try.prog.cellsOf 61 = 1 := by kernel_rfl
theorem Try.cellsOf46 : Try.prog.cellsOf 46 = 3 := by kernel_rfl
theorem Try.cellsOf44 : Try.prog.cellsOf 44 = 1 := by kernel_rfl

theorem opens_int : OpE Try.prog 2 IntE Fits := by
  intro H enc w base spare held n a cs x hc h
  obtain ⟨z, rfl, _, _⟩ := DataW.trod_int Try.underlying2 h
  obtain ⟨b, o, rfl, hb⟩ := hc.base (by simp)
  obtain ⟨z, hz, hf⟩ := open_int64 Try.underlying2 hc h
  exact ⟨b, o, z, rfl, hb, hz, hf⟩

/-- A value whose numbers fit. -/
def VlOk (v : Vl) : Prop := Fits v.kind ∧ Fits v.n
/-- A row, rows, all rows whose values fit. -/
def RowOk (r : List Vl) : Prop := r.length ≤ maxLen ∧ ∀ v ∈ r, VlOk v
def RowsOk (l : List (List Vl)) : Prop := l.length ≤ maxLen ∧ ∀ r ∈ l, RowOk r
def AllOk (l : List (List (List Vl))) : Prop := l.length ≤ maxLen ∧ ∀ r ∈ l, RowsOk r
def StOk (s : St) : Prop := s.name.size ≤ maxLen ∧ Fits s.many ∧ s.unlike.length ≤ maxLen ∧ ∀ n ∈ s.unlike, Fits n

theorem opens_val : OpE Try.prog 78 ValE VlOk := by
  intro H enc w base spare held n a cs x hc h
  obtain ⟨hl, hf⟩ := open_field Try.underlying78 hc h
  rw [Try.cellsOf78] at hl
  obtain ⟨b, o, rfl, hb⟩ := hc.base (by omega)
  obtain ⟨_, _, c0, t0⟩ := hf 0 _ rfl
  obtain ⟨_, _, c1, t1⟩ := hf 1 _ rfl
  obtain ⟨_, _, c2, t2⟩ := hf 2 _ rfl
  obtain ⟨z0, h0, f0⟩ := open_int64 Try.underlying3 c0 t0
  obtain ⟨z1, h1, f1⟩ := open_int64 Try.underlying2 c1 t1
  obtain ⟨z2, h2, f2⟩ := open_text Try.underlying9 c2 t2
  exact ⟨b, o, ⟨z0, z1, z2⟩, rfl, hb, ⟨by simpa [Addr.add] using h0, by simpa [Addr.add] using h1, by simpa [Addr.add] using h2, f2⟩, f0, f1⟩

theorem SlC.len {α : Type} {E : World → Nat → Nat → α → Prop} {size : Nat} {w : World} {v : Value} {xs : List α} (h : SlC E size w v xs) : xs.length ≤ maxLen :=
  let ⟨_, _, _, h1, h2, _⟩ := h
  Nat.le_trans h1 h2

theorem opens_slice {α : Type} {t e : TypeId} {k : Nat} {E : World → Nat → Nat → α → Prop} {Q : α → Prop} (hE : OpE Try.prog e E Q) (ht : Try.prog.underlying t = some (.slice e)) (hk : Try.prog.cellsOf e = k) :
    OpE Try.prog t (SlE E k) (fun l => l.length ≤ maxLen ∧ ∀ y ∈ l, Q y) := by
  intro H enc w base spare held n a cs x hc h
  obtain ⟨v, xs, hcs, h1, h2⟩ := open_list hE ht hk h
  obtain ⟨b, o, rfl, hb⟩ := hc.base (by rw [hcs]; simp)
  subst hcs
  exact ⟨b, o, xs, rfl, hb, ⟨v, cells_one_at hc, h1.sl⟩, h1.len, h2⟩

theorem opens_row : OpE Try.prog 66 RowE RowOk := opens_slice opens_val Try.underlying66 Try.cellsOf78
theorem opens_rows : OpE Try.prog 61 RowsE RowsOk := opens_slice opens_row Try.underlying61 Try.cellsOf66

theorem opens_stat : OpE Try.prog 46 StatE StOk := by
  intro H enc w base spare held n a cs x hc h
  obtain ⟨hl, hf⟩ := open_field Try.underlying46 hc h
  rw [Try.cellsOf46] at hl
  obtain ⟨b, o, rfl, hb⟩ := hc.base (by omega)
  obtain ⟨_, _, c0, t0⟩ := hf 0 _ rfl
  obtain ⟨_, _, c1, t1⟩ := hf 1 _ rfl
  obtain ⟨_, _, c2, t2⟩ := hf 2 _ rfl
  obtain ⟨z0, h0, f0⟩ := open_text Try.underlying9 c0 t0
  obtain ⟨z1, h1, f1⟩ := open_int64 Try.underlying2 c1 t1
  obtain ⟨v, xs, h2, f2, g2⟩ := open_row opens_int Try.underlying44 Try.cellsOf2 c2 t2
  exact ⟨b, o, ⟨z0, z1, xs⟩, rfl, hb, ⟨by simpa [Addr.add] using h0, by simpa [Addr.add] using h1, ⟨v, by simpa [Addr.add] using h2, f2.sl⟩, f0, f1.2⟩, f0, f1, f2.len, g2⟩

set_option maxRecDepth 100000 in
/-- An argument of statistics. -/
theorem open_stats {H : Type} {enc : TypeId × Value → H} {w : World} {base : Nat} {spare : Nat → Bool} {held : Bool} {v : Value} {d : DataW H} {ps : List MemPlace} {r : Reach} {b0 : Nat}
    (hv : Value.okWide Try.prog w r b0 43 v) (h : DataW.Trod enc Try.prog w base spare held 43 v d ps) :
    ∃ (A : Option Addr) (c : Nat) (l : List St), v = .slice A l.length c ∧ SeqAt StatE 3 w A l ∧ l.length ≤ maxLen ∧ ∀ s ∈ l, StOk s := by
  obtain ⟨A, len, cap, rfl⟩ := okWide_slice Try.underlying43 hv
  obtain ⟨fuel, hf⟩ := h
  obtain ⟨v, xs, hcs, h1, h2⟩ := open_list opens_stat Try.underlying43 Try.cellsOf46 hf
  simp [Value.cells] at hcs
  subst hcs
  have hlen := h1.len
  obtain ⟨A', c', e, _, _, hs⟩ := h1
  simp only [Value.slice.injEq] at e
  obtain ⟨rfl, rfl, rfl⟩ := e
  exact ⟨_, _, xs, rfl, hs, hlen, h2⟩

set_option maxRecDepth 100000 in
/-- An argument of rows. -/
theorem open_rows {H : Type} {enc : TypeId × Value → H} {w : World} {base : Nat} {spare : Nat → Bool} {held : Bool} {v : Value} {d : DataW H} {ps : List MemPlace} {r : Reach} {b0 : Nat}
    (hv : Value.okWide Try.prog w r b0 61 v) (h : DataW.Trod enc Try.prog w base spare held 61 v d ps) :
    ∃ (A : Option Addr) (c : Nat) (l : List (List Vl)), v = .slice A l.length c ∧ SeqAt RowE 1 w A l ∧ RowsOk l := by
  obtain ⟨A, len, cap, rfl⟩ := okWide_slice Try.underlying61 hv
  obtain ⟨fuel, hf⟩ := h
  obtain ⟨v, xs, hcs, h1, h2⟩ := open_list opens_row Try.underlying61 Try.cellsOf66 hf
  simp [Value.cells] at hcs
  subst hcs
  have hlen := h1.len
  obtain ⟨A', c', e, _, _, hs⟩ := h1
  simp only [Value.slice.injEq] at e
  obtain ⟨rfl, rfl, rfl⟩ := e
  exact ⟨_, _, xs, rfl, hs, hlen, h2⟩

/-! ### Data -/
def CmOk (c : Cm) : Prop := c.name.size ≤ maxLen ∧ VlOk c.d
def TbOk (t : Tb) : Prop := t.name.size ≤ maxLen ∧ t.cols.length ≤ maxLen ∧ ∀ c ∈ t.cols, CmOk c
def IcOk (c : Ic) : Prop := c.name.size ≤ maxLen ∧ Fits c.coll
def IxOk (x : Ix) : Prop := x.name.size ≤ maxLen ∧ x.table.size ≤ maxLen ∧ x.cols.length ≤ maxLen ∧ ∀ c ∈ x.cols, IcOk c

theorem Try.cellsOf80 : Try.prog.cellsOf 80 = 9 := by kernel_rfl
theorem Try.cellsOf53 : Try.prog.cellsOf 53 = 3 := by kernel_rfl
theorem Try.cellsOf49 : Try.prog.cellsOf 49 = 1 := by kernel_rfl
theorem Try.cellsOf50 : Try.prog.cellsOf 50 = 1 := by kernel_rfl
theorem Try.cellsOf51 : Try.prog.cellsOf 51 = 1 := by kernel_rfl
theorem Try.cellsOf84 : Try.prog.cellsOf 84 = 4 := by kernel_rfl
theorem Try.cellsOf89 : Try.prog.cellsOf 89 = 5 := by kernel_rfl
theorem Try.cellsOf86 : Try.prog.cellsOf 86 = 3 := by kernel_rfl

theorem opens_col : OpE Try.prog 80 ColE CmOk := by
  intro H enc w base spare held n a cs x hc h
  obtain ⟨hl, hf⟩ := open_field Try.underlying80 hc h
  rw [Try.cellsOf80] at hl
  obtain ⟨b, o, rfl, hb⟩ := hc.base (by omega)
  obtain ⟨_, _, c0, t0⟩ := hf 0 _ rfl
  obtain ⟨_, _, c1, t1⟩ := hf 1 _ rfl
  obtain ⟨_, _, c2, t2⟩ := hf 2 _ rfl
  obtain ⟨_, _, c3, t3⟩ := hf 3 _ rfl
  obtain ⟨_, _, c4, t4⟩ := hf 4 _ rfl
  obtain ⟨_, _, c5, t5⟩ := hf 5 _ rfl
  obtain ⟨_, _, c6, t6⟩ := hf 6 _ rfl
  obtain ⟨z0, h0, f0⟩ := open_text Try.underlying9 c0 t0
  obtain ⟨z1, h1, _⟩ := open_int64 Try.underlying3 c1 t1
  obtain ⟨z2, h2, _⟩ := open_int64 Try.underlying3 c2 t2
  obtain ⟨z3, h3⟩ := open_flag Try.underlying4 c3 t3
  obtain ⟨z4, h4⟩ := open_flag Try.underlying4 c4 t4
  obtain ⟨z5, h5⟩ := open_flag Try.underlying4 c5 t5
  obtain ⟨b', o', v, hbo, _, hV, hq⟩ := opens_val c6 t6
  simp [Addr.add] at hbo
  obtain ⟨rfl, rfl⟩ := hbo
  exact ⟨b, o, ⟨z0, z1, z2, z3, z4, z5, v⟩, rfl, hb, ⟨by simpa [Addr.add] using h0, by simpa [Addr.add] using h1, by simpa [Addr.add] using h2, by simpa [Addr.add] using h3, by simpa [Addr.add] using h4, by simpa [Addr.add] using h5, hV.kind, hV.n, hV.s, f0⟩, f0, hq⟩

theorem opens_ic : OpE Try.prog 86 IcE IcOk := by
  intro H enc w base spare held n a cs x hc h
  obtain ⟨hl, hf⟩ := open_field Try.underlying86 hc h
  rw [Try.cellsOf86] at hl
  obtain ⟨b, o, rfl, hb⟩ := hc.base (by omega)
  obtain ⟨_, _, c0, t0⟩ := hf 0 _ rfl
  obtain ⟨_, _, c1, t1⟩ := hf 1 _ rfl
  obtain ⟨_, _, c2, t2⟩ := hf 2 _ rfl
  obtain ⟨z0, h0, f0⟩ := open_text Try.underlying9 c0 t0
  obtain ⟨z1, h1, f1⟩ := open_int64 Try.underlying3 c1 t1
  obtain ⟨z2, h2⟩ := open_flag Try.underlying4 c2 t2
  exact ⟨b, o, ⟨z0, z1, z2⟩, rfl, hb, ⟨by simpa [Addr.add] using h0, by simpa [Addr.add] using h1, by simpa [Addr.add] using h2, f0⟩, f0, f1⟩

theorem opens_tab : OpE Try.prog 84 TabE TbOk := by
  intro H enc w base spare held n a cs x hc h
  obtain ⟨hl, hf⟩ := open_field Try.underlying84 hc h
  rw [Try.cellsOf84] at hl
  obtain ⟨b, o, rfl, hb⟩ := hc.base (by omega)
  obtain ⟨_, _, c0, t0⟩ := hf 0 _ rfl
  obtain ⟨_, _, c1, t1⟩ := hf 1 _ rfl
  obtain ⟨_, _, c2, t2⟩ := hf 2 _ rfl
  obtain ⟨_, _, c3, t3⟩ := hf 3 _ rfl
  obtain ⟨z0, h0, f0⟩ := open_text Try.underlying9 c0 t0
  obtain ⟨v, xs, h1, f1, g1⟩ := open_row opens_col Try.underlying81 Try.cellsOf80 c1 t1
  have h2 : ∃ A n c, w.cell? (Addr.add ⟨b, o, none⟩ 2) = some (.slice A n c) := by
    rcases open_slice Try.underlying82 t2 with ⟨hcs, _⟩ | ⟨a, l, c, _, _, _, _, hcs, _⟩
    · exact ⟨_, _, _, cells_one_at (by rw [← hcs]; exact c2)⟩
    · exact ⟨_, _, _, cells_one_at (by rw [← hcs]; exact c2)⟩
  obtain ⟨z3, h3, _⟩ := open_int64 Try.underlying3 c3 t3
  obtain ⟨A', n', c', h2⟩ := h2
  exact ⟨b, o, ⟨z0, xs, z3⟩, rfl, hb, ⟨by simpa [Addr.add] using h0, ⟨v, by simpa [Addr.add] using h1, f1.sl⟩, ⟨A', n', c', by simpa [Addr.add] using h2⟩, by simpa [Addr.add] using h3, f0⟩, f0, f1.len, g1⟩

/-- An index's five cells, the room of its columns told. -/
def IxcE (w : World) (b o : Nat) (x : Ix) : Prop := IdxE w b o x ∧ CapE w b o x

theorem opens_idx : OpE Try.prog 89 IxcE IxOk := by
  intro H enc w base spare held n a cs x hc h
  obtain ⟨hl, hf⟩ := open_field Try.underlying89 hc h
  rw [Try.cellsOf89] at hl
  obtain ⟨b, o, rfl, hb⟩ := hc.base (by omega)
  obtain ⟨_, _, c0, t0⟩ := hf 0 _ rfl
  obtain ⟨_, _, c1, t1⟩ := hf 1 _ rfl
  obtain ⟨_, _, c2, t2⟩ := hf 2 _ rfl
  obtain ⟨_, _, c3, t3⟩ := hf 3 _ rfl
  obtain ⟨_, _, c4, t4⟩ := hf 4 _ rfl
  obtain ⟨z0, h0, f0⟩ := open_text Try.underlying9 c0 t0
  obtain ⟨z1, h1, f1⟩ := open_text Try.underlying9 c1 t1
  obtain ⟨v, xs, h2, f2, g2⟩ := open_row opens_ic Try.underlying87 Try.cellsOf86 c2 t2
  obtain ⟨z3, h3⟩ := open_flag Try.underlying4 c3 t3
  obtain ⟨z4, h4, _⟩ := open_int64 Try.underlying3 c4 t4
  have hlen := f2.len
  have hsl := f2.sl
  obtain ⟨A2, k2, rfl, e1, e2, e3⟩ := f2
  refine ⟨b, o, ⟨z0, z1, xs, z3, z4⟩, rfl, hb, ⟨⟨by simpa [Addr.add] using h0, by simpa [Addr.add] using h1, ⟨_, by simpa [Addr.add] using h2, hsl⟩, by simpa [Addr.add] using h3, by simpa [Addr.add] using h4, f0, f1⟩, ⟨A2, k2, by simpa [Addr.add] using h2, e1, e2⟩⟩, f0, f1, hlen, g2⟩

/-- Data as an argument. -/
structure DataAt (w : World) (v : Value) (tabs : List Tb) (idxs : List Ix) (all : List (List (List Vl))) : Prop where
  val : ∃ A0 c0 A1 c1 A2 c2, v = .agg #[.slice A0 tabs.length c0, .slice A1 idxs.length c1, .slice A2 all.length c2] ∧ SeqAt TabE 4 w A0 tabs ∧ SeqAt IdxE 5 w A1 idxs ∧ SeqAt CapE 5 w A1 idxs ∧ SeqAt RowsE 1 w A2 all
  tabs : tabs.length ≤ maxLen ∧ ∀ t ∈ tabs, TbOk t
  idxs : idxs.length ≤ maxLen ∧ ∀ t ∈ idxs, IxOk t
  all : AllOk all

set_option maxRecDepth 100000 in
theorem open_data {H : Type} {enc : TypeId × Value → H} {w : World} {base : Nat} {spare : Nat → Bool} {held : Bool} {v : Value} {d : DataW H} {ps : List MemPlace} {r : Reach} {b0 : Nat}
    (hv : Value.okWide Try.prog w r b0 53 v) (h : DataW.Trod enc Try.prog w base spare held 53 v d ps) :
    ∃ tabs idxs all, DataAt w v tabs idxs all := by
  obtain ⟨cs, rfl, hsz⟩ := okWide_struct Try.underlying53 hv
  obtain ⟨fuel, hf⟩ := h
  obtain ⟨y0, y1, y2, n, _, hl, t0, t1, t2⟩ := trod_struct3 Try.underlying53 hf
  rw [Try.cellsOf53] at hl hsz
  simp only [Value.cells] at hl t0 t1 t2
  obtain ⟨L⟩ := cs
  simp only at hl t0 t1 t2
  match L, hl with
  | [a0, a1, a2], _ =>
    rw [Try.cellsOf49] at t0
    rw [Try.cellsOf50] at t1
    rw [Try.cellsOf51] at t2
    obtain ⟨v0, x0, e0, s0, q0⟩ := open_list opens_tab Try.underlying49 Try.cellsOf84 t0
    obtain ⟨v1, x1, e1, s1, q1⟩ := open_list opens_idx Try.underlying50 Try.cellsOf89 t1
    obtain ⟨v2, x2, e2, s2, q2⟩ := open_list opens_rows Try.underlying51 Try.cellsOf61 t2
    simp at e0 e1 e2
    subst e0; subst e1; subst e2
    have l0 := s0.len
    have l1 := s1.len
    have l2 := s2.len
    obtain ⟨A0, c0, rfl, _, _, S0⟩ := s0
    obtain ⟨A1, c1, rfl, _, _, S1⟩ := s1
    obtain ⟨A2, c2, rfl, _, _, S2⟩ := s2
    refine ⟨x0, x1, x2, ⟨⟨A0, c0, A1, c1, A2, c2, rfl, S0, fun k x hx => ?_, fun k x hx => ?_, S2⟩, ⟨l0, q0⟩, ⟨l1, q1⟩, ⟨l2, q2⟩⟩⟩
    · obtain ⟨a, qb, qo, g1, g2, g3, g4⟩ := S1 k x hx
      exact ⟨a, qb, qo, g1, g2, g3, g4.1⟩
    · obtain ⟨a, qb, qo, g1, g2, g3, g4⟩ := S1 k x hx
      exact ⟨a, qb, qo, g1, g2, g3, g4.2⟩

end Go.Proofs.Ytpalbdjcfhlniaa
