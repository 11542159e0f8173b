/- What lies in memory, read as plain data: values, rows, columns, tables, indexes, statistics. -/
import Derived.Test.YtpalbdjcfhlniaaStatA
import Derived.Deep.AppendLies
namespace Go.Proofs.Ytpalbdjcfhlniaa
open Go.RowKit

structure Vl where
  kind : Int
  n : Int
  s : ByteArray
structure St where
  name : ByteArray
  many : Int
  unlike : List Int
structure Cm where
  name : ByteArray
  ty : Int
  coll : Int
  key : Bool
  nn : Bool
  uq : Bool
  d : Vl
structure Tb where
  name : ByteArray
  cols : List Cm
  root : Int
structure Ic where
  name : ByteArray
  coll : Int
  desc : Bool
structure Ix where
  name : ByteArray
  table : ByteArray
  cols : List Ic
  unique : Bool
  root : Int

/-- The empty value. -/
def vl0 : Vl := ⟨0, 0, ⟨#[]⟩⟩

/-- A slice's elements, as a list, each read by E at its place. -/
def SeqAt {α : Type} (E : World → Nat → Nat → α → Prop) (size : Nat) (w : World) (A : Option Addr) (xs : List α) : Prop :=
  ∀ k x, xs[k]? = some x → ∃ a qb qo, A = some a ∧ a.add (k * size) = ⟨qb, qo, none⟩ ∧ qb < w.heap.size ∧ E w qb qo x

/-- What is read below the heap's end stays as it was. -/
def Stays {α : Type} (E : World → Nat → Nat → α → Prop) : Prop := ∀ w w' b o x, Below w.heap.size w w' → b < w.heap.size → E w b o x → E w' b o x

theorem SeqAt.below {α : Type} {E : World → Nat → Nat → α → Prop} {size : Nat} {w w' : World} {A : Option Addr} {xs : List α} (hE : Stays E) (h : SeqAt E size w A xs) (hb : Below w.heap.size w w') : SeqAt E size w' A xs :=
  fun k x hx =>
    let ⟨a, qb, qo, e, eq, hl, he⟩ := h k x hx
    ⟨a, qb, qo, e, eq, Nat.lt_of_lt_of_le hl hb.size, hE _ _ _ _ _ hb hl he⟩

theorem SeqAt.nil {α : Type} (E : World → Nat → Nat → α → Prop) (size : Nat) (w : World) (A : Option Addr) : SeqAt E size w A [] := fun k x hx => by simp at hx

/-- A slice value that reads a list. -/
def Sl {α : Type} (E : World → Nat → Nat → α → Prop) (size : Nat) (w : World) (v : Value) (xs : List α) : Prop := ∃ A c, v = .slice A xs.length c ∧ SeqAt E size w A xs

theorem Sl.below {α : Type} {E : World → Nat → Nat → α → Prop} {size : Nat} {w w' : World} {v : Value} {xs : List α} (hE : Stays E) (h : Sl E size w v xs) (hb : Below w.heap.size w w') : Sl E size w' v xs :=
  let ⟨A, c, e, hs⟩ := h
  ⟨A, c, e, hs.below hE hb⟩

def IntE (w : World) (b o : Nat) (n : Int) : Prop := w.cell? ⟨b, o, none⟩ = some (.int .i64 n)
theorem IntE.stays : Stays IntE := fun _ _ _ _ _ hb hl h => (hb.cell hl).trans h

structure ValE (w : World) (b o : Nat) (v : Vl) : Prop where
  kind : w.cell? ⟨b, o, none⟩ = some (.int .i64 v.kind)
  n : w.cell? ⟨b, o + 1, none⟩ = some (.int .i64 v.n)
  s : w.cell? ⟨b, o + 2, none⟩ = some (.string v.s)
  sz : v.s.size ≤ maxLen
theorem ValE.stays : Stays ValE := fun _ _ _ _ _ hb hl h => ⟨(hb.cell hl).trans h.kind, (hb.cell hl).trans h.n, (hb.cell hl).trans h.s, h.sz⟩

/-- A cell that holds a slice that reads a list. -/
def SlE {α : Type} (E : World → Nat → Nat → α → Prop) (size : Nat) (w : World) (b o : Nat) (xs : List α) : Prop := ∃ v, w.cell? ⟨b, o, none⟩ = some v ∧ Sl E size w v xs
theorem SlE.stays {α : Type} {E : World → Nat → Nat → α → Prop} (hE : Stays E) (size : Nat) : Stays (SlE E size) := fun _ _ _ _ _ hb hl h =>
  let ⟨v, hc, hs⟩ := h
  ⟨v, (hb.cell hl).trans hc, hs.below hE hb⟩

/-- A row of values; rows of values; rows of all tables. -/
abbrev RowE := SlE ValE 3
abbrev RowsE := SlE RowE 1
abbrev AllE := SlE RowsE 1

structure StatE (w : World) (b o : Nat) (s : St) : Prop where
  name : w.cell? ⟨b, o, none⟩ = some (.string s.name)
  many : w.cell? ⟨b, o + 1, none⟩ = some (.int .i64 s.many)
  unlike : SlE IntE 1 w b (o + 2) s.unlike
  sz : s.name.size ≤ maxLen
  mb : s.many ≤ 9223372036854775807
theorem StatE.stays : Stays StatE := fun _ _ _ _ _ hb hl h => ⟨(hb.cell hl).trans h.name, (hb.cell hl).trans h.many, SlE.stays IntE.stays 1 _ _ _ _ _ hb hl h.unlike, h.sz, h.mb⟩

structure ColE (w : World) (b o : Nat) (c : Cm) : Prop where
  name : w.cell? ⟨b, o, none⟩ = some (.string c.name)
  ty : w.cell? ⟨b, o + 1, none⟩ = some (.int .i64 c.ty)
  coll : w.cell? ⟨b, o + 2, none⟩ = some (.int .i64 c.coll)
  key : w.cell? ⟨b, o + 3, none⟩ = some (.bool c.key)
  nn : w.cell? ⟨b, o + 4, none⟩ = some (.bool c.nn)
  uq : w.cell? ⟨b, o + 5, none⟩ = some (.bool c.uq)
  d0 : w.cell? ⟨b, o + 6, none⟩ = some (.int .i64 c.d.kind)
  d1 : w.cell? ⟨b, o + 7, none⟩ = some (.int .i64 c.d.n)
  d2 : w.cell? ⟨b, o + 8, none⟩ = some (.string c.d.s)
  sz : c.name.size ≤ maxLen
theorem ColE.stays : Stays ColE := fun _ _ _ _ _ hb hl h =>
  ⟨(hb.cell hl).trans h.name, (hb.cell hl).trans h.ty, (hb.cell hl).trans h.coll, (hb.cell hl).trans h.key, (hb.cell hl).trans h.nn, (hb.cell hl).trans h.uq, (hb.cell hl).trans h.d0, (hb.cell hl).trans h.d1, (hb.cell hl).trans h.d2, h.sz⟩

structure IcE (w : World) (b o : Nat) (c : Ic) : Prop where
  name : w.cell? ⟨b, o, none⟩ = some (.string c.name)
  coll : w.cell? ⟨b, o + 1, none⟩ = some (.int .i64 c.coll)
  desc : w.cell? ⟨b, o + 2, none⟩ = some (.bool c.desc)
  sz : c.name.size ≤ maxLen
theorem IcE.stays : Stays IcE := fun _ _ _ _ _ hb hl h => ⟨(hb.cell hl).trans h.name, (hb.cell hl).trans h.coll, (hb.cell hl).trans h.desc, h.sz⟩

/-- A table's four cells. -/
structure TabE (w : World) (b o : Nat) (t : Tb) : Prop where
  name : w.cell? ⟨b, o, none⟩ = some (.string t.name)
  cols : SlE ColE 9 w b (o + 1) t.cols
  checks : ∃ A n c, w.cell? ⟨b, o + 2, none⟩ = some (.slice A n c)
  root : w.cell? ⟨b, o + 3, none⟩ = some (.int .i64 t.root)
  sz : t.name.size ≤ maxLen
theorem TabE.stays : Stays TabE := fun _ _ _ _ _ hb hl h =>
  ⟨(hb.cell hl).trans h.name, SlE.stays ColE.stays 9 _ _ _ _ _ hb hl h.cols, let ⟨A, n, c, e⟩ := h.checks; ⟨A, n, c, (hb.cell hl).trans e⟩, (hb.cell hl).trans h.root, h.sz⟩

structure IdxE (w : World) (b o : Nat) (x : Ix) : Prop where
  name : w.cell? ⟨b, o, none⟩ = some (.string x.name)
  table : w.cell? ⟨b, o + 1, none⟩ = some (.string x.table)
  cols : SlE IcE 3 w b (o + 2) x.cols
  unique : w.cell? ⟨b, o + 3, none⟩ = some (.bool x.unique)
  root : w.cell? ⟨b, o + 4, none⟩ = some (.int .i64 x.root)
  sz : x.name.size ≤ maxLen
  tz : x.table.size ≤ maxLen
theorem IdxE.stays : Stays IdxE := fun _ _ _ _ _ hb hl h =>
  ⟨(hb.cell hl).trans h.name, (hb.cell hl).trans h.table, SlE.stays IcE.stays 3 _ _ _ _ _ hb hl h.cols, (hb.cell hl).trans h.unique, (hb.cell hl).trans h.root, h.sz, h.tz⟩

/-- A table by value. -/
def TabV (w : World) (v : Value) (t : Tb) : Prop := ∃ A c A' n' c', v = .agg #[.string t.name, .slice A t.cols.length c, .slice A' n' c', .int .i64 t.root] ∧ SeqAt ColE 9 w A t.cols ∧ t.name.size ≤ maxLen
theorem TabV.below {w w' : World} {v : Value} {t : Tb} (h : TabV w v t) (hb : Below w.heap.size w w') : TabV w' v t :=
  let ⟨A, c, A', n', c', e, hs, hz⟩ := h
  ⟨A, c, A', n', c', e, hs.below ColE.stays hb, hz⟩

theorem SeqAt.get {α : Type} {E : World → Nat → Nat → α → Prop} {size : Nat} {w : World} {A : Option Addr} {xs : List α} (h : SeqAt E size w A xs) (k : Nat) (hk : k < xs.length) :
    ∃ a qb qo x, A = some a ∧ a.add (k * size) = ⟨qb, qo, none⟩ ∧ qb < w.heap.size ∧ xs[k]? = some x ∧ E w qb qo x :=
  let ⟨a, qb, qo, e, eq, hl, he⟩ := h k _ (List.getElem?_eq_getElem hk)
  ⟨a, qb, qo, _, e, eq, hl, List.getElem?_eq_getElem hk, he⟩

end Go.Proofs.Ytpalbdjcfhlniaa
