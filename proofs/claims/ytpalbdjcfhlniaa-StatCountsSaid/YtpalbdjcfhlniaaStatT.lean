/- Statistics that the call itself lays: what is owned. -/
import Derived.Test.YtpalbdjcfhlniaaStatS
import Derived.Test.YtpalbdjcfhlniaaStatH
import Derived.Deep.RegionLawGrows
namespace Go.Proofs.Ytpalbdjcfhlniaa
open Go.RowKit

theorem Try.info46 : (Try.prog.info? 46).map (fun i => (i.zero, i.size, i.bytes)) = some (some (.agg #[.string ⟨#[]⟩, .int .i64 0, .slice none 0 0]), 3, 48) := by kernel_rfl

/-- The rows that there are of a table. -/
def rowsAt (all : List (List (List Vl))) (k : Nat) : Nat := (all.getD k []).length
def tabSt (all : List (List (List Vl))) (t : Tb) (k : Nat) : St := ⟨t.name, rowsAt all k, [(rowsAt all k : Int)]⟩
def tabStats (tabs : List Tb) (all : List (List (List Vl))) : List St := tabs.mapIdx fun k t => tabSt all t k
/-- The counts of an index's first columns. -/
def unlikesTo (cols : List Cm) (rows : List (List Vl)) (ics : List Ic) (m : Nat) : List Int := (List.range m).map fun j => (countsF cols rows (ics.take (j + 1)) : Int)
def idxSt (tabs : List Tb) (all : List (List (List Vl))) (x : Ix) : St :=
  ⟨x.name, (tableF tabs all x.table).2.length, unlikesTo (tableF tabs all x.table).1.cols (tableF tabs all x.table).2 x.cols x.cols.length ++ [((tableF tabs all x.table).2.length : Int)]⟩
/-- The statistics of data. -/
def ofF (tabs : List Tb) (idxs : List Ix) (all : List (List (List Vl))) : List St := tabStats tabs all ++ idxs.map (idxSt tabs all)

theorem tabStats_length (tabs : List Tb) (all : List (List (List Vl))) : (tabStats tabs all).length = tabs.length := by simp [tabStats]
theorem tabStats_take {tabs : List Tb} {all : List (List (List Vl))} {k : Nat} {t : Tb} (h : tabs[k]? = some t) : (tabStats tabs all).take (k + 1) = (tabStats tabs all).take k ++ [tabSt all t k] := by
  rw [List.take_add_one]
  simp [tabStats, h]
theorem unlikesTo_succ (cols : List Cm) (rows : List (List Vl)) (ics : List Ic) (m : Nat) : unlikesTo cols rows ics (m + 1) = unlikesTo cols rows ics m ++ [(countsF cols rows (ics.take (m + 1)) : Int)] := by
  simp [unlikesTo, List.range_succ]
theorem unlikesTo_length (cols : List Cm) (rows : List (List Vl)) (ics : List Ic) (m : Nat) : (unlikesTo cols rows ics m).length = m := by simp [unlikesTo]

def ints (l : List Int) : List Value := l.map (.int .i64)
theorem ints_append (a b : List Int) : ints (a ++ b) = ints a ++ ints b := by simp [ints]
def stCells : List St → List Value → List Value
  | s :: l, u :: us => .string s.name :: .int .i64 s.many :: u :: stCells l us
  | _, _ => []
theorem stCells_append : ∀ {l : List St} {us : List Value} (_ : us.length = l.length) (s : St) (u : Value), stCells (l ++ [s]) (us ++ [u]) = stCells l us ++ [.string s.name, .int .i64 s.many, u]
  | [], [], _, _, _ => rfl
  | [], _ :: _, h, _, _ => by simp at h
  | _ :: _, [], h, _, _ => by simp at h
  | x :: l, v :: us, h, s, u => by
    have := stCells_append (l := l) (us := us) (by simpa using h) s u
    simp [stCells, this]
theorem stCells_at : ∀ {l : List St} {us : List Value} (_ : us.length = l.length) (k : Nat) (s : St) (u : Value), l[k]? = some s → us[k]? = some u →
    (stCells l us)[k * 3]? = some (.string s.name) ∧ (stCells l us)[k * 3 + 1]? = some (.int .i64 s.many) ∧ (stCells l us)[k * 3 + 2]? = some u
  | [], _, _, k, s, u, h, _ => by simp at h
  | _ :: _, [], h, _, _, _, _, _ => by simp at h
  | x :: l, v :: us, h, 0, s, u, hs, hu => by simp at hs hu; subst hs; subst hu; exact ⟨rfl, rfl, rfl⟩
  | x :: l, v :: us, h, k + 1, s, u, hs, hu => by
    obtain ⟨h0, h1, h2⟩ := stCells_at (l := l) (us := us) (by simpa using h) k s u (by simpa using hs) (by simpa using hu)
    refine ⟨?_, ?_, ?_⟩
    · rw [show (k + 1) * 3 = k * 3 + 3 by omega]; simpa [stCells] using h0
    · rw [show (k + 1) * 3 + 1 = k * 3 + 1 + 3 by omega]; simpa [stCells] using h1
    · rw [show (k + 1) * 3 + 2 = k * 3 + 2 + 3 by omega]; simpa [stCells] using h2

/-- A list of statistics that the call has laid: the row, and each statistic's own row, all below R. -/
structure OutOwn (w : World) (B R : Nat) (o : Value) (L : List St) (us : List Value) : Prop where
  len : us.length = L.length
  row : w.ownsRow B 46 3 o L.length (stCells L us)
  each : ∀ (j : Nat) u s, us[j]? = some u → L[j]? = some s → w.ownsRow B 2 1 u s.unlike.length (ints s.unlike) ∧ ∀ g, u.ownBlock = some g → g < R
  low : ∀ g, o.ownBlock = some g → g < R

theorem OutOwn.nil (w : World) (B R : Nat) : OutOwn w B R (.slice none 0 0) [] [] := ⟨rfl, World.ownsRow_nil _ _ _ _, fun j u s h => by simp at h, fun g h => by simp [Value.ownBlock] at h⟩
theorem OutOwn.mono {w : World} {B R R' : Nat} {o : Value} {L : List St} {us : List Value} (h : OutOwn w B R o L us) (hR : R ≤ R') : OutOwn w B R' o L us :=
  ⟨h.len, h.row, fun j u s hu hs => ⟨(h.each j u s hu hs).1, fun g hg => Nat.lt_of_lt_of_le ((h.each j u s hu hs).2 g hg) hR⟩, fun g hg => Nat.lt_of_lt_of_le (h.low g hg) hR⟩
theorem OutOwn.grown {w w' : World} {B R : Nat} {o : Value} {L : List St} {us : List Value} {row : Option Nat} (h : OutOwn w B R o L us) (hg : w.grownBy w' row) (hr : ∀ g, row = some g → R ≤ g) : OutOwn w' B R o L us := by
  have key : ∀ (v : Value), (∀ g, v.ownBlock = some g → g < R) → v.ownBlock = none ∨ v.ownBlock ≠ row := fun v hv => by
    cases hb : v.ownBlock with
    | none => exact .inl rfl
    | some g => exact .inr fun e => by have := hr g e.symm; have := hv g hb; omega
  exact ⟨h.len, h.row.kept hg (key o h.low), fun j u s hu hs => ⟨(h.each j u s hu hs).1.kept hg (key u (h.each j u s hu hs).2), (h.each j u s hu hs).2⟩, h.low⟩
theorem OutOwn.below {w w' : World} {B R : Nat} {o : Value} {L : List St} {us : List Value} (h : OutOwn w B R o L us) (hb : Below w.heap.size w w') : OutOwn w' B R o L us := h.grown (goK hb none) fun g e => by cases e
theorem OutOwn.alloc {w : World} {B R : Nat} {o : Value} {L : List St} {us : List Value} (h : OutOwn w B R o L us) (O : Obj) : OutOwn (w.alloc O) B R o L us := h.grown (World.grownBy_alloc w O none) fun g e => by cases e
theorem OutOwn.push {w w1 : World} {B R : Nat} {o v' u : Value} {L : List St} {us : List Value} {s : St} (h : OutOwn w B R o L us) (hu : w.ownsRow B 2 1 u s.unlike.length (ints s.unlike)) (hg : w.grownBy w1 o.ownBlock)
    (hown : w1.ownsRow B 46 3 v' (L.length + 1) (stCells L us ++ [.string s.name, .int .i64 s.many, u])) : OutOwn w1 B w1.heap.size v' (L ++ [s]) (us ++ [u]) := by
  refine ⟨by simp [h.len], by rw [stCells_append h.len, List.length_append]; exact hown, fun j v t hv ht => ?_, fun g e => (hown.lt g e).2⟩
  have main : w1.ownsRow B 2 1 v t.unlike.length (ints t.unlike) := by
    by_cases hj : j < L.length
    · rw [List.getElem?_append_left (by rw [h.len]; exact hj)] at hv
      rw [List.getElem?_append_left hj] at ht
      have := (h.each j v t hv ht).1
      exact this.kept hg (own_ne this h.row (by decide))
    · have hjl : j = L.length := by have := (List.getElem?_eq_some_iff.1 ht).1; simp at this; omega
      subst hjl
      rw [List.getElem?_append_right (by rw [h.len]; exact Nat.le_refl _), h.len] at hv
      rw [List.getElem?_append_right (Nat.le_refl _)] at ht
      simp at hv ht
      subst hv; subst ht
      exact hu.kept hg (own_ne hu h.row (by decide))
  exact ⟨main, fun g e => (main.lt g e).2⟩

theorem add_zero (g k : Nat) : (⟨g, 0, none⟩ : Addr).add k = ⟨g, k, none⟩ := by cases k <;> simp [Addr.add]

/-- What was laid is read as statistics. -/
theorem OutOwn.seen {w : World} {B R : Nat} {o : Value} {L : List St} {us : List Value} (h : OutOwn w B R o L us) (hz : ∀ s ∈ L, s.name.size ≤ maxLen ∧ s.many ≤ 9223372036854775807) : Sl StatE 3 w o L :=
  seq_of_own h.row fun g k s hg hs => by
    have hkl := (List.getElem?_eq_some_iff.1 hs).1
    have hu : us[k]? = some (us[k]'(by rw [h.len]; exact hkl)) := List.getElem?_eq_getElem _
    obtain ⟨h0, h1, h2⟩ := stCells_at h.len k s _ hs hu
    have hc : ∀ j u, (stCells L us)[j]? = some u → w.cell? ⟨g, j, none⟩ = some u := fun j u hu => by
      have := h.row.cells hg j u hu
      rwa [add_zero] at this
    have hm := hz s (List.mem_of_getElem? hs)
    refine ⟨hc _ _ h0, hc _ _ h1, ⟨_, hc _ _ h2, ?_⟩, hm.1, hm.2⟩
    refine seq_of_own (h.each k _ s hu hs).1 fun g' j x hg' hx => ?_
    have := (h.each k _ s hu hs).1.cells hg' j (.int .i64 x) (by simp [ints, hx])
    rw [add_zero] at this
    show w.cell? _ = _
    rw [Nat.mul_one]; exact this

/-- append of an own row, as one step of a region that draws. -/
theorem step_append_own {P : Program} {ops : Array Oper} {o : Oper} {a : Act} {w : World} {K : Act → World → Prop} {Q : Exit → Act → World → Prop} {E : Prop}
    (hg : o.guard = none) (s x : Operand) (t : TypeId) (hop : o.op = Op.call { callee := Callee.builtin Builtin.append, args := #[s, x], argTypes := #[t, t] })
    (base : Nat) (e : TypeId) (i : TypeInfo) (z : Value) (size bytes : Nat) (h1 : P.underlying t = some (.slice e)) (h2 : P.info? e = some i) (h3 : i.zero = some z) (h4 : i.size = size) (h5 : i.bytes = bytes) (h6 : z.cells.size = size) (h7 : 0 < size)
    (v : Value) (n : Nat) (xs : List Value) (hs : a.eval s = v) (hown : w.ownsRow base e size v n xs)
    (ad : Addr) (m c : Nat) (news : List Value) (hx : a.eval x = .slice (some ad) m c) (hn : news.length = m * size) (hc : ∀ j u, news[j]? = some u → w.cell? (ad.add j) = some u) (h1c : ∀ u ∈ news, u.oneCell' = true)
    (b1 : n + m ≤ maxLen) (b2 : (n + m) * bytes ≤ 140737488355328) (hB : base ≤ w.heap.size)
    (hK : ∀ v' w', w'.ownsRow base e size v' (n + m) (xs ++ news) → w.grownBy w' v.ownBlock → K (a.put o.dst v') w') :
    if Region.wanted o (yielded ops a.tmps) = true then Oper.wp P o a w K Q else E := by
  have hw : Region.wanted o (yielded ops a.tmps) = true := by simp [Region.wanted, hg]
  rw [if_pos hw]
  exact wp_append_own w s x t hop base e i z size bytes h1 h2 h3 h4 h5 h6 h7 v n xs hs hown ad m c news hx hn hc h1c b1 b2 hB fun v' w' r1 r2 _ => hK v' w' r1 r2

end Go.Proofs.Ytpalbdjcfhlniaa
