/- The walks that write statistics as rows: the document's and stat's. -/
import Derived.Test.YtpalbdjcfhlniaaStatF
namespace Go.Proofs.Ytpalbdjcfhlniaa
open Go.RowKit

def numV (n : Int) : Vl := ⟨1, n, ⟨#[]⟩⟩
def strV (s : ByteArray) : Vl := ⟨2, 0, s⟩
/-- A statistic as a row. -/
def rowF (s : St) : List Vl := strV s.name :: numV s.many :: s.unlike.map numV
def rowTo (s : St) (m : Nat) : List Vl := strV s.name :: numV s.many :: (s.unlike.take m).map numV
def rowsF (l : List St) : List (List Vl) := l.map rowF

theorem rowTo_all (s : St) : rowTo s s.unlike.length = rowF s := by simp [rowTo, rowF]
theorem rowTo_length (s : St) (m : Nat) (h : m ≤ s.unlike.length) : (rowTo s m).length = m + 2 := by simp [rowTo]; omega
theorem rowTo_succ {s : St} {m : Nat} {x : Int} (h : s.unlike[m]? = some x) : rowTo s (m + 1) = rowTo s m ++ [numV x] := by
  simp [rowTo, List.take_add_one, h]
theorem rowF_length (s : St) : (rowF s).length = s.unlike.length + 2 := by simp [rowF]

def vlCells1 (v : Vl) : List Value := [.int .i64 v.kind, .int .i64 v.n, .string v.s]
def vlCells (l : List Vl) : List Value := l.flatMap vlCells1
theorem vlCells_append (a b : List Vl) : vlCells (a ++ b) = vlCells a ++ vlCells b := by simp [vlCells]
theorem vlCells_length (l : List Vl) : (vlCells l).length = l.length * 3 := by
  induction l with
  | nil => rfl
  | cons x l ih => simp only [vlCells, List.flatMap_cons, List.length_append] at ih ⊢; rw [ih]; simp [vlCells1]; omega
theorem vlCells_at : ∀ (l : List Vl) (k : Nat) (x : Vl), l[k]? = some x → (vlCells l)[k * 3]? = some (.int .i64 x.kind) ∧ (vlCells l)[k * 3 + 1]? = some (.int .i64 x.n) ∧ (vlCells l)[k * 3 + 2]? = some (.string x.s)
  | [], k, x, h => by simp at h
  | v :: l, 0, x, h => by simp at h; subst h; exact ⟨rfl, rfl, rfl⟩
  | v :: l, k + 1, x, h => by
    have ih := vlCells_at l k x (by simpa using h)
    have e : ∀ j, (vlCells (v :: l))[(k + 1) * 3 + j]? = (vlCells l)[k * 3 + j]? := fun j => by
      show (vlCells1 v ++ vlCells l)[(k + 1) * 3 + j]? = _
      rw [List.getElem?_append_right (by simp [vlCells1]; omega)]
      congr 1; simp [vlCells1]; omega
    exact ⟨(e 0).trans ih.1, (e 1).trans ih.2.1, (e 2).trans ih.2.2⟩

theorem own_ne {w : World} {b b' : Nat} {e e' : TypeId} {s s' n n' : Nat} {v v' : Value} {xs xs' : List Value} (h : w.ownsRow b e s v n xs) (h' : w.ownsRow b' e' s' v' n' xs') (hne : e ≠ e') : v.ownBlock = none ∨ v.ownBlock ≠ v'.ownBlock := by
  rcases h.2 with ⟨rfl, _⟩ | ⟨g, cap, cur, rfl, _, hg, _⟩
  · exact .inl rfl
  · refine .inr fun he => ?_
    rcases h'.2 with ⟨rfl, _⟩ | ⟨g', cap', cur', rfl, _, hg', _⟩
    · simp [Value.ownBlock] at he
    · have : g = g' := by simpa [Value.ownBlock] using he
      subst this
      rw [hg] at hg'
      injection hg' with h1
      injection h1 with _ h2
      exact hne h2

theorem seq_of_own {α : Type} {E : World → Nat → Nat → α → Prop} {w : World} {base e size : Nat} {v : Value} {xs : List α} {cs : List Value} (h : w.ownsRow base e size v xs.length cs)
    (hE : ∀ g k x, v.ownBlock = some g → xs[k]? = some x → E w g (k * size) x) : Sl E size w v xs := by
  rcases h.2 with ⟨rfl, hn⟩ | ⟨g, cap, cur, rfl, hb, hg, rest⟩
  · exact ⟨none, 0, by rw [hn], fun k x hx => by have := (List.getElem?_eq_some_iff.1 hx).1; omega⟩
  · refine ⟨_, cap, rfl, fun k x hx => ⟨⟨g, 0, none⟩, g, k * size, rfl, ?_, ?_, hE g k x rfl hx⟩⟩
    · unfold Addr.add; split
      · rename_i h0; rw [h0]
      · simp
    · rcases Nat.lt_or_ge g w.heap.size with hlt | hge
      · exact hlt
      · rw [Array.getElem?_eq_none hge] at hg; cases hg

theorem vals_of_own {w : World} {base : Nat} {v : Value} {xs : List Vl} (h : w.ownsRow base 78 3 v xs.length (vlCells xs)) (hz : ∀ x ∈ xs, x.s.size ≤ maxLen) : Sl ValE 3 w v xs :=
  seq_of_own h fun g k x hg hx => by
    obtain ⟨h0, h1, h2⟩ := vlCells_at xs k x hx
    have hc : ∀ j u, (vlCells xs)[j]? = some u → w.cell? ⟨g, j, none⟩ = some u := fun j u hu => by
      have := h.cells hg j u hu
      have e : (⟨g, 0, none⟩ : Addr).add j = ⟨g, j, none⟩ := by cases j <;> simp [Addr.add]
      rwa [e] at this
    exact ⟨hc _ _ h0, hc _ _ h1, hc _ _ h2, hz x (List.mem_of_getElem? hx)⟩

/-- The rows that were written, whose blocks lie below R. -/
def RowsOwn (w : World) (B R : Nat) (l : List St) (cs : List Value) : Prop :=
  ∀ (j : Nat) (c : Value) (s : St), cs[j]? = some c → l[j]? = some s → w.ownsRow B 78 3 c (rowF s).length (vlCells (rowF s)) ∧ ∀ g, c.ownBlock = some g → g < R

theorem RowsOwn.mono {w : World} {B R R' : Nat} {l : List St} {cs : List Value} (h : RowsOwn w B R l cs) (hR : R ≤ R') : RowsOwn w B R' l cs := fun j c s hc hs =>
  ⟨(h j c s hc hs).1, fun g hg => Nat.lt_of_lt_of_le ((h j c s hc hs).2 g hg) hR⟩
theorem RowsOwn.grown {w w' : World} {B R : Nat} {l : List St} {cs : List Value} {row : Option Nat} (h : RowsOwn w B R l cs) (hg : w.grownBy w' row) (hr : ∀ g, row = some g → R ≤ g) : RowsOwn w' B R l cs := fun j c s hc hs => by
  obtain ⟨ho, hl⟩ := h j c s hc hs
  refine ⟨ho.kept hg ?_, hl⟩
  cases hb : c.ownBlock with
  | none => exact .inl rfl
  | some g => exact .inr fun e => by have := hr g e.symm; have := hl g hb; omega
theorem RowsOwn.grownOther {w w' : World} {B R b e s n : Nat} {l : List St} {cs xs : List Value} {v : Value} (h : RowsOwn w B R l cs) (ho : w.ownsRow b e s v n xs) (he : (78 : Nat) ≠ e) (hg : w.grownBy w' v.ownBlock) : RowsOwn w' B R l cs := fun j c t hc ht => by
  obtain ⟨h1, hl⟩ := h j c t hc ht
  exact ⟨h1.kept hg (own_ne h1 ho he), hl⟩

theorem Try.info78 : (Try.prog.info? 78).map (fun i => (i.zero, i.size, i.bytes)) = some (some (.agg #[.int .i64 0, .int .i64 0, .string ⟨#[]⟩]), 3, 32) := by kernel_rfl
theorem Try.info66 : (Try.prog.info? 66).map (fun i => (i.zero, i.size, i.bytes)) = some (some (.slice none 0 0), 1, 24) := by kernel_rfl
theorem Try.info2 : (Try.prog.info? 2).map (fun i => (i.zero, i.size, i.bytes)) = some (some (.int .i64 0), 1, 8) := by kernel_rfl

theorem str_any (s : ByteArray) (w : World) : Calls Try.prog 58 #[.string s] w fun e w' => e = .returned (.agg #[.int .i64 2, .int .i64 0, .string s]) ∧ Below w.heap.size w w' := by
  go_enter Try.func58, Try.ntmps58
  go_wp2
  exact bodyPost_ret (v := .agg #[.int .i64 2, .int .i64 0, .string s]) (by simp [results, Try.results58, go_sem]) rfl ⟨rfl, (Below.refl _ _).alloc (Nat.le_refl _) _⟩
theorem num_any (n : Int) (w : World) : Calls Try.prog 59 #[.int .i64 n] w fun e w' => e = .returned (.agg #[.int .i64 1, .int .i64 n, .string ⟨#[]⟩]) ∧ Below w.heap.size w w' := by
  go_enter Try.func59, Try.ntmps59
  go_wp2
  exact bodyPost_ret (v := .agg #[.int .i64 1, .int .i64 n, .string ⟨#[]⟩]) (by simp [results, Try.results59, go_sem]) rfl ⟨rfl, (Below.refl _ _).alloc (Nat.le_refl _) _⟩

end Go.Proofs.Ytpalbdjcfhlniaa
