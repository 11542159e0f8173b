/- The given statement's frame for lock: a slice of deeds opened; every argument reads behind the call as before. -/
import Derived.Test.YtpalbdjcfhlniaaLockH
import Derived.ProofKit
import Derived.OpenShut
import Derived.ShutString
import Derived.ChangeOld
import Derived.ChangeSame
import Derived.Deep.Slices
import Derived.Deep.Fields
namespace Go.Proofs.Ytpalbdjcfhlniaa
open Go.ChangeShapes Go.WideShapes Go.ChangeAt Go.RowKit Go.Deep

section
variable {H : Type} {enc : TypeId × Value → H} {P : Program} {w : World} {base : Nat} {spare : Nat → Bool} {held : Bool}
theorem open_slice_fields {t e : TypeId} {fs : Array Field} {fuel : Nat} {cs : List Value} {x : DataW H × List MemPlace} (ht : P.underlying t = some (.slice e)) (he : P.underlying e = some (.struct fs))
    (hone : oneCellFields P fs = true) (hC : P.cellsOf e = fs.size) (h : DataW.trod enc P w base spare held fuel t cs = some x) :
    (cs = [.slice none 0 0] ∧ x = (.nil, [])) ∨
    ∃ (a : Addr) (len cap m : Nat) (D : Nat → DataW H) (Pl : Nat → List MemPlace), cs = [.slice (some a) len cap] ∧ base ≤ a.block ∧ len ≤ cap ∧ cap ≤ maxLen ∧ m = (if spare a.block then cap else len) ∧
      x = (.slice ((List.range len).map D) ((List.range (m - len)).map fun j => D (len + j)), MemPlace.row a (m * fs.size) ++ (List.range m).flatMap Pl) ∧
      ∀ i, i < m → ∃ (ys : List (DataW H × List MemPlace)) (n : Nat), D i = .agg (ys.map (·.1)) ∧ Pl i = ys.flatMap (·.2) ∧ ys.length = fs.size ∧
        ∀ (j : Nat) (f : Field), fs[j]? = some f → ∃ (v : Value) (y : DataW H × List MemPlace), w.cell? (a.add (i * fs.size + j)) = some v ∧ ys[j]? = some y ∧ DataW.trod enc P w base spare held n f.type [v] = some y := by
  rcases open_slice ht h with h0 | ⟨a, len, cap, m, n, D, Pl, hcs, hb, hl, hm, hmm, hx, hi⟩
  · exact .inl h0
  · refine .inr ⟨a, len, cap, m, D, Pl, hcs, hb, hl, hm, hmm, by rw [hC] at hx; exact hx, fun i him => ?_⟩
    obtain ⟨cs', hc, ht'⟩ := hi i him
    rw [hC] at hc
    obtain ⟨ys, n', hn', hy, hlen, hyl, hf⟩ := DataW.trod_struct he ht'
    obtain ⟨_, hcl, hat⟩ := World.cells?_some hc
    simp only [Prod.mk.injEq] at hy
    refine ⟨ys, n', hy.1, hy.2, hyl, fun j f hj => ?_⟩
    obtain ⟨ho, hk⟩ := hone_of hone j f hj
    have hjl : j < fs.size := (Array.getElem?_eq_some_iff.1 hj).1
    have hcell := hat j hjl
    have hv : cs'[j]? = some (cs'[j]'(by omega)) := List.getElem?_eq_getElem (by omega)
    have h1 := hf j f hj
    rw [ho, hk] at h1
    have hone' : (cs'.drop j).take 1 = [cs'[j]'(by omega)] := by
      rw [List.drop_eq_getElem_cons (by omega)]
      rfl
    rw [hone'] at h1
    have hys : ys[j]? = some (ys[j]'(by omega)) := List.getElem?_eq_getElem (by omega)
    refine ⟨_, _, ?_, hys, h1.trans hys⟩
    rw [← Go.Deep.add_add, hcell, hv]
end

theorem Try.own : ownKnob Try.prog.godebug = none := by kernel_rfl
theorem Try.laidOut : laidOutB Try.prog = true := by kernel_rfl
theorem Try.cells32 : Try.prog.cellsOf 32 = 3 := by kernel_rfl

theorem deed_fields : ∃ f0 f1 f2 : Field, Try.prog.underlying 32 = some (.struct #[f0, f1, f2]) ∧ f0.type = 4 ∧ f1.type = 3 ∧ f2.type = 3 ∧ oneCellFields Try.prog #[f0, f1, f2] = true :=
  ⟨_, _, _, Try.underlying32, rfl, rfl, rfl, by kernel_rfl⟩

set_option maxRecDepth 100000 in
/-- A slice of deeds that came in. -/
theorem open_deeds {H : Type} {enc : TypeId × Value → H} {w : World} {base : Nat} {spare : Nat → Bool} {held : Bool} {v : Value} {d : DataW H} {ps : List MemPlace} {r : Reach} {b0 : Nat}
    (hv : Value.okWide Try.prog w r b0 22 v) (h : DataW.Trod enc Try.prog w base spare held 22 v d ps) :
    ∃ (A : Option Addr) (len cap : Nat) (D : Nat → Bool × Int × Int), v = .slice A len cap ∧ len ≤ maxLen ∧ DeedsAt w A len D := by
  obtain ⟨A, len, cap, rfl⟩ := okWide_slice Try.underlying22 hv
  obtain ⟨fuel, hf⟩ := h
  obtain ⟨f0, f1, f2, hu, t0, t1, t2, hone⟩ := deed_fields
  rcases open_slice_fields Try.underlying22 hu hone Try.cells32 hf with ⟨hcs, _⟩ | ⟨a, l, c, m, D0, Pl, hcs, _, hl, hm, hmm, _, hi⟩
  · simp [Value.cells] at hcs
    obtain ⟨rfl, rfl, rfl⟩ := hcs
    exact ⟨none, 0, 0, fun _ => (false, 0, 0), rfl, Nat.zero_le _, fun k hk => by omega⟩
  · simp [Value.cells] at hcs
    obtain ⟨rfl, rfl, rfl⟩ := hcs
    have hlm : len ≤ m := by rw [hmm]; split <;> omega
    have hex : ∀ k, ∃ d : Bool × Int × Int, k < len → ∃ qb qo, a.add (k * 3) = ⟨qb, qo, none⟩ ∧ qb < w.heap.size ∧ w.cell? ⟨qb, qo, none⟩ = some (.bool d.1) ∧ w.cell? ⟨qb, qo + 1, none⟩ = some (.int .i64 d.2.1) ∧ w.cell? ⟨qb, qo + 2, none⟩ = some (.int .i64 d.2.2) := by
      intro k
      by_cases hk : k < len
      · obtain ⟨ys, n, _, _, _, hfl⟩ := hi k (by omega)
        obtain ⟨u0, y0, c0, _, e0⟩ := hfl 0 f0 rfl
        obtain ⟨u1, y1, c1, _, e1⟩ := hfl 1 f1 rfl
        obtain ⟨u2, y2, c2, _, e2⟩ := hfl 2 f2 rfl
        rw [t0] at e0; rw [t1] at e1; rw [t2] at e2
        obtain ⟨x0, hx0, _⟩ := DataW.trod_bool Try.underlying4 e0
        obtain ⟨x1, hx1, _⟩ := DataW.trod_int Try.underlying3 e1
        obtain ⟨x2, hx2, _⟩ := DataW.trod_int Try.underlying3 e2
        injection hx0 with hx0; injection hx1 with hx1; injection hx2 with hx2
        subst hx0; subst hx1; subst hx2
        simp only [show (#[f0, f1, f2] : Array Field).size = 3 from rfl, Nat.add_zero] at c0 c1 c2
        obtain ⟨⟨qb, qo, qs⟩, hq⟩ : ∃ q, a.add (k * 3) = q := ⟨_, rfl⟩
        rw [hq] at c0
        have hs : qs = none := World.cell?_spot c0
        subst hs
        rw [← Go.Deep.add_add, hq] at c1 c2
        exact ⟨(x0, x1, x2), fun _ => ⟨qb, qo, hq, World.block_lt_of_cell? w _ c0, c0, by simpa [Addr.add] using c1, by simpa [Addr.add] using c2⟩⟩
      · exact ⟨(false, 0, 0), fun h => absurd h hk⟩
    obtain ⟨D, hD⟩ := Classical.axiomOfChoice hex
    refine ⟨some a, len, cap, D, rfl, Nat.le_trans hl hm, fun k hk => ?_⟩
    obtain ⟨qb, qo, h1⟩ := hD k hk
    exact ⟨a, qb, qo, rfl, h1⟩

end Go.Proofs.Ytpalbdjcfhlniaa
