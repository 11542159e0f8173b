/- The walk over lay: a value's bytes. -/
import Derived.Test.YtpalbdjcfhlniaaStatJ
import Derived.Deep.RegionHeld3
namespace Go.Proofs.Ytpalbdjcfhlniaa
open Go.RowKit

/-- A number's bits. -/
def u64 (z : Int) : Nat := (z % 18446744073709551616).toNat
theorem u64_lt (z : Int) : u64 z < 18446744073709551616 := by unfold u64; omega
theorem u64_cast (z : Int) : ((u64 z : Nat) : Int) = z % 18446744073709551616 := by unfold u64; omega
theorem u64_wrap (z : Int) : IntKind.u64.wrap z = ((u64 z : Nat) : Int) := by rw [u64_cast, IntKind.wrap_u64]

theorem u64_nat (n : Nat) (h : n < 18446744073709551616) : IntKind.u64.wrap ((n : Nat) : Int) = (n : Int) := by rw [IntKind.wrap_u64]; omega

/-- The text that is laid of a value. -/
def layS (coll : Int) (v : Vl) : ByteArray := if v.kind = 2 ∧ coll = 1 then foldS v.s else v.s
/-- A value's bytes, which are the same of values that are the same by a collation. -/
def layF (coll : Int) (v : Vl) : List UInt8 := leTo (u64 v.kind) 8 ++ leTo (u64 v.n) 8 ++ leTo (layS coll v).size 8 ++ (layS coll v).data.toList

theorem goK {a w : World} (h : Below a.heap.size a w) (row : Option Nat) : a.grownBy w row := ⟨h.os, h.tape, h.output, h.size, fun i hi _ => h.block i hi⟩
theorem World.grownBy_set (w : World) (g i : Nat) (u : Value) : w.grownBy (w.setCell ⟨g, i, none⟩ u) (some g) :=
  ⟨rfl, rfl, rfl, by simp [World.setCell], fun k _ hne => Below.heap_setCell w ⟨g, i, none⟩ u k (fun e => hne (by rw [e]))⟩
theorem Moved.set {w w1 : World} {v v1 : Value} (h : Moved w v w1 v1) (g i : Nat) (u : Value) (hg : w.heap.size ≤ g) : Moved w v (w1.setCell ⟨g, i, none⟩ u) v1 := by
  refine ⟨⟨h.grown.os, h.grown.tape, h.grown.output, by simpa [World.setCell] using h.grown.size, fun k hk hne => ?_⟩, h.place⟩
  exact (Below.heap_setCell w1 ⟨g, i, none⟩ u k (by simp only; omega)).trans (h.grown.block k hk hne)

theorem number_eq {B : Nat} {v : Value} {l : List UInt8} {n : Nat} {z : Int} {w : World} (hz : z = (n : Int)) (h : w.ownsRow B 5 1 v l.length (byteCells l)) (hB : B ≤ w.heap.size) (hl : l.length ≤ 100000000) (hn : n < 18446744073709551616) :
    Calls Try.prog 70 #[v, .int .u64 z] w (Grew w B v (l ++ leTo n 8)) := by
  subst hz; exact number_any B v l n w h hB hl hn

theorem own_moved {w w1 : World} {v v1 : Value} {a : Addr} {x : Value} (h : Moved w v w1 v1) (hc : w.cell? a = some x) (hne : v.ownBlock ≠ some a.block) : w1.cell? a = some x := h.grown.cell hc (fun e => hne e.symm)
theorem ne_moved {w w1 : World} {v v1 : Value} {X : Nat} (h : Moved w v w1 v1) (hne : v.ownBlock ≠ some X) (hX : X < w.heap.size) : v1.ownBlock ≠ some X := by
  rcases h.place with e | ⟨g, e, hg⟩
  · rw [e]; exact hne
  · rw [e]; intro e'; injection e' with e'; omega

theorem fresh_ne {w : World} {B : Nat} {v : Value} {l : List UInt8} (h : w.ownsRow B 5 1 v l.length (byteCells l)) : v.ownBlock ≠ some w.heap.size := fun e => by have := (h.lt _ e).2; omega

theorem Moved.last {w w1 w2 : World} {v v1 : Value} (h : Moved w v w1 v1) (k : w1.grownBy w2 v1.ownBlock) : w.grownBy w2 v.ownBlock := by
  have hs := h.grown.size
  refine ⟨k.os.trans h.grown.os, k.tape.trans h.grown.tape, k.output.trans h.grown.output, Nat.le_trans hs k.size, fun i hi hne => ?_⟩
  refine (k.block i (by omega) ?_).trans (h.grown.block i hi hne)
  rcases h.place with e | ⟨g, e, hg⟩
  · rw [e]; exact hne
  · rw [e]; intro e'; injection e' with e'; omega

/-- What is appended is owned anew; nothing else has turned. -/
def Laid (w : World) (B : Nat) (v : Value) (l : List UInt8) (e : Ending) (w' : World) : Prop := ∃ v', e = .returned v' ∧ w'.ownsRow B 5 1 v' l.length (byteCells l) ∧ w.grownBy w' v.ownBlock

theorem Laid.of {w w1 w2 : World} {B : Nat} {v v1 v2 : Value} {l : List UInt8} {coll kind n : Int} {s S : ByteArray} (hS : layS coll ⟨kind, n, s⟩ = S) (h : Moved w v w1 v1) (k : w1.grownBy w2 v1.ownBlock)
    (ho : w2.ownsRow B 5 1 v2 (l.length + ((leTo (u64 kind) 8).length + ((leTo (u64 n) 8).length + (leTo S.size 8).length)) + S.size) (byteCells (l ++ (leTo (u64 kind) 8 ++ (leTo (u64 n) 8 ++ leTo S.size 8))) ++ Lib.strCells S)) :
    Laid w B v (l ++ layF coll ⟨kind, n, s⟩) (.returned v2) w2 := by
  subst hS
  refine ⟨v2, rfl, ?_, h.last k⟩
  have e : l ++ layF coll ⟨kind, n, s⟩ = (l ++ (leTo (u64 kind) 8 ++ (leTo (u64 n) 8 ++ leTo (layS coll ⟨kind, n, s⟩).size 8))) ++ (layS coll ⟨kind, n, s⟩).data.toList := by simp [layF, List.append_assoc]
  have hl : (layS coll ⟨kind, n, s⟩).data.toList.length = (layS coll ⟨kind, n, s⟩).size := Array.length_toList
  rw [e, byteCells_append, List.length_append, hl, List.length_append, List.length_append, List.length_append]
  exact ho

set_option maxHeartbeats 4000000 in
set_option maxRecDepth 100000 in
theorem lay_any (B : Nat) (v0 : Value) (l : List UInt8) (kind n coll : Int) (s : ByteArray) (w : World) (h : w.ownsRow B 5 1 v0 l.length (byteCells l)) (hB : B ≤ w.heap.size) (hl : l.length ≤ 10000000) (hs : s.size ≤ 1000000) :
    Calls Try.prog 65 #[v0, .agg #[.int .i64 kind, .int .i64 n, .string s], .int .i64 coll] w (Laid w B v0 (l ++ layF coll ⟨kind, n, s⟩)) := by
  obtain ⟨i0, hi, hz0, hz1, hz2⟩ := info_parts Try.info5
  have H := Lib.hid h
  have HNE := Lib.hid (fresh_ne h)
  clear h
  have hm0 : ∀ O, Moved w v0 (w.alloc O) v0 := fun O => (Moved.refl w v0).alloc O
  have HM0 := Lib.hid hm0
  have U2 : Hid ((2 : Int) = ((u64 2 : Nat) : Int)) := by show _ = _; decide
  clear hm0
  have hlA : l.length ≤ 100000000 := by omega
  have hlB : ∀ a, (l ++ leTo a 8).length ≤ 100000000 := fun a => by rw [List.length_append, leTo_length]; omega
  have hlC : ∀ a b, ((l ++ leTo a 8) ++ leTo b 8).length ≤ 100000000 := fun a b => by rw [List.length_append, List.length_append, leTo_length, leTo_length]; omega
  by_cases hk : kind = 2
  · subst hk
    by_cases hc : coll = 1
    · subst hc
      have HE := Lib.hid (show layS 1 ⟨2, n, s⟩ = foldS s from if_pos ⟨rfl, rfl⟩)
      have hfs := foldS_size s
      have hS : (foldS s).size ≤ 1000000 := by rw [hfs]; exact hs
      clear hfs
      have hlt : (foldS s).size < 18446744073709551616 := by omega
      have c0 := World.cell?_alloc_new w #[.int .i64 2, .int .i64 n, .string s] 78 0
      have c1 := World.cell?_alloc_new w #[.int .i64 2, .int .i64 n, .string s] 78 1
      have C0 := Lib.hid c0
      have C1 := Lib.hid c1
      clear c0 c1
      go_enter Try.func65, Try.ntmps65
      go_wp2_with (first
        | (go_at_call 44; (with_reducible refine (fold_any s _ (by unfold maxLen; omega)).mono ?_); rintro e wf ⟨rfl, hbf⟩; have kx := (hbf.cell (p := ⟨w.heap.size, 2, none⟩) (by simp)).trans (World.cell?_alloc_new w _ 78 2); have fx := (hbf.frozen (p := ⟨w.heap.size, 2, none⟩) (by simp))))
      have o1 := ((H.out.alloc (.cells #[.int .i64 2, .int .i64 n, .string s] 78)).kept ((goK hbf none)) (by cases hv : v0.ownBlock <;> simp)).kept (World.grownBy_set wf w.heap.size 2 (.string (foldS s))) (.inr HNE.out)
      have m1 := ((HM0.out (.cells #[.int .i64 2, .int .i64 n, .string s] 78)).below hbf).set w.heap.size 2 (.string (foldS s)) (Nat.le_refl _)
      have c0 : (wf.setCell ⟨w.heap.size, 2, none⟩ (.string (foldS s))).cell? ⟨w.heap.size, 0, none⟩ = some (.int .i64 2) := (World.cell?_setCell_other _ _ _ _ (by simp)).trans ((hbf.cell (p := ⟨w.heap.size, 0, none⟩) (by simp)).trans C0.out)
      have c1 : (wf.setCell ⟨w.heap.size, 2, none⟩ (.string (foldS s))).cell? ⟨w.heap.size, 1, none⟩ = some (.int .i64 n) := (World.cell?_setCell_other _ _ _ _ (by simp)).trans ((hbf.cell (p := ⟨w.heap.size, 1, none⟩) (by simp)).trans C1.out)
      have c2 : (wf.setCell ⟨w.heap.size, 2, none⟩ (.string (foldS s))).cell? ⟨w.heap.size, 2, none⟩ = some (.string (foldS s)) := World.cell?_setCell_same _ _ _ kx
      have hz : w.heap.size + 1 ≤ (wf.setCell ⟨w.heap.size, 2, none⟩ (.string (foldS s))).heap.size := by have := hbf.size; simpa using this
      have HO := Lib.hid o1
      have HM := Lib.hid m1
      clear o1 m1 kx fx hbf
      generalize wf.setCell ⟨w.heap.size, 2, none⟩ (.string (foldS s)) = w1 at c0 c1 c2 HO HM hz
      obtain ⟨X, hXe⟩ : ∃ X, w.heap.size = X := ⟨_, rfl⟩
      have hne : v0.ownBlock ≠ some X := by rw [← hXe]; exact HNE.out
      rw [hXe] at c0 c1 c2 hz ⊢
      have hBs : B ≤ w1.heap.size := by omega
      have hX : X < w1.heap.size := by omega
      have hBd : B ≤ w1.drew.heap.size := hBs
      clear hz hXe
      go_region_held3 (fun w' => w'.cell? ⟨X, 0, none⟩ = some (.int .i64 2) ∧ w'.cell? ⟨X, 1, none⟩ = some (.int .i64 n) ∧ w'.cell? ⟨X, 2, none⟩ = some (.string (foldS s))) (go_keep)
        (first
          | (go_at_call 70; (with_reducible refine (number_eq (n := u64 2) (l := l) (u64_wrap _) HO.out.drew hBd hlA (u64_lt _)).mono ?_); rintro e wa ⟨va, rfl, oa, ma⟩; have a0 := own_moved ma c0 hne; have a1 := own_moved ma c1 hne; have a2 := own_moved ma c2 hne; have na := ne_moved ma hne hX; have hXa : X < wa.heap.size := Nat.lt_of_lt_of_le hX ma.grown.size)
          | (go_at_call 70; (with_reducible refine (number_eq (n := u64 2) (l := l) (u64_cast _).symm HO.out.drew hBd hlA (u64_lt _)).mono ?_); rintro e wa ⟨va, rfl, oa, ma⟩; have a0 := own_moved ma c0 hne; have a1 := own_moved ma c1 hne; have a2 := own_moved ma c2 hne; have na := ne_moved ma hne hX; have hXa : X < wa.heap.size := Nat.lt_of_lt_of_le hX ma.grown.size)
          | (go_at_call 70; (with_reducible refine (number_eq (n := u64 2) (l := l) U2.out HO.out.drew hBd hlA (u64_lt _)).mono ?_); rintro e wa ⟨va, rfl, oa, ma⟩; have a0 := own_moved ma c0 hne; have a1 := own_moved ma c1 hne; have a2 := own_moved ma c2 hne; have na := ne_moved ma hne hX; have hXa : X < wa.heap.size := Nat.lt_of_lt_of_le hX ma.grown.size)
          | (go_at_call 70; (with_reducible refine (number_eq (n := u64 n) (u64_wrap _) oa (Nat.le_trans hBd ma.grown.size) (hlB _) (u64_lt _)).mono ?_); rintro e wb ⟨vb, rfl, ob, mb⟩; have b0 := own_moved mb a0 na; have b1 := own_moved mb a1 na; have b2 := own_moved mb a2 na; have nb := ne_moved mb na hXa; have hXb : X < wb.heap.size := Nat.lt_of_lt_of_le hXa mb.grown.size)
          | (go_at_call 70; (with_reducible refine (number_eq (n := u64 n) (u64_cast _).symm oa (Nat.le_trans hBd ma.grown.size) (hlB _) (u64_lt _)).mono ?_); rintro e wb ⟨vb, rfl, ob, mb⟩; have b0 := own_moved mb a0 na; have b1 := own_moved mb a1 na; have b2 := own_moved mb a2 na; have nb := ne_moved mb na hXa; have hXb : X < wb.heap.size := Nat.lt_of_lt_of_le hXa mb.grown.size)
          | (go_at_call 70; (with_reducible refine (number_eq (n := (foldS s).size) (u64_nat _ hlt) ob (Nat.le_trans (Nat.le_trans hBd ma.grown.size) mb.grown.size) (hlC _ _) hlt).mono ?_); rintro e wc ⟨vc, rfl, oc, mc⟩; have d0 := own_moved mc b0 nb; have d1 := own_moved mc b1 nb; have d2 := own_moved mc b2 nb))
      have hBc : B ≤ wc.heap.size := Nat.le_trans (Nat.le_trans (Nat.le_trans hBd ma.grown.size) mb.grown.size) mc.grown.size
      clear a0 a1 a2 b0 b1 b2 c0 c1 c2 d0 d1
      go_wp2_with (first
        | (at_builtin; refine Lib.wpList_append_own_string _ rfl (.tmp 32) (.tmp 34) 113 9 rfl B 5 i0 Try.underlying113 Try.underlying9 hi hz0 hz1 hz2 _ _ _ rfl oc (foldS s) rfl ?a1 ?a2 hBc ?_))
      case a1 => simp only [List.length_append, leTo_length]; unfold maxLen; omega
      case a2 => simp only [List.length_append, leTo_length]; omega
      intro v' w' hown' hgrow _
      have HW := Lib.hid hown'
      clear hown'
      go_wp2_with fail
      go_ret
      exact Laid.of HE.out (((HM.out.drew).trans ma).trans (mb.trans mc)) hgrow HW.out
    · have HE := Lib.hid (show layS coll ⟨2, n, s⟩ = s from if_neg (fun h => hc h.2))
      have hcB : (coll == 1) = false := by simp only [beq_eq_false_iff_ne]; exact hc
      clear hc
      have hlt : s.size < 18446744073709551616 := by omega
      go_enter Try.func65, Try.ntmps65
      go_wp2_with fail
      have c0 : (w.alloc (.cells #[.int .i64 2, .int .i64 n, .string s] 78)).cell? ⟨w.heap.size, 0, none⟩ = some (.int .i64 2) := World.cell?_alloc_new w _ 78 0
      have c1 : (w.alloc (.cells #[.int .i64 2, .int .i64 n, .string s] 78)).cell? ⟨w.heap.size, 1, none⟩ = some (.int .i64 n) := World.cell?_alloc_new w _ 78 1
      have c2 : (w.alloc (.cells #[.int .i64 2, .int .i64 n, .string s] 78)).cell? ⟨w.heap.size, 2, none⟩ = some (.string s) := World.cell?_alloc_new w _ 78 2
      have HO := Lib.hid (H.out.alloc (.cells #[.int .i64 2, .int .i64 n, .string s] 78))
      have HM := Lib.hid (HM0.out (.cells #[.int .i64 2, .int .i64 n, .string s] 78))
      have hz : (w.alloc (.cells #[.int .i64 2, .int .i64 n, .string s] 78)).heap.size = w.heap.size + 1 := by simp
      generalize w.alloc (.cells #[.int .i64 2, .int .i64 n, .string s] 78) = w1 at c0 c1 c2 HO HM hz
      obtain ⟨X, hXe⟩ : ∃ X, w.heap.size = X := ⟨_, rfl⟩
      have hne : v0.ownBlock ≠ some X := by rw [← hXe]; exact HNE.out
      rw [hXe] at c0 c1 c2 hz ⊢
      have hBs : B ≤ w1.heap.size := by omega
      have hX : X < w1.heap.size := by omega
      have hBd : B ≤ w1.drew.heap.size := hBs
      clear hz hXe
      go_region_held3 (fun w' => w'.cell? ⟨X, 0, none⟩ = some (.int .i64 2) ∧ w'.cell? ⟨X, 1, none⟩ = some (.int .i64 n) ∧ w'.cell? ⟨X, 2, none⟩ = some (.string s)) (go_keep)
        (first
          | (go_at_call 70; (with_reducible refine (number_eq (n := u64 2) (l := l) (u64_wrap _) HO.out.drew hBd hlA (u64_lt _)).mono ?_); rintro e wa ⟨va, rfl, oa, ma⟩; have a0 := own_moved ma c0 hne; have a1 := own_moved ma c1 hne; have a2 := own_moved ma c2 hne; have na := ne_moved ma hne hX; have hXa : X < wa.heap.size := Nat.lt_of_lt_of_le hX ma.grown.size)
          | (go_at_call 70; (with_reducible refine (number_eq (n := u64 2) (l := l) (u64_cast _).symm HO.out.drew hBd hlA (u64_lt _)).mono ?_); rintro e wa ⟨va, rfl, oa, ma⟩; have a0 := own_moved ma c0 hne; have a1 := own_moved ma c1 hne; have a2 := own_moved ma c2 hne; have na := ne_moved ma hne hX; have hXa : X < wa.heap.size := Nat.lt_of_lt_of_le hX ma.grown.size)
          | (go_at_call 70; (with_reducible refine (number_eq (n := u64 2) (l := l) U2.out HO.out.drew hBd hlA (u64_lt _)).mono ?_); rintro e wa ⟨va, rfl, oa, ma⟩; have a0 := own_moved ma c0 hne; have a1 := own_moved ma c1 hne; have a2 := own_moved ma c2 hne; have na := ne_moved ma hne hX; have hXa : X < wa.heap.size := Nat.lt_of_lt_of_le hX ma.grown.size)
          | (go_at_call 70; (with_reducible refine (number_eq (n := u64 n) (u64_wrap _) oa (Nat.le_trans hBd ma.grown.size) (hlB _) (u64_lt _)).mono ?_); rintro e wb ⟨vb, rfl, ob, mb⟩; have b0 := own_moved mb a0 na; have b1 := own_moved mb a1 na; have b2 := own_moved mb a2 na; have nb := ne_moved mb na hXa; have hXb : X < wb.heap.size := Nat.lt_of_lt_of_le hXa mb.grown.size)
          | (go_at_call 70; (with_reducible refine (number_eq (n := u64 n) (u64_cast _).symm oa (Nat.le_trans hBd ma.grown.size) (hlB _) (u64_lt _)).mono ?_); rintro e wb ⟨vb, rfl, ob, mb⟩; have b0 := own_moved mb a0 na; have b1 := own_moved mb a1 na; have b2 := own_moved mb a2 na; have nb := ne_moved mb na hXa; have hXb : X < wb.heap.size := Nat.lt_of_lt_of_le hXa mb.grown.size)
          | (go_at_call 70; (with_reducible refine (number_eq (n := s.size) (u64_nat _ hlt) ob (Nat.le_trans (Nat.le_trans hBd ma.grown.size) mb.grown.size) (hlC _ _) hlt).mono ?_); rintro e wc ⟨vc, rfl, oc, mc⟩; have d0 := own_moved mc b0 nb; have d1 := own_moved mc b1 nb; have d2 := own_moved mc b2 nb))
      have hBc : B ≤ wc.heap.size := Nat.le_trans (Nat.le_trans (Nat.le_trans hBd ma.grown.size) mb.grown.size) mc.grown.size
      clear a0 a1 a2 b0 b1 b2 c0 c1 c2 d0 d1
      go_wp2_with (first
        | (at_builtin; refine Lib.wpList_append_own_string _ rfl (.tmp 32) (.tmp 34) 113 9 rfl B 5 i0 Try.underlying113 Try.underlying9 hi hz0 hz1 hz2 _ _ _ rfl oc (s) rfl ?b1 ?b2 hBc ?_))
      case b1 => simp only [List.length_append, leTo_length]; unfold maxLen; omega
      case b2 => simp only [List.length_append, leTo_length]; omega
      intro v' w' hown' hgrow _
      have HW := Lib.hid hown'
      clear hown'
      go_wp2_with fail
      go_ret
      exact Laid.of HE.out (((HM.out.drew).trans ma).trans (mb.trans mc)) hgrow HW.out
  · have HE := Lib.hid (show layS coll ⟨kind, n, s⟩ = s from if_neg (fun h => hk h.1))
    have hkB : (kind == 2) = false := by simp only [beq_eq_false_iff_ne]; exact hk
    clear hk
    have hlt : s.size < 18446744073709551616 := by omega
    go_enter Try.func65, Try.ntmps65
    go_wp2_with fail
    have c0 : (w.alloc (.cells #[.int .i64 kind, .int .i64 n, .string s] 78)).cell? ⟨w.heap.size, 0, none⟩ = some (.int .i64 kind) := World.cell?_alloc_new w _ 78 0
    have c1 : (w.alloc (.cells #[.int .i64 kind, .int .i64 n, .string s] 78)).cell? ⟨w.heap.size, 1, none⟩ = some (.int .i64 n) := World.cell?_alloc_new w _ 78 1
    have c2 : (w.alloc (.cells #[.int .i64 kind, .int .i64 n, .string s] 78)).cell? ⟨w.heap.size, 2, none⟩ = some (.string s) := World.cell?_alloc_new w _ 78 2
    have HO := Lib.hid (H.out.alloc (.cells #[.int .i64 kind, .int .i64 n, .string s] 78))
    have HM := Lib.hid (HM0.out (.cells #[.int .i64 kind, .int .i64 n, .string s] 78))
    have hz : (w.alloc (.cells #[.int .i64 kind, .int .i64 n, .string s] 78)).heap.size = w.heap.size + 1 := by simp
    generalize w.alloc (.cells #[.int .i64 kind, .int .i64 n, .string s] 78) = w1 at c0 c1 c2 HO HM hz
    obtain ⟨X, hXe⟩ : ∃ X, w.heap.size = X := ⟨_, rfl⟩
    have hne : v0.ownBlock ≠ some X := by rw [← hXe]; exact HNE.out
    rw [hXe] at c0 c1 c2 hz ⊢
    have hBs : B ≤ w1.heap.size := by omega
    have hX : X < w1.heap.size := by omega
    have hBd : B ≤ w1.drew.heap.size := hBs
    clear hz hXe
    go_region_held3 (fun w' => w'.cell? ⟨X, 0, none⟩ = some (.int .i64 kind) ∧ w'.cell? ⟨X, 1, none⟩ = some (.int .i64 n) ∧ w'.cell? ⟨X, 2, none⟩ = some (.string s)) (go_keep)
      (first
        | (go_at_call 70; (with_reducible refine (number_eq (n := u64 kind) (l := l) (u64_wrap _) HO.out.drew hBd hlA (u64_lt _)).mono ?_); rintro e wa ⟨va, rfl, oa, ma⟩; have a0 := own_moved ma c0 hne; have a1 := own_moved ma c1 hne; have a2 := own_moved ma c2 hne; have na := ne_moved ma hne hX; have hXa : X < wa.heap.size := Nat.lt_of_lt_of_le hX ma.grown.size)
        | (go_at_call 70; (with_reducible refine (number_eq (n := u64 kind) (l := l) (u64_cast _).symm HO.out.drew hBd hlA (u64_lt _)).mono ?_); rintro e wa ⟨va, rfl, oa, ma⟩; have a0 := own_moved ma c0 hne; have a1 := own_moved ma c1 hne; have a2 := own_moved ma c2 hne; have na := ne_moved ma hne hX; have hXa : X < wa.heap.size := Nat.lt_of_lt_of_le hX ma.grown.size)
        | (go_at_call 70; (with_reducible refine (number_eq (n := u64 n) (u64_wrap _) oa (Nat.le_trans hBd ma.grown.size) (hlB _) (u64_lt _)).mono ?_); rintro e wb ⟨vb, rfl, ob, mb⟩; have b0 := own_moved mb a0 na; have b1 := own_moved mb a1 na; have b2 := own_moved mb a2 na; have nb := ne_moved mb na hXa; have hXb : X < wb.heap.size := Nat.lt_of_lt_of_le hXa mb.grown.size)
        | (go_at_call 70; (with_reducible refine (number_eq (n := u64 n) (u64_cast _).symm oa (Nat.le_trans hBd ma.grown.size) (hlB _) (u64_lt _)).mono ?_); rintro e wb ⟨vb, rfl, ob, mb⟩; have b0 := own_moved mb a0 na; have b1 := own_moved mb a1 na; have b2 := own_moved mb a2 na; have nb := ne_moved mb na hXa; have hXb : X < wb.heap.size := Nat.lt_of_lt_of_le hXa mb.grown.size)
        | (go_at_call 70; (with_reducible refine (number_eq (n := s.size) (u64_nat _ hlt) ob (Nat.le_trans (Nat.le_trans hBd ma.grown.size) mb.grown.size) (hlC _ _) hlt).mono ?_); rintro e wc ⟨vc, rfl, oc, mc⟩; have d0 := own_moved mc b0 nb; have d1 := own_moved mc b1 nb; have d2 := own_moved mc b2 nb))
    have hBc : B ≤ wc.heap.size := Nat.le_trans (Nat.le_trans (Nat.le_trans hBd ma.grown.size) mb.grown.size) mc.grown.size
    clear a0 a1 a2 b0 b1 b2 c0 c1 c2 d0 d1
    go_wp2_with (first
      | (at_builtin; refine Lib.wpList_append_own_string _ rfl (.tmp 32) (.tmp 34) 113 9 rfl B 5 i0 Try.underlying113 Try.underlying9 hi hz0 hz1 hz2 _ _ _ rfl oc (s) rfl ?c1 ?c2 hBc ?_))
    case c1 => simp only [List.length_append, leTo_length]; unfold maxLen; omega
    case c2 => simp only [List.length_append, leTo_length]; omega
    intro v' w' hown' hgrow _
    have HW := Lib.hid hown'
    clear hown'
    go_wp2_with fail
    go_ret
    exact Laid.of HE.out (((HM.out.drew).trans ma).trans (mb.trans mc)) hgrow HW.out

end Go.Proofs.Ytpalbdjcfhlniaa
