/- The walk over the document's Keys. -/
import Derived.Test.YtpalbdjcfhlniaaStatKf
namespace Go.Proofs.Ytpalbdjcfhlniaa
open Go.RowKit

def keysTo (ics : List Ic) (k : Nat) : List Ky := (ics.take k).mapIdx fun i ic => ⟨i, ic.coll, ic.desc⟩
def keysF (ics : List Ic) : List Ky := keysTo ics ics.length ++ [⟨ics.length, 0, false⟩]
def kyCells (l : List Ky) : List Value := l.flatMap fun k => [.int .i64 k.col, .int .i64 k.coll, .bool k.desc]
theorem kyCells_snoc (l : List Ky) (k : Ky) : kyCells (l ++ [k]) = kyCells l ++ [.int .i64 k.col, .int .i64 k.coll, .bool k.desc] := by simp [kyCells]
theorem keysTo_succ {ics : List Ic} {k : Nat} {ic : Ic} (h : ics[k]? = some ic) : keysTo ics (k + 1) = keysTo ics k ++ [⟨k, ic.coll, ic.desc⟩] := by
  have hk := (List.getElem?_eq_some_iff.1 h).1
  unfold keysTo
  rw [List.take_add_one, h]
  simp [List.mapIdx_append]
  omega
theorem keysTo_length {ics : List Ic} {k : Nat} (h : k ≤ ics.length) : (keysTo ics k).length = k := by
  unfold keysTo; rw [List.length_mapIdx, List.length_take]; omega
theorem kyCells_at : ∀ (l : List Ky) (k : Nat) (x : Ky), l[k]? = some x → (kyCells l)[k * 3]? = some (.int .i64 x.col) ∧ (kyCells l)[k * 3 + 1]? = some (.int .i64 x.coll) ∧ (kyCells l)[k * 3 + 2]? = some (.bool x.desc)
  | [], k, x, h => by simp at h
  | y :: l, 0, x, h => by simp at h; subst h; exact ⟨rfl, rfl, rfl⟩
  | y :: l, k + 1, x, h => by
    obtain ⟨h0, h1, h2⟩ := kyCells_at l k x (by simpa using h)
    refine ⟨?_, ?_, ?_⟩
    · rw [show (k + 1) * 3 = k * 3 + 3 by omega]; simpa [kyCells] using h0
    · rw [show (k + 1) * 3 + 1 = k * 3 + 1 + 3 by omega]; simpa [kyCells] using h1
    · rw [show (k + 1) * 3 + 2 = k * 3 + 2 + 3 by omega]; simpa [kyCells] using h2
theorem keys_of_own {w : World} {base : Nat} {v : Value} {xs : List Ky} (h : w.ownsRow base 120 3 v xs.length (kyCells xs)) : Sl KeyE 3 w v xs :=
  seq_of_own h fun g k x hg hx => by
    obtain ⟨h0, h1, h2⟩ := kyCells_at xs k x hx
    have hc : ∀ j u, (kyCells xs)[j]? = some u → w.cell? ⟨g, j, none⟩ = some u := fun j u hu => by
      have := h.cells hg j u hu
      rwa [add_zero] at this
    exact ⟨hc _ _ h0, hc _ _ h1, hc _ _ h2⟩

theorem newsK (w : World) (k n : Int) (s : Bool) : ∀ (j : Nat) (u : Value), [Value.int .i64 k, .int .i64 n, .bool s][j]? = some u → (w.alloc (.cells #[.int .i64 k, .int .i64 n, .bool s] 120)).cell? ((⟨w.heap.size, 0, none⟩ : Addr).add j) = some u := fun j u hj => by
  match j, hj with
  | 0, hj => simp at hj; subst hj; exact World.cell?_alloc_new w _ 120 0
  | 1, hj => simp at hj; subst hj; exact World.cell?_alloc_new w _ 120 1
  | 2, hj => simp at hj; subst hj; exact World.cell?_alloc_new w _ 120 2
theorem onesK (k n : Int) (s : Bool) : ∀ u ∈ [Value.int .i64 k, .int .i64 n, .bool s], u.oneCell' = true := fun u hu => by
  simp at hu; rcases hu with rfl | rfl | rfl <;> rfl

theorem Try.info120 : (Try.prog.info? 120).map (fun i => (i.zero, i.size, i.bytes)) = some (some (.agg #[.int .i64 0, .int .i64 0, .bool false]), 3, 24) := by kernel_rfl

set_option maxHeartbeats 4000000 in
set_option maxRecDepth 100000 in
theorem keys_any (xn xt : ByteArray) (xr : Int) (xu : Bool) (ics : List Ic) (AC : Option Addr) (cC : Nat) (w : World) (hi : SeqAt IcE 3 w AC ics) (hmi : ics.length ≤ 100) :
    Calls Try.prog 56 #[.agg #[.string xn, .string xt, .slice AC ics.length cC, .bool xu, .int .i64 xr]] w fun e w' =>
      ∃ A c, e = .returned (.slice A (ics.length + 1) c) ∧ ics.length + 1 ≤ c ∧ c ≤ maxLen ∧ SeqAt KeyE 3 w' A (keysF ics) ∧ Below w.heap.size w w' := by
  obtain ⟨i120, ji, jz0, jz1, jz2⟩ := info_parts Try.info120
  have HI := Lib.hid hi
  clear hi
  go_enter Try.func56, Try.ntmps56
  go_wp2_with fail
  have b0 : Below w.heap.size w (w.alloc (.cells #[.string xn, .string xt, .slice AC ics.length cC, .bool xu, .int .i64 xr] 89)) := (Below.refl _ _).alloc (Nat.le_refl _) _
  have y2 : (w.alloc (.cells #[.string xn, .string xt, .slice AC ics.length cC, .bool xu, .int .i64 xr] 89)).cell? ⟨w.heap.size, 2, none⟩ = some (.slice AC ics.length cC) := World.cell?_alloc_new w _ 89 2
  have hz1 : (w.alloc (.cells #[.string xn, .string xt, .slice AC ics.length cC, .bool xu, .int .i64 xr] 89)).heap.size = w.heap.size + 1 := by simp
  generalize w.alloc (.cells #[.string xn, .string xt, .slice AC ics.length cC, .bool xu, .int .i64 xr] 89) = W1 at b0 y2 hz1
  obtain ⟨Y, hY⟩ : ∃ Y, w.heap.size = Y := ⟨_, rfl⟩
  obtain ⟨B, hB⟩ : ∃ B, W1.heap.size = B := ⟨_, rfl⟩
  have HB0 := Lib.hid b0
  have HBE := Lib.hid hB
  have HYE := Lib.hid hY
  rw [hY] at y2 hz1
  simp only [hY]
  rw [hB] at hz1
  have hYB : Y < B := by omega
  have Y2 := Lib.hid y2
  clear b0 y2 hz1 hY hB
  go_loopw [3, 4] (fun o i wr => ∃ k : Nat, k ≤ ics.length ∧ i = .int .i64 k ∧ wr.ownsRow B 120 3 o k (kyCells (keysTo ics k)) ∧ Below B W1 wr) (fun _ i _ => ics.length - (intOf i).toNat)
  case atStart => exact ⟨0, Nat.zero_le _, rfl, World.ownsRow_nil _ _ _ _, Below.refl _ _⟩
  case round =>
    obtain ⟨k, hk, rfl, hown, hB⟩ := hrel
    have HOWN := Lib.hid hown
    have hBw : B ≤ wr.heap.size := by have := hB.size; rw [HBE.out] at this; exact this
    have HBW := Lib.hid (HB0.out.trans (hB.mono (by rw [HYE.out]; omega)))
    have y2 := (hB.cell (p := ⟨Y, 2, none⟩) hYB).trans Y2.out
    clear hown
    by_cases hlt : k < ics.length
    · obtain ⟨a, ib, io, ic, rfl, hq, hql, hsk, hE⟩ := HI.out.get k hlt
      have c1 := (HBW.out.cell (p := ⟨ib, io + 1, none⟩) hql).trans hE.coll
      have c2 := (HBW.out.cell (p := ⟨ib, io + 2, none⟩) hql).trans hE.desc
      have HKS := Lib.hid (keysTo_succ hsk)
      clear hE hsk
      obtain ⟨co, hco⟩ : ∃ v, ic.coll = v := ⟨_, rfl⟩
      obtain ⟨de, hde⟩ : ∃ v, ic.desc = v := ⟨_, rfl⟩
      rw [hco] at c1 HKS
      rw [hde] at c2 HKS
      clear hco hde
      have hl1 : k + 1 ≤ maxLen := by unfold maxLen; omega
      have hl2 : (k + 1) * 24 ≤ 140737488355328 := by omega
      have HL1 := Lib.hid hl1
      have HL2 := Lib.hid hl2
      have HOD := Lib.hid (fun O => (HOWN.out.alloc O).drew)
      have hBa : ∀ O, B ≤ (wr.alloc O).heap.size := fun O => by simp; omega
      have HBA := Lib.hid hBa
      have ya := alloc_cell y2 (show Y < wr.heap.size by omega)
      have ca1 := alloc_cell c1 (Nat.lt_of_lt_of_le hql HBW.out.size)
      have ca2 := alloc_cell c2 (Nat.lt_of_lt_of_le hql HBW.out.size)
      clear hl1 hl2 hBa
      go_wp2_with fail
      go_region_law (first
        | (refine step_append_own rfl (.tmp 12) (.tmp 27) 103 rfl B 120 i120 (.agg #[.int .i64 0, .int .i64 0, .bool false]) 3 24 Try.underlying103 ji jz0 jz1 jz2 rfl (by decide) _ k _ rfl (HOD.out _) ⟨wr.heap.size, 0, none⟩ 1 1 [.int .i64 k, .int .i64 co, .bool de] rfl rfl (newsK wr k co de) (onesK k co de) HL1.out HL2.out (HBA.out _) ?_; intro v' w' hown' hgrow'))
      all_goals
        have HP : Hid (w'.ownsRow B 120 3 v' (k + 1) (kyCells (keysTo ics (k + 1)))) := by
          show World.ownsRow _ _ _ _ _ _ _
          rw [HKS.out, kyCells_snoc]; exact hown'
        have HB3 := Lib.hid ((hB.alloc hBw (.cells #[.int .i64 k, .int .i64 co, .bool de] 120)).drew.grown hgrow' (show B ≤ _ from HBA.out _) (fun g hg => (HOWN.out.lt g hg).1))
        clear hown' hgrow' y2 c1 c2 ya ca1 ca2
        go_wp2_with fail
        go_roundw
        case rel => exact ⟨k + 1, by omega, by go_num, HP.out, HB3.out⟩
        case measure => simp [intOf] <;> omega
    · obtain rfl : k = ics.length := by omega
      have hl1 : ics.length + 1 ≤ maxLen := by unfold maxLen; omega
      have hl2 : (ics.length + 1) * 24 ≤ 140737488355328 := by omega
      have HL1 := Lib.hid hl1
      have HL2 := Lib.hid hl2
      have HLE := Lib.hid (keysTo_length (ics := ics) (Nat.le_refl ics.length))
      clear hl1 hl2
      go_wp2_with (first
        | (at_builtin; refine wpList_append_own _ rfl (.tmp 29) (.tmp 34) 103 rfl B 120 i120 (.agg #[.int .i64 0, .int .i64 0, .bool false]) 3 24 Try.underlying103 ji jz0 jz1 jz2 rfl (by decide) _ ics.length _ rfl (HOWN.out.alloc _) ⟨wr.heap.size, 0, none⟩ 1 1 [.int .i64 ics.length, .int .i64 0, .bool false] rfl rfl (newsK wr ics.length 0 false) (onesK ics.length 0 false) HL1.out HL2.out ?c5 ?_))
      case c5 => simp <;> omega
      intro v' w3 hown' hgrow _
      have hP : w3.ownsRow B 120 3 v' (keysF ics).length (kyCells (keysF ics)) := by
        unfold keysF
        rw [kyCells_snoc, List.length_append, HLE.out]; exact hown'
      have hlen : (keysF ics).length = ics.length + 1 := by unfold keysF; rw [List.length_append, HLE.out]; rfl
      have HB3 := Lib.hid (HB0.out.trans (((hB.alloc hBw _).grown hgrow (by simp; omega) (fun g hg => (HOWN.out.lt g hg).1)).mono (by rw [HYE.out]; omega)))
      have HFIN : Hid (∃ A c, v' = .slice A (ics.length + 1) c ∧ ics.length + 1 ≤ c ∧ c ≤ maxLen ∧ SeqAt KeyE 3 w3 A (keysF ics)) := by
        obtain ⟨A, c, hv, h1, h2⟩ := own_cap hP
        obtain ⟨A', c', hv', hs⟩ := keys_of_own hP
        rw [hv] at hv'
        injection hv' with e1 e2 e3
        subst e1
        rw [hlen] at hv h1
        exact ⟨A, c, hv, h1, h2, hs⟩
      clear hown' hgrow hP hlen
      go_wp2_with fail
      go_ret
      obtain ⟨A, c, rfl, h1, h2, h3⟩ := HFIN.out
      exact ⟨A, c, rfl, h1, h2, h3, HB3.out⟩

end Go.Proofs.Ytpalbdjcfhlniaa
