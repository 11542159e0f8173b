/- The walk over the document's unlike. -/
import Derived.Test.YtpalbdjcfhlniaaStatKc
namespace Go.Proofs.Ytpalbdjcfhlniaa
open Go.RowKit

def cmpVB (coll : Int) (v v' : Vl) : Bool := (v.kind == v'.kind) && ((!(v.kind == 1) || v.n == v'.n) && (!(v.kind == 2 || v.kind == 3) || (layS coll v).toList == (layS coll v').toList))
def cmpB (keys : List Ky) (a b : List Vl) : Bool := keys.all fun k => cmpVB k.coll (a.getD k.col vl0) (b.getD k.col vl0)
theorem cmpVB_iff (coll : Int) (v v' : Vl) : cmpVB coll v v' = true ↔ CmpEq coll v v' := by
  unfold cmpVB CmpEq
  rw [Bool.and_eq_true, Bool.and_eq_true, Bool.or_eq_true, Bool.or_eq_true, Bool.not_eq_true', Bool.not_eq_true', beq_iff_eq, beq_iff_eq, beq_iff_eq, beq_eq_false_iff_ne, Bool.or_eq_false_iff, beq_eq_false_iff_ne, beq_eq_false_iff_ne]
  refine and_congr Iff.rfl (and_congr ?_ ?_)
  · exact ⟨fun h e => h.elim (fun h => absurd e h) id, fun h => (Decidable.em (v.kind = 1)).elim (fun e => .inr (h e)) .inl⟩
  · refine ⟨fun h e => h.elim (fun h => e.elim (fun e => absurd e h.1) (fun e => absurd e h.2)) id, fun h => ?_⟩
    by_cases e1 : v.kind = 2
    · exact .inr (h (.inl e1))
    · by_cases e2 : v.kind = 3
      · exact .inr (h (.inr e2))
      · exact .inl ⟨e1, e2⟩
theorem cmpB_iff (keys : List Ky) (a b : List Vl) : cmpB keys a b = true ↔ CmpAll keys a b := by
  unfold cmpB CmpAll
  rw [List.all_eq_true]
  exact ⟨fun h k hk => (cmpVB_iff _ _ _).1 (h k hk), fun h k hk => (cmpVB_iff _ _ _).2 (h k hk)⟩

/-- Is row i unlike the first k? -/
def newTo (keys : List Ky) (l : List (List Vl)) (i k : Nat) : Bool := (List.range k).all fun m => !cmpB keys (l.getD i []) (l.getD m [])
/-- How many of the first m are unlike those ahead of them? -/
def unlikeTo (keys : List Ky) (l : List (List Vl)) (m : Nat) : Nat := ((List.range m).filter fun i => newTo keys l i i).length
theorem newTo_zero (keys : List Ky) (l : List (List Vl)) (i : Nat) : newTo keys l i 0 = true := rfl
theorem newTo_succ (keys : List Ky) (l : List (List Vl)) (i k : Nat) : newTo keys l i (k + 1) = (newTo keys l i k && !cmpB keys (l.getD i []) (l.getD k [])) := by
  unfold newTo; rw [List.range_succ, List.all_append]; simp
theorem unlikeTo_zero (keys : List Ky) (l : List (List Vl)) : unlikeTo keys l 0 = 0 := rfl
theorem unlikeTo_yes {keys : List Ky} {l : List (List Vl)} {m : Nat} (h : newTo keys l m m = true) : unlikeTo keys l (m + 1) = unlikeTo keys l m + 1 := by
  unfold unlikeTo; rw [List.range_succ, List.filter_append]; simp [h]
theorem unlikeTo_no {keys : List Ky} {l : List (List Vl)} {m : Nat} (h : newTo keys l m m = false) : unlikeTo keys l (m + 1) = unlikeTo keys l m := by
  unfold unlikeTo; rw [List.range_succ, List.filter_append]; simp [h]
theorem unlikeTo_le (keys : List Ky) (l : List (List Vl)) (m : Nat) : unlikeTo keys l m ≤ m := by
  unfold unlikeTo
  have := List.length_filter_le (fun i => newTo keys l i i) (List.range m)
  simpa using this

set_option maxHeartbeats 4000000 in
set_option maxRecDepth 100000 in
theorem unlike_any (l : List (List Vl)) (keys : List Ky) (A AK : Option Addr) (cA ck : Nat) (w : World) (hl : SeqAt RowE 1 w A l) (hk : SeqAt KeyE 3 w AK keys) (hm : l.length ≤ 1000) (hr : ∀ r ∈ l, r.length ≤ maxLen) (hmk : keys.length ≤ 100) (hc : ∀ k ∈ keys, k.coll = 0 ∨ k.coll = 1) :
    Calls Try.prog 55 #[.slice A l.length cA, .slice AK keys.length ck] w fun e w' => e = .returned (.int .i64 (unlikeTo keys l l.length)) ∧ Below w.heap.size w w' := by
  have HL := Lib.hid hl
  have HR := Lib.hid hr
  have HCMP := Lib.hid (fun (W : World) (h : Below w.heap.size w W) (a b : List Vl) (A1 A2 : Option Addr) (c1 c2 : Nat) (ha : SeqAt ValE 3 W A1 a) (hb : SeqAt ValE 3 W A2 b) (hma : a.length ≤ maxLen) (hmb : b.length ≤ maxLen) =>
    cmp06_any keys a b A1 A2 AK c1 c2 ck W ha hb (hk.below KeyE.stays h) hma hmb hmk hc)
  clear hl hk hr hmk hc
  obtain ⟨nk, hnk⟩ : ∃ n, keys.length = n := ⟨_, rfl⟩
  rw [hnk] at HCMP ⊢
  clear hnk
  go_enter Try.func55, Try.ntmps55
  go_wp2_with fail
  go_loopw [5, 6] (fun n i wr => ∃ j : Nat, j ≤ l.length ∧ n = .int .i64 (unlikeTo keys l j) ∧ i = .int .i64 j ∧ Below w.heap.size w wr) (fun _ i _ => l.length - (intOf i).toNat)
  case atStart => exact ⟨0, Nat.zero_le _, rfl, rfl, Below.refl _ _⟩
  case round =>
    obtain ⟨j, hj, rfl, rfl, hB⟩ := hrel
    by_cases hlt : j < l.length
    · obtain ⟨a0, qb, qo, ri, rfl, hq, hql, hsk, hE⟩ := HL.out.get j hlt
      rw [Nat.mul_one] at hq
      obtain ⟨u, c0w, A1, c1, rfl, hsq⟩ := hE
      have HRI := Lib.hid (show l.getD j [] = ri by rw [List.getD_eq_getElem?_getD, hsk]; rfl)
      have HLI := Lib.hid (HR.out ri (List.mem_of_getElem? hsk))
      have HSI := Lib.hid hsq
      have C0W := Lib.hid c0w
      have HUL := Lib.hid (unlikeTo_le keys l j)
      have HB1 := Lib.hid hB
      obtain ⟨N, hN⟩ : ∃ N, unlikeTo keys l j = N := ⟨_, rfl⟩
      have HNE := Lib.hid hN
      rw [hN] at HUL ⊢
      clear hsk hsq c0w hN hB
      obtain ⟨ni, hni⟩ : ∃ n, ri.length = n := ⟨_, rfl⟩
      rw [hni] at C0W
      have HNI := Lib.hid hni
      clear hni
      have hNl := HUL.out
      go_wp2_with fail
      go_loopw [7, 8] (fun b i wr => ∃ m : Nat, m ≤ j ∧ b = .bool (newTo keys l j m) ∧ i = .int .i64 m ∧ Below w.heap.size w wr) (fun _ i _ => j - (intOf i).toNat)
      case atStart => exact ⟨0, Nat.zero_le _, rfl, rfl, HB1.out⟩
      case round =>
        obtain ⟨m, hm', rfl, rfl, hB⟩ := hrel
        by_cases hmj : m < j
        · have HNS := Lib.hid (newTo_succ keys l j m)
          obtain ⟨nb, hnb⟩ : ∃ b, newTo keys l j m = b := ⟨_, rfl⟩
          rw [hnb] at HNS ⊢
          clear hnb
          cases nb
          · have HF := Lib.hid (HNS.out.trans (Bool.false_and _))
            go_wp2_with fail
            go_quiet (fail)
            go_wp2_with fail
            go_roundw
            case rel => exact ⟨m + 1, by omega, by rw [HF.out], by go_num, below_n hB _⟩
            case measure => simp [intOf] <;> omega
          · obtain ⟨a2, rb, ro, rm, e2, hq2, hql2, hsk2, hE2⟩ := HL.out.get m (by omega)
            obtain rfl := Option.some.inj e2
            rw [Nat.mul_one] at hq2
            obtain ⟨u2, c2w, A2, c2, rfl, hsq2⟩ := hE2
            have HRM := Lib.hid (show l.getD m [] = rm by rw [List.getD_eq_getElem?_getD, hsk2]; rfl)
            have d0 := (hB.cell (p := ⟨qb, qo, none⟩) hql).trans C0W.out
            have d2 := (hB.cell (p := ⟨rb, ro, none⟩) hql2).trans c2w
            have HC := Lib.hid (HCMP.out wr.drew hB.drew ri rm A1 A2 c1 c2 (HSI.out.below ValE.stays hB.drew) (hsq2.below ValE.stays hB.drew) HLI.out (HR.out rm (List.mem_of_getElem? hsk2)))
            rw [HNI.out] at HC
            have HFS := Lib.hid (HNS.out.trans (Bool.true_and _))
            rw [HRI.out, HRM.out] at HFS
            have hml : m < l.length := by omega
            have hml' : (m : Int) < (l.length : Int) := by omega
            clear hsk2 hsq2 c2w e2 HNS
            obtain ⟨nm, hnm⟩ : ∃ n, rm.length = n := ⟨_, rfl⟩
            rw [hnm] at HC d2
            clear hnm
            go_wp2_with fail
            go_region_held3 (fun w' => w'.cell? ⟨qb, qo, none⟩ = some (.slice A1 ni c1) ∧ w'.cell? ⟨rb, ro, none⟩ = some (.slice A2 nm c2)) (go_keep) (first
              | (go_at_call 68; (with_reducible refine HC.out.mono ?_); rintro e w2 ⟨hb2, z, rfl, hz⟩; have HZ := Lib.hid hz; clear hz; have hB2 := hB.trans ((undrew hb2).mono hB.size); have x0 := (hb2.cell (p := ⟨qb, qo, none⟩) (Nat.lt_of_lt_of_le hql hB.size)).trans d0; have x2 := (hb2.cell (p := ⟨rb, ro, none⟩) (Nat.lt_of_lt_of_le hql2 hB.size)).trans d2))
            by_cases z0 : z = 0
            · have HF : Hid (newTo keys l j (m + 1) = false) := HFS.out.trans (by rw [(cmpB_iff keys ri rm).2 (HZ.out.1 z0)]; rfl)
              subst z0
              go_wp2_with fail
              go_roundw
              case rel => exact ⟨m + 1, by omega, by rw [HF.out]; rfl, by go_num, hB2⟩
              case measure => simp [intOf] <;> omega
            · have HF : Hid (newTo keys l j (m + 1) = true) := HFS.out.trans (by
                cases hcb : cmpB keys ri rm with
                | false => rfl
                | true => exact absurd (HZ.out.2 ((cmpB_iff keys ri rm).1 hcb)) z0)
              have g0 : (z == 0) = false := by rw [beq_eq_false_iff_ne]; exact z0
              have g1 : (z != 0) = true := by rw [bne, g0]; rfl
              go_wp2_with fail
              go_roundw
              case rel => exact ⟨m + 1, by omega, by rw [HF.out, g1], by go_num, hB2⟩
              case measure => simp [intOf] <;> omega
        · obtain rfl : m = j := by omega
          obtain ⟨nb, hnb⟩ : ∃ b, newTo keys l m m = b := ⟨_, rfl⟩
          have HNB := Lib.hid hnb
          rw [hnb]
          clear hnb
          cases nb
          · have HF := Lib.hid (unlikeTo_no HNB.out)
            go_wp2_with fail
            go_roundw
            case rel => exact ⟨m + 1, by omega, by rw [HF.out, HNE.out], by go_num, hB⟩
            case measure => simp [intOf] <;> omega
          · have HF := Lib.hid (unlikeTo_yes HNB.out)
            go_wp2_with fail
            go_roundw
            case rel => exact ⟨m + 1, by omega, by rw [HF.out, HNE.out]; go_num, by go_num, hB⟩
            case measure => simp [intOf] <;> omega
    · obtain rfl : j = l.length := by omega
      go_wp2_with fail
      go_ret
      exact ⟨rfl, hB⟩

end Go.Proofs.Ytpalbdjcfhlniaa
