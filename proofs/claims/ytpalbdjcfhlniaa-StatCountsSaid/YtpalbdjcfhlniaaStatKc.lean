/- The walk over the document's Compare of rows. -/
import Derived.Test.YtpalbdjcfhlniaaStatKb
import Derived.Deep.RegionHeld3
namespace Go.Proofs.Ytpalbdjcfhlniaa
open Go.RowKit

structure Ky where
  col : Nat
  coll : Int
  desc : Bool
structure KeyE (w : World) (b o : Nat) (k : Ky) : Prop where
  col : w.cell? ⟨b, o, none⟩ = some (.int .i64 k.col)
  coll : w.cell? ⟨b, o + 1, none⟩ = some (.int .i64 k.coll)
  desc : w.cell? ⟨b, o + 2, none⟩ = some (.bool k.desc)
theorem KeyE.stays : Stays KeyE := fun _ _ _ _ _ hb hl h => ⟨(hb.cell hl).trans h.col, (hb.cell hl).trans h.coll, (hb.cell hl).trans h.desc⟩

def CmpAll (keys : List Ky) (a b : List Vl) : Prop := ∀ k ∈ keys, CmpEq k.coll (a.getD k.col vl0) (b.getD k.col vl0)
def CmpRows (w : World) (keys : List Ky) (a b : List Vl) (e : Ending) (w' : World) : Prop := Below w.heap.size w w' ∧ ∃ z : Int, e = .returned (.int .i64 z) ∧ (z = 0 ↔ CmpAll keys a b)

theorem getD_size {w : World} {A : Option Addr} {row : List Vl} (h : SeqAt ValE 3 w A row) (k : Nat) : (row.getD k vl0).s.size ≤ maxLen := by
  rw [List.getD_eq_getElem?_getD]
  cases hk : row[k]? with
  | none => exact Nat.zero_le _
  | some v =>
    obtain ⟨_, _, _, _, _, _, hE⟩ := h k v hk
    exact hE.sz

set_option maxHeartbeats 4000000 in
set_option maxRecDepth 100000 in
theorem cmp06_any (keys : List Ky) (a b : List Vl) (A A' AK : Option Addr) (ca cb ck : Nat) (w : World) (ha : SeqAt ValE 3 w A a) (hb : SeqAt ValE 3 w A' b) (hk : SeqAt KeyE 3 w AK keys) (hma : a.length ≤ maxLen) (hmb : b.length ≤ maxLen) (hmk : keys.length ≤ 100) (hc : ∀ k ∈ keys, k.coll = 0 ∨ k.coll = 1) :
    Calls Try.prog 68 #[.slice A a.length ca, .slice A' b.length cb, .slice AK keys.length ck] w (CmpRows w keys a b) := by
  have HA := Lib.hid (fun (W : World) (h : Below w.heap.size w W) (k : Nat) => at06_any a A ca k W (ha.below ValE.stays h) hma)
  have HB := Lib.hid (fun (W : World) (h : Below w.heap.size w W) (k : Nat) => at06_any b A' cb k W (hb.below ValE.stays h) hmb)
  have HZA := Lib.hid (getD_size ha)
  have HZB := Lib.hid (getD_size hb)
  have HK := Lib.hid hk
  have HC := Lib.hid hc
  clear ha hb hk hc hma hmb
  obtain ⟨la, hla⟩ : ∃ n, a.length = n := ⟨_, rfl⟩
  obtain ⟨lb, hlb⟩ : ∃ n, b.length = n := ⟨_, rfl⟩
  rw [hla] at HA ⊢
  rw [hlb] at HB ⊢
  clear hla hlb
  go_enter Try.func68, Try.ntmps68
  go_wp2_with fail
  go_loopw [7] (fun i wr => ∃ j : Nat, j ≤ keys.length ∧ i = .int .i64 j ∧ Below w.heap.size w wr ∧ Hid (∀ m k, m < j → keys[m]? = some k → CmpEq k.coll (a.getD k.col vl0) (b.getD k.col vl0))) (fun i _ => keys.length - (intOf i).toNat)
  case atStart => exact ⟨0, Nat.zero_le _, rfl, Below.refl _ _, fun m k h => by omega⟩
  case round =>
    obtain ⟨j, hj, rfl, hB, HP⟩ := hrel
    by_cases hlt : j < keys.length
    · obtain ⟨ak, kb, ko, k, rfl, hq, hql, hsk, hE⟩ := (HK.out.below KeyE.stays hB).get j hlt
      have c0 := hE.col
      have c1 := hE.coll
      have c2 := hE.desc
      have HSK := Lib.hid hsk
      have hco := HC.out k (List.mem_of_getElem? hsk)
      clear hE hsk
      obtain ⟨col, coll, desc⟩ := k
      simp only at c0 c1 c2 hco
      have HNC := Lib.hid (counts06_any col coll desc wr (by omega) hco)
      obtain ⟨va, hva⟩ : ∃ v, a.getD col vl0 = v := ⟨_, rfl⟩
      obtain ⟨vb, hvb⟩ : ∃ v, b.getD col vl0 = v := ⟨_, rfl⟩
      have H3 := Lib.hid (fun (W : World) => cmp04_any va.kind va.n vb.kind vb.n coll va.s vb.s W (by rw [← hva]; exact HZA.out col) (by rw [← hvb]; exact HZB.out col))
      have HVA := Lib.hid hva
      have HVB := Lib.hid hvb
      have H1 := Lib.hid (fun (W : World) (h : Below w.heap.size w W) => HA.out W h col)
      have H2 := Lib.hid (fun (W : World) (h : Below w.heap.size w W) => HB.out W h col)
      rw [hva] at H1
      rw [hvb] at H2
      clear hva hvb
      go_wp2_with (first
        | (go_at_call 71; (with_reducible refine HNC.out.mono ?_); rintro e w1 ⟨rfl, hb1⟩; have d0 := (hb1.cell (p := ⟨kb, ko, none⟩) hql).trans c0; have d1 := (hb1.cell (p := ⟨kb, ko + 1, none⟩) hql).trans c1; have d2 := (hb1.cell (p := ⟨kb, ko + 2, none⟩) hql).trans c2))
      have hBd := Lib.hid ((hB.trans (hb1.mono hB.size)).drew)
      have hq1 : kb < w1.drew.heap.size := Nat.lt_of_lt_of_le hql hb1.size
      go_region_held3 (fun w' => w'.cell? ⟨kb, ko, none⟩ = some (.int .i64 col) ∧ w'.cell? ⟨kb, ko + 1, none⟩ = some (.int .i64 coll) ∧ w'.cell? ⟨kb, ko + 2, none⟩ = some (.bool desc)) (go_keep) (first
        | (go_at_call 73; (with_reducible refine (H1.out _ hBd.out).mono ?_); rintro e w2 ⟨rfl, hb2⟩; have hB2 := hBd.out.trans (hb2.mono hBd.out.size); have hq2 := Nat.lt_of_lt_of_le hq1 hb2.size; have x0 := (hb2.cell (p := ⟨kb, ko, none⟩) hq1).trans d0; have x1 := (hb2.cell (p := ⟨kb, ko + 1, none⟩) hq1).trans d1; have x2 := (hb2.cell (p := ⟨kb, ko + 2, none⟩) hq1).trans d2)
        | (go_at_call 73; (with_reducible refine (H2.out _ hB2).mono ?_); rintro e w3 ⟨rfl, hb3⟩; have hB3 := hB2.trans (hb3.mono hB2.size); have hq3 := Nat.lt_of_lt_of_le hq2 hb3.size; have y0 := (hb3.cell (p := ⟨kb, ko, none⟩) hq2).trans x0; have y1 := (hb3.cell (p := ⟨kb, ko + 1, none⟩) hq2).trans x1; have y2 := (hb3.cell (p := ⟨kb, ko + 2, none⟩) hq2).trans x2)
        | (go_at_call 72; (with_reducible refine (H3.out _).mono ?_); rintro e w4 ⟨hb4, z, rfl, hz1, hz2, hz⟩; have HZ := Lib.hid hz; clear hz; have hB4 := hB3.trans (hb4.mono hB3.size); have u0 := (hb4.cell (p := ⟨kb, ko, none⟩) hq3).trans y0; have u1 := (hb4.cell (p := ⟨kb, ko + 1, none⟩) hq3).trans y1; have u2 := (hb4.cell (p := ⟨kb, ko + 2, none⟩) hq3).trans y2))
      clear c0 c1 c2 d0 d1 d2 x0 x1 x2 y0 y1 y2 u0 u1
      by_cases z0 : z = 0
      · have HP' := Lib.hid (upto (P := fun _ (k : Ky) => CmpEq k.coll (a.getD k.col vl0) (b.getD k.col vl0)) HP.out HSK.out (by rw [HVA.out, HVB.out]; exact HZ.out.1 z0))
        subst z0
        go_wp2_with fail
        go_roundw
        case rel => exact ⟨j + 1, by omega, by go_num, hB4, HP'⟩
        case measure => simp [intOf] <;> omega
      · have HNE : Hid (¬ CmpAll keys a b) := fun h => z0 (HZ.out.2 (by have := h _ (List.mem_of_getElem? HSK.out); rw [HVA.out, HVB.out] at this; exact this))
        have g0 : (z == 0) = false := by rw [beq_eq_false_iff_ne]; exact z0
        have hw : IntKind.i64.wrap (-z) = -z := by rw [IntKind.wrap_i64]; omega
        cases desc
        · go_wp2_with fail
          go_ret
          exact ⟨hB4, z, rfl, fun h => absurd h z0, fun h => absurd h HNE.out⟩
        · go_wp2_with fail
          go_ret
          exact ⟨hB4, -z, rfl, fun h => absurd (by omega) z0, fun h => absurd h HNE.out⟩
    · obtain rfl : j = keys.length := by omega
      have HY : Hid (CmpAll keys a b) := upto_all HP.out
      go_wp2_with fail
      go_ret
      exact ⟨hB, 0, rfl, fun _ => HY.out, fun _ => rfl⟩

end Go.Proofs.Ytpalbdjcfhlniaa
