/- The walks over the document's Record and Keys. -/
import Derived.Test.YtpalbdjcfhlniaaStatKe
import Derived.Test.YtpalbdjcfhlniaaStatKc
import Derived.Deep.RegionHeld3
namespace Go.Proofs.Ytpalbdjcfhlniaa
open Go.RowKit

def recTo (cols : List Cm) (row : List Vl) (ics : List Ic) (k : Nat) : List Vl := (ics.take k).map fun ic => atF cols row ic.name
/-- A row's record. -/
def recF (cols : List Cm) (row : List Vl) (ics : List Ic) : List Vl := recTo cols row ics ics.length ++ [row.getD 0 vl0]
theorem recTo_succ {cols : List Cm} {row : List Vl} {ics : List Ic} {k : Nat} {ic : Ic} {v : Vl} (h : ics[k]? = some ic) (hv : atF cols row ic.name = v) : recTo cols row ics (k + 1) = recTo cols row ics k ++ [v] := by
  unfold recTo; rw [List.take_add_one, h]; simp [hv]
theorem recTo_length {cols : List Cm} {row : List Vl} {ics : List Ic} {k : Nat} (h : k ≤ ics.length) : (recTo cols row ics k).length = k := by
  unfold recTo; rw [List.length_map, List.length_take]; omega
theorem vlCells_snoc (l : List Vl) (v : Vl) : vlCells (l ++ [v]) = vlCells l ++ [.int .i64 v.kind, .int .i64 v.n, .string v.s] := by simp [vlCells, vlCells1]

theorem news3 (w : World) (k n : Int) (s : ByteArray) : ∀ (j : Nat) (u : Value), [Value.int .i64 k, .int .i64 n, .string s][j]? = some u → (w.alloc (.cells #[.int .i64 k, .int .i64 n, .string s] 78)).cell? ((⟨w.heap.size, 0, none⟩ : Addr).add j) = some u := fun j u hj => by
  match j, hj with
  | 0, hj => simp at hj; subst hj; exact World.cell?_alloc_new w _ 78 0
  | 1, hj => simp at hj; subst hj; exact World.cell?_alloc_new w _ 78 1
  | 2, hj => simp at hj; subst hj; exact World.cell?_alloc_new w _ 78 2
theorem ones3 (k n : Int) (s : ByteArray) : ∀ u ∈ [Value.int .i64 k, .int .i64 n, .string s], u.oneCell' = true := fun u hu => by
  simp at hu; rcases hu with rfl | rfl | rfl <;> rfl

set_option maxHeartbeats 4000000 in
set_option maxRecDepth 100000 in
theorem record_any (tn xn xt : ByteArray) (root xr : Int) (xu : Bool) (cols : List Cm) (ics : List Ic) (row : List Vl) (A A' AC Ar : Option Addr) (c n' c' cC cr : Nat) (w : World)
    (ht : SeqAt ColE 9 w A cols) (hi : SeqAt IcE 3 w AC ics) (hr : SeqAt ValE 3 w Ar row) (hm : cols.length ≤ 100) (hmi : ics.length ≤ 100) (hrl : row.length = cols.length + 1) :
    Calls Try.prog 54 #[.agg #[.string tn, .slice A cols.length c, .slice A' n' c', .int .i64 root], .agg #[.string xn, .string xt, .slice AC ics.length cC, .bool xu, .int .i64 xr], .slice Ar row.length cr] w fun e w' =>
      ∃ v, e = .returned v ∧ w'.ownsRow w.heap.size 78 3 v (recF cols row ics).length (vlCells (recF cols row ics)) ∧ Below w.heap.size w w' := by
  obtain ⟨i78, ji, jz0, jz1, jz2⟩ := info_parts Try.info78
  obtain ⟨vb, vo, rfl, hvb, hV⟩ := seq_plain hr (by omega)
  have HV := Lib.hid hV
  have HT := Lib.hid ht
  have HI := Lib.hid hi
  have HCOL := Lib.hid (fun (W : World) (h : Below w.heap.size w W) (name : ByteArray) (hz : name.size ≤ maxLen) => column_any tn root cols A A' c n' c' name W (ht.below ColE.stays h) (by unfold maxLen; omega) hz)
  have HAT := Lib.hid (fun (name : ByteArray) => at_colI (name := name) hrl)
  have HRL := Lib.hid hrl
  have hrl1 : 1 ≤ row.length := by omega
  have hrl2 : row.length ≤ 101 := by omega
  clear ht hi hr hV hrl
  obtain ⟨nr, hnr⟩ : ∃ n, row.length = n := ⟨_, rfl⟩
  have HNR := Lib.hid hnr
  rw [hnr] at hrl1 hrl2 ⊢
  clear hnr
  obtain ⟨nc, hnc⟩ : ∃ n, cols.length = n := ⟨_, rfl⟩
  rw [hnc] at HCOL hm ⊢
  clear hnc
  go_enter Try.func54, Try.ntmps54
  go_wp2_with fail
  have b0 : Below w.heap.size w ((w.alloc (.cells #[.string tn, .slice A nc c, .slice A' n' c', .int .i64 root] 84)).alloc (.cells #[.string xn, .string xt, .slice AC ics.length cC, .bool xu, .int .i64 xr] 89)) := ((Below.refl _ _).alloc (Nat.le_refl _) _).alloc (by simp) _
  have x0 : ((w.alloc (.cells #[.string tn, .slice A nc c, .slice A' n' c', .int .i64 root] 84)).alloc (.cells #[.string xn, .string xt, .slice AC ics.length cC, .bool xu, .int .i64 xr] 89)).cell? ⟨w.heap.size, 0, none⟩ = some (.string tn) := by simp [go_sem]
  have x1 : ((w.alloc (.cells #[.string tn, .slice A nc c, .slice A' n' c', .int .i64 root] 84)).alloc (.cells #[.string xn, .string xt, .slice AC ics.length cC, .bool xu, .int .i64 xr] 89)).cell? ⟨w.heap.size, 1, none⟩ = some (.slice A nc c) := by simp [go_sem]
  have x2 : ((w.alloc (.cells #[.string tn, .slice A nc c, .slice A' n' c', .int .i64 root] 84)).alloc (.cells #[.string xn, .string xt, .slice AC ics.length cC, .bool xu, .int .i64 xr] 89)).cell? ⟨w.heap.size, 2, none⟩ = some (.slice A' n' c') := by simp [go_sem]
  have x3 : ((w.alloc (.cells #[.string tn, .slice A nc c, .slice A' n' c', .int .i64 root] 84)).alloc (.cells #[.string xn, .string xt, .slice AC ics.length cC, .bool xu, .int .i64 xr] 89)).cell? ⟨w.heap.size, 3, none⟩ = some (.int .i64 root) := by simp [go_sem]
  have y2 : ((w.alloc (.cells #[.string tn, .slice A nc c, .slice A' n' c', .int .i64 root] 84)).alloc (.cells #[.string xn, .string xt, .slice AC ics.length cC, .bool xu, .int .i64 xr] 89)).cell? ⟨w.heap.size + 1, 2, none⟩ = some (.slice AC ics.length cC) := by simp [go_sem]
  have hz1 : ((w.alloc (.cells #[.string tn, .slice A nc c, .slice A' n' c', .int .i64 root] 84)).alloc (.cells #[.string xn, .string xt, .slice AC ics.length cC, .bool xu, .int .i64 xr] 89)).heap.size = w.heap.size + 2 := by simp
  generalize (w.alloc (.cells #[.string tn, .slice A nc c, .slice A' n' c', .int .i64 root] 84)).alloc (.cells #[.string xn, .string xt, .slice AC ics.length cC, .bool xu, .int .i64 xr] 89) = W1 at b0 x0 x1 x2 x3 y2 hz1
  obtain ⟨X, hX⟩ : ∃ X, w.heap.size = X := ⟨_, rfl⟩
  obtain ⟨Y, hY⟩ : ∃ Y, X + 1 = Y := ⟨_, rfl⟩
  obtain ⟨B, hB⟩ : ∃ B, W1.heap.size = B := ⟨_, rfl⟩
  have HB0 := Lib.hid b0
  have HBE := Lib.hid hB
  have HXE := Lib.hid hX
  rw [hX] at x0 x1 x2 x3 y2 hz1 hvb
  rw [hY] at y2
  simp only [hX, hY]
  rw [hB] at hz1
  have hXB : X < B := by omega
  have hYB : Y < B := by omega
  have X0 := Lib.hid x0
  have X1 := Lib.hid x1
  have X2 := Lib.hid x2
  have X3 := Lib.hid x3
  have Y2 := Lib.hid y2
  clear b0 x0 x1 x2 x3 y2 hz1 hX hY hB
  go_loopw [7, 8] (fun o i wr => ∃ k : Nat, k ≤ ics.length ∧ i = .int .i64 k ∧ wr.ownsRow B 78 3 o k (vlCells (recTo cols row ics k)) ∧ Below B W1 wr) (fun _ i _ => ics.length - (intOf i).toNat)
  case atStart => exact ⟨0, Nat.zero_le _, rfl, World.ownsRow_nil _ _ _ _, Below.refl _ _⟩
  case round =>
    obtain ⟨k, hk, rfl, hown, hB⟩ := hrel
    have HOWN := Lib.hid hown
    have hBw : B ≤ wr.heap.size := by have := hB.size; rw [HBE.out] at this; exact this
    have HBW := Lib.hid (HB0.out.trans (hB.mono (by rw [HXE.out]; omega)))
    have x0 := (hB.cell (p := ⟨X, 0, none⟩) hXB).trans X0.out
    have x1 := (hB.cell (p := ⟨X, 1, none⟩) hXB).trans X1.out
    have x2 := (hB.cell (p := ⟨X, 2, none⟩) hXB).trans X2.out
    have x3 := (hB.cell (p := ⟨X, 3, none⟩) hXB).trans X3.out
    have y2 := (hB.cell (p := ⟨Y, 2, none⟩) hYB).trans Y2.out
    clear hown
    by_cases hlt : k < ics.length
    · obtain ⟨a, ib, io, ic, rfl, hq, hql, hsk, hE⟩ := HI.out.get k hlt
      have c0 := (HBW.out.cell (p := ⟨ib, io, none⟩) hql).trans hE.name
      have hsz := hE.sz
      have HSK := Lib.hid hsk
      clear hE hsk
      obtain ⟨nm, hnm⟩ : ∃ v, ic.name = v := ⟨_, rfl⟩
      rw [hnm] at c0 hsz
      have HN := Lib.hid hnm
      clear hnm
      have HC := Lib.hid (fun (W : World) (h : Below w.heap.size w W) => HCOL.out W h nm hsz)
      have HA := HAT.out nm
      have hl1 : k + 1 ≤ maxLen := by unfold maxLen; omega
      have hl2 : (k + 1) * 32 ≤ 140737488355328 := by omega
      have HL1 := Lib.hid hl1
      have HL2 := Lib.hid hl2
      have HBD := Lib.hid HBW.out.drew
      have hXw : X < wr.drew.heap.size := Nat.lt_of_lt_of_le hXB hBw
      have hYw : Y < wr.drew.heap.size := Nat.lt_of_lt_of_le hYB hBw
      have hqw : ib < wr.drew.heap.size := Nat.lt_of_lt_of_le hql HBW.out.size
      clear hl1 hl2 hsz
      rcases HA with ⟨h1, h2⟩ | ⟨i, h1, hil, h2⟩
      · have HVE := Lib.hid (recTo_succ (v := vl0) HSK.out (by rw [HN.out]; exact h2))
        rw [h1] at HC
        clear h1 h2
        go_wp2_with fail
        go_region_held3 (fun w' => w'.cell? ⟨X, 0, none⟩ = some (.string tn) ∧ w'.cell? ⟨X, 1, none⟩ = some (.slice A nc c) ∧ w'.cell? ⟨X, 2, none⟩ = some (.slice A' n' c') ∧ w'.cell? ⟨X, 3, none⟩ = some (.int .i64 root) ∧ w'.cell? ⟨Y, 2, none⟩ = some (.slice (some a) ics.length cC) ∧ w'.cell? ⟨ib, io, none⟩ = some (.string nm)) (go_keep) (first
          | (go_at_call 67; (with_reducible refine (HC.out _ HBD.out).mono ?_); rintro e w2 ⟨rfl, hb2⟩; have u0 := (hb2.cell (p := ⟨X, 0, none⟩) hXw).trans x0; have u1 := (hb2.cell (p := ⟨X, 1, none⟩) hXw).trans x1; have u2 := (hb2.cell (p := ⟨X, 2, none⟩) hXw).trans x2; have u3 := (hb2.cell (p := ⟨X, 3, none⟩) hXw).trans x3; have t2 := (hb2.cell (p := ⟨Y, 2, none⟩) hYw).trans y2; have t0 := (hb2.cell (p := ⟨ib, io, none⟩) hqw).trans c0))
        have hb3 := undrew hb2
        have HO2 := Lib.hid (own_below HOWN.out hb3)
        have hB2 := hB.trans (hb3.mono hBw)
        have hBw2 : B ≤ w2.heap.size := Nat.le_trans hBw hb3.size
        clear u0 u1 u2 u3 t2 t0 x0 x1 x2 x3 y2 c0
        go_wp2_with (first
          | (at_builtin; refine wpList_append_own _ rfl (.tmp 34) (.tmp 36) 66 rfl B 78 i78 (.agg #[.int .i64 0, .int .i64 0, .string ⟨#[]⟩]) 3 32 Try.underlying66 ji jz0 jz1 jz2 rfl (by decide) _ k _ rfl (HO2.out.alloc _) ⟨w2.heap.size, 0, none⟩ 1 1 [.int .i64 0, .int .i64 0, .string ⟨#[]⟩] rfl rfl (news3 w2 0 0 ⟨#[]⟩) (ones3 0 0 ⟨#[]⟩) HL1.out HL2.out ?c5 ?_))
        case c5 => simp <;> omega
        intro v' w3 hown' hgrow _
        have HP : Hid (w3.ownsRow B 78 3 v' (k + 1) (vlCells (recTo cols row ics (k + 1)))) := by
          show World.ownsRow _ _ _ _ _ _ _
          rw [HVE.out, vlCells_snoc]; exact hown'
        have HB3 := Lib.hid ((hB2.alloc hBw2 _).grown hgrow (by simp; omega) (fun g hg => (HO2.out.lt g hg).1))
        clear hown' hgrow
        go_wp2_with fail
        go_roundw
        case rel => exact ⟨k + 1, by omega, by go_num, HP.out, HB3.out⟩
        case measure => simp [intOf] <;> omega
      · obtain ⟨v, hv⟩ : ∃ v, row[i + 1]? = some v := ⟨_, List.getElem?_eq_getElem hil⟩
        have hEv := HV.out (i + 1) v hv
        have e0 := (HBW.out.cell (p := ⟨vb, vo + (i + 1) * 3, none⟩) (by rw [HXE.out]; exact hvb)).trans hEv.kind
        have e1 := (HBW.out.cell (p := ⟨vb, vo + (i + 1) * 3 + 1, none⟩) (by rw [HXE.out]; exact hvb)).trans hEv.n
        have e2 := (HBW.out.cell (p := ⟨vb, vo + (i + 1) * 3 + 2, none⟩) (by rw [HXE.out]; exact hvb)).trans hEv.s
        have HVE := Lib.hid (recTo_succ HSK.out (by rw [HN.out, h2, List.getD_eq_getElem?_getD, hv]; rfl : atF cols row ic.name = v))
        rw [h1] at HC
        rw [HNR.out] at hil
        clear h1 h2 hv hEv
        obtain ⟨vk, hvk⟩ : ∃ x, v.kind = x := ⟨_, rfl⟩
        obtain ⟨vn, hvn⟩ : ∃ x, v.n = x := ⟨_, rfl⟩
        obtain ⟨vs, hvs⟩ : ∃ x, v.s = x := ⟨_, rfl⟩
        obtain rfl : v = ⟨vk, vn, vs⟩ := by subst hvk; subst hvn; subst hvs; rfl
        rw [hvk] at e0
        rw [hvn] at e1
        rw [hvs] at e2
        clear hvk hvn hvs
        have hvw : vb < wr.drew.heap.size := by have := hBw; show vb < wr.heap.size; omega
        have hwi : IntKind.i64.wrap ((i : Int) + 1) = (i : Int) + 1 := by rw [IntKind.wrap_i64]; omega
        have hti : ((i : Int) + 1).toNat = i + 1 := by omega
        have hil' : (i : Int) + 1 < (nr : Int) := by omega
        have hi0 : (0 : Int) ≤ (i : Int) + 1 := by omega
        go_wp2_with fail
        go_region_held3 (fun w' => w'.cell? ⟨X, 0, none⟩ = some (.string tn) ∧ w'.cell? ⟨X, 1, none⟩ = some (.slice A nc c) ∧ w'.cell? ⟨X, 2, none⟩ = some (.slice A' n' c') ∧ w'.cell? ⟨X, 3, none⟩ = some (.int .i64 root) ∧ w'.cell? ⟨Y, 2, none⟩ = some (.slice (some a) ics.length cC) ∧ w'.cell? ⟨ib, io, none⟩ = some (.string nm)) (go_keep) (first
          | (go_at_call 67; (with_reducible refine (HC.out _ HBD.out).mono ?_); rintro e w2 ⟨rfl, hb2⟩; have u0 := (hb2.cell (p := ⟨X, 0, none⟩) hXw).trans x0; have u1 := (hb2.cell (p := ⟨X, 1, none⟩) hXw).trans x1; have u2 := (hb2.cell (p := ⟨X, 2, none⟩) hXw).trans x2; have u3 := (hb2.cell (p := ⟨X, 3, none⟩) hXw).trans x3; have t2 := (hb2.cell (p := ⟨Y, 2, none⟩) hYw).trans y2; have t0 := (hb2.cell (p := ⟨ib, io, none⟩) hqw).trans c0))
        have hb3 := undrew hb2
        have HO2 := Lib.hid (own_below HOWN.out hb3)
        have hB2 := hB.trans (hb3.mono hBw)
        have hBw2 : B ≤ w2.heap.size := Nat.le_trans hBw hb3.size
        have f0 := (hb2.cell (p := ⟨vb, vo + (i + 1) * 3, none⟩) hvw).trans e0
        have f1 := (hb2.cell (p := ⟨vb, vo + (i + 1) * 3 + 1, none⟩) hvw).trans e1
        have f2 := (hb2.cell (p := ⟨vb, vo + (i + 1) * 3 + 2, none⟩) hvw).trans e2
        clear u0 u1 u2 u3 t2 t0 x0 x1 x2 x3 y2 c0 e0 e1 e2
        go_wp2_with (first
          | (at_builtin; refine wpList_append_own _ rfl (.tmp 38) (.tmp 44) 66 rfl B 78 i78 (.agg #[.int .i64 0, .int .i64 0, .string ⟨#[]⟩]) 3 32 Try.underlying66 ji jz0 jz1 jz2 rfl (by decide) _ k _ rfl (HO2.out.alloc _) ⟨w2.heap.size, 0, none⟩ 1 1 [.int .i64 vk, .int .i64 vn, .string vs] rfl rfl (news3 w2 vk vn vs) (ones3 vk vn vs) HL1.out HL2.out ?c5 ?_))
        case c5 => simp <;> omega
        intro v' w3 hown' hgrow _
        have HP : Hid (w3.ownsRow B 78 3 v' (k + 1) (vlCells (recTo cols row ics (k + 1)))) := by
          show World.ownsRow _ _ _ _ _ _ _
          rw [HVE.out, vlCells_snoc]; exact hown'
        have HB3 := Lib.hid ((hB2.alloc hBw2 _).grown hgrow (by simp; omega) (fun g hg => (HO2.out.lt g hg).1))
        clear hown' hgrow f0 f1 f2
        go_wp2_with fail
        go_roundw
        case rel => exact ⟨k + 1, by omega, by go_num, HP.out, HB3.out⟩
        case measure => simp [intOf] <;> omega
    · obtain rfl : k = ics.length := by omega
      obtain ⟨v, hv⟩ : ∃ v, row[0]? = some v := ⟨_, List.getElem?_eq_getElem (by rw [HNR.out]; omega)⟩
      have hEv := HV.out 0 v hv
      rw [Nat.zero_mul, Nat.add_zero] at hEv
      have e0 := (HBW.out.cell (p := ⟨vb, vo, none⟩) (by rw [HXE.out]; exact hvb)).trans hEv.kind
      have e1 := (HBW.out.cell (p := ⟨vb, vo + 1, none⟩) (by rw [HXE.out]; exact hvb)).trans hEv.n
      have e2 := (HBW.out.cell (p := ⟨vb, vo + 2, none⟩) (by rw [HXE.out]; exact hvb)).trans hEv.s
      have HVE : Hid (recF cols row ics = recTo cols row ics ics.length ++ [v]) := by show _ = _; unfold recF; rw [List.getD_eq_getElem?_getD, hv]; rfl
      have HLE := Lib.hid (recTo_length (cols := cols) (row := row) (ics := ics) (Nat.le_refl ics.length))
      clear hv hEv
      obtain ⟨vk, hvk⟩ : ∃ x, v.kind = x := ⟨_, rfl⟩
      obtain ⟨vn, hvn⟩ : ∃ x, v.n = x := ⟨_, rfl⟩
      obtain ⟨vs, hvs⟩ : ∃ x, v.s = x := ⟨_, rfl⟩
      obtain rfl : v = ⟨vk, vn, vs⟩ := by subst hvk; subst hvn; subst hvs; rfl
      rw [hvk] at e0
      rw [hvn] at e1
      rw [hvs] at e2
      clear hvk hvn hvs x0 x1 x2 x3
      have hl1 : ics.length + 1 ≤ maxLen := by unfold maxLen; omega
      have hl2 : (ics.length + 1) * 32 ≤ 140737488355328 := by omega
      have HL1 := Lib.hid hl1
      have HL2 := Lib.hid hl2
      have hn0 : ((nr : Int) == 0) = false := by rw [beq_eq_false_iff_ne]; omega
      clear hl1 hl2
      go_wp2_with (first
        | (at_builtin; refine wpList_append_own _ rfl (.tmp 53) (.tmp 57) 66 rfl B 78 i78 (.agg #[.int .i64 0, .int .i64 0, .string ⟨#[]⟩]) 3 32 Try.underlying66 ji jz0 jz1 jz2 rfl (by decide) _ ics.length _ rfl (HOWN.out.alloc _) ⟨wr.heap.size, 0, none⟩ 1 1 [.int .i64 vk, .int .i64 vn, .string vs] rfl rfl (news3 wr vk vn vs) (ones3 vk vn vs) HL1.out HL2.out ?c5 ?_))
      case c5 => simp <;> omega
      intro v' w3 hown' hgrow _
      have HP : Hid (w3.ownsRow w.heap.size 78 3 v' (recF cols row ics).length (vlCells (recF cols row ics))) := by
        show World.ownsRow _ _ _ _ _ _ _
        rw [HVE.out, vlCells_snoc, List.length_append, HLE.out]
        exact own_base' hown' (by rw [HXE.out]; omega)
      have HB3 := Lib.hid (HB0.out.trans (((hB.alloc hBw _).grown hgrow (by simp; omega) (fun g hg => (HOWN.out.lt g hg).1)).mono (by rw [HXE.out]; omega)))
      clear hown' hgrow
      go_wp2_with fail
      go_ret
      exact ⟨_, rfl, HP.out, HB3.out⟩

end Go.Proofs.Ytpalbdjcfhlniaa
