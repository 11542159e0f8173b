/- The walks over the document's comparing: fold, counts, at. -/
import Derived.Test.YtpalbdjcfhlniaaStatLb
namespace Go.Proofs.Ytpalbdjcfhlniaa
open Go.RowKit

set_option maxHeartbeats 400000 in
set_option maxRecDepth 100000 in
theorem fold04_any (s : ByteArray) (w : World) (hs : s.size ≤ maxLen) :
    Calls Try.prog 74 #[.string s] w fun e w' => e = .returned (.string (foldS s)) ∧ Below w.heap.size w w' := by
  unfold maxLen at hs
  have hcv := run_text_bytes s
  obtain ⟨bs, hbs⟩ : ∃ bs, s.data.toList = bs := ⟨_, rfl⟩
  have hbl : bs.length = s.size := by rw [← hbs]; exact Array.length_toList
  go_enter Try.func74, Try.ntmps74
  go_wp2_with fail
  obtain ⟨B, hBe⟩ : ∃ B, w.heap.size = B := ⟨_, rfl⟩
  have h0 : BytesAt ((w.alloc (.cells (bytesRow s (grownCap w s.size 0 5)) 5 ((bytesRow s (grownCap w s.size 0 5)).size, (bytesRow s (grownCap w s.size 0 5)).size + 1))).drew) B (mixL bs 0) := by
    rw [mixL_zero, ← hbs, ← hBe]; exact bytes_laid s w _ _ _ rfl
  have hb0 : Below w.heap.size w ((w.alloc (.cells (bytesRow s (grownCap w s.size 0 5)) 5 ((bytesRow s (grownCap w s.size 0 5)).size, (bytesRow s (grownCap w s.size 0 5)).size + 1))).drew) := ((Below.refl _ _).alloc (Nat.le_refl _) _).drew
  rw [hBe]
  rw [hBe] at hb0
  have HBE := Lib.hid hBe
  have HBL := Lib.hid hbl
  have HBS := Lib.hid hbs
  clear hBe hbl hbs hcv
  go_loopw [4] (fun i wr => ∃ k : Nat, k ≤ s.size ∧ i = .int .i64 k ∧ BytesAt wr B (mixL bs k) ∧ Below B w wr) (fun i _ => s.size - (intOf i).toNat)
  case atStart => exact ⟨0, Nat.zero_le _, rfl, h0, hb0⟩
  case round =>
    obtain ⟨k, hk, rfl, hbk, hB⟩ := hrel
    clear h0 hb0
    by_cases hlt : k < s.size
    · have hkl : k < bs.length := by rw [HBL.out]; exact hlt
      have hck := hbk.cell k _ (mixL_at bs k k hkl)
      rw [if_neg (Nat.lt_irrefl k)] at hck
      have hfk := hbk.free k (by rw [mixL_length]; exact hkl)
      have hlow := @lowB_yes (bs[k]'hkl)
      have hlow' := @lowB_no (bs[k]'hkl)
      have HST := fun v => hbk.store (k := k) hkl v
      have HSK := mixL_skip bs k hkl
      have hn := UInt8.toNat_lt (bs[k]'hkl)
      obtain ⟨c, hc⟩ : ∃ c, bs[k]'hkl = c := ⟨_, rfl⟩
      rw [hc] at hck hlow hlow' HST HSK hn
      obtain ⟨n, hn'⟩ : ∃ n : Nat, c.toNat = n := ⟨_, rfl⟩
      rw [hn'] at hck hlow hn
      by_cases h1 : 65 ≤ n
      · by_cases h2 : n ≤ 90
        · have HS := Lib.hid (HST ((n : Int) - 65 + 97) (by rw [hlow h1 h2]; omega))
          clear hlow hlow' HST HSK hc hn'
          go_wp2_with fail
          go_roundw
          case rel => exact ⟨k + 1, by omega, by go_num, HS.out, hB.setCell (Nat.le_refl _) _⟩
          case measure => simp [intOf]; omega
        · have HS := Lib.hid (HSK (hlow' (by rw [hn']; omega)))
          clear hlow hlow' HST HSK hc hn'
          go_wp2_with fail
          go_roundw
          case rel => exact ⟨k + 1, by omega, by go_num, by rw [HS.out]; exact hbk, hB⟩
          case measure => simp [intOf]; omega
      · have HS := Lib.hid (HSK (hlow' (by rw [hn']; omega)))
        clear hlow hlow' HST HSK hc hn'
        go_wp2_with fail
        go_roundw
        case rel => exact ⟨k + 1, by omega, by go_num, by rw [HS.out]; exact hbk, hB⟩
        case measure => simp [intOf]; omega
    · obtain rfl : k = s.size := by omega
      have hcb : ∀ cap, (convert 113 9 (.slice (some ⟨B, 0, none⟩) s.size cap)).run Try.prog wr = .ok (.string (foldS s)) wr := by
        intro cap
        have hfl : (foldL bs).length = s.size := by rw [foldL_length]; exact HBL.out
        have := run_convert_bytes_back (P := Try.prog) wr 113 9 5 ⟨B, 0, none⟩ cap (foldL bs) Try.underlying113 Try.underlying5 Try.underlying9 (fun j hj => by
          have e : (⟨B, 0, none⟩ : Addr).add j = ⟨B, j, none⟩ := by cases j <;> simp [Addr.add]
          rw [e]
          refine hbk.cell j _ ?_
          rw [show mixL bs s.size = foldL bs by rw [← HBL.out, mixL_all]]
          exact List.getElem?_eq_getElem hj)
        rw [hfl] at this
        rw [this, foldS, HBS.out]
      go_wp2_with fail
      go_ret
      exact ⟨rfl, by rw [HBE.out]; exact hB⟩


set_option maxHeartbeats 400000 in
set_option maxRecDepth 100000 in
theorem counts06_any (col coll : Int) (desc : Bool) (w : World) (h0 : 0 ≤ col) (h1 : coll = 0 ∨ coll = 1) : Calls Try.prog 71 #[.agg #[.int .i64 col, .int .i64 coll, .bool desc]] w fun e w' => e = .returned (.bool true) ∧ Below w.heap.size w w' := by
  have hbb : ∀ O, Below w.heap.size w (w.alloc O) := fun O => (Below.refl _ _).alloc (Nat.le_refl _) O
  rcases h1 with rfl | rfl
  · go_enter Try.func71, Try.ntmps71
    go_wp2_with fail
    go_ret
    exact ⟨rfl, hbb _⟩
  · go_enter Try.func71, Try.ntmps71
    go_wp2_with fail
    go_ret
    exact ⟨rfl, hbb _⟩

set_option maxHeartbeats 400000 in
set_option maxRecDepth 100000 in
theorem at06_any (row : List Vl) (A : Option Addr) (c k : Nat) (w : World) (hs : SeqAt ValE 3 w A row) (hm : row.length ≤ maxLen) :
    Calls Try.prog 73 #[.slice A row.length c, .int .i64 k] w fun e w' => e = .returned (.agg #[.int .i64 (row.getD k vl0).kind, .int .i64 (row.getD k vl0).n, .string (row.getD k vl0).s]) ∧ Below w.heap.size w w' := by
  unfold maxLen at hm
  have hbb : ∀ O, Below w.heap.size w (w.alloc O) := fun O => (Below.refl _ _).alloc (Nat.le_refl _) O
  by_cases hk : k < row.length
  · obtain ⟨b, o, rfl, hb, hV⟩ := seq_plain hs (by omega)
    obtain ⟨v, hv⟩ : ∃ v, row[k]? = some v := ⟨_, List.getElem?_eq_getElem hk⟩
    have hE := hV k v hv
    have HE := Lib.hid (show row.getD k vl0 = v by rw [List.getD_eq_getElem?_getD, hv]; rfl)
    have c0 := ((hbb (.cells #[.int .i64 0, .int .i64 0, .string ⟨#[]⟩] 78)).cell (p := ⟨b, o + k * 3, none⟩) hb).trans hE.kind
    have c1 := ((hbb (.cells #[.int .i64 0, .int .i64 0, .string ⟨#[]⟩] 78)).cell (p := ⟨b, o + k * 3 + 1, none⟩) hb).trans hE.n
    have c2 := ((hbb (.cells #[.int .i64 0, .int .i64 0, .string ⟨#[]⟩] 78)).cell (p := ⟨b, o + k * 3 + 2, none⟩) hb).trans hE.s
    rw [HE.out]
    clear hs hV hv hE
    obtain ⟨vk, hvk⟩ : ∃ x, v.kind = x := ⟨_, rfl⟩
    obtain ⟨vn, hvn⟩ : ∃ x, v.n = x := ⟨_, rfl⟩
    obtain ⟨vs, hvs⟩ : ∃ x, v.s = x := ⟨_, rfl⟩
    rw [hvk] at c0 ⊢
    rw [hvn] at c1 ⊢
    rw [hvs] at c2 ⊢
    clear hvk hvn hvs HE
    go_enter Try.func73, Try.ntmps73
    go_wp2_with fail
    refine bodyPost_ret (v := .agg #[.int .i64 vk, .int .i64 vn, .string vs]) (by simp [results, Try.results73, go_sem]) rfl ⟨rfl, ?_⟩
    exact hbb _
  · have HE := Lib.hid (show row.getD k vl0 = vl0 by rw [List.getD_eq_getElem?_getD, List.getElem?_eq_none (by omega)]; rfl)
    rw [HE.out]
    clear hs HE
    go_enter Try.func73, Try.ntmps73
    go_wp2_with fail
    refine bodyPost_ret (v := .agg #[.int .i64 0, .int .i64 0, .string ⟨#[]⟩]) (by simp [results, Try.results73, go_sem]) rfl ⟨rfl, ?_⟩
    exact hbb _

end Go.Proofs.Ytpalbdjcfhlniaa
