/- The walks over the two functions that write a text in small letters. -/
import Derived.Test.YtpalbdjcfhlniaaRows
import Derived.Test.YtpalbdjcfhlniaaStatP
import Derived.WalkKit
import Derived.WalkSpells
import Derived.WalkLawsBesides
import Derived.Lib.Hide
import Derived.Deep.QuietTactic
import Derived.BigQuiet
import Derived.Outline
import Derived.Laws.IdiomStrings
namespace Go.Proofs.Ytpalbdjcfhlniaa
open Go.RowKit

/-- Block B holds the bytes l, of the first n of which none is frozen. -/
structure BytesAt (w : World) (B : Nat) (l : List UInt8) : Prop where
  cell : ∀ j c, l[j]? = some c → w.cell? ⟨B, j, none⟩ = some (.int .u8 c.toNat)
  free : ∀ j, j < l.length → w.frozen? ⟨B, j, none⟩ = false

/-- A string of one byte that was just laid. -/
theorem run_byte_string (W : World) (n : Int) :
    (convert 113 9 (.slice (some ⟨W.heap.size, 0, none⟩) 1 1)).run Try.prog (W.alloc (.cells #[.int .u8 n] 5)) = .ok (.string ⟨#[UInt8.ofNat n.toNat]⟩) (W.alloc (.cells #[.int .u8 n] 5)) := by
  rw [run_convert_bytes_string _ 113 9 5 _ 1 1 Try.underlying113 Try.underlying5 Try.underlying9]
  have hl := run_loadCells_list (P := Try.prog) (W.alloc (.cells #[.int .u8 n] 5)) ⟨W.heap.size, 0, none⟩ ([n].map (Value.int .u8)) (fun j v hj => by
    match j, hj with
    | 0, hj => simp at hj; subst hj; exact World.cell?_alloc_new W _ 5 0)
  rw [run_bytesToString _ _ 1 1 [n] hl]
  rfl

theorem low_up {c : UInt8} (h1 : 65 ≤ (c.toNat : Int)) (h2 : (c.toNat : Int) ≤ 90) : c + 32 = lowB c := by unfold lowB; rw [if_pos (by omega)]
theorem low_high {c : UInt8} (h : 90 < (c.toNat : Int)) : c = lowB c := (lowB_no (by omega)).symm
theorem low_deep {c : UInt8} (h : ¬ 65 ≤ (c.toNat : Int)) : c = lowB c := (lowB_no (by omega)).symm

set_option maxHeartbeats 400000 in
set_option maxRecDepth 100000 in
theorem rfold_any (s : ByteArray) (w : World) (hs : s.size ≤ maxLen) :
    Calls Try.prog 50 #[.string s] w fun e w' => e = .returned (.string (foldS s)) ∧ Below w.heap.size w w' := by
  unfold maxLen at hs
  have hcv := run_byte_string
  go_enter Try.func50, Try.ntmps50
  go_wp2_with fail
  go_loopw [3, 4] (fun o i wr => ∃ k : Nat, k ≤ s.size ∧ i = .int .i64 k ∧ o = .string (foldTo s k) ∧ Below w.heap.size w wr) (fun _ i _ => s.size - (intOf i).toNat)
  case atStart => exact ⟨0, Nat.zero_le _, rfl, by rw [foldTo_zero], Below.refl _ _⟩
  case round =>
    obtain ⟨k, hk, rfl, rfl, hB⟩ := hrel
    by_cases hlt : k < s.size
    · have hsz := foldTo_size s k hk
      go_wp2_with fail
      all_goals
        go_roundw
        case rel => exact ⟨k + 1, by omega, by go_num, by rw [foldTo_succ s k hlt _ (by first | exact low_up ‹_› ‹_› | exact low_high ‹_› | exact low_deep ‹_›)], hB.alloc hB.size _⟩
        case measure => simp [intOf]; omega
    · obtain rfl : k = s.size := by omega
      go_wp2_with fail
      go_ret
      exact ⟨by rw [← foldTo_all]; simp, hB⟩

theorem mixL_skip (l : List UInt8) (k : Nat) (h : k < l.length) (hc : lowB (l[k]'h) = l[k]'h) : mixL l (k + 1) = mixL l k := by
  apply List.ext_getElem?
  intro j
  by_cases hj : j < l.length
  · rw [mixL_at _ _ _ hj, mixL_at _ _ _ hj]
    by_cases hjk : j = k
    · subst hjk; rw [if_pos (by omega), if_neg (by omega), hc]
    · congr 1
      by_cases h1 : j < k
      · rw [if_pos (by omega), if_pos h1]
      · rw [if_neg (by omega), if_neg h1]
  · rw [List.getElem?_eq_none (by rw [mixL_length]; omega), List.getElem?_eq_none (by rw [mixL_length]; omega)]

theorem BytesAt.store {w : World} {B k : Nat} {l : List UInt8} (h : BytesAt w B (mixL l k)) (hk : k < l.length) (v : Int) (hv : v = (lowB (l[k]'hk)).toNat) :
    BytesAt (w.setCell ⟨B, k, none⟩ (.int .u8 v)) B (mixL l (k + 1)) := by
  refine ⟨fun j c hj => ?_, fun j hj => ?_⟩
  · have hjl : j < l.length := by have := (List.getElem?_eq_some_iff.1 hj).1; rwa [mixL_length] at this
    rw [mixL_at _ _ _ hjl] at hj
    have hck := h.cell k _ (mixL_at l k k hk)
    by_cases hjk : j = k
    · subst hjk
      rw [if_pos (by omega)] at hj
      injection hj with hj
      subst hj
      subst hv
      exact World.cell?_setCell_same _ _ _ hck
    · rw [World.cell?_setCell_other _ _ _ _ (by intro e; injection e with _ e; exact hjk e.symm)]
      refine h.cell j c ?_
      rw [mixL_at _ _ _ hjl, ← hj]
      congr 1
      by_cases h1 : j < k
      · rw [if_pos h1, if_pos (by omega)]
      · rw [if_neg h1, if_neg (by omega)]
  · rw [mixL_length] at hj
    have := h.free j (by rw [mixL_length]; exact hj)
    simpa using this

theorem BytesAt.len_lt {w : World} {B : Nat} {l : List UInt8} (h : BytesAt w B l) (hl : 0 < l.length) : B < w.heap.size :=
  World.block_lt_of_cell? w _ (h.cell 0 _ (List.getElem?_eq_getElem hl))

/-- A text's bytes, newly laid. -/
theorem run_text_bytes (s : ByteArray) (W : World) :
    (convert 9 113 (.string s)).run Try.prog W = .ok (.slice (some ⟨W.heap.size, 0, none⟩) s.size (grownCap W s.size 0 5))
      (W.drew.alloc (.cells (bytesRow s (grownCap W s.size 0 5)) 5 ((bytesRow s (grownCap W s.size 0 5)).size, (bytesRow s (grownCap W s.size 0 5)).size + 1))) :=
  run_bytes_of_string W 9 113 5 s Try.underlying9 Try.underlying113 Try.underlying5

theorem bytes_laid (s : ByteArray) (W : World) (cap : Nat) (lo hi : Nat) (hlo : lo = (bytesRow s cap).size) : BytesAt (W.drew.alloc (.cells (bytesRow s cap) 5 (lo, hi))) W.heap.size s.data.toList := by
  refine ⟨fun j c hj => ?_, fun j hj => ?_⟩
  · have hjl := (List.getElem?_eq_some_iff.1 hj).1
    have e : (W.drew.alloc (.cells (bytesRow s cap) 5 (lo, hi))).cell? ⟨W.drew.heap.size, j, none⟩ = (bytesRow s cap)[j]? := World.cell?_alloc_mark _ _ _ _ _
    refine e.trans ?_
    rw [bytesRow_at s cap j (by simpa using hjl)]
    have : s.data[j]'(by simpa using hjl) = c := by
      have := (List.getElem?_eq_some_iff.1 hj).2
      simpa using this
    rw [this]
  · have e : (W.drew.alloc (.cells (bytesRow s cap) 5 (lo, hi))).frozen? ⟨W.drew.heap.size, j, none⟩ = (decide (lo ≤ j) && decide (j < hi)) := World.frozen?_alloc_mark _ _ _ _ _ _
    refine e.trans ?_
    have : ¬ lo ≤ j := by subst hlo; unfold bytesRow; simp at hj ⊢; omega
    simp [this]

set_option maxHeartbeats 400000 in
set_option maxRecDepth 100000 in
theorem fold_any (s : ByteArray) (w : World) (hs : s.size ≤ maxLen) :
    Calls Try.prog 44 #[.string s] w fun e w' => e = .returned (.string (foldS s)) ∧ Below w.heap.size w w' := by
  unfold maxLen at hs
  have hcv := run_text_bytes s
  obtain ⟨bs, hbs⟩ : ∃ bs, s.data.toList = bs := ⟨_, rfl⟩
  have hbl : bs.length = s.size := by rw [← hbs]; exact Array.length_toList
  go_enter Try.func44, Try.ntmps44
  go_wp2_with fail
  obtain ⟨B, hBe⟩ : ∃ B, w.heap.size = B := ⟨_, rfl⟩
  have h0 : BytesAt ((w.alloc (.cells (bytesRow s (grownCap w s.size 0 5)) 5 ((bytesRow s (grownCap w s.size 0 5)).size, (bytesRow s (grownCap w s.size 0 5)).size + 1))).drew) B (mixL bs 0) := by
    rw [mixL_zero, ← hbs, ← hBe]; exact bytes_laid s w _ _ _ rfl
  have hb0 : Below w.heap.size w ((w.alloc (.cells (bytesRow s (grownCap w s.size 0 5)) 5 ((bytesRow s (grownCap w s.size 0 5)).size, (bytesRow s (grownCap w s.size 0 5)).size + 1))).drew) := ((Below.refl _ _).alloc (Nat.le_refl _) _).drew
  rw [hBe]
  rw [hBe] at hb0
  have HBE := Lib.hid hBe
  have HBL := Lib.hid hbl
  have HBS := Lib.hid hbs
  clear hBe hbl hbs hcv
  go_loopw [10] (fun i wr => ∃ k : Nat, k ≤ s.size ∧ i = .int .i64 k ∧ BytesAt wr B (mixL bs k) ∧ Below B w wr) (fun i _ => s.size - (intOf i).toNat)
  case atStart => exact ⟨0, Nat.zero_le _, rfl, h0, hb0⟩
  case round =>
    obtain ⟨k, hk, rfl, hbk, hB⟩ := hrel
    clear h0 hb0
    by_cases hlt : k < s.size
    · have hkl : k < bs.length := by rw [HBL.out]; exact hlt
      have hck := hbk.cell k _ (mixL_at bs k k hkl)
      rw [if_neg (Nat.lt_irrefl k)] at hck
      have hfk := hbk.free k (by rw [mixL_length]; exact hkl)
      have hlow := @lowB_yes (bs[k]'hkl)
      have hlow' := @lowB_no (bs[k]'hkl)
      have HST := fun v => hbk.store (k := k) hkl v
      have HSK := mixL_skip bs k hkl
      have hn := UInt8.toNat_lt (bs[k]'hkl)
      obtain ⟨c, hc⟩ : ∃ c, bs[k]'hkl = c := ⟨_, rfl⟩
      rw [hc] at hck hlow hlow' HST HSK hn
      obtain ⟨n, hn'⟩ : ∃ n : Nat, c.toNat = n := ⟨_, rfl⟩
      rw [hn'] at hck hlow hn
      by_cases h1 : 65 ≤ n
      · by_cases h2 : n ≤ 90
        · have HS := Lib.hid (HST ((n : Int) + 97 - 65) (by rw [hlow h1 h2]; omega))
          clear hlow hlow' HST HSK hc hn'
          go_wp2_with fail
          go_roundw
          case rel => exact ⟨k + 1, by omega, by go_num, HS.out, hB.setCell (Nat.le_refl _) _⟩
          case measure => simp [intOf]; omega
        · have HS := Lib.hid (HSK (hlow' (by rw [hn']; omega)))
          clear hlow hlow' HST HSK hc hn'
          go_wp2_with fail
          go_roundw
          case rel => exact ⟨k + 1, by omega, by go_num, by rw [HS.out]; exact hbk, hB⟩
          case measure => simp [intOf]; omega
      · have HS := Lib.hid (HSK (hlow' (by rw [hn']; omega)))
        clear hlow hlow' HST HSK hc hn'
        go_wp2_with fail
        go_roundw
        case rel => exact ⟨k + 1, by omega, by go_num, by rw [HS.out]; exact hbk, hB⟩
        case measure => simp [intOf]; omega
    · obtain rfl : k = s.size := by omega
      have hcb : ∀ cap, (convert 113 9 (.slice (some ⟨B, 0, none⟩) s.size cap)).run Try.prog wr = .ok (.string (foldS s)) wr := by
        intro cap
        have hfl : (foldL bs).length = s.size := by rw [foldL_length]; exact HBL.out
        have := run_convert_bytes_back (P := Try.prog) wr 113 9 5 ⟨B, 0, none⟩ cap (foldL bs) Try.underlying113 Try.underlying5 Try.underlying9 (fun j hj => by
          have e : (⟨B, 0, none⟩ : Addr).add j = ⟨B, j, none⟩ := by cases j <;> simp [Addr.add]
          rw [e]
          refine hbk.cell j _ ?_
          rw [show mixL bs s.size = foldL bs by rw [← HBL.out, mixL_all]]
          exact List.getElem?_eq_getElem hj)
        rw [hfl] at this
        rw [this, foldS, HBS.out]
      go_wp2_with fail
      go_ret
      exact ⟨rfl, by rw [HBE.out]; exact hB⟩

end Go.Proofs.Ytpalbdjcfhlniaa
