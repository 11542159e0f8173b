/- What may be known: the plain word, and the walks over the program's may and the document's May. -/
import Derived.Test.YtpalbdjcfhlniaaStatC
namespace Go.Proofs.Ytpalbdjcfhlniaa
open Go.RowKit

/-- Numbers that never fall, from last on, none above many. -/
def chainB (many : Int) : Int → List Int → Bool
  | _, [] => true
  | last, n :: l => decide (last ≤ n) && (decide (n ≤ many) && chainB many n l)
def mayF (s : St) : Bool := decide (1 ≤ s.name.size ∧ s.name.size ≤ 32 ∧ 0 ≤ s.many ∧ s.unlike.length ≤ 33) && chainB s.many 0 s.unlike

theorem mayF_no {s : St} (h : ¬ (1 ≤ s.name.size ∧ s.name.size ≤ 32 ∧ 0 ≤ s.many ∧ s.unlike.length ≤ 33)) : mayF s = false := by unfold mayF; simp only [h, decide_false, Bool.false_and]
theorem mayF_yes {s : St} (h : 1 ≤ s.name.size ∧ s.name.size ≤ 32 ∧ 0 ≤ s.many ∧ s.unlike.length ≤ 33) : mayF s = chainB s.many 0 s.unlike := by unfold mayF; simp only [h, and_self, decide_true, Bool.true_and]

/-- The number ahead of place k. -/
def prevAt (ul : List Int) (k : Nat) : Int := if k = 0 then 0 else ul.getD (k - 1) 0
theorem prevAt_zero (ul : List Int) : prevAt ul 0 = 0 := rfl
theorem prevAt_succ (ul : List Int) (k : Nat) : prevAt ul (k + 1) = ul.getD k 0 := rfl
/-- The chain from place k on. -/
def chainAt (many : Int) (ul : List Int) (k : Nat) : Bool := chainB many (prevAt ul k) (ul.drop k)

theorem chainAt_end {many : Int} {ul : List Int} : chainAt many ul ul.length = true := by simp [chainAt, chainB]
theorem chainAt_step {many : Int} {ul : List Int} {k : Nat} (hk : k < ul.length) :
    chainAt many ul k = (decide (prevAt ul k ≤ ul.getD k 0) && (decide (ul.getD k 0 ≤ many) && chainAt many ul (k + 1))) := by
  have h : ul.getD k 0 = ul[k] := by simp [List.getD, hk]
  unfold chainAt
  rw [List.drop_eq_getElem_cons hk, prevAt_succ, h]
  rfl

theorem size_empty {s : ByteArray} (h : s.size = 0) : s = ⟨#[]⟩ := by
  obtain ⟨d⟩ := s
  have : d.size = 0 := h
  congr
  exact Array.size_eq_zero_iff.1 this

set_option maxHeartbeats 2000000 in
set_option maxRecDepth 100000 in
theorem may_any (nm : ByteArray) (many : Int) (ul : List Int) (A : Option Addr) (c : Nat) (w : World) (hs : SeqAt IntE 1 w A ul) (hul : ul.length ≤ maxLen) (hz : nm.size ≤ maxLen) :
    Calls Try.prog 69 #[.agg #[.string nm, .int .i64 many, .slice A ul.length c]] w fun e w' => e = .returned (.bool (mayF ⟨nm, many, ul⟩)) ∧ Below w.heap.size w w' := by
  have HS := Lib.hid hs
  clear hs
  unfold maxLen at hul hz
  have hbb : ∀ O, Below w.heap.size w (w.alloc O) := fun O => (Below.refl _ _).alloc (Nat.le_refl _) O
  have hne : 1 ≤ nm.size → ¬ nm.toList = [] := fun h h' => by
    have hl : nm.toList.length = nm.size := by rw [ByteArray.toList_eq]; exact Array.length_toList
    rw [h'] at hl
    simp at hl
    omega
  by_cases hok : 1 ≤ nm.size ∧ nm.size ≤ 32 ∧ 0 ≤ many ∧ ul.length ≤ 33
  · have HE := Lib.hid (mayF_yes (s := ⟨nm, many, ul⟩) hok)
    obtain ⟨h1, h2, h3, h4⟩ := hok
    have he := hne h1
    have he' : nm.toList.isEmpty = false := by rw [List.isEmpty_eq_false_iff]; exact he
    have HCH : Hid (chainB many 0 ul = chainAt many ul 0) := rfl
    clear hne
    go_enter Try.func69, Try.ntmps69
    go_wp2_with fail
    go_loopw [3, 29] (fun last i wr => ∃ k : Nat, k ≤ ul.length ∧ last = .int .i64 (prevAt ul k) ∧ i = .int .i64 k ∧ wr = w.alloc (.cells #[.string nm, .int .i64 many, .slice A ul.length c] 46) ∧ Hid (chainB many 0 ul = chainAt many ul k)) (fun _ i _ => ul.length - (intOf i).toNat)
    case atStart => exact ⟨0, Nat.zero_le _, rfl, rfl, rfl, HCH⟩
    case round =>
      obtain ⟨k, hk, rfl, rfl, rfl, HC⟩ := hrel
      clear HCH
      by_cases hlt : k < ul.length
      · obtain ⟨a, qb, qo, rfl, hq, hql, hc⟩ := seq_int HS.out (i := k) hlt
        have hc' := (World.cell?_alloc_lt w (.cells #[.string nm, .int .i64 many, .slice (some a) ul.length c] 46) ⟨qb, qo, none⟩ hql).trans hc
        have HST := Lib.hid (chainAt_step (many := many) hlt)
        obtain ⟨x, hx⟩ : ∃ x, ul.getD k 0 = x := ⟨_, rfl⟩
        obtain ⟨y, hy⟩ : ∃ y, prevAt ul k = y := ⟨_, rfl⟩
        have HX := Lib.hid hx
        rw [hx] at hc' HST
        rw [hy] at HST
        rw [hy]
        clear hx hy hc
        by_cases g1 : x < y
        · have HF := Lib.hid (show mayF ⟨nm, many, ul⟩ = false from HE.out.trans (HC.out.trans (HST.out.trans (by rw [decide_eq_false (by omega)]; rfl))))
          clear HE HC HST
          go_wp2_with fail
          go_ret
          exact ⟨ret_bool HF.out, hbb _⟩
        · by_cases g2 : many < x
          · have HF := Lib.hid (show mayF ⟨nm, many, ul⟩ = false from HE.out.trans (HC.out.trans (HST.out.trans (by rw [decide_eq_false (show ¬ x ≤ many by omega), Bool.false_and, Bool.and_false]))))
            clear HE HC HST
            go_wp2_with fail
            go_ret
            exact ⟨ret_bool HF.out, hbb _⟩
          · have HF := Lib.hid (HC.out.trans (HST.out.trans (by rw [decide_eq_true (show y ≤ x by omega), decide_eq_true (show x ≤ many by omega), Bool.true_and, Bool.true_and])))
            clear HE HC HST
            go_wp2_with fail
            go_roundw
            case rel => exact ⟨k + 1, by omega, by rw [prevAt_succ, HX.out], by go_num, trivial, HF⟩
            case measure => simp [intOf]; omega
      · obtain rfl : k = ul.length := by omega
        have HF := Lib.hid (show mayF ⟨nm, many, ul⟩ = true from HE.out.trans (HC.out.trans chainAt_end))
        clear HE HC
        go_wp2_with fail
        go_ret
        exact ⟨ret_bool HF.out, hbb _⟩
  · have HE := Lib.hid (mayF_no (s := ⟨nm, many, ul⟩) hok)
    by_cases h1 : nm.size = 0
    · obtain rfl := size_empty h1
      clear hok hne
      go_enter Try.func69, Try.ntmps69
      go_wp2_with fail
      go_ret
      exact ⟨ret_bool HE.out, hbb _⟩
    · have he := hne (by omega)
      have he' : nm.toList.isEmpty = false := by rw [List.isEmpty_eq_false_iff]; exact he
      clear hne
      by_cases h2 : 32 < nm.size
      · clear hok
        go_enter Try.func69, Try.ntmps69
        go_wp2_with fail
        go_ret
        exact ⟨ret_bool HE.out, hbb _⟩
      · by_cases h3 : many < 0
        · clear hok
          go_enter Try.func69, Try.ntmps69
          go_wp2_with fail
          go_ret
          exact ⟨ret_bool HE.out, hbb _⟩
        · have h4 : 33 < ul.length := by omega
          clear hok
          go_enter Try.func69, Try.ntmps69
          go_wp2_with fail
          go_ret
          exact ⟨ret_bool HE.out, hbb _⟩

end Go.Proofs.Ytpalbdjcfhlniaa
