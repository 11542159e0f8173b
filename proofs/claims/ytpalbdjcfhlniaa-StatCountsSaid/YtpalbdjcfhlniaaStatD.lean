/- The walk over stat's Guess. -/
import Derived.Test.YtpalbdjcfhlniaaStatC
namespace Go.Proofs.Ytpalbdjcfhlniaa
open Go.RowKit

/-- How many rows there may be by what is known. -/
def baseF (l : List St) (name : ByteArray) (eq : Int) : Int :=
  match (idxF l name).bind fun i => l[i]? with
  | some s => fewF s.many s.unlike eq
  | none => if 0 < eq then 10 else 1000
def guessF (l : List St) (name : ByteArray) (eq : Int) (ranged : Bool) : Int := if ranged then upF (baseF l name eq) 4 else baseF l name eq

theorem fewF_nonneg (many : Int) (ul : List Int) (eq : Int) : 0 ≤ fewF many ul eq := by
  have h := posF_nonneg many
  unfold fewF; split
  · exact h
  · refine upF_nonneg h ?_
    split
    · omega
    · unfold oneF; split <;> omega
theorem fewF_le (many : Int) (ul : List Int) (eq : Int) : fewF many ul eq ≤ posF many := by
  have h := posF_nonneg many
  unfold fewF; split
  · exact Int.le_refl _
  · refine upF_le h ?_
    split
    · omega
    · unfold oneF; split <;> omega
theorem posF_le {m : Int} (h : m ≤ 9223372036854775807) : posF m ≤ 9223372036854775807 := by unfold posF; split <;> omega

theorem idxF_some {l : List St} {name : ByteArray} {i : Nat} (h : idxF l name = some i) : i < l.length := by
  unfold idxF at h
  rw [List.findIdx?_eq_some_iff_getElem] at h
  exact h.1

set_option maxHeartbeats 2000000 in
set_option maxRecDepth 100000 in
theorem guess_any (A : Option Addr) (c : Nat) (l : List St) (name : ByteArray) (eq : Int) (ranged : Bool) (w : World) (hl : SeqAt StatE 3 w A l) (hm : l.length ≤ maxLen) (hu : ∀ s ∈ l, s.unlike.length ≤ maxLen) (hz : name.size ≤ maxLen) :
    Calls Try.prog 23 #[.slice A l.length c, .string name, .int .i64 eq, .bool ranged] w fun e w' => e = .returned (.int .i64 (guessF l name eq ranged)) ∧ Below w.heap.size w w' := by
  have HL := Lib.hid hl
  have HM := Lib.hid hm
  have HZ := Lib.hid hz
  have HU := Lib.hid hu
  have hb0 : Below w.heap.size w (w.alloc (.cells #[.string name] 9)) := (Below.refl _ _).alloc (Nat.le_refl _) _
  have HI := fun nb W h1 h2 => index_any A c nb l name W h1 HM.out HZ.out h2
  unfold maxLen at hm
  clear hl hz hu
  have hw0 : (w.alloc (.cells #[.string name] 9)).cell? ⟨w.heap.size, 0, none⟩ = some (.string name) := World.cell?_alloc_new w _ 9 0
  have HW0 := Lib.hid hw0
  clear hw0
  cases hi : idxF l name with
  | none =>
    rw [hi, show idxI none = -1 from rfl] at HI
    have HB := Lib.hid (show baseF l name eq = if 0 < eq then 10 else 1000 from by simp only [baseF, hi]; rfl)
    clear hi
    have HC := Lib.hid (HI w.heap.size _ (HL.out.below StatE.stays hb0) HW0.out)
    clear HI
    by_cases he : 0 < eq
    · have HB2 := Lib.hid (HB.out.trans (if_pos he))
      clear HB
      cases ranged
      · have HE := Lib.hid (show guessF l name eq false = 10 from HB2.out)
        go_enter Try.func23, Try.ntmps23
        go_wp2_with (first
          | (go_at_call 42; (with_reducible refine HC.out.mono ?_); rintro e w1 ⟨rfl, hb1⟩))
        go_ret
        exact ⟨ret_int HE.out, hb0.trans (hb1.mono hb0.size)⟩
      · have HE := Lib.hid (show guessF l name eq true = upF 10 4 from congrArg (upF · 4) HB2.out)
        go_enter Try.func23, Try.ntmps23
        go_wp2_with (first
          | (go_at_call 42; (with_reducible refine HC.out.mono ?_); rintro e w1 ⟨rfl, hb1⟩)
          | (go_at_call 46; (with_reducible refine (up_any _ _ _ (by omega) (by omega) (by omega)).mono ?_); rintro e w2 ⟨rfl, rfl⟩))
        go_ret
        exact ⟨ret_int HE.out, hb0.trans (hb1.mono hb0.size)⟩
    · have HB2 := Lib.hid (HB.out.trans (if_neg he))
      clear HB
      cases ranged
      · have HE := Lib.hid (show guessF l name eq false = 1000 from HB2.out)
        go_enter Try.func23, Try.ntmps23
        go_wp2_with (first
          | (go_at_call 42; (with_reducible refine HC.out.mono ?_); rintro e w1 ⟨rfl, hb1⟩))
        go_ret
        exact ⟨ret_int HE.out, hb0.trans (hb1.mono hb0.size)⟩
      · have HE := Lib.hid (show guessF l name eq true = upF 1000 4 from congrArg (upF · 4) HB2.out)
        go_enter Try.func23, Try.ntmps23
        go_wp2_with (first
          | (go_at_call 42; (with_reducible refine HC.out.mono ?_); rintro e w1 ⟨rfl, hb1⟩)
          | (go_at_call 46; (with_reducible refine (up_any _ _ _ (by omega) (by omega) (by omega)).mono ?_); rintro e w2 ⟨rfl, rfl⟩))
        go_ret
        exact ⟨ret_int HE.out, hb0.trans (hb1.mono hb0.size)⟩
  | some i =>
    rw [hi, show idxI (some i) = (i : Int) from rfl] at HI
    have hil := idxF_some hi
    obtain ⟨s, hs⟩ : ∃ s, l[i]? = some s := ⟨_, List.getElem?_eq_getElem hil⟩
    have HB := Lib.hid (show baseF l name eq = fewF s.many s.unlike eq from by simp only [baseF, hi, Option.bind_some, hs])
    have HC := Lib.hid (HI w.heap.size _ (HL.out.below StatE.stays hb0) HW0.out)
    have HS := Lib.hid hs
    have HUS := Lib.hid (HU.out s (List.mem_of_getElem? hs))
    clear HI hi hs
    have h0 := fewF_nonneg s.many s.unlike eq
    have hle := fewF_le s.many s.unlike eq
    have HAT : ∀ w1, Below (w.alloc (.cells #[.string name] 9)).heap.size (w.alloc (.cells #[.string name] 9)) w1 → ∃ a qb qo A2 c2, A = some a ∧ a.add (i * 3) = ⟨qb, qo, none⟩ ∧ w1.cell? ⟨qb, qo, none⟩ = some (.string s.name) ∧ w1.cell? ⟨qb, qo + 1, none⟩ = some (.int .i64 s.many) ∧
        w1.cell? ⟨qb, qo + 2, none⟩ = some (.slice A2 s.unlike.length c2) ∧ SeqAt IntE 1 w1 A2 s.unlike ∧ s.many ≤ 9223372036854775807 := fun w1 hb1 => by
      obtain ⟨a, qb, qo, e, eq, hl, hE⟩ := ((HL.out.below StatE.stays hb0).below StatE.stays hb1) i s HS.out
      obtain ⟨v, hv, A2, c2, rfl, hsq⟩ := hE.unlike
      exact ⟨a, qb, qo, A2, c2, e, eq, hE.name, hE.many, hv, hsq, hE.mb⟩
    have HAT' := Lib.hid HAT
    clear HAT
    by_cases he : 0 < eq
    all_goals
      cases ranged
      · have HE := Lib.hid (show guessF l name eq false = fewF s.many s.unlike eq from HB.out)
        clear h0 hle
        go_enter Try.func23, Try.ntmps23
        go_wp2_with (first
          | (go_at_call 42; (with_reducible refine HC.out.mono ?_); rintro e w1 ⟨rfl, hb1⟩; obtain ⟨a, qb, qo, A2, c2, rfl, hq, k0, k1, k2, k3, k4⟩ := HAT'.out w1 hb1)
          | (go_at_call 45; (with_reducible refine (few_any s.name s.many eq A2 c2 s.unlike _ k3 HUS.out k4).mono ?_); rintro e w2 ⟨rfl, hb2⟩))
        go_ret
        exact ⟨ret_int HE.out, hb0.trans ((hb1.trans (hb2.mono hb1.size)).mono hb0.size)⟩
      · have HE := Lib.hid (show guessF l name eq true = upF (fewF s.many s.unlike eq) 4 from congrArg (upF · 4) HB.out)
        have H0 := Lib.hid h0
        have HLE := Lib.hid hle
        clear h0 hle
        go_enter Try.func23, Try.ntmps23
        go_wp2_with (first
          | (go_at_call 42; (with_reducible refine HC.out.mono ?_); rintro e w1 ⟨rfl, hb1⟩; obtain ⟨a, qb, qo, A2, c2, rfl, hq, k0, k1, k2, k3, k4⟩ := HAT'.out w1 hb1)
          | (go_at_call 45; (with_reducible refine (few_any s.name s.many eq A2 c2 s.unlike _ k3 HUS.out k4).mono ?_); rintro e w2 ⟨rfl, hb2⟩)
          | (go_at_call 46; (with_reducible refine (up_any _ _ _ H0.out (by omega) (Int.le_trans HLE.out (posF_le k4))).mono ?_); rintro e w3 ⟨rfl, rfl⟩))
        go_ret
        exact ⟨ret_int HE.out, hb0.trans ((hb1.trans (hb2.mono hb1.size)).mono hb0.size)⟩

end Go.Proofs.Ytpalbdjcfhlniaa
