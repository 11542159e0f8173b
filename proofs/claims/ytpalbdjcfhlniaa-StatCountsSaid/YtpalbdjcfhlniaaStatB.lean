/- The walks over stat's guessing: up, few, Guess; and over the document's up and same. -/
import Derived.Test.YtpalbdjcfhlniaaStatM
import Derived.Deep.RegionHeld3
import Derived.Deep.RegionWith
namespace Go.Proofs.Ytpalbdjcfhlniaa
open Go.RowKit

theorem below_drewN' {B : Nat} {a w : World} (h : Below B a w) (n : Nat) : Below B a (w.drewN n) := ⟨h.os, h.tape, h.output, h.size, h.block⟩

theorem ret_int {k : IntKind} {a b : Int} (h : b = a) : Ending.returned (.int k a) = .returned (.int k b) := by rw [h]
theorem ret_bool {a b : Bool} (h : b = a) : Ending.returned (.bool a) = .returned (.bool b) := by rw [h]

/-- A number by another one, rounded up. -/
def upF (n d : Int) : Int := if n % d = 0 then n / d else n / d + 1

theorem div_half {n d : Int} (h0 : 0 ≤ n) (h1 : 1 ≤ d) (hn : n ≤ 9223372036854775807) (h : ¬ n % d = 0) : n / d ≤ 4611686018427387903 := by
  have hd : 2 ≤ d := by
    rcases Int.lt_or_le d 2 with h2 | h2
    · have : d = 1 := by omega
      subst this; simp at h
    · exact h2
  have h3 : n / d * 2 ≤ n / d * d := Int.mul_le_mul_of_nonneg_left hd (Int.ediv_nonneg h0 (by omega))
  have h4 : n / d * d ≤ n := Int.ediv_mul_le n (by omega)
  omega

theorem upF_nonneg {n d : Int} (h0 : 0 ≤ n) (h1 : 1 ≤ d) : 0 ≤ upF n d := by
  have := Int.ediv_nonneg h0 (show (0 : Int) ≤ d by omega)
  unfold upF; split <;> omega
theorem upF_le {n d : Int} (h0 : 0 ≤ n) (h1 : 1 ≤ d) : upF n d ≤ n := by
  unfold upF
  have h4 : n / d * d ≤ n := Int.ediv_mul_le n (by omega)
  have h5 := Int.ediv_nonneg h0 (show (0 : Int) ≤ d by omega)
  have h6 : n / d * 1 ≤ n / d * d := Int.mul_le_mul_of_nonneg_left h1 h5
  split
  · omega
  · rename_i h
    have h7 := Int.emod_add_mul_ediv n d
    have h8 := Int.emod_nonneg n (show d ≠ 0 by omega)
    rw [Int.mul_comm] at h7
    omega

set_option maxHeartbeats 400000 in
set_option maxRecDepth 100000 in
theorem up_any (n d : Int) (w : World) (h0 : 0 ≤ n) (h1 : 1 ≤ d) (hn : n ≤ 9223372036854775807) :
    Calls Try.prog 46 #[.int .i64 n, .int .i64 d] w fun e w' => e = .returned (.int .i64 (upF n d)) ∧ w = w' := by
  by_cases hm : n % d = 0
  · have HE := Lib.hid (show upF n d = n / d from by simp [upF, hm])
    go_enter Try.func46, Try.ntmps46
    go_wp2_with fail
    go_ret
    exact ⟨ret_int HE.out, rfl⟩
  · have HE := Lib.hid (show upF n d = n / d + 1 from by simp [upF, hm])
    have hq := div_half h0 h1 hn hm
    have hq0 := Int.ediv_nonneg h0 (show (0 : Int) ≤ d by omega)
    have hm' : (n % d != 0) = true := by simpa using hm
    go_enter Try.func46, Try.ntmps46
    go_wp2_with fail
    go_ret
    exact ⟨ret_int HE.out, rfl⟩

set_option maxHeartbeats 400000 in
set_option maxRecDepth 100000 in
theorem rup_any (n d : Int) (w : World) (h0 : 0 ≤ n) (h1 : 1 ≤ d) (hn : n ≤ 9223372036854775807) :
    Calls Try.prog 48 #[.int .i64 n, .int .i64 d] w fun e w' => e = .returned (.int .i64 (upF n d)) ∧ w = w' := by
  have hp := Int.emod_nonneg n (show d ≠ 0 by omega)
  by_cases hm : n % d = 0
  · have HE := Lib.hid (show upF n d = n / d from by simp [upF, hm])
    go_enter Try.func48, Try.ntmps48
    go_wp2_with fail
    go_ret
    exact ⟨ret_int HE.out, rfl⟩
  · have HE := Lib.hid (show upF n d = n / d + 1 from by simp [upF, hm])
    have hq := div_half h0 h1 hn hm
    have hq0 := Int.ediv_nonneg h0 (show (0 : Int) ≤ d by omega)
    have hm' : 0 < n % d := by omega
    clear hm
    go_enter Try.func48, Try.ntmps48
    go_wp2_with fail
    go_ret
    exact ⟨ret_int HE.out, rfl⟩

/-- Are two names one? -/
def sameB (a b : ByteArray) : Bool := (foldS a).toList == (foldS b).toList

set_option maxHeartbeats 400000 in
set_option maxRecDepth 100000 in
theorem rsameN_any (a b : ByteArray) (w : World) (ha : a.size ≤ maxLen) (hb : b.size ≤ maxLen) :
    Calls Try.prog 47 #[.string a, .string b] w fun e w' => e = .returned (.bool (sameB a b)) ∧ Below w.heap.size w w' := by
  have HA := Lib.hid ha
  have HB := Lib.hid hb
  have HS := Lib.hid (show sameB a b = ((foldS a).toList == (foldS b).toList) from rfl)
  clear ha hb
  go_enter Try.func47, Try.ntmps47
  go_wp2_with (first
    | (go_at_call 50; (with_reducible refine (rfold_any a _ HA.out).mono ?_); rintro e w1 ⟨rfl, hb1⟩)
    | (go_at_call 50; (with_reducible refine (rfold_any b _ HB.out).mono ?_); rintro e w2 ⟨rfl, hb2⟩))
  go_ret
  exact ⟨ret_bool HS.out, hb1.trans (hb2.mono hb1.size)⟩

set_option maxHeartbeats 1000000 in
set_option maxRecDepth 100000 in
theorem pick_any (nm name : ByteArray) (many : Int) (u : Value) (nb : Nat) (w : World) (hu : ∃ A n c, u = .slice A n c) (ha : nm.size ≤ maxLen) (hb : name.size ≤ maxLen) (hn : w.cell? ⟨nb, 0, none⟩ = some (.string name)) :
    Calls Try.prog 43 #[.agg #[.string nm, .int .i64 many, u], .pointer (some ⟨nb, 0, none⟩)] w fun e w' => e = .returned (.bool (sameB nm name)) ∧ Below w.heap.size w w' := by
  obtain ⟨A, n, c, rfl⟩ := hu
  have HA := Lib.hid ha
  have HB := Lib.hid hb
  have HS := Lib.hid (show sameB nm name = ((foldS nm).toList == (foldS name).toList) from rfl)
  have hl := World.block_lt_of_cell? w _ hn
  simp only at hl
  clear ha hb
  go_enter Try.func43, Try.ntmps43
  go_wp2_with fail
  have hn' := (World.cell?_alloc_lt w (.cells #[.string nm, .int .i64 many, .slice A n c] 46) ⟨nb, 0, none⟩ hl).trans hn
  have hb0 : Below w.heap.size w (w.alloc (.cells #[.string nm, .int .i64 many, .slice A n c] 46)) := (Below.refl _ _).alloc (Nat.le_refl _) _
  have ho : (w.alloc (.cells #[.string nm, .int .i64 many, .slice A n c] 46)).cell? ⟨w.heap.size, 0, none⟩ = some (.string nm) := World.cell?_alloc_new w _ 46 0
  have hz : (w.alloc (.cells #[.string nm, .int .i64 many, .slice A n c] 46)).heap.size = w.heap.size + 1 := by simp
  clear hn
  generalize w.alloc (.cells #[.string nm, .int .i64 many, .slice A n c] 46) = w0 at hn' hb0 ho hz
  have hl0 : nb < w0.heap.size := by omega
  have hl1 : w.heap.size < w0.heap.size := by omega
  clear hz
  go_region_held3 (fun w' => w'.cell? ⟨w.heap.size, 0, none⟩ = some (.string nm) ∧ w'.cell? ⟨nb, 0, none⟩ = some (.string name)) (go_keep)
    (first
      | (go_at_call 44; (with_reducible refine (fold_any nm _ HA.out).mono ?_); rintro e w1 ⟨rfl, hb1⟩; have c1 := (hb1.cell (p := ⟨w.heap.size, 0, none⟩) hl1).trans ho; have d1 := (hb1.cell (p := ⟨nb, 0, none⟩) hl0).trans hn')
      | (go_at_call 44; (with_reducible refine (fold_any name _ HB.out).mono ?_); rintro e w2 ⟨rfl, hb2⟩; have c2 := (hb2.cell (p := ⟨w.heap.size, 0, none⟩) (Nat.lt_of_lt_of_le hl1 hb1.size)).trans c1; have d2 := (hb2.cell (p := ⟨nb, 0, none⟩) (Nat.lt_of_lt_of_le hl0 hb1.size)).trans d1))
  go_wp2_with fail
  go_ret
  exact ⟨ret_bool HS.out, hb0.drew.trans ((hb1.trans (hb2.mono hb1.size)).mono hb0.size)⟩

/-- Where the first statistic of a name stands. -/
def idxF (l : List St) (name : ByteArray) : Option Nat := l.findIdx? fun s => sameB s.name name
def idxI : Option Nat → Int
  | some i => i
  | none => -1

set_option maxHeartbeats 1000000 in
set_option maxRecDepth 100000 in
theorem index_any (A : Option Addr) (c nb : Nat) (l : List St) (name : ByteArray) (w : World) (hl : SeqAt StatE 3 w A l) (hm : l.length ≤ maxLen) (hz : name.size ≤ maxLen) (hn : w.cell? ⟨nb, 0, none⟩ = some (.string name)) :
    Calls Try.prog 42 #[.slice A l.length c, .func (.func 43) #[] #[.pointer (some ⟨nb, 0, none⟩)]] w fun e w' => e = .returned (.int .i64 (idxI (idxF l name))) ∧ Below w.heap.size w w' := by
  unfold maxLen at hm
  have HZ := Lib.hid hz
  have hnl := World.block_lt_of_cell? w _ hn
  simp only at hnl
  have HL := Lib.hid hl
  clear hz hl
  go_enter Try.func42, Try.ntmps42
  go_wp2_with fail
  go_loopw [8] (fun i wr => ∃ k : Nat, k ≤ l.length ∧ i = .int .i64 k ∧ (∀ j s, j < k → l[j]? = some s → sameB s.name name = false) ∧ Below w.heap.size w wr) (fun i _ => l.length - (intOf i).toNat)
  case atStart => exact ⟨0, Nat.zero_le _, rfl, fun j _ hj => by omega, Below.refl _ _⟩
  case round =>
    obtain ⟨k, hk, rfl, hno, hB⟩ := hrel
    have HN := Lib.hid hno
    clear hno
    by_cases hlt : k < l.length
    · obtain ⟨a, qb, qo, s, rfl, hq, hql, hsk, hE⟩ := (HL.out.below StatE.stays hB).get k hlt
      obtain ⟨u, hu, hus⟩ := hE.unlike
      obtain ⟨A2, c2, rfl, _⟩ := hus
      have h0 := hE.name
      have h1 := hE.many
      have HSZ := Lib.hid hE.sz
      have hnk := (hB.cell (p := ⟨nb, 0, none⟩) hnl).trans hn
      have HSK := Lib.hid hsk
      clear hE hn hsk
      obtain ⟨nm, hnm⟩ : ∃ nm, s.name = nm := ⟨_, rfl⟩
      obtain ⟨many, hmany⟩ : ∃ m, s.many = m := ⟨_, rfl⟩
      obtain ⟨ul, hul⟩ : ∃ m, s.unlike.length = m := ⟨_, rfl⟩
      rw [hnm] at h0 HSZ
      rw [hmany] at h1
      rw [hul] at hu
      have HNM := Lib.hid hnm
      clear hmany hul hnm
      obtain ⟨b, hb⟩ : ∃ b, sameB nm name = b := ⟨_, rfl⟩
      have HP := Lib.hid (pick_any nm name many (.slice A2 ul c2) nb wr ⟨_, _, _, rfl⟩ HSZ.out HZ.out hnk)
      rw [hb] at HP
      have HBB := Lib.hid hb
      clear hb hnk
      cases b
      · go_wp2_with (first
          | (go_at_call 43; (with_reducible refine HP.out.mono ?_); rintro e w1 ⟨rfl, hb1⟩))
        go_roundw
        case rel =>
          refine ⟨k + 1, by omega, by go_num, fun j t hj ht => ?_, hB.trans (hb1.mono hB.size)⟩
          by_cases hjk : j = k
          · subst hjk
            have := HSK.out
            rw [this] at ht
            injection ht with ht
            subst ht
            rw [HNM.out]
            exact HBB.out
          · exact HN.out j t (by omega) ht
        case measure => simp [intOf]; omega
      · go_wp2_with (first
          | (go_at_call 43; (with_reducible refine HP.out.mono ?_); rintro e w1 ⟨rfl, hb1⟩))
        go_ret
        refine ⟨ret_int ?_, hB.trans (hb1.mono hB.size)⟩
        have hsk := HSK.out
        have : idxF l name = some k := by
          unfold idxF
          rw [List.findIdx?_eq_some_iff_getElem]
          refine ⟨hlt, ?_, fun j hj => ?_⟩
          · have : l[k] = s := by rw [List.getElem?_eq_getElem hlt] at hsk; injection hsk
            rw [this, HNM.out, HBB.out]
          · have := HN.out j l[j] hj (List.getElem?_eq_getElem (by omega))
            simp [this]
        rw [this]; rfl
    · obtain rfl : k = l.length := by omega
      go_wp2_with fail
      go_ret
      refine ⟨ret_int ?_, hB⟩
      have : idxF l name = none := by
        unfold idxF
        rw [List.findIdx?_eq_none_iff]
        intro x hx
        obtain ⟨j, hj, rfl⟩ := List.getElem_of_mem hx
        exact HN.out j _ hj (List.getElem?_eq_getElem hj)
      rw [this]; rfl

end Go.Proofs.Ytpalbdjcfhlniaa
