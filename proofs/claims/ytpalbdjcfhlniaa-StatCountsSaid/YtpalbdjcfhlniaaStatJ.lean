/- The walks that lay a value's bytes: number, lay. -/
import Derived.Test.YtpalbdjcfhlniaaStatG
import Derived.Maps.AppendAt
import Derived.Lib.AppendStr
namespace Go.Proofs.Ytpalbdjcfhlniaa
open Go.RowKit

/-- The first k bytes of a number, the lowest first. -/
def leTo (n : Nat) (k : Nat) : List UInt8 := (List.range k).map fun i => UInt8.ofNat (n / 256 ^ i)
theorem leTo_succ (n k : Nat) : leTo n (k + 1) = leTo n k ++ [UInt8.ofNat (n / 256 ^ k)] := by simp [leTo, List.range_succ]
theorem leTo_length (n k : Nat) : (leTo n k).length = k := by simp [leTo]

def byteCells (l : List UInt8) : List Value := l.map fun c => .int .u8 c.toNat
theorem byteCells_append (a b : List UInt8) : byteCells (a ++ b) = byteCells a ++ byteCells b := by simp [byteCells]

theorem Try.info5 : (Try.prog.info? 5).map (fun i => (i.zero, i.size, i.bytes)) = some (some (.int .u8 0), 1, 1) := by kernel_rfl

/-- A row of the call's own that grew: where it lies, and what else may have turned. -/
structure Moved (w : World) (v : Value) (w' : World) (v' : Value) : Prop where
  grown : w.grownBy w' v.ownBlock
  place : v'.ownBlock = v.ownBlock ∨ ∃ g, v'.ownBlock = some g ∧ w.heap.size ≤ g

theorem Moved.refl (w : World) (v : Value) : Moved w v w v := ⟨World.grownBy.refl w _, .inl rfl⟩
theorem Moved.trans {w w1 w2 : World} {v v1 v2 : Value} (h : Moved w v w1 v1) (k : Moved w1 v1 w2 v2) : Moved w v w2 v2 := by
  have hs := h.grown.size
  refine ⟨⟨k.grown.os.trans h.grown.os, k.grown.tape.trans h.grown.tape, k.grown.output.trans h.grown.output, Nat.le_trans hs k.grown.size, fun i hi hne => ?_⟩, ?_⟩
  · refine (k.grown.block i (by omega) ?_).trans (h.grown.block i hi hne)
    rcases h.place with e | ⟨g, e, hg⟩
    · rw [e]; exact hne
    · rw [e]; intro e'; injection e' with e'; omega
  · rcases k.place with e | ⟨g, e, hg⟩
    · rcases h.place with e' | ⟨g, e', hg⟩
      · exact .inl (e.trans e')
      · exact .inr ⟨g, e.trans e', hg⟩
    · exact .inr ⟨g, e, by omega⟩
theorem Moved.alloc {w w1 : World} {v v1 : Value} (h : Moved w v w1 v1) (o : Obj) : Moved w v (w1.alloc o) v1 :=
  h.trans ⟨⟨rfl, rfl, rfl, by simp, fun i hi _ => Below.heap_alloc w1 o i hi⟩, .inl rfl⟩
theorem Moved.below {w w1 w2 : World} {v v1 : Value} (h : Moved w v w1 v1) (hb : Below w1.heap.size w1 w2) : Moved w v w2 v1 :=
  h.trans ⟨⟨hb.os, hb.tape, hb.output, hb.size, fun i hi _ => hb.block i hi⟩, .inl rfl⟩
theorem Moved.drew {w w1 : World} {v v1 : Value} (h : Moved w v w1 v1) : Moved w v w1.drew v1 := ⟨⟨h.grown.os, h.grown.tape, h.grown.output, h.grown.size, h.grown.block⟩, h.place⟩
theorem Moved.step {w w1 w2 : World} {v v1 v2 : Value} {o : Obj} (h : Moved w v w1 v1) (hg : (w1.alloc o).grownBy w2 v1.ownBlock) (hp : v2.ownBlock = v1.ownBlock ∨ v2.ownBlock = some (w1.heap.size + 1)) : Moved w v w2 v2 :=
  (h.alloc o).trans ⟨hg, hp.imp id fun e => ⟨_, e, by simp⟩⟩

/-- What is appended is owned anew. -/
def Grew (w : World) (B : Nat) (v : Value) (l : List UInt8) (e : Ending) (w' : World) : Prop := ∃ v', e = .returned v' ∧ w'.ownsRow B 5 1 v' l.length (byteCells l) ∧ Moved w v w' v'

theorem mod_step (n k : Nat) : n / 256 ^ k / 256 = n / 256 ^ (k + 1) := by rw [Nat.div_div_eq_div_mul, Nat.pow_succ]

set_option maxHeartbeats 1000000 in
set_option maxRecDepth 100000 in
theorem number_any (B : Nat) (v : Value) (l : List UInt8) (n : Nat) (w : World) (h : w.ownsRow B 5 1 v l.length (byteCells l)) (hB : B ≤ w.heap.size) (hl : l.length ≤ 100000000) (hn : n < 18446744073709551616) :
    Calls Try.prog 70 #[v, .int .u64 n] w (Grew w B v (l ++ leTo n 8)) := by
  obtain ⟨i0, hi, hz0, hz1, hz2⟩ := info_parts Try.info5
  have H := Lib.hid h
  clear h
  go_enter Try.func70, Try.ntmps70
  go_wp2_with fail
  go_loopw [0, 1, 5] (fun b m i wr => ∃ k : Nat, k ≤ 8 ∧ i = .int .i64 k ∧ m = .int .u64 ((n / 256 ^ k : Nat) : Int) ∧ wr.ownsRow B 5 1 b (l.length + k) (byteCells (l ++ leTo n k)) ∧ Moved w v wr b)
    (fun _ _ i _ => 8 - (intOf i).toNat)
  case atStart => exact ⟨0, by omega, rfl, by simp, by simpa [leTo] using H.out, Moved.refl _ _⟩
  case round =>
    obtain ⟨k, hk, rfl, rfl, hown, hmv⟩ := hrel
    by_cases hlt : k < 8
    · have hd : n / 256 ^ k ≤ n := Nat.div_le_self _ _
      have HE := Lib.hid (mod_step n k)
      have HS := Lib.hid (leTo_succ n k)
      have hs := hmv.grown.size
      obtain ⟨m, hm⟩ : ∃ m, n / 256 ^ k = m := ⟨_, rfl⟩
      rw [hm] at hd HE HS
      have HM := Lib.hid hm
      rw [hm]
      clear hm
      have hm64 : m < 18446744073709551616 := by omega
      go_wp2_with (first
        | (at_builtin; refine wpList_append_own_at _ rfl (.tmp 7) (.tmp 10) 113 rfl B 5 i0 (.int .u8 0) 1 1 Try.underlying113 hi hz0 hz1 hz2 rfl (by decide) _ _ _ rfl (hown.alloc _) ⟨wr.heap.size, 0, none⟩ 1 1 [.int .u8 ((m : Int) % 256)] rfl rfl ?c1 ?c2 ?c3 ?c4 ?c5 ?_))
      case c1 =>
        intro j u hj
        match j, hj with
        | 0, hj => simp at hj; subst hj; simp [Addr.add]
      case c2 => intro u hu; simp at hu; subst hu; rfl
      case c3 => unfold maxLen; omega
      case c4 => omega
      case c5 => simp; omega
      intro v' w1 hown' hgrow _ hpl
      have hmv' := hmv.step hgrow hpl
      have ho : Hid (w1.ownsRow B 5 1 v' (l.length + (k + 1)) (byteCells (l ++ leTo n (k + 1)))) := by
        rw [HS.out, ← List.append_assoc, byteCells_append]
        have : byteCells [UInt8.ofNat m] = [Value.int .u8 ((m : Int) % 256)] := by
          simp [byteCells]
        rw [this]; exact hown'
      clear hown' hgrow hown hmv hpl
      go_wp2_with fail
      go_roundw
      case rel => exact ⟨k + 1, by omega, by go_num, by rw [← HE.out]; first | rfl | go_num, ho.out, hmv'⟩
      case measure => simp [intOf] <;> omega
    · obtain rfl : k = 8 := by omega
      go_wp2_with fail
      go_ret
      exact ⟨_, rfl, by rw [List.length_append, leTo_length]; exact hown, hmv⟩

end Go.Proofs.Ytpalbdjcfhlniaa
