/- The walk over stat's Read. -/
import Derived.Test.YtpalbdjcfhlniaaStatRb
namespace Go.Proofs.Ytpalbdjcfhlniaa
open Go.RowKit

/-- What rows say. -/
def readsB (rows : List (List Vl)) : Bool := rows.all readB
theorem readsB_no {rows : List (List Vl)} {k : Nat} {r : List Vl} (hr : rows[k]? = some r) (h : readB r = false) : readsB rows = false := by
  unfold readsB
  rw [List.all_eq_false]
  exact ⟨r, List.mem_of_getElem? hr, by rw [h]; simp⟩
theorem readsB_yes {rows : List (List Vl)} (h : ∀ k r, k < rows.length → rows[k]? = some r → readB r = true) : readsB rows = true := by
  unfold readsB
  rw [List.all_eq_true]
  intro r hr
  obtain ⟨k, hk⟩ := List.getElem?_of_mem hr
  exact h k r (List.getElem?_eq_some_iff.1 hk).1 hk
theorem heads_take {rows : List (List Vl)} {k : Nat} {r : List Vl} (hr : rows[k]? = some r) : (rows.take (k + 1)).map headSt = (rows.take k).map headSt ++ [headSt r] := by
  rw [List.take_add_one, hr]; simp
theorem readB_upto {rows : List (List Vl)} {q : Nat} {r : List Vl} (h : ∀ k v, k < q → rows[k]? = some v → readB v = true) (hr : rows[q]? = some r) (hn : readB r = true) : ∀ k v, k < q + 1 → rows[k]? = some v → readB v = true := fun k u hk hu => by
  by_cases hkq : k < q
  · exact h k u hkq hu
  · obtain rfl : k = q := by omega
    rw [hr] at hu
    injection hu with hu
    subst hu
    exact hn

/-- Rows fit to be read. -/
def RowsFit (rows : List (List Vl)) : Prop := rows.length ≤ 1000 ∧ ∀ r ∈ rows, r.length ≤ 100000 ∧ ∀ v ∈ r, v.n ≤ 9223372036854775807 ∧ v.s.size ≤ maxLen
theorem head_ok {r : List Vl} (h : ∀ v ∈ r, v.n ≤ 9223372036854775807 ∧ v.s.size ≤ maxLen) : (headSt r).name.size ≤ maxLen ∧ (headSt r).many ≤ 9223372036854775807 := by
  have key : ∀ k, (r.getD k vl0).n ≤ 9223372036854775807 ∧ (r.getD k vl0).s.size ≤ maxLen := fun k => by
    rw [List.getD_eq_getElem?_getD]
    cases hk : r[k]? with
    | none => exact ⟨by simp [vl0], Nat.zero_le _⟩
    | some v => exact h v (List.mem_of_getElem? hk)
  exact ⟨(key 0).2, (key 1).1⟩

def ReadsOut (w : World) (rows : List (List Vl)) (code : Int) (e : Ending) (w' : World) : Prop :=
  Below w.heap.size w w' ∧ ((readsB rows = false ∧ e = .returned (.tuple #[.slice none 0 0, .int .i64 8])) ∨
    (readsB rows = true ∧ ∃ A c, e = .returned (.tuple #[.slice A (rows.map headSt).length c, .int .i64 code]) ∧ SeqAt StatE 3 w' A (rows.map headSt)))

set_option maxHeartbeats 4000000 in
set_option maxRecDepth 100000 in
theorem sread_any (rows : List (List Vl)) (A : Option Addr) (c : Nat) (w : World) (hr : SeqAt RowC 1 w A rows) (hf : RowsFit rows) :
    Calls Try.prog 30 #[.slice A rows.length c] w (ReadsOut w rows 0) := by
  obtain ⟨i46, ji, jz0, jz1, jz2⟩ := info_parts Try.info46
  have hrl := hf.1
  have HF := Lib.hid hf.2
  have HR := Lib.hid hr
  clear hr hf
  obtain ⟨B, hB⟩ : ∃ B, w.heap.size = B := ⟨_, rfl⟩
  have HB := Lib.hid hB
  clear hB
  go_enter Try.func30, Try.ntmps30
  go_wp2_with fail
  go_loopw [4, 11] (fun o i wr => ∃ (k : Nat) (us : List Value), k ≤ rows.length ∧ i = .int .i64 k ∧ OutOwn wr B wr.heap.size o ((rows.take k).map headSt) us ∧ Below B w wr ∧ Hid (∀ j r, j < k → rows[j]? = some r → readB r = true)) (fun _ i _ => rows.length - (intOf i).toNat)
  case atStart => exact ⟨0, [], Nat.zero_le _, rfl, OutOwn.nil _ _ _, Below.refl _ _, fun j r h => by omega⟩
  case round =>
    obtain ⟨k, us, hk, rfl, hout, hbel, HALL⟩ := hrel
    obtain ⟨L, hL⟩ : ∃ L, (rows.take k).map headSt = L := ⟨_, rfl⟩
    rw [hL] at hout
    have HLE := Lib.hid hL
    have HLL := Lib.hid (show L.length = k by rw [← hL, List.length_map, List.length_take]; omega)
    clear hL
    have HO := Lib.hid hout
    have hBw : B ≤ wr.heap.size := by have := hbel.size; rw [HB.out] at this; exact this
    have hbw : Below w.heap.size w wr := by rw [HB.out]; exact hbel
    clear hout
    by_cases hlt : k < rows.length
    · obtain ⟨a, qb, qo, r, rfl, hq, hql, hsk, hE⟩ := (HR.out.below RowC.stays hbw).get k hlt
      rw [Nat.mul_one] at hq
      obtain ⟨v, hv, A1, c1, rfl, h1, h2, hsq⟩ := hE
      have HSK := Lib.hid hsk
      have hfr := HF.out r (List.mem_of_getElem? hsk)
      have HRD := Lib.hid (read_any r A1 c1 wr hsq h1 h2 hfr.1)
      have HOK := Lib.hid (head_ok hfr.2)
      clear hsk hsq hfr h1 h2
      obtain ⟨rb, hrb⟩ : ∃ b, readB r = b := ⟨_, rfl⟩
      obtain ⟨n1, hn1⟩ : ∃ n, r.length = n := ⟨_, rfl⟩
      rw [hn1] at hv HRD
      have HRB := Lib.hid hrb
      clear hrb hn1
      cases rb
      · have HE := Lib.hid (readsB_no HSK.out HRB.out)
        go_wp2_with (first
          | (go_at_call 57; (with_reducible refine HRD.out.mono ?_); rintro e w2 ⟨hb2, nm, many, A5, n5, c5, rfl, _⟩; rw [HRB.out]))
        refine bodyPost_ret (v := .tuple #[.slice none 0 0, .int .i64 8]) (by simp [results, Try.results30, go_sem]) rfl ⟨?_, .inl ⟨HE.out, rfl⟩⟩
        exact (hbw.trans (hb2.mono hbw.size)).alloc (by have := hb2.size; have := hbw.size; omega) _
      · have HALL' := Lib.hid (readB_upto HALL.out HSK.out HRB.out)
        go_wp2_with (first
          | (go_at_call 57; (with_reducible refine HRD.out.mono ?_); rintro e w2 ⟨hb2, nm, many, A5, n5, c5, rfl, hown⟩; rw [HRB.out]; obtain ⟨rfl, rfl, ho⟩ := hown HRB.out; have HOW := Lib.hid (own_base' ho hBw); clear hown ho; have hO2 := HO.out.below hb2; have HO2 := Lib.hid hO2; clear hO2)
          | (at_builtin; refine wpList_append_own _ rfl (.tmp 22) (.tmp 24) 43 rfl B 46 i46 (.agg #[.string ⟨#[]⟩, .int .i64 0, .slice none 0 0]) 3 48 Try.underlying43 ji jz0 jz1 jz2 rfl (by decide) _ _ _ rfl ((HO2.out.row.alloc _).alloc _) ⟨w2.heap.size + 1, 0, none⟩ 1 1 [.string (headSt r).name, .int .i64 (headSt r).many, .slice A5 n5 c5] rfl rfl ?c1 ?c2 ?c3 ?c4 ?c5 ?_))
        case c1 =>
          intro j u hj
          match j, hj with
          | 0, hj => simp at hj; subst hj; simp [Addr.add, go_sem]
          | 1, hj => simp at hj; subst hj; simp [Addr.add, go_sem]
          | 2, hj => simp at hj; subst hj; simp [Addr.add, go_sem]
        case c2 => intro u hu; simp at hu; rcases hu with rfl | rfl | rfl <;> rfl
        case c3 => have := HLL.out; unfold maxLen; omega
        case c4 => have := HLL.out; omega
        case c5 => have := hb2.size; simp; omega
        intro v' w3 hown' hgrow _
        have HP : Hid (OutOwn w3 B w3.heap.size v' ((rows.take (k + 1)).map headSt) (us ++ [.slice A5 n5 c5])) := by
          show OutOwn _ _ _ _ _ _
          rw [heads_take HSK.out, HLE.out]
          exact ((HO2.out.alloc _).alloc _).push (s := headSt r) ((HOW.out.alloc _).alloc _) hgrow hown'
        have hB2 := hb2.size
        have hB3 : Below B w w3 := (((hbel.trans (hb2.mono hBw)).alloc (by omega) _).alloc (by simp; omega) _).grown hgrow (by simp; omega) (fun g hg => (HO2.out.row.lt g hg).1)
        clear hown' hgrow
        go_wp2_with fail
        go_roundw
        case rel => exact ⟨k + 1, _, by omega, by go_num, HP.out, hB3, HALL'⟩
        case measure => simp [intOf] <;> omega
    · obtain rfl : k = rows.length := by omega
      have hE := readsB_yes HALL.out
      have HE := Lib.hid hE
      have hsn := HO.out.seen (by
        rw [← HLE.out, List.take_length]
        intro s hs
        obtain ⟨r, hr, rfl⟩ := List.mem_map.1 hs
        exact head_ok (HF.out r hr).2)
      rw [← HLE.out, List.take_length] at hsn
      obtain ⟨A', c', rfl, hs⟩ := hsn
      have HS := Lib.hid hs
      clear hs hE
      go_wp2_with fail
      exact bodyPost_ret (v := .tuple #[.slice A' (rows.map headSt).length c', .int .i64 0]) (by simp [results, Try.results30, go_sem]) rfl ⟨hbw, .inr ⟨HE.out, A', c', rfl, HS.out⟩⟩

end Go.Proofs.Ytpalbdjcfhlniaa
