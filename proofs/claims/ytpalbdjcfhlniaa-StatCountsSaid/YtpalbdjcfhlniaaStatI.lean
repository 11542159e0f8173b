/- The walk over stat's Rows. -/
import Derived.Test.YtpalbdjcfhlniaaStatH
namespace Go.Proofs.Ytpalbdjcfhlniaa
open Go.RowKit

theorem gob {a w : World} (h : Below a.heap.size a w) (row : Option Nat) : a.grownBy w row := ⟨h.os, h.tape, h.output, h.size, fun i hi _ => h.block i hi⟩

set_option maxHeartbeats 4000000 in
set_option maxRecDepth 100000 in
theorem rows_own (A : Option Addr) (c : Nat) (l : List St) (w : World) (hl : SeqAt StatE 3 w A l) (hm : l.length ≤ 100) (hu : ∀ s ∈ l, s.unlike.length ≤ 100) :
    Calls Try.prog 31 #[.slice A l.length c] w fun e w' => ∃ v cs, e = .returned v ∧ w'.ownsRow w.heap.size 66 1 v l.length cs ∧ RowsOwn w' w.heap.size w'.heap.size l cs ∧ Below w.heap.size w w' := by
  obtain ⟨i0, hi, hz0, hz1, hz2⟩ := info_parts Try.info78
  obtain ⟨i1, gi, gz0, gz1, gz2⟩ := info_parts Try.info66
  have HL := Lib.hid hl
  have HU := Lib.hid hu
  clear hl hu
  obtain ⟨B, hB⟩ : ∃ B, w.heap.size = B := ⟨_, rfl⟩
  have HB := Lib.hid hB
  go_enter Try.func31, Try.ntmps31
  go_wp2_with fail
  clear hB
  go_loopw [3, 11] (fun o i wr => ∃ (k : Nat) (cs : List Value), k ≤ l.length ∧ i = .int .i64 k ∧ cs.length = k ∧ wr.ownsRow B 66 1 o k cs ∧ RowsOwn wr B wr.heap.size l cs ∧ Below B w wr)
    (fun _ i _ => l.length - (intOf i).toNat)
  case atStart => exact ⟨0, [], Nat.zero_le _, rfl, rfl, World.ownsRow_nil _ _ _ _, fun j c s hc => by simp at hc, Below.refl _ _⟩
  case round =>
    obtain ⟨k, cs, hk, rfl, hcl, hown, hrows, hbel⟩ := hrel
    have HCL := Lib.hid hcl
    have HROWS := Lib.hid hrows
    have HOWN := Lib.hid hown
    have hbs := hbel.size
    rw [HB.out] at hbs
    clear hcl hrows hown
    by_cases hlt : k < l.length
    · obtain ⟨a, qb, qo, s, rfl, hq, hql, hsk, hE⟩ := HL.out.get k hlt
      have hqB : qb < B := by rw [← HB.out]; exact hql
      obtain ⟨u, hu, A2, c2, rfl, hsq⟩ := hE.unlike
      have G0 := Lib.hid hE.name
      have G1 := Lib.hid hE.many
      have h0 := (hbel.cell (p := ⟨qb, qo, none⟩) hqB).trans hE.name
      have h1 := (hbel.cell (p := ⟨qb, qo + 1, none⟩) hqB).trans hE.many
      have h2 := (hbel.cell (p := ⟨qb, qo + 2, none⟩) hqB).trans hu
      have HSQ := Lib.hid hsq
      have HUS := Lib.hid (HU.out s (List.mem_of_getElem? hsk))
      have HSK := Lib.hid hsk
      clear hE hsq hsk hu
      obtain ⟨nm, hnm⟩ : ∃ nm, s.name = nm := ⟨_, rfl⟩
      obtain ⟨many, hmany⟩ : ∃ nm, s.many = nm := ⟨_, rfl⟩
      obtain ⟨ul, hul⟩ : ∃ nm, s.unlike = nm := ⟨_, rfl⟩
      have HS : Hid (s = ⟨nm, many, ul⟩) := by subst hnm; subst hmany; subst hul; exact rfl
      rw [hnm] at h0
      rw [hmany] at h1
      rw [hul] at h2 HSQ HUS
      have hul100 := HUS.out
      have HUL := Lib.hid hul
      clear hnm hmany hul
      go_wp2_with fail
      have b0 : Below wr.heap.size wr (wr.alloc (.cells #[.string nm, .int .i64 many, .slice A2 ul.length c2] 46)) := (Below.refl _ _).alloc (Nat.le_refl _) _
      have e0 : (wr.alloc (.cells #[.string nm, .int .i64 many, .slice A2 ul.length c2] 46)).cell? ⟨wr.heap.size, 0, none⟩ = some (.string nm) := World.cell?_alloc_new wr _ 46 0
      have e1 : (wr.alloc (.cells #[.string nm, .int .i64 many, .slice A2 ul.length c2] 46)).cell? ⟨wr.heap.size, 1, none⟩ = some (.int .i64 many) := World.cell?_alloc_new wr _ 46 1
      have e2 : (wr.alloc (.cells #[.string nm, .int .i64 many, .slice A2 ul.length c2] 46)).cell? ⟨wr.heap.size, 2, none⟩ = some (.slice A2 ul.length c2) := World.cell?_alloc_new wr _ 46 2
      have hz : (wr.alloc (.cells #[.string nm, .int .i64 many, .slice A2 ul.length c2] 46)).heap.size = wr.heap.size + 1 := by simp
      clear h0 h1 h2
      generalize wr.alloc (.cells #[.string nm, .int .i64 many, .slice A2 ul.length c2] 46) = w0 at b0 e0 e1 e2 hz
      obtain ⟨bx, hbx⟩ : ∃ bx, wr.heap.size = bx := ⟨_, rfl⟩
      have HBX := Lib.hid hbx
      rw [hbx] at e0 e1 e2 hz ⊢
      have hlx : bx < w0.heap.size := by omega
      clear hz hbx
      go_region_held3 (fun w' => w'.cell? ⟨bx, 0, none⟩ = some (.string nm) ∧ w'.cell? ⟨bx, 1, none⟩ = some (.int .i64 many)) (go_keep)
        (first
          | (go_at_call 58; (with_reducible refine (str_any nm _).mono ?_); rintro e w1 ⟨rfl, hb1⟩; have f0 := (hb1.cell (p := ⟨bx, 0, none⟩) hlx).trans e0; have f1 := (hb1.cell (p := ⟨bx, 1, none⟩) hlx).trans e1; have f2 := (hb1.cell (p := ⟨bx, 2, none⟩) hlx).trans e2)
          | (go_at_call 59; (with_reducible refine (num_any many _).mono ?_); rintro e w2 ⟨rfl, hb2⟩; have g0 := (hb2.cell (p := ⟨bx, 0, none⟩) (Nat.lt_of_lt_of_le hlx hb1.size)).trans f0; have g1 := (hb2.cell (p := ⟨bx, 1, none⟩) (Nat.lt_of_lt_of_le hlx hb1.size)).trans f1; have g2 := (hb2.cell (p := ⟨bx, 2, none⟩) (Nat.lt_of_lt_of_le hlx hb1.size)).trans f2))
      have hbw : Below wr.heap.size wr w2 := b0.drew.trans ((hb1.trans (hb2.mono hb1.size)).mono b0.size)
      have g2' := (World.cell?_alloc_lt w2 (.cells #[.int .i64 2, .int .i64 0, .string nm, .int .i64 1, .int .i64 many, .string ⟨#[]⟩] 78) ⟨bx, 2, none⟩ (Nat.lt_of_lt_of_le hlx (Nat.le_trans hb1.size hb2.size))).trans g2
      clear e0 e1 e2 f0 f1 f2 g0 g1 g2
      go_wp2_with fail
      obtain ⟨R, hR⟩ : ∃ R, w2.heap.size = R := ⟨_, rfl⟩
      have HR := Lib.hid hR
      have k1 : (w2.alloc (.cells #[.int .i64 2, .int .i64 0, .string nm, .int .i64 1, .int .i64 many, .string ⟨#[]⟩] 78)).ownsRow R 78 3 (.slice (some ⟨w2.heap.size, 0, none⟩) 2 2) 2 (vlCells (rowTo s 0)) := by
        rw [HS.out]
        exact World.ownsRow_lit w2 #[.int .i64 2, .int .i64 0, .string nm, .int .i64 1, .int .i64 many, .string ⟨#[]⟩] 2 (Nat.le_of_eq hR.symm) (by decide) rfl
      have k2 : (w2.alloc (.cells #[.int .i64 2, .int .i64 0, .string nm, .int .i64 1, .int .i64 many, .string ⟨#[]⟩] 78)).ownsRow B 66 1 u3 k cs := (HOWN.out.kept (gob hbw none) (by cases hv : u3.ownBlock <;> simp)).alloc _
      have k3 : RowsOwn (w2.alloc (.cells #[.int .i64 2, .int .i64 0, .string nm, .int .i64 1, .int .i64 many, .string ⟨#[]⟩] 78)) B R l cs := by
        rw [← hR]; exact ((HROWS.out.grown (gob hbw none) (fun g hg => by cases hg)).mono hbw.size).grown (World.grownBy_alloc w2 _ none) (fun g hg => by cases hg)
      have k4 : Below B w (w2.alloc (.cells #[.int .i64 2, .int .i64 0, .string nm, .int .i64 1, .int .i64 many, .string ⟨#[]⟩] 78)) := (hbel.trans (hbw.mono hbs)).alloc (by have := hbw.size; omega) _
      have k5 : R ≤ (w2.alloc (.cells #[.int .i64 2, .int .i64 0, .string nm, .int .i64 1, .int .i64 many, .string ⟨#[]⟩] 78)).heap.size := by simp; omega
      have hBR : B ≤ R := by have := hbw.size; omega
      clear hR hbel hbs HROWS HOWN hbw b0 hb1 hb2 g2' hlx
      go_loopw [6, 25] (fun r j wi => ∃ m : Nat, m ≤ ul.length ∧ j = .int .i64 m ∧ wi.ownsRow R 78 3 r (m + 2) (vlCells (rowTo s m)) ∧ wi.ownsRow B 66 1 u3 k cs ∧ RowsOwn wi B R l cs ∧ Below B w wi ∧ R ≤ wi.heap.size)
        (fun _ j _ => ul.length - (intOf j).toNat)
      case atStart => exact ⟨0, Nat.zero_le _, rfl, k1, k2, k3, k4, k5⟩
      case round =>
        obtain ⟨m, hm', rfl, r1, r2, r3, hB, hRs⟩ := hrel
        clear k1 k2 k3 k4 k5
        by_cases hml : m < ul.length
        · obtain ⟨a2, qb2, qo2, x, rfl, hq2, hql2, hx2, hc2⟩ := HSQ.out.get m hml
          rw [Nat.mul_one] at hq2
          have hc := (hB.cell (p := ⟨qb2, qo2, none⟩) (by rw [← HB.out]; exact hql2)).trans hc2
          have HE := Lib.hid (rowTo_succ (s := s) (m := m) (x := x) (by rw [HUL.out]; exact hx2))
          clear hc2 hx2
          go_wp2_with (first
            | (go_at_call 59; (with_reducible refine (num_any x _).mono ?_); rintro e wn ⟨rfl, hbn⟩; have r1 := r1.kept (gob hbn none) (by cases hv : u6.ownBlock <;> simp))
            | (at_builtin; refine wpList_append_own _ rfl (.tmp 29) (.tmp 32) 66 rfl R 78 i0 (.agg #[.int .i64 0, .int .i64 0, .string ⟨#[]⟩]) 3 32 Try.underlying66 hi hz0 hz1 hz2 rfl (by decide) _ _ _ rfl (r1.alloc _) ⟨wn.heap.size, 0, none⟩ 1 1 [.int .i64 1, .int .i64 x, .string ⟨#[]⟩] rfl rfl ?c1 ?c2 ?c3 ?c4 ?c5 ?_))
          case c1 =>
            intro j u hj
            match j, hj with
            | 0, hj => simp at hj; subst hj; simp [Addr.add]
            | 1, hj => simp at hj; subst hj; simp [Addr.add]
            | 2, hj => simp at hj; subst hj; simp [Addr.add]
          case c2 => intro u hu; simp at hu; rcases hu with rfl | rfl | rfl <;> rfl
          case c3 => unfold maxLen; omega
          case c4 => omega
          case c5 => have := hbn.size; simp; omega
          intro v' w1 hown' hgrow _
          have r2 := r2.kept (gob hbn none) (by cases hv : u3.ownBlock <;> simp)
          have r3 := r3.grown (gob hbn none) (fun g hg => by cases hg)
          have hB := hB.trans (hbn.mono (by have := hB.size; have := HB.out; omega))
          have hB' : Below B w w1 := (hB.alloc (by have := hB.size; rw [HB.out] at this; exact this) _).grown hgrow (by have := hB.size; rw [HB.out] at this; simp; omega) (fun g hg => by have := (r1.lt g hg).1; have := HB.out; omega)
          have r2' := (r2.alloc (.cells #[.int .i64 1, .int .i64 x, .string ⟨#[]⟩] 78)).kept hgrow (own_ne r2 r1 (by decide))
          have r3' := (r3.grown (World.grownBy_alloc wn (.cells #[.int .i64 1, .int .i64 x, .string ⟨#[]⟩] 78) none) (fun g hg => by cases hg)).grown hgrow (fun g hg => (r1.lt g hg).1)
          have r1' : Hid (w1.ownsRow R 78 3 v' (m + 1 + 2) (vlCells (rowTo s (m + 1)))) := by
            rw [HE.out, vlCells_append, show m + 1 + 2 = m + 2 + 1 by omega]; exact hown'
          have hR' : R ≤ w1.heap.size := by have := hgrow.size; simp at this; have := hbn.size; omega
          clear hown' hgrow r1 r2 r3 hB hc hRs hbn
          go_wp2_with fail
          go_roundw
          case rel => exact ⟨m + 1, by omega, by go_num, r1'.out, r2', r3', hB', hR'⟩
          case measure => simp [intOf] <;> omega
        · obtain rfl : m = ul.length := by omega
          have HE : Hid (rowTo s ul.length = rowF s) := by show _ = _; rw [← HUL.out]; exact rowTo_all s
          obtain ⟨g, cap, hv, hg1, hg2⟩ := r1.form (by omega)
          subst hv
          have r1f : Hid (wr.ownsRow R 78 3 (.slice (some ⟨g, 0, none⟩) (ul.length + 2) cap) (rowF s).length (vlCells (rowF s))) := by
            rw [← HE.out, rowTo_length _ _ (by rw [HUL.out]; exact Nat.le_refl _)]; exact r1
          go_wp2_with (first
            | (at_builtin; refine wpList_append_own _ rfl (.tmp 35) (.tmp 37) 61 rfl B 66 i1 (.slice none 0 0) 1 24 Try.underlying61 gi gz0 gz1 gz2 rfl (by decide) _ _ _ rfl (r2.alloc _) ⟨wr.heap.size, 0, none⟩ 1 1 [.slice (some ⟨g, 0, none⟩) (ul.length + 2) cap] rfl rfl ?d1 ?d2 ?d3 ?d4 ?d5 ?_))
          case d1 =>
            intro j u hj
            match j, hj with
            | 0, hj => simp at hj; subst hj; simp [Addr.add]
          case d2 => intro u hu; simp at hu; subst hu; rfl
          case d3 => unfold maxLen; omega
          case d4 => omega
          case d5 => simp; omega
          intro v' w1 hown' hgrow _
          have hB' : Below B w w1 := (hB.alloc (by omega) _).grown hgrow (by simp; omega) (fun g hg => (r2.lt g hg).1)
          have s1 := (r1f.out.alloc (.cells #[.slice (some ⟨g, 0, none⟩) (ul.length + 2) cap] 66)).kept hgrow (own_ne r1f.out r2 (by decide))
          have s2 := (r3.grown (World.grownBy_alloc wr (.cells #[.slice (some ⟨g, 0, none⟩) (ul.length + 2) cap] 66) none) (fun g hg => by cases hg)).grownOther (r2.alloc _) (by decide) hgrow
          have hsz : wr.heap.size + 1 ≤ w1.heap.size := by have := hgrow.size; simpa using this
          have s3 : RowsOwn w1 B w1.heap.size l (cs ++ [.slice (some ⟨g, 0, none⟩) (ul.length + 2) cap]) := by
            intro j c t hc ht
            by_cases hjk : j < cs.length
            · rw [List.getElem?_append_left hjk] at hc
              obtain ⟨a1, a2⟩ := s2 j c t hc ht
              exact ⟨a1, fun g hg => by have := a2 g hg; omega⟩
            · rw [List.getElem?_append_right (by omega)] at hc
              have hj0 : j = k := by
                have := (List.getElem?_eq_some_iff.1 hc).1
                have := HCL.out
                simp at *; omega
              subst hj0
              rw [show j - cs.length = 0 by rw [HCL.out]; omega] at hc
              simp at hc
              subst hc
              have := HSK.out
              rw [this] at ht
              injection ht with ht
              subst ht
              exact ⟨own_base' s1 (by omega), fun g' hg' => by simp [Value.ownBlock] at hg'; omega⟩
          have HC1 : Hid ((cs ++ [Value.slice (some ⟨g, 0, none⟩) (ul.length + 2) cap]).length = k + 1) := by show _ = _; rw [List.length_append, HCL.out]; rfl
          clear hgrow s1 s2 r1 r2 r3 hB hsz
          go_wp2_with fail
          go_roundw
          case rel => exact ⟨k + 1, _, by omega, by go_num, HC1.out, hown', s3, hB'⟩
          case measure => simp [intOf] <;> omega
    · obtain rfl : k = l.length := by omega
      go_wp2_with fail
      go_ret
      exact ⟨_, cs, rfl, by rw [HB.out]; exact HOWN.out, by rw [HB.out]; exact HROWS.out, by rw [HB.out]; exact hbel⟩

theorem rows_any (A : Option Addr) (c : Nat) (l : List St) (w : World) (hl : SeqAt StatE 3 w A l) (hm : l.length ≤ 100) (hu : ∀ s ∈ l, s.unlike.length ≤ 100) :
    Calls Try.prog 31 #[.slice A l.length c] w (RowsOut w l) :=
  (rows_own A c l w hl hm hu).mono fun _ _ ⟨v, cs, he, ho, hr, hb⟩ => by subst he; exact RowsOut.of ho hr (names_ok hl) hb

end Go.Proofs.Ytpalbdjcfhlniaa
