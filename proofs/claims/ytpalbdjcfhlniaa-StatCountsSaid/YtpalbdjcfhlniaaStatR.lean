/- The walk over counts. -/
import Derived.Test.YtpalbdjcfhlniaaStatQ
namespace Go.Proofs.Ytpalbdjcfhlniaa
open Go.RowKit

theorem addKey_length (acc : List (List UInt8)) (k : List UInt8) : (addKey acc k).length ≤ acc.length + 1 := by unfold addKey; split <;> simp
theorem dist_le (l : List (List UInt8)) : ∀ acc, (l.foldl addKey acc).length ≤ acc.length + l.length := by
  induction l with
  | nil => intro acc; simp
  | cons k l ih => intro acc; have := ih (addKey acc k); have := addKey_length acc k; simp only [List.foldl_cons, List.length_cons]; omega
theorem countsF_le (cols : List Cm) (rows : List (List Vl)) (ics : List Ic) : countsF cols rows ics ≤ rows.length := by
  have := dist_le (rows.map fun r => keyF cols r ics) []
  simpa [countsF, dist] using this

theorem own_below {w w' : World} {B e s n : Nat} {v : Value} {xs : List Value} (h : w.ownsRow B e s v n xs) (hb : Below w.heap.size w w') : w'.ownsRow B e s v n xs := h.kept (goK hb none) (by cases v.ownBlock <;> simp)
theorem map_below {w w' : World} {k : TypeId} {R : Value → Option (DataW Unit × List MemPlace)} {b n : Nat} {D : DataW Unit} (h : w.ownsMap Try.prog k R b n D) (hb : Below w.heap.size w w') : w'.ownsMap Try.prog k R b n D := h.kept (goK hb none) (by simp)
theorem grown_then {a b c : World} {row row' : Option Nat} (h : a.grownBy b row) (k : b.grownBy c row') (hr : ∀ j, row' = some j → a.heap.size ≤ j) : a.grownBy c row := h.andThen k fun j hj => .inl (hr j hj)
theorem grown_below {a b c : World} {row : Option Nat} (h : a.grownBy b row) (k : Below b.heap.size b c) : a.grownBy c row := h.andThen (goK k none) fun j hj => by cases hj

theorem at_of {tn : ByteArray} {root : Int} {cols : List Cm} {A A' Ar : Option Addr} {c c' n' cr : Nat} {row : List Vl} {name : ByteArray} {w : World} {v : Vl} (hv : atF cols row name = v) (ht : SeqAt ColE 9 w A cols) (hr : SeqAt ValE 3 w Ar row) (hm : cols.length ≤ 100000) (hmr : row.length ≤ maxLen) (hz : name.size ≤ maxLen) :
    Calls Try.prog 66 #[.agg #[.string tn, .slice A cols.length c, .slice A' n' c', .int .i64 root], .slice Ar row.length cr, .string name] w fun e w' =>
      e = .returned (.agg #[.int .i64 v.kind, .int .i64 v.n, .string v.s]) ∧ Below w.heap.size w w' := by
  rw [← hv]; exact at_any ⟨tn, cols, root⟩ A A' Ar c c' n' cr row name w ht hr hm hmr hz

set_option maxHeartbeats 4000000 in
set_option maxRecDepth 100000 in
theorem counts_any (tn : ByteArray) (root : Int) (cols : List Cm) (rows : List (List Vl)) (ics : List Ic) (A A' AR AI : Option Addr) (c c' n' cR cI : Nat) (w : World)
    (ht : SeqAt ColE 9 w A cols) (hr : SeqAt RowE 1 w AR rows) (hi : SeqAt IcE 3 w AI ics) (hm : cols.length ≤ 100000) (hmr : rows.length ≤ 100000) (hmi : ics.length ≤ 1000)
    (hrl : ∀ r ∈ rows, r.length ≤ maxLen) (hvs : ∀ r ∈ rows, ∀ v ∈ r, v.s.size ≤ 4096) :
    Calls Try.prog 52 #[.agg #[.string tn, .slice A cols.length c, .slice A' n' c', .int .i64 root], .slice AR rows.length cR, .slice AI ics.length cI] w fun e w' =>
      e = .returned (.int .i64 (countsF cols rows ics)) ∧ Below w.heap.size w w' := by
  have HT := Lib.hid ht
  have HR := Lib.hid hr
  have HI := Lib.hid hi
  have HRL := Lib.hid hrl
  have HVS := Lib.hid hvs
  clear ht hr hi hrl hvs
  have hmm := @run_makeMap Try.prog
  go_enter Try.func52, Try.ntmps52
  go_wp2_with fail
  clear hmm
  obtain ⟨w0, hw0⟩ : ∃ w0, w.alloc (.cells #[.string tn, .slice A cols.length c, .slice A' n' c', .int .i64 root] 84) = w0 := ⟨_, rfl⟩
  have hb0 : Below w.heap.size w w0 := by rw [← hw0]; exact (Below.refl _ _).alloc (Nat.le_refl _) _
  have x0 : w0.cell? ⟨w.heap.size, 0, none⟩ = some (.string tn) := by rw [← hw0]; exact World.cell?_alloc_new w _ 84 0
  have x1 : w0.cell? ⟨w.heap.size, 1, none⟩ = some (.slice A cols.length c) := by rw [← hw0]; exact World.cell?_alloc_new w _ 84 1
  have x2 : w0.cell? ⟨w.heap.size, 2, none⟩ = some (.slice A' n' c') := by rw [← hw0]; exact World.cell?_alloc_new w _ 84 2
  have x3 : w0.cell? ⟨w.heap.size, 3, none⟩ = some (.int .i64 root) := by rw [← hw0]; exact World.cell?_alloc_new w _ 84 3
  have hz0 : w0.heap.size = w.heap.size + 1 := by rw [← hw0]; simp
  rw [hw0]
  clear hw0
  have hmap := World.ownsMap_made (H := Unit) w0 Try.prog 9 (plainElem Try.prog 3)
  have hb1 : Below w.heap.size w (w0.alloc (.map #[] 0)) := hb0.alloc (by omega) _
  have hba : Below w0.heap.size w0 (w0.alloc (.map #[] 0)) := (Below.refl _ _).alloc (Nat.le_refl _) _
  have hz1 : (w0.alloc (.map #[] 0)).heap.size = w.heap.size + 2 := by simp; omega
  have y0 := (hba.cell (p := ⟨w.heap.size, 0, none⟩) (by simp; omega)).trans x0
  have y1 := (hba.cell (p := ⟨w.heap.size, 1, none⟩) (by simp; omega)).trans x1
  have y2 := (hba.cell (p := ⟨w.heap.size, 2, none⟩) (by simp; omega)).trans x2
  have y3 := (hba.cell (p := ⟨w.heap.size, 3, none⟩) (by simp; omega)).trans x3
  clear x0 x1 x2 x3 hb0 hba
  rw [hz0] at hmap
  generalize w0.alloc (.map #[] 0) = w1 at hmap hb1 hz1 y0 y1 y2 y3
  obtain ⟨X, hX⟩ : ∃ X, w.heap.size = X := ⟨_, rfl⟩
  obtain ⟨M, hM⟩ : ∃ M, X + 1 = M := ⟨_, rfl⟩
  obtain ⟨B, hB⟩ : ∃ B, w1.heap.size = B := ⟨_, rfl⟩
  rw [hX] at hz1 hb1 y0 y1 y2 y3 hmap
  simp only [hX]
  rw [hM] at hmap
  simp only [hM]
  rw [hB] at hz1
  have hXM : X < M := by omega
  have hMB : M < B := by omega
  have HB := Lib.hid hB
  have HX := Lib.hid hX
  have HB1 := Lib.hid hb1
  have Y0 := Lib.hid y0
  have Y1 := Lib.hid y1
  have Y2 := Lib.hid y2
  have Y3 := Lib.hid y3
  have HMAP := Lib.hid hmap
  clear hb1 y0 y1 y2 y3 hmap hz0 hz1 hM hX hB w0
  go_loopw [17] (fun i wr => ∃ (k : Nat) (D : DataW Unit), k ≤ rows.length ∧ i = .int .i64 k ∧ wr.ownsMap Try.prog 9 (plainElem Try.prog 3) M k D ∧ KeysD D (dist ((rows.take k).map fun r => keyF cols r ics)) ∧ w1.grownBy wr (some M)) (fun i _ => rows.length - (intOf i).toNat)
  case atStart => exact ⟨0, _, Nat.zero_le _, rfl, HMAP.out, KeysD.nil, World.grownBy.refl _ _⟩
  case round =>
    obtain ⟨k, D, hk, rfl, hmap, hkeys, hgr⟩ := hrel
    have HM1 := Lib.hid hmap
    have HK := Lib.hid hkeys
    have HG := Lib.hid hgr
    clear hmap hkeys hgr
    by_cases hlt : k < rows.length
    · have hbw : Below X w wr := by rw [← HX.out]; exact (HB1.out.mono (by rw [HX.out]; exact Nat.le_refl _)).grown HG.out (by rw [HB.out, HX.out]; omega) (fun j hj => by cases hj; rw [HX.out]; omega)
      obtain ⟨a, qb, qo, row, rfl, hq, hql, hrow, u, hu, Ar, cr, rfl, hs⟩ := HR.out.get k hlt
      rw [Nat.mul_one] at hq
      have hu1 := (hbw.cell (p := ⟨qb, qo, none⟩) (by rw [← HX.out]; exact hql)).trans hu
      have HROW := Lib.hid hrow
      have HS := Lib.hid hs
      have HRM := Lib.hid (HRL.out row (List.mem_of_getElem? hrow))
      have HVM := Lib.hid (HVS.out row (List.mem_of_getElem? hrow))
      clear hrow hu hs hql hbw
      go_wp2_with fail
      go_loopw [10, 23] (fun b n wi => ∃ j : Nat, j ≤ ics.length ∧ n = .int .i64 j ∧ wi.ownsRow B 5 1 b (keyTo cols row ics j).length (byteCells (keyTo cols row ics j)) ∧ wi.ownsMap Try.prog 9 (plainElem Try.prog 3) M k D ∧ w1.grownBy wi (some M))
        (fun _ n _ => ics.length - (intOf n).toNat)
      case atStart => exact ⟨0, Nat.zero_le _, rfl, World.ownsRow_nil _ _ _ _, HM1.out, HG.out⟩
      case round =>
        obtain ⟨j, hj, rfl, hown, hmapi, hgi⟩ := hrel
        have HO := Lib.hid hown
        have HMI := Lib.hid hmapi
        have HGI := Lib.hid hgi
        have hbi : Below X w wr := by rw [← HX.out]; exact (HB1.out.mono (by rw [HX.out]; exact Nat.le_refl _)).grown HGI.out (by rw [HB.out, HX.out]; omega) (fun j hj => by cases hj; rw [HX.out]; omega)
        have hBi : B ≤ wr.heap.size := by rw [← HB.out]; exact HGI.out.size
        clear hown hmapi hgi
        by_cases hji : j < ics.length
        · obtain ⟨a2, qb2, qo2, ic, rfl, hq2, hql2, hic, hE⟩ := HI.out.get j hji
          have hql2X : qb2 < X := by rw [← HX.out]; exact hql2
          have c0 := (hbi.cell (p := ⟨qb2, qo2, none⟩) hql2X).trans hE.name
          have c1 := (hbi.cell (p := ⟨qb2, qo2 + 1, none⟩) hql2X).trans hE.coll
          have c2 := (hbi.cell (p := ⟨qb2, qo2 + 2, none⟩) hql2X).trans hE.desc
          have HNZ := Lib.hid hE.sz
          have HK1 := Lib.hid (keyTo_succ (cols := cols) (row := row) hic)
          clear hE hic hql2
          obtain ⟨nm, hnm⟩ : ∃ x, ic.name = x := ⟨_, rfl⟩
          obtain ⟨coll, hcoll⟩ : ∃ x, ic.coll = x := ⟨_, rfl⟩
          obtain ⟨desc, hdesc⟩ : ∃ x, ic.desc = x := ⟨_, rfl⟩
          rw [hnm] at c0 HNZ HK1
          rw [hcoll] at c1 HK1
          rw [hdesc] at c2
          clear hnm hcoll hdesc
          have hvz := atF_size (cols := cols) (name := nm) HVM.out
          have hll := keyTo_length (cols := cols) (ics := ics) HVM.out j hj
          obtain ⟨v, hv⟩ : ∃ v, atF cols row nm = v := ⟨_, rfl⟩
          obtain ⟨l, hl⟩ : ∃ l, keyTo cols row ics j = l := ⟨_, rfl⟩
          have HV := Lib.hid hv
          rw [hv] at HK1 hvz
          rw [hl] at HK1 HO hll
          clear hv hl
          have hll' : l.length ≤ 10000000 := by omega
          have hvz' : v.s.size ≤ 1000000 := by omega
          clear hvz hll
          go_wp2_with fail
          obtain ⟨O, hO⟩ : ∃ O, Obj.cells #[.string nm, .int .i64 coll, .bool desc] 86 = O := ⟨_, rfl⟩
          have e0 : (wr.alloc (.cells #[.string nm, .int .i64 coll, .bool desc] 86)).cell? ⟨wr.heap.size, 0, none⟩ = some (.string nm) := World.cell?_alloc_new wr _ 86 0
          have e1 : (wr.alloc (.cells #[.string nm, .int .i64 coll, .bool desc] 86)).cell? ⟨wr.heap.size, 1, none⟩ = some (.int .i64 coll) := World.cell?_alloc_new wr _ 86 1
          rw [hO] at e0 e1 ⊢
          clear hO c0 c1 c2
          have hz : (wr.alloc O).heap.size = wr.heap.size + 1 := by simp
          have HNE := Lib.hid (fresh_ne HO.out)
          have HLT := Lib.hid HO.out.lt
          have HO2 := Lib.hid (HO.out.alloc O)
          have HMI2 := Lib.hid (HMI.out.alloc O)
          have HGI2 := Lib.hid (grown_then HGI.out (World.grownBy_alloc wr O none) (fun _ h => by cases h))
          have t0 := HGI2.out.cell Y0.out (fun e => by injection e with e; simp only at e; omega)
          have t1 := HGI2.out.cell Y1.out (fun e => by injection e with e; simp only at e; omega)
          have t2 := HGI2.out.cell Y2.out (fun e => by injection e with e; simp only at e; omega)
          have t3 := HGI2.out.cell Y3.out (fun e => by injection e with e; simp only at e; omega)
          have hb2 : Below X w (wr.alloc O) := hbi.alloc (by omega) _
          clear hbi
          generalize wr.alloc O = w2 at e0 e1 hz HO2 HMI2 HGI2 t0 t1 t2 t3 hb2
          obtain ⟨Y, hY⟩ : ∃ Y, wr.heap.size = Y := ⟨_, rfl⟩
          rw [hY] at e0 e1 hz HNE hBi ⊢
          have hYlt : Y < w2.heap.size := by omega
          have hXlt : X < w2.heap.size := by omega
          have hB2 : B ≤ w2.heap.size := by omega
          have hneX : u10.ownBlock ≠ some X := fun e => by have := (HLT.out X e).1; omega
          have hbd : Below w.heap.size w w2.drew := by rw [HX.out]; exact hb2.drew
          have ST := Lib.hid (HT.out.below ColE.stays hbd)
          have SR := Lib.hid (HS.out.below ValE.stays hbd)
          clear hY hz hbd HT HS
          go_region_held3 (fun w' => w'.cell? ⟨X, 0, none⟩ = some (.string tn) ∧ w'.cell? ⟨X, 1, none⟩ = some (.slice A cols.length c) ∧ w'.cell? ⟨X, 2, none⟩ = some (.slice A' n' c') ∧ w'.cell? ⟨X, 3, none⟩ = some (.int .i64 root) ∧ w'.cell? ⟨Y, 0, none⟩ = some (.string nm) ∧ w'.cell? ⟨Y, 1, none⟩ = some (.int .i64 coll)) (go_keep)
            (first
              | (go_at_call 66; (with_reducible refine (at_of HV.out ST.out SR.out hm HRM.out HNZ.out).mono ?_); rintro e wa ⟨rfl, hba⟩;
                  have a0 := (hba.cell (p := ⟨X, 0, none⟩) hXlt).trans t0; have a1 := (hba.cell (p := ⟨X, 1, none⟩) hXlt).trans t1; have a2 := (hba.cell (p := ⟨X, 2, none⟩) hXlt).trans t2; have a3 := (hba.cell (p := ⟨X, 3, none⟩) hXlt).trans t3;
                  have a4 := (hba.cell (p := ⟨Y, 0, none⟩) hYlt).trans e0; have a5 := (hba.cell (p := ⟨Y, 1, none⟩) hYlt).trans e1;
                  have oa := own_below HO2.out.drew hba; have hBa := Nat.le_trans hB2 hba.size)
              | (go_at_call 65; (with_reducible refine (lay_any B _ l v.kind v.n coll v.s wa oa hBa hll' hvz').mono ?_); rintro e wc ⟨v', rfl, oc, gc⟩;
                  have b0 := gc.cell a0 (fun e => hneX e.symm); have b1 := gc.cell a1 (fun e => hneX e.symm); have b2 := gc.cell a2 (fun e => hneX e.symm); have b3 := gc.cell a3 (fun e => hneX e.symm);
                  have b4 := gc.cell a4 (fun e => HNE.out e.symm); have b5 := gc.cell a5 (fun e => HNE.out e.symm)))
          have HOC := Lib.hid oc
          have mc := (map_below HMI2.out.drew hba).kept gc (fun e => by have := (HLT.out M e.symm).1; omega)
          have HMC := Lib.hid mc
          have gC := grown_then (grown_below (b := w2.drew) ⟨HGI2.out.os, HGI2.out.tape, HGI2.out.output, HGI2.out.size, HGI2.out.block⟩ hba) gc (fun j hj => by have := (HLT.out j hj).1; rw [HB.out]; exact this)
          have HGC := Lib.hid gC
          clear t0 t1 t2 t3 e0 e1 a0 a1 a2 a3 a4 a5 b0 b1 b2 b3 b4 b5 oa oc mc gC gc hba
          go_wp2_with fail
          go_roundw
          case rel => exact ⟨j + 1, by omega, by go_num, by rw [HK1.out]; exact HOC.out, HMC.out, HGC.out⟩
          case measure => simp [intOf] <;> omega
        · obtain rfl : j = ics.length := by omega
          rw [keyTo_all] at HO
          have hkl : (keyF cols row ics).length ≤ 10000000 := by
            have := keyTo_length (cols := cols) (ics := ics) HVM.out ics.length (Nat.le_refl _)
            rw [keyTo_all] at this; omega
          have HKS := Lib.hid (show dist ((rows.take (k + 1)).map fun r => keyF cols r ics) = addKey (dist ((rows.take k).map fun r => keyF cols r ics)) (keyF cols row ics) by
            rw [List.take_add_one, HROW.out, List.map_append]; exact dist_succ _ _)
          obtain ⟨key, hke⟩ : ∃ key, keyF cols row ics = key := ⟨_, rfl⟩
          rw [hke] at HO HKS hkl
          clear hke
          have hcv := run_key wr B u10 key HO.out
          have hkey : keyOf Try.prog 9 (.string ⟨key.toArray⟩) = some (.string key) := by
            simpa using WideMaps.keyOf_string_mk (P := Try.prog) Try.underlying9 (s := ⟨key.toArray⟩) (by simp [ByteArray.size, maxLen]; omega)
          obtain ⟨cv, hlk, hat, wcv⟩ := HMI.out.lookup_int (Maps.string_keyed Try.underlying9) Try.underlying114 Try.underlying3 (Try.zero3 _) hkey
          clear hat wcv hbi
          go_wp2_with (first
            | (at_mapUpdate; refine wpList_mapUpdate_own _ rfl _ _ _ 114 rfl 9 3 (Maps.string_keyed Try.underlying9) Try.underlying114 _ M k _ rfl HMI.out (by unfold maxLen; omega) _ _ _ rfl rfl hkey _ [] (plainElem_int Try.underlying3 (wrap64_wf _)) ?_))
          intro w3 hm3 hg3
          have HM3 := Lib.hid hm3
          have HG3 := Lib.hid (HGI.out.andThen hg3 (fun j hj => .inr hj))
          have HK3 := Lib.hid (HK.out.put key (.lit (.int .i64 (wrap64 (cv + 1)))))
          clear hm3 hg3 hcv hkey hlk
          go_wp2_with fail
          go_roundw
          case rel => exact ⟨k + 1, _, by omega, by go_num, HM3.out, by rw [HKS.out]; exact HK3.out, HG3.out⟩
          case measure => simp [intOf] <;> omega
    · obtain rfl : k = rows.length := by omega
      obtain ⟨N, hN⟩ : ∃ N, countsF cols rows ics = N := ⟨_, rfl⟩
      have HN := Lib.hid hN
      have hNs : Maps.size D = N := by rw [HK.out.size, List.take_length]; exact hN
      have hNl : N ≤ 100000 := by rw [← hN]; exact Nat.le_trans (countsF_le _ _ _) hmr
      have HNS := Lib.hid hNs
      have hbw : Below X w wr := by rw [← HX.out]; exact (HB1.out.mono (by rw [HX.out]; exact Nat.le_refl _)).grown HG.out (by rw [HB.out, HX.out]; omega) (fun j hj => by cases hj; rw [HX.out]; omega)
      have hXr : X ≤ wr.heap.size := by have := hbw.size; rw [HX.out] at this; exact this
      clear hN hNs
      go_wp2_with (first
        | (at_range; refine wpList_range_own _ rfl _ 114 rfl 9 3 (Maps.string_keyed Try.underlying9) Try.underlying114 _ M rows.length _ rfl HM1.out ?_; intro w2 hrg hg hs))
      go_frame
      obtain ⟨R, hR⟩ : ∃ R, wr.heap.size = R := ⟨_, rfl⟩
      rw [hR] at hrg hXr ⊢
      have HRG := Lib.hid hrg
      have hb2 : Below X w w2 := (hbw.trans (⟨hg.os, hg.tape, hg.output, hg.size, fun i hi => hg.block i (by omega) (by simp)⟩ : Below X wr w2))
      have HB2 := Lib.hid hb2
      clear hrg hb2 hg hs hbw hR
      go_loopw [13] (fun c wq => ∃ (left : Lit → Bool) (cnt m : Nat), wq.ranges Try.prog 9 (plainElem Try.prog 3) M R rows.length D left cnt ∧ c = .int .i64 m ∧ m + cnt = N ∧ Below X w wq) (fun _ wq => wq.rangeLeft M R)
      case atStart => exact ⟨_, _, 0, HRG.out, rfl, by rw [Nat.zero_add]; exact HNS.out, HB2.out⟩
      case round =>
        obtain ⟨left, cnt, m, hrg, rfl, hmc, hbq⟩ := hrel
        go_wp2_with (first
          | (at_next; refine wpList_next_ranges _ rfl _ rfl 9 (Maps.string_keyed Try.underlying9) _ Value.string (Value.int .i64) (fun key kl h => Maps.keyOf_string_inv Try.underlying9 h) (fun v y h => (plainElem_int_inv Try.underlying3 h).imp fun _ h => h.1) M R rows.length D left cnt rfl hrg ?done ?more))
        case done =>
          intro h0 _
          have HE := Lib.hid (show (N : Int) = ((m : Nat) : Int) by omega)
          go_wp2_with fail
          go_ret
          exact ⟨ret_int (by rw [HN.out]; exact HE.out), by rw [HX.out]; exact hbq⟩
        case more =>
          intro x c kl ya yb w3 cnt3 hkey hl hv hat hrg3 hlt3 hg3 hs3 hen
          have hstep := ranges_step hrg (Maps.string_keyed Try.underlying9) hl hrg3
          have HR3 := Lib.hid hrg3
          have HRQ := Lib.hid hrg
          have hb3 : Below X w w3 := hbq.trans ⟨hg3.os, hg3.tape, hg3.output, hg3.size, fun i hi => hg3.block i (by have := hbq.size; rw [HX.out] at this; omega) (by intro e; cases e; omega)⟩
          clear hkey hv hat hl hen hrg3 hrg
          go_wp2_with fail
          go_roundw
          case rel => exact ⟨_, cnt3, m + 1, HR3.out, by go_num, by omega, hb3⟩
          case measure => rw [HR3.out.left_eq, HRQ.out.left_eq]; omega

end Go.Proofs.Ytpalbdjcfhlniaa
