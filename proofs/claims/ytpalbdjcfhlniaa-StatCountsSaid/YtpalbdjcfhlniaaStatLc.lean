/- The walk over the law of less. -/
import Derived.Test.YtpalbdjcfhlniaaStatLb
import Derived.Test.YtpalbdjcfhlniaaStatLq
import Derived.Test.YtpalbdjcfhlniaaStatW
import Derived.Deep.CutRange
import Derived.Deep.RegionHeld3
namespace Go.Proofs.Ytpalbdjcfhlniaa
open Go.RowKit

theorem mayV_size {v : Vl} (h : mayV v) : v.s.size ≤ 4096 := by
  rcases h with ⟨_, _, h⟩ | ⟨_, h⟩ | ⟨_, _, h⟩ <;> omega

theorem right_vals {tabs : List Tb} {idxs : List Ix} {all : List (List (List Vl))} (h : RightP tabs idxs all) : ∀ R ∈ all, ∃ t ∈ tabs, TabP t R := fun R hR => by
  obtain ⟨i, hi⟩ := List.getElem?_of_mem hR
  have hl := (List.getElem?_eq_some_iff.1 hi).1
  rw [h.len] at hl
  exact ⟨tabs[i], List.getElem_mem hl, h.tab i tabs[i] R (List.getElem?_eq_getElem hl) hi⟩
theorem right_sizes {tabs : List Tb} {idxs : List Ix} {all : List (List (List Vl))} (h : RightP tabs idxs all) : ∀ R ∈ all, ∀ r ∈ R, ∀ v ∈ r, v.s.size ≤ 4096 := fun R hR r hr v hv => by
  obtain ⟨t, _, hp⟩ := right_vals h R hR
  exact mayV_size ((hp.2.2.2.2 r hr).2 v hv)
theorem right_cols {tabs : List Tb} {idxs : List Ix} {all : List (List (List Vl))} (h : RightP tabs idxs all) : ∀ t ∈ tabs, t.cols.length ≤ 32 := fun t ht => by
  obtain ⟨i, hi⟩ := List.getElem?_of_mem ht
  have hl := (List.getElem?_eq_some_iff.1 hi).1
  rw [← h.len] at hl
  exact (h.tab i t all[i] hi (List.getElem?_eq_getElem hl)).1

/-- Of, of data that are right. -/
theorem of_right {tabs : List Tb} {idxs : List Ix} {all : List (List (List Vl))} {AT AX AR : Option Addr} {cT cX cR : Nat} (w : World) (h : RightP tabs idxs all)
    (ht : SeqAt TabE 4 w AT tabs) (hx : SeqAt IdxE 5 w AX idxs) (hr : SeqAt RowsE 1 w AR all) (hcp : SeqAt CapE 5 w AX idxs) :
    Calls Try.prog 26 #[.agg #[.slice AT tabs.length cT, .slice AX idxs.length cX, .slice AR all.length cR]] w fun e w' => ∃ A c, e = .returned (.slice A (ofF tabs idxs all).length c) ∧ SeqAt StatE 3 w' A (ofF tabs idxs all) ∧ Below w.heap.size w w' := by
  refine (of_any tabs idxs all AT AX AR cT cX cR w ht hx hr hcp (by have := h.nt; omega) (by have := h.nx; omega) (by have := h.len; have := h.nt; omega) (fun t htm => by have := right_cols h t htm; omega) (fun x hxm => by have := (h.idx x hxm).1; omega)
    (fun R hR => ?_) (fun R hR r hr => ?_) (right_sizes h)).mono ?_
  · obtain ⟨t, _, hp⟩ := right_vals h R hR
    have := hp.2.1; omega
  · obtain ⟨t, _, hp⟩ := right_vals h R hR
    have h1 := hp.1
    have h2 := (hp.2.2.2.2 r hr).1
    unfold maxLen; omega
  · rintro e w' ⟨v, rfl, ⟨A, c, rfl, hs⟩, hb⟩
    exact ⟨A, c, rfl, hs, hb⟩

/-- A statistic's list is never long. -/
theorem of_short {tabs : List Tb} {idxs : List Ix} {all : List (List (List Vl))} (h : RightP tabs idxs all) : ∀ s ∈ ofF tabs idxs all, s.unlike.length ≤ 33 := fun s hs => by
  unfold ofF at hs
  rcases List.mem_append.1 hs with h1 | h1
  · unfold tabStats at h1
    obtain ⟨i, hi, rfl⟩ := List.mem_mapIdx.1 h1
    show 1 ≤ 33; omega
  · obtain ⟨x, hx, rfl⟩ := List.mem_map.1 h1
    have := (h.idx x hx).1
    show (_ ++ _ : List Int).length ≤ 33
    rw [List.length_append, unlikesTo_length]
    show x.cols.length + 1 ≤ 33; omega

theorem cap_below {w w' : World} {A : Option Addr} {l : List Ix} (h : SeqAt CapE 5 w A l) (hb : Below w.heap.size w w') : SeqAt CapE 5 w' A l := fun k x hx =>
  let ⟨a, qb, qo, e, eq, hl, A', c', hc, h1, h2⟩ := h k x hx
  ⟨a, qb, qo, e, eq, Nat.lt_of_lt_of_le hl hb.size, A', c', (hb.cell hl).trans hc, h1, h2⟩

theorem stat_laid {at0 : ByteArray} {bn : Int} {L : List Int} {Au : Option Addr} {cu : Nat} (hz : at0.size ≤ maxLen ∧ bn ≤ 9223372036854775807) (W : World) (h : SeqAt IntE 1 W Au L) :
    SeqAt StatE 3 (W.alloc (.cells #[.string at0, .int .i64 bn, .slice Au L.length cu] 46)) (some ⟨W.heap.size, 0, none⟩) [⟨at0, bn, L⟩] := fun k x hx => by
  match k, hx with
  | 0, hx =>
    simp at hx
    subst hx
    exact ⟨_, W.heap.size, 0, rfl, rfl, by simp, World.cell?_alloc_new W _ 46 0, World.cell?_alloc_new W _ 46 1, ⟨_, World.cell?_alloc_new W _ 46 2, Au, cu, rfl, h.below IntE.stays ((Below.refl _ _).alloc (Nat.le_refl _) _)⟩, hz.1, hz.2⟩

theorem guess_of {s : St} {nm : ByteArray} {eq g : Int} {rg : Bool} {Z c : Nat} (hn : s.name = nm) (hg : (if rg then upF (fewF s.many s.unlike eq) 4 else fewF s.many s.unlike eq) = g) (hu : s.unlike.length ≤ maxLen) (w : World) (hs : SeqAt StatE 3 w (some ⟨Z, 0, none⟩) [s]) :
    Calls Try.prog 23 #[.slice (some ⟨Z, 0, none⟩) 1 c, .string nm, .int .i64 eq, .bool rg] w fun e w' => e = .returned (.int .i64 g) ∧ Below w.heap.size w w' := by
  obtain ⟨_, _, _, _, _, _, hE⟩ := hs 0 s rfl
  have hz := hE.sz
  refine (guess_any (some ⟨Z, 0, none⟩) c [s] nm eq rg w hs (by show 1 ≤ maxLen; unfold maxLen; decide) (fun x hx => by simp at hx; subst hx; exact hu) (by rw [← hn]; exact hz)).mono ?_
  rintro e w' ⟨he, hb⟩
  exact ⟨by rw [he, ← hn, guess_one, hg], hb⟩

set_option maxHeartbeats 8000000 in
set_option maxRecDepth 100000 in
theorem less_any (v : Value) (tabs : List Tb) (idxs : List Ix) (all : List (List (List Vl))) (eq : Int) (w : World) (hd : DataAt w v tabs idxs all) :
    Calls Try.prog 8 #[v, .int .i64 eq] w fun e w' => e = .returned (.bool true) ∧ Below w.heap.size w w' := by
  obtain ⟨AT, cT, AX, cX, AR, cR, rfl, ht, hx, hcp, hr⟩ := hd.val
  have HT := Lib.hid ht
  have HX := Lib.hid hx
  have HCP := Lib.hid hcp
  have HR := Lib.hid hr
  have HRC := Lib.hid (fun (W : World) (h : Below w.heap.size w W) => right_any tabs idxs all AT AX AR cT cX cR W (HT.out.below TabE.stays h) (HX.out.below IdxE.stays h) (HR.out.below (SlE.stays (SlE.stays ValE.stays 3) 1) h) hd.tabs.1 hd.idxs.1 hd.all hd.tabs.2 hd.idxs.2)
  have hm1 := hd.tabs.1
  have hm2 := hd.idxs.1
  have hm3 := hd.all.1
  unfold maxLen at hm1 hm2 hm3
  clear ht hx hcp hr hd
  have hbb := Lib.hid (fun O => (Below.refl w.heap.size w).alloc (Nat.le_refl _) O)
  by_cases e1 : eq < 0
  · go_enter Try.func8, Try.ntmps8
    go_wp2_with (first
      | (go_at_call 25; (with_reducible refine (HRC.out _ (hbb.out _)).mono ?_); rintro e w1 ⟨hb1, b, rfl, hp⟩; clear hp; cases b)
      | (go_at_call 22; (with_reducible refine (live_any _).mono ?_); rintro e w2 ⟨rfl, hb2⟩))
    all_goals
      go_ret
      exact ⟨rfl, (hbb.out _).trans ((hb1.trans (hb2.mono hb1.size)).mono (by simp))⟩
  · by_cases e2 : 40 < eq
    · go_enter Try.func8, Try.ntmps8
      go_wp2_with (first
        | (go_at_call 25; (with_reducible refine (HRC.out _ (hbb.out _)).mono ?_); rintro e w1 ⟨hb1, b, rfl, hp⟩; clear hp; cases b)
        | (go_at_call 22; (with_reducible refine (live_any _).mono ?_); rintro e w2 ⟨rfl, hb2⟩))
      all_goals
        go_ret
        exact ⟨rfl, (hbb.out _).trans ((hb1.trans (hb2.mono hb1.size)).mono (by simp))⟩
    · go_enter Try.func8, Try.ntmps8
      go_upto_region 1 with fail
      have b0 := hbb.out (.cells #[.slice AT tabs.length cT, .slice AX idxs.length cX, .slice AR all.length cR] 53)
      have d0 : (w.alloc (.cells #[.slice AT tabs.length cT, .slice AX idxs.length cX, .slice AR all.length cR] 53)).cell? ⟨w.heap.size, 0, none⟩ = some (.slice AT tabs.length cT) := World.cell?_alloc_new w _ 53 0
      have d1 : (w.alloc (.cells #[.slice AT tabs.length cT, .slice AX idxs.length cX, .slice AR all.length cR] 53)).cell? ⟨w.heap.size, 1, none⟩ = some (.slice AX idxs.length cX) := World.cell?_alloc_new w _ 53 1
      have d2 : (w.alloc (.cells #[.slice AT tabs.length cT, .slice AX idxs.length cX, .slice AR all.length cR] 53)).cell? ⟨w.heap.size, 2, none⟩ = some (.slice AR all.length cR) := World.cell?_alloc_new w _ 53 2
      have hz : (w.alloc (.cells #[.slice AT tabs.length cT, .slice AX idxs.length cX, .slice AR all.length cR] 53)).heap.size = w.heap.size + 1 := by simp
      generalize w.alloc (.cells #[.slice AT tabs.length cT, .slice AX idxs.length cX, .slice AR all.length cR] 53) = W1 at b0 d0 d1 d2 hz
      obtain ⟨X, hX⟩ : ∃ X, w.heap.size = X := ⟨_, rfl⟩
      have HB0 := Lib.hid b0
      rw [hX] at d0 d1 d2 hz
      simp only [hX]
      have hX1 : X < W1.heap.size := by omega
      clear b0 hX hz
      go_wp2_with (first
        | (go_at_call 25; (with_reducible refine (HRC.out _ HB0.out).mono ?_); rintro e w1 ⟨hb1, b, rfl, hp⟩; have HP := Lib.hid hp; clear hp; have f0 := (hb1.cell (p := ⟨X, 0, none⟩) hX1).trans d0; have f1 := (hb1.cell (p := ⟨X, 1, none⟩) hX1).trans d1; have f2 := (hb1.cell (p := ⟨X, 2, none⟩) hX1).trans d2; cases b)
        | (go_at_call 22; (with_reducible refine (live_any _).mono ?_); rintro e w2 ⟨rfl, hb2⟩))
      · go_ret
        exact ⟨rfl, HB0.out.trans ((hb1.trans (hb2.mono hb1.size)).mono HB0.out.size)⟩
      · have RP := Lib.hid (HP.out (by trivial))
        have bw1 := HB0.out.trans (hb1.mono HB0.out.size)
        have HOF := Lib.hid (of_right (cT := cT) (cX := cX) (cR := cR) w1 RP.out (HT.out.below TabE.stays bw1) (HX.out.below IdxE.stays bw1) (HR.out.below (SlE.stays (SlE.stays ValE.stays 3) 1) bw1) (cap_below HCP.out bw1))
        have hLl := ofF_length tabs idxs all
        have HGD := Lib.hid (good_of (tabs := tabs) (idxs := idxs) (right_sizes RP.out))
        have HSH := Lib.hid (of_short RP.out)
        obtain ⟨L, hL⟩ : ∃ L, ofF tabs idxs all = L := ⟨_, rfl⟩
        rw [hL] at HOF hLl HGD HSH
        have hnt := RP.out.nt
        have hnx := RP.out.nx
        have hne : ((L.length : Int) == (tabs.length : Int) + (idxs.length : Int)) = true := by rw [beq_iff_eq]; omega
        have hne' : ((L.length : Int) != (tabs.length : Int) + (idxs.length : Int)) = false := by rw [bne, hne]; rfl
        have hL12 : L.length ≤ 12 := by omega
        have HLL := Lib.hid hLl
        have q1 : decide (eq < 0) = false := decide_eq_false (by omega)
        have q2 : decide (40 < eq) = false := decide_eq_false (by omega)
        have HBW1 := Lib.hid bw1
        have hX2 : X < w1.heap.size := Nat.lt_of_lt_of_le hX1 hb1.size
        clear hL bw1 hLl
        go_wp2_with (first
          | (go_at_call 26; (with_reducible refine HOF.out.mono ?_); rintro e w2 ⟨A, c, rfl, hs, hb2⟩; have h0 := (hb2.cell (p := ⟨X, 0, none⟩) hX2).trans f0; have h1 := (hb2.cell (p := ⟨X, 1, none⟩) hX2).trans f1; have HS := Lib.hid hs; clear hs))
        have HBW2 := Lib.hid (HBW1.out.trans (hb2.mono HBW1.out.size))
        clear d0 d1 d2 f0 f1 f2 h0 h1 hb1 hb2
        go_loopw [6] (fun i wr => ∃ k : Nat, k ≤ L.length ∧ i = .int .i64 k ∧ Below w2.heap.size w2 wr) (fun i _ => L.length - (intOf i).toNat)
        case atStart => exact ⟨0, Nat.zero_le _, rfl, Below.refl _ _⟩
        case round =>
          obtain ⟨k, hk, rfl, hB⟩ := hrel
          by_cases hkl : k < L.length
          · obtain ⟨a, qb, qo, s, rfl, hq, hql, hsk, hE⟩ := (HS.out.below StatE.stays hB).get k hkl
            have c0 := hE.name
            have c1 := hE.many
            obtain ⟨u, c2, Au, cu, rfl, hsq⟩ := hE.unlike
            have HGS := Lib.hid (HGD.out s (List.mem_of_getElem? hsk))
            have hsh := HSH.out s (List.mem_of_getElem? hsk)
            have HZ := Lib.hid (And.intro hE.sz hE.mb)
            have HSQ := Lib.hid hsq
            have hmax := HZ.out.2
            clear hE hsk hsq
            obtain ⟨nm, many, ul⟩ := s
            simp only at c0 c1 c2 HZ HSQ hsh hmax
            have hn0 := HGS.out.nn
            simp only at hn0
            obtain ⟨a1, ha1⟩ : ∃ g, fewF many ul eq = g := ⟨_, rfl⟩
            obtain ⟨b1, hb1⟩ : ∃ g, fewF many ul (eq + 1) = g := ⟨_, rfl⟩
            obtain ⟨c3, hc3⟩ : ∃ g, upF a1 4 = g := ⟨_, rfl⟩
            obtain ⟨al, hal⟩ : ∃ g, fewF many ul ul.length = g := ⟨_, rfl⟩
            have r1 : b1 ≤ a1 := by rw [← ha1, ← hb1]; exact few_less HGS.out (by omega)
            have r2 : a1 ≤ many := by rw [← ha1]; exact few_most HGS.out eq
            have r0 : 0 ≤ a1 := by rw [← ha1]; exact fewF_nonneg _ _ _
            have r3 : c3 ≤ a1 := by rw [← hc3]; exact upF_le r0 (by omega)
            have r4 : al = if many < 1 then many else 1 := by rw [← hal]; exact few_all HGS.out
            have r5 : 1 ≤ many → 1 ≤ a1 := fun h => by rw [← ha1]; exact few_some HGS.out h eq
            have r6 : 1 ≤ a1 → 1 ≤ c3 := fun h => by rw [← hc3]; exact upF_some h (by omega)
            have r7 : many = 0 → a1 = 0 ∧ b1 = 0 ∧ c3 = 0 := fun h => ⟨by rw [← ha1]; exact few_none (s := ⟨nm, many, ul⟩) h eq, by rw [← hb1]; exact few_none (s := ⟨nm, many, ul⟩) h (eq + 1), by rw [← hc3, ← ha1, few_none (s := ⟨nm, many, ul⟩) h eq]; exact upF_zero _⟩
            have hum : ul.length ≤ maxLen := Nat.le_trans hsh (by unfold maxLen; decide)
            have GA := Lib.hid (guess_of (s := ⟨nm, many, ul⟩) (nm := nm) (eq := eq) (g := a1) (rg := false) (Z := wr.heap.size) (c := 1) rfl ha1 hum)
            have GB := Lib.hid (guess_of (s := ⟨nm, many, ul⟩) (nm := nm) (eq := eq + 1) (g := b1) (rg := false) (Z := wr.heap.size) (c := 1) rfl hb1 hum)
            have GC := Lib.hid (guess_of (s := ⟨nm, many, ul⟩) (nm := nm) (eq := eq) (g := c3) (rg := true) (Z := wr.heap.size) (c := 1) rfl (by rw [← hc3, ← ha1]; rfl) hum)
            have GD := Lib.hid (guess_of (s := ⟨nm, many, ul⟩) (nm := nm) (eq := (ul.length : Int)) (g := al) (rg := false) (Z := wr.heap.size) (c := 1) rfl hal hum)
            have SL := Lib.hid (stat_laid (cu := cu) HZ.out wr HSQ.out)
            have HUM := Lib.hid hum
            clear ha1 hb1 hc3 hal hum HSQ
            obtain ⟨n, hn⟩ : ∃ n, ul.length = n := ⟨_, rfl⟩
            rw [hn] at c2 SL GD hsh
            clear hn
            have hqw := hql
            have p0 := alloc_cell c0 hql
            have p1 := alloc_cell c1 hql
            have p2 := alloc_cell c2 hql
            have hqa : ∀ O, qb < (wr.alloc O).heap.size := fun O => by simp; omega
            by_cases m0 : many = 0
            · obtain ⟨z1, z2, z3⟩ := r7 m0
              have z4 : al = 0 := by rw [r4, if_pos (by omega)]; exact m0
              subst m0; subst z1; subst z2; subst z3; subst z4
              clear r0 r1 r2 r3 r4 r5 r6 r7
              go_wp2_with (first
                | (go_at_call 23; (with_reducible refine (GA.out _ SL.out).mono ?_); rintro e w3 ⟨rfl, hb3⟩; have s3 := SL.out.below StatE.stays hb3; have hq3 := Nat.lt_of_lt_of_le (hqa _) hb3.size; have t0 := (hb3.cell (p := ⟨qb, qo, none⟩) (hqa _)).trans (p0 _); have t1 := (hb3.cell (p := ⟨qb, qo + 1, none⟩) (hqa _)).trans (p1 _); have t2 := (hb3.cell (p := ⟨qb, qo + 2, none⟩) (hqa _)).trans (p2 _))
                | (go_at_call 23; (with_reducible refine (GB.out _ s3).mono ?_); rintro e w4 ⟨rfl, hb4⟩; have s4 := s3.below StatE.stays hb4; have hq4 := Nat.lt_of_lt_of_le hq3 hb4.size; have u0 := (hb4.cell (p := ⟨qb, qo, none⟩) hq3).trans t0; have u1 := (hb4.cell (p := ⟨qb, qo + 1, none⟩) hq3).trans t1; have u2 := (hb4.cell (p := ⟨qb, qo + 2, none⟩) hq3).trans t2)
                | (go_at_call 23; (with_reducible refine (GC.out _ s4).mono ?_); rintro e w5 ⟨rfl, hb5⟩; have s5 := s4.below StatE.stays hb5; have hq5 := Nat.lt_of_lt_of_le hq4 hb5.size; have v0 := (hb5.cell (p := ⟨qb, qo, none⟩) hq4).trans u0; have v1 := (hb5.cell (p := ⟨qb, qo + 1, none⟩) hq4).trans u1; have v2 := (hb5.cell (p := ⟨qb, qo + 2, none⟩) hq4).trans u2))
              have S5 := Lib.hid (s5.below StatE.stays ((Below.refl w5.heap.size w5).drew))
              go_region_held3 (fun w' => w'.cell? ⟨qb, qo, none⟩ = some (.string nm) ∧ w'.cell? ⟨qb, qo + 1, none⟩ = some (.int .i64 0) ∧ w'.cell? ⟨qb, qo + 2, none⟩ = some (.slice Au n cu)) (go_keep) (first
                | (go_at_call 23; (with_reducible refine (GD.out _ S5.out).mono ?_); rintro e w6 ⟨rfl, hb6⟩; have x0 := (hb6.cell (p := ⟨qb, qo, none⟩) hq5).trans v0; have x1 := (hb6.cell (p := ⟨qb, qo + 1, none⟩) hq5).trans v1; have x2 := (hb6.cell (p := ⟨qb, qo + 2, none⟩) hq5).trans v2))
              have hbz : Below wr.heap.size wr w3 := ((Below.refl wr.heap.size wr).alloc (Nat.le_refl _) (.cells #[.string nm, .int .i64 0, .slice Au n cu] 46)).trans (hb3.mono (by simp))
              have HBT := Lib.hid (hB.trans ((hbz.trans ((hb4.trans ((hb5.trans ((undrew hb6).mono hb5.size)).mono hb4.size)).mono hbz.size)).mono hB.size))
              clear p0 p1 p2 t0 t1 t2 u0 u1 u2 v0 v1 v2 c0 c1 c2 s3 s4 s5 hbz
              go_wp2_with fail
              go_roundw
              case rel => exact ⟨k + 1, by omega, by go_num, HBT.out⟩
              case measure => simp [intOf] <;> omega
            · have z4 : al = 1 := by rw [r4, if_neg (by omega)]
              subst z4
              have g0 : 1 ≤ many := by omega
              have g1 := r5 g0
              have g2 := r6 g1
              have k1 : (a1 == 0) = false := by rw [beq_eq_false_iff_ne]; omega
              have k2 : (many == 0) = false := by rw [beq_eq_false_iff_ne]; omega
              have k3 : (c3 == 0) = false := by rw [beq_eq_false_iff_ne]; omega
              have k4 : decide (a1 < b1) = false := decide_eq_false (by omega)
              have k5 : decide (a1 < c3) = false := decide_eq_false (by omega)
              have k6 : decide (many < a1) = false := decide_eq_false (by omega)
              clear r0 r4 r5 r6 r7 m0
              go_wp2_with (first
                | (go_at_call 23; (with_reducible refine (GA.out _ SL.out).mono ?_); rintro e w3 ⟨rfl, hb3⟩; have s3 := SL.out.below StatE.stays hb3; have hq3 := Nat.lt_of_lt_of_le (hqa _) hb3.size; have t0 := (hb3.cell (p := ⟨qb, qo, none⟩) (hqa _)).trans (p0 _); have t1 := (hb3.cell (p := ⟨qb, qo + 1, none⟩) (hqa _)).trans (p1 _); have t2 := (hb3.cell (p := ⟨qb, qo + 2, none⟩) (hqa _)).trans (p2 _))
                | (go_at_call 23; (with_reducible refine (GB.out _ s3).mono ?_); rintro e w4 ⟨rfl, hb4⟩; have s4 := s3.below StatE.stays hb4; have hq4 := Nat.lt_of_lt_of_le hq3 hb4.size; have u0 := (hb4.cell (p := ⟨qb, qo, none⟩) hq3).trans t0; have u1 := (hb4.cell (p := ⟨qb, qo + 1, none⟩) hq3).trans t1; have u2 := (hb4.cell (p := ⟨qb, qo + 2, none⟩) hq3).trans t2)
                | (go_at_call 23; (with_reducible refine (GC.out _ s4).mono ?_); rintro e w5 ⟨rfl, hb5⟩; have s5 := s4.below StatE.stays hb5; have hq5 := Nat.lt_of_lt_of_le hq4 hb5.size; have v0 := (hb5.cell (p := ⟨qb, qo, none⟩) hq4).trans u0; have v1 := (hb5.cell (p := ⟨qb, qo + 1, none⟩) hq4).trans u1; have v2 := (hb5.cell (p := ⟨qb, qo + 2, none⟩) hq4).trans u2))
              have S5 := Lib.hid (s5.below StatE.stays ((Below.refl w5.heap.size w5).drew))
              go_region_held3 (fun w' => w'.cell? ⟨qb, qo, none⟩ = some (.string nm) ∧ w'.cell? ⟨qb, qo + 1, none⟩ = some (.int .i64 many) ∧ w'.cell? ⟨qb, qo + 2, none⟩ = some (.slice Au n cu)) (go_keep) (first
                | (go_at_call 23; (with_reducible refine (GD.out _ S5.out).mono ?_); rintro e w6 ⟨rfl, hb6⟩; have x0 := (hb6.cell (p := ⟨qb, qo, none⟩) hq5).trans v0; have x1 := (hb6.cell (p := ⟨qb, qo + 1, none⟩) hq5).trans v1; have x2 := (hb6.cell (p := ⟨qb, qo + 2, none⟩) hq5).trans v2))
              have hbz : Below wr.heap.size wr w3 := ((Below.refl wr.heap.size wr).alloc (Nat.le_refl _) (.cells #[.string nm, .int .i64 many, .slice Au n cu] 46)).trans (hb3.mono (by simp))
              have HBT := Lib.hid (hB.trans ((hbz.trans ((hb4.trans ((hb5.trans ((undrew hb6).mono hb5.size)).mono hb4.size)).mono hbz.size)).mono hB.size))
              clear p0 p1 p2 t0 t1 t2 u0 u1 u2 v0 v1 v2 c0 c1 c2 s3 s4 s5 hbz
              go_wp2_with fail
              go_roundw
              case rel => exact ⟨k + 1, by omega, by go_num, HBT.out⟩
              case measure => simp [intOf] <;> omega
          · obtain rfl : k = L.length := by omega
            go_wp2_with (first
              | (go_at_call 22; (with_reducible refine (live_any _).mono ?_); rintro e w3 ⟨rfl, hb3⟩))
            go_ret
            exact ⟨rfl, HBW2.out.trans ((hB.trans (hb3.mono hB.size)).mono HBW2.out.size)⟩

end Go.Proofs.Ytpalbdjcfhlniaa
