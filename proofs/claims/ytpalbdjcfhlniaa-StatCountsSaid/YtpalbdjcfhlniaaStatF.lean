/- The walks that hold rows against rows: SameRow, Same. -/
import Derived.Test.YtpalbdjcfhlniaaStatB
namespace Go.Proofs.Ytpalbdjcfhlniaa
open Go.RowKit

/-- Are two values one? -/
def vlB (x y : Vl) : Bool := x.kind == y.kind && (x.n == y.n && x.s.toList == y.s.toList)
/-- Are two lists one, element by element? -/
def allB {α : Type} (p : α → α → Bool) : List α → List α → Bool
  | [], [] => true
  | x :: a, y :: b => p x y && allB p a b
  | _, _ => false

theorem allB_len {α : Type} {p : α → α → Bool} : ∀ {a b : List α}, a.length ≠ b.length → allB p a b = false
  | [], [], h => absurd rfl h
  | [], _ :: _, _ => rfl
  | _ :: _, [], _ => rfl
  | x :: a, y :: b, h => by
    have : allB p a b = false := allB_len (by simpa using h)
    simp [allB, this]
theorem allB_true {α : Type} {p : α → α → Bool} : ∀ {a b : List α}, a.length = b.length → (∀ (j : Nat) x y, a[j]? = some x → b[j]? = some y → p x y = true) → allB p a b = true
  | [], [], _, _ => rfl
  | [], _ :: _, h, _ => by simp at h
  | _ :: _, [], h, _ => by simp at h
  | x :: a, y :: b, h, hp => by
    have h1 : allB p a b = true := allB_true (by simpa using h) (fun j u v hu hv => hp (j + 1) u v (by simpa using hu) (by simpa using hv))
    have h2 := hp 0 x y rfl rfl
    simp [allB, h1, h2]
theorem allB_false {α : Type} {p : α → α → Bool} : ∀ {a b : List α} {j : Nat} {x y : α}, a[j]? = some x → b[j]? = some y → p x y = false → allB p a b = false
  | [], _, j, x, y, ha, _, _ => by simp at ha
  | _ :: _, [], j, x, y, _, hb, _ => by simp at hb
  | u :: a, v :: b, 0, x, y, ha, hb, h => by
    simp at ha hb
    subst ha; subst hb
    simp [allB, h]
  | u :: a, v :: b, j + 1, x, y, ha, hb, h => by
    have : allB p a b = false := allB_false (j := j) (by simpa using ha) (by simpa using hb) h
    simp [allB, this]

theorem Try.guard78 : Try.prog.eqGuardType Try.prog.depth 78 = false := by kernel_rfl
theorem Try.held78 : Try.prog.stoodInHeld 78 = false := by kernel_rfl

theorem run_eq78 (x y : Vl) (W : World) :
    (Op.equalIn 10000 78 (.agg #[.int .i64 x.kind, .int .i64 x.n, .string x.s]) (.agg #[.int .i64 y.kind, .int .i64 y.n, .string y.s])).run Try.prog W = .ok (vlB x y) W := by
  rw [run_equalIn_struct W 9999 78 _ _ (by simp only [Program.fieldsOf, Try.underlying78]) Try.held78]
  simp only [Program.fieldsOf, Try.underlying78]
  cases h1 : x.kind == y.kind <;> cases h2 : x.n == y.n <;> cases h3 : x.s.toList == y.s.toList <;> simp [Op.eqFields, go_sem, vlB, h1, h2, h3]

theorem run_guard78 (op : BinOp) (x y : Operand) (xs ys : Array Value) (W : World) : (eqGuard op 78 x y (.agg xs) (.agg ys)).run Try.prog W = .ok () W :=
  run_eqGuard_agg W op 78 x y xs ys Try.guard78

set_option maxHeartbeats 1000000 in
set_option maxRecDepth 100000 in
theorem sameRow_any (A A' : Option Addr) (c c' : Nat) (a b : List Vl) (w : World) (ha : SeqAt ValE 3 w A a) (hb : SeqAt ValE 3 w A' b) (hm : a.length ≤ maxLen) (_hm' : b.length ≤ maxLen) :
    Calls Try.prog 60 #[.slice A a.length c, .slice A' b.length c'] w fun e w' => e = .returned (.bool (allB vlB a b)) ∧ ∃ n, w' = w.drewN n := by
  unfold maxLen at hm
  have HA := Lib.hid ha
  have HB := Lib.hid hb
  clear ha hb
  by_cases hlen : a.length = b.length
  · have HL := Lib.hid hlen
    rw [← hlen]
    clear hlen
    have hg := run_guard78
    go_enter Try.func60, Try.ntmps60
    go_wp2_with fail
    go_loopw [5] (fun i wr => ∃ k n : Nat, k ≤ a.length ∧ i = .int .i64 k ∧ wr = w.drewN n ∧ ∀ (j : Nat) x y, j < k → a[j]? = some x → b[j]? = some y → vlB x y = true) (fun i _ => a.length - (intOf i).toNat)
    case atStart => exact ⟨0, 0, Nat.zero_le _, rfl, rfl, fun j _ _ hj => by omega⟩
    case round =>
      obtain ⟨k, n, hk, rfl, rfl, hall⟩ := hrel
      have HALL := Lib.hid hall
      clear hall
      by_cases hlt : k < a.length
      · obtain ⟨p, qb, qo, x, rfl, hq, hql, hx, hE⟩ := HA.out.get k hlt
        obtain ⟨p', qb', qo', y, rfl, hq', hql', hy, hE'⟩ := HB.out.get k (by rw [← HL.out]; exact hlt)
        have c0 := hE.kind
        have c1 := hE.n
        have c2 := hE.s
        have d0 := hE'.kind
        have d1 := hE'.n
        have d2 := hE'.s
        have he := run_eq78 x y
        have HX := Lib.hid hx
        have HY := Lib.hid hy
        clear hE hE' hx hy
        obtain ⟨v, hv⟩ : ∃ v, vlB x y = v := ⟨_, rfl⟩
        rw [hv] at he
        have HV := Lib.hid hv
        clear hv
        obtain ⟨xk, hxk⟩ : ∃ v, x.kind = v := ⟨_, rfl⟩
        obtain ⟨xn, hxn⟩ : ∃ v, x.n = v := ⟨_, rfl⟩
        obtain ⟨xs, hxs⟩ : ∃ v, x.s = v := ⟨_, rfl⟩
        obtain ⟨yk, hyk⟩ : ∃ v, y.kind = v := ⟨_, rfl⟩
        obtain ⟨yn, hyn⟩ : ∃ v, y.n = v := ⟨_, rfl⟩
        obtain ⟨ys, hys⟩ : ∃ v, y.s = v := ⟨_, rfl⟩
        rw [hxk] at c0 he
        rw [hxn] at c1 he
        rw [hxs] at c2 he
        rw [hyk] at d0 he
        rw [hyn] at d1 he
        rw [hys] at d2 he
        clear hxk hxn hxs hyk hyn hys
        cases v
        · go_wp2_with fail
          go_quiet (fail)
          go_wp2_with fail
          go_ret
          exact ⟨ret_bool (allB_false HX.out HY.out HV.out), _, World.drewN_drewN _ _ _⟩
        · go_wp2_with fail
          go_quiet (fail)
          go_wp2_with fail
          go_roundw
          case rel =>
            refine ⟨k + 1, _, by omega, by go_num, rfl, fun j u v hj hu hv => ?_⟩
            by_cases hjk : j = k
            · subst hjk
              have h1 := HX.out
              have h2 := HY.out
              rw [h1] at hu
              rw [h2] at hv
              injection hu with hu
              injection hv with hv
              subst hu; subst hv
              exact HV.out
            · exact HALL.out j u v (by omega) hu hv
          case measure => simp [intOf] <;> omega
      · obtain rfl : k = a.length := by omega
        have HE := Lib.hid (allB_true (p := vlB) HL.out (fun j x y hx hy => HALL.out j x y (List.getElem?_eq_some_iff.1 hx).1 hx hy))
        go_wp2_with fail
        go_ret
        exact ⟨ret_bool HE.out, _, rfl⟩
  · have HE := Lib.hid (allB_len (p := vlB) hlen)
    have hl' : ((a.length : Int) != (b.length : Int)) = true := by simp only [bne_iff_ne]; omega
    clear hlen
    go_enter Try.func60, Try.ntmps60
    go_wp2_with fail
    go_ret
    exact ⟨ret_bool HE.out, 0, rfl⟩

theorem quiet_draw {P : Program} {f : FuncId} {args : Array Value} {w : World} {n : Nat} {v : Value}
    (h : Calls P f args (w.drewN n) fun e w' => e = .returned v ∧ ∃ m, w' = (w.drewN n).drewN m) : Calls P f args (w.drewN n) fun e w'' => e = .returned v ∧ ∃ m, w'' = w.drewN m :=
  h.mono fun _ _ ⟨he, m, hm⟩ => ⟨he, n + m, by rw [hm, World.drewN_drewN]⟩

theorem sameRow_of {A A' : Option Addr} {c c' : Nat} {a b : List Vl} {w : World} {v : Bool} (hv : allB vlB a b = v) (ha : SeqAt ValE 3 w A a) (hb : SeqAt ValE 3 w A' b) (hm : a.length ≤ maxLen) (hm' : b.length ≤ maxLen) :
    Calls Try.prog 60 #[.slice A a.length c, .slice A' b.length c'] w fun e w' => e = .returned (.bool v) ∧ ∃ n, w' = w.drewN n := by
  rw [← hv]; exact sameRow_any A A' c c' a b w ha hb hm hm'

theorem SeqAt.drewN {α : Type} {E : World → Nat → Nat → α → Prop} {size : Nat} {w : World} {A : Option Addr} {xs : List α} (hE : Stays E) (h : SeqAt E size w A xs) (n : Nat) : SeqAt E size (w.drewN n) A xs :=
  h.below hE (below_drewN' (Below.refl _ _) n)

set_option maxHeartbeats 1000000 in
set_option maxRecDepth 100000 in
theorem sameRows_any (A A' : Option Addr) (c c' : Nat) (a b : List (List Vl)) (w : World) (ha : SeqAt RowE 1 w A a) (hb : SeqAt RowE 1 w A' b) (hm : a.length ≤ maxLen) (hra : ∀ r ∈ a, r.length ≤ maxLen) (hrb : ∀ r ∈ b, r.length ≤ maxLen) :
    Calls Try.prog 32 #[.slice A a.length c, .slice A' b.length c'] w fun e w' => e = .returned (.bool (allB (allB vlB) a b)) ∧ ∃ n, w' = w.drewN n := by
  unfold maxLen at hm
  have HA := Lib.hid ha
  have HB := Lib.hid hb
  have HRA := Lib.hid hra
  have HRB := Lib.hid hrb
  clear ha hb hra hrb
  by_cases hlen : a.length = b.length
  · have HL := Lib.hid hlen
    rw [← hlen]
    clear hlen
    go_enter Try.func32, Try.ntmps32
    go_wp2_with fail
    go_loopw [5] (fun i wr => ∃ k n : Nat, k ≤ a.length ∧ i = .int .i64 k ∧ wr = w.drewN n ∧ ∀ (j : Nat) x y, j < k → a[j]? = some x → b[j]? = some y → allB vlB x y = true) (fun i _ => a.length - (intOf i).toNat)
    case atStart => exact ⟨0, 0, Nat.zero_le _, rfl, rfl, fun j _ _ hj => by omega⟩
    case round =>
      obtain ⟨k, n, hk, rfl, hwr, hall⟩ := hrel
      have HALL := Lib.hid hall
      have HWR := Lib.hid hwr
      clear hall
      by_cases hlt : k < a.length
      · obtain ⟨p, qb, qo, x, rfl, hq, hql, hx, hE⟩ := (HA.out.drewN (SlE.stays ValE.stays 3) n).get k hlt
        obtain ⟨p', qb', qo', y, rfl, hq', hql', hy, hE'⟩ := (HB.out.drewN (SlE.stays ValE.stays 3) n).get k (by rw [← HL.out]; exact hlt)
        rw [← hwr] at hE hE'
        obtain ⟨u, hu, B1, e1, rfl, hs1⟩ := hE
        obtain ⟨u', hu', B2, e2, rfl, hs2⟩ := hE'
        have HX := Lib.hid hx
        have HY := Lib.hid hy
        have h1 := Lib.hid (HRA.out x (List.mem_of_getElem? hx))
        have h2 := Lib.hid (HRB.out y (List.mem_of_getElem? hy))
        have HS1 := Lib.hid hs1
        have HS2 := Lib.hid hs2
        rw [Nat.mul_one] at hq hq'
        clear hx hy hs1 hs2 hwr
        obtain ⟨v, hv⟩ : ∃ v, allB vlB x y = v := ⟨_, rfl⟩
        have HV := Lib.hid hv
        clear hv
        cases v
        all_goals
          go_wp2_with fail
          go_quiet ((go_at_call 60; exact quiet_draw (sameRow_of HV.out (HS1.out.drewN ValE.stays _) (HS2.out.drewN ValE.stays _) h1.out h2.out)))
          go_wp2_with fail
        · go_ret
          exact ⟨ret_bool (allB_false HX.out HY.out HV.out), _, by rw [HWR.out, World.drewN_drewN]⟩
        · go_roundw
          case rel =>
            refine ⟨k + 1, _, by omega, by go_num, by rw [HWR.out, World.drewN_drewN], fun j u v hj hu hv => ?_⟩
            by_cases hjk : j = k
            · subst hjk
              have h1 := HX.out
              have h2 := HY.out
              rw [h1] at hu
              rw [h2] at hv
              injection hu with hu
              injection hv with hv
              subst hu; subst hv
              exact HV.out
            · exact HALL.out j u v (by omega) hu hv
          case measure => simp [intOf] <;> omega
      · obtain rfl : k = a.length := by omega
        have HE := Lib.hid (allB_true (p := allB vlB) HL.out (fun j x y hx hy => HALL.out j x y (List.getElem?_eq_some_iff.1 hx).1 hx hy))
        go_wp2_with fail
        go_ret
        exact ⟨ret_bool HE.out, n, rfl⟩
  · have HE := Lib.hid (allB_len (p := allB vlB) hlen)
    have hl' : ((a.length : Int) != (b.length : Int)) = true := by simp only [bne_iff_ne]; omega
    clear hlen
    go_enter Try.func32, Try.ntmps32
    go_wp2_with fail
    go_ret
    exact ⟨ret_bool HE.out, 0, rfl⟩

end Go.Proofs.Ytpalbdjcfhlniaa
