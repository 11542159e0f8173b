/- The statement's own pieces for lock: step, same, live. -/
import Derived.Test.YtpalbdjcfhlniaaLockE
import Derived.Deep.DeepFit
namespace Go.Proofs.Ytpalbdjcfhlniaa
open Go.RowKit

theorem quiet_left {P : Program} {f : FuncId} {args : Array Value} {w : World} {n : Nat} {v : Value}
    (h : Calls P f args (w.drewN n) fun e w' => e = .returned v ∧ w.drewN n = w') : Calls P f args (w.drewN n) fun e w'' => e = .returned v ∧ ∃ m, w'' = w.drewN m :=
  h.mono fun _ _ ⟨he, hm⟩ => ⟨he, n, hm.symm⟩

/-- A slice that reads a list below the heap's end, nil let in. -/
def Seen (w : World) (A : Option Addr) (xs : List Int) : Prop := ∀ k, k < xs.length → ∃ a, A = some a ∧ a.block < w.heap.size ∧ w.cell? (a.add k) = some (.int .i64 (xs.getD k 0))

theorem block_of_add (a : Addr) (n : Nat) : (a.add n).block = a.block := by unfold Addr.add; split <;> rfl
theorem Seen.reads {w : World} {A : Option Addr} {xs : List Int} (h : Seen w A xs) : Reads w A xs := fun k hk => let ⟨a, e, _, c⟩ := h k hk; ⟨a, e, c⟩
theorem Seen.below {w w' : World} {A : Option Addr} {xs : List Int} (h : Seen w A xs) (hb : Below w.heap.size w w') : Seen w' A xs := fun k hk =>
  let ⟨a, e, hl, c⟩ := h k hk
  ⟨a, e, Nat.lt_of_lt_of_le hl hb.size, (hb.cell (by rw [block_of_add]; exact hl)).trans c⟩
theorem Seen.of_own {w : World} {base : Nat} {v : Value} {xs : List Int} (h : w.ownsRow base 3 1 v xs.length (xs.map (Value.int .i64))) : ∃ A c, v = .slice A xs.length c ∧ Seen w A xs := by
  rcases h.2 with ⟨rfl, hn⟩ | ⟨g, cap, cur, rfl, hb, hg, rest⟩
  · exact ⟨none, 0, by rw [hn], fun k hk => by omega⟩
  · refine ⟨_, cap, rfl, fun k hk => ⟨_, rfl, ?_, h.cells (g := g) rfl k _ ?_⟩⟩
    · rcases Nat.lt_or_ge g w.heap.size with hlt | hge
      · exact hlt
      · rw [Array.getElem?_eq_none hge] at hg; cases hg
    · rw [List.getElem?_map]; simp [hk]

theorem holds_seen (g : Nat) (xs : List Int) (level : Int) (w : World) (h : LockAt w g xs) :
    Calls Try.prog 19 #[.pointer (some ⟨g, 0, none⟩), .int .i64 level] w fun e w' =>
      ∃ A c, e = .returned (.slice A (hold xs level xs.length).length c) ∧ Seen w' A (hold xs level xs.length) ∧ Below w.heap.size w w' :=
  (holds_any g xs level w h).mono fun _ _ ⟨_, he, hown, hb⟩ => by
    obtain ⟨A, c, rfl, hs⟩ := Seen.of_own hown
    exact ⟨A, c, he, hs, hb⟩
theorem rholds_seen (b c : Nat) (xs : List Int) (level : Int) (w : World) (h : RowAt w b c xs) :
    Calls Try.prog 38 #[.slice (some ⟨b, 0, none⟩) xs.length c, .int .i64 level] w fun e w' =>
      ∃ A c, e = .returned (.slice A (hold xs level xs.length).length c) ∧ Seen w' A (hold xs level xs.length) ∧ Below w.heap.size w w' :=
  (rholds_any b c xs level w h).mono fun _ _ ⟨_, he, hown, hb⟩ => by
    obtain ⟨A, c, rfl, hs⟩ := Seen.of_own hown
    exact ⟨A, c, he, hs, hb⟩

/-- What a deed makes of the levels. -/
def deedF (xs : List Int) (dr : Bool) (who level : Int) : List Int := if dr then (dropF xs who level).1 else (askF xs who level).1

theorem deedF_length (xs : List Int) (dr : Bool) (who level : Int) : (deedF xs dr who level).length = xs.length := by
  unfold deedF; split
  · exact dropF_length ..
  · exact askF_length ..

def Stepped (w : World) (g b : Nat) (ys : List Int) (e : Ending) (w' : World) : Prop :=
  ∃ b' c', e = .returned (.tuple #[.slice (some ⟨b', 0, none⟩) ys.length c', .bool true]) ∧ (b' = b ∨ w.heap.size ≤ b') ∧ RowAt w' b' c' ys ∧ LockAt w' g ys ∧ w.grownBy w' (some g)

theorem grown_of_below {a w : World} (h : Below a.heap.size a w) (row : Option Nat) : a.grownBy w row := ⟨h.os, h.tape, h.output, h.size, fun i hi _ => h.block i hi⟩
theorem grown_trans {a b c : World} {row : Option Nat} (h : a.grownBy b row) (k : b.grownBy c row) : a.grownBy c row :=
  ⟨k.os.trans h.os, k.tape.trans h.tape, k.output.trans h.output, Nat.le_trans h.size k.size, fun i hi hn => (k.block i (Nat.lt_of_lt_of_le hi h.size) hn).trans (h.block i hi hn)⟩
theorem LockAt.ne_row {w : World} {g b c : Nat} {xs ys : List Int} (h : LockAt w g xs) (h' : RowAt w b c ys) : g ≠ b := by
  rintro rfl
  rcases h'.2.2 with ⟨hv, _⟩ | ⟨g', cap, cur, hv, _, hg, _⟩
  · simp at hv
  · have : g = g' := by simpa [Value.ownBlock] using congrArg Value.ownBlock hv
    subst this
    have := h.blk
    rw [hg] at this
    simp at this

theorem Stepped.of {w o : World} {w1 w2 : World} {g b c : Nat} {r : List Int × Int} {xs : List Int} {b' c' : Nat} (h : LockAt w g xs) (hr : RowAt w b c xs) (ho : Below w.heap.size w o)
    (hb' : b' = b ∨ o.heap.size ≤ b') (hrow : RowAt w1 b' c' r.1) (hbel : Below o.heap.size o w1) (hl : LockAt w2 g r.1) (hg : w1.grownBy w2 (some g)) :
    Stepped w g b r.1 (.returned (.tuple #[.slice (some ⟨b', 0, none⟩) r.1.length c', .bool true])) w2 := by
  have hne := h.ne_row hr
  have hgl := h.lt
  refine ⟨b', c', rfl, ?_, hrow.grown hg ?_, hl, grown_trans (grown_of_below (ho.trans (hbel.mono ho.size)) _) hg⟩
  · rcases hb' with rfl | h1
    · exact .inl rfl
    · exact .inr (Nat.le_trans ho.size h1)
  · intro e
    injection e with e
    rcases hb' with rfl | h1
    · exact hne e.symm
    · have := ho.size; omega

set_option maxHeartbeats 400000 in
theorem step_any (g b c : Nat) (xs : List Int) (dr : Bool) (who level : Int) (w : World) (h : LockAt w g xs) (hr : RowAt w b c xs) :
    Calls Try.prog 15 #[.pointer (some ⟨g, 0, none⟩), .slice (some ⟨b, 0, none⟩) xs.length c, .agg #[.bool dr, .int .i64 who, .int .i64 level]] w (Stepped w g b (deedF xs dr who level)) := by
  have H := Lib.hid h
  have HR := Lib.hid hr
  have hgl := h.lt
  have hbl := hr.lt
  clear h hr
  have hO : ∀ O, Below w.heap.size w (w.alloc O) := fun O => (Below.refl _ _).alloc (Nat.le_refl _) O
  have hc1 : ∀ (x : Bool) (y z : Int) (t : TypeId), (w.alloc (.cells #[.bool x, .int .i64 y, .int .i64 z] t)).cell? ⟨w.heap.size, 1, none⟩ = some (.int .i64 y) := fun x y z t => World.cell?_alloc_new w _ t 1
  have hc2 : ∀ (x : Bool) (y z : Int) (t : TypeId), (w.alloc (.cells #[.bool x, .int .i64 y, .int .i64 z] t)).cell? ⟨w.heap.size, 2, none⟩ = some (.int .i64 z) := fun x y z t => World.cell?_alloc_new w _ t 2
  cases dr
  · rw [show deedF xs false who level = (askF xs who level).1 from rfl]
    obtain ⟨r, hr⟩ : ∃ r, askF xs who level = r := ⟨_, rfl⟩
    have hL : ∀ W, LockAt W g xs → Calls Try.prog 18 #[.pointer (some ⟨g, 0, none⟩), .int .i64 who, .int .i64 level] W (Did W g r) := fun W hW => hr ▸ ask_any g xs who level W hW
    have hM : ∀ W, RowAt W b c xs → Calls Try.prog 36 #[.slice (some ⟨b, 0, none⟩) xs.length c, .int .i64 who, .int .i64 level] W (RDid W b r) := fun W hW => hr ▸ rask_any b c xs who level W hW
    rw [hr]
    clear hr
    go_enter Try.func15, Try.ntmps15
    go_wp2_with (first
      | (go_at_call 36; refine (hM _ (HR.out.below (hO _) hbl)).mono ?_; rintro e w1 ⟨b', c', rfl, hb', hrow, hbel⟩; have k1 := (hbel.cell (p := ⟨w.heap.size, 1, none⟩) (by simp)).trans (hc1 _ _ _ _); have k2 := (hbel.cell (p := ⟨w.heap.size, 2, none⟩) (by simp)).trans (hc2 _ _ _ _))
      | (go_at_call 18; refine (hL _ ((H.out.below (hO _) hgl).below hbel (by simp; omega))).mono ?_; rintro e w2 ⟨rfl, hl, hgr⟩))
    go_ret2
    exact Stepped.of H.out HR.out (hO _) hb' hrow hbel hl hgr
  · rw [show deedF xs true who level = (dropF xs who level).1 from rfl]
    obtain ⟨r, hr⟩ : ∃ r, dropF xs who level = r := ⟨_, rfl⟩
    have hL : ∀ W, LockAt W g xs → Calls Try.prog 17 #[.pointer (some ⟨g, 0, none⟩), .int .i64 who, .int .i64 level] W (Did W g r) := fun W hW => hr ▸ drop_any g xs who level W hW
    have hM : ∀ W, RowAt W b c xs → Calls Try.prog 35 #[.slice (some ⟨b, 0, none⟩) xs.length c, .int .i64 who, .int .i64 level] W (RDid W b r) := fun W hW => hr ▸ rdrop_any b c xs who level W hW
    rw [hr]
    clear hr
    go_enter Try.func15, Try.ntmps15
    go_wp2_with (first
      | (go_at_call 35; refine (hM _ (HR.out.below (hO _) hbl)).mono ?_; rintro e w1 ⟨b', c', rfl, hb', hrow, hbel⟩; have k1 := (hbel.cell (p := ⟨w.heap.size, 1, none⟩) (by simp)).trans (hc1 _ _ _ _); have k2 := (hbel.cell (p := ⟨w.heap.size, 2, none⟩) (by simp)).trans (hc2 _ _ _ _))
      | (go_at_call 17; refine (hL _ ((H.out.below (hO _) hgl).below hbel (by simp; omega))).mono ?_; rintro e w2 ⟨rfl, hl, hgr⟩))
    go_ret2
    exact Stepped.of H.out HR.out (hO _) hb' hrow hbel hl hgr

end Go.Proofs.Ytpalbdjcfhlniaa
