/- What live lays in memory. -/
import Derived.Test.YtpalbdjcfhlniaaStatU
namespace Go.Proofs.Ytpalbdjcfhlniaa
open Go.RowKit

def sA : ByteArray := ⟨#[97]⟩
def sT : ByteArray := ⟨#[116]⟩
def sX : ByteArray := ⟨#[120]⟩
def sY : ByteArray := ⟨#[121]⟩
def liveCol : Cm := ⟨⟨#[97]⟩, 0, 0, false, false, false, vl0⟩
def liveTab : Tb := ⟨⟨#[116]⟩, [liveCol], 0⟩
def liveIc : Ic := ⟨⟨#[97]⟩, 0, false⟩
def liveIx : Ix := ⟨⟨#[120]⟩, ⟨#[116]⟩, [liveIc], false, 0⟩
def liveRow (n : Int) (s : ByteArray) : List Vl := [⟨1, n, ⟨#[]⟩⟩, ⟨2, 0, s⟩]
def liveRows : List (List Vl) := [liveRow 1 ⟨#[120]⟩, liveRow 2 ⟨#[120]⟩, liveRow 3 ⟨#[121]⟩]

def liveW (w : World) : World :=
  ((((((((((w.alloc (.cells #[.string ⟨#[97]⟩, .int .i64 0, .int .i64 0, .bool false, .bool false, .bool false, .int .i64 0, .int .i64 0, .string ⟨#[]⟩] 80)).alloc
    (.cells #[.string ⟨#[116]⟩, .slice (some ⟨w.heap.size, 0, none⟩) 1 1, .slice none 0 0, .int .i64 0] 84)).alloc
    (.cells #[.string ⟨#[97]⟩, .int .i64 0, .bool false] 86)).alloc
    (.cells #[.string ⟨#[120]⟩, .string ⟨#[116]⟩, .slice (some ⟨w.heap.size + 1 + 1, 0, none⟩) 1 1, .bool false, .int .i64 0] 89)).alloc
    (.cells #[.int .i64 1, .int .i64 1, .string ⟨#[]⟩, .int .i64 2, .int .i64 0, .string ⟨#[120]⟩] 78)).alloc
    (.cells #[.int .i64 1, .int .i64 2, .string ⟨#[]⟩, .int .i64 2, .int .i64 0, .string ⟨#[120]⟩] 78)).alloc
    (.cells #[.int .i64 1, .int .i64 3, .string ⟨#[]⟩, .int .i64 2, .int .i64 0, .string ⟨#[121]⟩] 78)).alloc
    (.cells #[.slice (some ⟨w.heap.size + 1 + 1 + 1 + 1, 0, none⟩) 2 2, .slice (some ⟨w.heap.size + 1 + 1 + 1 + 1 + 1, 0, none⟩) 2 2, .slice (some ⟨w.heap.size + 1 + 1 + 1 + 1 + 1 + 1, 0, none⟩) 2 2] 66)).alloc
    (.cells #[.slice (some ⟨w.heap.size + 1 + 1 + 1 + 1 + 1 + 1 + 1, 0, none⟩) 3 3] 61)).alloc
    (.cells #[.slice (some ⟨w.heap.size + 1, 0, none⟩) 1 1, .slice (some ⟨w.heap.size + 1 + 1 + 1, 0, none⟩) 1 1, .slice (some ⟨w.heap.size + 1 + 1 + 1 + 1 + 1 + 1 + 1 + 1, 0, none⟩) 1 1] 53))

theorem seq_lit {α : Type} {E : World → Nat → Nat → α → Prop} {size : Nat} {w : World} {g : Nat} {xs : List α} (hg : g < w.heap.size) (h : ∀ k x, xs[k]? = some x → E w g (k * size) x) : SeqAt E size w (some ⟨g, 0, none⟩) xs :=
  fun k x hx => ⟨_, g, k * size, rfl, add_zero g _, hg, h k x hx⟩
theorem one_lit {α : Type} {E : World → Nat → Nat → α → Prop} {size : Nat} {w : World} {g : Nat} {x : α} (hg : g < w.heap.size) (h : E w g 0 x) : SeqAt E size w (some ⟨g, 0, none⟩) [x] :=
  seq_lit hg fun k y hy => by
    match k, hy with
    | 0, hy => simp at hy; subst hy; simpa using h

theorem small (s : ByteArray) (h : s.size ≤ 10) : s.size ≤ maxLen := by unfold maxLen; omega

theorem liveW_size (w : World) : (liveW w).heap.size = w.heap.size + 10 := by simp [liveW]
theorem liveW_below (w : World) : Below w.heap.size w (liveW w) := by
  unfold liveW
  exact ((((((((((Below.refl _ w).alloc (by simp) _).alloc (by simp) _).alloc (by simp; omega) _).alloc (by simp; omega) _).alloc (by simp; omega) _).alloc (by simp; omega) _).alloc (by simp; omega) _).alloc (by simp; omega) _).alloc (by simp; omega) _).alloc (by simp; omega) _

theorem live_cols (w : World) : SeqAt ColE 9 (liveW w) (some ⟨w.heap.size, 0, none⟩) [liveCol] :=
  one_lit (by rw [liveW_size]; omega) ⟨by simp [liveW, liveCol, go_sem], by simp [liveW, liveCol, go_sem], by simp [liveW, liveCol, go_sem], by simp [liveW, liveCol, go_sem], by simp [liveW, liveCol, go_sem], by simp [liveW, liveCol, go_sem],
    by simp [liveW, liveCol, vl0, go_sem], by simp [liveW, liveCol, vl0, go_sem], by simp [liveW, liveCol, vl0, go_sem], small _ (by decide)⟩
theorem live_tabs (w : World) : SeqAt TabE 4 (liveW w) (some ⟨w.heap.size + 1, 0, none⟩) [liveTab] :=
  one_lit (by rw [liveW_size]; omega) ⟨by simp [liveW, liveTab, go_sem], ⟨.slice (some ⟨w.heap.size, 0, none⟩) 1 1, by simp [liveW, go_sem], _, _, rfl, live_cols w⟩, ⟨none, 0, 0, by simp [liveW, go_sem]⟩, by simp [liveW, liveTab, go_sem], small _ (by decide)⟩
theorem live_ics (w : World) : SeqAt IcE 3 (liveW w) (some ⟨w.heap.size + 1 + 1, 0, none⟩) [liveIc] :=
  one_lit (by rw [liveW_size]; omega) ⟨by simp [liveW, liveIc, go_sem], by simp [liveW, liveIc, go_sem], by simp [liveW, liveIc, go_sem], small _ (by decide)⟩
theorem live_idxs (w : World) : SeqAt IdxE 5 (liveW w) (some ⟨w.heap.size + 1 + 1 + 1, 0, none⟩) [liveIx] :=
  one_lit (by rw [liveW_size]; omega) ⟨by simp [liveW, liveIx, go_sem], by simp [liveW, liveIx, go_sem], ⟨.slice (some ⟨w.heap.size + 1 + 1, 0, none⟩) 1 1, by simp [liveW, go_sem], _, _, rfl, live_ics w⟩, by simp [liveW, liveIx, go_sem], by simp [liveW, liveIx, go_sem], small _ (by decide), small _ (by decide)⟩
theorem live_caps (w : World) : SeqAt CapE 5 (liveW w) (some ⟨w.heap.size + 1 + 1 + 1, 0, none⟩) [liveIx] :=
  one_lit (by rw [liveW_size]; omega) ⟨some ⟨w.heap.size + 1 + 1, 0, none⟩, 1, by simp [liveW, liveIx, go_sem], by simp [liveIx], by unfold maxLen; omega⟩

theorem live_row1 (w : World) : SeqAt ValE 3 (liveW w) (some ⟨w.heap.size + 1 + 1 + 1 + 1, 0, none⟩) (liveRow 1 ⟨#[120]⟩) :=
  seq_lit (by rw [liveW_size]; omega) fun k x hx => by
    match k, hx with
    | 0, hx => simp [liveRow] at hx; subst hx; exact ⟨by simp [liveW, go_sem], by simp [liveW, go_sem], by simp [liveW, go_sem], small _ (by decide)⟩
    | 1, hx => simp [liveRow] at hx; subst hx; exact ⟨by simp [liveW, go_sem], by simp [liveW, go_sem], by simp [liveW, go_sem], small _ (by decide)⟩
theorem live_row2 (w : World) : SeqAt ValE 3 (liveW w) (some ⟨w.heap.size + 1 + 1 + 1 + 1 + 1, 0, none⟩) (liveRow 2 ⟨#[120]⟩) :=
  seq_lit (by rw [liveW_size]; omega) fun k x hx => by
    match k, hx with
    | 0, hx => simp [liveRow] at hx; subst hx; exact ⟨by simp [liveW, go_sem], by simp [liveW, go_sem], by simp [liveW, go_sem], small _ (by decide)⟩
    | 1, hx => simp [liveRow] at hx; subst hx; exact ⟨by simp [liveW, go_sem], by simp [liveW, go_sem], by simp [liveW, go_sem], small _ (by decide)⟩
theorem live_row3 (w : World) : SeqAt ValE 3 (liveW w) (some ⟨w.heap.size + 1 + 1 + 1 + 1 + 1 + 1, 0, none⟩) (liveRow 3 ⟨#[121]⟩) :=
  seq_lit (by rw [liveW_size]; omega) fun k x hx => by
    match k, hx with
    | 0, hx => simp [liveRow] at hx; subst hx; exact ⟨by simp [liveW, go_sem], by simp [liveW, go_sem], by simp [liveW, go_sem], small _ (by decide)⟩
    | 1, hx => simp [liveRow] at hx; subst hx; exact ⟨by simp [liveW, go_sem], by simp [liveW, go_sem], by simp [liveW, go_sem], small _ (by decide)⟩
theorem live_rows (w : World) : SeqAt RowE 1 (liveW w) (some ⟨w.heap.size + 1 + 1 + 1 + 1 + 1 + 1 + 1, 0, none⟩) liveRows :=
  seq_lit (by rw [liveW_size]; omega) fun k x hx => by
    match k, hx with
    | 0, hx => simp [liveRows] at hx; subst hx; exact ⟨_, by simp [liveW, liveRow, go_sem], _, 2, rfl, live_row1 w⟩
    | 1, hx => simp [liveRows] at hx; subst hx; exact ⟨_, by simp [liveW, liveRow, go_sem], _, 2, rfl, live_row2 w⟩
    | 2, hx => simp [liveRows] at hx; subst hx; exact ⟨_, by simp [liveW, liveRow, go_sem], _, 2, rfl, live_row3 w⟩
theorem live_all (w : World) : SeqAt RowsE 1 (liveW w) (some ⟨w.heap.size + 1 + 1 + 1 + 1 + 1 + 1 + 1 + 1, 0, none⟩) [liveRows] :=
  one_lit (by rw [liveW_size]; omega) ⟨_, by simp [liveW, liveRows, go_sem], _, 3, rfl, live_rows w⟩

theorem live_of : ofF [liveTab] [liveIx] [liveRows] = [⟨⟨#[116]⟩, 3, [3]⟩, ⟨⟨#[120]⟩, 3, [2, 3]⟩] := by kernel_rfl

def liveStats : List St := [⟨⟨#[116]⟩, 3, [3]⟩, ⟨⟨#[120]⟩, 3, [2, 3]⟩]

theorem live_call (w : World) : Calls Try.prog 26 #[.agg #[.slice (some ⟨w.heap.size + 1, 0, none⟩) 1 1, .slice (some ⟨w.heap.size + 1 + 1 + 1, 0, none⟩) 1 1, .slice (some ⟨w.heap.size + 1 + 1 + 1 + 1 + 1 + 1 + 1 + 1, 0, none⟩) 1 1]] (liveW w)
    fun e w' => ∃ A c, e = .returned (.slice A 2 c) ∧ SeqAt StatE 3 w' A liveStats ∧ Below w.heap.size w w' :=
  (of_any [liveTab] [liveIx] [liveRows] _ _ _ 1 1 1 (liveW w) (live_tabs w) (live_idxs w) (live_all w) (live_caps w) (by simp) (by simp) (by simp) (fun t h => by simp at h; subst h; simp [liveTab]) (fun t h => by simp at h; subst h; simp [liveIx])
    (fun t h => by simp at h; subst h; simp [liveRows]) (fun t h => by simp at h; subst h; intro r hr; simp [liveRows] at hr; rcases hr with rfl | rfl | rfl <;> simp [liveRow, maxLen])
    (fun t h => by simp at h; subst h; intro r hr v hv; simp [liveRows] at hr; rcases hr with rfl | rfl | rfl <;> simp [liveRow] at hv <;> rcases hv with rfl | rfl <;> decide)).mono
    fun e w' ⟨v, he, ⟨A, c, hv, hs⟩, hb⟩ => by
      rw [live_of] at hv hs
      exact ⟨A, c, by rw [he, hv]; rfl, hs, (liveW_below w).trans (hb.mono (by rw [liveW_size]; omega))⟩

def litW (w : World) : World :=
  ((w.alloc (.cells #[.int .i64 3] 2)).alloc (.cells #[.int .i64 2, .int .i64 3] 2)).alloc
    (.cells #[.string ⟨#[116]⟩, .int .i64 3, .slice (some ⟨w.heap.size, 0, none⟩) 1 1, .string ⟨#[120]⟩, .int .i64 3, .slice (some ⟨w.heap.size + 1, 0, none⟩) 2 2] 46)
theorem litW_size (w : World) : (litW w).heap.size = w.heap.size + 3 := by simp [litW]
theorem litW_below (w : World) : Below w.heap.size w (litW w) := by
  unfold litW
  exact (((Below.refl _ w).alloc (by simp) _).alloc (by simp) _).alloc (by simp; omega) _
theorem lit_stats (w : World) : SeqAt StatE 3 (litW w) (some ⟨w.heap.size + 1 + 1, 0, none⟩) liveStats :=
  seq_lit (by rw [litW_size]; omega) fun k x hx => by
    match k, hx with
    | 0, hx =>
      simp [liveStats] at hx; subst hx
      exact ⟨by simp [litW, go_sem], by simp [litW, go_sem], ⟨.slice (some ⟨w.heap.size, 0, none⟩) 1 1, by simp [litW, go_sem], _, 1, rfl, one_lit (by rw [litW_size]; omega) (by simp [IntE, litW, go_sem])⟩, small _ (by decide), by decide⟩
    | 1, hx =>
      simp [liveStats] at hx; subst hx
      exact ⟨by simp [litW, go_sem], by simp [litW, go_sem], ⟨.slice (some ⟨w.heap.size + 1, 0, none⟩) 2 2, by simp [litW, go_sem], _, 2, rfl, seq_lit (by rw [litW_size]; omega) fun k x hx => by
        match k, hx with
        | 0, hx => simp at hx; subst hx; simp [IntE, litW, go_sem]
        | 1, hx => simp at hx; subst hx; simp [IntE, litW, go_sem]⟩, small _ (by decide), by decide⟩

end Go.Proofs.Ytpalbdjcfhlniaa
