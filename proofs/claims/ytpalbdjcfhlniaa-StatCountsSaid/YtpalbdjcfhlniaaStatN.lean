/- Plain laws of the counting of distinct keys, and of a range over a map. -/
import Derived.Test.YtpalbdjcfhlniaaStatL
import Derived.Maps.RangeWalk
import Derived.Maps.Own
import Derived.Sort.MapsRangeIn
import Derived.OpenShut
namespace Go.Proofs.Ytpalbdjcfhlniaa
open Go.RowKit Go.ChangeMaps Go.MapKept Go.WideShapes
open Go.WideElems (Fit rd rg pl rd_key rd_val rg_of other_key)

/-- One key more. -/
def addKey (acc : List (List UInt8)) (k : List UInt8) : List (List UInt8) := if k ∈ acc then acc else acc ++ [k]
/-- The distinct keys, in the order in which they come. -/
def dist (l : List (List UInt8)) : List (List UInt8) := l.foldl addKey []
theorem dist_succ (l : List (List UInt8)) (k : List UInt8) : dist (l ++ [k]) = addKey (dist l) k := by simp [dist, List.foldl_append]

/-- A map's keys. -/
def KeysD {H : Type} (D : DataW H) (acc : List (List UInt8)) : Prop := ∃ es : List (Lit × DataW H), D = .map es ∧ (es.map (·.1)).Perm (acc.map Lit.string) ∧ acc.Nodup

theorem KeysD.nil {H : Type} : KeysD (H := H) (.map []) [] := ⟨[], rfl, .refl _, List.nodup_nil⟩
theorem KeysD.size {H : Type} {D : DataW H} {acc : List (List UInt8)} (h : KeysD D acc) : Maps.size D = acc.length := by
  obtain ⟨es, rfl, hp, _⟩ := h
  have := hp.length_eq
  simp at this
  exact this

theorem KeysD.put {H : Type} {D : DataW H} {acc : List (List UInt8)} (h : KeysD D acc) (k : List UInt8) (d : DataW H) : KeysD (D.put (.string k) d) (addKey acc k) := by
  obtain ⟨es, rfl, hp, hn⟩ := h
  have hf : ((es.filter (notKey (.string k))).map (·.1)).Perm ((acc.filter (fun x => !(x == k))).map Lit.string) := by
    have h1 : (es.filter (notKey (.string k))).map (·.1) = (es.map (·.1)).filter (fun l => !l.sameKey (.string k)) := by
      rw [List.filter_map]; rfl
    have h2 : (acc.filter (fun x => !(x == k))).map Lit.string = (acc.map Lit.string).filter (fun l => !l.sameKey (.string k)) := by
      rw [List.filter_map]; rfl
    rw [h1, h2]
    exact hp.filter _
  refine ⟨_, DataW.put_eq es (.string k) d, ?_, ?_⟩
  · refine ((insert_perm _ _).map _).trans ?_
    rw [List.map_cons]
    refine (hf.cons _).trans ?_
    have e : (Lit.string k :: (acc.filter (fun x => !(x == k))).map Lit.string) = (k :: acc.filter (fun x => !(x == k))).map Lit.string := rfl
    rw [e]
    refine List.Perm.map _ ?_
    unfold addKey
    split
    · rename_i hk
      have := List.perm_cons_erase hk
      rw [hn.erase_eq_filter] at this
      exact this.symm
    · rename_i hk
      rw [List.filter_eq_self.2 (fun x hx => by simp; rintro rfl; exact hk hx)]
      exact (List.perm_append_singleton k acc).symm
  · unfold addKey
    split
    · exact hn
    · rename_i hk
      rw [List.nodup_append]
      exact ⟨hn, by simp, fun a ha b hb => by simp at hb; subst hb; rintro rfl; exact hk ha⟩

/-- How many entries of a map there are still to come. -/
theorem ranges_cnt {H : Type} {P : Program} {k : TypeId} {R : Value → Option (DataW H × List MemPlace)} {w : World} {b r n : Nat} {es' : List (Lit × DataW H)} {left : Lit → Bool} {cnt : Nat}
    (h : w.ranges P k R b r n (.map es') left cnt) : cnt = (es'.filter (fun p => left p.1)).length := by
  obtain ⟨es, clock, since, seen, c0, hb, F, hs, hD, hr, hold, hc, hl1, hl2, _⟩ := h
  injection hD with hD
  subst hD
  rw [← hc, ((sorted_perm _).filter _).length_eq, List.filter_map, List.length_map]
  have : (leftOf es seen).size = (es.toList.filter (fun e => !seen.contains e.born)).length := by
    rw [← Array.length_toList]; unfold leftOf; rw [Array.toList_filter]
  rw [this]
  congr 1
  exact List.filter_congr fun x hx => (hl1 x hx).symm

theorem filter_one {α : Type} : ∀ {es : List (Lit × α)} (_ : es.Pairwise (fun p q => p.1 ≠ q.1)) {left : Lit → Bool} {kl : Lit} (_ : left kl = true) (_ : kl ∈ es.map (·.1)) (_ : WideAt.IsKeyLit kl),
    (es.filter (fun p => left p.1 && !p.1.sameKey kl)).length + 1 = (es.filter (fun p => left p.1)).length
  | [], _, _, _, _, hm, _ => by simp at hm
  | p :: es, hp, left, kl, hl, hm, hk => by
    obtain ⟨h1, h2⟩ := List.pairwise_cons.1 hp
    by_cases e : p.1 = kl
    · have hno : es.filter (fun q => left q.1 && !q.1.sameKey kl) = es.filter (fun q => left q.1) := List.filter_congr fun q hq => by
        have : q.1.sameKey kl = false := by
          cases hs : q.1.sameKey kl
          · rfl
          · exact absurd ((WideAt.sameKey_eq hs).trans e.symm) (fun e' => h1 q hq e'.symm)
        simp [this]
      rw [List.filter_cons_of_neg (by simp [e, WideAt.sameKey_self hk]), List.filter_cons_of_pos (by simpa [e] using hl), hno]; rfl
    · have hm' : kl ∈ es.map (·.1) := by
        rcases List.mem_cons.1 (by simpa using hm : kl ∈ p.1 :: es.map (·.1)) with h | h
        · exact absurd h.symm e
        · exact h
      have ih := filter_one h2 hl hm' hk
      have hs : p.1.sameKey kl = false := by
        cases hs : p.1.sameKey kl
        · rfl
        · exact absurd (WideAt.sameKey_eq hs) e
      cases hlp : left p.1
      · rw [List.filter_cons_of_neg (by simp [hlp]), List.filter_cons_of_neg (by simp [hlp])]; exact ih
      · rw [List.filter_cons_of_pos (by simp [hlp, hs]), List.filter_cons_of_pos (by simp [hlp]), List.length_cons, List.length_cons, ih]

theorem ranges_step {H : Type} {P : Program} {k : TypeId} {R : Value → Option (DataW H × List MemPlace)} {w w' : World} {b r n : Nat} {D : DataW H} {left : Lit → Bool} {cnt cnt' : Nat} {kl : Lit}
    (h : w.ranges P k R b r n D left cnt) (K : Maps.Keyed P k) (hl : left kl = true) (h' : w'.ranges P k R b r n D (fun z => left z && !z.sameKey kl) cnt') : cnt' + 1 = cnt := by
  obtain ⟨es, rfl, hp, hk⟩ := h.owns.entries K
  have hm : kl ∈ es.map (·.1) := by
    obtain ⟨es0, clock, since, seen, c0, hb, F, hs, hD, hr, hold, hc, hl1, hl2, _⟩ := h
    injection hD with hD
    obtain ⟨x, hx, e⟩ := hl2 kl hl
    rw [hD]
    exact List.mem_map.2 ⟨_, (sorted_perm _).mem_iff.2 (List.mem_map.2 ⟨x, hx, rfl⟩), e⟩
  obtain ⟨p, hpm, hpe⟩ := List.mem_map.1 hm
  rw [ranges_cnt h, ranges_cnt h']
  exact filter_one hp hl hm (by rw [← hpe]; exact hk p hpm)

end Go.Proofs.Ytpalbdjcfhlniaa
