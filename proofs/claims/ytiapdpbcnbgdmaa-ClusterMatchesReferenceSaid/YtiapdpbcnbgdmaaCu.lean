import Derived.Test.YtiapdpbcnbgdmaaMl
import Derived.Test.YtiapdpbcnbgdmaaGw
set_option linter.unusedVariables false
set_option linter.unusedSimpArgs false
namespace Go.Proofs.Ytiapdpbcnbgdmaa
open Go.RowKit

theorem cluster1_any (x : Int) (B : Nat) (A1 : Option Addr) (m c1 : Nat) (same : List Int) (W : World) (hB : W.cell? ⟨B, 0, none⟩ = some (.slice A1 m c1)) (h : RInts W A1 m same) (h0 : 0 ≤ x) (h1 : x < m) :
    Calls Try.prog 33 #[.int .i64 x, .pointer (some ⟨B, 0, none⟩)] W fun e W' => e = .returned (.bool (nth same x.toNat != x)) ∧ W = W' := by
  obtain ⟨b, off, rfl, hc⟩ := h.cell (by omega)
  have k1 := hc x.toNat (by omega)
  have hx : ((x.toNat : Nat) : Int) = x := Int.toNat_of_nonneg h0
  clear hc
  go_enter Try.func33, Try.ntmps33
  go_wp2
  go_ret
  exact ⟨rfl, rfl⟩
theorem own_at_row {W : World} {base g n cap : Nat} {vs : List Value} (h : W.ownsRow base 23 1 (.slice (some ⟨g, 0, none⟩) n cap) n vs) (i : Nat) (u : Value) (h1 : vs[i]? = some u) : W.cell? ⟨g, i, none⟩ = some u := by
  have hc := h.cells (g := g) rfl i u h1
  rwa [Addr.add_lit, Nat.zero_add] at hc
/-- What Cluster answers. -/
def ClusterP (es : List E3) (same : List Int) (ps : List (Int × Int)) (ent : List Int) : Prop :=
  ∃ ms H, MarksOf es same ms ∧ (∀ c ∈ comps ms same.length, ∃ hs, Solved same.length (wTo es same es.length) (aTo ps same ps.length) (clsOf same ms same.length c) hs ∧ ∀ i, i < (clsOf same ms same.length c).length → nth H (nth (clsOf same ms same.length c) i).toNat = nth hs i) ∧ ent = same.map fun c => nth H c.toNat
/-- between two components -/
structure CuSt (w7 : World) (v : Value) (base m : Nat) (vs : List Value) (j : Nat) (P : List Int → Prop) (W : World) : Prop where
  row : ∃ H, W.ownsRow base 3 1 v m (ints H) ∧ P H
  kept : Kept (fun k => v.ownBlock = some k ∨ ∃ t u, t < j ∧ vs[t]? = some u ∧ u.ownBlock = some k) w7 W
/-- The heads after j components. -/
def HOk (q : Nat) (WT : Int × Int → Option Int) (AP : Int × Int → Option Bool) (same ms : List Int) (m j : Nat) (H : List Int) : Prop :=
  H.length = m ∧ ∀ t, t < j → ∃ hs, Solved q WT AP (clsOf same ms m (nth (comps ms m) t)) hs ∧ ∀ i, i < (clsOf same ms m (nth (comps ms m) t)).length → nth H (nth (clsOf same ms m (nth (comps ms m) t)) i).toNat = nth hs i
theorem HOk.next {q : Nat} {WT : Int × Int → Option Int} {AP : Int × Int → Option Bool} {same ms : List Int} {m j : Nat} {H H' hs : List Int} (h : HOk q WT AP same ms m j H) (hj : j < (comps ms m).length) (hl : H'.length = m) (hS : Solved q WT AP (clsOf same ms m (nth (comps ms m) j)) hs)
    (h1 : ∀ i, i < (clsOf same ms m (nth (comps ms m) j)).length → nth H' (nth (clsOf same ms m (nth (comps ms m) j)) i).toNat = nth hs i) (h2 : ∀ k : Nat, (∀ i, i < (clsOf same ms m (nth (comps ms m) j)).length → (nth (clsOf same ms m (nth (comps ms m) j)) i).toNat ≠ k) → nth H' k = nth H k) : HOk q WT AP same ms m (j + 1) H' := by
  refine ⟨hl, fun t ht => ?_⟩
  by_cases e : t = j
  · subst e; exact ⟨hs, hS, h1⟩
  · obtain ⟨hs', a, b⟩ := h.2 t (by omega)
    refine ⟨hs', a, fun i hi => ?_⟩
    rw [h2, b i hi]
    intro i' hi' e'
    have k1 := mem_cls.1 (nth_mem hi)
    have k2 := mem_cls.1 (nth_mem hi')
    have : nth (comps ms m) t = nth (comps ms m) j := by
      rw [← k1.2.2.1, ← k2.2.2.1]
      rw [e']
    exact e (nth_inj (nodup_ixs _ _) (Nat.lt_trans (show t < j by omega) hj) hj this)
/-- what stores of a solver's answer make of the heads -/
def putTo (cl hs H : List Int) : Nat → List Int
  | 0 => H
  | i + 1 => (putTo cl hs H i).set (nth cl i).toNat (nth hs i)
theorem putTo_len (cl hs H : List Int) : ∀ i, (putTo cl hs H i).length = H.length
  | 0 => rfl
  | i + 1 => by rw [putTo, List.length_set, putTo_len]
theorem putTo_out {cl hs H : List Int} {k : Nat} : ∀ i, (∀ j, j < i → (nth cl j).toNat ≠ k) → nth (putTo cl hs H i) k = nth H k
  | 0, _ => rfl
  | i + 1, h => by
    rw [putTo]
    have e := h i (by omega)
    have : nth ((putTo cl hs H i).set (nth cl i).toNat (nth hs i)) k = nth (putTo cl hs H i) k := by
      generalize (nth cl i).toNat = z at *
      unfold nth
      rw [List.getD_eq_getElem?_getD, List.getElem?_set_ne e, List.getD_eq_getElem?_getD]
    rw [this]
    exact putTo_out i (fun j hj => h j (by omega))
theorem putTo_in {cl hs H : List Int} (hn : cl.Nodup) (h0 : ∀ c ∈ cl, 0 ≤ c ∧ c < H.length) : ∀ i, i ≤ cl.length → ∀ j, j < i → nth (putTo cl hs H i) (nth cl j).toNat = nth hs j
  | 0, _, j, hj => by omega
  | i + 1, hi, j, hj => by
    rw [putTo]
    have hm := h0 _ (nth_mem (show i < cl.length by omega))
    rw [nth_set _ _ _ _ (by rw [putTo_len]; omega)]
    by_cases e : j = i
    · subst e; rw [if_pos rfl]
    · rw [if_neg, putTo_in hn h0 i (by omega) j (by omega)]
      intro e'
      have hm' := h0 _ (nth_mem (show j < cl.length by omega))
      exact e (nth_inj hn (by omega) (by omega) (by omega))

end Go.Proofs.Ytiapdpbcnbgdmaa
