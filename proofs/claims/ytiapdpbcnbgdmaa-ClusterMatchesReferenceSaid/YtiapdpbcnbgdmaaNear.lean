import Derived.Test.YtiapdpbcnbgdmaaMem
import Derived.Test.YtiapdpbcnbgdmaaG
set_option linter.unusedVariables false
set_option linter.unusedSimpArgs false
namespace Go.Proofs.Ytiapdpbcnbgdmaa
open Go.RowKit

/-! 'near': a map of rows of ints. -/
theorem zero23 (w : World) : (zeroValue 23).run Try.prog w = .ok (.slice none 0 0) w := by kernel_rfl
def vvV : Value → Value := fun u => u
structure Near (w : World) (base : Nat) (r : Nat) (NM : Int → Option Value) (G : Int → List Int) : Prop where
  map : MapFn w r vvI vvV NM
  none_ : ∀ k, NM k = none → G k = []
  row : ∀ k u, NM k = some u → w.ownsRow base 3 1 u (G k).length (ints (G k))
  sep : ∀ k k' u u', k ≠ k' → NM k = some u → NM k' = some u' → u.ownBlock = none ∨ u.ownBlock ≠ u'.ownBlock
theorem Near.made (w : World) (base : Nat) : Near (w.alloc (.map #[] 0)) base w.heap.size (fun _ => none) (fun _ => []) :=
  ⟨made_fn w vvI vvV, fun _ _ => rfl, fun k u h => (by cases h), fun k k' u u' _ h => (by cases h)⟩
theorem Near.keep {w w' : World} {base r : Nat} {NM : Int → Option Value} {G : Int → List Int} (N : Near w base r NM G) {b : Option Nat} (hg : w.grownBy w' b) (hr : b ≠ some r) (hn : ∀ k u, NM k = some u → u.ownBlock = none ∨ u.ownBlock ≠ b) : Near w' base r NM G :=
  ⟨N.map.same (hg.block r N.map.lt (Ne.symm hr)), N.none_, fun k u h => (N.row k u h).kept hg (hn k u h), N.sep⟩
theorem Near.ext {w w' : World} {base r : Nat} {NM : Int → Option Value} {G : Int → List Int} (N : Near w base r NM G) (h : Ext w w') : Near w' base r NM G :=
  N.keep (b := none) ⟨h.os, h.tape, h.output, h.size, fun k hk _ => h.block k hk⟩ (by simp) (fun k u _ => by cases u.ownBlock <;> simp)
theorem MapFn.not_cells {κ ν : Type} [DecidableEq κ] {w : World} {r : Nat} {kv : κ → Value} {vv : ν → Value} {M : κ → Option ν} (h : MapFn w r kv vv M) : ∀ cur e f, w.heap[r]? ≠ some (Obj.cells cur e f) := by
  obtain ⟨l, c, hm, _⟩ := h
  intro cur e f hh
  rw [hm.heap] at hh
  cases hh
/-- A block of another element type, or of an iterator, is none of its rows. -/
theorem Near.rows_ne {w : World} {base r : Nat} {NM : Int → Option Value} {G : Int → List Int} (N : Near w base r NM G) {b : Nat} (hb : ∀ cur f, w.heap[b]? ≠ some (Obj.cells cur 3 f)) : ∀ k u, NM k = some u → u.ownBlock = none ∨ u.ownBlock ≠ some b := by
  intro k u h
  cases hu : u.ownBlock with
  | none => exact .inl rfl
  | some g =>
    refine .inr fun e => ?_
    obtain ⟨_, _, cur, hh⟩ := own_block (N.row k u h) hu
    have : g = b := Option.some.inj e
    exact hb _ _ (this ▸ hh)

/-- 'near[k] = append(near[k], x)': the look-up, the append behind the block of one cell, the store. -/
theorem Near.app {W : World} {base r : Nat} {NM : Int → Option Value} {G : Int → List Int} (N : Near W base r NM G) (hbase : base ≤ W.heap.size) (hrb : base ≤ r) (k x : Int) (hl : (G k).length < 1000000000000) :
    ∃ u u' w2, (∀ W' : World, W'.heap[r]? = W.heap[r]? → (Instr.lookup 70 (.map (some r)) (.int .i64 k) false).run Try.prog W' = .ok u W') ∧
      (Builtin.append_ #[23, 23] 23 #[u, .slice (some ⟨W.heap.size, 0, none⟩) 1 1]).run Try.prog (W.alloc (.cells #[.int .i64 x] 3)) = .ok u' w2 ∧ W.grownBy w2 u.ownBlock ∧ u.ownBlock ≠ some r ∧ (∀ b, u.ownBlock = some b → base ≤ b ∧ ∃ cur, W.heap[b]? = some (Obj.cells cur 3 (0, 0))) ∧
      ∃ w3, (Instr.mapUpdate 70 (.map (some r)) (.int .i64 k) u').run Try.prog w2 = .ok () w3 ∧ Near w3 base r (fun k' => if k' = k then some u' else NM k') (fun k' => if k' = k then G k ++ [x] else G k') ∧ w2.grownBy w3 (some r) := by
  obtain ⟨u, hu, hrow, hub⟩ : ∃ u, ((NM k).map vvV).getD (.slice none 0 0) = u ∧ W.ownsRow base 3 1 u (G k).length (ints (G k)) ∧ (u = .slice none 0 0 ∨ NM k = some u) := by
    cases h : NM k with
    | none => exact ⟨_, rfl, by rw [N.none_ k h]; exact World.ownsRow_nil _ _ _ _, .inl rfl⟩
    | some u => exact ⟨u, rfl, N.row k u h, .inr rfl⟩
  obtain ⟨u', w2, h1, h2, h3, h4, h5⟩ := append_one (xs := ints (G k)) Try.underlying23 info3 rfl (by omega) (.int .i64 x) rfl (by simpa using hrow) hbase (by simpa using hl)
  have hur : u.ownBlock ≠ some r := by
    intro e
    obtain ⟨_, _, cur, hh⟩ := own_block hrow e
    exact N.map.not_cells _ _ _ hh
  have hM2 : MapFn w2 r vvI vvV NM := N.map.same (h3.block r N.map.lt (Ne.symm hur))
  obtain ⟨w3, h6, h7, h8, _⟩ := update_fn keyI Try.underlying70 hM2 k u'
  have hgs : w2.ownsRow base 3 1 u' (G k ++ [x]).length (ints (G k ++ [x])) := by simpa using h2
  have hne3 : ∀ (v : Value) (xs : List Value) (n : Nat), w2.ownsRow base 3 1 v n xs → v.ownBlock = none ∨ v.ownBlock ≠ some r := fun v xs n hv => by
    cases hb : v.ownBlock with
    | none => exact .inl rfl
    | some b =>
      refine .inr fun e => ?_
      obtain ⟨_, _, cur, hh⟩ := own_block hv hb
      have : b = r := Option.some.inj e
      exact hM2.not_cells _ _ _ (this ▸ hh)
  have hsepk : ∀ k' v, k' ≠ k → NM k' = some v → v.ownBlock = none ∨ v.ownBlock ≠ u.ownBlock := fun k' v hk hv => by
    rcases hub with rfl | hub
    · cases hb : v.ownBlock with
      | none => exact .inl rfl
      | some b => right; simp [Value.ownBlock]
    · exact N.sep k' k v u hk hv hub
  refine ⟨u, u', w2, fun W' hW' => ?_, h1, h3, hur, fun b hb => ⟨(own_block hrow hb).1, (own_block hrow hb).2.2⟩, w3, h6, ⟨h7, fun k' hk' => ?_, fun k' v hv => ?_, fun k1 k2 v1 v2 hk12 hv1 hv2 => ?_⟩, h8⟩
  · have := lookup_fn keyI Try.underlying70 (N.map.same hW') k zero23 false
    rw [hu] at this
    exact this
  · by_cases e : k' = k
    · simp [e] at hk'
    · simp only [e, if_false] at hk' ⊢; exact N.none_ k' hk'
  · by_cases e : k' = k
    · simp only [e, if_true] at hv ⊢
      cases hv
      exact hgs.kept h8 (hne3 _ _ _ hgs)
    · simp only [e, if_false] at hv ⊢
      have hr2 := (N.row k' v hv).kept h3 (hsepk k' v e hv)
      exact hr2.kept h8 (hne3 _ _ _ hr2)
  · have hnew : ∀ k' v, k' ≠ k → NM k' = some v → v.ownBlock = none ∨ v.ownBlock ≠ u'.ownBlock := fun k' v hk hv => by
      cases hb : v.ownBlock with
      | none => exact .inl rfl
      | some b =>
        right
        intro e
        rcases h4 with h4 | ⟨b', hb', hge⟩
        · rcases hsepk k' v hk hv with h | h
          · rw [h] at hb; cases hb
          · rw [hb] at h; exact h (e.trans h4)
        · have hlt := (own_block (N.row k' v hv) hb).2.1
          rw [hb'] at e
          have : b = b' := Option.some.inj e
          omega
    by_cases e1 : k1 = k
    · by_cases e2 : k2 = k
      · exact absurd (e1.trans e2.symm) hk12
      · simp only [e1, if_true] at hv1
        simp only [e2, if_false] at hv2
        cases hv1
        rcases hnew k2 v2 e2 hv2 with h | h
        · cases hb : u'.ownBlock with
          | none => exact .inl rfl
          | some b => right; rw [h]; simp
        · exact .inr (Ne.symm h)
    · simp only [e1, if_false] at hv1
      by_cases e2 : k2 = k
      · simp only [e2, if_true] at hv2
        cases hv2
        exact hnew k1 v1 e1 hv1
      · simp only [e2, if_false] at hv2
        exact N.sep k1 k2 v1 v2 hk12 hv1 hv2

/-- As many different numbers below N are at most N. -/
theorem nodup_lt : ∀ (N : Nat) (l : List Nat), l.Nodup → (∀ x ∈ l, x < N) → l.length ≤ N
  | 0, l, _, h => by
    cases l with
    | nil => exact Nat.le_refl _
    | cons x l => exact absurd (h x (by simp)) (by omega)
  | N + 1, l, hn, h => by
    have h1 := nodup_lt N (l.filter fun x => !(x == N)) (hn.sublist List.filter_sublist) (fun x hx => by
      have := h x (List.mem_filter.1 hx).1
      have h2 := (List.mem_filter.1 hx).2
      simp at h2
      omega)
    by_cases hN : N ∈ l
    · have := filter_ne_length (f := fun x : Nat => x) (l := l) (by simpa using hn) hN
      omega
    · have : l.filter (fun x => !(x == N)) = l := by
        rw [List.filter_eq_self]
        intro a ha
        have : a ≠ N := fun e => hN (e ▸ ha)
        simp [this]
      rw [this] at h1
      omega
/-- A map whose keys lie in a square has few entries. -/
theorem iter_few {w : World} {it m : Nat} {M : Int × Int → Option Int} {D : Int × Int → Prop} {c : Nat} (h : IterSt w it m kvP vvI M D c) (q : Nat) (hM : ∀ p x, M p = some x → 0 ≤ p.1 ∧ p.1 < q ∧ 0 ≤ p.2 ∧ p.2 < q) : c ≤ q * q := by
  obtain ⟨l, clock, seen, hm, hg, _, _, hc⟩ := h
  have hk := hm.tidy.keys
  have hin : ∀ e ∈ l, 0 ≤ e.1.1 ∧ e.1.1 < q ∧ 0 ≤ e.1.2 ∧ e.1.2 < q := fun e he => hM e.1 e.2.1 (by rw [← hg]; exact mem_getL hk he)
  have hidx : (l.map fun e => e.1.1.toNat * q + e.1.2.toNat).Nodup := by
    rw [List.nodup_iff_pairwise_ne, List.pairwise_map]
    rw [List.nodup_iff_pairwise_ne, List.pairwise_map] at hk
    refine List.Pairwise.imp_of_mem ?_ hk
    intro a b ha hb hab e
    have h1 := hin a ha
    have h2 := hin b hb
    apply hab
    have hq : 0 < q := by omega
    have e1 : (a.1.1.toNat * q + a.1.2.toNat) / q = (b.1.1.toNat * q + b.1.2.toNat) / q := by rw [e]
    rw [Nat.mul_comm, Nat.mul_add_div hq, Nat.mul_comm b.1.1.toNat, Nat.mul_add_div hq, Nat.div_eq_of_lt (by omega), Nat.div_eq_of_lt (by omega)] at e1
    have e2 : a.1.1.toNat = b.1.1.toNat := by omega
    rw [e2] at e
    apply Prod.ext <;> omega
  have := nodup_lt (q * q) _ hidx (fun x hx => by
    obtain ⟨e, he, rfl⟩ := List.mem_map.1 hx
    have h1 := hin e he
    have h2 : e.1.1.toNat + 1 ≤ q := by omega
    have h3 : (e.1.1.toNat + 1) * q ≤ q * q := Nat.mul_le_mul_right _ h2
    rw [Nat.add_mul] at h3
    omega)
  rw [List.length_map] at this
  rw [← hc]
  exact Nat.le_trans (List.length_filter_le _ _) this

end Go.Proofs.Ytiapdpbcnbgdmaa
