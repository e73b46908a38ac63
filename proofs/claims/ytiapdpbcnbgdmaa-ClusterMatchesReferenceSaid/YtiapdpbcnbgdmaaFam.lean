import Derived.Test.YtiapdpbcnbgdmaaDl
set_option linter.unusedVariables false
set_option linter.unusedSimpArgs false
namespace Go.Proofs.Ytiapdpbcnbgdmaa
open Go.RowKit

/-! A row of rows of the call's own. -/
/-- v: a row of slices vs, each of which owns its ints; no two in one block. -/
structure Fam (w : World) (base : Nat) (v : Value) (vs : List Value) (gs : List (List Int)) : Prop where
  out : w.ownsRow base 23 1 v vs.length vs
  len : vs.length = gs.length
  row : ∀ (j : Nat) (u : Value) (l : List Int), vs[j]? = some u → gs[j]? = some l → w.ownsRow base 3 1 u l.length (ints l)
  sep : ∀ (i j : Nat) (u u' : Value), i < j → vs[i]? = some u → vs[j]? = some u' → u.ownBlock = none ∨ u.ownBlock ≠ u'.ownBlock

theorem own_cells {w : World} {base e size n : Nat} {v : Value} {xs : List Value} (h : w.ownsRow base e size v n xs) : v = .slice none 0 0 ∨ ∃ g c cur, v = .slice (some ⟨g, 0, none⟩) n c ∧ v.ownBlock = some g ∧ base ≤ g ∧ g < w.heap.size ∧ w.heap[g]? = some (.cells cur e (0, 0)) := by
  rcases h.2 with ⟨rfl, _⟩ | ⟨g, cap, cur, rfl, hb, hh, _⟩
  · exact .inl rfl
  · exact .inr ⟨g, cap, cur, rfl, rfl, hb, (Array.getElem?_eq_some_iff.1 hh).1, hh⟩
theorem own_block {w : World} {base e size n : Nat} {v : Value} {xs : List Value} (h : w.ownsRow base e size v n xs) {g : Nat} (hg : v.ownBlock = some g) : base ≤ g ∧ g < w.heap.size ∧ ∃ cur, w.heap[g]? = some (.cells cur e (0, 0)) := by
  rcases own_cells h with rfl | ⟨g', c, cur, rfl, h1, h2, h3, h4⟩
  · simp [Value.ownBlock] at hg
  · have : g = g' := by simpa [Value.ownBlock] using hg.symm
    subst this
    exact ⟨h2, h3, cur, h4⟩
theorem own_type_ne {w : World} {b b' e e' s s' n n' : Nat} {v v' : Value} {xs xs' : List Value} (h : w.ownsRow b e s v n xs) (h' : w.ownsRow b' e' s' v' n' xs') (hne : e ≠ e') : v.ownBlock = none ∨ v.ownBlock ≠ v'.ownBlock := by
  cases hv : v.ownBlock with
  | none => exact .inl rfl
  | some g =>
    refine .inr fun hk => ?_
    obtain ⟨_, _, cur, h1⟩ := own_block h hv
    obtain ⟨_, _, cur', h2⟩ := own_block h' hk.symm
    rw [h1] at h2
    injection h2 with h2
    injection h2 with _ ht
    exact hne ht

theorem Fam.nil (w : World) (base : Nat) : Fam w base (.slice none 0 0) [] [] := ⟨World.ownsRow_nil _ _ _ _, rfl, fun j u l h => by simp at h, fun i j u u' _ h => by simp at h⟩
/-- What turns is none of its blocks. -/
theorem Fam.keep {w w' : World} {base : Nat} {v : Value} {vs : List Value} {gs : List (List Int)} (F : Fam w base v vs gs) {r : Option Nat} (hg : w.grownBy w' r) (hv : v.ownBlock = none ∨ v.ownBlock ≠ r) (hvs : ∀ u ∈ vs, u.ownBlock = none ∨ u.ownBlock ≠ r) : Fam w' base v vs gs :=
  ⟨F.out.kept hg hv, F.len, fun j u l h1 h2 => (F.row j u l h1 h2).kept hg (hvs u (List.mem_of_getElem? h1)), F.sep⟩
theorem Fam.keep_map {w w' : World} {base : Nat} {v : Value} {vs : List Value} {gs : List (List Int)} (F : Fam w base v vs gs) {r : Nat} (hg : w.grownBy w' (some r)) (hr : ∀ cur e f, w.heap[r]? ≠ some (Obj.cells cur e f)) : Fam w' base v vs gs := by
  refine F.keep hg ?_ fun u hu => ?_
  · cases hv : v.ownBlock with
    | none => exact .inl rfl
    | some g =>
      refine .inr fun e => ?_
      obtain ⟨_, _, cur, h1⟩ := own_block F.out hv
      have : g = r := Option.some.inj e
      exact hr _ _ _ (this ▸ h1)
  · obtain ⟨j, hj⟩ := List.mem_iff_getElem?.1 hu
    have hjl : j < gs.length := by rw [← F.len]; exact (List.getElem?_eq_some_iff.1 hj).1
    have hrow := F.row j u _ hj (List.getElem?_eq_getElem hjl)
    cases hv : u.ownBlock with
    | none => exact .inl rfl
    | some g =>
      refine .inr fun e => ?_
      obtain ⟨_, _, cur, h1⟩ := own_block hrow hv
      have : g = r := Option.some.inj e
      exact hr _ _ _ (this ▸ h1)
theorem Fam.ext {w w' : World} {base : Nat} {v : Value} {vs : List Value} {gs : List (List Int)} (F : Fam w base v vs gs) (h : Ext w w') : Fam w' base v vs gs :=
  F.keep (r := none) ⟨h.os, h.tape, h.output, h.size, fun k hk _ => h.block k hk⟩ (by cases v.ownBlock <;> simp) (fun u _ => by cases u.ownBlock <;> simp)
/-- 'out = append(out, nil)' -/
theorem Fam.push {W : World} {base : Nat} {v : Value} {vs : List Value} {gs : List (List Int)} (F : Fam W base v vs gs) (hbase : base ≤ W.heap.size) (hl : gs.length < 1000000000000) :
    ∃ v' w', (Builtin.append_ #[34, 34] 34 #[v, .slice (some ⟨W.heap.size, 0, none⟩) 1 1]).run Try.prog (W.alloc (.cells #[.slice none 0 0] 23)) = .ok v' w' ∧ Fam w' base v' (vs ++ [.slice none 0 0]) (gs ++ [[]]) ∧ W.grownBy w' v.ownBlock := by
  obtain ⟨v', w', h1, h2, h3, h4, _⟩ := append_one Try.underlying34 info23 rfl (by omega) (.slice none 0 0) rfl F.out hbase (by rw [F.len]; exact hl)
  refine ⟨v', w', h1, ⟨h2, by simp [F.len], fun j u l hu hl' => ?_, fun i j u u' hij hu hu' => ?_⟩, h3⟩
  · by_cases hj : j < vs.length
    · rw [List.getElem?_append_left hj] at hu
      rw [List.getElem?_append_left (by rw [← F.len]; exact hj)] at hl'
      have := F.row j u l hu hl'
      exact this.kept h3 (own_type_ne this F.out (by decide))
    · have hlen := F.len
      rw [List.getElem?_append_right (by omega)] at hu
      rw [List.getElem?_append_right (by omega)] at hl'
      have : j - vs.length = 0 := by
        rcases Nat.eq_zero_or_pos (j - vs.length) with h | h
        · exact h
        · rw [List.getElem?_eq_none (by simp; omega)] at hu; cases hu
      rw [this] at hu
      rw [← hlen, this] at hl'
      simp at hu hl'
      subst hu; subst hl'
      exact World.ownsRow_nil _ _ _ _
  · by_cases hj : j < vs.length
    · rw [List.getElem?_append_left hj] at hu'
      rw [List.getElem?_append_left (by omega)] at hu
      exact F.sep i j u u' hij hu hu'
    · have : j - vs.length = 0 := by
        rw [List.getElem?_append_right (by omega)] at hu'
        rcases Nat.eq_zero_or_pos (j - vs.length) with h | h
        · exact h
        · rw [List.getElem?_eq_none (by simp; omega)] at hu'; cases hu'
      rw [List.getElem?_append_right (by omega), this] at hu'
      simp at hu'
      subst hu'
      cases u.ownBlock <;> simp [Value.ownBlock]
/-- 'out[k] = append(out[k], i)' -/
theorem Fam.app {W : World} {base : Nat} {v : Value} {vs : List Value} {gs : List (List Int)} (F : Fam W base v vs gs) (hbase : base ≤ W.heap.size) {k : Nat} {u : Value} {l : List Int} (hu : vs[k]? = some u) (hgk : gs[k]? = some l) (hl : l.length < 1000000000000) (x : Int) :
    ∃ g' n' c' w' g n c, v = .slice (some ⟨g, 0, none⟩) n c ∧ k < n ∧ n = vs.length ∧ W.cell? ⟨g, k, none⟩ = some u ∧ g < W.heap.size ∧ (Builtin.append_ #[23, 23] 23 #[u, .slice (some ⟨W.heap.size, 0, none⟩) 1 1]).run Try.prog (W.alloc (.cells #[.int .i64 x] 3)) = .ok (.slice (some ⟨g', 0, none⟩) n' c') w' ∧
      w'.cell? ⟨g, k, none⟩ = some u ∧ w'.frozen? ⟨g, k, none⟩ = false ∧ Fam (w'.setCell ⟨g, k, none⟩ (.slice (some ⟨g', 0, none⟩) n' c')) base v (vs.set k (.slice (some ⟨g', 0, none⟩) n' c')) (gs.set k (l ++ [x])) ∧
      ∀ B, B ≤ base → Below B W (w'.setCell ⟨g, k, none⟩ (.slice (some ⟨g', 0, none⟩) n' c')) ∧ ∀ (r : Nat) (cs : Obj), W.heap[r]? = some cs → (∀ cur e f, cs ≠ Obj.cells cur e f) → (w'.setCell ⟨g, k, none⟩ (.slice (some ⟨g', 0, none⟩) n' c')).heap[r]? = some cs := by
  have hkv : k < vs.length := (List.getElem?_eq_some_iff.1 hu).1
  have hrow := F.row k u l hu hgk
  obtain ⟨u', w', h1, h2, h3, h4, h5⟩ := append_one (xs := ints l) Try.underlying23 info3 rfl (by omega) (.int .i64 x) rfl (by simpa using hrow) hbase (by simpa using hl)
  rcases own_cells h2 with e | ⟨g', c', cur', rfl, hu'b, _, hg'l, _⟩
  · exact absurd e h5
  rcases F.out.2 with ⟨_, h0⟩ | ⟨g, c, cur, rfl, hgb, hgh, hnc, hcm, hcs, htk⟩
  · omega
  have hne := own_type_ne hrow F.out (by decide)
  have hne' : (Value.slice (some ⟨g, 0, none⟩) vs.length c).ownBlock = none ∨ (Value.slice (some ⟨g, 0, none⟩) vs.length c).ownBlock ≠ u.ownBlock := by
    rcases hne with e | e
    · right; rw [e]; simp [Value.ownBlock]
    · exact .inr (Ne.symm e)
  have hout := F.out.kept h3 hne'
  have hcell : W.cell? ⟨g, k, none⟩ = some u := by
    have := F.out.cells (g := g) rfl k u hu
    rwa [Addr.add_lit, Nat.zero_add] at this
  have hcell' : w'.cell? ⟨g, k, none⟩ = some u := by
    have := hout.cells (g := g) rfl k u hu
    rwa [Addr.add_lit, Nat.zero_add] at this
  have hfr : w'.frozen? ⟨g, k, none⟩ = false := by
    obtain ⟨_, _, cu, hh⟩ := own_block hout (g := g) rfl
    simp [World.frozen?, hh]
  obtain ⟨hst, hgs⟩ := hout.stored k (.slice (some ⟨g', 0, none⟩) (ints l ++ [Value.int .i64 x]).length c')
  have hgl : g < W.heap.size := (Array.getElem?_eq_some_iff.1 hgh).1
  have hge := h3.size
  have hnn : (ints l ++ [Value.int .i64 x]).length = (l ++ [x]).length := by simp
  have hget : ∀ j, (vs.set k (Value.slice (some ⟨g', 0, none⟩) (ints l ++ [Value.int .i64 x]).length c'))[j]? = if j = k then some (Value.slice (some ⟨g', 0, none⟩) (ints l ++ [Value.int .i64 x]).length c') else vs[j]? := fun j => by
    rw [List.getElem?_set]
    by_cases e : k = j
    · subst e; simp [hkv]
    · simp [e, Ne.symm e]
  refine ⟨g', _, c', w', g, vs.length, c, rfl, hkv, rfl, hcell, hgl, h1, hcell', hfr, ⟨?_, by simp [F.len], fun j v0 l0 hv0 hl0 => ?_, fun i j v0 v1 hij hv0 hv1 => ?_⟩, fun B hB => ⟨?_, fun r cs hr hcs => ?_⟩⟩
  · rw [List.length_set]; exact hst
  · rw [hget] at hv0
    by_cases e : j = k
    · subst e
      rw [if_pos rfl] at hv0
      cases hv0
      rw [List.getElem?_set_self (by rw [← F.len]; exact hkv)] at hl0
      cases hl0
      have h2' : w'.ownsRow base 3 1 (.slice (some ⟨g', 0, none⟩) (ints l ++ [Value.int .i64 x]).length c') (l ++ [x]).length (ints (l ++ [x])) := by simpa using h2
      exact h2'.kept hgs (by have := own_type_ne h2' hout (by decide); simpa [Value.ownBlock] using this)
    · rw [if_neg e] at hv0
      rw [List.getElem?_set_ne (Ne.symm e)] at hl0
      have hr := F.row j v0 l0 hv0 hl0
      have hs : v0.ownBlock = none ∨ v0.ownBlock ≠ u.ownBlock := by
        rcases Nat.lt_or_ge j k with h | h
        · exact F.sep j k v0 u h hv0 hu
        · rcases F.sep k j u v0 (by omega) hu hv0 with h' | h'
          · cases hv : v0.ownBlock with
            | none => exact .inl rfl
            | some b => right; rw [h']; simp
          · exact .inr (Ne.symm h')
      have hr' := hr.kept h3 hs
      exact hr'.kept hgs (by have := own_type_ne hr' hout (by decide); simpa [Value.ownBlock] using this)
  · have hlt : ∀ j (v0 : Value) b, vs[j]? = some v0 → v0.ownBlock = some b → b < W.heap.size := fun j v0 b hj hb => by
      have hjl : j < gs.length := by rw [← F.len]; exact (List.getElem?_eq_some_iff.1 hj).1
      exact (own_block (F.row j v0 _ hj (List.getElem?_eq_getElem hjl)) hb).2.1
    have hsep : ∀ j (v0 : Value), j ≠ k → vs[j]? = some v0 → v0.ownBlock = none ∨ v0.ownBlock ≠ some g' := fun j v0 hjk hj => by
      cases hv : v0.ownBlock with
      | none => exact .inl rfl
      | some b =>
        right
        intro e
        have hbg : b = g' := Option.some.inj e
        subst hbg
        have hb := hlt j v0 b hj hv
        rcases h4 with h4 | ⟨b', hb', hge'⟩
        · have hub : u.ownBlock = some b := by rw [← h4]; rfl
          rcases Nat.lt_or_ge j k with h | h
          · rcases F.sep j k v0 u h hj hu with h' | h'
            · rw [h'] at hv; cases hv
            · rw [hv, hub] at h'; exact h' rfl
          · rcases F.sep k j u v0 (by omega) hu hj with h' | h'
            · rw [h'] at hub; cases hub
            · rw [hv, hub] at h'; exact h' rfl
        · have : b = b' := by simpa [Value.ownBlock] using hb'
          omega
    rw [hget] at hv0 hv1
    by_cases e0 : i = k
    · rw [if_pos e0] at hv0
      cases hv0
      rw [if_neg (by omega)] at hv1
      rcases hsep j v1 (by omega) hv1 with h | h
      · right; rw [h]; simp [Value.ownBlock]
      · right; simpa [Value.ownBlock] using Ne.symm h
    · rw [if_neg e0] at hv0
      by_cases e1 : j = k
      · rw [if_pos e1] at hv1
        cases hv1
        exact hsep i v0 e0 hv0
      · rw [if_neg e1] at hv1
        exact F.sep i j v0 v1 hij hv0 hv1
  · have hb1 : Below B W w' := (Below.refl _ _).grown h3 (Nat.le_trans hB hbase) (fun b hb => Nat.le_trans hB (own_block hrow hb).1)
    exact hb1.setCell (by exact Nat.le_trans hB hgb) _
  · have h6 : w'.heap[r]? = some cs := by
      rw [h3.block r (Array.getElem?_eq_some_iff.1 hr).1 (fun e => ?_)]
      · exact hr
      · obtain ⟨_, _, cu, hh⟩ := own_block hrow e.symm
        rw [hh] at hr
        exact hcs _ _ _ (Option.some.inj hr).symm
    rw [Below.heap_setCell _ _ _ _ (fun e => ?_)]
    · exact h6
    · have e : r = g := e
      subst e
      rw [hgh] at hr
      exact hcs _ _ _ (Option.some.inj hr).symm

end Go.Proofs.Ytiapdpbcnbgdmaa
