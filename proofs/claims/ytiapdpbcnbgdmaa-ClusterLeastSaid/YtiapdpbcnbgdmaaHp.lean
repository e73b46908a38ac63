import Derived.Test.YtiapdpbcnbgdmaaIs
set_option linter.unusedVariables false
set_option linter.unusedSimpArgs false
namespace Go.Proofs.Ytiapdpbcnbgdmaa
open Go.RowKit

/-! What the fixed examples come to. -/
theorem marks3 {es : List E3} {ms : List Int} (h : MarksOf es [0, 1, 2] ms) (h1 : Adj (wTo es [0, 1, 2] es.length) 0 1) (h2 : Adj (wTo es [0, 1, 2] es.length) 1 2) : ms = [0, 0, 0] := by
  obtain ⟨hl, hm⟩ := h
  have hl : ms.length = 3 := hl
  have c1 : Conn (Adj (wTo es [0, 1, 2] es.length)) 0 1 := Conn.refl.step h1
  have c2 : Conn (Adj (wTo es [0, 1, 2] es.length)) 0 2 := c1.step h2
  have key : ∀ i : Nat, i < 3 → nth [0, 1, 2] i = i → Conn (Adj (wTo es [0, 1, 2] es.length)) 0 i → nth ms i = 0 := fun i hi hs hc => by
    obtain ⟨k1, k2, k3⟩ := hm i hi
    have := k3 0 (k2.trans (by rw [hs]; exact hc.symm Adj.symm'))
    have := k1.1
    omega
  refine nth_ext hl fun k hk => ?_
  have e0 := key 0 (by omega) rfl .refl
  have e1 := key 1 (by omega) rfl c1
  have e2 := key 2 (by omega) rfl c2
  rw [hl] at hk
  match k, hk with
  | 0, _ => exact e0
  | 1, _ => exact e1
  | 2, _ => exact e2
theorem answer3 {es : List E3} {ps : List (Int × Int)} {x y z l : Int} (h1 : Adj (wTo es [0, 1, 2] es.length) 0 1) (h2 : Adj (wTo es [0, 1, 2] es.length) 1 2) (hb : bestOf (wTo es [0, 1, 2] es.length) [0, 1, 2] 3 (enum (aTo ps [0, 1, 2] ps.length) [0, 1, 2] 3 []) = some ([x, y, z], l)) :
    ∀ ent, ClusterP es [0, 1, 2] ps ent → ent = [x, y, z] := by
  rintro ent ⟨ms, H, hm, hs, rfl⟩
  obtain rfl := marks3 hm h1 h2
  obtain ⟨hs', hS, hH⟩ := hs 0 (by decide)
  have hcl : clsOf [0, 1, 2] [0, 0, 0] ([0, 1, 2] : List Int).length 0 = [0, 1, 2] := by decide
  rw [hcl] at hS hH
  have he : hs' = [x, y, z] := by
    rcases hS with ⟨_, l', h⟩ | ⟨h, _⟩
    · have h : bestOf (wTo es [0, 1, 2] es.length) [0, 1, 2] 3 (enum (aTo ps [0, 1, 2] ps.length) [0, 1, 2] 3 []) = some (hs', l') := h
      rw [hb] at h
      exact (congrArg Prod.fst (Option.some.inj h)).symm
    · exact absurd h (by decide)
  subst he
  have a0 := hH 0 (by decide)
  have a1 := hH 1 (by decide)
  have a2 := hH 2 (by decide)
  have a0 : nth H 0 = x := a0
  have a1 : nth H 1 = y := a1
  have a2 : nth H 2 = z := a2
  show [nth H 0, nth H 1, nth H 2] = [x, y, z]
  rw [a0, a1, a2]
theorem ex1 : ∀ ent, ClusterP [⟨0, 1, 5⟩, ⟨1, 2, 4⟩, ⟨0, 2, -3⟩] [0, 1, 2] [] ent → ent = [0, 0, 0] :=
  answer3 (l := -6) ⟨5, by decide, .inl (by decide)⟩ ⟨4, by decide, .inl (by decide)⟩ (by kernel_rfl)
theorem ex2 : ∀ ent, ClusterP [⟨0, 1, 5⟩, ⟨1, 2, 4⟩, ⟨0, 2, -6⟩] [0, 1, 2] [] ent → ent = [0, 0, 2] :=
  answer3 (l := -5) ⟨5, by decide, .inl (by decide)⟩ ⟨4, by decide, .inl (by decide)⟩ (by kernel_rfl)
theorem ex3 : ∀ ent, ClusterP [⟨0, 1, 5⟩, ⟨1, 2, 5⟩, ⟨0, 2, -6⟩] [0, 1, 2] [] ent → ent = [0, 0, 2] :=
  answer3 (l := -5) ⟨5, by decide, .inl (by decide)⟩ ⟨5, by decide, .inl (by decide)⟩ (by kernel_rfl)
theorem ex4 : ∀ ent, ClusterP [⟨0, 1, 5⟩, ⟨1, 2, 4⟩, ⟨0, 2, -3⟩] [0, 1, 2] [(0, 1)] ent → ent = [0, 1, 1] :=
  answer3 (l := -4) ⟨5, by decide, .inl (by decide)⟩ ⟨4, by decide, .inl (by decide)⟩ (by kernel_rfl)
theorem ex5 : ∀ ent, ClusterP [⟨0, 2, -9⟩] [0, 1, 0] [] ent → ent = [0, 1, 0] := by
  rintro ent ⟨ms, H, hm, hs, rfl⟩
  have hno : ∀ a b, ¬ Adj (wTo [⟨0, 2, -9⟩] [0, 1, 0] 1) a b := by
    rintro a b ⟨x, _, h⟩
    have : ∀ p, wTo [⟨0, 2, -9⟩] [0, 1, 0] 1 p = none := fun p => by
      rw [wTo]
      rw [if_neg (fun h => h.1 (by decide))]
      rfl
    rw [this, this] at h
    simp at h
  have hc : ∀ a b, Conn (Adj (wTo [⟨0, 2, -9⟩] [0, 1, 0] 1)) a b → a = b := fun a b h => by
    cases h with
    | refl => rfl
    | step _ h => exact absurd h (hno _ _)
  obtain rfl : ms = [0, 1, 0] := by
    refine nth_ext hm.1 fun k hk => ?_
    have hk : k < 3 := by rw [hm.1] at hk; exact hk
    rw [hc _ _ (hm.2 k hk).2.1]
  obtain ⟨h0, hS0, hH0⟩ := hs 0 (by decide)
  obtain ⟨h1, hS1, hH1⟩ := hs 1 (by decide)
  have e0 : h0 = [0] := by
    rcases hS0 with ⟨_, l', h⟩ | ⟨h, _⟩
    · have hb : bestOf (wTo [⟨0, 2, -9⟩] [0, 1, 0] 1) [0] 1 (enum (aTo [] [0, 1, 0] 0) [0] 1 []) = some ([0], 0) := by kernel_rfl
      have h : bestOf (wTo [⟨0, 2, -9⟩] [0, 1, 0] 1) [0] 1 (enum (aTo [] [0, 1, 0] 0) [0] 1 []) = some (h0, l') := h
      rw [hb] at h
      exact (congrArg Prod.fst (Option.some.inj h)).symm
    · exact absurd h (by decide)
  have e1 : h1 = [1] := by
    rcases hS1 with ⟨_, l', h⟩ | ⟨h, _⟩
    · have hb : bestOf (wTo [⟨0, 2, -9⟩] [0, 1, 0] 1) [1] 1 (enum (aTo [] [0, 1, 0] 0) [1] 1 []) = some ([1], 0) := by kernel_rfl
      have h : bestOf (wTo [⟨0, 2, -9⟩] [0, 1, 0] 1) [1] 1 (enum (aTo [] [0, 1, 0] 0) [1] 1 []) = some (h1, l') := h
      rw [hb] at h
      exact (congrArg Prod.fst (Option.some.inj h)).symm
    · exact absurd h (by decide)
  subst e0 e1
  have a0 : nth H 0 = 0 := hH0 0 (by decide)
  have a1 : nth H 1 = 1 := hH1 0 (by decide)
  show [nth H 0, nth H 1, nth H 0] = [0, 1, 0]
  rw [a0, a1]
theorem comps3 {ms : List Int} (h : MarksOf [⟨0, 1, 5⟩, ⟨1, 2, 4⟩, ⟨0, 2, -3⟩] [0, 1, 2] ms) : (memTo ms 3).length = 1 := by
  obtain rfl := marks3 h ⟨5, by decide, .inl (by decide)⟩ ⟨4, by decide, .inl (by decide)⟩
  decide

end Go.Proofs.Ytiapdpbcnbgdmaa
