import Derived.Test.YtiapdpbcnbgdmaaVis
set_option linter.unusedVariables false
set_option linter.unusedSimpArgs false
namespace Go.Proofs.Ytiapdpbcnbgdmaa
open Go.RowKit

def Cls (same : List Int) (m : Nat) (a : Int) : Prop := 0 ≤ a ∧ a < m ∧ nth same a.toNat = a
inductive Conn (R : Int → Int → Prop) (c : Int) : Int → Prop
  | refl : Conn R c c
  | step {x d : Int} : Conn R c x → R x d → Conn R c d
theorem Conn.trans {R : Int → Int → Prop} {a b c : Int} (h : Conn R a b) (k : Conn R b c) : Conn R a c := by
  induction k with
  | refl => exact h
  | step _ hd ih => exact ih.step hd
theorem Conn.symm {R : Int → Int → Prop} (hs : ∀ a b, R a b → R b a) {a b : Int} (h : Conn R a b) : Conn R b a := by
  induction h with
  | refl => exact .refl
  | step _ hd ih => exact (Conn.refl.step (hs _ _ hd)).trans ih
theorem Reach.conn {G : Int → List Int} {R : Int → Int → Prop} (h : ∀ k d, d ∈ G k ↔ R k d) {a b : Int} (k : Reach G a b) : Conn R a b := by
  induction k with
  | refl => exact .refl
  | step _ hd ih => exact ih.step ((h _ _).1 hd)
theorem Conn.cls {R : Int → Int → Prop} {same : List Int} {m : Nat} (hR : ∀ a b, R a b → Cls same m b) {a b : Int} (ha : Cls same m a) (h : Conn R a b) : Cls same m b := by
  cases h with
  | refl => exact ha
  | step _ hd => exact hR _ _ hd

/-- The marks before round j of the last loop. -/
structure LInv (same : List Int) (m : Nat) (R : Int → Int → Prop) (j : Nat) (ms : List Int) : Prop where
  len : ms.length = m
  a : ∀ x, Cls same m x → 0 ≤ nth ms x.toNat → Cls same m (nth ms x.toNat) ∧ Conn R (nth ms x.toNat) x ∧ ∀ y, Conn R (nth ms x.toNat) y → nth ms y.toNat = nth ms x.toNat ∧ nth ms x.toNat ≤ y
  b : ∀ i, i < j → nth ms i = nth ms (nth same i).toNat ∧ 0 ≤ nth ms (nth same i).toNat
theorem LInv.first (same : List Int) (m : Nat) (R : Int → Int → Prop) : LInv same m R 0 (List.replicate m (-1)) := by
  refine ⟨by simp, fun x h h' => ?_, fun i hi => absurd hi (Nat.not_lt_zero _)⟩
  have : nth (List.replicate m (-1)) x.toNat = -1 := by
    unfold nth
    have : x.toNat < m := by have := h.1; have := h.2.1; omega
    simp [List.getD_eq_getElem?_getD, this]
  omega
theorem LInv.next {same : List Int} {m : Nat} {R : Int → Int → Prop} {j : Nat} {ms ms' : List Int} {G : Int → List Int} (I : LInv same m R j ms) (hv : ValidP same) (hl : same.length = m) (hj : j < m) (hG : ∀ k d, d ∈ G k ↔ R k d) (hs : ∀ a b, R a b → R b a) (hR : ∀ a b, R a b → Cls same m b)
    (P : VPost G ms ms' (nth same j) (nth same j)) : LInv same m R (j + 1) (ms'.set j (nth ms' (nth same j).toNat)) := by
  have hjv := hv.1 j (by omega)
  obtain ⟨c0, c1, c2⟩ : 0 ≤ nth same j ∧ nth same j ≤ j ∧ nth same (nth same j).toNat = nth same j := by
    obtain ⟨h1, h2, h3⟩ := hjv
    refine ⟨by omega, by omega, ?_⟩
    first | exact h3 | (rw [h3])
  have hc : Cls same m (nth same j) := ⟨c0, by omega, c2⟩
  obtain ⟨c, hcc⟩ : ∃ c, c = nth same j := ⟨_, rfl⟩
  rw [← hcc] at P c0 c1 c2 hc ⊢
  have hset : ∀ x, nth (ms'.set j (nth ms' c.toNat)) x = if x = j then nth ms' c.toNat else nth ms' x := fun x => nth_set ms' _ _ x (by have := P.len; have := I.len; omega)
  -- at a class the last store changes nothing
  have hcj : ∀ x, Cls same m x → nth (ms'.set j (nth ms' c.toNat)) x.toNat = nth ms' x.toNat := by
    intro x hx
    rw [hset]
    by_cases e : x.toNat = j
    · rw [if_pos e]
      have : c = x := by rw [hcc, ← e]; exact hx.2.2
      rw [this]
    · rw [if_neg e]
  -- the marks behind the visit
  have ha : ∀ x, Cls same m x → 0 ≤ nth ms' x.toNat → Cls same m (nth ms' x.toNat) ∧ Conn R (nth ms' x.toNat) x ∧ ∀ y, Conn R (nth ms' x.toNat) y → nth ms' y.toNat = nth ms' x.toNat ∧ nth ms' x.toNat ≤ y := by
    rcases Int.lt_or_le (nth ms c.toNat) 0 with hneg | hge
    · -- a new component
      have hfresh : ∀ y, Conn R c y → Cls same m y ∧ nth ms y.toNat < 0 := by
        intro y hy
        have hyc := Conn.cls hR hc hy
        refine ⟨hyc, ?_⟩
        rcases Int.lt_or_le (nth ms y.toNat) 0 with h | h
        · exact h
        · obtain ⟨_, h2, h3⟩ := I.a y hyc h
          have := (h3 c (h2.trans (hy.symm hs))).1
          omega
      have hcj' : c = j := by
        rcases Int.lt_or_le c j with h | h
        · have := I.b c.toNat (by omega)
          rw [hc.2.2] at this
          omega
        · omega
      have hall : ∀ y, Conn R c y → nth ms' y.toNat = c := by
        intro y hy
        have hpos : 0 ≤ nth ms' y.toNat := by
          induction hy with
          | refl => exact P.top
          | @step x d hx hd ih =>
            have hxf := hfresh x hx
            have hx0 : ((x.toNat : Nat) : Int) = x := Int.toNat_of_nonneg hxf.1.1
            exact P.cl x.toNat hxf.2 ih d (by rw [hx0]; exact (hG _ _).2 hd)
        have hf := hfresh y hy
        rcases P.ch y.toNat with h | ⟨_, h, _⟩
        · have := hf.2; omega
        · exact h
      intro x hx hx0
      rcases P.ch x.toNat with h | ⟨h1, h2, h3⟩
      · rw [h] at hx0 ⊢
        obtain ⟨k1, k2, k3⟩ := I.a x hx hx0
        refine ⟨k1, k2, fun y hy => ?_⟩
        obtain ⟨k4, k5⟩ := k3 y hy
        refine ⟨?_, k5⟩
        rcases P.ch y.toNat with h' | ⟨h', _⟩
        · rw [h', k4]
        · omega
      · rw [h2]
        refine ⟨hc, ?_, fun y hy => ⟨hall y hy, ?_⟩⟩
        · have hr : Conn R c ((x.toNat : Nat) : Int) := h3.conn hG
          rwa [Int.toNat_of_nonneg hx.1] at hr
        · have hf := hfresh y hy
          rcases Int.lt_or_le y c with h | h
          · have := I.b y.toNat (by have := hf.1.1; omega)
            rw [hf.1.2.2] at this
            have := hf.2
            omega
          · exact h
    · -- nothing new
      have hsame : ∀ x : Nat, nth ms' x = nth ms x := by
        intro x
        rcases P.ch x with h | ⟨h1, _, h3⟩
        · exact h
        · obtain ⟨_, k2, k3⟩ := I.a c hc hge
          have h4 := (k3 x (k2.trans (h3.conn hG))).1
          simp at h4
          omega
      intro x hx hx0
      rw [hsame] at hx0 ⊢
      obtain ⟨k1, k2, k3⟩ := I.a x hx hx0
      exact ⟨k1, k2, fun y hy => by rw [hsame]; exact k3 y hy⟩
  refine ⟨by rw [List.length_set, P.len, I.len], fun x hx hx0 => ?_, fun i hi => ?_⟩
  · rw [hcj x hx] at hx0 ⊢
    obtain ⟨k1, k2, k3⟩ := ha x hx hx0
    refine ⟨k1, k2, fun y hy => ?_⟩
    rw [hcj y (Conn.cls hR k1 hy)]
    exact k3 y hy
  · have hiv := hv.1 i (by omega)
    obtain ⟨d0, d1, d2⟩ : 0 ≤ nth same i ∧ nth same i ≤ i ∧ nth same (nth same i).toNat = nth same i := by
      obtain ⟨h1, h2, h3⟩ := hiv
      exact ⟨by omega, by omega, h3⟩
    have hd : Cls same m (nth same i) := ⟨d0, by omega, d2⟩
    rw [hcj _ hd, hset]
    by_cases e : i = j
    · subst e
      rw [if_pos rfl, ← hcc]
      exact ⟨rfl, P.top⟩
    · rw [if_neg e]
      obtain ⟨h1, h2⟩ := I.b i (by omega)
      have e1 : nth ms' (nth same i).toNat = nth ms (nth same i).toNat := by
        rcases P.ch (nth same i).toNat with h | ⟨h, _⟩
        · exact h
        · omega
      have e2 : nth ms' i = nth ms i := by
        rcases P.ch i with h | ⟨h, _⟩
        · exact h
        · omega
      rw [e1, e2]
      exact ⟨h1, h2⟩
/-- The marks that components answers. -/
def MarkOk (same : List Int) (m : Nat) (R : Int → Int → Prop) (ms : List Int) : Prop :=
  ms.length = m ∧ ∀ i, i < m → Cls same m (nth ms i) ∧ Conn R (nth ms i) (nth same i) ∧ ∀ y, Conn R (nth ms i) y → nth ms i ≤ y
theorem LInv.done {same : List Int} {m : Nat} {R : Int → Int → Prop} {ms : List Int} (I : LInv same m R m ms) (hv : ValidP same) (hl : same.length = m) : MarkOk same m R ms := by
  refine ⟨I.len, fun i hi => ?_⟩
  obtain ⟨h1, h2, h3⟩ := hv.1 i (by omega)
  obtain ⟨k1, k2⟩ := I.b i hi
  obtain ⟨j1, j2, j3⟩ := I.a (nth same i) ⟨h1, by omega, h3⟩ k2
  rw [k1]
  exact ⟨j1, j2, fun y hy => (j3 y hy).2⟩

end Go.Proofs.Ytiapdpbcnbgdmaa
