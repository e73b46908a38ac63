import Derived.Test.YtiapdpbcnbgdmaaNear
set_option linter.unusedVariables false
set_option linter.unusedSimpArgs false
namespace Go.Proofs.Ytiapdpbcnbgdmaa
open Go.RowKit

inductive Reach (G : Int → List Int) (c : Int) : Int → Prop
  | refl : Reach G c c
  | step {x d : Int} : Reach G c x → d ∈ G x → Reach G c d
theorem Reach.trans {G : Int → List Int} {a b c : Int} (h : Reach G a b) (k : Reach G b c) : Reach G a c := by
  induction k with
  | refl => exact h
  | step _ hd ih => exact ih.step hd
/-- What a visit makes of the marks. -/
structure VPost (G : Int → List Int) (ms ms' : List Int) (c name : Int) : Prop where
  len : ms'.length = ms.length
  ch : ∀ x : Nat, nth ms' x = nth ms x ∨ (nth ms x < 0 ∧ nth ms' x = name ∧ Reach G c x)
  top : 0 ≤ nth ms' c.toNat
  cl : ∀ x : Nat, nth ms x < 0 → 0 ≤ nth ms' x → ∀ d ∈ G x, 0 ≤ nth ms' d.toNat
def unm (ms : List Int) : Nat := (ms.filter fun x => decide (x < 0)).length
theorem nth_set (ms : List Int) (i : Nat) (v : Int) (x : Nat) (hi : i < ms.length) : nth (ms.set i v) x = if x = i then v else nth ms x := by
  unfold nth
  simp only [List.getD_eq_getElem?_getD]
  by_cases h : x = i
  · subst h; simp [hi]
  · rw [List.getElem?_set_ne (Ne.symm h)]; simp [h]
theorem unm_set {ms : List Int} {i : Nat} {v : Int} (hi : i < ms.length) (h : nth ms i < 0) (hv : 0 ≤ v) : unm (ms.set i v) + 1 = unm ms := by
  induction ms generalizing i with
  | nil => simp at hi
  | cons a l ih =>
    cases i with
    | zero =>
      have h : a < 0 := by simpa [nth] using h
      have hv' : ¬ v < 0 := by omega
      simp [unm, h, hv']
    | succ i =>
      have := ih (i := i) (by simpa using hi) (by simpa [nth] using h)
      unfold unm at *
      rw [List.set_cons_succ]
      by_cases ha : a < 0
      · simp [List.filter_cons, ha]; omega
      · simp [List.filter_cons, ha]; omega
theorem unm_le {ms ms' : List Int} (hl : ms'.length = ms.length) (h : ∀ x : Nat, 0 ≤ nth ms x → 0 ≤ nth ms' x) : unm ms' ≤ unm ms := by
  induction ms generalizing ms' with
  | nil =>
    have : ms' = [] := by simpa using hl
    simp [this]
  | cons a l ih =>
    cases ms' with
    | nil => simp at hl
    | cons b l' =>
      have h0 : 0 ≤ a → 0 ≤ b := by have := h 0; simpa [nth] using this
      have ht := ih (ms' := l') (by simpa using hl) (fun x hx => by have := h (x + 1); simpa [nth] using this (by simpa [nth] using hx))
      unfold unm at *
      simp only [List.filter_cons]
      by_cases ha : a < 0
      · simp only [ha, decide_true, if_true, List.length_cons]
        split
        · simp only [List.length_cons]; omega
        · omega
      · have hb : ¬ b < 0 := by omega
        simp [ha, hb]
        exact ht

/-- The world of the visits: w0, but for the marks in block g. -/
structure VSt (w0 : World) (base g m cap : Nat) (ms : List Int) (W : World) : Prop where
  row : W.ownsRow base 3 1 (.slice (some ⟨g, 0, none⟩) m cap) m (ints ms)
  gr : w0.grownBy W (some g)
theorem VSt.cell {w0 : World} {base g m cap : Nat} {ms : List Int} {W : World} (S : VSt w0 base g m cap ms W) {p : Addr} {v : Value} (h : w0.cell? p = some v) (hn : p.block ≠ g) : W.cell? p = some v := S.gr.cell h (fun e => hn (Option.some.inj e))
theorem VSt.len {w0 : World} {base g m cap : Nat} {ms : List Int} {W : World} (S : VSt w0 base g m cap ms W) : ms.length = m := by have := S.row.1; simpa using this

/-- What the visits read. -/
structure VEnv (w0 : World) (base g m cap bm bn bv r : Nat) (NM : Int → Option Value) (G : Int → List Int) : Prop where
  mark : w0.cell? ⟨bm, 0, none⟩ = some (.slice (some ⟨g, 0, none⟩) m cap)
  near : w0.cell? ⟨bn, 0, none⟩ = some (.map (some r))
  visit : w0.cell? ⟨bv, 0, none⟩ = some (.func (.func 51) #[] #[.pointer (some ⟨bm, 0, none⟩), .pointer (some ⟨bn, 0, none⟩), .pointer (some ⟨bv, 0, none⟩)])
  ne : bm ≠ g ∧ bn ≠ g ∧ bv ≠ g ∧ r ≠ g ∧ base ≤ g
  nr : Near w0 base r NM G
  nog : ∀ k u, NM k = some u → u.ownBlock ≠ some g
  inm : ∀ k d, d ∈ G k → 0 ≤ d ∧ d < m
  few : ∀ k, (G k).length ≤ 100000000

set_option maxHeartbeats 2000000 in
theorem visit_any {w0 : World} {base g m cap bm bn bv r : Nat} {NM : Int → Option Value} {G : Int → List Int} (E : VEnv w0 base g m cap bm bn bv r NM G) (hm : m ≤ 1000000) (name : Int) (hname : 0 ≤ name) :
    ∀ (N : Nat) (ms : List Int) (c : Int) (W : World), unm ms ≤ N → 0 ≤ c → c < m → VSt w0 base g m cap ms W →
    Calls Try.prog 51 #[.int .i64 c, .int .i64 name, .pointer (some ⟨bm, 0, none⟩), .pointer (some ⟨bn, 0, none⟩), .pointer (some ⟨bv, 0, none⟩)] W fun e W' => e = .returned (.tuple #[]) ∧ ∃ ms', VPost G ms ms' c name ∧ VSt w0 base g m cap ms' W' := by
  intro N
  induction N with
  | zero =>
    intro ms c W hN h0 h1 S
    have hl := S.len
    have k1 := S.cell E.mark E.ne.1
    obtain ⟨k2, _⟩ := own_at S.row c.toNat (by omega)
    have hge : 0 ≤ nth ms c.toNat := by
      rcases Int.lt_or_le (nth ms c.toNat) 0 with h | h
      · have := unm_set (v := 0) (by omega) h (Int.le_refl 0)
        omega
      · exact h
    have P : VPost G ms ms c name := ⟨rfl, fun x => .inl rfl, hge, fun x h1 h2 => absurd h1 (by omega)⟩
    clear E
    go_enter Try.func51, Try.ntmps51
    go_wp2
    exact bodyPost_ret (results_none rfl _ _ _) rfl ⟨rfl, ms, P, S⟩
  | succ N ih =>
    intro ms c W hN h0 h1 S
    have hl := S.len
    have k1 := S.cell E.mark E.ne.1
    obtain ⟨k2, k3⟩ := own_at S.row c.toNat (by omega)
    rcases Int.lt_or_le (nth ms c.toNat) 0 with hneg | hge
    · have kn := S.cell E.near E.ne.2.1
      have kv := S.cell E.visit E.ne.2.2.1
      obtain ⟨hst, hgs⟩ := own_store S.row c.toNat name
      have hu1 := unm_set (v := name) (by omega) hneg hname
      obtain ⟨W1, hW1⟩ : ∃ W1, Hid (W1 = W.setCell ⟨g, c.toNat, none⟩ (.int .i64 name)) := ⟨_, rfl⟩
      obtain ⟨ms1, hms1⟩ : ∃ ms1, Hid (ms1 = ms.set c.toNat name) := ⟨_, rfl⟩
      have S1 : VSt w0 base g m cap ms1 W1 := by rw [hW1.out, hms1.out]; exact ⟨hst, S.gr.trans hgs⟩
      have kn1 := S1.cell E.near E.ne.2.1
      rw [← hms1.out] at hu1
      have hn1 : ∀ x, nth ms1 x = if x = c.toNat then name else nth ms x := fun x => by rw [hms1.out]; exact nth_set ms _ _ x (by omega)
      -- the neighbours
      have hrl : r < w0.heap.size := E.nr.map.lt
      have hfew := E.few c
      have hinm := E.inm c
      obtain ⟨A, cc, hlk, hrd⟩ : ∃ A cc, (∀ W' : World, w0.grownBy W' (some g) → (Instr.lookup 70 (.map (some r)) (.int .i64 c) false).run Try.prog W' = .ok (.slice A (G c).length cc) W') ∧ (∀ W' : World, w0.grownBy W' (some g) → RInts W' A (G c).length (G c)) := by
        have hM : ∀ W' : World, w0.grownBy W' (some g) → W'.heap[r]? = w0.heap[r]? := fun W' h => h.block r hrl (fun e => E.ne.2.2.2.1 (Option.some.inj e))
        cases hc : NM c with
        | none =>
          refine ⟨none, 0, fun W' h => ?_, fun W' h => ⟨rfl, by omega, fun hp => ?_⟩⟩
          · have := lookup_fn keyI Try.underlying70 (E.nr.map.same (hM W' h)) c zero23 false
            rw [hc] at this
            rw [E.nr.none_ c hc]
            exact this
          · rw [E.nr.none_ c hc] at hp; simp at hp
        | some u =>
          have hrow := E.nr.row c u hc
          obtain ⟨A, cc, hu, _⟩ := own_reads hrow (by omega)
          refine ⟨A, cc, fun W' h => ?_, fun W' h => ?_⟩
          · have := lookup_fn keyI Try.underlying70 (E.nr.map.same (hM W' h)) c zero23 false
            rw [hc] at this
            rw [← hu]
            exact this
          · obtain ⟨A', cc', hu', hr⟩ := own_reads (hrow.kept h (.inr (E.nog c u hc))) (by omega)
            rw [hu] at hu'
            cases hu'
            exact hr
      have hlk1 := hlk W1 S1.gr
      have S2 := S1
      rw [hW1.out] at hlk1 S2
      have hbn : bn ≠ g := E.ne.2.1
      have hrd1 := Lib.hid hrd
      clear hrd
      have HC : Hid (∀ (ms' : List Int) (W' : World), VSt w0 base g m cap ms' W' → ms'.length = ms1.length → (∀ x : Nat, nth ms' x = nth ms1 x ∨ (nth ms1 x < 0 ∧ nth ms' x = name ∧ Reach G c x)) → (∀ i, i < (G c).length → 0 ≤ nth ms' (nth (G c) i).toNat) →
          (∀ x : Nat, nth ms1 x < 0 → 0 ≤ nth ms' x → ∀ d ∈ G x, 0 ≤ nth ms' d.toNat) → VPost G ms ms' c name) := by
        intro ms' W' S' hlen hch hnb hcl
        refine ⟨by rw [S'.len, hl], fun x => ?_, ?_, fun x hx hx' d hd => ?_⟩
        · rcases hch x with h | ⟨h2, h3, h4⟩
          · rw [hn1] at h
            by_cases e : x = c.toNat
            · rw [if_pos e] at h
              subst e
              exact .inr ⟨hneg, h, by rw [Int.toNat_of_nonneg h0]; exact .refl⟩
            · rw [if_neg e] at h; exact .inl h
          · rw [hn1] at h2
            by_cases e : x = c.toNat
            · rw [if_pos e] at h2; omega
            · rw [if_neg e] at h2; exact .inr ⟨h2, h3, h4⟩
        · have h := hch c.toNat
          rw [hn1, if_pos rfl] at h
          rcases h with h | ⟨h, _⟩ <;> omega
        · by_cases e : x = c.toNat
          · subst e
            rw [Int.toNat_of_nonneg h0] at hd
            obtain ⟨i, hi, rfl⟩ := List.mem_iff_getElem.1 hd
            have := hnb i hi
            simpa [nth, List.getD_eq_getElem?_getD, List.getElem?_eq_getElem hi] using this
          · exact hcl x (by rw [hn1, if_neg e]; exact hx) hx' d hd
      have HE := E
      clear hlk S hst hgs E hW1 S1 kn1 W1
      go_enter Try.func51, Try.ntmps51
      go_wp2
      go_loopw [8, 22] (fun _ t wr => ∃ (j : Nat) (ms' : List Int), j ≤ (G c).length ∧ t = .int .i64 j ∧ VSt w0 base g m cap ms' wr ∧ Hid (ms'.length = ms1.length) ∧ Hid (∀ x : Nat, nth ms' x = nth ms1 x ∨ (nth ms1 x < 0 ∧ nth ms' x = name ∧ Reach G c x)) ∧ Hid (∀ i, i < j → 0 ≤ nth ms' (nth (G c) i).toNat) ∧
          Hid (∀ x : Nat, nth ms1 x < 0 → 0 ≤ nth ms' x → ∀ d ∈ G x, 0 ≤ nth ms' d.toNat)) (fun _ t _ => (G c).length - (intOf t).toNat)
      case atStart => exact ⟨0, ms1, Nat.zero_le _, rfl, S2, rfl, fun x => .inl rfl, hid_zero, fun x h1 h2 => absurd h1 (by omega)⟩
      case round =>
        obtain ⟨j, ms', hj, rfl, S, Hl, H1, H2, H3⟩ := hrel
        by_cases hlt : j < (G c).length
        · obtain ⟨b, off, rfl, hcell⟩ := (hrd1.out wr S.gr).cell (by omega)
          have kd := hcell j hlt
          have kv' := S.cell HE.visit HE.ne.2.2.1
          have hd : nth (G c) j ∈ G c := by
            simp [nth, List.getD_eq_getElem?_getD, List.getElem?_eq_getElem hlt]
          have hdm := hinm _ hd
          have hle : unm ms' ≤ N := by
            have := unm_le (ms := ms1) (ms' := ms') Hl.out (fun x hx => by
              rcases H1.out x with h | ⟨h, _⟩ <;> omega)
            omega
          have hcall := ih ms' (nth (G c) j) wr hle hdm.1 hdm.2 S
          clear ih hcell hrd1 hinm
          go_wp2_with (refine hcall.mono ?_; rintro e w' ⟨rfl, ms2, P2, S2⟩)
          have HX : Hid (ms2.length = ms1.length) ∧ Hid (∀ x : Nat, nth ms2 x = nth ms1 x ∨ (nth ms1 x < 0 ∧ nth ms2 x = name ∧ Reach G c x)) ∧ Hid (∀ i, i < j + 1 → 0 ≤ nth ms2 (nth (G c) i).toNat) ∧ Hid (∀ x : Nat, nth ms1 x < 0 → 0 ≤ nth ms2 x → ∀ d ∈ G x, 0 ≤ nth ms2 d.toNat) := by
            have hgrow : ∀ x : Nat, 0 ≤ nth ms' x → 0 ≤ nth ms2 x := fun x hx => by rcases P2.ch x with h | ⟨h, _⟩ <;> omega
            refine ⟨P2.len.trans Hl.out, fun x => ?_, hid_succ (fun i hi => hgrow _ (H2.out i hi)) P2.top, fun x hx hx2 d hd2 => ?_⟩
            · rcases P2.ch x with h | ⟨h1, h2, h3⟩
              · rw [h]; exact H1.out x
              · rcases H1.out x with h | ⟨_, h, _⟩
                · exact .inr ⟨by omega, h2, (Reach.refl.step hd).trans h3⟩
                · omega
            · rcases Int.lt_or_le (nth ms' x) 0 with h | h
              · exact P2.cl x h hx2 d hd2
              · exact hgrow _ (H3.out x hx h d hd2)
          clear P2 H1 H2 H3 Hl
          go_wp2
          go_roundw
          case rel => exact ⟨j + 1, ms2, by omega, by go_num, S2, HX⟩
          case measure => (simp [intOf]; omega)
        · obtain rfl : j = (G c).length := by omega
          have hfin := Lib.hid (HC.out ms' wr S Hl.out H1.out H2.out H3.out)
          clear ih hrd1 hinm H1 H2 H3 Hl HC
          go_wp2
          go_end0
          exact ⟨rfl, ms', hfin.out, S⟩
    · have P : VPost G ms ms c name := ⟨rfl, fun x => .inl rfl, hge, fun x h1 h2 => absurd h1 (by omega)⟩
      clear E ih
      go_enter Try.func51, Try.ntmps51
      go_wp2
      exact bodyPost_ret (results_none rfl _ _ _) rfl ⟨rfl, ms, P, S⟩

end Go.Proofs.Ytiapdpbcnbgdmaa
