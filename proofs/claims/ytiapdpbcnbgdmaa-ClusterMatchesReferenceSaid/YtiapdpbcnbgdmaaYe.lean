import Derived.Test.YtiapdpbcnbgdmaaYd
set_option linter.unusedVariables false
set_option linter.unusedSimpArgs false
namespace Go.Proofs.Ytiapdpbcnbgdmaa
open Go.RowKit

/-- a pair between two clusters -/
def apC (mk : List Int) (a b : Int) (p : Int × Int) : Prop := (nth mk p.1.toNat = a ∧ nth mk p.2.toNat = b) ∨ (nth mk p.1.toNat = b ∧ nth mk p.2.toNat = a)
instance (mk : List Int) (a b : Int) (p : Int × Int) : Decidable (apC mk a b p) := by unfold apC; infer_instance
def apB (ps : List (Int × Int)) (mk : List Int) (a b : Int) : Bool := ps.any fun p => decide (apC mk a b p)
theorem apB_hit {ps : List (Int × Int)} {mk : List Int} {a b : Int} {n k : Nat} (hl : Hid (ps.length = n)) (hk : k < n) (h : apC mk a b (pth ps k)) : apB ps mk a b = true := by
  have hk : k < ps.length := by rw [hl.out]; exact hk
  have ej : pth ps k = ps[k] := by simp [pth, List.getD_eq_getElem?_getD, List.getElem?_eq_getElem hk]
  rw [ej] at h
  exact List.any_eq_true.2 ⟨_, List.getElem_mem hk, decide_eq_true h⟩
theorem apB_end {ps : List (Int × Int)} {mk : List Int} {a b : Int} {n : Nat} (hl : Hid (ps.length = n)) (h : Hid (∀ i, i < n → ¬ apC mk a b (pth ps i))) : apB ps mk a b = false := by
  unfold apB
  rw [List.any_eq_false]
  intro e he
  obtain ⟨j, hj, e1⟩ := List.getElem_of_mem he
  have ej : pth ps j = e := by simp [pth, List.getD_eq_getElem?_getD, List.getElem?_eq_getElem hj, e1]
  rw [← ej, decide_eq_true_eq]
  exact h.out j (by rw [← hl.out]; exact hj)
set_option maxHeartbeats 2000000 in
theorem apart_any (A : Option Addr) (n c : Nat) (ps : List (Int × Int)) (A1 : Option Addr) (m c1 : Nat) (mk : List Int) (x y : Int) (w : World) (h : RPairs w A n ps) (h1 : RInts w A1 m mk) (hg : GoodP m ps n) :
    Calls Try.prog 60 #[.slice A n c, .slice A1 m c1, .int .i64 x, .int .i64 y] w fun e w' => e = .returned (.bool (apB ps mk x y)) ∧ w = w' := by
  have hbig := h.big
  have hl := Lib.hid h.len
  go_enter Try.func60, Try.ntmps60
  go_wp2
  go_loopw [9, 10, 11] (fun t _ _ wr => ∃ k : Nat, k ≤ n ∧ t = .int .i64 k ∧ Hid (∀ i, i < k → ¬ apC mk x y (pth ps i)) ∧ w = wr) (fun t _ _ _ => n - (intOf t).toNat)
  case atStart => exact ⟨0, Nat.zero_le _, rfl, Lib.hid (fun j hj => absurd hj (Nat.not_lt_zero _)), rfl⟩
  case round =>
    obtain ⟨k, hk, rfl, hI, rfl⟩ := hrel
    by_cases hlt : k < n
    · obtain ⟨b, off, rfl, hcell⟩ := h.cell (by omega)
      obtain ⟨k1, k2⟩ := hcell k hlt
      obtain ⟨a0, a1, b0, b1⟩ := hg k hlt
      have hhit := fun hb => apB_hit (mk := mk) (a := x) (b := y) hl hlt hb
      have hnext := fun hb => hid_succ (P := fun i => ¬ apC mk x y (pth ps i)) hI hb
      obtain ⟨ea, eb, hE⟩ : ∃ ea eb, Hid (pth ps k = (ea, eb)) := ⟨_, _, rfl⟩
      rw [hE.out] at k1 k2 a0 a1 b0 b1 hhit hnext
      dsimp only at k1 k2 a0 a1 b0 b1 hhit hnext
      obtain ⟨b', off', rfl, hcell'⟩ := h1.cell (by omega)
      have d1 := hcell' ea.toNat (by omega)
      have d2 := hcell' eb.toNat (by omega)
      have han : ((ea.toNat : Nat) : Int) = ea := Int.toNat_of_nonneg a0
      have hbn : ((eb.toNat : Nat) : Int) = eb := Int.toNat_of_nonneg b0
      obtain ⟨u, hu⟩ : ∃ u, Hid (nth mk ea.toNat = u) := ⟨_, rfl⟩
      obtain ⟨v, hv⟩ : ∃ v, Hid (nth mk eb.toNat = v) := ⟨_, rfl⟩
      have hB : apC mk x y (ea, eb) ↔ ((u = x ∧ v = y) ∨ (u = y ∧ v = x)) := by unfold apC; simp only; rw [hu.out, hv.out]
      have HB := Lib.hid hB
      rw [hu.out] at d1
      rw [hv.out] at d2
      have HH := Lib.hid (And.intro hhit hnext)
      clear hB hcell hcell' hhit hnext hI
      cases f1 : (u == x) <;> cases f2 : (v == y) <;> cases f3 : (u == y) <;> cases f4 : (v == x)
      all_goals (
        have g1 := f1
        have g2 := f2
        have g3 := f3
        have g4 := f4
        simp only [beq_iff_eq, beq_eq_false_iff_ne, ne_eq] at g1 g2 g3 g4
        have HG := Lib.hid (And.intro g1 (And.intro g2 (And.intro g3 g4)))
        clear g1 g2 g3 g4
        go_wp2
        first
        | (go_roundw
           case rel =>
             obtain ⟨g1, g2, g3, g4⟩ := HG.out
             exact ⟨k + 1, by omega, by go_num, HH.out.2 (by rw [HB.out]; rintro (⟨e1, e2⟩ | ⟨e1, e2⟩) <;> first | exact g1 e1 | exact g2 e2 | exact g3 e1 | exact g4 e2), by trivial⟩
           case measure => (simp [intOf]; omega))
        | (go_ret
           obtain ⟨g1, g2, g3, g4⟩ := HG.out
           have hfin := HH.out.1 (HB.out.2 (by first | exact .inl ⟨g1, g2⟩ | exact .inr ⟨g3, g4⟩))
           exact ⟨by rw [hfin]; rfl, rfl⟩))
    · obtain rfl : k = n := by omega
      have hfin := Lib.hid (apB_end hl hI)
      clear hI
      go_wp2
      go_ret
      exact ⟨by rw [hfin.out]; rfl, rfl⟩

end Go.Proofs.Ytiapdpbcnbgdmaa

set_option linter.unusedVariables false
set_option linter.unusedSimpArgs false
namespace Go.Proofs.Ytiapdpbcnbgdmaa
open Go.RowKit

section
variable (es : List E3) (ps : List (Int × Int)) (ms : List Int) (n m : Nat) (cc : Int)
/-- two clusters that greedy may unite -/
structure CandE (E : List Int) (a b : Nat) : Prop where
  lt : a < b
  ltm : b < m
  ma : nth ms a = cc
  mb : nth ms b = cc
  ha : nth E a = a
  hb : nth E b = b
  ap : apB ps E a b = false
structure BestE (E : List Int) (a b : Nat) : Prop where
  cand : CandE ps ms m cc E a b
  pos : 0 < betTo es E a b n
  best : ∀ a' b', CandE ps ms m cc E a' b' → betTo es E a' b' n < betTo es E a b n ∨ (betTo es E a' b' n = betTo es E a b n ∧ (a < a' ∨ (a = a' ∧ b ≤ b')))
inductive ERun : List Int → List Int → Prop
  | stop {E : List Int} : (∀ a b, CandE ps ms m cc E a b → betTo es E a b n ≤ 0) → ERun E E
  | step {E F : List Int} {a b : Nat} : BestE es ps ms n m cc E a b → ERun (mergeTo E a b m) F → ERun E F
/-- the best of the pairs before (a0, b0) -/
def SelE (E : List Int) (a0 b0 : Nat) (x y most : Int) : Prop :=
  (x = -1 ∧ most = 0 ∧ ∀ a b, (a < a0 ∨ (a = a0 ∧ b < b0)) → CandE ps ms m cc E a b → betTo es E a b n ≤ 0) ∨
  (∃ xa ya : Nat, x = xa ∧ y = ya ∧ (xa < a0 ∨ (xa = a0 ∧ ya < b0)) ∧ CandE ps ms m cc E xa ya ∧ betTo es E xa ya n = most ∧ 0 < most ∧
    ∀ a b, (a < a0 ∨ (a = a0 ∧ b < b0)) → CandE ps ms m cc E a b → betTo es E a b n < most ∨ (betTo es E a b n = most ∧ (xa < a ∨ (xa = a ∧ ya ≤ b))))
end
section
variable {es : List E3} {ps : List (Int × Int)} {ms : List Int} {n m : Nat} {cc : Int} {E : List Int}
theorem SelE.start : SelE es ps ms n m cc E 0 0 (-1) (-1) 0 := .inl ⟨rfl, rfl, fun a b h => by omega⟩
theorem SelE.skip {a b : Nat} {x y most : Int} (S : SelE es ps ms n m cc E a b x y most) (h : CandE ps ms m cc E a b → betTo es E a b n ≤ most) : SelE es ps ms n m cc E a (b + 1) x y most := by
  rcases S with ⟨h1, h2, h3⟩ | ⟨xa, ya, h1, h2, h3, h4, h5, h6, h7⟩
  · refine .inl ⟨h1, h2, fun a' b' hv hc => ?_⟩
    by_cases e : a' = a ∧ b' = b
    · obtain ⟨rfl, rfl⟩ := e
      rw [← h2]; exact h hc
    · exact h3 a' b' (by omega) hc
  · refine .inr ⟨xa, ya, h1, h2, by omega, h4, h5, h6, fun a' b' hv hc => ?_⟩
    by_cases e : a' = a ∧ b' = b
    · obtain ⟨rfl, rfl⟩ := e
      have := h hc
      omega
    · exact h7 a' b' (by omega) hc
theorem SelE.take {a b : Nat} {x y most : Int} (S : SelE es ps ms n m cc E a b x y most) (hc : CandE ps ms m cc E a b) (h : most < betTo es E a b n) : SelE es ps ms n m cc E a (b + 1) a b (betTo es E a b n) := by
  rcases S with ⟨h1, h2, h3⟩ | ⟨xa, ya, h1, h2, h3, h4, h5, h6, h7⟩
  · refine .inr ⟨a, b, rfl, rfl, by omega, hc, rfl, by omega, fun a' b' hv hc' => ?_⟩
    by_cases e : a' = a ∧ b' = b
    · obtain ⟨rfl, rfl⟩ := e
      exact .inr ⟨rfl, .inr ⟨rfl, Nat.le_refl _⟩⟩
    · have := h3 a' b' (by omega) hc'
      exact .inl (by omega)
  · refine .inr ⟨a, b, rfl, rfl, by omega, hc, rfl, by omega, fun a' b' hv hc' => ?_⟩
    by_cases e : a' = a ∧ b' = b
    · obtain ⟨rfl, rfl⟩ := e
      exact .inr ⟨rfl, .inr ⟨rfl, Nat.le_refl _⟩⟩
    · have := h7 a' b' (by omega) hc'
      exact .inl (by omega)
theorem SelE.weaken {a b a' b' : Nat} {x y most : Int} (S : SelE es ps ms n m cc E a b x y most) (h1 : ∀ u v, (u < a ∨ (u = a ∧ v < b)) → (u < a' ∨ (u = a' ∧ v < b'))) (h2 : ∀ u v, CandE ps ms m cc E u v → (u < a' ∨ (u = a' ∧ v < b')) → (u < a ∨ (u = a ∧ v < b))) : SelE es ps ms n m cc E a' b' x y most := by
  rcases S with ⟨k1, k2, k3⟩ | ⟨xa, ya, k1, k2, k3, k4, k5, k6, k7⟩
  · exact .inl ⟨k1, k2, fun u v hv hc => k3 u v (h2 u v hc hv) hc⟩
  · exact .inr ⟨xa, ya, k1, k2, h1 _ _ k3, k4, k5, k6, fun u v hv hc => k7 u v (h2 u v hc hv) hc⟩
theorem SelE.rowStart {a : Nat} {x y most : Int} (S : SelE es ps ms n m cc E a 0 x y most) : SelE es ps ms n m cc E a (a + 1) x y most :=
  S.weaken (fun u v h => by omega) (fun u v hc h => by have := hc.lt; omega)
theorem SelE.rowEnd {a b : Nat} {x y most : Int} (S : SelE es ps ms n m cc E a b x y most) (hb : m ≤ b) : SelE es ps ms n m cc E (a + 1) 0 x y most :=
  S.weaken (fun u v h => by omega) (fun u v hc h => by have := hc.ltm; omega)
theorem SelE.stop {a : Nat} {x y most : Int} (S : SelE es ps ms n m cc E a 0 x y most) (ha : m ≤ a) (hx : x < 0) : ERun es ps ms n m cc E E := by
  rcases S with ⟨h1, h2, h3⟩ | ⟨xa, ya, h1, h2, h3, h4, h5, h6, h7⟩
  · exact .stop fun a' b' hc => h3 a' b' (.inl (by have := hc.lt; have := hc.ltm; omega)) hc
  · omega
theorem SelE.best {a : Nat} {x y most : Int} (S : SelE es ps ms n m cc E a 0 x y most) (ha : m ≤ a) (hx : ¬ x < 0) : ∃ xa ya : Nat, x = xa ∧ y = ya ∧ BestE es ps ms n m cc E xa ya := by
  rcases S with ⟨h1, h2, h3⟩ | ⟨xa, ya, h1, h2, h3, h4, h5, h6, h7⟩
  · omega
  · refine ⟨xa, ya, h1, h2, h4, by omega, fun a' b' hc => ?_⟩
    have := h7 a' b' (.inl (by have := hc.lt; have := hc.ltm; omega)) hc
    omega
theorem BestE.total {a b : Nat} (B : BestE es ps ms n m cc E a b) (hl : E.length = m) : total (mergeTo E a b m) < total E := by
  have hlt := B.cand.lt
  have hltm := B.cand.ltm
  have hb := B.cand.hb
  refine total_lt (by rw [mergeTo_len]) (fun i hi => ?_) (j := b) (by omega) ?_
  · rw [mergeTo_nth m (by omega)]
    split
    · rename_i h; rw [h.2]; omega
    · exact Nat.le_refl _
  · rw [mergeTo_nth m (by omega), if_pos ⟨hltm, hb⟩, hb]; omega
end

end Go.Proofs.Ytiapdpbcnbgdmaa

set_option linter.unusedVariables false
set_option linter.unusedSimpArgs false
namespace Go.Proofs.Ytiapdpbcnbgdmaa
open Go.RowKit

theorem own_rints {w : World} {base n : Nat} {A : Option Addr} {c : Nat} {xs : List Int} (h : w.ownsRow base 3 1 (.slice A n c) n (ints xs)) (hb : n ≤ 35184372088832) : RInts w A n xs := by
  have hl : xs.length = n := by have := h.1; simpa using this
  subst hl
  obtain ⟨A', c', e, hr⟩ := own_reads h hb
  injection e with e1 e2 e3
  subst e1
  exact hr
set_option maxRecDepth 100000 in
set_option maxHeartbeats 8000000 in
theorem refGreedy_any (A : Option Addr) (n c : Nat) (es : List E3) (A2 : Option Addr) (q c2 : Nat) (ps : List (Int × Int)) (A3 : Option Addr) (m c3 : Nat) (E0 : List Int) (A4 : Option Addr) (c4 : Nat) (ms : List Int) (cc : Int) (w : World)
    (h : REdges w A n es) (h2 : RPairs w A2 q ps) (h3 : RInts w A3 m E0) (h4 : RInts w A4 m ms) (hm : m ≤ 2000) (hg : GoodE m es n) (hp : GoodP m ps q) :
    Calls Try.prog 40 #[.slice A n c, .slice A2 q c2, .slice A3 m c3, .slice A4 m c4, .int .i64 cc] w fun e w' => ∃ v F, e = .returned v ∧ w'.ownsRow w.heap.size 3 1 v m (ints F) ∧ ERun es ps ms n m cc E0 F ∧ Ext w w' := by
  have hsl := h3.len
  obtain ⟨v1, W1, happ, hown1, hg1, -, -⟩ := append_ints (c := c3) (own_empty3 w) (h3.ext (ext_alloc w (.cells #[] 3))) (by simp) (by simp) (by omega)
  rw [List.nil_append, hsl] at hown1
  have hx1 : Ext w W1 := (ext_alloc w (.cells #[] 3)).grown hg1 (by simp) (fun k e => by
    have : w.heap.size = k := by simpa [Value.ownBlock] using e
    omega)
  obtain ⟨A5, c5, rfl, hA5⟩ := own_slice hown1
  have HSL := Lib.hid hsl
  clear hsl hg1
  go_enter Try.func40, Try.ntmps40
  go_wp2_with (at_builtin; refine wpList_app happ rfl rfl rfl rfl ?_; clear happ)
  go_loopg [] (total E0) (fun gg wr => ∃ E, E.length = m ∧ Hid (∀ F, ERun es ps ms n m cc E F → ERun es ps ms n m cc E0 F) ∧ total E ≤ gg ∧ wr.ownsRow w.heap.size 3 1 (.slice A5 m c5) m (ints E) ∧ W1.grownBy wr (Value.ownBlock (.slice A5 m c5)))
  case atStart => exact ⟨E0, HSL.out, Lib.hid (fun F h => h), Nat.le_refl _, hown1, World.grownBy.refl _ _⟩
  case round =>
    obtain ⟨E, hEl, hER, hgg, hrow, hgr⟩ := hrel
    have hxO : Ext w wr := hx1.grown hgr hx1.size (fun k e => (own_block hown1 e).1)
    have HEL := Lib.hid hEl
    have HGG := Lib.hid hgg
    have hrd := own_rints hrow (by omega)
    have hre := h.ext hxO
    have hrp := h2.ext hxO
    have hrm := h4.ext hxO
    clear hEl hgg
    go_wp2
    go_loopg [11, 12, 13, 14] m (fun g2 tx ty tm ta wx => ∃ (a : Nat) (x y most : Int), m - a ≤ g2 ∧ a ≤ m ∧ ta = .int .i64 a ∧ tx = .int .i64 x ∧ ty = .int .i64 y ∧ tm = .int .i64 most ∧ Hid (SelE es ps ms n m cc E a 0 x y most) ∧ wr = wx)
    case atStart => exact ⟨0, -1, -1, 0, Nat.le_refl _, Nat.zero_le _, rfl, rfl, rfl, rfl, Lib.hid SelE.start, rfl⟩
    case round =>
      obtain ⟨a, x, y, most, hg2, ha, rfl, rfl, rfl, rfl, hS, rfl⟩ := hrel
      by_cases hlt : a < m
      · have hm0 : 0 < m := by omega
        obtain ⟨g, rfl, hga, hgb⟩ := hA5 hm0
        obtain ⟨b4, o4, rfl, hcm⟩ := hrm.cell hm0
        have HS0 := Lib.hid hS.out.rowStart
        clear hS
        go_wp2
        go_loopw [11, 12, 13, 15, 16] (fun tx ty tm tb _ wx => ∃ (b : Nat) (x y most : Int), a + 1 ≤ b ∧ b ≤ m ∧ tb = .int .i64 b ∧ tx = .int .i64 x ∧ ty = .int .i64 y ∧ tm = .int .i64 most ∧ Hid (SelE es ps ms n m cc E a b x y most) ∧ wr = wx) (fun _ _ _ tb _ _ => m - (intOf tb).toNat)
        case atStart => exact ⟨a + 1, x, y, most, Nat.le_refl _, by omega, by go_num, rfl, rfl, rfl, HS0, rfl⟩
        case round =>
          obtain ⟨b, x, y, most, hab, hb, rfl, rfl, rfl, rfl, hS, rfl⟩ := hrel
          by_cases hbm : b < m
          · have q1 := hcm a hlt
            have q2 := hcm b hbm
            have q3 := (own_at hrow a hlt).1
            have q4 := (own_at hrow b hbm).1
            have hcand : CandE ps ms m cc E a b → nth ms a = cc ∧ nth ms b = cc ∧ nth E a = a ∧ nth E b = b ∧ apB ps E a b = false := fun h => ⟨h.ma, h.mb, h.ha, h.hb, h.ap⟩
            have hmk : nth ms a = cc → nth ms b = cc → nth E a = a → nth E b = b → apB ps E a b = false → CandE ps ms m cc E a b := fun e1 e2 e3 e4 e5 => ⟨by omega, hbm, e1, e2, e3, e4, e5⟩
            have HC := Lib.hid hcand
            have HM := Lib.hid hmk
            clear hcand hmk hcm
            by_cases e0 : nth ms a = cc
            case neg =>
              have hb0 := bne_t e0
              have HN := Lib.hid (hS.out.skip (fun h => absurd (HC.out h).1 e0))
              clear hS e0
              go_wp2_with (first | (go_at_call 60; refine ca.mono ?_; rintro e w1 ⟨rfl, rfl⟩) | (go_at_call 59; refine cb.mono ?_; rintro e w1 ⟨rfl, rfl⟩))
              go_roundw
              case rel => exact ⟨b + 1, x, y, most, by omega, by omega, by go_num, rfl, rfl, rfl, HN, by trivial⟩
              case measure => (simp [intOf]; omega)
            have hb0 := bne_f e0
            have H0 := Lib.hid e0
            clear e0
            by_cases e1 : nth ms b = cc
            case neg =>
              have hb1 := bne_t e1
              have HN := Lib.hid (hS.out.skip (fun h => absurd (HC.out h).2.1 e1))
              clear hS e1
              go_wp2_with (first | (go_at_call 60; refine ca.mono ?_; rintro e w1 ⟨rfl, rfl⟩) | (go_at_call 59; refine cb.mono ?_; rintro e w1 ⟨rfl, rfl⟩))
              go_roundw
              case rel => exact ⟨b + 1, x, y, most, by omega, by omega, by go_num, rfl, rfl, rfl, HN, by trivial⟩
              case measure => (simp [intOf]; omega)
            have hb1 := bne_f e1
            have H1 := Lib.hid e1
            clear e1
            by_cases e2 : nth E a = a
            case neg =>
              have hb2 := bne_t e2
              have HN := Lib.hid (hS.out.skip (fun h => absurd (HC.out h).2.2.1 e2))
              clear hS e2
              go_wp2_with (first | (go_at_call 60; refine ca.mono ?_; rintro e w1 ⟨rfl, rfl⟩) | (go_at_call 59; refine cb.mono ?_; rintro e w1 ⟨rfl, rfl⟩))
              go_roundw
              case rel => exact ⟨b + 1, x, y, most, by omega, by omega, by go_num, rfl, rfl, rfl, HN, by trivial⟩
              case measure => (simp [intOf]; omega)
            have hb2 := bne_f e2
            have H2 := Lib.hid e2
            clear e2
            by_cases e3 : nth E b = b
            case neg =>
              have hb3 := bne_t e3
              have HN := Lib.hid (hS.out.skip (fun h => absurd (HC.out h).2.2.2.1 e3))
              clear hS e3
              go_wp2_with (first | (go_at_call 60; refine ca.mono ?_; rintro e w1 ⟨rfl, rfl⟩) | (go_at_call 59; refine cb.mono ?_; rintro e w1 ⟨rfl, rfl⟩))
              go_roundw
              case rel => exact ⟨b + 1, x, y, most, by omega, by omega, by go_num, rfl, rfl, rfl, HN, by trivial⟩
              case measure => (simp [intOf]; omega)
            have hb3 := bne_f e3
            have H3 := Lib.hid e3
            clear e3
            have ca := fun W (hW : wr = W) => apart_any A2 q c2 ps (some ⟨g, 0, none⟩) m c5 E a b W (hW ▸ hrp) (hW ▸ hrd) hp
            have cb := fun W (hW : wr = W) => between_any A n c es (some ⟨g, 0, none⟩) m c5 E a b W (hW ▸ hre) (hW ▸ hrd) hg
            have ca := ca wr rfl
            have cb := cb wr rfl
            cases e4 : apB ps E a b with
            | true =>
              have HN := Lib.hid (hS.out.skip (fun h => by have := (HC.out h).2.2.2.2; rw [e4] at this; cases this))
              rw [e4] at ca
              clear hS e4 cb
              go_wp2_with (first | (go_at_call 60; refine ca.mono ?_; rintro e w1 ⟨rfl, rfl⟩) | (go_at_call 59; refine cb.mono ?_; rintro e w1 ⟨rfl, rfl⟩))
              go_roundw
              case rel => exact ⟨b + 1, x, y, most, by omega, by omega, by go_num, rfl, rfl, rfl, HN, by trivial⟩
              case measure => (simp [intOf]; omega)
            | false =>
              rw [e4] at ca
              have HCa := Lib.hid (HM.out H0.out H1.out H2.out H3.out e4)
              clear e4
              by_cases hw : most < betTo es E a b n
              · have hd : decide (most < betTo es E a b n) = true := decide_eq_true hw
                have HN := Lib.hid (hS.out.take HCa.out hw)
                clear hS hw
                go_wp2_with (first | (go_at_call 60; refine ca.mono ?_; rintro e w1 ⟨rfl, rfl⟩) | (go_at_call 59; refine cb.mono ?_; rintro e w1 ⟨rfl, rfl⟩))
                go_roundw
                case rel => exact ⟨b + 1, a, b, _, by omega, by omega, by go_num, rfl, rfl, rfl, HN, by trivial⟩
                case measure => (simp [intOf]; omega)
              · have hd : decide (most < betTo es E a b n) = false := decide_eq_false hw
                have HN := Lib.hid (hS.out.skip (fun _ => by omega))
                clear hS hw
                go_wp2_with (first | (go_at_call 60; refine ca.mono ?_; rintro e w1 ⟨rfl, rfl⟩) | (go_at_call 59; refine cb.mono ?_; rintro e w1 ⟨rfl, rfl⟩))
                go_roundw
                case rel => exact ⟨b + 1, x, y, most, by omega, by omega, by go_num, rfl, rfl, rfl, HN, by trivial⟩
                case measure => (simp [intOf]; omega)
          · obtain rfl : b = m := by omega
            go_wp2
            go_roundg (b - (a + 1))
            case measure => exact Nat.lt_of_lt_of_le (Nat.sub_lt_sub_left hlt (Nat.lt_succ_self a)) hg2
            case rel => exact ⟨a + 1, x, y, most, Nat.le_refl _, by omega, by go_num, rfl, rfl, rfl, Lib.hid (hS.out.rowEnd (Nat.le_refl _)), rfl⟩
      · obtain rfl : a = m := by omega
        by_cases hx : x < 0
        · have hd : decide (x < 0) = true := decide_eq_true hx
          have HF := Lib.hid (hER.out _ (hS.out.stop (Nat.le_refl _) hx))
          clear hS hER
          go_wp2
          refine bodyPost_ret (v := .slice A5 a c5) (by simp [results, Try.results40, go_sem]) rfl ⟨_, E, rfl, hrow, HF.out, hxO⟩
        · have hd : decide (x < 0) = false := decide_eq_false hx
          obtain ⟨xa, ya, rfl, rfl, hB⟩ := hS.out.best (Nat.le_refl _) hx
          have hya := hB.cand.ltm
          have htot := hB.total HEL.out
          have HN := Lib.hid (fun F hF => hER.out F (.step hB hF))
          have HT := Lib.hid htot
          clear hS hER hB htot hx
          obtain ⟨g, rfl, hga, hgb⟩ := hA5 (by omega)
          go_wp2
          go_loopw [17] (fun t wx => ∃ i : Nat, i ≤ a ∧ t = .int .i64 i ∧ wx.ownsRow w.heap.size 3 1 (.slice (some ⟨g, 0, none⟩) a c5) a (ints (mergeTo E xa ya i)) ∧ wr.grownBy wx (some g)) (fun t _ => a - (intOf t).toNat)
          case atStart => exact ⟨0, Nat.zero_le _, rfl, hrow, World.grownBy.refl _ _⟩
          case round =>
            obtain ⟨i, hi, rfl, hrowi, hgi⟩ := hrel
            by_cases hil : i < a
            · obtain ⟨q1, q2⟩ := own_at hrowi i hil
              rw [mergeTo_nth i (by rw [HEL.out]; omega), if_neg (fun h => Nat.lt_irrefl _ h.1)] at q1
              by_cases hhi : nth E i = ya
              · have hb := beq_t hhi
                obtain ⟨hst, hgs⟩ := own_store hrowi i xa
                have hmm : (mergeTo E xa ya i).set i xa = mergeTo E xa ya (i + 1) := by rw [mergeTo, if_pos hhi]
                rw [hmm] at hst
                have HF := Lib.hid (And.intro hst (hgi.trans hgs))
                clear hst hgs hmm hrowi hgi hhi
                go_wp2
                go_roundw
                case rel => exact ⟨i + 1, by omega, by go_num, HF.out.1, HF.out.2⟩
                case measure => (simp [intOf]; omega)
              · have hb := beq_f hhi
                have hmm : mergeTo E xa ya i = mergeTo E xa ya (i + 1) := by rw [mergeTo, if_neg hhi]
                rw [hmm] at hrowi
                have HF := Lib.hid (And.intro hrowi hgi)
                clear hmm hrowi hgi hhi
                go_wp2
                go_roundw
                case rel => exact ⟨i + 1, by omega, by go_num, HF.out.1, HF.out.2⟩
                case measure => (simp [intOf]; omega)
            · obtain rfl : i = a := by omega
              have HF := Lib.hid (And.intro hrowi (World.grownBy.trans hgr hgi))
              clear hrowi hgi
              go_wp2
              go_roundg (total (mergeTo E xa ya i))
              case measure => exact Nat.lt_of_lt_of_le HT.out HGG.out
              case rel => exact ⟨_, by rw [mergeTo_len, HEL.out], HN, Nat.le_refl _, HF.out.1, HF.out.2⟩

end Go.Proofs.Ytiapdpbcnbgdmaa
