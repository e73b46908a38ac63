import Derived.Test.YtiapdpbcnbgdmaaFam
set_option linter.unusedVariables false
set_option linter.unusedSimpArgs false
namespace Go.Proofs.Ytiapdpbcnbgdmaa
open Go.RowKit

theorem own_base {w : World} {base base' e size n : Nat} {v : Value} {xs : List Value} (h : w.ownsRow base e size v n xs) (hb : base' ≤ base) : w.ownsRow base' e size v n xs :=
  ⟨h.1, h.2.imp id fun ⟨g, cap, cur, h1, h2, h3⟩ => ⟨g, cap, cur, h1, Nat.le_trans hb h2, h3⟩⟩
theorem Fam.base {w : World} {base base' : Nat} {v : Value} {vs : List Value} {gs : List (List Int)} (F : Fam w base v vs gs) (hb : base' ≤ base) : Fam w base' v vs gs :=
  ⟨own_base F.out hb, F.len, fun j u l h1 h2 => own_base (F.row j u l h1 h2) hb, F.sep⟩
def pos (m : Int) : List (Int × List Int) → Option Nat
  | [] => none
  | e :: g => if m = e.1 then some 0 else (pos m g).map (· + 1)
/-- the records by their marks, the first k of them -/
def memTo (mark : List Int) : Nat → List (Int × List Int)
  | 0 => []
  | k + 1 => match pos (nth mark k) (memTo mark k) with
    | some j => (memTo mark k).modify j fun e => (e.1, e.2 ++ [(k : Int)])
    | none => memTo mark k ++ [(nth mark k, [(k : Int)])]
def posI (m : Int) (g : List (Int × List Int)) : Option Int := match pos m g with | some j => some (j : Int) | none => none
theorem pos_lt {m : Int} {g : List (Int × List Int)} {j : Nat} (h : pos m g = some j) : ∃ l, g[j]? = some (m, l) := by
  induction g generalizing j with
  | nil => cases h
  | cons e g ih =>
    unfold pos at h
    split at h
    · rename_i hm; cases h; exact ⟨e.2, by simp [hm]⟩
    · cases hp : pos m g with
      | none => rw [hp] at h; cases h
      | some i => rw [hp] at h; cases h; simpa using ih hp
theorem pos_append_none {m : Int} {g : List (Int × List Int)} (h : pos m g = none) (l : List Int) (m' : Int) : pos m' (g ++ [(m, l)]) = if m' = m then some g.length else pos m' g := by
  induction g with
  | nil => simp [pos]
  | cons e g ih =>
    unfold pos at h
    split at h
    · cases h
    · rename_i hm
      have hp : pos m g = none := by cases hp : pos m g with | none => rfl | some i => rw [hp] at h; cases h
      rw [List.cons_append]
      unfold pos
      by_cases h1 : m' = e.1
      · have : ¬ m' = m := fun h2 => hm (h2.symm.trans h1)
        simp [h1, this]
        intro h3; exact absurd h3.symm hm
      · rw [if_neg h1, if_neg h1, ih hp]
        by_cases h2 : m' = m <;> simp [h2]
theorem pos_modify (g : List (Int × List Int)) (j : Nat) (f : List Int → List Int) (m' : Int) : pos m' (g.modify j fun e => (e.1, f e.2)) = pos m' g := by
  induction g generalizing j with
  | nil => simp
  | cons e g ih =>
    cases j with
    | zero => simp [pos]
    | succ j => simp only [List.modify_succ_cons, pos, ih]
theorem memTo_some {mark : List Int} {k j : Nat} (h : pos (nth mark k) (memTo mark k) = some j) : memTo mark (k + 1) = (memTo mark k).modify j fun e => (e.1, e.2 ++ [(k : Int)]) := by rw [memTo, h]
theorem memTo_none {mark : List Int} {k : Nat} (h : pos (nth mark k) (memTo mark k) = none) : memTo mark (k + 1) = memTo mark k ++ [(nth mark k, [(k : Int)])] := by rw [memTo, h]
theorem map_modify2 {g : List (Int × List Int)} {j : Nat} {m : Int} {l : List Int} (h : g[j]? = some (m, l)) (x : Int) : (g.modify j fun e => (e.1, e.2 ++ [x])).map (·.2) = (g.map (·.2)).set j (l ++ [x]) := by
  apply List.ext_getElem?
  intro i
  simp only [List.getElem?_map, List.getElem?_modify, List.getElem?_set, List.length_map]
  by_cases hi : j = i
  · subst hi
    obtain ⟨hl, he⟩ := List.getElem?_eq_some_iff.1 h
    simp [hl, he]
  · simp [hi]
theorem memTo_len (mark : List Int) (k : Nat) : (memTo mark k).length ≤ k ∧ ∀ e ∈ memTo mark k, e.2.length ≤ k := by
  induction k with
  | zero => simp [memTo]
  | succ k ih =>
    unfold memTo
    split
    · refine ⟨by simp; omega, fun e he => ?_⟩
      rename_i j _
      obtain ⟨i, hi⟩ := List.mem_iff_getElem?.1 he
      rw [List.getElem?_modify] at hi
      cases hg : (memTo mark k)[i]? with
      | none => rw [hg] at hi; simp at hi
      | some x =>
        rw [hg] at hi
        have := ih.2 x (List.mem_of_getElem? hg)
        by_cases h : j = i
        · simp [h] at hi; subst hi; simp; omega
        · simp [h] at hi; subst hi; omega
    · refine ⟨by simp; omega, fun e he => ?_⟩
      rcases List.mem_append.1 he with he | he
      · have := ih.2 e he; omega
      · simp at he; subst he; simp

set_option maxHeartbeats 1000000 in
theorem members_any (A : Option Addr) (n c : Nat) (mark : List Int) (w : World) (h : RInts w A n mark) (hn : n ≤ 1000000) :
    Calls Try.prog 30 #[.slice A n c] w fun e w' => ∃ v vs, e = .returned v ∧ Fam w' w.heap.size v vs ((memTo mark n).map (·.2)) ∧ Ext w w' := by
  have hmm := @run_makeMap Try.prog
  go_enter Try.func30, Try.ntmps30
  go_wp2
  go_loopw [4, 5, 6, 7, 8, 12] (fun s4 _ _ _ _ t wr => ∃ (k : Nat) (vs : List Value), k ≤ n ∧ t = .int .i64 k ∧ Fam wr (w.heap.size + 1) s4 vs ((memTo mark k).map (·.2)) ∧ MapFn wr w.heap.size vvI vvI (fun m => posI m (memTo mark k)) ∧ Ext w wr ∧ w.heap.size + 1 ≤ wr.heap.size) (fun _ _ _ _ _ t _ => n - (intOf t).toNat)
  case atStart => exact ⟨0, [], Nat.zero_le _, rfl, Fam.nil _ _, MapFn.congr (made_fn w vvI vvI) (fun k => rfl), ext_alloc _ _, by simp⟩
  case round =>
    obtain ⟨k, vs, hk, rfl, F, hM, hb, hsz⟩ := hrel
    by_cases hlt : k < n
    · obtain ⟨b, off, rfl, hcell⟩ := h.cell (by omega)
      have hc1 := cell_ext hb (hcell k hlt)
      obtain ⟨hml, hmg⟩ := memTo_len mark k
      obtain ⟨v, hv⟩ : ∃ v, Hid (u4 = v) := ⟨_, rfl⟩
      cases hp : pos (nth mark k) (memTo mark k) with
      | some j =>
        obtain ⟨l, hjl⟩ := pos_lt hp
        have hlk := lookup_fn keyI Try.underlying68 hM (nth mark k) zero3 true
        simp only [posI, hp, Option.map_some, Option.getD_some, Option.isSome_some, if_true] at hlk
        have hjv : j < vs.length := by rw [F.len]; simpa using (List.getElem?_eq_some_iff.1 hjl).1
        obtain ⟨g', n', c', w', g, nn, cc, e1, e2, e3, e4, e5, hrun, e6, e7, hF, hK⟩ := F.app (k := j) hsz (List.getElem?_eq_getElem hjv) (l := l) (by simp [hjl]) (by have := hmg _ (List.mem_of_getElem? hjl); simp at this; omega) k
        obtain ⟨hb2, hmap2⟩ := hK w.heap.size (by omega)
        have HF := Lib.hid hF
        have HB := Lib.hid hb2
        have HM : Hid (MapFn (w'.setCell ⟨g, j, none⟩ (.slice (some ⟨g', 0, none⟩) n' c')) w.heap.size vvI vvI (fun m => posI m (memTo mark (k + 1)))) := by
          obtain ⟨lm, cm, him, hgm⟩ := hM
          refine MapFn.congr (M := fun m => posI m (memTo mark k)) ⟨lm, cm, ⟨hmap2 _ _ him.heap (by intro cur e f h; cases h), him.tidy⟩, hgm⟩ fun m => ?_
          unfold posI
          rw [memTo_some hp, pos_modify _ _ (fun l => l ++ [(k : Int)])]
        have HE := Lib.hid (memTo_some hp)
        have HJ := Lib.hid hjl
        clear hF hb2 hmap2 hK F hM hml hmg hp hcell hv h hjl
        subst e1
        subst e3
        go_wp2_with (at_builtin; refine wpList_app hrun rfl rfl rfl rfl ?_)
        go_roundw
        case rel =>
          refine ⟨k + 1, _, by omega, by go_num, by rw [HE.out, map_modify2 HJ.out]; exact HF.out, HM.out, Below.trans hb HB.out, Nat.le_trans hsz (HB.out.size)⟩
        case measure => (simp [intOf]; omega)
      | none =>
        have hlk := lookup_fn keyI Try.underlying68 hM (nth mark k) zero3 true
        simp only [posI, hp, Option.map_none, Option.getD_none, Option.isSome_none, if_true] at hlk
        obtain ⟨gv, nv, cv, hv4⟩ : ∃ A nn cc, u4 = .slice A nn cc ∧ nn = vs.length := by
          rcases own_cells F.out with e | ⟨g, c, cur, e, _⟩
          · have h0 : vs.length = 0 := by
              rcases F.out.2 with ⟨_, h0⟩ | ⟨g, cap, cur, e', _⟩
              · exact h0
              · rw [e] at e'; cases e'
            exact ⟨none, 0, 0, e, h0.symm⟩
          · exact ⟨_, _, _, e, rfl⟩
        obtain ⟨rfl, hnv⟩ := hv4
        have hlen : nv = (memTo mark k).length := by rw [hnv, F.len]; simp
        obtain ⟨w1, hup, hM1, hg1, hs1⟩ := update_fn keyI Try.underlying68 hM (nth mark k) (nv : Int)
        have F1 := F.keep_map hg1 (by
          obtain ⟨lm, cm, him, _⟩ := hM
          intro cur e f hh; rw [him.heap] at hh; cases hh)
        obtain ⟨v2, w2, hrun2, F2, hg2⟩ := F1.push (by omega) (by simp; omega)
        have hnv2 : (vs ++ [Value.slice none 0 0])[nv]? = some (.slice none 0 0) := by rw [hnv]; simp
        have hng2 : ((memTo mark k).map (·.2) ++ [([] : List Int)])[nv]? = some [] := by rw [hlen]; simp
        have hsz2 : w.heap.size + 1 ≤ w2.heap.size := Nat.le_trans (by omega) hg2.size
        obtain ⟨g', n', c', w', g, nn, cc, e1, e2, e3, e4, e5, hrun, e6, e7, hF, hK⟩ := F2.app (k := nv) hsz2 hnv2 hng2 (by simp) k
        obtain ⟨hb2, hmap2⟩ := hK w.heap.size (by omega)
        have HM : Hid (MapFn (w'.setCell ⟨g, nv, none⟩ (.slice (some ⟨g', 0, none⟩) n' c')) w.heap.size vvI vvI (fun m => posI m (memTo mark (k + 1)))) := by
          obtain ⟨lm, cm, him, hgm⟩ := hM1
          have hh2 : w2.heap[w.heap.size]? = some (mapObj vvI vvI lm cm) := by
            rw [hg2.block _ (Array.getElem?_eq_some_iff.1 him.heap).1 (fun e => ?_)]
            · exact him.heap
            · obtain ⟨_, _, cu, hh⟩ := own_block F1.out e.symm
              rw [him.heap] at hh; cases hh
          refine MapFn.congr (M := fun m => if m = nth mark k then some (nv : Int) else posI m (memTo mark k)) ⟨lm, cm, ⟨hmap2 _ _ hh2 (by intro cur e f h; cases h), him.tidy⟩, hgm⟩ fun m => ?_
          unfold posI
          rw [memTo_none hp, pos_append_none hp]
          by_cases hm : m = nth mark k
          · simp [hm, hlen]
          · simp [hm]
        have hB2 : Below w.heap.size wr w2 := ((Below.refl _ _).grown hg1 (by omega) (fun b e => by cases e; exact Nat.le_refl _)).grown hg2 (by omega) (fun b e => by
          have := (own_block F1.out e).1
          omega)
        have HF := Lib.hid hF
        have HB := Lib.hid (hB2.trans hb2)
        have HE := Lib.hid (memTo_none hp)
        have HN := Lib.hid hnv
        have HS := Lib.hid (show ((memTo mark k).map (·.2) ++ [([] : List Int)]).set nv [(k : Int)] = (memTo mark k ++ [(nth mark k, [(k : Int)])]).map (·.2) by rw [hlen]; simp)
        clear hF hb2 hmap2 hK F hM hml hmg hp hcell hv h F1 F2 hM1 hg1 hg2 hB2 hnv2 hng2 hlen hnv hsz2 hs1
        subst e1
        have E3 := Lib.hid e3
        clear e3
        go_wp2_with (first | (at_builtin; refine wpList_app hrun2 rfl rfl rfl rfl ?_) | (at_builtin; refine wpList_app hrun rfl rfl rfl rfl ?_))
        go_roundw
        case rel =>
          refine ⟨k + 1, _, by omega, by go_num, by rw [HE.out, ← HS.out]; exact HF.out, HM.out, Below.trans hb HB.out, Nat.le_trans hsz (HB.out.size)⟩
        case measure => (simp [intOf]; omega)
    · obtain rfl : k = n := by omega
      go_wp2
      go_ret
      exact ⟨_, vs, rfl, F.base (Nat.le_succ _), hb⟩

end Go.Proofs.Ytiapdpbcnbgdmaa
