import Derived.WalkKit
import Derived.Maps.RangeRun
set_option linter.unusedVariables false
set_option linter.unusedSimpArgs false
namespace Go.Proofs.Ytiapdpbcnbgdmaa
open Go.RowKit Go.ChangeMaps
/-! Maps as lists of entries in the order of their making: run-level laws. -/

def mkE {κ ν : Type} (kv : κ → Value) (vv : ν → Value) (e : κ × ν × Nat) : MapEntry := ⟨kv e.1, vv e.2.1, e.2.2⟩
def findL {κ ν : Type} [DecidableEq κ] (k : κ) : List (κ × ν × Nat) → Nat → Option (Nat × ν)
  | [], _ => none
  | e :: l, i => if k = e.1 then some (i, e.2.1) else findL k l (i + 1)
def getL {κ ν : Type} [DecidableEq κ] (l : List (κ × ν × Nat)) (k : κ) : Option ν := (findL k l 0).map (·.2)

/-- What is asked of a key's type. -/
structure KeyT (P : Program) (kt : TypeId) {κ : Type} [DecidableEq κ] (kv : κ → Value) (ok : κ → Prop) : Prop where
  check : ∀ b k w, (Instr.checkKey b 10000 kt (kv k)).run P w = .ok () w
  find : ∀ {ν : Type} (vv : ν → Value) (k : κ) (l : List (κ × ν × Nat)) (w : World), (Instr.findKey kt (kv k) (l.map (mkE kv vv))).run P w = .ok ((findL k l 0).map fun x => (x.1, vv x.2)) w
  bits : ∀ k, Instr.sameBits 10000 (kv k) (kv k) = true

theorem findL_shift {κ ν : Type} [DecidableEq κ] (k : κ) (l : List (κ × ν × Nat)) (i : Nat) : findL k l i = (findL k l 0).map fun x => (x.1 + i, x.2) := by
  induction l generalizing i with
  | nil => rfl
  | cons e l ih =>
    unfold findL
    split
    · simp
    · rw [ih (i + 1), ih 1]
      cases findL k l 0 <;> simp [Nat.add_assoc, Nat.add_comm 1 i]

theorem keyT_int {P : Program} {kt : TypeId} (hu : P.underlying kt = some (.int .i64)) : KeyT P kt (fun k : Int => Value.int .i64 k) (fun _ => True) := by
  refine ⟨fun b k w => ?_, fun vv k l w => ?_, fun k => ?_⟩
  · rw [show (10000 : Nat) = 9999 + 1 from rfl, Instr.checkKey]
    simp only [Sem.run_bind, run_underlying hu, Result.andThen_ok, Sem.run_pure]
  · have h : ∀ (l : List (Int × _ × Nat)) (i : Nat), Instr.findNow (.int .i64) (.int .i64 k) (l.map (mkE (fun k : Int => Value.int .i64 k) vv)) i = some ((findL k l i).map fun x => (x.1, vv x.2)) := by
      intro l
      induction l with
      | nil => intro i; rfl
      | cons e l ih =>
        intro i
        simp only [List.map_cons, Instr.findNow, mkE, Instr.sameNow, if_true, findL]
        by_cases h : k = e.1
        · simp [h]
        · simp only [beq_eq_false_iff_ne.2 h, if_neg h]
          exact ih (i + 1)
    simp [Instr.findKey, run_underlying hu, h]
  · simp [Instr.sameBits]

theorem keyT_pair {P : Program} {kt et : TypeId} (hu : P.underlying kt = some (.array 2 et)) (he : P.underlying et = some (.int .i64)) (hs : ∀ w, (sizeOf et).run P w = .ok 1 w) (ha : ∀ w, (isAgg et).run P w = .ok false w) :
    KeyT P kt (fun k : Int × Int => Value.agg #[.int .i64 k.1, .int .i64 k.2]) (fun _ => True) := by
  have hp0 : ∀ (x y : Value) w, (part et #[x, y] 0).run P w = .ok x w := fun x y w => by simp [part, Sem.run_bind, ha, hs]
  have hp1 : ∀ (x y : Value) w, (part et #[x, y] 1).run P w = .ok y w := fun x y w => by simp [part, Sem.run_bind, ha, hs]
  have heq : ∀ (n : Nat) (a b c d : Int) (w : World), (Op.equalIn (n + 2) kt (.agg #[.int .i64 a, .int .i64 b]) (.agg #[.int .i64 c, .int .i64 d])).run P w = .ok (decide (a = c ∧ b = d)) w := by
    intro n a b c d w
    rw [Op.equalIn]
    simp only [Sem.run_bind, run_underlying hu, Result.andThen_ok, hs]
    simp [List.range', hp0, hp1, Op.equalIn, run_underlying he]
    by_cases h1 : a = c
    · by_cases h2 : b = d
      · simp [h1, h2]
      · simp [h1, h2]
    · simp [h1]
  refine ⟨fun b k w => ?_, fun vv k l w => ?_, fun k => ?_⟩
  · rw [show (10000 : Nat) = 9998 + 1 + 1 from rfl, Instr.checkKey]
    have hc : ∀ (x : Int) w, (Instr.checkKey b (9998 + 1) et (.int .i64 x)).run P w = .ok () w := fun x w => by
      rw [Instr.checkKey]
      simp only [Sem.run_bind, run_underlying he, Result.andThen_ok, Sem.run_pure]
    generalize 9998 + 1 = N at hc
    simp only [Sem.run_bind, run_underlying hu, Result.andThen_ok, hs]
    simp [List.range', hp0, hp1, hc, hs]
  · have h : ∀ (l : List ((Int × Int) × _ × Nat)) (i : Nat), (Instr.findAsking kt (.agg #[.int .i64 k.1, .int .i64 k.2]) (l.map (mkE (fun k : Int × Int => Value.agg #[.int .i64 k.1, .int .i64 k.2]) vv)) i).run P w = .ok ((findL k l i).map fun x => (x.1, vv x.2)) w := by
      intro l
      induction l with
      | nil => intro i; simp [Instr.findAsking, findL]
      | cons e l ih =>
        intro i
        simp only [List.map_cons, Instr.findAsking, mkE, findL, Op.equal, Op.maxDepth]
        rw [show (10000 : Nat) = 9998 + 2 from rfl]
        simp only [Sem.run_bind, heq, Result.andThen_ok]
        by_cases h : k = e.1
        · simp [h]
        · have h' : ¬ (k.1 = e.1.1 ∧ k.2 = e.1.2) := fun h' => h (Prod.ext h'.1 h'.2)
          simp only [h, h', decide_false, Bool.false_eq_true, if_false]
          exact ih (i + 1)
    cases l with
    | nil => simp [Instr.findKey, run_underlying hu, Instr.findNow, findL]
    | cons e l =>
      have h0 := h (e :: l) 0
      simp only [List.map_cons] at h0
      simp only [Instr.findKey, Sem.run_bind, run_underlying hu, Result.andThen_ok, List.map_cons, Instr.findNow, mkE, Instr.sameNow]
      exact h0
  · rw [show (10000 : Nat) = 9998 + 1 + 1 from rfl]
    simp [Instr.sameBits]

/-! The entries as data. -/
section
variable {κ ν : Type} [DecidableEq κ]
abbrev Ents (κ ν : Type) := List (κ × ν × Nat)
/-- no key twice; the stamps rise and lie below the clock -/
structure Tidy (l : Ents κ ν) (clock : Nat) : Prop where
  keys : (l.map (·.1)).Nodup
  born : (l.map (·.2.2)).Nodup
  below : ∀ e ∈ l, e.2.2 < clock
def putL (l : Ents κ ν) (k : κ) (v : ν) (clock : Nat) : Ents κ ν :=
  match findL k l 0 with
  | some (i, _) => l.modify i fun e => (e.1, v, e.2.2)
  | none => l ++ [(k, v, clock)]
def clockL (l : Ents κ ν) (k : κ) (clock : Nat) : Nat := match findL k l 0 with | some _ => clock | none => clock + 1

theorem findL_none {k : κ} {l : Ents κ ν} {i : Nat} (h : findL k l i = none) : ∀ e ∈ l, k ≠ e.1 := by
  induction l generalizing i with
  | nil => intro e he; cases he
  | cons x l ih =>
    unfold findL at h
    split at h
    · cases h
    · rename_i hx
      intro e he
      rcases List.mem_cons.1 he with rfl | he
      · exact hx
      · exact ih h e he
theorem findL_some {k : κ} {l : Ents κ ν} {i : Nat} {x : Nat × ν} (h : findL k l i = some x) : ∃ j e, x.1 = i + j ∧ l[j]? = some e ∧ e.1 = k ∧ e.2.1 = x.2 := by
  induction l generalizing i with
  | nil => cases h
  | cons y l ih =>
    unfold findL at h
    split at h
    · rename_i hy
      cases h
      exact ⟨0, y, rfl, rfl, hy.symm, rfl⟩
    · obtain ⟨j, e, h1, h2, h3, h4⟩ := ih h
      exact ⟨j + 1, e, by omega, by simpa using h2, h3, h4⟩
theorem getL_cons (k : κ) (e : κ × ν × Nat) (l : Ents κ ν) : getL (e :: l) k = if k = e.1 then some e.2.1 else getL l k := by
  show ((if k = e.1 then some (0, e.2.1) else findL k l 1).map (·.2)) = _
  split
  · rfl
  · rw [findL_shift, Option.map_map]
    rfl
theorem getL_nil (k : κ) : getL ([] : Ents κ ν) k = none := rfl
theorem getL_append (l : Ents κ ν) (e : κ × ν × Nat) (k : κ) : getL (l ++ [e]) k = (getL l k).or (if k = e.1 then some e.2.1 else none) := by
  induction l with
  | nil => rw [List.nil_append, getL_cons, getL_nil]; split <;> rfl
  | cons x l ih => rw [List.cons_append, getL_cons, getL_cons, ih]; split <;> rfl
theorem getL_eq_none {l : Ents κ ν} {k : κ} : getL l k = none ↔ k ∉ l.map (·.1) := by
  induction l with
  | nil => simp [getL_nil]
  | cons x l ih => rw [getL_cons]; by_cases h : k = x.1 <;> simp [h, ih]
theorem getL_mem {l : Ents κ ν} {k : κ} {v : ν} (h : getL l k = some v) : ∃ b, (k, v, b) ∈ l := by
  induction l with
  | nil => cases h
  | cons x l ih =>
    rw [getL_cons] at h
    split at h
    · rename_i hk
      cases h
      exact ⟨x.2.2, by rw [hk]; exact List.mem_cons_self⟩
    · obtain ⟨b, hb⟩ := ih h
      exact ⟨b, List.mem_cons_of_mem _ hb⟩
theorem mem_getL {l : Ents κ ν} (hn : (l.map (·.1)).Nodup) {e : κ × ν × Nat} (he : e ∈ l) : getL l e.1 = some e.2.1 := by
  induction l with
  | nil => cases he
  | cons x l ih =>
    rw [getL_cons]
    simp only [List.map_cons, List.nodup_cons] at hn
    rcases List.mem_cons.1 he with rfl | he
    · rw [if_pos rfl]
    · rw [if_neg (show ¬ e.1 = x.1 from fun h => hn.1 (by rw [← h]; exact List.mem_map_of_mem he))]
      exact ih hn.2 he
theorem getL_modify {l : Ents κ ν} {k : κ} {v : ν} : ∀ {i : Nat} {x : ν}, findL k l 0 = some (i, x) → ∀ k', getL (l.modify i fun e => (e.1, v, e.2.2)) k' = if k' = k then some v else getL l k' := by
  induction l with
  | nil => intro i x h; cases h
  | cons y l ih =>
    intro i x h k'
    unfold findL at h
    split at h
    · rename_i hy
      cases h
      simp only [List.modify_zero_cons]
      rw [getL_cons, getL_cons]
      subst hy
      by_cases h2 : k' = y.1 <;> simp [h2]
    · rename_i hy
      rw [findL_shift] at h
      cases hf : findL k l 0 with
      | none => rw [hf] at h; cases h
      | some z =>
        rw [hf] at h
        simp only [Option.map_some, Option.some.injEq, Prod.mk.injEq] at h
        obtain ⟨rfl, rfl⟩ := h
        simp only [List.modify_succ_cons]
        rw [getL_cons, getL_cons, ih hf]
        by_cases h2 : k' = y.1
        · rw [if_pos h2, if_pos h2, if_neg (show ¬ k' = k from fun h3 => hy (h3.symm.trans h2))]
        · rw [if_neg h2, if_neg h2]
theorem getL_put (l : Ents κ ν) (k : κ) (v : ν) (clock : Nat) (k' : κ) : getL (putL l k v clock) k' = if k' = k then some v else getL l k' := by
  unfold putL
  cases h : findL k l 0 with
  | some x => exact getL_modify h k'
  | none =>
    simp only
    rw [getL_append]
    by_cases h2 : k' = k
    · subst h2
      have : getL l k' = none := by unfold getL; rw [h]; rfl
      simp [this]
    · simp only [h2, if_false]
      cases getL l k' <;> rfl
omit [DecidableEq κ] in
theorem keys_modify (l : Ents κ ν) (i : Nat) (v : ν) : (l.modify i fun e => (e.1, v, e.2.2)).map (·.1) = l.map (·.1) := by
  induction l generalizing i with
  | nil => simp
  | cons x l ih => cases i <;> simp [ih]
omit [DecidableEq κ] in
theorem born_modify (l : Ents κ ν) (i : Nat) (v : ν) : (l.modify i fun e => (e.1, v, e.2.2)).map (·.2.2) = l.map (·.2.2) := by
  induction l generalizing i with
  | nil => simp
  | cons x l ih => cases i <;> simp [ih]
omit [DecidableEq κ] in
theorem Tidy.iff {l : Ents κ ν} {c : Nat} : Tidy l c ↔ (l.map (·.1)).Nodup ∧ (l.map (·.2.2)).Nodup ∧ ∀ b ∈ l.map (·.2.2), b < c :=
  ⟨fun h => ⟨h.keys, h.born, fun b hb => by obtain ⟨e, he, rfl⟩ := List.mem_map.1 hb; exact h.below e he⟩, fun h => ⟨h.1, h.2.1, fun e he => h.2.2 _ (List.mem_map_of_mem he)⟩⟩
theorem Tidy.put {l : Ents κ ν} {clock : Nat} (h : Tidy l clock) (k : κ) (v : ν) : Tidy (putL l k v clock) (clockL l k clock) := by
  rw [Tidy.iff] at *
  unfold putL clockL
  cases hf : findL k l 0 with
  | some x => simp only; rw [keys_modify, born_modify]; exact h
  | none =>
    simp only [List.map_append, List.map_cons, List.map_nil]
    refine ⟨?_, ?_, fun b hb => ?_⟩
    · rw [List.nodup_append]
      refine ⟨h.1, by simp, fun a ha b hb => ?_⟩
      obtain ⟨e, he, rfl⟩ := List.mem_map.1 ha
      simp at hb
      subst hb
      exact (findL_none hf e he).symm
    · rw [List.nodup_append]
      refine ⟨h.2.1, by simp, fun a ha b hb => ?_⟩
      simp at hb
      subst hb
      have := h.2.2 a ha
      omega
    · rcases List.mem_append.1 hb with hb | hb
      · have := h.2.2 b hb; omega
      · simp at hb; omega
end
end Go.Proofs.Ytiapdpbcnbgdmaa
