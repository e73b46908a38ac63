import Derived.Test.YtiapdpbcnbgdmaaM
set_option linter.unusedVariables false
set_option linter.unusedSimpArgs false
namespace Go.Proofs.Ytiapdpbcnbgdmaa
open Go.RowKit Go.ChangeMaps
/-! What an operation on a map does to the world. -/
section
variable {P : Program} {κ ν : Type} [DecidableEq κ] {kv : κ → Value} {vv : ν → Value} {kt et T : TypeId} {okk : κ → Prop}

def mapObj (kv : κ → Value) (vv : ν → Value) (l : Ents κ ν) (clock : Nat) : Obj := .map (l.map (mkE kv vv)).toArray clock
structure IsMap (w : World) (r : Nat) (kv : κ → Value) (vv : ν → Value) (l : Ents κ ν) (clock : Nat) : Prop where
  heap : w.heap[r]? = some (mapObj kv vv l clock)
  tidy : Tidy l clock
/-- A map, as a function. -/
def MapFn (w : World) (r : Nat) (kv : κ → Value) (vv : ν → Value) (M : κ → Option ν) : Prop := ∃ l clock, IsMap w r kv vv l clock ∧ ∀ k, getL l k = M k

omit [DecidableEq κ] in
theorem IsMap.same {w w' : World} {r : Nat} {l : Ents κ ν} {c : Nat} (h : IsMap w r kv vv l c) (e : w'.heap[r]? = w.heap[r]?) : IsMap w' r kv vv l c := ⟨e.trans h.heap, h.tidy⟩
theorem MapFn.same {w w' : World} {r : Nat} {M : κ → Option ν} (h : MapFn w r kv vv M) (e : w'.heap[r]? = w.heap[r]?) : MapFn w' r kv vv M :=
  let ⟨l, c, hm, hg⟩ := h; ⟨l, c, hm.same e, hg⟩
theorem MapFn.lt {w : World} {r : Nat} {M : κ → Option ν} (h : MapFn w r kv vv M) : r < w.heap.size := by
  obtain ⟨l, c, hm, _⟩ := h
  exact (Array.getElem?_eq_some_iff.1 hm.heap).1

theorem run_lookup {w : World} {r : Nat} {l : Ents κ ν} {c : Nat} (K : KeyT P kt kv okk) (hT : P.underlying T = some (.map kt et)) (h : IsMap w r kv vv l c) (k : κ) {z : Value} (hz : ∀ w, (zeroValue et).run P w = .ok z w) (ok : Bool) :
    (Instr.lookup T (.map (some r)) (kv k) ok).run P w = .ok (if ok then .tuple #[((getL l k).map vv).getD z, .bool (getL l k).isSome] else ((getL l k).map vv).getD z) w := by
  have hh := h.heap
  unfold mapObj at hh
  have hkf := K.find vv k l
  simp only [Instr.lookup, getObj, Sem.run_bind, run_underlying hT, Result.andThen_ok, Sem.run, hh, K.check, K.find]
  unfold getL
  cases hf : findL k l 0 with
  | none => cases ok <;> simp [hkf, hf, hz]
  | some x => cases ok <;> simp [hkf, hf]

theorem run_update {w : World} {r : Nat} {l : Ents κ ν} {c : Nat} (K : KeyT P kt kv okk) (hT : P.underlying T = some (.map kt et)) (h : IsMap w r kv vv l c) (k : κ) (v : ν) :
    (Instr.mapUpdate T (.map (some r)) (kv k) (vv v)).run P w = .ok () (setBlock w r (mapObj kv vv (putL l k v c) (clockL l k c))) := by
  have hh := h.heap
  unfold mapObj at hh
  have hkf := K.find vv k l
  have hset : ∀ o, (setObj r o).run P w = .ok () (setBlock w r o) := fun o => by simp [setObj, Sem.run, hh, setBlock]
  simp only [Instr.mapUpdate, getObj, Sem.run_bind, run_underlying hT, Result.andThen_ok, Sem.run, hh, K.check, List.toList_toArray, hkf]
  unfold putL clockL
  cases hf : findL k l 0 with
  | none =>
    simp only [Option.map_none, hset]
    congr 2
    simp [mapObj, mkE]
  | some x =>
    obtain ⟨j, e, h1, h2, h3, h4⟩ := findL_some hf
    have hj : j = x.1 := by omega
    subst hj
    simp only [Option.map_some]
    have hk : (((l.map (mkE kv vv))[x.1]?).map (·.key)).getD (kv k) = kv k := by simp [h2, mkE, h3]
    simp only [List.getElem?_toArray, hk, Instr.keyThatStays, K.bits, if_true, Sem.run_pure, Result.andThen_ok, Sem.run_bind, Sem.run, hset]
    congr 2
    unfold mapObj
    congr 1
    simp only [List.modify_toArray]
    congr 1
    apply List.ext_getElem?
    intro i
    simp only [List.getElem?_map, List.getElem?_modify]
    by_cases hi : x.1 = i
    · subst hi; simp [h2, mkE, h3]
    · simp only [hi, if_false]
      cases l[i]? <;> rfl

/-- 'm[k]' made ready for a store: behind it the key is there. -/
def entL (l : Ents κ ν) (k : κ) (z : ν) (clock : Nat) : Ents κ ν := match findL k l 0 with | some _ => l | none => l ++ [(k, z, clock)]
def stampL (l : Ents κ ν) (k : κ) (clock : Nat) : Nat := match findL k l 0 with | some x => ((l[x.1]?).map (·.2.2)).getD 0 | none => clock

theorem setBlock_same {w : World} {r : Nat} {o : Obj} (h : w.heap[r]? = some o) : setBlock w r o = w := by
  unfold setBlock
  have hr := (Array.getElem?_eq_some_iff.1 h).1
  have : w.heap.setIfInBounds r o = w.heap := by
    apply Array.ext_getElem?
    intro i
    rw [Array.getElem?_setIfInBounds]
    split
    · rename_i e; subst e; exact h.symm
    · rfl
  rw [this]

theorem run_entry {w : World} {r : Nat} {l : Ents κ ν} {c : Nat} (K : KeyT P kt kv okk) (hT : P.underlying T = some (.map kt et)) (h : IsMap w r kv vv l c) (k : κ) {z : ν} (hz : ∀ w, (zeroValue et).run P w = .ok (vv z) w) :
    (Instr.mapEntry T (.map (some r)) (kv k)).run P w = .ok (.tuple #[((getL l k).map vv).getD (vv z), goInt (stampL l k c)]) (setBlock w r (mapObj kv vv (entL l k z c) (clockL l k c))) := by
  have hh := h.heap
  have hh0 := hh
  unfold mapObj at hh
  have hkf := K.find vv k l
  have hset : ∀ o, (setObj r o).run P w = .ok () (setBlock w r o) := fun o => by simp [setObj, Sem.run, hh, setBlock]
  simp only [Instr.mapEntry, getObj, Sem.run_bind, run_underlying hT, Result.andThen_ok, Sem.run, hh, K.check, List.toList_toArray, hkf]
  unfold getL entL clockL stampL
  cases hf : findL k l 0 with
  | none =>
    simp only [Option.map_none, hset, Sem.run_bind, hz, Result.andThen_ok, Sem.run_pure]
    simp [mapObj, mkE]
  | some x =>
    obtain ⟨j, e, h1, h2, h3, h4⟩ := findL_some hf
    have hj : j = x.1 := by omega
    subst hj
    simp only [Option.map_some]
    have hk : (((l.map (mkE kv vv))[x.1]?).map (·.key)).getD (kv k) = kv k := by simp [h2, mkE, h3]
    have hb : (((l.map (mkE kv vv))[x.1]?).map (·.born)).getD 0 = ((l[x.1]?).map (·.2.2)).getD 0 := by simp [h2, mkE]
    have hm : (l.map (mkE kv vv)).modify x.1 (fun e => { e with key := kv k }) = l.map (mkE kv vv) := by
      apply List.ext_getElem?
      intro i
      simp only [List.getElem?_map, List.getElem?_modify]
      by_cases hi : x.1 = i
      · subst hi; simp [h2, mkE, h3]
      · simp only [hi, if_false]
        cases l[i]? <;> rfl
    simp only [List.getElem?_toArray, hk, hb, Instr.keyThatStays, K.bits, if_true, Sem.run_pure, Result.andThen_ok, Sem.run_bind, Sem.run, hset, List.modify_toArray, hm]
    simp [h2, mkE, mapObj]

theorem findL_entL (l : Ents κ ν) (k : κ) (z : ν) (c : Nat) : ∃ i e, (entL l k z c)[i]? = some e ∧ e.1 = k ∧ e.2.2 = stampL l k c ∧ findL k (entL l k z c) 0 = some (i, e.2.1) := by
  unfold entL stampL
  cases hf : findL k l 0 with
  | some x =>
    obtain ⟨j, e, h1, h2, h3, h4⟩ := findL_some hf
    have hj : j = x.1 := by omega
    subst hj
    exact ⟨x.1, e, h2, h3, by simp [h2], by rw [hf, h4]⟩
  | none =>
    refine ⟨l.length, (k, z, c), by simp, rfl, rfl, ?_⟩
    have h : ∀ (l : Ents κ ν) (i : Nat), findL k l i = none → findL k (l ++ [(k, z, c)]) i = some (i + l.length, z) := by
      intro l
      induction l with
      | nil => intro i _; simp [findL]
      | cons e l ih =>
        intro i hn
        unfold findL at hn
        split at hn
        · cases hn
        · rename_i hne
          rw [List.cons_append]
          unfold findL
          rw [if_neg hne, ih (i + 1) hn]
          simp [Nat.add_assoc, Nat.add_comm 1]
    have := h l 0 hf
    simpa using this

theorem entL_tidy {l : Ents κ ν} {c : Nat} (h : Tidy l c) (k : κ) (z : ν) : Tidy (entL l k z c) (clockL l k c) := by
  have := h.put k z
  unfold putL at this
  unfold entL
  unfold clockL at *
  cases hf : findL k l 0 with
  | some x => simpa using h
  | none => rw [hf] at this; exact this

theorem run_entryStore {w : World} {r : Nat} {l : Ents κ ν} {c : Nat} (k : κ) (v z : ν) (ht : Tidy l c) (h : w.heap[r]? = some (mapObj kv vv (entL l k z c) (clockL l k c))) :
    (Instr.entryStore T (.map (some r)) (goInt (stampL l k c)) (vv v)).run P w = .ok () (setBlock w r (mapObj kv vv (putL l k v c) (clockL l k c))) := by
  have hh := h
  unfold mapObj at hh
  have hset : ∀ o, (setObj r o).run P w = .ok () (setBlock w r o) := fun o => by simp [setObj, Sem.run, hh, setBlock]
  obtain ⟨i, e, h1, h2, h3, h4⟩ := findL_entL l k z c
  have ht' := entL_tidy ht k z
  have hfi : ((entL l k z c).map (mkE kv vv)).findIdx? (fun e => (e.born : Int) == (stampL l k c : Int)) = some i := by
    have hil : i < (entL l k z c).length := (List.getElem?_eq_some_iff.1 h1).1
    rw [List.findIdx?_eq_some_iff_getElem]
    refine ⟨by simpa using hil, ?_, fun j hj => ?_⟩
    · have : (entL l k z c)[i] = e := (List.getElem?_eq_some_iff.1 h1).2
      simp [mkE, this, h3]
    · have hne : ((entL l k z c)[j]'(by omega)).2.2 ≠ e.2.2 := fun he => by
        have hn := ht'.born
        have e1 : (entL l k z c)[i] = e := (List.getElem?_eq_some_iff.1 h1).2
        have := List.pairwise_iff_getElem.1 (List.nodup_iff_pairwise_ne.1 hn) j i (by simp; omega) (by simpa using hil) hj
        apply this
        simp [he, e1]
      simp [mkE]
      omega
  have hp : ((entL l k z c).map (mkE kv vv)).modify i (fun e => { e with val := vv v }) = (putL l k v c).map (mkE kv vv) := by
    have hpe : putL l k v c = (entL l k z c).modify i fun e => (e.1, v, e.2.2) := by
      unfold putL entL at *
      cases hf : findL k l 0 with
      | some x =>
        rw [hf] at h4
        simp only at h4
        rw [hf] at h4
        cases h4
        rfl
      | none =>
        rw [hf] at h1 h4
        simp only at h1 h4 ⊢
        have hil : i = l.length := by
          rcases Nat.lt_trichotomy i l.length with hlt | he | hgt
          · rw [List.getElem?_append_left hlt] at h1
            exact absurd h2.symm (findL_none hf e (List.mem_of_getElem? h1))
          · exact he
          · rw [List.getElem?_append_right (by omega)] at h1
            have : i - l.length = 0 := by
              rcases Nat.eq_zero_or_pos (i - l.length) with h | h
              · exact h
              · rw [List.getElem?_eq_none (by simp; omega)] at h1; cases h1
            omega
        subst hil
        apply List.ext_getElem?
        intro j
        rw [List.getElem?_modify]
        by_cases hj : l.length = j
        · subst hj; simp
        · simp only [hj, if_false]
          rcases Nat.lt_or_ge j l.length with h | h
          · rw [List.getElem?_append_left h, List.getElem?_append_left h]; cases l[j]? <;> rfl
          · rw [List.getElem?_append_right h, List.getElem?_append_right h]
            have : 0 < j - l.length := by omega
            rw [List.getElem?_eq_none (by simp; omega), List.getElem?_eq_none (by simp; omega)]; rfl
    rw [hpe]
    apply List.ext_getElem?
    intro j
    simp only [List.getElem?_map, List.getElem?_modify]
    by_cases hj : i = j
    · subst hj; simp [h1, mkE]
    · simp only [hj, if_false]
      cases (entL l k z c)[j]? <;> rfl
  have ha : (asInt (goInt (stampL l k c))).run P w = .ok (stampL l k c : Int) w := by simp [asInt, goInt, asIntOf]
  simp only [Instr.entryStore, getObj, Sem.run_bind, Sem.run, hh, Result.andThen_ok, ha, Sem.run_pure, List.findIdx?_toArray, hfi, hset, List.modify_toArray, hp]
  rfl

omit [DecidableEq κ] in
theorem heap_setBlock_self {w : World} {r : Nat} {o o' : Obj} (h : w.heap[r]? = some o) : (setBlock w r o').heap[r]? = some o' := by
  have := (Array.getElem?_eq_some_iff.1 h).1
  simp [setBlock, this]
omit [DecidableEq κ] in
theorem heap_setBlock_ne {w : World} {r b : Nat} {o : Obj} (h : r ≠ b) : (setBlock w r o).heap[b]? = w.heap[b]? := by simp [setBlock, h]
omit [DecidableEq κ] in
theorem grown_setBlock (w : World) (r : Nat) (o : Obj) : w.grownBy (setBlock w r o) (some r) :=
  ⟨rfl, rfl, rfl, by simp [setBlock], fun k hk hne => heap_setBlock_ne (fun e => hne (by rw [e]))⟩

theorem lookup_fn {w : World} {r : Nat} {M : κ → Option ν} (K : KeyT P kt kv okk) (hT : P.underlying T = some (.map kt et)) (h : MapFn w r kv vv M) (k : κ) {z : Value} (hz : ∀ w, (zeroValue et).run P w = .ok z w) (ok : Bool) :
    (Instr.lookup T (.map (some r)) (kv k) ok).run P w = .ok (if ok then .tuple #[((M k).map vv).getD z, .bool (M k).isSome] else ((M k).map vv).getD z) w := by
  obtain ⟨l, c, hm, hg⟩ := h
  rw [run_lookup K hT hm k hz ok, hg k]
theorem update_fn {w : World} {r : Nat} {M : κ → Option ν} (K : KeyT P kt kv okk) (hT : P.underlying T = some (.map kt et)) (h : MapFn w r kv vv M) (k : κ) (v : ν) :
    ∃ w', (Instr.mapUpdate T (.map (some r)) (kv k) (vv v)).run P w = .ok () w' ∧ MapFn w' r kv vv (fun k' => if k' = k then some v else M k') ∧ w.grownBy w' (some r) ∧ w'.heap.size = w.heap.size := by
  obtain ⟨l, c, hm, hg⟩ := h
  refine ⟨_, run_update K hT hm k v, ⟨_, _, ⟨heap_setBlock_self hm.heap, hm.tidy.put k v⟩, fun k' => ?_⟩, grown_setBlock _ _ _, by simp [setBlock]⟩
  rw [getL_put, hg]
theorem made_fn (w : World) (kv : κ → Value) (vv : ν → Value) : MapFn (w.alloc (.map #[] 0)) w.heap.size kv vv (fun _ => none) :=
  ⟨[], 0, ⟨heap_alloc_new w _, by simp, by simp, fun e he => by cases he⟩, fun k => rfl⟩
end
end Go.Proofs.Ytiapdpbcnbgdmaa
