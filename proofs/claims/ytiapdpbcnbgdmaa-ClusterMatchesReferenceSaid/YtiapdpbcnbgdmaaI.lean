import Derived.Test.YtiapdpbcnbgdmaaN
set_option linter.unusedVariables false
set_option linter.unusedSimpArgs false
namespace Go.Proofs.Ytiapdpbcnbgdmaa
open Go.RowKit Go.ChangeMaps
/-! Ranging over a map: whatever order the tape gives. -/
section
variable {P : Program} {κ ν : Type} [DecidableEq κ] {kv : κ → Value} {vv : ν → Value}

/-- Block it is an iterator over the map in block m, which reads as M; D k: the entry at k has come; c entries are to come. -/
def IterSt (w : World) (it m : Nat) (kv : κ → Value) (vv : ν → Value) (M : κ → Option ν) (D : κ → Prop) (c : Nat) : Prop :=
  ∃ l clock seen, IsMap w m kv vv l clock ∧ (∀ k, getL l k = M k) ∧ w.heap[it]? = some (.mapIter (some m) clock seen clock) ∧ (∀ e ∈ l, (e.2.2 ∈ seen ↔ D e.1)) ∧ (l.filter fun e => !seen.contains e.2.2).length = c

theorem IterSt.map {w : World} {it m : Nat} {M : κ → Option ν} {D : κ → Prop} {c : Nat} (h : IterSt w it m kv vv M D c) : MapFn w m kv vv M :=
  let ⟨l, clock, _, hm, hg, _⟩ := h; ⟨l, clock, hm, hg⟩
theorem IterSt.lt {w : World} {it m : Nat} {M : κ → Option ν} {D : κ → Prop} {c : Nat} (h : IterSt w it m kv vv M D c) : it < w.heap.size ∧ m < w.heap.size ∧ it ≠ m := by
  obtain ⟨l, clock, seen, hm, _, hi, _⟩ := h
  refine ⟨(Array.getElem?_eq_some_iff.1 hi).1, (Array.getElem?_eq_some_iff.1 hm.heap).1, fun e => ?_⟩
  have := hm.heap
  rw [← e, hi] at this
  simp [mapObj] at this
theorem IterSt.same {w w' : World} {it m : Nat} {M : κ → Option ν} {D : κ → Prop} {c : Nat} (h : IterSt w it m kv vv M D c) (e1 : w'.heap[it]? = w.heap[it]?) (e2 : w'.heap[m]? = w.heap[m]?) : IterSt w' it m kv vv M D c :=
  let ⟨l, clock, seen, hm, hg, hi, hd, hc⟩ := h; ⟨l, clock, seen, hm.same e2, hg, e1.trans hi, hd, hc⟩

theorem iter_start {w : World} {m : Nat} {M : κ → Option ν} {T kt et : TypeId} (hT : P.underlying T = some (.map kt et)) (h : MapFn w m kv vv M) :
    ∃ c, (Instr.range T (.map (some m))).run P w = .ok (.pointer (some ⟨w.heap.size, 0, none⟩)) (w.alloc (.mapIter (some m) c #[] c)) ∧ ∃ n, IterSt (w.alloc (.mapIter (some m) c #[] c)) w.heap.size m kv vv M (fun _ => False) n := by
  obtain ⟨l, clock, hm, hg⟩ := h
  have hh := hm.heap
  have hlt := (Array.getElem?_eq_some_iff.1 hh).1
  refine ⟨clock, ?_, _, l, clock, #[], hm.same (heap_alloc_old w _ hlt), hg, heap_alloc_new w _, fun e he => by simp, rfl⟩
  unfold mapObj at hh
  simp [Instr.range, run_underlying hT, getObj, hh, Sem.run]

omit [DecidableEq κ] in
theorem leftOf_map (l : Ents κ ν) (seen : Array Nat) : leftOf (l.map (mkE kv vv)).toArray seen = ((l.filter fun e => !seen.contains e.2.2).map (mkE kv vv)).toArray := by
  unfold leftOf
  simp only [List.filter_toArray, List.filter_map]
  rfl

theorem nodup_inj {α β : Type} {f : α → β} : ∀ {l : List α}, (l.map f).Nodup → ∀ {x y : α}, x ∈ l → y ∈ l → f x = f y → x = y
  | [], _, _, _, hx, _, _ => by cases hx
  | a :: l, hn, x, y, hx, hy, e => by
    simp only [List.map_cons, List.nodup_cons] at hn
    rcases List.mem_cons.1 hx with rfl | hx1
    · rcases List.mem_cons.1 hy with rfl | hy
      · rfl
      · exact absurd (show f x ∈ l.map f by rw [e]; exact List.mem_map_of_mem hy) hn.1
    · rcases List.mem_cons.1 hy with rfl | hy
      · exact absurd (show f y ∈ l.map f by rw [← e]; exact List.mem_map_of_mem hx1) hn.1
      · exact nodup_inj hn.2 hx1 hy e
theorem filter_ne_length {α : Type} {f : α → Nat} : ∀ {l : List α}, (l.map f).Nodup → ∀ {x : α}, x ∈ l → (l.filter fun e => !(f e == f x)).length + 1 = l.length
  | [], _, _, hx => by cases hx
  | a :: l, hn, x, hx => by
    simp only [List.map_cons, List.nodup_cons] at hn
    rcases List.mem_cons.1 hx with rfl | hx
    · have : l.filter (fun e => !(f e == f x)) = l := by
        rw [List.filter_eq_self]
        intro e he
        have : f e ≠ f x := fun h => hn.1 (by rw [← h]; exact List.mem_map_of_mem he)
        simp [this]
      simp [this]
    · have hne : f a ≠ f x := fun h => hn.1 (by rw [h]; exact List.mem_map_of_mem hx)
      have := filter_ne_length hn.2 hx
      simp [hne] at this ⊢
      omega
theorem nodup_filter {α : Type} {f : α → Nat} {p : α → Bool} {l : List α} (h : (l.map f).Nodup) : ((l.filter p).map f).Nodup :=
  List.Nodup.sublist (List.Sublist.map f (List.filter_sublist)) h

/-- One step: nothing is left; or one entry comes, whichever the tape says. -/
theorem iter_next {w : World} {it m : Nat} {M : κ → Option ν} {D : κ → Prop} {c : Nat} (h : IterSt w it m kv vv M D c) (ty : TypeId) :
    (c = 0 ∧ (∀ k v, M k = some v → D k) ∧ (Instr.next (.pointer (some ⟨it, 0, none⟩)) false ty).run P w = .ok (.tuple #[.bool false]) w) ∨
    ∃ k v w', M k = some v ∧ ¬ D k ∧ 0 < c ∧ (Instr.next (.pointer (some ⟨it, 0, none⟩)) false ty).run P w = .ok (.tuple #[.bool true, kv k, vv v]) w' ∧ IterSt w' it m kv vv M (fun k' => k' = k ∨ D k') (c - 1) ∧
      w.grownBy w' (some it) ∧ w'.heap.size = w.heap.size ∧ (Instr.entry (.pointer (some ⟨it, 0, none⟩))).run P w' = .ok (.tuple #[kv k, vv v]) w' := by
  have hne := h.lt.2.2
  obtain ⟨l, clock, seen, hm, hg, hi, hd, hc⟩ := h
  have hh := hm.heap
  have hold : ∀ x ∈ (l.map (mkE kv vv)).toArray.toList, x.born < clock := fun x hx => by
    simp at hx
    obtain ⟨a, b, s, he, rfl⟩ := hx
    exact hm.tidy.below _ he
  rcases run_next_at (P := P) w ty it m clock clock seen (l.map (mkE kv vv)).toArray clock hi hh hold (Nat.le_refl _) with ⟨h0, hrun⟩ | ⟨e, he, w1, hw1, hrun⟩
  · left
    rw [leftOf_map] at h0
    simp at h0
    have hall : ∀ x ∈ l, x.2.2 ∈ seen := fun x hx => h0 x.1 x.2.1 x.2.2 hx
    refine ⟨?_, fun k v hk => ?_, hrun⟩
    · rw [← hc, List.length_eq_zero_iff, List.filter_eq_nil_iff]
      intro x hx
      have := hall x hx
      simp [this]
    · obtain ⟨b, hb⟩ := getL_mem ((hg k).trans hk)
      exact (hd _ hb).1 (hall _ hb)
  · right
    rw [leftOf_map] at he
    simp only [List.mem_map, List.mem_filter] at he
    obtain ⟨x, ⟨hx, hxs⟩, rfl⟩ := he
    have hxs' : x.2.2 ∉ seen := by simpa using hxs
    have hgrow : w.grownBy w1 (some it) := by
      rcases hw1 with rfl | rfl
      · exact ⟨rfl, rfl, rfl, Nat.le_refl _, fun _ _ _ => rfl⟩
      · exact ⟨rfl, rfl, rfl, Nat.le_refl _, fun _ _ _ => rfl⟩
    have hsz : w1.heap.size = w.heap.size := by rcases hw1 with rfl | rfl <;> rfl
    have hm1 : w1.heap[m]? = w.heap[m]? := by rcases hw1 with rfl | rfl <;> rfl
    have hi1 : w1.heap[it]? = w.heap[it]? := by rcases hw1 with rfl | rfl <;> rfl
    have hmm : IsMap (setBlock w1 it (.mapIter (some m) clock (seen.push x.2.2) clock)) m kv vv l clock := hm.same ((heap_setBlock_ne hne).trans hm1)
    have hii : (setBlock w1 it (.mapIter (some m) clock (seen.push x.2.2) clock)).heap[it]? = some (.mapIter (some m) clock (seen.push x.2.2) clock) := heap_setBlock_self (hi1.trans hi)
    refine ⟨x.1, x.2.1, setBlock w1 it (.mapIter (some m) clock (seen.push x.2.2) clock), ?_, ?_, ?_, hrun, ⟨l, clock, seen.push x.2.2, hmm, hg, hii, fun e he => ?_, ?_⟩, ?_, by simp [setBlock, hsz], ?_⟩
    · rw [← hg, mem_getL hm.tidy.keys hx]
    · rw [← hd x hx]; exact hxs'
    · rw [← hc]
      exact List.length_pos_of_mem (List.mem_filter.2 ⟨hx, hxs⟩)
    · rw [Array.mem_push, hd e he]
      constructor
      · rintro (h | h)
        · exact .inr h
        · left
          have hb := hm.tidy.born
          rw [nodup_inj hb he hx h]
      · rintro (h | h)
        · right
          rw [nodup_inj hm.tidy.keys he hx h]
        · exact .inl h
    · have h1 : (l.filter fun e => !(seen.push x.2.2).contains e.2.2) = (l.filter fun e => !seen.contains e.2.2).filter fun e => !(e.2.2 == x.2.2) := by
        rw [List.filter_filter]
        refine List.filter_congr fun e he => ?_
        rw [Bool.eq_iff_iff]
        simp [Array.mem_push]
        constructor
        · rintro ⟨a, b⟩; exact ⟨b, a⟩
        · rintro ⟨a, b⟩; exact ⟨b, a⟩
      rw [h1]
      have := filter_ne_length (f := fun e : κ × ν × Nat => e.2.2) (nodup_filter (p := fun e => !seen.contains e.2.2) hm.tidy.born) (List.mem_filter.2 ⟨hx, hxs⟩)
      omega
    · exact ⟨hgrow.os, hgrow.tape, hgrow.output, by simp [setBlock, hsz], fun k hk hkn => (heap_setBlock_ne (fun e => hkn (by rw [e]))).trans (hgrow.block k hk hkn)⟩
    · exact run_entry_at _ it m clock seen (l.map (mkE kv vv)).toArray clock (mkE kv vv x) hii hmm.heap (by simp; exact ⟨x.1, x.2.1, x.2.2, hx, rfl⟩) (by
        have := hm.tidy.born
        rw [List.toList_toArray, List.map_map]
        exact this)
end
end Go.Proofs.Ytiapdpbcnbgdmaa
