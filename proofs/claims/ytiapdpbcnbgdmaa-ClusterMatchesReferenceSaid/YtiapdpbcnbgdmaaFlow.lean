import Derived.WalkKit
set_option linter.unusedVariables false
set_option linter.unusedSimpArgs false
namespace Go.Proofs.Ytiapdpbcnbgdmaa
/-! A region that draws its order: its first n operations each give one value, whatever world of a class they meet, and leave a world of the class; the others come behind all, in turn. The values flow along the edges: so the order plays no part. -/
section
variable {P : Program} {ops : Array Oper} {C : Nat → World → Prop} {ms : List Nat}

def flowUpon (P : Program) (C : World → Prop) (v : Value) : Result Next → Prop
  | .ok (.value u) w' => C w' ∧ u = v
  | .ok .skip w' => C w' ∧ v = undef
  | .ok (.enter f args) w' => Calls P f args w' (fun e w'' => e = .returned v ∧ C w'')
  | _ => False

/-- An operation of the head: it keeps each class; the one with the k-th mark leads from the k-th to the next. -/
def flowOp (P : Program) (ops : Array Oper) (C : Nat → World → Prop) (m : Option Nat) (o : Oper) (v : Value) (a : Act) : Prop :=
  (Region.wanted o (yielded ops a.tmps) = true ∧ match m with
    | none => ∀ b w, C b w → flowUpon P (C b) v ((execOp a.eval o).run P w)
    | some k => ∀ w, C k w → flowUpon P (C (k + 1)) v ((execOp a.eval o).run P w)) ∨ (Region.wanted o (yielded ops a.tmps) = false ∧ m = none ∧ v = undef)

def wpFlow (P : Program) (ops : Array Oper) (C : Nat → World → Prop) (ms : List Nat) (Q : Act → Prop) : Nat → List Oper → Act → Prop
  | _, [], a => Q a
  | k, o :: rest, a => ∃ v, flowOp P ops C (ms.idxOf? k) o v a ∧ wpFlow P ops C ms Q (k + 1) rest (a.put o.dst v)

def waits (o : Oper) (j : Nat) : Bool := o.after.any fun e => Region.binds .any e && e.on == j
def dstAt (ops : Array Oper) (j : Nat) : Option Tmp := (ops[j]?).bind (·.dst)
def sees (ops : Array Oper) (n : Nat) (o : Oper) : Bool :=
  (List.range n).all fun j => match dstAt ops j with
    | some t => !(o.looksAt ops).contains t || waits o j
    | none => true
def flowAt (ops : Array Oper) (n i : Nat) : Bool := match ops[i]? with
  | some o => o.after.all (fun e => !Region.binds .any e || decide (e.on < i)) &&
      (if i < n then sees ops n o && (List.range n).all (fun j => j == i || dstAt ops j == none || dstAt ops j != dstAt ops i)
       else (List.range i).all (waits o))
  | none => true
def marksB (ops : Array Oper) (n : Nat) : List Nat → Bool
  | [] => true
  | [i] => decide (i < n)
  | i :: j :: ms => decide (i < n) && decide (i < j) && (match ops[j]? with | some o => waits o i | none => false) && marksB ops n (j :: ms)
def flowB (ops : Array Oper) (n : Nat) : Bool := Region.noSelect ops && decide (n ≤ ops.size) && (List.range ops.size).all (flowAt ops n)

theorem eval_congr {a a' : Act} {x : Operand} (h : ∀ t, x = .tmp t → a.tmps[t]? = a'.tmps[t]?) : a.eval x = a'.eval x := by
  cases x with
  | tmp t =>
    have := h t rfl
    simp only [Act.eval, Array.getD_eq_getD_getElem?, this]
  | const v => rfl
  | global g => rfl
  | func f => rfl

theorem wanted_congr {a a' : Act} {o : Oper} (h : ∀ t, t ∈ o.looksAt ops → a.tmps[t]? = a'.tmps[t]?) : Region.wanted o (yielded ops a.tmps) = Region.wanted o (yielded ops a'.tmps) := by
  unfold Region.wanted
  cases hg : o.guard with
  | none => rfl
  | some gw =>
    obtain ⟨g, want⟩ := gw
    have hy : yielded ops a.tmps g = yielded ops a'.tmps g := by
      unfold yielded
      cases ht : (ops[g]?).bind (·.dst) with
      | none => rfl
      | some t =>
        have := h t (by simp [Oper.looksAt, hg, ht])
        simp [this]
    simp only [hy]

theorem exec_congr {a a' : Act} {o : Oper} (hs : ∀ cs b, o.op ≠ .select cs b) (h : ∀ t, t ∈ o.looksAt ops → a.tmps[t]? = a'.tmps[t]?) : execOp a.eval o = execOp a'.eval o :=
  execOp_congr o hs fun x hx => eval_congr fun t ht => h t (List.mem_append_left _ (List.mem_filterMap.2 ⟨x, by simpa using hx, by subst ht; rfl⟩))

theorem flowOp_congr {m : Option Nat} {a a' : Act} {o : Oper} {v : Value} (hs : ∀ cs b, o.op ≠ .select cs b) (h : ∀ t, t ∈ o.looksAt ops → a.tmps[t]? = a'.tmps[t]?) (hf : flowOp P ops C m o v a) : flowOp P ops C m o v a' := by
  unfold flowOp at *
  rwa [← exec_congr hs h, ← wanted_congr h]

structure FlowB (ops : Array Oper) (n : Nat) : Prop where
  sel : ∀ (j : Nat) (o : Oper) cs b, ops[j]? = some o → o.op ≠ .select cs b
  le : n ≤ ops.size
  low : ∀ i o, ops[i]? = some o → ∀ e ∈ o.after, Region.binds .any e = true → e.on < i
  see : ∀ i o, ops[i]? = some o → i < n → ∀ j t, j < n → dstAt ops j = some t → t ∈ o.looksAt ops → ∃ e ∈ o.after, Region.binds .any e = true ∧ e.on = j
  dst : ∀ i j t, i < n → j < n → dstAt ops i = some t → dstAt ops j = some t → i = j
  tail : ∀ i o, ops[i]? = some o → n ≤ i → ∀ j, j < i → ∃ e ∈ o.after, Region.binds .any e = true ∧ e.on = j

theorem waits_spec {o : Oper} {j : Nat} (h : waits o j = true) : ∃ e ∈ o.after, Region.binds .any e = true ∧ e.on = j := by
  obtain ⟨e, he, hb⟩ := Array.any_eq_true'.1 h
  simp only [Bool.and_eq_true, beq_iff_eq] at hb
  exact ⟨e, he, hb.1, hb.2⟩

theorem flowB_spec {n : Nat} (h : flowB ops n = true) : FlowB ops n := by
  simp only [flowB, Bool.and_eq_true, decide_eq_true_eq] at h
  obtain ⟨⟨h1, h2⟩, h3⟩ := h
  have hall : ∀ i o, ops[i]? = some o → flowAt ops n i = true := fun i o ho => List.all_eq_true.1 h3 i (List.mem_range.2 (Array.getElem?_eq_some_iff.1 ho).1)
  have hdst : ∀ j t, dstAt ops j = some t → j < ops.size := fun j t hj => by
    unfold dstAt at hj
    rcases Nat.lt_or_ge j ops.size with h | h
    · exact h
    · rw [Array.getElem?_eq_none h] at hj; cases hj
  refine ⟨Region.noSelect_spec h1, h2, fun i o ho e he hb => ?_, fun i o ho hi j t hjn hj ht => ?_, fun i j t hi hj hti htj => ?_, fun i o ho hi j hj => ?_⟩
  · have := hall i o ho
    unfold flowAt at this
    rw [ho] at this
    simp only [Bool.and_eq_true] at this
    have := Array.all_eq_true_iff_forall_mem.1 this.1 e he
    simpa [hb] using this
  · have := hall i o ho
    unfold flowAt at this
    rw [ho] at this
    simp only [Bool.and_eq_true, if_pos hi] at this
    have h4 := List.all_eq_true.1 this.2.1 j (List.mem_range.2 hjn)
    rw [hj] at h4
    simp only [Bool.or_eq_true, Bool.not_eq_true'] at h4
    rcases h4 with h4 | h4
    · exact absurd ht (by simpa using h4)
    · exact waits_spec h4
  · obtain ⟨o, ho⟩ : ∃ o, ops[i]? = some o := by
      have := hdst i t hti
      exact ⟨_, Array.getElem?_eq_getElem this⟩
    have := hall i o ho
    unfold flowAt at this
    rw [ho] at this
    simp only [Bool.and_eq_true, if_pos hi] at this
    have h4 := List.all_eq_true.1 this.2.2 j (List.mem_range.2 hj)
    rw [htj, hti] at h4
    simp at h4
    exact h4.symm
  · have := hall i o ho
    unfold flowAt at this
    rw [ho] at this
    simp only [Bool.and_eq_true, if_neg (Nat.not_lt.2 hi)] at this
    exact waits_spec (List.all_eq_true.1 this.2 j (List.mem_range.2 hj))

/-- The frame at the end of the head, and the values. -/
structure Ends (P : Program) (ops : Array Oper) (C : Nat → World → Prop) (ms : List Nat) (k n : Nat) (a A : Act) (vs : Nat → Value) : Prop where
  defers : A.defers = a.defers
  size : A.tmps.size = a.tmps.size
  flow : ∀ i o, k ≤ i → i < n → ops[i]? = some o → flowOp P ops C (ms.idxOf? i) o (vs i) A
  here : ∀ i t, k ≤ i → i < n → dstAt ops i = some t → t < a.tmps.size → A.tmps[t]? = some (vs i)
  there : ∀ t, (∀ i, k ≤ i → i < n → dstAt ops i ≠ some t) → A.tmps[t]? = a.tmps[t]?

theorem put_defers (a : Act) (d : Option Tmp) (v : Value) : (a.put d v).defers = a.defers := by cases d <;> rfl
theorem put_size (a : Act) (d : Option Tmp) (v : Value) : (a.put d v).tmps.size = a.tmps.size := by cases d <;> simp [Act.put]
theorem put_at (a : Act) (d : Option Tmp) (v : Value) (t : Nat) : (a.put d v).tmps[t]? = if d = some t then (if t < a.tmps.size then some v else none) else a.tmps[t]? := by
  cases d with
  | none => simp [Act.put]
  | some d =>
    simp only [Act.put, Option.some.injEq]
    rw [Array.getElem?_setIfInBounds]
    split
    · rename_i h; subst h; simp
    · rfl

theorem ends_of {n : Nat} (hB : FlowB ops n) {Q : Act → Prop} : ∀ (l : List Oper) (k : Nat) (a : Act), k + l.length = n → (∀ j, j < l.length → l[j]? = ops[k + j]?) → wpFlow P ops C ms Q k l a →
    ∃ A vs, Ends P ops C ms k n a A vs ∧ Q A
  | [], k, a, hk, _, h => by
    have hk : k = n := by simpa using hk
    subst hk
    exact ⟨a, fun _ => undef, ⟨rfl, rfl, fun i o h1 h2 => absurd h1 (by omega), fun i t h1 h2 => absurd h1 (by omega), fun t _ => rfl⟩, h⟩
  | o :: l, k, a, hk, hl, ⟨v, hv, h⟩ => by
    have h0 : ops[k]? = some o := by simpa using (hl 0 (by simp)).symm
    have hd0 : dstAt ops k = o.dst := by unfold dstAt; rw [h0]; rfl
    simp only [List.length_cons] at hk
    obtain ⟨A, vs, E, hQ⟩ := ends_of hB l (k + 1) (a.put o.dst v) (by omega) (fun j hj => by have := hl (j + 1) (by simp; omega); simpa [Nat.add_assoc, Nat.add_comm 1 j] using this) h
    refine ⟨A, fun i => if i = k then v else vs i, ⟨E.defers.trans (put_defers _ _ _), E.size.trans (put_size _ _ _), fun i o' h1 h2 ho => ?_, fun i t h1 h2 hd ht => ?_, fun t ht => ?_⟩, hQ⟩
    · by_cases e : i = k
      · subst e
        obtain rfl : o = o' := Option.some.inj (h0.symm.trans ho)
        rw [if_pos rfl]
        refine flowOp_congr (hB.sel i o · · h0) (fun t ht => ?_) hv
        have hno : ∀ j, i ≤ j → j < n → dstAt ops j ≠ some t := fun j hj hjn hjt => by
          obtain ⟨e, he, hb, hon⟩ := hB.see i o h0 h2 j t hjn hjt ht
          have := hB.low i o h0 e he hb
          omega
        rw [E.there t (fun j hj hjn => hno j (by omega) hjn), put_at, if_neg (fun h => hno i (Nat.le_refl _) h2 (hd0.trans h))]
      · rw [if_neg e]
        exact E.flow i o' (by omega) h2 ho
    · by_cases e : i = k
      · subst e
        rw [if_pos rfl, E.there t (fun j hj hjn hjt => by have := hB.dst i j t h2 hjn hd hjt; omega), put_at, if_pos (hd0.symm.trans hd), if_pos ht]
      · rw [if_neg e]
        exact E.here i t (by omega) h2 hd (by rw [put_size]; exact ht)
    · rw [E.there t (fun j hj hjn => ht j (by omega) hjn), put_at, if_neg (fun h => ht k (Nat.le_refl _) (by omega) (hd0.trans h))]

/-- How far a drawn walk has come. -/
def FlowSt (P : Program) (ops : Array Oper) (C : Nat → World → Prop) (ms : List Nat) (Q : Exit → Act → World → Prop) (n : Nat) (a0 A : Act) (listed : Array Bool) (a : Act) (w : World) : Prop :=
  ((∃ k, k ≤ ms.length ∧ (∀ (j i : Nat), ms[j]? = some i → listed.getD i false = decide (j < k)) ∧ C k w) ∧ a.tmps.size = a0.tmps.size ∧ a.defers = a0.defers ∧ (∀ t, n ≤ t → t < ops.size → listed.getD t true = false) ∧
    ∀ t, ((∃ i, i < n ∧ listed.getD i false = true ∧ dstAt ops i = some t) → a.tmps[t]? = A.tmps[t]?) ∧ ((¬ ∃ i, i < n ∧ listed.getD i false = true ∧ dstAt ops i = some t) → a.tmps[t]? = a0.tmps[t]?)) ∨
  (∃ m, n ≤ m ∧ (∀ j, j < ops.size → listed.getD j false = decide (j < m)) ∧ wpList P ops Q (ops.toList.drop m) a w)

theorem getD_flip {listed : Array Bool} {i : Nat} (hi : i < listed.size) : listed.getD i true = listed.getD i false := by simp [hi]

def unl (ops : Array Oper) (listed : Array Bool) : Nat := ((List.range ops.size).filter fun i => !listed.getD i true).length

theorem unl_set {listed : Array Bool} {i : Nat} (hs : listed.size = ops.size) (hi : i < ops.size) (h : listed.getD i true = false) : unl ops (listed.setIfInBounds i true) + 1 ≤ unl ops listed := by
  unfold unl
  have hp : ∀ j ∈ List.range ops.size, (!(listed.setIfInBounds i true).getD j true) = (!(j == i) && !listed.getD j true) := fun j hj => by
    have hj' : j < listed.size := by rw [hs]; exact List.mem_range.1 hj
    by_cases e : i = j
    · subst e; simp [hj']
    · have e' : (j == i) = false := by simp [Ne.symm e]
      rw [e']
      simp [e]
  rw [List.filter_congr hp, ← List.filter_filter]
  have hn : (List.range ops.size).Nodup := List.nodup_range
  have hm : i ∈ (List.range ops.size).filter fun j => !listed.getD j true := List.mem_filter.2 ⟨List.mem_range.2 hi, by simp [h]⟩
  have hlt := List.length_filter_lt_length_iff_exists (p := fun j => !(j == i)) (l := (List.range ops.size).filter fun j => !listed.getD j true) |>.2 ⟨i, hm, by simp⟩
  omega

theorem flow_run {o : Oper} {v : Value} {a : Act} {K : Act → World → Prop} {Q : Exit → Act → World → Prop} {i : Nat} {w : World} {C' : World → Prop} (hi : ops[i]? = some o) (hw : Region.wanted o (yielded ops a.tmps) = true)
    (hv : flowUpon P C' v ((execOp a.eval o).run P w)) (h : ∀ w', C' w' → K (a.put o.dst v) w') : wpOp P ops Q i K a w := by
  unfold wpOp
  simp only [hi, hw, if_true]
  refine .inl ?_
  unfold Oper.wp
  generalize (execOp a.eval o).run P w = r at *
  cases r with
  | ok x w' =>
    cases x <;> simp only [flowUpon] at hv <;> simp only [Oper.upon]
    case value u => rw [hv.2]; exact h _ hv.1
    case skip => rw [← hv.2]; exact h _ hv.1
    case enter f args => exact hv.mono fun e w'' ⟨he, hw''⟩ => by subst he; exact h _ hw''
  | halt x w' => simp only [flowUpon] at hv
theorem flow_step {o : Oper} {v : Value} {a : Act} {K : Act → World → Prop} {Q : Exit → Act → World → Prop} {i : Nat} {w : World} {m : Option Nat} {b : Nat} (hi : ops[i]? = some o) (hC : C b w) (hb : ∀ k, m = some k → b = k) (hf : flowOp P ops C m o v a)
    (h : ∀ w', C (if m.isSome then b + 1 else b) w' → K (a.put o.dst v) w') : wpOp P ops Q i K a w := by
  rcases hf with ⟨hw, hv⟩ | ⟨hw, rfl, rfl⟩
  · cases m with
    | none => exact flow_run hi hw (hv b w hC) h
    | some k =>
      obtain rfl := hb k rfl
      exact flow_run hi hw (hv w hC) h
  · unfold wpOp
    simp only [hi, hw, Bool.false_eq_true, if_false]
    exact h _ hC

structure Marks (ops : Array Oper) (n : Nat) (ms : List Nat) : Prop where
  lt : ∀ (j i : Nat), ms[j]? = some i → i < n
  mono : ∀ (j j' i i' : Nat), ms[j]? = some i → ms[j']? = some i' → j < j' → i < i'
  chain : ∀ (j i i' : Nat) (o : Oper), ms[j]? = some i → ms[j + 1]? = some i' → ops[i']? = some o → ∃ e ∈ o.after, Region.binds .any e = true ∧ e.on = i
theorem marksB_spec {n : Nat} : ∀ {ms : List Nat}, marksB ops n ms = true → Marks ops n ms
  | [], _ => ⟨fun j i h => by simp at h, fun j j' i i' h => by simp at h, fun j i i' o h => by simp at h⟩
  | [i], h => by
    have h : i < n := by simpa [marksB] using h
    refine ⟨fun j x hx => ?_, fun j j' x x' hx hx' hj => ?_, fun j x x' o hx hx' => ?_⟩
    · cases j with
      | zero => simp at hx; omega
      | succ j => simp at hx
    · cases j' with
      | zero => omega
      | succ j => simp at hx'
    · simp at hx'
  | i :: j :: ms, h => by
    simp only [marksB, Bool.and_eq_true, decide_eq_true_eq] at h
    obtain ⟨⟨⟨h1, h2⟩, h3⟩, h4⟩ := h
    have M := marksB_spec h4
    have hfirst : ∀ (k x : Nat), (j :: ms)[k]? = some x → i < x := fun k x hx => by
      cases k with
      | zero => simp at hx; omega
      | succ k => exact Nat.lt_trans h2 (M.mono 0 (k + 1) j x rfl hx (Nat.succ_pos _))
    refine ⟨fun k x hx => ?_, fun k k' x x' hx hx' hk => ?_, fun k x x' o hx hx' ho => ?_⟩
    · cases k with
      | zero => simp at hx; omega
      | succ k => exact M.lt k x (by simpa using hx)
    · cases k' with
      | zero => omega
      | succ k' =>
        have hx' : (j :: ms)[k']? = some x' := by simpa using hx'
        cases k with
        | zero => simp at hx; subst hx; exact hfirst k' x' hx'
        | succ k => exact M.mono k k' x x' (by simpa using hx) hx' (by omega)
    · have hx' : (j :: ms)[k]? = some x' := by simpa using hx'
      cases k with
      | zero =>
        simp at hx hx'
        subst hx; subst hx'
        rw [ho] at h3
        exact waits_spec h3
      | succ k => exact M.chain k x x' o (by simpa using hx) hx' ho
theorem idx_some {ms : List Nat} {i k : Nat} (h : ms.idxOf? i = some k) : ms[k]? = some i := by
  rw [List.idxOf?_eq_some_iff] at h
  obtain ⟨h1, h2, _⟩ := h
  rw [List.getElem?_eq_getElem h1]
  have h2 : ms[k] = i := by simpa using h2
  rw [h2]
theorem idx_none {ms : List Nat} {i : Nat} (h : ms.idxOf? i = none) (k : Nat) : ms[k]? ≠ some i := by
  rw [List.idxOf?_eq_none_iff] at h
  intro e
  exact h (List.mem_of_getElem? e)

theorem wpAny_of_flow {n : Nat} (hB : FlowB ops n) (hM : Marks ops n ms) {Q : Exit → Act → World → Prop} {a0 A : Act} {vs : Nat → Value} (E : Ends P ops C ms 0 n a0 A vs) (hQ : ∀ w, C ms.length w → wpList P ops Q (ops.toList.drop n) A w) :
    ∀ (f : Nat) (listed : Array Bool) (a : Act) (w : World), listed.size = ops.size → unl ops listed ≤ f → FlowSt P ops C ms Q n a0 A listed a w → wpAny P .any ops Q f listed a w := by
  -- the least that is not listed can come up
  have least : ∀ (listed : Array Bool), listed.size = ops.size → Region.ready .any ops listed = [] → ∀ j, j < ops.size → listed.getD j false = true := by
    intro listed hs hr j
    induction j using Nat.strongRecOn with
    | _ j ih =>
      intro hj
      cases hl : listed.getD j false with
      | true => rfl
      | false =>
        have : j ∈ Region.ready .any ops listed := mem_ready.2 ⟨by rw [getD_flip (by omega)]; exact hl, _, Array.getElem?_eq_getElem hj, fun e he hb => by
          have := hB.low j _ (Array.getElem?_eq_getElem hj) e he hb
          exact ih e.on this (by omega)⟩
        rw [hr] at this
        cases this
  -- when the head is listed whole the frame is A
  have whole : ∀ (listed : Array Bool) (a : Act) (w : World), listed.size = ops.size → (∀ j, j < n → listed.getD j false = true) → FlowSt P ops C ms Q n a0 A listed a w →
      ∃ m, n ≤ m ∧ (∀ j, j < ops.size → listed.getD j false = decide (j < m)) ∧ wpList P ops Q (ops.toList.drop m) a w := by
    intro listed a w hs hh hst
    rcases hst with ⟨hC, hsz, hd, htail, ht⟩ | h
    · refine ⟨n, Nat.le_refl _, fun j hj => ?_, ?_⟩
      · by_cases hjn : j < n
        · rw [hh j hjn]; simp [hjn]
        · rw [← getD_flip (by omega), htail j (by omega) hj]; simp; omega
      · have hA : a = A := by
          obtain ⟨ta, da⟩ := a
          obtain ⟨tA, dA⟩ := A
          have e1 : da = dA := hd.trans E.defers.symm
          subst e1
          have e2 : ta = tA := by
            apply Array.ext_getElem?
            intro t
            by_cases hx : ∃ i, i < n ∧ listed.getD i false = true ∧ dstAt ops i = some t
            · exact (ht t).1 hx
            · rw [(ht t).2 hx]
              refine (E.there t fun i _ hin hit => hx ⟨i, hin, hh i hin, hit⟩).symm
          rw [e2]
        rw [hA]
        refine hQ w ?_
        obtain ⟨k, hk, hmk, hCk⟩ := hC
        have : k = ms.length := by
          rcases Nat.lt_or_ge k ms.length with h | h
          · have h1 := hmk k ms[k] (List.getElem?_eq_getElem h)
            rw [hh _ (hM.lt k ms[k] (List.getElem?_eq_getElem h))] at h1
            simp at h1
          · omega
        subst this
        exact hCk
    · exact h
  -- behind the last the rest is done
  have done : ∀ (listed : Array Bool) (a : Act) (w : World), listed.size = ops.size → Region.ready .any ops listed = [] → FlowSt P ops C ms Q n a0 A listed a w → Q .normal a w := by
    intro listed a w hs hr hst
    have hl := least listed hs hr
    obtain ⟨m, hm, hlm, hw⟩ := whole listed a w hs (fun j hj => hl j (Nat.lt_of_lt_of_le hj hB.le)) hst
    have hms : ops.size ≤ m := by
      rcases Nat.lt_or_ge m ops.size with h | h
      · have := (hlm m h).symm.trans (hl m h)
        simp at this
      · exact h
    rw [List.drop_eq_nil_of_le (by simpa using hms)] at hw
    exact hw
  intro f
  induction f with
  | zero =>
    intro listed a w hs hf hst
    have hr : Region.ready .any ops listed = [] := by
      cases h : Region.ready .any ops listed with
      | nil => rfl
      | cons x xs =>
        have hx : x ∈ Region.ready .any ops listed := by rw [h]; simp
        obtain ⟨hu, o, ho, _⟩ := mem_ready.1 hx
        have hm : x ∈ (List.range ops.size).filter fun j => !listed.getD j true := List.mem_filter.2 ⟨List.mem_range.2 (Array.getElem?_eq_some_iff.1 ho).1, by simp [hu]⟩
        have : 0 < unl ops listed := List.length_pos_of_mem hm
        omega
    exact ⟨hr, done listed a w hs hr hst⟩
  | succ f ih =>
    intro listed a w hs hf hst
    refine ⟨fun hr => done listed a w hs hr hst, fun i hi => ?_⟩
    obtain ⟨hu, o, ho, hall⟩ := mem_ready.1 hi
    have hil : i < ops.size := (Array.getElem?_eq_some_iff.1 ho).1
    have hs' : (listed.setIfInBounds i true).size = ops.size := by simpa using hs
    have hu' := unl_set hs hil hu
    by_cases hin : i < n
    · rcases hst with ⟨hC, hsz, hd, htail, ht⟩ | ⟨m, hm, hlm, _⟩
      · have hagree : ∀ t, t ∈ o.looksAt ops → A.tmps[t]? = a.tmps[t]? := fun t hto => by
          by_cases hx : ∃ j, j < n ∧ listed.getD j false = true ∧ dstAt ops j = some t
          · exact ((ht t).1 hx).symm
          · rw [(ht t).2 hx]
            refine E.there t fun j _ hjn hjt => hx ⟨j, hjn, ?_, hjt⟩
            obtain ⟨e, he, hb, hon⟩ := hB.see i o ho hin j t hjn hjt hto
            rw [← hon]
            exact hall e he hb
        have hdo : dstAt ops i = o.dst := by unfold dstAt; rw [ho]; rfl
        obtain ⟨k, hk, hmk, hCk⟩ := hC
        have hun : listed.getD i false = false := by rw [← getD_flip (by omega)]; exact hu
        refine flow_step ho hCk (fun k' hk' => ?_) (flowOp_congr (hB.sel i o · · ho) hagree (E.flow i o (Nat.zero_le _) hin ho)) fun w' hC' => ?_
        · have hi' := idx_some hk'
          have h1 := hmk k' i hi'
          rw [hun] at h1
          simp at h1
          rcases Nat.eq_zero_or_pos k' with h0 | h0
          · omega
          · obtain ⟨d, rfl⟩ : ∃ d, k' = d + 1 := ⟨k' - 1, by omega⟩
            have hdl : d < ms.length := by have := (List.getElem?_eq_some_iff.1 hi').1; omega
            obtain ⟨e, he, hb, hon⟩ := hM.chain d ms[d] i o (List.getElem?_eq_getElem hdl) hi' ho
            have h2 := hmk d ms[d] (List.getElem?_eq_getElem hdl)
            rw [← hon, hall e he hb] at h2
            simp at h2
            omega
        have hset0 : ∀ j, j ≠ i → (listed.setIfInBounds i true).getD j false = listed.getD j false := fun j hj => by simp [Ne.symm hj]
        have hset1 : (listed.setIfInBounds i true).getD i false = true := by
          have : i < listed.size := by omega
          simp [this]
        refine ih _ _ _ hs' (by omega) (.inl ⟨?_, (put_size _ _ _).trans hsz, (put_defers _ _ _).trans hd, fun t htn hts => ?_, fun t => ?_⟩)
        · cases hix : ms.idxOf? i with
          | none =>
            rw [hix] at hC'
            exact ⟨k, hk, fun j x hx => by rw [hset0 x (fun e => idx_none hix j (by rw [hx, e]))]; exact hmk j x hx, hC'⟩
          | some k' =>
            rw [hix] at hC'
            have hi' := idx_some hix
            have hkk : k = k' := by
              have h1 := hmk k' i hi'
              rw [hun] at h1
              simp at h1
              rcases Nat.eq_zero_or_pos k' with h0 | h0
              · omega
              · obtain ⟨d, rfl⟩ : ∃ d, k' = d + 1 := ⟨k' - 1, by omega⟩
                have hdl : d < ms.length := by have := (List.getElem?_eq_some_iff.1 hi').1; omega
                obtain ⟨e, he, hb, hon⟩ := hM.chain d ms[d] i o (List.getElem?_eq_getElem hdl) hi' ho
                have h2 := hmk d ms[d] (List.getElem?_eq_getElem hdl)
                rw [← hon, hall e he hb] at h2
                simp at h2
                omega
            subst hkk
            refine ⟨k + 1, (List.getElem?_eq_some_iff.1 hi').1, fun j x hx => ?_, hC'⟩
            by_cases hjk : j = k
            · subst hjk
              obtain rfl : i = x := Option.some.inj (hi'.symm.trans hx)
              rw [hset1]; simp
            · have hxi : x ≠ i := fun e => by
                subst e
                rcases Nat.lt_or_ge j k with h | h
                · exact absurd (hM.mono j k x x hx hi' h) (by omega)
                · exact absurd (hM.mono k j x x hi' hx (by omega)) (by omega)
              rw [hset0 x hxi, hmk j x hx]
              simp only [decide_eq_decide]
              omega
        · have : i ≠ t := by omega
          have h4 := htail t htn hts
          simpa [this] using h4
        · have hset : ∀ j, (listed.setIfInBounds i true).getD j false = true ↔ j = i ∨ listed.getD j false = true := fun j => by
            by_cases e : i = j
            · subst e
              have : i < listed.size := by omega
              simp [this]
            · simp [e, Ne.symm e]
          rw [put_at]
          constructor
          · rintro ⟨j, hjn, hjl, hjt⟩
            by_cases e : o.dst = some t
            · rw [if_pos e]
              by_cases hts : t < a0.tmps.size
              · rw [if_pos (show t < a.tmps.size by rw [hsz]; exact hts), E.here i t (Nat.zero_le _) hin (hdo.trans e) hts]
              · rw [if_neg (show ¬ t < a.tmps.size by rw [hsz]; exact hts)]
                exact (Array.getElem?_eq_none (show A.tmps.size ≤ t by rw [E.size]; exact Nat.not_lt.1 hts)).symm
            · rw [if_neg e]
              refine (ht t).1 ⟨j, hjn, ?_, hjt⟩
              rcases (hset j).1 hjl with rfl | h
              · exact absurd (hdo.symm.trans hjt) e
              · exact h
          · intro hx
            have e : ¬ o.dst = some t := fun e => hx ⟨i, hin, (hset i).2 (.inl rfl), hdo.trans e⟩
            rw [if_neg e]
            exact (ht t).2 fun ⟨j, hjn, hjl, hjt⟩ => hx ⟨j, hjn, (hset j).2 (.inr hjl), hjt⟩
      · exfalso
        have := hlm i hil
        rw [← getD_flip (by omega), hu] at this
        simp at this
        omega
    · have hhead : ∀ j, j < n → listed.getD j false = true := fun j hj => by
        obtain ⟨e, he, hb, hon⟩ := hB.tail i o ho (by omega) j (by omega)
        rw [← hon]
        exact hall e he hb
      obtain ⟨m, hm, hlm, hw⟩ := whole listed a w hs hhead hst
      have him : m ≤ i := by
        have := hlm i hil
        rw [← getD_flip (by omega), hu] at this
        simp at this
        omega
      have hmi : m = i := by
        rcases Nat.lt_or_ge m i with h | h
        · obtain ⟨e, he, hb, hon⟩ := hB.tail i o ho (by omega) m h
          have h1 := hall e he hb
          rw [hon, hlm m (by omega)] at h1
          simp at h1
        · omega
      subst hmi
      have hdrop : ops.toList.drop m = o :: ops.toList.drop (m + 1) := by
        rw [List.drop_eq_getElem_cons (by simpa using hil)]
        congr 1
        have := Array.getElem?_eq_some_iff.1 ho
        simpa using this.2
      rw [hdrop] at hw
      have hw' : wpOp P ops Q m (wpList P ops Q (ops.toList.drop (m + 1))) a w := by
        unfold wpOp; simp only [ho]; exact hw
      refine wpOp_mono (fun a' w' h' => ih _ _ _ hs' (by omega) (.inr ⟨m + 1, by omega, fun j hj => ?_, h'⟩)) hw'
      by_cases e : m = j
      · subst e
        have : m < listed.size := by omega
        simp [this]
      · have h4 := hlm j hj
        have h5 : (listed.setIfInBounds m true).getD j false = listed.getD j false := by simp [e]
        rw [h5, h4]
        simp
        omega

/-- **A region that draws its order, by the flow of its values.** -/
theorem wp_region_flow {id : Nat} {Q : Exit → Act → World → Prop} {a : Act} {w : World} {l : List Oper} (n : Nat) (ms : List Nat) (C : Nat → World → Prop) (hm : P.follows .mixedOrders = true) (hB : (flowB l.toArray n && marksB l.toArray n ms) = true) (hC : C 0 w.drew)
    (h : wpFlow P l.toArray C ms (fun a' => ∀ w', C ms.length w' → wpList P l.toArray Q (l.drop n) a' w') 0 (l.take n) a) : (Code.region id l.toArray true).wp P Q a w := by
  rw [Bool.and_eq_true] at hB
  have B := flowB_spec hB.1
  have M := marksB_spec hB.2
  have hle : n ≤ l.length := by simpa using B.le
  obtain ⟨A, vs, E, hQ⟩ := ends_of B (l.take n) 0 a (by simp; omega) (fun j hj => by
    have hj' : j < n := by simp at hj; omega
    simp [hj']) h
  refine wp_region_any hm (wpAny_of_flow B M E (by simpa using hQ) _ _ _ _ (by simp) ?_ (.inl ⟨?_, rfl, rfl, fun t _ ht => ?_, fun t => ⟨fun ⟨i, hi, hl, _⟩ => ?_, fun _ => rfl⟩⟩))
  · unfold unl
    exact Nat.le_trans (List.length_filter_le _ _) (by simp)
  · refine ⟨0, Nat.zero_le _, fun j i hi => ?_, hC⟩
    have : i < l.length := by have := M.lt j i hi; omega
    simp [this]
  · have : t < l.length := by simpa using ht
    simp [this]
  · have : i < l.length := by omega
    simp [this] at hl

section
variable {k : Nat} {Q : Act → Prop} {o : Oper} {rest : List Oper} {a : Act}
theorem flow_nil (h : Q a) : wpFlow P ops C ms Q k [] a := h
/-- One that leaves the world alone, its value given. -/
theorem flow_pure (v : Value) (hg : o.guard = none) (hk : ms.idxOf? k = none) (h : ∀ b W, C b W → (execOp a.eval o).run P W = .ok (.value v) W) (hr : wpFlow P ops C ms Q (k + 1) rest (a.put o.dst v)) :
    wpFlow P ops C ms Q k (o :: rest) a :=
  ⟨v, .inl ⟨by simp [Region.wanted, hg], by rw [hk]; intro b W hW; rw [h b W hW]; exact ⟨hW, rfl⟩⟩, hr⟩
/-- One with a guard. -/
theorem flow_skip (hw : Region.wanted o (yielded ops a.tmps) = false) (hk : ms.idxOf? k = none) (hr : wpFlow P ops C ms Q (k + 1) rest (a.put o.dst undef)) : wpFlow P ops C ms Q k (o :: rest) a :=
  ⟨undef, .inr ⟨hw, hk, rfl⟩, hr⟩
theorem flow_want (v : Value) (hw : Region.wanted o (yielded ops a.tmps) = true) (hk : ms.idxOf? k = none) (h : ∀ b W, C b W → (execOp a.eval o).run P W = .ok (.value v) W) (hr : wpFlow P ops C ms Q (k + 1) rest (a.put o.dst v)) :
    wpFlow P ops C ms Q k (o :: rest) a :=
  ⟨v, .inl ⟨hw, by rw [hk]; intro b W hW; rw [h b W hW]; exact ⟨hW, rfl⟩⟩, hr⟩
/-- One with a mark. -/
theorem flow_mark (j : Nat) (v : Value) (hg : o.guard = none) (hk : ms.idxOf? k = some j) (h : ∀ W, C j W → ∃ W', (execOp a.eval o).run P W = .ok (.value v) W' ∧ C (j + 1) W') (hr : wpFlow P ops C ms Q (k + 1) rest (a.put o.dst v)) :
    wpFlow P ops C ms Q k (o :: rest) a :=
  ⟨v, .inl ⟨by simp [Region.wanted, hg], by
    rw [hk]; intro W hW
    obtain ⟨W', h1, h2⟩ := h W hW
    rw [h1]; exact ⟨h2, rfl⟩⟩, hr⟩
/-- A call of a Go function. -/
theorem flow_call (v : Value) (f : FuncId) (args : Array Value) (hg : o.guard = none) (hk : ms.idxOf? k = none) (h : ∀ b W, C b W → (execOp a.eval o).run P W = .ok (.enter f args) W)
    (hc : ∀ b W, C b W → Calls P f args W fun e W' => e = .returned v ∧ C b W') (hr : wpFlow P ops C ms Q (k + 1) rest (a.put o.dst v)) : wpFlow P ops C ms Q k (o :: rest) a :=
  ⟨v, .inl ⟨by simp [Region.wanted, hg], by rw [hk]; intro b W hW; rw [h b W hW]; exact hc b W hW⟩, hr⟩
end
section
variable {Q : Exit → Act → World → Prop} {o : Oper} {rest : List Oper} {a : Act} {w w' : World}
/-- One operation of a walk, its run given. -/
theorem wpList_val (v : Value) (hg : o.guard = none) (h : (execOp a.eval o).run P w = .ok (.value v) w') (hr : wpList P ops Q rest (a.put o.dst v) w') : wpList P ops Q (o :: rest) a w :=
  wpList_plain hg fun K hK => by unfold Oper.wp; rw [h]; exact hK _ _ hr
theorem wpList_skip (hg : o.guard = none) (h : (execOp a.eval o).run P w = .ok .skip w') (hr : wpList P ops Q rest (a.put o.dst undef) w') : wpList P ops Q (o :: rest) a w :=
  wpList_plain hg fun K hK => by unfold Oper.wp; rw [h]; exact hK _ _ hr
/-- 'append', its run given. -/
theorem wpList_app {t : TypeId} {s x : Operand} {v u v' : Value} (h : (Builtin.append_ #[t, t] o.type #[v, u]).run P w = .ok v' w') (hg : o.guard = none) (ho : o.op = .call { callee := .builtin .append, args := #[s, x], argTypes := #[t, t] })
    (hs : a.eval s = v) (hx : a.eval x = u) (hr : wpList P ops Q rest (a.put o.dst v') w') : wpList P ops Q (o :: rest) a w := by
  refine wpList_val v' hg ?_ hr
  unfold execOp
  simp only [ho, resolve, invoke, builtin, Sem.run_bind, Sem.run_pure, Result.andThen_ok, List.map_toArray, List.map_cons, List.map_nil, hs, hx, h]
end
end
end Go.Proofs.Ytiapdpbcnbgdmaa
