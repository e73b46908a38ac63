import Derived.Test.YtiapdpbcnbgdmaaCq
import Derived.Deep.OwnRows
import Derived.Deep.Onto
set_option linter.unusedVariables false
set_option linter.unusedSimpArgs false
namespace Go.Proofs.Ytiapdpbcnbgdmaa
open Go.RowKit

def Adj (W : Int × Int → Option Int) (a b : Int) : Prop := ∃ x, 0 < x ∧ (W (a, b) = some x ∨ W (b, a) = some x)
theorem Adj.symm {W : Int × Int → Option Int} {a b : Int} (h : Adj W a b) : Adj W b a := let ⟨x, h1, h2⟩ := h; ⟨x, h1, h2.symm⟩

theorem run_app {P : Program} {o : Oper} {a : Act} {t : TypeId} {s x : Operand} {v u v' : Value} {w w' : World} (h : (Builtin.append_ #[t, t] o.type #[v, u]).run P w = .ok v' w') (ho : o.op = .call { callee := .builtin .append, args := #[s, x], argTypes := #[t, t] })
    (hs : a.eval s = v) (hx : a.eval x = u) : (execOp a.eval o).run P w = .ok (.value v') w' := by
  unfold execOp
  simp only [ho, resolve, invoke, builtin, Sem.run_bind, Sem.run_pure, Result.andThen_ok, List.map_toArray, List.map_cons, List.map_nil, hs, hx, h]
/-- The worlds in 'near[k] = append(near[k], x)'. -/
def NCls (W0 W1 W2 : World) (k : Nat) (W : World) : Prop := W = if k = 0 then W0 else if k = 1 then W1 else W2
theorem NCls.grown {W0 W1 W2 : World} {b : Option Nat} (h1 : W0.grownBy W1 b) (h2 : W0.grownBy W2 b) {k : Nat} {W : World} (h : NCls W0 W1 W2 k W) : W0.grownBy W b := by
  unfold NCls at h
  subst h
  split
  · exact World.grownBy.refl _ _
  · split
    · exact h1
    · exact h2

/-- between two rounds of the first loop -/
structure CSt (w : World) (A1 : Option Addr) (m c1 r1 r2 : Nat) (W : Int × Int → Option Int) (D : Int × Int → Prop) (c n0 : Nat) (wr : World) : Prop where
  b0 : wr.heap[w.heap.size]? = some (.cells #[.slice A1 m c1, .map (some r1), .map (some r2)] 52 (0, 0))
  b2 : wr.heap[w.heap.size + 1 + 1]? = some (.cells #[.map (some (w.heap.size + 1))] 70 (0, 0))
  it : IterSt wr (w.heap.size + 1 + 1 + 1) r1 kvP vvI W D c
  nr : ∃ NM G, Near wr (w.heap.size + 1) (w.heap.size + 1) NM G ∧ (∀ k d, d ∈ G k ↔ ∃ x, 0 < x ∧ (W (k, d) = some x ∧ D (k, d) ∨ W (d, k) = some x ∧ D (d, k))) ∧ ∀ k, (G k).length + c ≤ n0
  ext : Ext w wr

theorem World.grownBy_drew (w : World) : w.grownBy w.drew none := ⟨rfl, rfl, rfl, Nat.le_refl _, fun _ _ _ => rfl⟩
theorem World.grownBy_any {w w' : World} (h : w.grownBy w' none) {b : Option Nat} : w.grownBy w' b := ⟨h.os, h.tape, h.output, h.size, fun k hk _ => h.block k hk (by simp)⟩
theorem ext_drew (w : World) : Ext w w.drew := ⟨rfl, rfl, rfl, Nat.le_refl _, fun _ _ => rfl⟩
theorem ext_of_grown {w w' : World} {b : Nat} (h : w.grownBy w' (some b)) {B : Nat} (hb : B ≤ b) (hB : B ≤ w.heap.size) : Below B w w' := (Below.refl _ _).grown h hB (fun k e => by cases e; exact hb)
/-- what is not in the lists: cells of the frame's own blocks, the weights -/
structure CBase (w : World) (A1 : Option Addr) (m c1 r1 r2 : Nat) (wr : World) : Prop where
  b0 : wr.heap[w.heap.size]? = some (.cells #[.slice A1 m c1, .map (some r1), .map (some r2)] 52 (0, 0))
  b2 : wr.heap[w.heap.size + 1 + 1]? = some (.cells #[.map (some (w.heap.size + 1))] 70 (0, 0))
  ext : Ext w wr
theorem CBase.lt {w : World} {A1 m c1 r1 r2 wr} (h : CBase w A1 m c1 r1 r2 wr) : w.heap.size + 1 + 1 < wr.heap.size := (Array.getElem?_eq_some_iff.1 h.b2).1
theorem CBase.turn {w : World} {A1 m c1 r1 r2 wr wx} (h : CBase w A1 m c1 r1 r2 wr) {b : Option Nat} (hg : wr.grownBy wx b) (hb : ∀ k, b = some k → w.heap.size ≤ k ∧ k ≠ w.heap.size ∧ k ≠ w.heap.size + 1 + 1) : CBase w A1 m c1 r1 r2 wx := by
  have hl := h.lt
  exact ⟨(hg.block _ (by omega) (fun e => (hb _ e.symm).2.1 rfl)).trans h.b0, (hg.block _ (by omega) (fun e => (hb _ e.symm).2.2 rfl)).trans h.b2, h.ext.grown hg (by omega) (fun k e => (hb k e).1)⟩

theorem own_made (W : World) (base m : Nat) (hb : base ≤ W.heap.size) (hm : m ≤ 1000000) :
    (W.alloc (.cells (madeCells #[.int .i64 0] m) 3)).ownsRow base 3 1 (.slice (some ⟨W.heap.size, 0, none⟩) m m) m (ints (List.replicate m 0)) := by
  have h := World.ownsRow_lit (base := base) (e := 3) (size := 1) W (madeCells #[.int .i64 0] m) m hb (by simp only [maxLen]; omega) (by simp [size_madeCells])
  have hl : (madeCells #[Value.int .i64 0] m).toList = ints (List.replicate m 0) := by
    apply List.ext_getElem
    · simp [madeCells]
    · intro i h1 h2
      simp [madeCells, Nat.mod_one]
  rwa [hl] at h
theorem step_keep {W0 W1 x0 : World} {u : Value} {r base : Nat} (hg2 : W0.drew.grownBy x0 u.ownBlock) (hub : ∀ b, u.ownBlock = some b → base ≤ b ∧ ∃ cur, W0.drew.heap[b]? = some (Obj.cells cur 3 (0, 0))) (hg3 : x0.grownBy W1 (some r)) {b : Nat} (hb : b < W0.heap.size) (hne : b ≠ r)
    (ht : ∀ cur f, W0.heap[b]? ≠ some (Obj.cells cur 3 f)) : W1.heap[b]? = W0.heap[b]? := by
  rw [hg3.block b (Nat.lt_of_lt_of_le hb hg2.size) (fun e => hne (Option.some.inj e))]
  exact hg2.block b hb (fun e => by
    obtain ⟨_, cur, hh⟩ := hub b e.symm
    exact ht _ _ hh)
theorem near_mem {W : Int × Int → Option Int} {D : Int × Int → Prop} {G G' : Int → List Int} {p : Int × Int} {x : Int} (hp : p.1 < p.2) (hM : W p = some x) (hx : 0 < x) (hG : ∀ k d, d ∈ G k ↔ ∃ x, 0 < x ∧ (W (k, d) = some x ∧ D (k, d) ∨ W (d, k) = some x ∧ D (d, k)))
    (h' : ∀ k d, d ∈ G' k ↔ d ∈ G k ∨ (k = p.1 ∧ d = p.2) ∨ (k = p.2 ∧ d = p.1)) (k d : Int) : d ∈ G' k ↔ ∃ x, 0 < x ∧ (W (k, d) = some x ∧ ((k, d) = p ∨ D (k, d)) ∨ W (d, k) = some x ∧ ((d, k) = p ∨ D (d, k))) := by
  rw [h', hG]
  constructor
  · rintro (⟨y, hy, h | h⟩ | ⟨rfl, rfl⟩ | ⟨rfl, rfl⟩)
    · exact ⟨y, hy, .inl ⟨h.1, .inr h.2⟩⟩
    · exact ⟨y, hy, .inr ⟨h.1, .inr h.2⟩⟩
    · exact ⟨x, hx, .inl ⟨hM, .inl rfl⟩⟩
    · exact ⟨x, hx, .inr ⟨hM, .inl rfl⟩⟩
  · rintro ⟨y, hy, ⟨h1, h2 | h2⟩ | ⟨h1, h2 | h2⟩⟩
    · right; left; rw [← h2]; exact ⟨rfl, rfl⟩
    · exact .inl ⟨y, hy, .inl ⟨h1, h2⟩⟩
    · right; right; rw [← h2]; exact ⟨rfl, rfl⟩
    · exact .inl ⟨y, hy, .inr ⟨h1, h2⟩⟩
theorem near_skip {W : Int × Int → Option Int} {D : Int × Int → Prop} {G : Int → List Int} {p : Int × Int} {x : Int} (hM : W p = some x) (hx : ¬ 0 < x) (hG : ∀ k d, d ∈ G k ↔ ∃ x, 0 < x ∧ (W (k, d) = some x ∧ D (k, d) ∨ W (d, k) = some x ∧ D (d, k)))
    (k d : Int) : d ∈ G k ↔ ∃ x, 0 < x ∧ (W (k, d) = some x ∧ ((k, d) = p ∨ D (k, d)) ∨ W (d, k) = some x ∧ ((d, k) = p ∨ D (d, k))) := by
  rw [hG]
  constructor
  · rintro ⟨y, hy, h | h⟩
    · exact ⟨y, hy, .inl ⟨h.1, .inr h.2⟩⟩
    · exact ⟨y, hy, .inr ⟨h.1, .inr h.2⟩⟩
  · rintro ⟨y, hy, ⟨h1, h2 | h2⟩ | ⟨h1, h2 | h2⟩⟩
    · rw [h2, hM] at h1; cases h1; exact absurd hy hx
    · exact ⟨y, hy, .inl ⟨h1, h2⟩⟩
    · rw [h2, hM] at h1; cases h1; exact absurd hy hx
    · exact ⟨y, hy, .inr ⟨h1, h2⟩⟩

theorem Near.mono {w : World} {base base' r : Nat} {NM : Int → Option Value} {G : Int → List Int} (N : Near w base r NM G) (h : base' ≤ base) : Near w base' r NM G :=
  ⟨N.map, N.none_, fun k u hu => (N.row k u hu).mono h, N.sep⟩
theorem store_new {P : Program} (w : World) (v0 v : Value) (t : TypeId) (hv : v.oneCell' = true) : (store ⟨w.heap.size, 0, none⟩ v).run P (w.alloc (.cells #[v0] t)) = .ok () (w.alloc (.cells #[v] t)) := by
  rw [run_store _ _ _ _ _ hv, (cells_of (heap_alloc_new w (.cells #[v0] t)) 0 rfl).1, (cells_of (heap_alloc_new w (.cells #[v0] t)) 0 rfl).2]
  simp [go_sem]
set_option maxHeartbeats 4000000 in
theorem components_any (A1 : Option Addr) (m c1 : Nat) (same : List Int) (r1 r2 : Nat) (WT : Int × Int → Option Int) (w : World) (h1 : RInts w A1 m same) (hW : MapFn w r1 kvP vvI WT) (hv : ValidP same) (hm : m ≤ 2000)
    (hk : ∀ p x, WT p = some x → Cls same m p.1 ∧ Cls same m p.2 ∧ p.1 < p.2) :
    Calls Try.prog 31 #[.agg #[.slice A1 m c1, .map (some r1), .map (some r2)]] w fun e w' => ∃ v ms, e = .returned v ∧ w'.ownsRow w.heap.size 3 1 v m (ints ms) ∧ MarkOk same m (Adj WT) ms ∧ Ext w w' := by
  have hmm := @run_makeMap Try.prog
  have hr1 := hW.lt
  obtain ⟨cl, hrg, n0, hit⟩ := iter_start Try.underlying49 (hW.same (w' := ((w.alloc (.cells #[.slice A1 m c1, .map (some r1), .map (some r2)] 52)).alloc (.map #[] 0)).alloc (.cells #[.map (some (w.heap.size + 1))] 70)) (by
    rw [heap_old _ _ _ (by first | omega | (simp; omega)), heap_old _ _ _ (by first | omega | (simp; omega)), heap_old _ _ _ (by first | omega | (simp; omega))]))
  have hn0 : n0 ≤ 4000000 := by
    have := iter_few hit m (fun p x h => by obtain ⟨h1, h2, _⟩ := hk p x h; exact ⟨h1.1, h1.2.1, h2.1, h2.2.1⟩)
    have h2 : m * m ≤ 2000 * 2000 := Nat.mul_le_mul hm hm
    omega
  go_enter Try.func31, Try.ntmps31
  go_wp2
  go_loopg [4, 5] n0 (fun gg _ _ wr => ∃ D c, c ≤ gg ∧ CSt w A1 m c1 r1 r2 WT D c n0 wr)
  case atStart =>
    refine ⟨fun _ => False, n0, Nat.le_refl _, ?_, ?_, ?_, ⟨fun _ => none, fun _ => [], ?_, fun k d => ?_, fun k => by simp⟩, ?_⟩
    · rw [heap_old _ _ _ (by simp; omega), heap_old _ _ _ (by simp; omega), heap_old _ _ _ (by simp)]; exact heap_alloc_new w _
    · rw [heap_old _ _ _ (by simp)]
      have := heap_alloc_new ((w.alloc (.cells #[.slice A1 m c1, .map (some r1), .map (some r2)] 52)).alloc (.map #[] 0)) (.cells #[.map (some (w.heap.size + 1))] 70)
      simpa using this
    · simpa using hit
    · have h0 := Near.made (w.alloc (.cells #[.slice A1 m c1, .map (some r1), .map (some r2)] 52)) (w.heap.size + 1)
      rw [World.size_alloc] at h0
      exact (h0.ext (ext_alloc _ _)).ext (ext_alloc _ _)
    · simp
    · exact Ext.trans (Ext.trans (Ext.trans (ext_alloc _ _) (ext_alloc _ _)) (ext_alloc _ _)) (ext_alloc _ _)
  case round =>
    obtain ⟨D, c, hc, S⟩ := hrel
    rcases iter_next (P := Try.prog) S.it 0 with ⟨rfl, hall, hnx⟩ | ⟨p, x, w1, hMp, hD, hc0, hnx, hit1, hg1, hs1, hent⟩
    · obtain ⟨NM, G, N, hG, hlen⟩ := S.nr
      have B0 : CBase w A1 m c1 r1 r2 wr := ⟨S.b0, S.b2, S.ext⟩
      have hG : ∀ k d, d ∈ G k ↔ Adj WT k d := fun k d => by
        rw [hG]
        constructor
        · rintro ⟨x, hx, h | h⟩
          · exact ⟨x, hx, .inl h.1⟩
          · exact ⟨x, hx, .inr h.1⟩
        · rintro ⟨x, hx, h | h⟩
          · exact ⟨x, hx, .inl ⟨h, hall _ _ h⟩⟩
          · exact ⟨x, hx, .inr ⟨h, hall _ _ h⟩⟩
      have hb1 : m ≤ 1000000 := by omega
      obtain ⟨kk0, -⟩ := cells_of B0.b0 0 rfl
      have hmk := run_make_row' (P := Try.prog) 23 3 (.int .i64 0) 8 Try.underlying23 info3 rfl .i64 .i64 m (by omega) (by omega)
      have hlr := B0.lt
      obtain ⟨wm, hwm⟩ : ∃ wm, Hid (wm = (wr.alloc (.cells (madeCells #[.int .i64 0] m) 3)).alloc (.cells #[.slice (some ⟨wr.heap.size, 0, none⟩) m m] 23)) := ⟨_, rfl⟩
      have hem : Ext wr wm := by rw [hwm.out]; exact Ext.trans (ext_alloc _ _) (ext_alloc _ _)
      have hszm : wm.heap.size = wr.heap.size + 1 + 1 := by rw [hwm.out]; simp
      have S0 : VSt wm w.heap.size wr.heap.size m m (List.replicate m 0) wm := ⟨by
        rw [hwm.out]
        exact own_ext (own_made wr w.heap.size m B0.ext.size (by omega)) (ext_alloc _ _), World.grownBy.refl _ _⟩
      have BM : CBase w A1 m c1 r1 r2 wm := B0.turn (b := none) ⟨hem.os, hem.tape, hem.output, hem.size, fun k hk _ => hem.block k hk⟩ (fun k e => by cases e)
      have NM' := N.ext hem
      have km : wm.cell? ⟨wr.heap.size + 1, 0, none⟩ = some (.slice (some ⟨wr.heap.size, 0, none⟩) m m) := by
        rw [hwm.out]
        have := (cells_of (heap_alloc_new (wr.alloc (.cells (madeCells #[.int .i64 0] m) 3)) (.cells #[.slice (some ⟨wr.heap.size, 0, none⟩) m m] 23)) 0 rfl).1
        rwa [World.size_alloc] at this
      have hnog0 : ∀ k u, NM k = some u → u.ownBlock = none ∨ u.ownBlock ≠ some wr.heap.size := N.rows_ne (fun cur f => by simp)
      have hfew : ∀ k, (G k).length ≤ 100000000 := fun k => by have := hlen k; omega
      have hinm : ∀ k d, d ∈ G k → 0 ≤ d ∧ d < m := fun k d hd => by
        obtain ⟨x, _, h | h⟩ := (hG k d).1 hd
        · have := (hk _ _ h).2.1; exact ⟨this.1, this.2.1⟩
        · have := (hk _ _ h).1; exact ⟨this.1, this.2.1⟩
      have hcls : ∀ a b, Adj WT a b → Cls same m b := fun a b hab => by
        obtain ⟨x, _, h | h⟩ := hab
        · exact (hk _ _ h).2.1
        · exact (hk _ _ h).1
      clear S hall hit hrg hn0 hlen
      go_wp2
      rw [← hwm.out]
      clear hmk hmm hwm hnx
      have BMs := BM.ext.size
      have hg0 : w.heap.size ≤ wr.heap.size := B0.ext.size
      clear N hem B0
      generalize wr.heap.size = g at *
      go_loopw [7, 50] (fun _ t wr => ∃ (j : Nat), j ≤ m ∧ t = .int .i64 j ∧ VSt wm w.heap.size g m m (List.replicate j (-1) ++ List.replicate (m - j) 0) wr) (fun _ t _ => m - (intOf t).toNat)
      case atStart => exact ⟨0, Nat.zero_le _, rfl, by simpa using S0⟩
      case round =>
        obtain ⟨j, hj, rfl, S⟩ := hrel
        have km1 := S.cell km (by show _ + 1 ≠ _; omega)
        by_cases hlt : j < m
        · obtain ⟨k2, k3⟩ := own_at S.row j hlt
          obtain ⟨hst, hgs⟩ := own_store S.row j (-1)
          have hS2 : VSt wm w.heap.size g m m (List.replicate (j + 1) (-1) ++ List.replicate (m - (j + 1)) 0) (wr.setCell ⟨g, j, none⟩ (.int .i64 (-1))) := by
            have he : (List.replicate j (-1) ++ List.replicate (m - j) 0).set j (-1) = List.replicate (j + 1) (-1) ++ List.replicate (m - (j + 1)) (0 : Int) := by
              obtain ⟨d, hd⟩ : ∃ d, m - j = d + 1 := ⟨m - j - 1, by omega⟩
              have hd' : m - (j + 1) = d := by omega
              rw [hd, hd', List.replicate_succ, List.set_append_right _ _ (by simp), List.length_replicate, Nat.sub_self, List.set_cons_zero, List.replicate_succ']
              simp
            rw [he] at hst
            exact ⟨hst, S.gr.trans hgs⟩
          clear hst hgs S S0 NM' BM
          go_wp2
          go_roundw
          case rel => exact ⟨j + 1, by omega, by go_num, hS2⟩
          case measure => (simp [intOf]; omega)
        · obtain rfl : j = m := by omega
          rw [Nat.sub_self, List.replicate_zero, List.append_nil] at S
          have k0 := (cells_of (S.gr.trans (World.grownBy.refl _ _) |>.block _ (by have := BM.lt; omega) (by intro e; have := Option.some.inj e; omega) |>.trans BM.b0) 0 rfl).1
          obtain ⟨hgl, _, _⟩ := own_lt S.row
          have hsto := store_new (P := Try.prog) wr .nilFunc (.func (.func 51) #[] #[.pointer (some ⟨g + 1, 0, none⟩), .pointer (some ⟨w.heap.size + 1 + 1, 0, none⟩), .pointer (some ⟨wr.heap.size, 0, none⟩)]) 71 rfl
          obtain ⟨w0, hw0⟩ : ∃ w0, Hid (w0 = wr.alloc (.cells #[.func (.func 51) #[] #[.pointer (some ⟨g + 1, 0, none⟩), .pointer (some ⟨w.heap.size + 1 + 1, 0, none⟩), .pointer (some ⟨wr.heap.size, 0, none⟩)]] 71)) := ⟨_, rfl⟩
          have he0 : Ext wr w0 := by rw [hw0.out]; exact ext_alloc _ _
          have S1 : VSt w0 w.heap.size g j j (List.replicate j (-1)) w0 := ⟨own_ext S.row he0, World.grownBy.refl _ _⟩
          have hgm : wm.grownBy w0 (some g) := S.gr.trans ⟨he0.os, he0.tape, he0.output, he0.size, fun k hk _ => he0.block k hk⟩
          have k00 := (cells_of (hgm.block _ (by have := BM.lt; omega) (by intro e; have := Option.some.inj e; omega) |>.trans BM.b0) 0 rfl).1
          have E : VEnv w0 w.heap.size g j j (g + 1) (w.heap.size + 1 + 1) wr.heap.size (w.heap.size + 1) NM G := {
            mark := hgm.cell km (fun e => by have := Option.some.inj e; simp at this)
            near := (cells_of (hgm.block _ BM.lt (by intro e; have := Option.some.inj e; omega) |>.trans BM.b2) 0 rfl).1
            visit := by rw [hw0.out]; exact (cells_of (heap_alloc_new wr _) 0 rfl).1
            ne := ⟨by omega, by omega, by omega, by omega, by omega⟩
            nr := (Near.mono NM' (Nat.le_succ _)).keep hgm (by intro e; have := Option.some.inj e; omega) (fun k u h => by rcases hnog0 k u h with h' | h'; exact .inl h'; exact .inr h')
            nog := fun k u h => by rcases hnog0 k u h with h' | h'; (rw [h']; exact fun e => by cases e); exact h'
            inm := hinm
            few := hfew }
          have hE0 : Ext w w0 := BM.ext.grown hgm BM.ext.size (fun k e => by cases e; omega)
          have L0 := LInv.first same j (Adj WT)
          have hRr := h1.ext hE0
          clear S NM' S0 BM hnog0 hgm he0 km hszm hinm hfew BMs
          have k01 := k00
          rw [hw0.out] at k01
          go_wp2
          rw [← hw0.out]
          clear hsto k01
          generalize wr.heap.size = bv at *
          go_loopw [9, 10, 61] (fun _ _ t wr => ∃ (k : Nat) (ms : List Int), k ≤ j ∧ t = .int .i64 k ∧ LInv same j (Adj WT) k ms ∧ VSt w0 w.heap.size g j j ms wr) (fun _ _ t _ => j - (intOf t).toNat)
          case atStart => exact ⟨0, _, Nat.zero_le _, rfl, L0, S1⟩
          case round =>
            obtain ⟨k, ms, hj', rfl, I, S⟩ := hrel
            by_cases hlt' : k < j
            · obtain ⟨b, off, rfl, hcell0⟩ := h1.cell (by omega)
              have hbw : b < w.heap.size := World.block_lt_of_cell? _ _ (hcell0 k hlt')
              have ks := S.cell (cell_ext hE0 (hcell0 k hlt')) (by show b ≠ g; omega)
              have kv := S.cell E.visit E.ne.2.2.1
              have hvk := hv.1 k (by rw [h1.len]; omega)
              have hck : 0 ≤ nth same k ∧ nth same k < j := by
                obtain ⟨h1, h2, _⟩ := hvk
                omega
              have hcall := visit_any E (by omega) (nth same k) hck.1 (unm ms) ms (nth same k) wr (Nat.le_refl _) hck.1 hck.2 S
              have hsm := h1.len
              clear hcell0
              go_wp2_with (refine hcall.mono ?_; rintro e w' ⟨rfl, ms2, P2, S2⟩)
              have I2 := I.next hv hsm hlt' hG (fun a b h => h.symm) hcls P2
              clear hcall kv ks
              have kmk := S2.cell E.mark E.ne.1
              obtain ⟨q1, -⟩ := own_at S2.row (nth same k).toNat (by omega)
              obtain ⟨q2, q3⟩ := own_at S2.row k hlt'
              obtain ⟨hst, hgs⟩ := own_store S2.row k (nth ms2 (nth same k).toNat)
              have hS3 : VSt w0 w.heap.size g j j (ms2.set k (nth ms2 (nth same k).toNat)) (w'.setCell ⟨g, k, none⟩ (.int .i64 (nth ms2 (nth same k).toNat))) := ⟨hst, S2.gr.trans hgs⟩
              go_wp2
              have dmk : w'.drew.cell? ⟨g + 1, 0, none⟩ = some (.slice (some ⟨g, 0, none⟩) j j) := kmk
              have dq1 : w'.drew.cell? ⟨g, (nth same k).toNat, none⟩ = some (.int .i64 (nth ms2 (nth same k).toNat)) := q1
              have dq2 : w'.drew.cell? ⟨g, k, none⟩ = some (.int .i64 (nth ms2 k)) := q2
              have dq3 : w'.drew.frozen? ⟨g, k, none⟩ = false := q3
              refine wp_region_flow 7 [] (fun _ W => W = w'.drew) (by kernel_rfl) (by kernel_rfl) rfl ?_
              simp only [List.take_succ_cons, List.take_zero, List.drop_succ_cons, List.drop_zero]
              have hckn : ((nth same k).toNat : Int) = nth same k := Int.toNat_of_nonneg hck.1
              refine flow_pure (.slice (some ⟨g, 0, none⟩) j j) rfl rfl (fun k W hW => by cases hW; simp [go_sem, dmk]) ?_
              refine flow_pure (.int .i64 k) rfl rfl (fun k W hW => by cases hW; simp [go_sem]) ?_
              refine flow_pure (.slice (some ⟨g, 0, none⟩) j j) rfl rfl (fun k W hW => by cases hW; simp [go_sem, dmk]) ?_
              refine flow_pure (.int .i64 (nth same k)) rfl rfl (fun k W hW => by cases hW; simp [go_sem]) ?_
              refine flow_pure (.pointer (some ⟨g, (nth same k).toNat, none⟩)) rfl rfl (fun k W hW => by cases hW; simp [go_sem, hck]) ?_
              refine flow_pure (.int .i64 (nth ms2 (nth same k).toNat)) rfl rfl (fun k W hW => by cases hW; simp [go_sem, dq1]) ?_
              refine flow_pure (.pointer (some ⟨g, k, none⟩)) rfl rfl (fun k W hW => by cases hW; simp [go_sem, hlt']) ?_
              refine flow_nil fun W hW => ?_
              obtain rfl : W = w'.drew := hW
              go_frame
              refine wpList_skip rfl (w' := w'.drew.setCell ⟨g, k, none⟩ (.int .i64 (nth ms2 (nth same k).toNat))) (by simp [go_sem, dq2, dq3]) ?_
              go_frame
              go_wp2
              go_roundw
              case rel => exact ⟨k + 1, _, by omega, by go_num, I2, own_ext hS3.row (ext_drew _), hS3.gr.trans (World.grownBy_any (World.grownBy_drew _))⟩
              case measure => (simp [intOf]; omega)
            · obtain rfl : k = j := by omega
              have kmk := S.cell E.mark E.ne.1
              have hfin := I.done hv h1.len
              have hext : Ext w wr := hE0.grown S.gr hE0.size (fun k e => by cases e; omega)
              have hrow := S.row
              go_wp2
              exact bodyPost_ret (v := .slice (some ⟨g, 0, none⟩) k k) (by simp [results, Try.results31, go_sem]) rfl ⟨_, ms, rfl, hrow, hfin, hext⟩
    · obtain ⟨hp1, hp2, hp3⟩ := hk p x hMp
      by_cases hx : 0 < x
      · obtain ⟨NM, G, N, hG, hlen⟩ := S.nr
        have B0 : CBase w A1 m c1 r1 r2 wr := ⟨S.b0, S.b2, S.ext⟩
        have hitl := S.it.lt
        have hl0 := B0.lt
        have hW1 : r1 < w.heap.size := hr1
        -- behind the step of the iterator
        have B1 := B0.turn hg1 (fun k e => by cases e; omega)
        have N1 : Near w1 (w.heap.size + 1) (w.heap.size + 1) NM G := N.keep hg1 (by intro e; have := Option.some.inj e; omega) (N.rows_ne (by
          intro cur f hh
          obtain ⟨l, cl, sn, _, _, hi, _⟩ := S.it
          rw [hi] at hh; cases hh))
        -- the pair's box, and the draw
        obtain ⟨W0, HW⟩ : ∃ W0, Hid (W0 = w1.alloc (.cells #[.int .i64 p.1, .int .i64 p.2] 42)) := ⟨_, rfl⟩
        have hx0 : Ext w1 W0 := by rw [HW.out]; exact ext_alloc _ _
        have hp0 : W0.cell? ⟨w1.heap.size, 0, none⟩ = some (.int .i64 p.1) := by rw [HW.out]; exact (cells_of (heap_alloc_new w1 _) 0 rfl).1
        have hp1' : W0.cell? ⟨w1.heap.size, 1, none⟩ = some (.int .i64 p.2) := by rw [HW.out]; exact (cells_of (heap_alloc_new w1 _) 1 rfl).1
        have hpt : ∀ cur f, W0.heap[w1.heap.size]? ≠ some (Obj.cells cur 3 f) := by rw [HW.out]; intro cur f hh; rw [heap_alloc_new] at hh; cases hh
        have BB0 : CBase w A1 m c1 r1 r2 W0 := B1.turn (b := none) ⟨hx0.os, hx0.tape, hx0.output, hx0.size, fun k hk _ => hx0.block k hk⟩ (fun k e => by cases e)
        have NN0 := N1.ext hx0
        have II0 : IterSt W0 (w.heap.size + 1 + 1 + 1) r1 kvP vvI WT (fun k' => k' = p ∨ D k') (c - 1) := hit1.same (hx0.block _ hit1.lt.1) (hx0.block _ hit1.lt.2.1)
        have HS1 := Lib.hid hs1
        have hit1l := hit1.lt
        clear hs1
        dsimp only [kvP, vvI] at hnx hent
        go_wp2
        rw [← HW.out]
        -- near[p.1] = append(near[p.1], p.2)
        have N0 := NN0.ext (ext_drew W0)
        have hnb0 : W0.drew.cell? ⟨w.heap.size + 1 + 1, 0, none⟩ = some (.map (some (w.heap.size + 1))) := (cells_of BB0.b2 0 rfl).1
        obtain ⟨u0, v0, x0, hlk0, happ0, hg20, hur0, hub0, W1, hup0, NN1, hg30⟩ := N0.app (by have := BB0.lt; show _ ≤ W0.heap.size; omega) (Nat.le_refl _) p.1 p.2 (by have := hlen p.1; omega)
        have hu0 : ∀ (k : Nat) (W : World), NCls W0.drew (W0.drew.alloc (.cells #[.int .i64 p.2] 3)) x0 k W → W0.drew.grownBy W u0.ownBlock := fun k W h => NCls.grown (World.grownBy_alloc _ _ _) hg20 h
        have hune0 : ∀ b, b = w1.heap.size ∨ b = w.heap.size + 1 + 1 → ∀ (k : Nat) (W : World) (v : Value) (o : Nat), NCls W0.drew (W0.drew.alloc (.cells #[.int .i64 p.2] 3)) x0 k W → W0.cell? ⟨b, o, none⟩ = some v → W.cell? ⟨b, o, none⟩ = some v := fun b hb k W v o h hc => (hu0 k W h).cell (show W0.drew.cell? _ = _ from hc) (fun e => by
          obtain ⟨_, cur, hh⟩ := hub0 b e.symm
          rcases hb with rfl | rfl
          · exact hpt _ _ hh
          · exact absurd (BB0.b2.symm.trans hh) (by intro e; cases e))
        have hmr0 : ∀ (k : Nat) (W : World), NCls W0.drew (W0.drew.alloc (.cells #[.int .i64 p.2] 3)) x0 k W → W.heap[w.heap.size + 1]? = W0.drew.heap[w.heap.size + 1]? := fun k W h => (hu0 k W h).block _ (by have := BB0.lt; show _ < W0.heap.size; omega) (Ne.symm hur0)
        refine wp_region_flow 11 [9, 10] (NCls W0.drew (W0.drew.alloc (.cells #[.int .i64 p.2] 3)) x0) (by kernel_rfl) (by kernel_rfl) rfl ?_
        simp only [List.take_succ_cons, List.take_zero, List.drop_succ_cons, List.drop_zero]
        refine flow_pure (.map (some (w.heap.size + 1))) rfl rfl (fun k W hW => by simp [go_sem, hune0 _ (.inr rfl) k W _ _ hW hnb0]) ?_
        refine flow_pure (.pointer (some ⟨w1.heap.size, 0, none⟩)) rfl rfl (fun k W hW => by simp [go_sem]) ?_
        refine flow_pure (.int .i64 p.1) rfl rfl (fun k W hW => by simp [go_sem, hune0 _ (.inl rfl) k W _ _ hW hp0]) ?_
        refine flow_pure (.map (some (w.heap.size + 1))) rfl rfl (fun k W hW => by simp [go_sem, hune0 _ (.inr rfl) k W _ _ hW hnb0]) ?_
        refine flow_pure (.pointer (some ⟨w1.heap.size, 0, none⟩)) rfl rfl (fun k W hW => by simp [go_sem]) ?_
        refine flow_pure (.int .i64 p.1) rfl rfl (fun k W hW => by simp [go_sem, hune0 _ (.inl rfl) k W _ _ hW hp0]) ?_
        refine flow_pure u0 rfl rfl (fun k W hW => by simp [go_sem, hlk0 W (hmr0 k W hW)]) ?_
        refine flow_pure (.pointer (some ⟨w1.heap.size, 1, none⟩)) rfl rfl (fun k W hW => by simp [go_sem]) ?_
        refine flow_pure (.int .i64 p.2) rfl rfl (fun k W hW => by simp [go_sem, hune0 _ (.inl rfl) k W _ _ hW hp1']) ?_
        refine flow_mark 0 (.slice (some ⟨W0.drew.heap.size, 0, none⟩) 1 1) rfl rfl (fun W hW => ⟨W0.drew.alloc (.cells #[.int .i64 p.2] 3), by obtain rfl : W = W0.drew := hW; simp [go_sem], rfl⟩) ?_
        refine flow_mark 1 v0 rfl rfl (fun W hW => ⟨x0, by obtain rfl : W = W0.drew.alloc (.cells #[.int .i64 p.2] 3) := hW; exact run_app happ0 rfl (by simp [go_sem]) (by simp [go_sem]), rfl⟩) ?_
        refine flow_nil fun W hW => ?_
        obtain rfl : W = x0 := hW
        go_frame
        refine wpList_skip rfl (w' := W1) (by simp [go_sem, hup0]) ?_
        go_frame
        go_wp2
        have hK0 := fun {b : Nat} (hb : b < W0.heap.size) (hne : b ≠ w.heap.size + 1) (ht : ∀ cur f, W0.heap[b]? ≠ some (Obj.cells cur 3 f)) => step_keep hg20 hub0 hg30 hb hne ht
        have BB1 : CBase w A1 m c1 r1 r2 W1 := ⟨(hK0 (by have := BB0.lt; omega) (by omega) (by intro cur f e; rw [BB0.b0] at e; cases e)).trans BB0.b0, (hK0 (by have := BB0.lt; omega) (by omega) (by intro cur f e; rw [BB0.b2] at e; cases e)).trans BB0.b2,
          (Below.trans BB0.ext (((ext_drew W0).mono BB0.ext.size))).grown hg20 (BB0.ext.size) (fun k e => by have := (hub0 k e).1; omega) |>.grown hg30 (Nat.le_trans BB0.ext.size hg20.size) (fun k e => by cases e; omega)⟩
        have hIt0 : ∀ cur f, W0.heap[w.heap.size + 1 + 1 + 1]? ≠ some (Obj.cells cur 3 f) := by
          obtain ⟨_, _, _, _, _, hi, _⟩ := II0
          intro cur f e; rw [hi] at e; cases e
        have II1 := II0.same (hK0 II0.lt.1 (by omega) hIt0) (hK0 II0.lt.2.1 (by omega) (fun cur f => II0.map.not_cells _ _ _))
        have hpk : W1.heap[w1.heap.size]? = W0.heap[w1.heap.size]? := hK0 (World.block_lt_of_cell? _ _ hp0) (by omega) hpt
        have hpt1 : ∀ cur f, W1.heap[w1.heap.size]? ≠ some (Obj.cells cur 3 f) := by rw [hpk]; exact hpt
        have hp01 : W1.cell? ⟨w1.heap.size, 0, none⟩ = some (.int .i64 p.1) := by rw [← hp0]; unfold World.cell?; dsimp only; rw [hpk]
        have hp11 : W1.cell? ⟨w1.heap.size, 1, none⟩ = some (.int .i64 p.2) := by rw [← hp1']; unfold World.cell?; dsimp only; rw [hpk]
        -- near[p.2] = append(near[p.2], p.1)
        have N1 := NN1.ext (ext_drew W1)
        have hnb1 : W1.drew.cell? ⟨w.heap.size + 1 + 1, 0, none⟩ = some (.map (some (w.heap.size + 1))) := (cells_of BB1.b2 0 rfl).1
        obtain ⟨u1, v1, x1, hlk1, happ1, hg21, hur1, hub1, W2, hup1, NN2, hg31⟩ := N1.app (by have := BB1.lt; show _ ≤ W1.heap.size; omega) (Nat.le_refl _) p.2 p.1 (by have := hlen p.2; have hne : ¬ p.2 = p.1 := (by omega); rw [if_neg hne]; omega)
        have hu1 : ∀ (k : Nat) (W : World), NCls W1.drew (W1.drew.alloc (.cells #[.int .i64 p.1] 3)) x1 k W → W1.drew.grownBy W u1.ownBlock := fun k W h => NCls.grown (World.grownBy_alloc _ _ _) hg21 h
        have hune1 : ∀ b, b = w1.heap.size ∨ b = w.heap.size + 1 + 1 → ∀ (k : Nat) (W : World) (v : Value) (o : Nat), NCls W1.drew (W1.drew.alloc (.cells #[.int .i64 p.1] 3)) x1 k W → W1.cell? ⟨b, o, none⟩ = some v → W.cell? ⟨b, o, none⟩ = some v := fun b hb k W v o h hc => (hu1 k W h).cell (show W1.drew.cell? _ = _ from hc) (fun e => by
          obtain ⟨_, cur, hh⟩ := hub1 b e.symm
          rcases hb with rfl | rfl
          · exact hpt1 _ _ hh
          · exact absurd (BB1.b2.symm.trans hh) (by intro e; cases e))
        have hmr1 : ∀ (k : Nat) (W : World), NCls W1.drew (W1.drew.alloc (.cells #[.int .i64 p.1] 3)) x1 k W → W.heap[w.heap.size + 1]? = W1.drew.heap[w.heap.size + 1]? := fun k W h => (hu1 k W h).block _ (by have := BB1.lt; show _ < W1.heap.size; omega) (Ne.symm hur1)
        refine wp_region_flow 11 [9, 10] (NCls W1.drew (W1.drew.alloc (.cells #[.int .i64 p.1] 3)) x1) (by kernel_rfl) (by kernel_rfl) rfl ?_
        simp only [List.take_succ_cons, List.take_zero, List.drop_succ_cons, List.drop_zero]
        refine flow_pure (.map (some (w.heap.size + 1))) rfl rfl (fun k W hW => by simp [go_sem, hune1 _ (.inr rfl) k W _ _ hW hnb1]) ?_
        refine flow_pure (.pointer (some ⟨w1.heap.size, 1, none⟩)) rfl rfl (fun k W hW => by simp [go_sem]) ?_
        refine flow_pure (.int .i64 p.2) rfl rfl (fun k W hW => by simp [go_sem, hune1 _ (.inl rfl) k W _ _ hW hp11]) ?_
        refine flow_pure (.map (some (w.heap.size + 1))) rfl rfl (fun k W hW => by simp [go_sem, hune1 _ (.inr rfl) k W _ _ hW hnb1]) ?_
        refine flow_pure (.pointer (some ⟨w1.heap.size, 1, none⟩)) rfl rfl (fun k W hW => by simp [go_sem]) ?_
        refine flow_pure (.int .i64 p.2) rfl rfl (fun k W hW => by simp [go_sem, hune1 _ (.inl rfl) k W _ _ hW hp11]) ?_
        refine flow_pure u1 rfl rfl (fun k W hW => by simp [go_sem, hlk1 W (hmr1 k W hW)]) ?_
        refine flow_pure (.pointer (some ⟨w1.heap.size, 0, none⟩)) rfl rfl (fun k W hW => by simp [go_sem]) ?_
        refine flow_pure (.int .i64 p.1) rfl rfl (fun k W hW => by simp [go_sem, hune1 _ (.inl rfl) k W _ _ hW hp01]) ?_
        refine flow_mark 0 (.slice (some ⟨W1.drew.heap.size, 0, none⟩) 1 1) rfl rfl (fun W hW => ⟨W1.drew.alloc (.cells #[.int .i64 p.1] 3), by obtain rfl : W = W1.drew := hW; simp [go_sem], rfl⟩) ?_
        refine flow_mark 1 v1 rfl rfl (fun W hW => ⟨x1, by obtain rfl : W = W1.drew.alloc (.cells #[.int .i64 p.1] 3) := hW; exact run_app happ1 rfl (by simp [go_sem]) (by simp [go_sem]), rfl⟩) ?_
        refine flow_nil fun W hW => ?_
        obtain rfl : W = x1 := hW
        go_frame
        refine wpList_skip rfl (w' := W2) (by simp [go_sem, hup1]) ?_
        go_frame
        go_wp2
        have hK1 := fun {b : Nat} (hb : b < W1.heap.size) (hne : b ≠ w.heap.size + 1) (ht : ∀ cur f, W1.heap[b]? ≠ some (Obj.cells cur 3 f)) => step_keep hg21 hub1 hg31 hb hne ht
        have BB2 : CBase w A1 m c1 r1 r2 W2 := ⟨(hK1 (by have := BB1.lt; omega) (by omega) (by intro cur f e; rw [BB1.b0] at e; cases e)).trans BB1.b0, (hK1 (by have := BB1.lt; omega) (by omega) (by intro cur f e; rw [BB1.b2] at e; cases e)).trans BB1.b2,
          (Below.trans BB1.ext (((ext_drew W1).mono BB1.ext.size))).grown hg21 (BB1.ext.size) (fun k e => by have := (hub1 k e).1; omega) |>.grown hg31 (Nat.le_trans BB1.ext.size hg21.size) (fun k e => by cases e; omega)⟩
        have hIt1 : ∀ cur f, W1.heap[w.heap.size + 1 + 1 + 1]? ≠ some (Obj.cells cur 3 f) := by
          obtain ⟨_, _, _, _, _, hi, _⟩ := II1
          intro cur f e; rw [hi] at e; cases e
        have II2 := II1.same (hK1 II1.lt.1 (by omega) hIt1) (hK1 II1.lt.2.1 (by omega) (fun cur f => II1.map.not_cells _ _ _))
        have hne : ¬ p.2 = p.1 := by omega
        have hfin : CSt w A1 m c1 r1 r2 WT (fun k' => k' = p ∨ D k') (c - 1) n0 W2 := by
          refine ⟨BB2.b0, BB2.b2, II2, ⟨_, _, NN2, near_mem hp3 hMp hx hG (fun k d => ?_), fun k => ?_⟩, BB2.ext⟩
          · by_cases e2 : k = p.2
            · subst e2
              simp only [if_true, hne, if_false, List.mem_append, List.mem_singleton, false_and, false_or, true_and]
            · by_cases e1 : k = p.1
              · simp only [e2, if_false, e1, if_true, List.mem_append, List.mem_singleton, true_and, false_and, or_false]
                have : ¬ p.1 = p.2 := by omega
                simp only [this, false_and, or_false, if_false]
                simp
              · simp only [e2, e1, if_false, false_and, or_false]
          · have h1 := hlen k
            have h2 := hlen p.1
            have h3 := hlen p.2
            by_cases e2 : k = p.2
            · subst e2
              simp only [if_true, hne, if_false, List.length_append, List.length_singleton]; omega
            · by_cases e1 : k = p.1
              · subst e1
                simp only [e2, if_false, if_true, List.length_append, List.length_singleton]; omega
              · simp only [e2, e1, if_false]; omega
        go_roundg (c - 1)
        case measure => omega
        case rel => exact ⟨_, c - 1, Nat.le_refl _, hfin⟩
      · obtain ⟨NM, G, N, hG, hlen⟩ := S.nr
        have B0 : CBase w A1 m c1 r1 r2 wr := ⟨S.b0, S.b2, S.ext⟩
        have hitl := S.it.lt
        have hl0 := B0.lt
        have B1 := B0.turn hg1 (fun k e => by cases e; omega)
        have N1 : Near w1 (w.heap.size + 1) (w.heap.size + 1) NM G := N.keep hg1 (by intro e; have := Option.some.inj e; omega) (N.rows_ne (by
          intro cur f hh
          obtain ⟨l, cl, sn, _, _, hi, _⟩ := S.it
          rw [hi] at hh; cases hh))
        have hx0 : Ext w1 (w1.alloc (.cells #[.int .i64 p.1, .int .i64 p.2] 42)) := ext_alloc _ _
        have hfin : CSt w A1 m c1 r1 r2 WT (fun k' => k' = p ∨ D k') (c - 1) n0 (w1.alloc (.cells #[.int .i64 p.1, .int .i64 p.2] 42)) :=
          ⟨(hx0.block _ (by have := B1.lt; omega)).trans B1.b0, (hx0.block _ (by have := B1.lt; omega)).trans B1.b2, hit1.same (hx0.block _ hit1.lt.1) (hx0.block _ hit1.lt.2.1),
            ⟨_, _, N1.ext hx0, near_skip hMp hx hG, fun k => by have := hlen k; omega⟩, Ext.trans B1.ext hx0⟩
        have HF := Lib.hid hfin
        clear hfin hx0 N1 B1 B0 N hG hlen hD hg1 hit1 hs1 S
        dsimp only [kvP, vvI] at hnx hent
        go_wp2
        go_roundg (c - 1)
        case measure => omega
        case rel => exact ⟨_, c - 1, Nat.le_refl _, HF.out⟩

end Go.Proofs.Ytiapdpbcnbgdmaa
