import Derived.Test.YtiapdpbcnbgdmaaYa
import Derived.Test.YtiapdpbcnbgdmaaKd
import Derived.Test.YtiapdpbcnbgdmaaB
import Derived.Deep.Slices
import Derived.SizedLaws
import Derived.OpenShut
set_option linter.unusedVariables false
set_option linter.unusedSimpArgs false
namespace Go.Proofs.Ytiapdpbcnbgdmaa
open Go.RowKit

/-! What the fixed examples come to. -/
theorem marks3 {es : List E3} {ms : List Int} (h : MarksOf es [0, 1, 2] ms) (h1 : Adj (wTo es [0, 1, 2] es.length) 0 1) (h2 : Adj (wTo es [0, 1, 2] es.length) 1 2) : ms = [0, 0, 0] := by
  obtain ⟨hl, hm⟩ := h
  have hl : ms.length = 3 := hl
  have c1 : Conn (Adj (wTo es [0, 1, 2] es.length)) 0 1 := Conn.refl.step h1
  have c2 : Conn (Adj (wTo es [0, 1, 2] es.length)) 0 2 := c1.step h2
  have key : ∀ i : Nat, i < 3 → nth [0, 1, 2] i = i → Conn (Adj (wTo es [0, 1, 2] es.length)) 0 i → nth ms i = 0 := fun i hi hs hc => by
    obtain ⟨k1, k2, k3⟩ := hm i hi
    have := k3 0 (k2.trans (by rw [hs]; exact hc.symm Adj.symm'))
    have := k1.1
    omega
  refine nth_ext hl fun k hk => ?_
  have e0 := key 0 (by omega) rfl .refl
  have e1 := key 1 (by omega) rfl c1
  have e2 := key 2 (by omega) rfl c2
  rw [hl] at hk
  match k, hk with
  | 0, _ => exact e0
  | 1, _ => exact e1
  | 2, _ => exact e2
theorem answer3 {es : List E3} {ps : List (Int × Int)} {x y z l : Int} (h1 : Adj (wTo es [0, 1, 2] es.length) 0 1) (h2 : Adj (wTo es [0, 1, 2] es.length) 1 2) (hb : bestOf (wTo es [0, 1, 2] es.length) [0, 1, 2] 3 (enum (aTo ps [0, 1, 2] ps.length) [0, 1, 2] 3 []) = some ([x, y, z], l)) :
    ∀ ent, ClusterP es [0, 1, 2] ps ent → ent = [x, y, z] := by
  rintro ent ⟨ms, H, hm, hs, rfl⟩
  obtain rfl := marks3 hm h1 h2
  obtain ⟨hs', hS, hH⟩ := hs 0 (by decide)
  have hcl : clsOf [0, 1, 2] [0, 0, 0] ([0, 1, 2] : List Int).length 0 = [0, 1, 2] := by decide
  rw [hcl] at hS hH
  have he : hs' = [x, y, z] := by
    rcases hS with ⟨_, l', h⟩ | ⟨h, _⟩
    · have h : bestOf (wTo es [0, 1, 2] es.length) [0, 1, 2] 3 (enum (aTo ps [0, 1, 2] ps.length) [0, 1, 2] 3 []) = some (hs', l') := h
      rw [hb] at h
      exact (congrArg Prod.fst (Option.some.inj h)).symm
    · exact absurd h (by decide)
  subst he
  have a0 := hH 0 (by decide)
  have a1 := hH 1 (by decide)
  have a2 := hH 2 (by decide)
  have a0 : nth H 0 = x := a0
  have a1 : nth H 1 = y := a1
  have a2 : nth H 2 = z := a2
  show [nth H 0, nth H 1, nth H 2] = [x, y, z]
  rw [a0, a1, a2]
theorem ex1 : ∀ ent, ClusterP [⟨0, 1, 5⟩, ⟨1, 2, 4⟩, ⟨0, 2, -3⟩] [0, 1, 2] [] ent → ent = [0, 0, 0] :=
  answer3 (l := -6) ⟨5, by decide, .inl (by decide)⟩ ⟨4, by decide, .inl (by decide)⟩ (by kernel_rfl)
theorem ex2 : ∀ ent, ClusterP [⟨0, 1, 5⟩, ⟨1, 2, 4⟩, ⟨0, 2, -6⟩] [0, 1, 2] [] ent → ent = [0, 0, 2] :=
  answer3 (l := -5) ⟨5, by decide, .inl (by decide)⟩ ⟨4, by decide, .inl (by decide)⟩ (by kernel_rfl)
theorem ex3 : ∀ ent, ClusterP [⟨0, 1, 5⟩, ⟨1, 2, 5⟩, ⟨0, 2, -6⟩] [0, 1, 2] [] ent → ent = [0, 0, 2] :=
  answer3 (l := -5) ⟨5, by decide, .inl (by decide)⟩ ⟨5, by decide, .inl (by decide)⟩ (by kernel_rfl)
theorem ex4 : ∀ ent, ClusterP [⟨0, 1, 5⟩, ⟨1, 2, 4⟩, ⟨0, 2, -3⟩] [0, 1, 2] [(0, 1)] ent → ent = [0, 1, 1] :=
  answer3 (l := -4) ⟨5, by decide, .inl (by decide)⟩ ⟨4, by decide, .inl (by decide)⟩ (by kernel_rfl)
theorem ex5 : ∀ ent, ClusterP [⟨0, 2, -9⟩] [0, 1, 0] [] ent → ent = [0, 1, 0] := by
  rintro ent ⟨ms, H, hm, hs, rfl⟩
  have hno : ∀ a b, ¬ Adj (wTo [⟨0, 2, -9⟩] [0, 1, 0] 1) a b := by
    rintro a b ⟨x, _, h⟩
    have : ∀ p, wTo [⟨0, 2, -9⟩] [0, 1, 0] 1 p = none := fun p => by
      rw [wTo]
      rw [if_neg (fun h => h.1 (by decide))]
      rfl
    rw [this, this] at h
    simp at h
  have hc : ∀ a b, Conn (Adj (wTo [⟨0, 2, -9⟩] [0, 1, 0] 1)) a b → a = b := fun a b h => by
    cases h with
    | refl => rfl
    | step _ h => exact absurd h (hno _ _)
  obtain rfl : ms = [0, 1, 0] := by
    refine nth_ext hm.1 fun k hk => ?_
    have hk : k < 3 := by rw [hm.1] at hk; exact hk
    rw [hc _ _ (hm.2 k hk).2.1]
  obtain ⟨h0, hS0, hH0⟩ := hs 0 (by decide)
  obtain ⟨h1, hS1, hH1⟩ := hs 1 (by decide)
  have e0 : h0 = [0] := by
    rcases hS0 with ⟨_, l', h⟩ | ⟨h, _⟩
    · have hb : bestOf (wTo [⟨0, 2, -9⟩] [0, 1, 0] 1) [0] 1 (enum (aTo [] [0, 1, 0] 0) [0] 1 []) = some ([0], 0) := by kernel_rfl
      have h : bestOf (wTo [⟨0, 2, -9⟩] [0, 1, 0] 1) [0] 1 (enum (aTo [] [0, 1, 0] 0) [0] 1 []) = some (h0, l') := h
      rw [hb] at h
      exact (congrArg Prod.fst (Option.some.inj h)).symm
    · exact absurd h (by decide)
  have e1 : h1 = [1] := by
    rcases hS1 with ⟨_, l', h⟩ | ⟨h, _⟩
    · have hb : bestOf (wTo [⟨0, 2, -9⟩] [0, 1, 0] 1) [1] 1 (enum (aTo [] [0, 1, 0] 0) [1] 1 []) = some ([1], 0) := by kernel_rfl
      have h : bestOf (wTo [⟨0, 2, -9⟩] [0, 1, 0] 1) [1] 1 (enum (aTo [] [0, 1, 0] 0) [1] 1 []) = some (h1, l') := h
      rw [hb] at h
      exact (congrArg Prod.fst (Option.some.inj h)).symm
    · exact absurd h (by decide)
  subst e0 e1
  have a0 : nth H 0 = 0 := hH0 0 (by decide)
  have a1 : nth H 1 = 1 := hH1 0 (by decide)
  show [nth H 0, nth H 1, nth H 0] = [0, 1, 0]
  rw [a0, a1]
theorem comps3 {ms : List Int} (h : MarksOf [⟨0, 1, 5⟩, ⟨1, 2, 4⟩, ⟨0, 2, -3⟩] [0, 1, 2] ms) : (memTo ms 3).length = 1 := by
  obtain rfl := marks3 h ⟨5, by decide, .inl (by decide)⟩ ⟨4, by decide, .inl (by decide)⟩
  decide

end Go.Proofs.Ytiapdpbcnbgdmaa

set_option linter.unusedVariables false
set_option linter.unusedSimpArgs false
namespace Go.Proofs.Ytiapdpbcnbgdmaa
open Go.RowKit

theorem reads3 {W : World} {b : Nat} {x y z : Int} (h : W.heap[b]? = some (.cells #[.int .i64 x, .int .i64 y, .int .i64 z] 3 (0, 0))) : RInts W (some ⟨b, 0, none⟩) 3 [x, y, z] := by
  refine ⟨rfl, by omega, fun _ => ⟨b, 0, rfl, fun j hj => ?_⟩⟩
  match j, hj with
  | 0, _ => exact (cells_of h 0 rfl).1
  | 1, _ => exact (cells_of h 1 rfl).1
  | 2, _ => exact (cells_of h 2 rfl).1
theorem readsE3 {W : World} {b : Nat} {e1 e2 e3 : E3} (h : W.heap[b]? = some (.cells #[.int .i64 e1.a, .int .i64 e1.b, .int .i64 e1.w, .int .i64 e2.a, .int .i64 e2.b, .int .i64 e2.w, .int .i64 e3.a, .int .i64 e3.b, .int .i64 e3.w] 40 (0, 0))) : REdges W (some ⟨b, 0, none⟩) 3 [e1, e2, e3] := by
  refine ⟨rfl, by omega, fun _ => ⟨b, 0, rfl, fun j hj => ?_⟩⟩
  match j, hj with
  | 0, _ => exact ⟨(cells_of h 0 rfl).1, (cells_of h 1 rfl).1, (cells_of h 2 rfl).1⟩
  | 1, _ => exact ⟨(cells_of h 3 rfl).1, (cells_of h 4 rfl).1, (cells_of h 5 rfl).1⟩
  | 2, _ => exact ⟨(cells_of h 6 rfl).1, (cells_of h 7 rfl).1, (cells_of h 8 rfl).1⟩
theorem readsE1 {W : World} {b : Nat} {e1 : E3} (h : W.heap[b]? = some (.cells #[.int .i64 e1.a, .int .i64 e1.b, .int .i64 e1.w] 40 (0, 0))) : REdges W (some ⟨b, 0, none⟩) 1 [e1] := by
  refine ⟨rfl, by omega, fun _ => ⟨b, 0, rfl, fun j hj => ?_⟩⟩
  match j, hj with
  | 0, _ => exact ⟨(cells_of h 0 rfl).1, (cells_of h 1 rfl).1, (cells_of h 2 rfl).1⟩
theorem readsP1 {W : World} {b : Nat} {x y : Int} (h : W.heap[b]? = some (.cells #[.int .i64 x, .int .i64 y] 42 (0, 0))) : RPairs W (some ⟨b, 0, none⟩) 1 [(x, y)] := by
  refine ⟨rfl, by omega, fun _ => ⟨b, 0, rfl, fun j hj => ?_⟩⟩
  match j, hj with
  | 0, _ => exact ⟨(cells_of h 0 rfl).1, (cells_of h 1 rfl).1⟩
theorem readsP0 (W : World) : RPairs W none 0 [] := ⟨rfl, by omega, fun h => absurd h (by omega)⟩
theorem heap_new2 (w : World) (o1 o2 : Obj) : ((w.alloc o1).alloc o2).heap[w.heap.size + 1]? = some o2 := by
  have := heap_alloc_new (w.alloc o1) o2
  rwa [World.size_alloc] at this
theorem heap_new3 (w : World) (o1 o2 o3 : Obj) : (((w.alloc o1).alloc o2).alloc o3).heap[w.heap.size + 1 + 1]? = some o3 := by
  have := heap_new2 (w.alloc o1) o2 o3
  rwa [World.size_alloc] at this
theorem ext_lt {w w' : World} {k : Nat} (h : Ext w w') (hk : k < w.heap.size) : k < w'.heap.size := Nat.lt_of_lt_of_le hk h.size
theorem at_lt {w : World} {k : Nat} {o : Obj} (h : w.heap[k]? = some o) : k < w.heap.size := (Array.getElem?_eq_some_iff.1 h).1
theorem at_ext {w w' : World} {k : Nat} {o : Obj} (h : w.heap[k]? = some o) (hx : Ext w w') : w'.heap[k]? = some o := (hx.block k (at_lt h)).trans h
theorem at_new {w : World} {k : Nat} {o : Obj} (h : w.heap[k]? = some o) (o' : Obj) : (w.alloc o').heap[k]? = some o := at_ext h (ext_alloc _ _)
set_option maxHeartbeats 8000000 in
theorem head_any (w : World) : Calls Try.prog 10 #[] w fun e w' => e = .returned (.bool true) ∧ Ext w w' := by
  have F1 := heap_alloc_new w (.cells #[.int .i64 0, .int .i64 1, .int .i64 2] 3)
  have X0 := ext_alloc w (.cells #[.int .i64 0, .int .i64 1, .int .i64 2] 3)
  have X : Ext (w.alloc (.cells #[.int .i64 0, .int .i64 1, .int .i64 2] 3)) (w.alloc (.cells #[.int .i64 0, .int .i64 1, .int .i64 2] 3)) := ⟨rfl, rfl, rfl, Nat.le_refl _, fun _ _ => rfl⟩
  have hXe := X0
  go_enter Try.func10, Try.ntmps10
  go_wp2_with (go_at_call 23; refine (edge_any _ _ _ _).mono ?_; rintro e wn ⟨rfl, hxn⟩; first | replace X := Ext.trans X hxn | replace X := Ext.trans (Ext.trans X (ext_alloc _ _)) hxn)
  -- the first question
  have F1a := at_ext F1 X
  refine (is_any _ _ _ [⟨0, 1, 5⟩, ⟨1, 2, 4⟩, ⟨0, 2, -3⟩] _ _ _ [0, 1, 2] _ _ _ [] _ _ _ [0, 0, 0] _ (readsE3 (at_new (heap_alloc_new wn _) _)) (reads3 (at_new (at_new F1a _) _)) (readsP0 _) (reads3 (heap_new2 wn _ _)) (by omega) (by omega) (by decide) ex1).mono ?_
  rintro e W1 ⟨rfl, hW1⟩
  have F1b := at_ext (at_new (at_new F1a _) _) hW1
  have F2b := at_ext (at_new (heap_alloc_new wn _) _) hW1
  have XA : Ext w W1 := Ext.trans (Ext.trans (Ext.trans (Ext.trans X0 X) (ext_alloc _ _)) (ext_alloc _ _)) hW1
  generalize hb2 : wn.heap.size = b2 at *
  clear X hxn hW1 F1a
  have X : Ext W1 W1 := ⟨rfl, rfl, rfl, Nat.le_refl _, fun _ _ => rfl⟩
  go_wp2_with (go_at_call 23; refine (edge_any _ _ _ _).mono ?_; rintro e wn ⟨rfl, hxn⟩; first | replace X := Ext.trans X hxn | replace X := Ext.trans (Ext.trans X (ext_alloc _ _)) hxn)
  -- the second question
  replace F1b := at_ext F1b X
  replace F2b := at_ext F2b X
  refine (is_any _ _ _ [⟨0, 1, 5⟩, ⟨1, 2, 4⟩, ⟨0, 2, -6⟩] _ _ _ [0, 1, 2] _ _ _ [] _ _ _ [0, 0, 2] _ (readsE3 (at_new (heap_alloc_new wn _) _)) (reads3 (at_new (at_new F1b _) _)) (readsP0 _) (reads3 (heap_new2 wn _ _)) (by omega) (by omega) (by decide) ex2).mono ?_
  rintro e W2 ⟨rfl, hW2⟩
  replace F1b := at_ext (at_new (at_new F1b _) _) hW2
  replace F2b := at_ext (at_new (at_new F2b _) _) hW2
  replace XA : Ext w W2 := Ext.trans (Ext.trans (Ext.trans (Ext.trans XA X) (ext_alloc _ _)) (ext_alloc _ _)) hW2
  generalize hb3 : wn.heap.size = b3 at *
  clear X hxn hW2
  have X : Ext W2 W2 := ⟨rfl, rfl, rfl, Nat.le_refl _, fun _ _ => rfl⟩
  go_wp2_with (go_at_call 23; refine (edge_any _ _ _ _).mono ?_; rintro e wn ⟨rfl, hxn⟩; first | replace X := Ext.trans X hxn | replace X := Ext.trans (Ext.trans X (ext_alloc _ _)) hxn)
  -- the third question
  replace F1b := at_ext F1b X
  replace F2b := at_ext F2b X
  refine (is_any _ _ _ [⟨0, 1, 5⟩, ⟨1, 2, 5⟩, ⟨0, 2, -6⟩] _ _ _ [0, 1, 2] _ _ _ [] _ _ _ [0, 0, 2] _ (readsE3 (at_new (heap_alloc_new wn _) _)) (reads3 (at_new (at_new F1b _) _)) (readsP0 _) (reads3 (heap_new2 wn _ _)) (by omega) (by omega) (by decide) ex3).mono ?_
  rintro e W3 ⟨rfl, hW3⟩
  replace F1b := at_ext (at_new (at_new F1b _) _) hW3
  replace F2b := at_ext (at_new (at_new F2b _) _) hW3
  replace XA : Ext w W3 := Ext.trans (Ext.trans (Ext.trans (Ext.trans XA X) (ext_alloc _ _)) (ext_alloc _ _)) hW3
  generalize hb4 : wn.heap.size = b4 at *
  clear X hxn hW3
  have h4 := fun (A : Option Addr) (c : Nat) (A1 : Option Addr) (c1 : Nat) (A2 : Option Addr) (c2 : Nat) (A3 : Option Addr) (c3 : Nat) (W : World) (h : REdges W A 3 _) (h1 : RInts W A1 3 _) (h2 : RPairs W A2 1 _) (h3 : RInts W A3 3 _) => is_any A 3 c [⟨0, 1, 5⟩, ⟨1, 2, 4⟩, ⟨0, 2, -3⟩] A1 3 c1 [0, 1, 2] A2 1 c2 [(0, 1)] A3 3 c3 [0, 1, 1] W h h1 h2 h3 (by omega) (by omega) (by decide) ex4
  go_wp2_with (go_at_call 24; refine (h4 _ _ _ _ _ _ _ _ _ (readsE3 (at_new (at_new F2b _) _)) (reads3 (at_new (at_new F1b _) _)) (readsP1 (at_new (heap_alloc_new W3 _) _)) (reads3 (heap_new2 W3 _ _))).mono ?_; rintro e W4 ⟨rfl, hW4⟩)
  replace F1b := at_ext (at_new (at_new F1b _) _) hW4
  replace F2b := at_ext (at_new (at_new F2b _) _) hW4
  replace XA : Ext w W4 := Ext.trans (Ext.trans (Ext.trans XA (ext_alloc _ _)) (ext_alloc _ _)) hW4
  clear hW4 h4
  have h5 := fun (A : Option Addr) (c : Nat) (A1 : Option Addr) (c1 : Nat) (A3 : Option Addr) (c3 : Nat) (W : World) (h : REdges W A 1 _) (h1 : RInts W A1 3 _) (h3 : RInts W A3 3 _) => is_any A 1 c [⟨0, 2, -9⟩] A1 3 c1 [0, 1, 0] none 0 0 [] A3 3 c3 [0, 1, 0] W h h1 (readsP0 W) h3 (by omega) (by omega) (by decide) ex5
  go_wp2_with (first
    | (go_at_call 23; refine (edge_any _ _ _ _).mono ?_; rintro e wn ⟨rfl, hxn⟩)
    | (go_at_call 24; refine (h5 _ _ _ _ _ _ _ (readsE1 (at_new (at_new (heap_alloc_new wn _) _) _)) (reads3 (at_new (heap_new2 wn _ _) _)) (reads3 (heap_new3 wn _ _ _))).mono ?_; rintro e W5 ⟨rfl, hW5⟩))
  replace F1b := at_ext (at_new (at_new (at_new (at_ext F1b hxn) _) _) _) hW5
  replace F2b := at_ext (at_new (at_new (at_new (at_ext F2b hxn) _) _) _) hW5
  replace XA : Ext w W5 := Ext.trans (Ext.trans (Ext.trans (Ext.trans (Ext.trans XA hxn) (ext_alloc _ _)) (ext_alloc _ _)) (ext_alloc _ _)) hW5
  have hbad : goodB [⟨0, 1, 5⟩, ⟨1, 2, 4⟩, ⟨0, 2, -3⟩] [0, 0, 1] [] = false := by decide
  have hc6 := cluster_any (some ⟨b2, 0, none⟩) 3 3 [⟨0, 1, 5⟩, ⟨1, 2, 4⟩, ⟨0, 2, -3⟩] (some ⟨W5.heap.size, 0, none⟩) 3 3 [0, 0, 1] none 0 0 [] (W5.alloc (.cells #[.int .i64 0, .int .i64 0, .int .i64 1] 3)) (readsE3 (at_new F2b _)) (reads3 (heap_alloc_new _ _)) (readsP0 _) (by omega) (by omega)
  simp only [hbad, Bool.false_eq_true, if_false] at hc6
  clear h5 hW5 hxn
  go_wp2_with (go_at_call 12; refine hc6.mono ?_; rintro e W6 ⟨v, k, rfl, hW6, rfl, rfl⟩)
  replace F1b := at_ext (at_new F1b _) hW6
  replace F2b := at_ext (at_new F2b _) hW6
  replace XA : Ext w W6 := Ext.trans (Ext.trans XA (ext_alloc _ _)) hW6
  clear hc6 hW6 hbad
  have e7 : costTo [⟨0, 1, 5⟩, ⟨1, 2, 4⟩, ⟨0, 2, -3⟩] [0, 0, 0] 3 = 3 := by kernel_rfl
  have e8 : costTo [⟨0, 1, 5⟩, ⟨1, 2, 4⟩, ⟨0, 2, -3⟩] [0, 0, 2] 3 = 4 := by kernel_rfl
  have hc7 := cost_any (some ⟨b2, 0, none⟩) 3 3 [⟨0, 1, 5⟩, ⟨1, 2, 4⟩, ⟨0, 2, -3⟩] (some ⟨W6.heap.size, 0, none⟩) 3 3 [0, 0, 0] (W6.alloc (.cells #[.int .i64 0, .int .i64 0, .int .i64 0] 3)) (readsE3 (at_new F2b _)) (reads3 (heap_alloc_new _ _))
  rw [e7] at hc7
  go_wp2_with (go_at_call 15; refine hc7.mono ?_; clear hc7; rintro e W7 ⟨rfl, hW7⟩)
  replace F1b := at_ext (at_new F1b _) hW7
  replace F2b := at_ext (at_new F2b _) hW7
  replace XA : Ext w W7 := Ext.trans (Ext.trans XA (ext_alloc _ _)) hW7
  clear hW7
  have hc8 := cost_any (some ⟨b2, 0, none⟩) 3 3 [⟨0, 1, 5⟩, ⟨1, 2, 4⟩, ⟨0, 2, -3⟩] (some ⟨W7.heap.size, 0, none⟩) 3 3 [0, 0, 2] (W7.alloc (.cells #[.int .i64 0, .int .i64 0, .int .i64 2] 3)) (readsE3 (at_new F2b _)) (reads3 (heap_alloc_new _ _))
  rw [e8] at hc8
  refine hc8.mono ?_
  rintro e W8 ⟨rfl, hW8⟩
  replace F1b := at_ext (at_new F1b _) hW8
  replace F2b := at_ext (at_new F2b _) hW8
  replace XA : Ext w W8 := Ext.trans (Ext.trans XA (ext_alloc _ _)) hW8
  clear hc8 hW8
  have e9 : allowedB [0, 1, 2] [(0, 1)] [0, 1, 1] = true := by decide
  have e10 : allowedB [0, 1, 2] [(0, 1)] [0, 0, 2] = false := by decide
  have hc9 := allowed_any (some ⟨w.heap.size, 0, none⟩) 3 3 [0, 1, 2] (some ⟨W8.heap.size, 0, none⟩) 1 1 [(0, 1)] (some ⟨W8.heap.size + 1, 0, none⟩) 3 3 [0, 1, 1] ((W8.alloc (.cells #[.int .i64 0, .int .i64 1] 42)).alloc (.cells #[.int .i64 0, .int .i64 1, .int .i64 1] 3)) (reads3 (at_new (at_new F1b _) _)) (readsP1 (at_new (heap_alloc_new _ _) _)) (reads3 (heap_new2 _ _ _))
  rw [e9] at hc9
  go_wp2_with (go_at_call 17; refine hc9.mono ?_; clear hc9; rintro e W9 ⟨rfl, hW9⟩)
  replace F1b := at_ext (at_new (at_new F1b _) _) hW9
  replace F2b := at_ext (at_new (at_new F2b _) _) hW9
  replace XA : Ext w W9 := Ext.trans (Ext.trans (Ext.trans XA (ext_alloc _ _)) (ext_alloc _ _)) hW9
  clear hW9
  have hc10 := allowed_any (some ⟨w.heap.size, 0, none⟩) 3 3 [0, 1, 2] (some ⟨W9.heap.size, 0, none⟩) 1 1 [(0, 1)] (some ⟨W9.heap.size + 1, 0, none⟩) 3 3 [0, 0, 2] ((W9.alloc (.cells #[.int .i64 0, .int .i64 1] 42)).alloc (.cells #[.int .i64 0, .int .i64 0, .int .i64 2] 3)) (reads3 (at_new (at_new F1b _) _)) (readsP1 (at_new (heap_alloc_new _ _) _)) (reads3 (heap_new2 _ _ _))
  rw [e10] at hc10
  refine hc10.mono ?_
  rintro e W10 ⟨rfl, hW10⟩
  replace F1b := at_ext (at_new (at_new F1b _) _) hW10
  replace F2b := at_ext (at_new (at_new F2b _) _) hW10
  replace XA : Ext w W10 := Ext.trans (Ext.trans (Ext.trans XA (ext_alloc _ _)) (ext_alloc _ _)) hW10
  clear hc10 hW10
  have hc11 := componentsF_any (some ⟨b2, 0, none⟩) 3 3 [⟨0, 1, 5⟩, ⟨1, 2, 4⟩, ⟨0, 2, -3⟩] (some ⟨w.heap.size, 0, none⟩) 3 3 [0, 1, 2] W10 (readsE3 F2b) (reads3 F1b)
  have hgd : (validB [0, 1, 2] && linkedB 3 [⟨0, 1, 5⟩, ⟨1, 2, 4⟩, ⟨0, 2, -3⟩]) = true := by decide
  have hgd : (validB [0, 1, 2] && linkedB (3 : Nat) [⟨0, 1, 5⟩, ⟨1, 2, 4⟩, ⟨0, 2, -3⟩]) = true := hgd
  simp only [hgd, if_true] at hc11
  go_wp2_with (go_at_call 20
               go_loud (refine hc11.mono ?_
                        rintro e W11 ⟨v, rfl, hW11, vs, ms, hms, hF⟩
                        have hvl : vs.length = 1 := hF.len.trans ((List.length_map _).trans (comps3 hms))
                        have hout := hF.out
                        rw [hvl] at hout
                        obtain ⟨A7, c7, rfl, hA7⟩ := own_slice hout))
  go_ret
  exact ⟨rfl, Ext.trans XA hW11⟩

end Go.Proofs.Ytiapdpbcnbgdmaa

set_option linter.unusedVariables false
set_option linter.unusedSimpArgs false
namespace Go.Proofs.Ytiapdpbcnbgdmaa
open Go.RowKit

theorem pcells_all {ys : List (Int × Int)} {j : Nat} {u : Value} (h : (pcells ys)[j]? = some u) : ∃ k, k < ys.length ∧ ((j = k * 2 ∧ u = .int .i64 (pth ys k).1) ∨ (j = k * 2 + 1 ∧ u = .int .i64 (pth ys k).2)) := by
  have hj : j < (pcells ys).length := by
    rcases Nat.lt_or_ge j (pcells ys).length with h' | h'
    · exact h'
    · rw [List.getElem?_eq_none h'] at h; cases h
  rw [pcells_length] at hj
  obtain ⟨g1, g2⟩ := pcells_get ys (j / 2) (by omega)
  refine ⟨j / 2, by omega, ?_⟩
  rcases Nat.mod_two_eq_zero_or_one j with hm | hm
  · left
    have e : j = j / 2 * 2 := by omega
    rw [e, g1] at h
    exact ⟨e, (Option.some.inj h).symm⟩
  · right
    have e : j = j / 2 * 2 + 1 := by omega
    rw [e, g2] at h
    exact ⟨e, (Option.some.inj h).symm⟩
/-- 'append(v, ys...)' of pairs. -/
theorem append_pairs {base : Nat} {W : World} {v : Value} {xs : List (Int × Int)} {A : Option Addr} {n c : Nat} {ys : List (Int × Int)} (hown : W.ownsRow base 42 2 v xs.length (pcells xs)) (hr : RPairs W A n ys) (hbase : base ≤ W.heap.size) (hl : xs.length < 1000000000000) (hl2 : n < 1000000000000) :
    ∃ v' w', (Builtin.append_ #[24, 24] 24 #[v, .slice A n c]).run Try.prog W = .ok v' w' ∧ w'.ownsRow base 42 2 v' (xs ++ ys).length (pcells (xs ++ ys)) ∧ W.grownBy w' v.ownBlock ∧ (v'.ownBlock = v.ownBlock ∨ ∃ b, v'.ownBlock = some b ∧ W.heap.size ≤ b) := by
  obtain ⟨i0, hi, hz0, hz1, hz2⟩ := info_parts info42
  have hm : ys.length = n := hr.len
  rcases A with _ | ad
  · have h0 : n = 0 := by
      rcases Nat.eq_zero_or_pos n with h0 | h0
      · exact h0
      · obtain ⟨b, o, h, _⟩ := hr.cell h0
        cases h
    subst h0
    obtain rfl : ys = [] := List.eq_nil_of_length_eq_zero hm
    refine ⟨v, W, ?_, by simpa using hown, World.grownBy.refl W _, .inl rfl⟩
    rcases hown.2 with ⟨rfl, hn⟩ | ⟨g, cap, cur, rfl, _, _, hnc, _⟩
    · simp [Builtin.append_, run_underlying Try.underlying24, sizeOf, typeInfo, hi, Builtin.lenOf, Builtin.firstCells]
    · simp [Builtin.append_, run_underlying Try.underlying24, sizeOf, typeInfo, hi, Builtin.lenOf, Builtin.firstCells, hnc, storeCells]
  · have hcells : ∀ j u, (pcells ys)[j]? = some u → W.cell? (ad.add j) = some u := by
      intro j u hu
      obtain ⟨k, hk, h⟩ := pcells_all hu
      obtain ⟨b, o, h', hc⟩ := hr.cell (by omega)
      injection h' with h'
      subst h'
      rw [Addr.add_lit]
      rcases h with ⟨rfl, rfl⟩ | ⟨rfl, rfl⟩
      · exact (hc k (by omega)).1
      · exact (hc k (by omega)).2
    obtain ⟨v', w', h1, h2, h3, h4, h5⟩ := run_append_own_at (P := Try.prog) W base 24 24 42 i0 _ 2 16 Try.underlying24 hi hz0 hz1 hz2 rfl (by omega) v xs.length (pcells xs) hown ad n c (pcells ys) (by rw [pcells_length, hm]) hcells
      (by
        intro u hu
        obtain ⟨j, hj, e⟩ := List.getElem_of_mem hu
        obtain ⟨k, _, h⟩ := pcells_all (by rw [List.getElem?_eq_getElem hj, e] : (pcells ys)[j]? = some u)
        rcases h with ⟨_, rfl⟩ | ⟨_, rfl⟩ <;> rfl) (by simp only [maxLen]; omega) (by omega) hbase
    refine ⟨v', w', h1, ?_, h3, ?_⟩
    · have e : pcells (xs ++ ys) = pcells xs ++ pcells ys := by unfold pcells; rw [List.flatMap_append]
      rw [e, List.length_append, hm]
      exact h2
    · rcases h5 with h5 | h5
      · exact .inl h5
      · exact .inr ⟨_, h5, Nat.le_refl _⟩
theorem info40 : (Try.prog.info? 40).map (fun i => (i.zero, i.size, i.bytes)) = some (some (.agg #[.int .i64 0, .int .i64 0, .int .i64 0]), 3, 24) := by kernel_rfl
/-! A row of edges of the call's own. -/
def ecells (es : List E3) : List Value := es.flatMap fun e => [.int .i64 e.a, .int .i64 e.b, .int .i64 e.w]
theorem ecells_append (xs ys : List E3) : ecells (xs ++ ys) = ecells xs ++ ecells ys := by unfold ecells; rw [List.flatMap_append]
theorem ecells_length (es : List E3) : (ecells es).length = es.length * 3 := by
  induction es with
  | nil => rfl
  | cons k l ih => simp only [ecells, List.flatMap_cons, List.length_append, List.length_cons, List.length_nil] at ih ⊢; omega
theorem ecells_get (es : List E3) (j : Nat) (h : j < es.length) : (ecells es)[j * 3]? = some (.int .i64 (eth es j).a) ∧ (ecells es)[j * 3 + 1]? = some (.int .i64 (eth es j).b) ∧ (ecells es)[j * 3 + 2]? = some (.int .i64 (eth es j).w) := by
  induction es generalizing j with
  | nil => simp at h
  | cons k l ih =>
    cases j with
    | zero => simp [ecells, eth]
    | succ j =>
      have := ih j (by simpa using h)
      have e : (j + 1) * 3 = j * 3 + 3 := by omega
      simpa [ecells, eth, e] using this
theorem own_edges {W : World} {base : Nat} {v : Value} {es : List E3} (hown : W.ownsRow base 40 3 v es.length (ecells es)) (hb : es.length ≤ 35184372088832) : ∃ A c, v = .slice A es.length c ∧ REdges W A es.length es := by
  rcases hown.2 with ⟨rfl, h0⟩ | ⟨g, cap, cur, rfl, hg, hh, h1, h2, h3, h4⟩
  · rw [h0]
    exact ⟨none, 0, rfl, ⟨h0, by omega, fun h => absurd h (by omega)⟩⟩
  · refine ⟨_, cap, rfl, ⟨rfl, hb, fun _ => ⟨g, 0, rfl, fun j hj => ?_⟩⟩⟩
    obtain ⟨p1, p2, p3⟩ := ecells_get es j hj
    have c1 : cur[j * 3]? = some (.int .i64 (eth es j).a) := by
      rw [← h4, List.getElem?_take, if_pos (by omega)] at p1; simpa using p1
    have c2 : cur[j * 3 + 1]? = some (.int .i64 (eth es j).b) := by
      rw [← h4, List.getElem?_take, if_pos (by omega)] at p2; simpa using p2
    have c3 : cur[j * 3 + 2]? = some (.int .i64 (eth es j).w) := by
      rw [← h4, List.getElem?_take, if_pos (by omega)] at p3; simpa using p3
    rw [Nat.zero_add]
    exact ⟨(cells_of hh _ c1).1, (cells_of hh _ c2).1, (cells_of hh _ c3).1⟩
theorem append_edge1 {W : World} {base : Nat} {v : Value} {es : List E3} (e : E3) (hown : W.ownsRow base 40 3 v es.length (ecells es)) (hbase : base ≤ W.heap.size) (hl : es.length < 1000000000000) :
    ∃ v' w', (Builtin.append_ #[22, 22] 22 #[v, .slice (some ⟨W.heap.size, 0, none⟩) 1 1]).run Try.prog (W.alloc (.cells #[.int .i64 e.a, .int .i64 e.b, .int .i64 e.w] 40)) = .ok v' w' ∧ w'.ownsRow base 40 3 v' (es ++ [e]).length (ecells (es ++ [e])) ∧ W.grownBy w' v.ownBlock ∧
      (v'.ownBlock = v.ownBlock ∨ ∃ b, v'.ownBlock = some b ∧ W.heap.size ≤ b) := by
  obtain ⟨i0, hi, hz0, hz1, hz2⟩ := info_parts info40
  obtain ⟨v', w', h1, h2, h3, h4, h5⟩ := run_append_own_at (P := Try.prog) (W.alloc (.cells #[.int .i64 e.a, .int .i64 e.b, .int .i64 e.w] 40)) base 22 22 40 i0 _ 3 24 Try.underlying22 hi hz0 hz1 hz2 rfl (by omega) v es.length (ecells es) (hown.alloc _) ⟨W.heap.size, 0, none⟩ 1 1 [.int .i64 e.a, .int .i64 e.b, .int .i64 e.w] rfl
    (World.news_of_block (cs := #[.int .i64 e.a, .int .i64 e.b, .int .i64 e.w]) (t := 40) (fr := (0, 0)) (heap_alloc_new W _)) (by simp [Value.oneCell']) (by simp only [maxLen]; omega) (by omega) (by rw [World.size_alloc]; exact Nat.le_succ_of_le hbase)
  refine ⟨v', w', h1, ?_, World.grownBy.trans (World.grownBy_alloc W _ _) h3, ?_⟩
  · rw [ecells_append]
    simpa [ecells] using h2
  · rcases h5 with h5 | h5
    · exact .inl h5
    · exact .inr ⟨_, h5, by simp⟩
theorem append_edge2 {W : World} {base : Nat} {v : Value} {es : List E3} (e f : E3) (hown : W.ownsRow base 40 3 v es.length (ecells es)) (hbase : base ≤ W.heap.size) (hl : es.length < 1000000000000) :
    ∃ v' w', (Builtin.append_ #[22, 22] 22 #[v, .slice (some ⟨W.heap.size, 0, none⟩) 2 2]).run Try.prog (W.alloc (.cells #[.int .i64 e.a, .int .i64 e.b, .int .i64 e.w, .int .i64 f.a, .int .i64 f.b, .int .i64 f.w] 40)) = .ok v' w' ∧ w'.ownsRow base 40 3 v' (es ++ [e, f]).length (ecells (es ++ [e, f])) ∧ W.grownBy w' v.ownBlock ∧
      (v'.ownBlock = v.ownBlock ∨ ∃ b, v'.ownBlock = some b ∧ W.heap.size ≤ b) := by
  obtain ⟨i0, hi, hz0, hz1, hz2⟩ := info_parts info40
  obtain ⟨v', w', h1, h2, h3, h4, h5⟩ := run_append_own_at (P := Try.prog) (W.alloc (.cells #[.int .i64 e.a, .int .i64 e.b, .int .i64 e.w, .int .i64 f.a, .int .i64 f.b, .int .i64 f.w] 40)) base 22 22 40 i0 _ 3 24 Try.underlying22 hi hz0 hz1 hz2 rfl (by omega) v es.length (ecells es) (hown.alloc _) ⟨W.heap.size, 0, none⟩ 2 2 [.int .i64 e.a, .int .i64 e.b, .int .i64 e.w, .int .i64 f.a, .int .i64 f.b, .int .i64 f.w] rfl
    (World.news_of_block (cs := #[.int .i64 e.a, .int .i64 e.b, .int .i64 e.w, .int .i64 f.a, .int .i64 f.b, .int .i64 f.w]) (t := 40) (fr := (0, 0)) (heap_alloc_new W _)) (by simp [Value.oneCell']) (by simp only [maxLen]; omega) (by omega) (by rw [World.size_alloc]; exact Nat.le_succ_of_le hbase)
  refine ⟨v', w', h1, ?_, World.grownBy.trans (World.grownBy_alloc W _ _) h3, ?_⟩
  · rw [ecells_append]
    simpa [ecells] using h2
  · rcases h5 with h5 | h5
    · exact .inl h5
    · exact .inr ⟨_, h5, by simp⟩

end Go.Proofs.Ytiapdpbcnbgdmaa

set_option linter.unusedVariables false
set_option linter.unusedSimpArgs false
namespace Go.Proofs.Ytiapdpbcnbgdmaa
open Go.RowKit

open Go.ChangeShapes Go.WideShapes Go.Deep
theorem spot_of {w : World} {a : Addr} {v : Value} (h : w.cell? a = some v) : a.spot = none := by
  unfold World.cell? at h
  split at h
  · split at h
    · cases h
    · rename_i hs
      cases ha : a.spot with
      | none => rfl
      | some x => rw [ha] at hs; simp at hs
  · cases h
theorem cells3 : Try.prog.cellsOf 3 = 1 := by kernel_rfl
theorem cells40 : Try.prog.cellsOf 40 = 3 := by kernel_rfl
theorem cells42 : Try.prog.cellsOf 42 = 2 := by kernel_rfl
theorem bytes3 : Try.prog.bytesOf 3 = 8 := by kernel_rfl
theorem bytes40 : Try.prog.bytesOf 40 = 24 := by kernel_rfl
theorem bytes42 : Try.prog.bytesOf 42 = 16 := by kernel_rfl
section
variable {H : Type} {enc : TypeId × Value → H} {W : World}
theorem one_int {n : Nat} {cs : List Value} {x : DataW H × List MemPlace} (h : DataW.trod enc Try.prog W 0 (fun _ => true) true n 3 cs = some x) : ∃ z : Int, cs = [.int .i64 z] := by
  obtain ⟨z, hz, _⟩ := DataW.trod_int Try.underlying3 h
  exact ⟨z, hz⟩
theorem two_ints {n : Nat} {cs : List Value} {x : DataW H × List MemPlace} (h : DataW.trod enc Try.prog W 0 (fun _ => true) true n 42 cs = some x) : ∃ p : Int × Int, cs = [.int .i64 p.1, .int .i64 p.2] := by
  obtain ⟨xs, m, _, _, hl, hxl, hf⟩ := DataW.trod_array Try.underlying42 h
  rw [cells42] at hl
  match cs, hl with
  | [v0, v1], _ =>
    have h0 := hf 0 (by omega)
    have h1 := hf 1 (by omega)
    rw [cells3] at h0 h1
    simp only [Nat.zero_mul, Nat.one_mul, List.drop_zero, List.take_succ_cons, List.take_zero, List.drop_succ_cons] at h0 h1
    rw [List.getElem?_eq_getElem (by omega)] at h0 h1
    obtain ⟨z0, e0⟩ := one_int h0
    obtain ⟨z1, e1⟩ := one_int h1
    simp only [List.cons.injEq, and_true] at e0 e1
    exact ⟨(z0, z1), by rw [e0, e1]⟩
theorem three_ints {n : Nat} {cs : List Value} {x : DataW H × List MemPlace} (h : DataW.trod enc Try.prog W 0 (fun _ => true) true n 40 cs = some x) : ∃ e : E3, cs = [.int .i64 e.a, .int .i64 e.b, .int .i64 e.w] := by
  obtain ⟨xs, m, _, _, hl, hxl, hf⟩ := DataW.trod_struct Try.underlying40 h
  rw [cells40] at hl
  match cs, hl with
  | [v0, v1, v2], _ =>
    have h0 : DataW.trod enc Try.prog W 0 (fun _ => true) true m 3 (([v0, v1, v2].drop 0).take (Try.prog.cellsOf 3)) = xs[0]? := hf 0 _ rfl
    have h1 : DataW.trod enc Try.prog W 0 (fun _ => true) true m 3 (([v0, v1, v2].drop 1).take (Try.prog.cellsOf 3)) = xs[1]? := hf 1 _ rfl
    have h2 : DataW.trod enc Try.prog W 0 (fun _ => true) true m 3 (([v0, v1, v2].drop 2).take (Try.prog.cellsOf 3)) = xs[2]? := hf 2 _ rfl
    have hx3 : xs.length = 3 := hxl
    rw [cells3] at h0 h1 h2
    simp only [List.drop_zero, List.take_succ_cons, List.take_zero, List.drop_succ_cons] at h0 h1 h2
    rw [List.getElem?_eq_getElem (by omega)] at h0 h1 h2
    obtain ⟨z0, e0⟩ := one_int h0
    obtain ⟨z1, e1⟩ := one_int h1
    obtain ⟨z2, e2⟩ := one_int h2
    simp only [List.cons.injEq, and_true] at e0 e1 e2
    exact ⟨⟨z0, z1, z2⟩, by rw [e0, e1, e2]⟩
theorem slice_opened {t e : TypeId} {A : Option Addr} {len cap : Nat} {d : DataW H} {ps : List MemPlace} {ts : List TypeId} {ds : List (DataW H)} {j B C : Nat} (hu : Try.prog.underlying t = some (.slice e)) (hC : Try.prog.cellsOf e = C) (hC0 : 0 < C) (hB : Try.prog.bytesOf e = B) (h8 : 8 ≤ B)
    (hsz : (DataW.weightsEach Try.prog ts ds).all (· ≤ reachBytes) = true) (ht : ts[j]? = some t) (hd : ds[j]? = some d)
    (h : DataW.Trod enc Try.prog W 0 (fun _ => true) true t (.slice A len cap) d ps) :
    len ≤ 35184372088832 ∧ (0 < len → ∃ b off, A = some ⟨b, off, none⟩) ∧ ∀ b off, A = some ⟨b, off, none⟩ → ∀ i, i < len → ∃ cs' n x, cs'.length = C ∧ (∀ k, k < C → W.cell? ⟨b, off + i * C + k, none⟩ = cs'[k]?) ∧ DataW.trod enc Try.prog W 0 (fun _ => true) true n e cs' = some x := by
  obtain ⟨fuel, hf⟩ := h
  rcases open_slice hu hf with ⟨hcs, _⟩ | ⟨a, l, c, m, n, D, Pl, hcs, _, hl, hm, hmm, hx, hel⟩
  · simp [Value.cells] at hcs
    obtain ⟨rfl, rfl, rfl⟩ := hcs
    exact ⟨by omega, fun h => absurd h (by omega), fun b off e => by cases e⟩
  · simp [Value.cells] at hcs
    obtain ⟨rfl, rfl, rfl⟩ := hcs
    simp only [if_true] at hmm
    subst hmm
    obtain ⟨hx, _⟩ := Prod.mk.inj hx
    have hw := sized_slice hsz ht (by rw [hd, hx]) hu
    rw [hB] at hw
    simp only [List.length_map, List.length_range] at hw
    have hr : reachBytes < 2 ^ 47 := reachBytes_lt
    have hlen : len * 8 ≤ (len + (m - len)) * B := Nat.mul_le_mul (by omega) h8
    have hsp : 0 < m → a.spot = none := fun h0 => by
      obtain ⟨cs', h1, _⟩ := hel 0 h0
      obtain ⟨_, hl', hc⟩ := World.cells?_some h1
      have := hc 0 (by rw [hC]; exact hC0)
      rw [Nat.zero_mul] at this
      have e0 : (a.add 0).add 0 = a := rfl
      rw [e0] at this
      cases hv : cs'[0]? with
      | none => rw [List.getElem?_eq_none_iff] at hv; omega
      | some v => rw [hv] at this; exact spot_of this
    refine ⟨by omega, fun h0 => ⟨a.block, a.off, ?_⟩, fun b off e i hi => ?_⟩
    · have := hsp (by omega)
      obtain ⟨b, o, s⟩ := a
      simp only at this
      rw [this]
    · have e := Option.some.inj e
      subst e
      obtain ⟨cs', h1, h2⟩ := hel i (by omega)
      obtain ⟨_, hl', hc⟩ := World.cells?_some h1
      rw [hC] at hl' hc
      refine ⟨cs', n, _, hl', fun k hk => ?_, h2⟩
      have := hc k hk
      rw [Addr.add_lit, Addr.add_lit] at this
      exact this
theorem reads_ints {A : Option Addr} {len cap : Nat} {d : DataW H} {ps : List MemPlace} {ts : List TypeId} {ds : List (DataW H)} {j : Nat} (hsz : (DataW.weightsEach Try.prog ts ds).all (· ≤ reachBytes) = true) (ht : ts[j]? = some 23) (hd : ds[j]? = some d)
    (h : DataW.Trod enc Try.prog W 0 (fun _ => true) true 23 (.slice A len cap) d ps) : ∃ xs, RInts W A len xs := by
  obtain ⟨h1, h2, h3⟩ := slice_opened Try.underlying23 cells3 (by omega) bytes3 (by omega) hsz ht hd h
  by_cases h0 : 0 < len
  · obtain ⟨b, off, rfl⟩ := h2 h0
    obtain ⟨f, hf⟩ := choose_lt (n := len) (p := fun i (z : Int) => W.cell? ⟨b, off + i, none⟩ = some (.int .i64 z)) (fun i hi => by
      obtain ⟨cs', n, x, hl, hc, ht'⟩ := h3 b off rfl i hi
      obtain ⟨z, rfl⟩ := one_int ht'
      exact ⟨z, by simpa using hc 0 (by omega)⟩)
    refine ⟨(List.range len).map f, by simp, h1, fun _ => ⟨b, off, rfl, fun i hi => ?_⟩⟩
    rw [hf i hi]
    simp [nth, List.getD_eq_getElem?_getD, hi]
  · exact ⟨[], by simp; omega, h1, fun h => absurd h h0⟩
theorem reads_pairs {A : Option Addr} {len cap : Nat} {d : DataW H} {ps : List MemPlace} {ts : List TypeId} {ds : List (DataW H)} {j : Nat} (hsz : (DataW.weightsEach Try.prog ts ds).all (· ≤ reachBytes) = true) (ht : ts[j]? = some 24) (hd : ds[j]? = some d)
    (h : DataW.Trod enc Try.prog W 0 (fun _ => true) true 24 (.slice A len cap) d ps) : ∃ xs, RPairs W A len xs := by
  obtain ⟨h1, h2, h3⟩ := slice_opened Try.underlying24 cells42 (by omega) bytes42 (by omega) hsz ht hd h
  by_cases h0 : 0 < len
  · obtain ⟨b, off, rfl⟩ := h2 h0
    obtain ⟨f, hf⟩ := choose_lt (n := len) (p := fun i (z : Int × Int) => W.cell? ⟨b, off + i * 2, none⟩ = some (.int .i64 z.1) ∧ W.cell? ⟨b, off + i * 2 + 1, none⟩ = some (.int .i64 z.2)) (fun i hi => by
      obtain ⟨cs', n, x, hl, hc, ht'⟩ := h3 b off rfl i hi
      obtain ⟨z, rfl⟩ := two_ints ht'
      exact ⟨z, by simpa using hc 0 (by omega), by simpa using hc 1 (by omega)⟩)
    refine ⟨(List.range len).map f, by simp, h1, fun _ => ⟨b, off, rfl, fun i hi => ?_⟩⟩
    have e : pth ((List.range len).map f) i = f i := by simp [pth, List.getD_eq_getElem?_getD, hi]
    rw [e]
    exact hf i hi
  · exact ⟨[], by simp; omega, h1, fun h => absurd h h0⟩
theorem reads_edges {A : Option Addr} {len cap : Nat} {d : DataW H} {ps : List MemPlace} {ts : List TypeId} {ds : List (DataW H)} {j : Nat} (hsz : (DataW.weightsEach Try.prog ts ds).all (· ≤ reachBytes) = true) (ht : ts[j]? = some 22) (hd : ds[j]? = some d)
    (h : DataW.Trod enc Try.prog W 0 (fun _ => true) true 22 (.slice A len cap) d ps) : ∃ xs, REdges W A len xs := by
  obtain ⟨h1, h2, h3⟩ := slice_opened Try.underlying22 cells40 (by omega) bytes40 (by omega) hsz ht hd h
  by_cases h0 : 0 < len
  · obtain ⟨b, off, rfl⟩ := h2 h0
    obtain ⟨f, hf⟩ := choose_lt (n := len) (p := fun i (z : E3) => W.cell? ⟨b, off + i * 3, none⟩ = some (.int .i64 z.a) ∧ W.cell? ⟨b, off + i * 3 + 1, none⟩ = some (.int .i64 z.b) ∧ W.cell? ⟨b, off + i * 3 + 2, none⟩ = some (.int .i64 z.w)) (fun i hi => by
      obtain ⟨cs', n, x, hl, hc, ht'⟩ := h3 b off rfl i hi
      obtain ⟨z, rfl⟩ := three_ints ht'
      exact ⟨z, by simpa using hc 0 (by omega), by simpa using hc 1 (by omega), by simpa using hc 2 (by omega)⟩)
    refine ⟨(List.range len).map f, by simp, h1, fun _ => ⟨b, off, rfl, fun i hi => ?_⟩⟩
    have e : eth ((List.range len).map f) i = f i := by simp [eth, List.getD_eq_getElem?_getD, hi]
    rw [e]
    exact hf i hi
  · exact ⟨[], by simp; omega, h1, fun h => absurd h h0⟩
end

end Go.Proofs.Ytiapdpbcnbgdmaa
