import Derived.Test.YtiapdpbcnbgdmaaHp
set_option linter.unusedVariables false
set_option linter.unusedSimpArgs false
namespace Go.Proofs.Ytiapdpbcnbgdmaa
open Go.RowKit

theorem reads3 {W : World} {b : Nat} {x y z : Int} (h : W.heap[b]? = some (.cells #[.int .i64 x, .int .i64 y, .int .i64 z] 3 (0, 0))) : RInts W (some ⟨b, 0, none⟩) 3 [x, y, z] := by
  refine ⟨rfl, by omega, fun _ => ⟨b, 0, rfl, fun j hj => ?_⟩⟩
  match j, hj with
  | 0, _ => exact (cells_of h 0 rfl).1
  | 1, _ => exact (cells_of h 1 rfl).1
  | 2, _ => exact (cells_of h 2 rfl).1
theorem readsE3 {W : World} {b : Nat} {e1 e2 e3 : E3} (h : W.heap[b]? = some (.cells #[.int .i64 e1.a, .int .i64 e1.b, .int .i64 e1.w, .int .i64 e2.a, .int .i64 e2.b, .int .i64 e2.w, .int .i64 e3.a, .int .i64 e3.b, .int .i64 e3.w] 40 (0, 0))) : REdges W (some ⟨b, 0, none⟩) 3 [e1, e2, e3] := by
  refine ⟨rfl, by omega, fun _ => ⟨b, 0, rfl, fun j hj => ?_⟩⟩
  match j, hj with
  | 0, _ => exact ⟨(cells_of h 0 rfl).1, (cells_of h 1 rfl).1, (cells_of h 2 rfl).1⟩
  | 1, _ => exact ⟨(cells_of h 3 rfl).1, (cells_of h 4 rfl).1, (cells_of h 5 rfl).1⟩
  | 2, _ => exact ⟨(cells_of h 6 rfl).1, (cells_of h 7 rfl).1, (cells_of h 8 rfl).1⟩
theorem readsE1 {W : World} {b : Nat} {e1 : E3} (h : W.heap[b]? = some (.cells #[.int .i64 e1.a, .int .i64 e1.b, .int .i64 e1.w] 40 (0, 0))) : REdges W (some ⟨b, 0, none⟩) 1 [e1] := by
  refine ⟨rfl, by omega, fun _ => ⟨b, 0, rfl, fun j hj => ?_⟩⟩
  match j, hj with
  | 0, _ => exact ⟨(cells_of h 0 rfl).1, (cells_of h 1 rfl).1, (cells_of h 2 rfl).1⟩
theorem readsP1 {W : World} {b : Nat} {x y : Int} (h : W.heap[b]? = some (.cells #[.int .i64 x, .int .i64 y] 42 (0, 0))) : RPairs W (some ⟨b, 0, none⟩) 1 [(x, y)] := by
  refine ⟨rfl, by omega, fun _ => ⟨b, 0, rfl, fun j hj => ?_⟩⟩
  match j, hj with
  | 0, _ => exact ⟨(cells_of h 0 rfl).1, (cells_of h 1 rfl).1⟩
theorem readsP0 (W : World) : RPairs W none 0 [] := ⟨rfl, by omega, fun h => absurd h (by omega)⟩
theorem heap_new2 (w : World) (o1 o2 : Obj) : ((w.alloc o1).alloc o2).heap[w.heap.size + 1]? = some o2 := by
  have := heap_alloc_new (w.alloc o1) o2
  rwa [World.size_alloc] at this
theorem heap_new3 (w : World) (o1 o2 o3 : Obj) : (((w.alloc o1).alloc o2).alloc o3).heap[w.heap.size + 1 + 1]? = some o3 := by
  have := heap_new2 (w.alloc o1) o2 o3
  rwa [World.size_alloc] at this
theorem ext_lt {w w' : World} {k : Nat} (h : Ext w w') (hk : k < w.heap.size) : k < w'.heap.size := Nat.lt_of_lt_of_le hk h.size
theorem at_lt {w : World} {k : Nat} {o : Obj} (h : w.heap[k]? = some o) : k < w.heap.size := (Array.getElem?_eq_some_iff.1 h).1
theorem at_ext {w w' : World} {k : Nat} {o : Obj} (h : w.heap[k]? = some o) (hx : Ext w w') : w'.heap[k]? = some o := (hx.block k (at_lt h)).trans h
theorem at_new {w : World} {k : Nat} {o : Obj} (h : w.heap[k]? = some o) (o' : Obj) : (w.alloc o').heap[k]? = some o := at_ext h (ext_alloc _ _)
set_option maxHeartbeats 8000000 in
theorem head_any (w : World) : Calls Try.prog 10 #[] w fun e w' => e = .returned (.bool true) ∧ Ext w w' := by
  have F1 := heap_alloc_new w (.cells #[.int .i64 0, .int .i64 1, .int .i64 2] 3)
  have X0 := ext_alloc w (.cells #[.int .i64 0, .int .i64 1, .int .i64 2] 3)
  have X : Ext (w.alloc (.cells #[.int .i64 0, .int .i64 1, .int .i64 2] 3)) (w.alloc (.cells #[.int .i64 0, .int .i64 1, .int .i64 2] 3)) := ⟨rfl, rfl, rfl, Nat.le_refl _, fun _ _ => rfl⟩
  have hXe := X0
  go_enter Try.func10, Try.ntmps10
  go_wp2_with (go_at_call 23; refine (edge_any _ _ _ _).mono ?_; rintro e wn ⟨rfl, hxn⟩; first | replace X := Ext.trans X hxn | replace X := Ext.trans (Ext.trans X (ext_alloc _ _)) hxn)
  -- the first question
  have F1a := at_ext F1 X
  refine (is_any _ _ _ [⟨0, 1, 5⟩, ⟨1, 2, 4⟩, ⟨0, 2, -3⟩] _ _ _ [0, 1, 2] _ _ _ [] _ _ _ [0, 0, 0] _ (readsE3 (at_new (heap_alloc_new wn _) _)) (reads3 (at_new (at_new F1a _) _)) (readsP0 _) (reads3 (heap_new2 wn _ _)) (by omega) (by omega) (by decide) ex1).mono ?_
  rintro e W1 ⟨rfl, hW1⟩
  have F1b := at_ext (at_new (at_new F1a _) _) hW1
  have F2b := at_ext (at_new (heap_alloc_new wn _) _) hW1
  have XA : Ext w W1 := Ext.trans (Ext.trans (Ext.trans (Ext.trans X0 X) (ext_alloc _ _)) (ext_alloc _ _)) hW1
  generalize hb2 : wn.heap.size = b2 at *
  clear X hxn hW1 F1a
  have X : Ext W1 W1 := ⟨rfl, rfl, rfl, Nat.le_refl _, fun _ _ => rfl⟩
  go_wp2_with (go_at_call 23; refine (edge_any _ _ _ _).mono ?_; rintro e wn ⟨rfl, hxn⟩; first | replace X := Ext.trans X hxn | replace X := Ext.trans (Ext.trans X (ext_alloc _ _)) hxn)
  -- the second question
  replace F1b := at_ext F1b X
  replace F2b := at_ext F2b X
  refine (is_any _ _ _ [⟨0, 1, 5⟩, ⟨1, 2, 4⟩, ⟨0, 2, -6⟩] _ _ _ [0, 1, 2] _ _ _ [] _ _ _ [0, 0, 2] _ (readsE3 (at_new (heap_alloc_new wn _) _)) (reads3 (at_new (at_new F1b _) _)) (readsP0 _) (reads3 (heap_new2 wn _ _)) (by omega) (by omega) (by decide) ex2).mono ?_
  rintro e W2 ⟨rfl, hW2⟩
  replace F1b := at_ext (at_new (at_new F1b _) _) hW2
  replace F2b := at_ext (at_new (at_new F2b _) _) hW2
  replace XA : Ext w W2 := Ext.trans (Ext.trans (Ext.trans (Ext.trans XA X) (ext_alloc _ _)) (ext_alloc _ _)) hW2
  generalize hb3 : wn.heap.size = b3 at *
  clear X hxn hW2
  have X : Ext W2 W2 := ⟨rfl, rfl, rfl, Nat.le_refl _, fun _ _ => rfl⟩
  go_wp2_with (go_at_call 23; refine (edge_any _ _ _ _).mono ?_; rintro e wn ⟨rfl, hxn⟩; first | replace X := Ext.trans X hxn | replace X := Ext.trans (Ext.trans X (ext_alloc _ _)) hxn)
  -- the third question
  replace F1b := at_ext F1b X
  replace F2b := at_ext F2b X
  refine (is_any _ _ _ [⟨0, 1, 5⟩, ⟨1, 2, 5⟩, ⟨0, 2, -6⟩] _ _ _ [0, 1, 2] _ _ _ [] _ _ _ [0, 0, 2] _ (readsE3 (at_new (heap_alloc_new wn _) _)) (reads3 (at_new (at_new F1b _) _)) (readsP0 _) (reads3 (heap_new2 wn _ _)) (by omega) (by omega) (by decide) ex3).mono ?_
  rintro e W3 ⟨rfl, hW3⟩
  replace F1b := at_ext (at_new (at_new F1b _) _) hW3
  replace F2b := at_ext (at_new (at_new F2b _) _) hW3
  replace XA : Ext w W3 := Ext.trans (Ext.trans (Ext.trans (Ext.trans XA X) (ext_alloc _ _)) (ext_alloc _ _)) hW3
  generalize hb4 : wn.heap.size = b4 at *
  clear X hxn hW3
  have h4 := fun (A : Option Addr) (c : Nat) (A1 : Option Addr) (c1 : Nat) (A2 : Option Addr) (c2 : Nat) (A3 : Option Addr) (c3 : Nat) (W : World) (h : REdges W A 3 _) (h1 : RInts W A1 3 _) (h2 : RPairs W A2 1 _) (h3 : RInts W A3 3 _) => is_any A 3 c [⟨0, 1, 5⟩, ⟨1, 2, 4⟩, ⟨0, 2, -3⟩] A1 3 c1 [0, 1, 2] A2 1 c2 [(0, 1)] A3 3 c3 [0, 1, 1] W h h1 h2 h3 (by omega) (by omega) (by decide) ex4
  go_wp2_with (go_at_call 24; refine (h4 _ _ _ _ _ _ _ _ _ (readsE3 (at_new (at_new F2b _) _)) (reads3 (at_new (at_new F1b _) _)) (readsP1 (at_new (heap_alloc_new W3 _) _)) (reads3 (heap_new2 W3 _ _))).mono ?_; rintro e W4 ⟨rfl, hW4⟩)
  replace F1b := at_ext (at_new (at_new F1b _) _) hW4
  replace F2b := at_ext (at_new (at_new F2b _) _) hW4
  replace XA : Ext w W4 := Ext.trans (Ext.trans (Ext.trans XA (ext_alloc _ _)) (ext_alloc _ _)) hW4
  clear hW4 h4
  have h5 := fun (A : Option Addr) (c : Nat) (A1 : Option Addr) (c1 : Nat) (A3 : Option Addr) (c3 : Nat) (W : World) (h : REdges W A 1 _) (h1 : RInts W A1 3 _) (h3 : RInts W A3 3 _) => is_any A 1 c [⟨0, 2, -9⟩] A1 3 c1 [0, 1, 0] none 0 0 [] A3 3 c3 [0, 1, 0] W h h1 (readsP0 W) h3 (by omega) (by omega) (by decide) ex5
  go_wp2_with (first
    | (go_at_call 23; refine (edge_any _ _ _ _).mono ?_; rintro e wn ⟨rfl, hxn⟩)
    | (go_at_call 24; refine (h5 _ _ _ _ _ _ _ (readsE1 (at_new (at_new (heap_alloc_new wn _) _) _)) (reads3 (at_new (heap_new2 wn _ _) _)) (reads3 (heap_new3 wn _ _ _))).mono ?_; rintro e W5 ⟨rfl, hW5⟩))
  replace F1b := at_ext (at_new (at_new (at_new (at_ext F1b hxn) _) _) _) hW5
  replace F2b := at_ext (at_new (at_new (at_new (at_ext F2b hxn) _) _) _) hW5
  replace XA : Ext w W5 := Ext.trans (Ext.trans (Ext.trans (Ext.trans (Ext.trans XA hxn) (ext_alloc _ _)) (ext_alloc _ _)) (ext_alloc _ _)) hW5
  have hbad : goodB [⟨0, 1, 5⟩, ⟨1, 2, 4⟩, ⟨0, 2, -3⟩] [0, 0, 1] [] = false := by decide
  have hc6 := cluster_any (some ⟨b2, 0, none⟩) 3 3 [⟨0, 1, 5⟩, ⟨1, 2, 4⟩, ⟨0, 2, -3⟩] (some ⟨W5.heap.size, 0, none⟩) 3 3 [0, 0, 1] none 0 0 [] (W5.alloc (.cells #[.int .i64 0, .int .i64 0, .int .i64 1] 3)) (readsE3 (at_new F2b _)) (reads3 (heap_alloc_new _ _)) (readsP0 _) (by omega) (by omega)
  simp only [hbad, Bool.false_eq_true, if_false] at hc6
  clear h5 hW5 hxn
  go_wp2_with (go_at_call 12; refine hc6.mono ?_; rintro e W6 ⟨v, k, rfl, hW6, rfl, rfl⟩)
  replace F1b := at_ext (at_new F1b _) hW6
  replace F2b := at_ext (at_new F2b _) hW6
  replace XA : Ext w W6 := Ext.trans (Ext.trans XA (ext_alloc _ _)) hW6
  clear hc6 hW6 hbad
  have e7 : costTo [⟨0, 1, 5⟩, ⟨1, 2, 4⟩, ⟨0, 2, -3⟩] [0, 0, 0] 3 = 3 := by kernel_rfl
  have e8 : costTo [⟨0, 1, 5⟩, ⟨1, 2, 4⟩, ⟨0, 2, -3⟩] [0, 0, 2] 3 = 4 := by kernel_rfl
  have hc7 := cost_any (some ⟨b2, 0, none⟩) 3 3 [⟨0, 1, 5⟩, ⟨1, 2, 4⟩, ⟨0, 2, -3⟩] (some ⟨W6.heap.size, 0, none⟩) 3 3 [0, 0, 0] (W6.alloc (.cells #[.int .i64 0, .int .i64 0, .int .i64 0] 3)) (readsE3 (at_new F2b _)) (reads3 (heap_alloc_new _ _))
  rw [e7] at hc7
  go_wp2_with (go_at_call 15; refine hc7.mono ?_; clear hc7; rintro e W7 ⟨rfl, hW7⟩)
  replace F1b := at_ext (at_new F1b _) hW7
  replace F2b := at_ext (at_new F2b _) hW7
  replace XA : Ext w W7 := Ext.trans (Ext.trans XA (ext_alloc _ _)) hW7
  clear hW7
  have hc8 := cost_any (some ⟨b2, 0, none⟩) 3 3 [⟨0, 1, 5⟩, ⟨1, 2, 4⟩, ⟨0, 2, -3⟩] (some ⟨W7.heap.size, 0, none⟩) 3 3 [0, 0, 2] (W7.alloc (.cells #[.int .i64 0, .int .i64 0, .int .i64 2] 3)) (readsE3 (at_new F2b _)) (reads3 (heap_alloc_new _ _))
  rw [e8] at hc8
  refine hc8.mono ?_
  rintro e W8 ⟨rfl, hW8⟩
  replace F1b := at_ext (at_new F1b _) hW8
  replace F2b := at_ext (at_new F2b _) hW8
  replace XA : Ext w W8 := Ext.trans (Ext.trans XA (ext_alloc _ _)) hW8
  clear hc8 hW8
  have e9 : allowedB [0, 1, 2] [(0, 1)] [0, 1, 1] = true := by decide
  have e10 : allowedB [0, 1, 2] [(0, 1)] [0, 0, 2] = false := by decide
  have hc9 := allowed_any (some ⟨w.heap.size, 0, none⟩) 3 3 [0, 1, 2] (some ⟨W8.heap.size, 0, none⟩) 1 1 [(0, 1)] (some ⟨W8.heap.size + 1, 0, none⟩) 3 3 [0, 1, 1] ((W8.alloc (.cells #[.int .i64 0, .int .i64 1] 42)).alloc (.cells #[.int .i64 0, .int .i64 1, .int .i64 1] 3)) (reads3 (at_new (at_new F1b _) _)) (readsP1 (at_new (heap_alloc_new _ _) _)) (reads3 (heap_new2 _ _ _))
  rw [e9] at hc9
  go_wp2_with (go_at_call 17; refine hc9.mono ?_; clear hc9; rintro e W9 ⟨rfl, hW9⟩)
  replace F1b := at_ext (at_new (at_new F1b _) _) hW9
  replace F2b := at_ext (at_new (at_new F2b _) _) hW9
  replace XA : Ext w W9 := Ext.trans (Ext.trans (Ext.trans XA (ext_alloc _ _)) (ext_alloc _ _)) hW9
  clear hW9
  have hc10 := allowed_any (some ⟨w.heap.size, 0, none⟩) 3 3 [0, 1, 2] (some ⟨W9.heap.size, 0, none⟩) 1 1 [(0, 1)] (some ⟨W9.heap.size + 1, 0, none⟩) 3 3 [0, 0, 2] ((W9.alloc (.cells #[.int .i64 0, .int .i64 1] 42)).alloc (.cells #[.int .i64 0, .int .i64 0, .int .i64 2] 3)) (reads3 (at_new (at_new F1b _) _)) (readsP1 (at_new (heap_alloc_new _ _) _)) (reads3 (heap_new2 _ _ _))
  rw [e10] at hc10
  refine hc10.mono ?_
  rintro e W10 ⟨rfl, hW10⟩
  replace F1b := at_ext (at_new (at_new F1b _) _) hW10
  replace F2b := at_ext (at_new (at_new F2b _) _) hW10
  replace XA : Ext w W10 := Ext.trans (Ext.trans (Ext.trans XA (ext_alloc _ _)) (ext_alloc _ _)) hW10
  clear hc10 hW10
  have hc11 := componentsF_any (some ⟨b2, 0, none⟩) 3 3 [⟨0, 1, 5⟩, ⟨1, 2, 4⟩, ⟨0, 2, -3⟩] (some ⟨w.heap.size, 0, none⟩) 3 3 [0, 1, 2] W10 (readsE3 F2b) (reads3 F1b)
  have hgd : (validB [0, 1, 2] && linkedB 3 [⟨0, 1, 5⟩, ⟨1, 2, 4⟩, ⟨0, 2, -3⟩]) = true := by decide
  have hgd : (validB [0, 1, 2] && linkedB (3 : Nat) [⟨0, 1, 5⟩, ⟨1, 2, 4⟩, ⟨0, 2, -3⟩]) = true := hgd
  simp only [hgd, if_true] at hc11
  go_wp2_with (go_at_call 20
               go_loud (refine hc11.mono ?_
                        rintro e W11 ⟨v, rfl, hW11, vs, ms, hms, hF⟩
                        have hvl : vs.length = 1 := hF.len.trans ((List.length_map _).trans (comps3 hms))
                        have hout := hF.out
                        rw [hvl] at hout
                        obtain ⟨A7, c7, rfl, hA7⟩ := own_slice hout))
  go_ret
  exact ⟨rfl, Ext.trans XA hW11⟩

end Go.Proofs.Ytiapdpbcnbgdmaa
