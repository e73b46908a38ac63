import Derived.Test.YtiapdpbcnbgdmaaWs
set_option linter.unusedVariables false
set_option linter.unusedSimpArgs false
namespace Go.Proofs.Ytiapdpbcnbgdmaa
open Go.RowKit

set_option maxRecDepth 100000 in
set_option maxHeartbeats 8000000 in
theorem greedy_any {w : World} {A1 : Option Addr} {n c1 : Nat} {cl : List Int} {v0 : Value} {r1 r2 : Nat} {WT : Int × Int → Option Int} {AP : Int × Int → Option Bool} (h1 : RInts w A1 n cl) (hM : MapFn w r1 kvP vvI WT) (hA : MapFn w r2 kvP vvB AP) (hn : n ≤ 2000) (hn0 : 0 < n) (hAt : ∀ p b, AP p = some b → b = true)
    (q : Nat) (hqW : ∀ p x, WT p = some x → 0 ≤ p.1 ∧ p.1 < q ∧ 0 ≤ p.2 ∧ p.2 < q) (hqA : ∀ p x, AP p = some x → 0 ≤ p.1 ∧ p.1 < q ∧ 0 ≤ p.2 ∧ p.2 < q) (hq : q ≤ 40) (hcl : ∀ c ∈ cl, 0 ≤ c ∧ c < q) (hlW : ∀ p, WT p ≠ none → p.1 < p.2) (hlA : ∀ p, AP p ≠ none → p.1 < p.2) (hbW : ∀ p, -100000000000 ≤ (WT p).getD 0 ∧ (WT p).getD 0 ≤ 100000000000) :
    Calls Try.prog 35 #[.agg #[v0, .map (some r1), .map (some r2)], .slice A1 n c1] w fun e w' => ∃ v hd, e = .returned v ∧ GRun q WT AP cl id hd ∧ w'.ownsRow w.heap.size 3 1 v n (ints (cl.map hd)) ∧ Ext w w' := by
  have hmm := @run_makeMap Try.prog
  obtain ⟨ba, oa, rfl, hc⟩ := h1.cell hn0
  have hba : ba < w.heap.size := World.block_lt_of_cell? _ _ (hc 0 hn0)
  have hr1 := hM.lt
  have hr2 := hA.lt
  have hlen := h1.len
  obtain ⟨W0, HW⟩ : ∃ W0, Hid (W0 = (((w.alloc (.cells #[v0, .map (some r1), .map (some r2)] 52)).alloc (.map #[] 0)).alloc (.map #[] 0)).alloc (.map #[] 0)) := ⟨_, rfl⟩
  have G0 : GrSt w v0 r1 r2 (fun _ => none) (fun _ => none) (fun _ => none) W0 := by rw [HW.out]; exact GrSt.start w v0 r1 r2
  have hS0 : W0.heap.size = w.heap.size + 1 + 1 + 1 + 1 := by rw [HW.out]; simp
  go_enter Try.func35, Try.ntmps35
  go_wp2
  rw [← HW.out]
  clear HW hmm
  go_loopw [9, 38] (fun _ t wr => ∃ j : Nat, j ≤ n ∧ t = .int .i64 j ∧ GrSt w v0 r1 r2 (fun c => if c ∈ cl.take j then some c else none) (fun _ => none) (fun _ => none) wr ∧ w.heap.size + 1 + 1 + 1 + 1 ≤ wr.heap.size) (fun _ t _ => n - (intOf t).toNat)
  case atStart => exact ⟨0, Nat.zero_le _, rfl, by simpa using G0, by omega⟩
  case round =>
    obtain ⟨j, hj, rfl, G, hsz⟩ := hrel
    by_cases hlt : j < n
    · have k1 := cell_ext G.ext (hc j hlt)
      obtain ⟨W', hst, hM', hg', _⟩ := update_fn keyI Try.underlying68 G.h (nth cl j) (nth cl j)
      have G' := (G.turnH hg' hM').congr (H' := fun c => if c ∈ cl.take (j + 1) then some c else none) (Wt' := fun _ => none) (At' := fun _ => none) (fun c => by
        have e : cl.take (j + 1) = cl.take j ++ [nth cl j] := by
          rw [List.take_add_one]
          simp [nth, List.getD_eq_getElem?_getD, List.getElem?_eq_getElem (show j < cl.length by omega)]
        rw [e]
        by_cases hcj : c = nth cl j
        · simp [hcj]
        · simp [hcj]) (fun _ => rfl) (fun _ => rfl)
      have hsz' := Nat.le_trans hsz hg'.size
      dsimp only [vvI] at hst
      clear G hM' hg'
      go_wp2
      go_roundw
      case rel => exact ⟨j + 1, by omega, by go_num, G', hsz'⟩
      case measure => (simp [intOf]; omega)
    · obtain rfl : n = j := by omega
      have G := G.congr (H' := headOf cl id) (Wt' := fun _ => none) (At' := fun _ => none) (fun c => by rw [← hlen, List.take_length]; rfl) (fun _ => rfl) (fun _ => rfl)
      obtain ⟨clk, hrg, n0, hit⟩ := iter_start (P := Try.prog) Try.underlying49 (hM.same (G.ext.block _ hr1))
      have hn0' := iter_few hit q hqW
      have kb := (cells_of G.box 1 rfl).1
      have hsw := G.ext.size
      have G1 := G.keepE (ext_alloc wr (.mapIter (some r1) clk #[] clk))
      generalize hib : wr.heap.size = ib at *
      go_wp2
      go_loopg [10, 11, 12, 13, 14, 15] n0 (fun gg _ _ _ _ _ _ wr => ∃ D c Wt, c ≤ gg ∧ IterSt wr ib r1 kvP vvI WT D c ∧ GrSt w v0 r1 r2 (headOf cl id) Wt (fun _ => none) wr ∧ (∀ p, (D p → Wt p = if p.1 ∈ cl ∧ p.2 ∈ cl then WT p else none) ∧ (¬ D p → Wt p = none)))
      case atStart => exact ⟨_, n0, _, Nat.le_refl _, hit, G1, fun p => ⟨fun h => h.elim, fun _ => rfl⟩⟩
      case round =>
        obtain ⟨D, c, Wt, hc', I, G, hWt⟩ := hrel
        rcases iter_next (P := Try.prog) I 0 with ⟨rfl, hall, hnx⟩ | ⟨p, x, w1, hMp, hDp, hc0, hnx, hit1, hg1, hs1, hent⟩
        · have hWf : ∀ p, Wt p = if p.1 ∈ cl ∧ p.2 ∈ cl then WT p else none := fun p => by
            by_cases h : D p
            · exact (hWt p).1 h
            · rw [(hWt p).2 h]
              cases hW : WT p with
              | none => simp
              | some x => exact absurd (hall p x hW) h
          obtain ⟨clk2, hrg2, n2, hit'⟩ := iter_start (P := Try.prog) Try.underlying50 (hA.same (G.ext.block _ hr2))
          have kb2 := (cells_of G.box 2 rfl).1
          have hsw2 := G.ext.size
          have hGl := G.lt
          have G1 := G.keepE (ext_alloc wr (.mapIter (some r2) clk2 #[] clk2))
          clear G I hall hit G0 hWt hn0' hrg
          generalize hib2 : wr.heap.size = ib2 at *
          go_wp2
          go_loopg [16] n2 (fun gg _ wr => ∃ D c At, c ≤ gg ∧ IterSt wr ib2 r2 kvP vvB AP D c ∧ GrSt w v0 r1 r2 (headOf cl id) Wt At wr ∧ (∀ p, (D p → At p = AP p) ∧ (¬ D p → At p = none)))
          case atStart => exact ⟨_, n2, _, Nat.le_refl _, hit', G1, fun p => ⟨fun h => h.elim, fun _ => rfl⟩⟩
          case round =>
            obtain ⟨D, c, At, hc', I, G, hAtD⟩ := hrel
            rcases iter_next (P := Try.prog) I 0 with ⟨rfl, hall, hnx2⟩ | ⟨p, x, w1, hMp, hDp, hc0, hnx2, hit1, hg1, hs1, hent⟩
            · have hAf : ∀ p, At p = AP p := fun p => by
                by_cases h : D p
                · exact (hAtD p).1 h
                · rw [(hAtD p).2 h]
                  cases hW : AP p with
                  | none => rfl
                  | some x => exact absurd (hall p x hW) h
              have G2 := G.congr (H' := headOf cl id) (Wt' := fun p => if p.1 ∈ cl ∧ p.2 ∈ cl then WT p else none) (At' := AP) (fun _ => rfl) hWf hAf
              have I2 := GInv.start (q := q) hcl hlW (fun p h => by
                obtain ⟨b, hb⟩ := Option.ne_none_iff_exists'.1 h
                exact ⟨hlA p h, hqA p b hb⟩) hAt
              clear G I hall hAtD G1 hit' hrg2 hWf hAf
              go_wp2
              go_loopg [17] (heads cl id) (fun gg _ wr => ∃ hd Wt At, heads cl hd ≤ gg ∧ GInv q WT AP cl hd Wt At ∧ GrSt w v0 r1 r2 (headOf cl hd) Wt At wr ∧ (∀ hd', GRun q WT AP cl hd hd' → GRun q WT AP cl id hd'))
              case atStart => exact ⟨id, _, _, Nat.le_refl _, I2, G2, fun _ h => h⟩
              case round =>
                obtain ⟨hd, Wt, At, hgg, GI, G, hcont⟩ := hrel
                have hGl := G.lt
                have hsz0 := G.ext.size
                have q0 := heap_alloc_new wr (.cells #[.int .i64 0, .int .i64 0] 42)
                have G1 := G.keepE (ext_alloc wr (.cells #[.int .i64 0, .int .i64 0] 42))
                obtain ⟨clk3, hrg3, n3, hit3⟩ := iter_start (P := Try.prog) Try.underlying49 G1.wt
                have G2 := G1.keepE (ext_alloc (wr.alloc (.cells #[.int .i64 0, .int .i64 0] 42)) (.mapIter (some (w.heap.size + 1 + 1)) clk3 #[] clk3))
                have q1 := (heap_old (wr.alloc (.cells #[.int .i64 0, .int .i64 0] 42)) (.mapIter (some (w.heap.size + 1 + 1)) clk3 #[] clk3) wr.heap.size (by simp)).trans q0
                rw [World.size_alloc] at hrg3 hit3
                clear G1 G q0
                generalize hnb : wr.heap.size = nb at *
                go_wp2
                go_loopg [18, 19, 20] n3 (fun gg t18 _ _ wr => ∃ D c nx most, c ≤ gg ∧ t18 = .int .i64 most ∧ IterSt wr (nb + 1) (w.heap.size + 1 + 1) kvP vvI Wt D c ∧ GrSt w v0 r1 r2 (headOf cl hd) Wt At wr ∧ wr.heap[nb]? = some (.cells #[.int .i64 nx.1, .int .i64 nx.2] 42 (0, 0)) ∧ Sel Wt At D nx most ∧ nb + 1 < wr.heap.size)
                case atStart => exact ⟨_, n3, (0, 0), 0, Nat.le_refl _, rfl, hit3, G2, q1, .inl ⟨rfl, fun p x h => h.elim⟩, by simp; omega⟩
                case round =>
                  obtain ⟨D, c, nx, most, hcc, rfl, I, G, qn, hSel, hszn⟩ := hrel
                  rcases iter_next (P := Try.prog) I 0 with ⟨rfl, hall, hnx3⟩ | ⟨p, x, w1, hMp, hDp, hc0, hnx3, hit1, hg1, hs1, hent⟩
                  · have hSelF : (most = 0 ∧ ∀ p x, Wt p = some x → (At p).getD false = false → x ≤ 0) ∨ (0 < most ∧ Wt nx = some most ∧ (At nx).getD false = false ∧ ∀ p x, Wt p = some x → (At p).getD false = false → x < most ∨ (x = most ∧ cmpP nx p ≤ 0)) := by
                      rcases hSel with ⟨h1, h2⟩ | ⟨h1, h2, h3, h4⟩
                      · exact .inl ⟨h1, fun p x h => h2 p x (hall p x h) h⟩
                      · exact .inr ⟨h1, h2, h3, fun p x h => h4 p x (hall p x h) h⟩
                    clear hSel hall hit3 I
                    rcases hSelF with ⟨rfl, hstop⟩ | ⟨hmost, hWn, hAn, hbest⟩
                    · -- nothing is left to unite
                      have hrun : GRun q WT AP cl id hd := hcont _ (GRun.stop fun p hp => by
                        have hv := GI.wval p (by have := hp.lt; omega)
                        rw [← hv]
                        cases hk : Wt p with
                        | none => simp
                        | some y =>
                          refine hstop p y hk ?_
                          cases ha : At p with
                          | none => rfl
                          | some b => exact absurd ((GI.akey p hp.h1 hp.h2).1 (by rw [ha]; simp)) hp.ap)
                      have HR := Lib.hid hrun
                      have Gn := G
                      clear hrun hcont hstop hgg qn
                      go_wp2
                      go_loopw [30, 173] (fun t30 t wr => ∃ j : Nat, j ≤ n ∧ t = .int .i64 j ∧ GrSt w v0 r1 r2 (headOf cl hd) Wt At wr ∧ wr.ownsRow (w.heap.size + 1 + 1 + 1 + 1) 3 1 t30 j (ints ((cl.map hd).take j))) (fun _ t _ => n - (intOf t).toNat)
                      case atStart => exact ⟨0, Nat.zero_le _, rfl, Gn, World.ownsRow_nil _ _ _ _⟩
                      case round =>
                        obtain ⟨j, hj, rfl, G, hrow⟩ := hrel
                        by_cases hlt : j < n
                        · have k1 := cell_ext G.ext (hc j hlt)
                          have hl9 := lookup_fn keyI Try.underlying68 G.h (nth cl j) zero3 false
                          have hmem : nth cl j ∈ cl := by
                            have hj' : j < cl.length := by omega
                            simp only [nth, List.getD_eq_getElem?_getD, List.getElem?_eq_getElem hj', Option.getD_some]
                            exact List.getElem_mem hj'
                          have e1 : headOf cl hd (nth cl j) = some (hd (nth cl j)) := by simp [headOf, hmem]
                          rw [e1] at hl9
                          dsimp only [vvI] at hl9
                          have hl : (ints ((cl.map hd).take j)).length = j := by simp; omega
                          have hrow2 : wr.ownsRow (w.heap.size + 1 + 1 + 1 + 1) 3 1 u30 (ints ((cl.map hd).take j)).length (ints ((cl.map hd).take j)) := by rw [hl]; exact hrow
                          obtain ⟨v', w', happ, hown, hg, hob, hnn⟩ := append_one Try.underlying23 info3 rfl (by omega) (.int .i64 (hd (nth cl j))) rfl hrow2 G.lt (by rw [hl]; omega)
                          have htk : ints ((cl.map hd).take j) ++ [.int .i64 (hd (nth cl j))] = ints ((cl.map hd).take (j + 1)) := by
                            have hj' : j < cl.length := by omega
                            rw [List.take_add_one]
                            simp [nth, List.getD_eq_getElem?_getD, List.getElem?_eq_getElem hj']
                          have hl2 : (ints ((cl.map hd).take j) ++ [Value.int .i64 (hd (nth cl j))]).length = j + 1 := by simp; omega
                          rw [hl2, htk] at hown
                          have Gw := G.keep (X := fun k => w.heap.size + 1 + 1 + 1 + 1 ≤ k) ⟨hg.os, hg.tape, hg.output, hg.size, fun k hk hn => hg.block k hk (fun e => hn (own_block hrow e.symm).1)⟩ (fun k hk => by omega)
                          have HF := Lib.hid (And.intro Gw hown)
                          clear hown hg hob hrow2 hrow Gw G hnn
                          go_wp2_with (at_builtin; refine wpList_app happ rfl rfl rfl rfl ?_)
                          go_roundw
                          case rel => exact ⟨j + 1, by omega, by go_num, HF.out.1, HF.out.2⟩
                          case measure => (simp [intOf]; omega)
                        · obtain rfl : n = j := by omega
                          go_wp2
                          refine bodyPost_ret (results_tmp rfl _ _ _) rfl ⟨_, hd, rfl, HR.out, ?_, G.ext⟩
                          rw [List.take_of_length_le (by simp [hlen])] at hrow
                          exact own_base hrow (by omega)
                    · have hne0 : (most == 0) = false := beq_f (by omega)
                      obtain ⟨hw1, hw2, hw3, hw4, hw5⟩ := GI.wkey nx (by rw [hWn]; simp)
                      obtain ⟨clk4, hrg4, n4, hit4⟩ := iter_start (P := Try.prog) Try.underlying68 G.h
                      have G4 := G.keepE (ext_alloc wr (.mapIter (some (w.heap.size + 1)) clk4 #[] clk4))
                      have q4 := (heap_old wr (.mapIter (some (w.heap.size + 1)) clk4 #[] clk4) nb (by omega)).trans qn
                      generalize hib4 : wr.heap.size = ib4 at *
                      go_wp2
                      go_loopg [21, 22] n4 (fun gg _ _ wr => ∃ D c H, c ≤ gg ∧ IterSt wr ib4 (w.heap.size + 1) vvI vvI H D c ∧ GrSt w v0 r1 r2 H Wt At wr ∧ wr.heap[nb]? = some (.cells #[.int .i64 nx.1, .int .i64 nx.2] 42 (0, 0)) ∧ (∀ k, (D k → H k = (headOf cl hd k).map (subst nx.1 nx.2)) ∧ (¬ D k → H k = headOf cl hd k)) ∧ ib4 < wr.heap.size)
                      case atStart => exact ⟨_, n4, _, Nat.le_refl _, hit4, G4, q4, fun k => ⟨fun h => h.elim, fun _ => rfl⟩, by simp; omega⟩
                      case round =>
                        obtain ⟨D, c, H, hcc, I, G, qn, hH, hszn⟩ := hrel
                        rcases iter_next (P := Try.prog) I 0 with ⟨rfl, hall, hnx4⟩ | ⟨p, x, w1, hMp, hDp, hc0, hnx4, hit1, hg1, hs1, hent⟩
                        · have hHf : ∀ k, H k = headOf cl (fun c => subst nx.1 nx.2 (hd c)) k := fun k => by
                            by_cases hD : D k
                            · rw [(hH k).1 hD]; unfold headOf; split <;> rfl
                            · rw [(hH k).2 hD]
                              cases hk : headOf cl hd k with
                              | some v => exact absurd (hall k v (by rw [(hH k).2 hD]; exact hk)) hD
                              | none =>
                                unfold headOf at hk ⊢
                                split at hk
                                · cases hk
                                · rename_i h; rw [if_neg h]
                          have G5 := G.congr (H' := headOf cl (fun c => subst nx.1 nx.2 (hd c))) (Wt' := Wt) (At' := At) hHf (fun _ => rfl) (fun _ => rfl)
                          obtain ⟨lw, cw, himw, hgw⟩ := G5.wt
                          have hcl56 := mapsClone_any himw.heap
                          obtain ⟨W5, hW5⟩ : ∃ W5, Hid (W5 = wr.alloc (mapObj kvP vvI lw cw)) := ⟨_, rfl⟩
                          have hx5 : Ext wr W5 := by rw [hW5.out]; exact ext_alloc _ _
                          have G6 := G5.keepE hx5
                          have hold : MapFn W5 wr.heap.size kvP vvI Wt := ⟨lw, cw, ⟨by rw [hW5.out]; exact heap_alloc_new _ _, himw.tidy⟩, hgw⟩
                          have q5 := (hx5.block nb (by omega)).trans qn
                          obtain ⟨W6, hclr, hm6, hg6⟩ := clear_fn (P := Try.prog) (ty := 0) Try.underlying49 G6.wt
                          have G7 := G6.turnW hg6 hm6
                          have hold6 := hold.same (hg6.block _ hold.lt (fun e => by have := Option.some.inj e; omega))
                          have q6 := (hg6.block nb (by have := hx5.size; omega) (fun e => by have := Option.some.inj e; omega)).trans q5
                          clear G G4 G5 G6 I hit4 hall hH hHf himw hgw
                          generalize hob : wr.heap.size = ob at *
                          have hs56 : ob < W6.heap.size := hold6.lt
                          have hnb4 : nb < ib4 ∧ ib4 < ob := by omega
                          obtain ⟨clk7, hrg7, n7, hit7⟩ := iter_start (P := Try.prog) Try.underlying49 hold6
                          have hqk : ∀ p x, Wt p = some x → 0 ≤ p.1 ∧ p.1 < q ∧ 0 ≤ p.2 ∧ p.2 < q := fun p x h => by
                            obtain ⟨_, k2, k3, _, _⟩ := GI.wkey p (by rw [h]; simp)
                            have := hcl _ k2
                            have := hcl _ k3
                            omega
                          have hn7 := iter_few' hit7 q hqk
                          have G8 := G7.keepE (ext_alloc W6 (.mapIter (some ob) clk7 #[] clk7))
                          have q8 := (heap_old W6 (.mapIter (some ob) clk7 #[] clk7) nb (by omega)).trans q6
                          have hWB := GI.bound hq hbW
                          have hbest' := best_of GI hmost hWn hAn hbest
                          have hmost' := Lib.hid hmost
                          clear hold hold6 q5 q6 G7 hg6 hm6 q4 hx5 hbest
                          generalize hib7 : W6.heap.size = ib7 at *
                          go_wp2_with (go_at_call 56; refine hcl56.mono ?_; rintro e w' ⟨rfl, hw'⟩; obtain rfl : w' = W5 := hw'.trans hW5.out.symm; clear hw' hcl56)
                          go_loopg [25] n7 (fun gg _ wr => ∃ D c ks Wt', c ≤ gg ∧ IterSt wr ib7 ob kvP vvI Wt D c ∧ GrSt w v0 r1 r2 (headOf cl fun c => subst nx.1 nx.2 (hd c)) Wt' At wr ∧ wr.heap[nb]? = some (.cells #[.int .i64 nx.1, .int .i64 nx.2] 42 (0, 0)) ∧ WSum nx.1 nx.2 Wt Wt' ks ∧ (∀ k, k ∈ ks ↔ D k) ∧ ks.Nodup ∧ ks.length + c ≤ q * q ∧ ib7 < wr.heap.size)
                          case atStart => exact ⟨_, n7, [], _, Nat.le_refl _, hit7, G8, q8, WSum.start, fun k => by simp, List.nodup_nil, by simpa using hn7, by simp; omega⟩
                          case round =>
                            obtain ⟨D, c, ks, Wt', hcc, I, G, qn, hWS, hks, hnd, hln, hszn⟩ := hrel
                            rcases iter_next (P := Try.prog) I 0 with ⟨rfl, hall, hnx7⟩ | ⟨p, x, w1, hMp, hDp, hc0, hnx7, hit1, hg1, hs1, hent⟩
                            · have hsz8 : ib7 < wr.heap.size := hszn
                              have hW' : ∀ p, p.1 ≠ p.2 → (Wt' p).getD 0 = gsum q fun p' => if renP nx.1 nx.2 p' = p then (Wt p').getD 0 else 0 := fun p hp => by
                                refine hWS.done hnd (fun k hk => ?_) (fun k hk => ?_) hp
                                · obtain ⟨v, hv⟩ := Option.ne_none_iff_exists'.1 hk
                                  exact (hks k).2 (hall k v hv)
                                · obtain ⟨v, hv⟩ := Option.ne_none_iff_exists'.1 hk
                                  exact mem_grid.2 (hqk k v hv)
                              have hWk' : ∀ p, Wt' p ≠ none → ∃ p', Wt p' ≠ none ∧ renP nx.1 nx.2 p' = p ∧ p.1 ≠ p.2 := fun p hp => by
                                obtain ⟨h, k, hk, e⟩ := hWS.key p hp
                                exact ⟨k, hk, e, h⟩
                              have hAq : ∀ p b, At p = some b → 0 ≤ p.1 ∧ p.1 < q ∧ 0 ≤ p.2 ∧ p.2 < q := fun p b h => GI.arng p (by rw [h]; simp)
                              obtain ⟨W8, hW8⟩ : ∃ W8, Hid (W8 = wr.alloc (.cells #[.map (some (w.heap.size + 1 + 1 + 1))] 50)) := ⟨_, rfl⟩
                              have hx8 : Ext wr W8 := by rw [hW8.out]; exact ext_alloc _ _
                              have hB8 : W8.cell? ⟨wr.heap.size, 0, none⟩ = some (.map (some (w.heap.size + 1 + 1 + 1))) := by
                                have := heap_alloc_new wr (.cells #[.map (some (w.heap.size + 1 + 1 + 1))] 50)
                                rw [← hW8.out] at this
                                exact (cells_of this 0 rfl).1
                              have G8 := G.keepE hx8
                              have hkeys := mapsKeys_any (w.heap.size + 1 + 1 + 1) wr
                              have hcol := collect_any hB8 G8.at_ q hAq (by omega)
                              have q8 := (hx8.block nb (by omega)).trans qn
                              have hsz9 : ib7 < W8.heap.size := Nat.lt_of_lt_of_le hsz8 hx8.size
                              clear hWS hks hnd hall I G
                              go_wp2_with (go_at_call 58; refine hkeys.mono ?_; rintro e w' ⟨rfl, hw'⟩; obtain rfl : w' = W8 := hw'.trans hW8.out.symm; clear hw' hkeys)
                              go_wp2_with (go_at_call 57; refine hcol.mono ?_; rintro e W9 ⟨A, c9, xs, rfl, hxs, hrp, hx9, hlx⟩)
                              have G9 := G8.keepE hx9
                              have q9 := (hx9.block nb (by omega)).trans q8
                              have hsz10 := Nat.lt_of_lt_of_le hsz9 hx9.size
                              have hqq : q * q ≤ 40 * 40 := Nat.mul_le_mul hq hq
                              have hqk := Lib.hid hqk
                              clear G8 q8 hB8 hcol hx8 hsz9
                              go_loopw [29, 162] (fun _ t wr => ∃ (j : Nat) (At' : Int × Int → Option Bool), j ≤ xs.length ∧ t = .int .i64 j ∧ GrSt w v0 r1 r2 (headOf cl fun c => subst nx.1 nx.2 (hd c)) Wt' At' wr ∧ ARen nx.1 nx.2 At At' (xs.take j) ∧ Kept (fun k => k = w.heap.size + 1 + 1 + 1) W9 wr) (fun _ t _ => xs.length - (intOf t).toNat)
                              case atStart => exact ⟨0, At, Nat.zero_le _, rfl, G9, ARen.start GI.aval, Kept.refl _ _⟩
                              case round =>
                                obtain ⟨j, At', hj, rfl, G, hAR, hK⟩ := hrel
                                have hszr := Nat.lt_of_lt_of_le hsz10 hK.size
                                by_cases hlt : j < xs.length
                                · obtain ⟨b, off, rfl, hcell⟩ := hrp.cell (by omega)
                                  obtain ⟨k1, k2⟩ := hcell j hlt
                                  have hbA : b ≠ w.heap.size + 1 + 1 + 1 := fun e => by
                                    obtain ⟨la, ca, hma, -⟩ := G9.at_
                                    have := hma.heap
                                    unfold World.cell? at k1
                                    rw [e, this] at k1
                                    simp [mapObj] at k1
                                  have k1 := hK.cell k1 hbA
                                  have k2 := hK.cell k2 hbA
                                  obtain ⟨p, hp⟩ : ∃ p, Hid (pth xs j = p) := ⟨_, rfl⟩
                                  rw [hp.out] at k1 k2
                                  have hbl : b < wr.heap.size := World.block_lt_of_cell? _ _ k1
                                  have qr := (hK.block nb (by omega) (by omega)).trans q9
                                  obtain ⟨W2, hW2⟩ : ∃ W2, Hid (W2 = wr.alloc (.cells #[.int .i64 p.1, .int .i64 p.2] 42)) := ⟨_, rfl⟩
                                  have hx2 : Ext wr W2 := by rw [hW2.out]; exact ext_alloc _ _
                                  have q2 := (hx2.block nb (by omega)).trans qr
                                  obtain ⟨t1, -⟩ := cells_of q2 0 rfl
                                  obtain ⟨t2, -⟩ := cells_of q2 1 rfl
                                  have hren := renamed_any p.1 p.2 nx.1 nx.2 nb W2 t1 t2
                                  obtain ⟨r, hr⟩ : ∃ r, Hid (renP nx.1 nx.2 p = r) := ⟨_, rfl⟩
                                  have hrr : ordP (subst nx.1 nx.2 p.1) (subst nx.1 nx.2 p.2) = r := hr.out
                                  rw [hrr] at hren
                                  have htk : xs.take (j + 1) = xs.take j ++ [p] := by
                                    rw [List.take_add_one, ← hp.out]
                                    simp [pth, List.getD_eq_getElem?_getD, List.getElem?_eq_getElem hlt]
                                  have hAR2 := hAR.add hr.out
                                  rw [← htk] at hAR2
                                  have HF := Lib.hid (fun (W' : World) (hx : Ext W2 W') => (⟨G.keepE (Ext.trans hx2 hx), hK.trans (.of_ext (Ext.trans hx2 hx))⟩ : GrSt w v0 r1 r2 (headOf cl fun c => subst nx.1 nx.2 (hd c)) Wt' At' W' ∧ Kept (fun k => k = w.heap.size + 1 + 1 + 1) W9 W'))
                                  have HA := Lib.hid hAR2
                                  have HP := Lib.hid hrp
                                  clear hAR2 hAR hcell hrp G hK qr q2 t1 t2 hrr hr hx2 htk
                                  go_wp2_with (go_at_call 55; rw [← hW2.out]; refine hren.mono ?_; rintro e W3 ⟨rfl, hx3⟩; obtain ⟨f1, f2⟩ := HF.out _ hx3; obtain ⟨W', hst, hM', hg', _⟩ := update_fn keyP Try.underlying50 f1.at_ r true; dsimp only [kvP, vvB] at hst)
                                  go_roundw
                                  case rel => exact ⟨j + 1, _, by omega, by go_num, f1.turnA hg' hM', HA.out, f2.trans (.of_grown hg' rfl)⟩
                                  case measure => (simp [intOf]; omega)
                                · obtain rfl : xs.length = j := by omega
                                  rw [List.take_length] at hAR
                                  go_wp2
                                  go_roundg (heads cl fun c => subst nx.1 nx.2 (hd c))
                                  case measure => exact Nat.lt_of_lt_of_le (heads_less hw3 hw5 hw4 hw1) hgg
                                  case rel =>
                                    refine ⟨_, Wt', At', Nat.le_refl _, GI.step hcl hw2 hw3 hw4 hw5 hw1 hW' hWk' (fun p => ?_) hAR.val, G, fun hd' h => hcont _ (GRun.step hbest' h)⟩
                                    rw [hAR.key p]
                                    constructor
                                    · rintro (h | ⟨k, h, e⟩)
                                      · exact .inl h
                                      · exact .inr ⟨k, (hxs k).1 h, e⟩
                                    · rintro (h | ⟨k, h, e⟩)
                                      · exact .inl h
                                      · exact .inr ⟨k, (hxs k).2 h, e⟩
                            · have hK1 : Kept (fun k => k = ib7) _ _ := .of_grown (X := fun k => k = ib7) hg1 rfl
                              have hbl : w.heap.size + 1 + 1 + 1 < nb ∧ nb < ib7 ∧ w.heap.size + 1 + 1 + 1 < ib7 := by omega
                              have G1' := G.keep hK1 (fun k hk => by omega)
                              have q1' := (hK1.block nb (by omega) (by omega)).trans qn
                              obtain ⟨W2, hW2⟩ : ∃ W2, Hid (W2 = w1.alloc (.cells #[.int .i64 p.1, .int .i64 p.2] 42)) := ⟨_, rfl⟩
                              have hx2 : Ext w1 W2 := by rw [hW2.out]; exact ext_alloc _ _
                              have G2' := G1'.keepE hx2
                              have q2' := (hx2.block nb (by omega)).trans q1'
                              obtain ⟨t1, -⟩ := cells_of q2' 0 rfl
                              obtain ⟨t2, -⟩ := cells_of q2' 1 rfl
                              have hren := renamed_any p.1 p.2 nx.1 nx.2 nb W2 t1 t2
                              obtain ⟨r, hr⟩ : ∃ r, Hid (renP nx.1 nx.2 p = r) := ⟨_, rfl⟩
                              have hrr : ordP (subst nx.1 nx.2 p.1) (subst nx.1 nx.2 p.2) = r := hr.out
                              rw [hrr] at hren
                              have hit2 := hit1.same (hx2.block _ hit1.lt.1) (hx2.block _ hit1.lt.2.1)
                              have hsz2 : ib7 < W2.heap.size := by have := hx2.size; omega
                              have hln1 : (p :: ks).length + (c - 1) ≤ q * q := by simp only [List.length_cons]; omega
                              have hks1 : ∀ k, k ∈ p :: ks ↔ (k = p ∨ D k) := fun k => by simp [hks]
                              have hnd1 : (p :: ks).Nodup := List.nodup_cons.2 ⟨fun h => hDp ((hks p).1 h), hnd⟩
                              clear hrr G G1' q1' I hit1 hx2 hks hnd hln hDp hK1 hg1
                              have HF := Lib.hid (fun (W' : World) (hx : Ext W2 W') => (⟨hit2.same (hx.block _ hit2.lt.1) (hx.block _ hit2.lt.2.1), G2'.keepE hx, (hx.block nb (by omega)).trans q2', Nat.lt_of_lt_of_le hsz2 hx.size⟩ : IterSt W' ib7 ob kvP vvI Wt (fun k => k = p ∨ D k) (c - 1) ∧ GrSt w v0 r1 r2 (headOf cl fun c => subst nx.1 nx.2 (hd c)) Wt' At W' ∧ W'.heap[nb]? = some (.cells #[.int .i64 nx.1, .int .i64 nx.2] 42 (0, 0)) ∧ ib7 < W'.heap.size))
                              clear hit2 G2' q2' hsz2 t1 t2
                              dsimp only [vvI] at hnx7 hent
                              have hMpx := Lib.hid hMp
                              have hrx := Lib.hid hr.out
                              clear hMp hr
                              by_cases hre : r.1 = r.2
                              · have hrb := bne_f hre
                                go_wp2_with (go_at_call 55; rw [← hW2.out]; refine hren.mono ?_; rintro e W3 ⟨rfl, hx3⟩)
                                have hxe := Ext.trans hx3 (ext_alloc W3 (.cells #[.int .i64 r.1, .int .i64 r.2] 42))
                                obtain ⟨f1, f2, f3, f4⟩ := HF.out _ hxe
                                rw [hre] at f1 f2 f3 f4
                                go_roundg (c - 1)
                                case measure => omega
                                case rel => exact ⟨_, c - 1, p :: ks, Wt', Nat.le_refl _, f1, f2, f3, hWS.skip hrx.out hre, hks1, hnd1, hln1, f4⟩
                              · have hrb := bne_t hre
                                go_wp2_with (go_at_call 55; rw [← hW2.out]; refine hren.mono ?_; rintro e W3 ⟨rfl, hx3⟩)
                                obtain ⟨W4, hW4⟩ : ∃ W4, Hid (W4 = W3.alloc (.cells #[.int .i64 r.1, .int .i64 r.2] 42)) := ⟨_, rfl⟩
                                have hx4 : Ext W3 W4 := by rw [hW4.out]; exact ext_alloc _ _
                                have hq4 : W4.heap[W3.heap.size]? = some (.cells #[.int .i64 r.1, .int .i64 r.2] 42 (0, 0)) := by rw [hW4.out]; exact heap_alloc_new _ _
                                have hxe := Ext.trans hx3 hx4
                                obtain ⟨f1, f2, f3, f4⟩ := HF.out _ hxe
                                obtain ⟨b1, -⟩ := cells_of hq4 0 rfl
                                obtain ⟨b2, -⟩ := cells_of hq4 1 rfl
                                have hsz3 : ib7 < W3.heap.size := by have := hx3.size; have := (HF.out _ ⟨rfl, rfl, rfl, Nat.le_refl _, fun _ _ => rfl⟩).2.2.2; omega
                                rw [← hW4.out]
                                obtain ⟨lw, cw, hMw, hgw⟩ := f2.wt
                                obtain ⟨y0, hy0⟩ : ∃ y0, Hid ((getL lw r).getD 0 = y0) := ⟨_, rfl⟩
                                have hbd := hWS.bound hWB (by have h40 : q * q ≤ 40 * 40 := Nat.mul_le_mul hq hq; have := hln1; simp only [List.length_cons] at this; omega) hre
                                rw [← hgw, hy0.out] at hbd
                                have hbx := hWB p
                                rw [hMpx.out] at hbx
                                simp only [Option.getD_some] at hbx
                                refine wp_region_flow 7 [5] (fun k => GCls W4 (w.heap.size + 1 + 1) lw cw r (k == 1)) (by kernel_rfl) (by kernel_rfl) (GCls.start hMw.heap) ?_
                                simp only [List.take_succ_cons, List.take_zero, List.drop_succ_cons, List.drop_zero]
                                refine flow_pure (.map (some (w.heap.size + 1 + 1))) rfl rfl (fun b W hW => by simp [go_sem]) ?_
                                refine flow_pure (kvP r) rfl rfl (fun b W hW => by simp [go_sem, hW.cell b1 (by dsimp only; omega), hW.cell b2 (by dsimp only; omega)]) ?_
                                refine flow_pure (.int .i64 y0) rfl rfl (fun b W hW => by have hlk := hW.lookup hMw.tidy Try.underlying49; rw [hy0.out] at hlk; simp [go_sem, hlk]) ?_
                                refine flow_pure (.int .i64 x) rfl rfl (fun b W hW => by simp [go_sem]) ?_
                                refine flow_pure (.int .i64 (y0 + x)) rfl rfl (fun b W hW => by simp [go_sem]; exact IntWalk.i64_in _ (by omega)) ?_
                                refine flow_mark 0 (.tuple #[.int .i64 y0, goInt (stampL lw r cw)]) rfl rfl (fun W hW => by
                                  obtain ⟨W', h1, h2⟩ := hW.entry hMw.tidy Try.underlying49
                                  rw [hy0.out] at h1
                                  exact ⟨W', by simp [go_sem, h1], h2⟩) ?_
                                refine flow_pure (goInt (stampL lw r cw)) rfl rfl (fun b W hW => by simp [go_sem]) ?_
                                refine flow_nil fun W hW => ?_
                                go_frame
                                obtain ⟨W', hst, hM', hg'⟩ := GCls.store hMw.tidy (T := 49) hW (y0 + x)
                                simp only [goInt] at hst
                                refine wpList_skip rfl (w' := W') (by simp [go_sem, hst]) ?_
                                go_frame
                                go_wp2
                                go_roundg (c - 1)
                                case measure => omega
                                case rel =>
                                  have hk : ∀ k, k < W4.heap.size → k ≠ w.heap.size + 1 + 1 → W'.heap[k]? = W4.heap[k]? := fun k hk hn => hg'.block k hk (fun e => hn (Option.some.inj e))
                                  have g := hg'.size
                                  exact ⟨_, c - 1, p :: ks, fun p => if p = r then some ((Wt' r).getD 0 + x) else Wt' p, Nat.le_refl _, f1.same (hk _ (by omega) (by omega)) (hk _ (by omega) (by omega)), (f2.turnW hg' hM').congr (fun _ => rfl) (fun k => by rw [← hgw, ← hgw, hy0.out]) (fun _ => rfl), (hk _ (by omega) (by omega)).trans f3, hWS.add hMpx.out hrx.out hre, hks1, hnd1, hln1, by omega⟩
                        · have hK1 : Kept (fun k => k = ib4) _ _ := .of_grown (X := fun k => k = ib4) hg1 rfl
                          have hbl : w.heap.size + 1 + 1 + 1 < nb ∧ nb < ib4 := by omega
                          have G1' := G.keep hK1 (fun k hk => by omega)
                          have q1' := (hK1.block nb (by omega) (by omega)).trans qn
                          obtain ⟨t1, -⟩ := cells_of q1' 0 rfl
                          obtain ⟨t2, -⟩ := cells_of q1' 1 rfl
                          have hx : headOf cl hd p = some x := by rw [← (hH p).2 hDp]; exact hMp
                          have hsz1 : ib4 < w1.heap.size := by omega
                          by_cases hxe : x = nx.2
                          · have hxb : (x == nx.2) = true := beq_t hxe
                            obtain ⟨W', hst, hit2, hg2⟩ := IterSt.update (P := Try.prog) hit1 keyI Try.underlying68 p nx.1 (by rw [hMp]; simp)
                            have G2 := G1'.turnH hg2 hit2.map
                            have q2 := (hg2.block nb (by omega) (fun e => by have := Option.some.inj e; omega)).trans q1'
                            have hH2 : ∀ k, ((k = p ∨ D k) → (if k = p then some nx.1 else H k) = (headOf cl hd k).map (subst nx.1 nx.2)) ∧ (¬ (k = p ∨ D k) → (if k = p then some nx.1 else H k) = headOf cl hd k) := fun k => by
                              by_cases e : k = p
                              · subst e
                                exact ⟨fun _ => by rw [hx]; simp [subst, hxe], fun h => absurd (.inl rfl) h⟩
                              · simp only [e, false_or, if_false]
                                exact hH k
                            have hsz2 : ib4 < W'.heap.size := Nat.lt_of_lt_of_le hsz1 hg2.size
                            have HF := Lib.hid (And.intro hit2 (And.intro G2 (And.intro q2 (And.intro hH2 hsz2))))
                            dsimp only [vvI] at hst hnx4 hent
                            clear hit1 hit2 G1' G2 G I hH hH2 hg2 hg1 hK1 q1' q2 hx
                            go_wp2
                            go_roundg (c - 1)
                            case measure => omega
                            case rel => exact ⟨_, c - 1, _, Nat.le_refl _, HF.out⟩
                          · have hxb : (x == nx.2) = false := beq_f hxe
                            have hH2 : ∀ k, ((k = p ∨ D k) → H k = (headOf cl hd k).map (subst nx.1 nx.2)) ∧ (¬ (k = p ∨ D k) → H k = headOf cl hd k) := fun k => by
                              by_cases e : k = p
                              · subst e
                                exact ⟨fun _ => by rw [hMp, hx]; simp [subst, hxe], fun h => absurd (.inl rfl) h⟩
                              · simp only [e, false_or]
                                exact hH k
                            have HF := Lib.hid (And.intro hit1 (And.intro G1' (And.intro q1' (And.intro hH2 hsz1))))
                            dsimp only [vvI] at hnx4 hent
                            clear hit1 G1' G I hH hH2 hg1 hK1 q1' hx
                            go_wp2
                            go_roundg (c - 1)
                            case measure => omega
                            case rel => exact ⟨_, c - 1, _, Nat.le_refl _, HF.out⟩
                  · obtain ⟨Wx, hWx⟩ : ∃ Wx, Hid (Wx = w1.alloc (.cells #[.int .i64 p.1, .int .i64 p.2] 42)) := ⟨_, rfl⟩
                    generalize hbx : wr.heap.size = bx at *
                    have hx1 : Ext w1 Wx := by rw [hWx.out]; exact ext_alloc _ _
                    have hK1 : Kept (fun k => k = nb + 1) _ _ := .of_grown (X := fun k => k = nb + 1) hg1 rfl
                    have hnbl : w.heap.size + 1 + 1 + 1 < nb := by omega
                    have Gx := (G.keep hK1 (fun k hk => by omega)).keepE hx1
                    have itx := hit1.same (hx1.block _ hit1.lt.1) (hx1.block _ hit1.lt.2.1)
                    have qx := (hx1.block nb (by omega)).trans ((hK1.block nb (by omega) (by omega)).trans qn)
                    have pz : Wx.heap[bx]? = some (.cells #[.int .i64 p.1, .int .i64 p.2] 42 (0, 0)) := by rw [hWx.out, ← hs1]; exact heap_alloc_new _ _
                    have hszx : nb + 1 < Wx.heap.size := by have := hx1.size; omega
                    have d1 : Wx.drew.cell? ⟨bx, 0, none⟩ = some (.int .i64 p.1) := (cells_of pz 0 rfl).1
                    have d2 : Wx.drew.cell? ⟨bx, 1, none⟩ = some (.int .i64 p.2) := (cells_of pz 1 rfl).1
                    have d4 : Wx.drew.cell? ⟨nb, 0, none⟩ = some (.int .i64 nx.1) := (cells_of qx 0 rfl).1
                    have d5 : Wx.drew.cell? ⟨nb, 1, none⟩ = some (.int .i64 nx.2) := (cells_of qx 1 rfl).1
                    have d3 := lookup_fn keyP Try.underlying50 (Gx.keepE (ext_drew Wx)).at_ p zero4 false
                    have HF := Lib.hid (And.intro itx (And.intro Gx (And.intro qx hszx)))
                    dsimp only [vvI, vvB, kvP] at hnx3 hent
                    clear itx Gx I G hit1 hg1 hK1 qn
                    go_wp2
                    rw [← hWx.out]
                    cases hap : (At p).getD false with
                    | true =>
                      have d3' : (Instr.lookup 50 (.map (some (w.heap.size + 1 + 1 + 1))) (kvP p) false).run Try.prog Wx.drew = .ok (.bool true) Wx.drew := by
                        rw [d3]
                        cases hk : At p with
                        | none => rw [hk] at hap; simp at hap
                        | some b => rw [hk] at hap; simp at hap; simp [hap]
                      refine wp_region_flow 24 [] (fun _ V => V = Wx.drew) (by kernel_rfl) (by kernel_rfl) rfl ?_
                      simp only [List.take_succ_cons, List.take_zero, List.drop_succ_cons, List.drop_zero]
                      refine flow_pure (.map (some (w.heap.size + 1 + 1 + 1))) rfl rfl (fun b V hV => by cases hV; simp [go_sem]) ?_
                      refine flow_pure (kvP p) rfl rfl (fun b V hV => by cases hV; simp [go_sem, d1, d2]) ?_
                      refine flow_pure (.bool true) rfl rfl (fun b V hV => by cases hV; simp [go_sem, d3, hap]) ?_
                      refine flow_pure (.bool false) rfl rfl (fun b V hV => by cases hV; simp [go_sem]) ?_
                      refine flow_pure (.bool false) rfl rfl (fun b V hV => by cases hV; simp [go_sem]) ?_
                      refine flow_skip (by kernel_rfl) rfl ?_
                      refine flow_skip (by kernel_rfl) rfl ?_
                      refine flow_skip (by kernel_rfl) rfl ?_
                      refine flow_skip (by kernel_rfl) rfl ?_
                      refine flow_skip (by kernel_rfl) rfl ?_
                      refine flow_skip (by kernel_rfl) rfl ?_
                      refine flow_skip (by kernel_rfl) rfl ?_
                      refine flow_skip (by kernel_rfl) rfl ?_
                      refine flow_skip (by kernel_rfl) rfl ?_
                      refine flow_skip (by kernel_rfl) rfl ?_
                      refine flow_skip (by kernel_rfl) rfl ?_
                      refine flow_skip (by kernel_rfl) rfl ?_
                      refine flow_skip (by kernel_rfl) rfl ?_
                      refine flow_skip (by kernel_rfl) rfl ?_
                      refine flow_skip (by kernel_rfl) rfl ?_
                      refine flow_skip (by kernel_rfl) rfl ?_
                      refine flow_skip (by kernel_rfl) rfl ?_
                      refine flow_skip (by kernel_rfl) rfl ?_
                      refine flow_pure (.bool false) rfl rfl (fun b V hV => by cases hV; simp [go_sem]) ?_
                      refine flow_nil fun V hV => ?_
                      obtain rfl : V = Wx.drew := hV
                      go_frame
                      go_wp2
                      go_roundg (c - 1)
                      case measure => omega
                      case rel => exact ⟨_, c - 1, nx, most, Nat.le_refl _, rfl, HF.out.1.same rfl rfl, HF.out.2.1.keepE (ext_drew _), HF.out.2.2.1, hSel.skip hMp (.inl hap), HF.out.2.2.2⟩
                    | false =>
                      have d3' : (Instr.lookup 50 (.map (some (w.heap.size + 1 + 1 + 1))) (kvP p) false).run Try.prog Wx.drew = .ok (.bool false) Wx.drew := by
                        rw [d3]
                        cases hk : At p with
                        | none => simp
                        | some b => rw [hk] at hap; simp at hap; simp [hap]
                      have hST : ∀ V : World, V = Wx.drew → IterSt ((V.setCell ⟨nb, 0, none⟩ (.int .i64 p.1)).setCell ⟨nb, 1, none⟩ (.int .i64 p.2)) (nb + 1) (w.heap.size + 1 + 1) kvP vvI Wt (fun k' => k' = p ∨ D k') (c - 1) ∧ GrSt w v0 r1 r2 (headOf cl hd) Wt At ((V.setCell ⟨nb, 0, none⟩ (.int .i64 p.1)).setCell ⟨nb, 1, none⟩ (.int .i64 p.2)) ∧ ((V.setCell ⟨nb, 0, none⟩ (.int .i64 p.1)).setCell ⟨nb, 1, none⟩ (.int .i64 p.2)).heap[nb]? = some (.cells #[.int .i64 p.1, .int .i64 p.2] 42 (0, 0)) ∧ nb + 1 < ((V.setCell ⟨nb, 0, none⟩ (.int .i64 p.1)).setCell ⟨nb, 1, none⟩ (.int .i64 p.2)).heap.size := by
                        rintro V rfl
                        obtain ⟨s1, s2⟩ := set_pair (W := Wx.drew) HF.out.2.2.1 (.int .i64 p.1) (.int .i64 p.2)
                        have h3 : w.heap.size + 1 + 1 < Wx.heap.size := HF.out.1.lt.2.1
                        exact ⟨HF.out.1.same (s2.block _ HF.out.1.lt.1 (by omega)) (s2.block _ h3 (by omega)), (HF.out.2.1.keepE (ext_drew Wx)).keep s2 (fun k hk => by omega), s1, Nat.lt_of_lt_of_le HF.out.2.2.2 s2.size⟩
                      have HT := Lib.hid (hST _ rfl)
                      clear hST
                      obtain ⟨f4, f4'⟩ := cells_of HF.out.2.2.1 0 rfl
                      obtain ⟨f5, f5'⟩ := cells_of HF.out.2.2.1 1 rfl
                      by_cases hgt : most < x
                      · refine wp_region_flow 24 [] (fun _ V => V = Wx.drew) (by kernel_rfl) (by kernel_rfl) rfl ?_
                        simp only [List.take_succ_cons, List.take_zero, List.drop_succ_cons, List.drop_zero]
                        refine flow_pure (.map (some (w.heap.size + 1 + 1 + 1))) rfl rfl (fun b V hV => by cases hV; simp [go_sem]) ?_
                        refine flow_pure (kvP p) rfl rfl (fun b V hV => by cases hV; simp [go_sem, d1, d2]) ?_
                        refine flow_pure (.bool false) rfl rfl (fun b V hV => by cases hV; simp [go_sem, d3, hap]) ?_
                        refine flow_pure (.bool true) rfl rfl (fun b V hV => by cases hV; simp [go_sem]) ?_
                        refine flow_pure (.bool true) rfl rfl (fun b V hV => by cases hV; simp [go_sem]) ?_
                        refine flow_want (.int .i64 x) (by kernel_rfl) rfl (fun b V hV => by cases hV; simp [go_sem]) ?_
                        refine flow_want (.int .i64 most) (by kernel_rfl) rfl (fun b V hV => by cases hV; simp [go_sem]) ?_
                        refine flow_want (.bool true) (by kernel_rfl) rfl (fun b V hV => by cases hV; simp [go_sem, hgt]) ?_
                        refine flow_want (.bool true) (by kernel_rfl) rfl (fun b V hV => by cases hV; simp [go_sem]) ?_
                        refine flow_skip (by kernel_rfl) rfl ?_
                        refine flow_skip (by kernel_rfl) rfl ?_
                        refine flow_skip (by kernel_rfl) rfl ?_
                        refine flow_skip (by kernel_rfl) rfl ?_
                        refine flow_skip (by kernel_rfl) rfl ?_
                        refine flow_skip (by kernel_rfl) rfl ?_
                        refine flow_skip (by kernel_rfl) rfl ?_
                        refine flow_skip (by kernel_rfl) rfl ?_
                        refine flow_skip (by kernel_rfl) rfl ?_
                        refine flow_skip (by kernel_rfl) rfl ?_
                        refine flow_skip (by kernel_rfl) rfl ?_
                        refine flow_skip (by kernel_rfl) rfl ?_
                        refine flow_skip (by kernel_rfl) rfl ?_
                        refine flow_want (.bool true) (by kernel_rfl) rfl (fun b V hV => by cases hV; simp [go_sem]) ?_
                        refine flow_pure (.bool true) rfl rfl (fun b V hV => by cases hV; simp [go_sem]) ?_
                        refine flow_nil fun V hV => ?_
                        obtain rfl : V = Wx.drew := hV
                        go_frame
                        go_wp2
                        go_roundg (c - 1)
                        case measure => omega
                        case rel => exact ⟨_, c - 1, p, x, Nat.le_refl _, rfl, HT.out.1, HT.out.2.1, HT.out.2.2.1, hSel.take hMp hap (.inl hgt), HT.out.2.2.2⟩
                      · by_cases heq : x = most
                        · by_cases hpos : 0 < x
                          · by_cases hcmp : cmpP p nx < 0
                            · refine wp_region_flow 24 [] (fun _ V => V = Wx.drew) (by kernel_rfl) (by kernel_rfl) rfl ?_
                              simp only [List.take_succ_cons, List.take_zero, List.drop_succ_cons, List.drop_zero]
                              refine flow_pure (.map (some (w.heap.size + 1 + 1 + 1))) rfl rfl (fun b V hV => by cases hV; simp [go_sem]) ?_
                              refine flow_pure (kvP p) rfl rfl (fun b V hV => by cases hV; simp [go_sem, d1, d2]) ?_
                              refine flow_pure (.bool false) rfl rfl (fun b V hV => by cases hV; simp [go_sem, d3, hap]) ?_
                              refine flow_pure (.bool true) rfl rfl (fun b V hV => by cases hV; simp [go_sem]) ?_
                              refine flow_pure (.bool true) rfl rfl (fun b V hV => by cases hV; simp [go_sem]) ?_
                              refine flow_want (.int .i64 x) (by kernel_rfl) rfl (fun b V hV => by cases hV; simp [go_sem]) ?_
                              refine flow_want (.int .i64 most) (by kernel_rfl) rfl (fun b V hV => by cases hV; simp [go_sem]) ?_
                              refine flow_want (.bool false) (by kernel_rfl) rfl (fun b V hV => by cases hV; simp [go_sem, hgt]) ?_
                              refine flow_want (.bool false) (by kernel_rfl) rfl (fun b V hV => by cases hV; simp [go_sem]) ?_
                              refine flow_want (.int .i64 x) (by kernel_rfl) rfl (fun b V hV => by cases hV; simp [go_sem]) ?_
                              refine flow_want (.int .i64 most) (by kernel_rfl) rfl (fun b V hV => by cases hV; simp [go_sem]) ?_
                              refine flow_want (.bool true) (by kernel_rfl) rfl (fun b V hV => by cases hV; simp [go_sem, heq]) ?_
                              refine flow_want (.bool true) (by kernel_rfl) rfl (fun b V hV => by cases hV; simp [go_sem]) ?_
                              refine flow_want (.int .i64 x) (by kernel_rfl) rfl (fun b V hV => by cases hV; simp [go_sem]) ?_
                              refine flow_want (.bool true) (by kernel_rfl) rfl (fun b V hV => by cases hV; simp [go_sem, hpos]) ?_
                              refine flow_want (.bool true) (by kernel_rfl) rfl (fun b V hV => by cases hV; simp [go_sem]) ?_
                              refine flow_want (.bool true) (by kernel_rfl) rfl (fun b V hV => by cases hV; simp [go_sem]) ?_
                              refine flow_want (.slice (some ⟨bx, 0, none⟩) 2 2) (by kernel_rfl) rfl (fun b V hV => by cases hV; simp [go_sem]) ?_
                              refine flow_want (.slice (some ⟨nb, 0, none⟩) 2 2) (by kernel_rfl) rfl (fun b V hV => by cases hV; simp [go_sem]) ?_
                              refine flow_call_want (.int .i64 (cmpP p nx)) 54 #[.slice (some ⟨bx, 0, none⟩) 2 2, .slice (some ⟨nb, 0, none⟩) 2 2] (by kernel_rfl) rfl (fun b V hV => by simp [go_sem]) (fun b V hV => by cases hV; exact (compare2_any bx nb p nx _ d1 d2 d4 d5).mono (by rintro e W' ⟨rfl, rfl⟩; exact ⟨rfl, rfl⟩)) ?_
                              refine flow_want (.bool true) (by kernel_rfl) rfl (fun b V hV => by cases hV; simp [go_sem, hcmp]) ?_
                              refine flow_want (.bool true) (by kernel_rfl) rfl (fun b V hV => by cases hV; simp [go_sem]) ?_
                              refine flow_want (.bool true) (by kernel_rfl) rfl (fun b V hV => by cases hV; simp [go_sem]) ?_
                              refine flow_pure (.bool true) rfl rfl (fun b V hV => by cases hV; simp [go_sem]) ?_
                              refine flow_nil fun V hV => ?_
                              obtain rfl : V = Wx.drew := hV
                              go_frame
                              go_wp2
                              go_roundg (c - 1)
                              case measure => omega
                              case rel => exact ⟨_, c - 1, p, x, Nat.le_refl _, by rw [heq], HT.out.1, HT.out.2.1, HT.out.2.2.1, hSel.take hMp hap (.inr ⟨heq, hpos, hcmp⟩), HT.out.2.2.2⟩
                            · refine wp_region_flow 24 [] (fun _ V => V = Wx.drew) (by kernel_rfl) (by kernel_rfl) rfl ?_
                              simp only [List.take_succ_cons, List.take_zero, List.drop_succ_cons, List.drop_zero]
                              refine flow_pure (.map (some (w.heap.size + 1 + 1 + 1))) rfl rfl (fun b V hV => by cases hV; simp [go_sem]) ?_
                              refine flow_pure (kvP p) rfl rfl (fun b V hV => by cases hV; simp [go_sem, d1, d2]) ?_
                              refine flow_pure (.bool false) rfl rfl (fun b V hV => by cases hV; simp [go_sem, d3, hap]) ?_
                              refine flow_pure (.bool true) rfl rfl (fun b V hV => by cases hV; simp [go_sem]) ?_
                              refine flow_pure (.bool true) rfl rfl (fun b V hV => by cases hV; simp [go_sem]) ?_
                              refine flow_want (.int .i64 x) (by kernel_rfl) rfl (fun b V hV => by cases hV; simp [go_sem]) ?_
                              refine flow_want (.int .i64 most) (by kernel_rfl) rfl (fun b V hV => by cases hV; simp [go_sem]) ?_
                              refine flow_want (.bool false) (by kernel_rfl) rfl (fun b V hV => by cases hV; simp [go_sem, hgt]) ?_
                              refine flow_want (.bool false) (by kernel_rfl) rfl (fun b V hV => by cases hV; simp [go_sem]) ?_
                              refine flow_want (.int .i64 x) (by kernel_rfl) rfl (fun b V hV => by cases hV; simp [go_sem]) ?_
                              refine flow_want (.int .i64 most) (by kernel_rfl) rfl (fun b V hV => by cases hV; simp [go_sem]) ?_
                              refine flow_want (.bool true) (by kernel_rfl) rfl (fun b V hV => by cases hV; simp [go_sem, heq]) ?_
                              refine flow_want (.bool true) (by kernel_rfl) rfl (fun b V hV => by cases hV; simp [go_sem]) ?_
                              refine flow_want (.int .i64 x) (by kernel_rfl) rfl (fun b V hV => by cases hV; simp [go_sem]) ?_
                              refine flow_want (.bool true) (by kernel_rfl) rfl (fun b V hV => by cases hV; simp [go_sem, hpos]) ?_
                              refine flow_want (.bool true) (by kernel_rfl) rfl (fun b V hV => by cases hV; simp [go_sem]) ?_
                              refine flow_want (.bool true) (by kernel_rfl) rfl (fun b V hV => by cases hV; simp [go_sem]) ?_
                              refine flow_want (.slice (some ⟨bx, 0, none⟩) 2 2) (by kernel_rfl) rfl (fun b V hV => by cases hV; simp [go_sem]) ?_
                              refine flow_want (.slice (some ⟨nb, 0, none⟩) 2 2) (by kernel_rfl) rfl (fun b V hV => by cases hV; simp [go_sem]) ?_
                              refine flow_call_want (.int .i64 (cmpP p nx)) 54 #[.slice (some ⟨bx, 0, none⟩) 2 2, .slice (some ⟨nb, 0, none⟩) 2 2] (by kernel_rfl) rfl (fun b V hV => by simp [go_sem]) (fun b V hV => by cases hV; exact (compare2_any bx nb p nx _ d1 d2 d4 d5).mono (by rintro e W' ⟨rfl, rfl⟩; exact ⟨rfl, rfl⟩)) ?_
                              refine flow_want (.bool false) (by kernel_rfl) rfl (fun b V hV => by cases hV; simp [go_sem, hcmp]) ?_
                              refine flow_want (.bool false) (by kernel_rfl) rfl (fun b V hV => by cases hV; simp [go_sem]) ?_
                              refine flow_want (.bool false) (by kernel_rfl) rfl (fun b V hV => by cases hV; simp [go_sem]) ?_
                              refine flow_pure (.bool false) rfl rfl (fun b V hV => by cases hV; simp [go_sem]) ?_
                              refine flow_nil fun V hV => ?_
                              obtain rfl : V = Wx.drew := hV
                              go_frame
                              go_wp2
                              go_roundg (c - 1)
                              case measure => omega
                              case rel => exact ⟨_, c - 1, nx, most, Nat.le_refl _, rfl, HF.out.1.same rfl rfl, HF.out.2.1.keepE (ext_drew _), HF.out.2.2.1, hSel.skip hMp (.inr ⟨by omega, fun h => by have := h.2.2; omega⟩), HF.out.2.2.2⟩
                          · refine wp_region_flow 24 [] (fun _ V => V = Wx.drew) (by kernel_rfl) (by kernel_rfl) rfl ?_
                            simp only [List.take_succ_cons, List.take_zero, List.drop_succ_cons, List.drop_zero]
                            refine flow_pure (.map (some (w.heap.size + 1 + 1 + 1))) rfl rfl (fun b V hV => by cases hV; simp [go_sem]) ?_
                            refine flow_pure (kvP p) rfl rfl (fun b V hV => by cases hV; simp [go_sem, d1, d2]) ?_
                            refine flow_pure (.bool false) rfl rfl (fun b V hV => by cases hV; simp [go_sem, d3, hap]) ?_
                            refine flow_pure (.bool true) rfl rfl (fun b V hV => by cases hV; simp [go_sem]) ?_
                            refine flow_pure (.bool true) rfl rfl (fun b V hV => by cases hV; simp [go_sem]) ?_
                            refine flow_want (.int .i64 x) (by kernel_rfl) rfl (fun b V hV => by cases hV; simp [go_sem]) ?_
                            refine flow_want (.int .i64 most) (by kernel_rfl) rfl (fun b V hV => by cases hV; simp [go_sem]) ?_
                            refine flow_want (.bool false) (by kernel_rfl) rfl (fun b V hV => by cases hV; simp [go_sem, hgt]) ?_
                            refine flow_want (.bool false) (by kernel_rfl) rfl (fun b V hV => by cases hV; simp [go_sem]) ?_
                            refine flow_want (.int .i64 x) (by kernel_rfl) rfl (fun b V hV => by cases hV; simp [go_sem]) ?_
                            refine flow_want (.int .i64 most) (by kernel_rfl) rfl (fun b V hV => by cases hV; simp [go_sem]) ?_
                            refine flow_want (.bool true) (by kernel_rfl) rfl (fun b V hV => by cases hV; simp [go_sem, heq]) ?_
                            refine flow_want (.bool true) (by kernel_rfl) rfl (fun b V hV => by cases hV; simp [go_sem]) ?_
                            refine flow_want (.int .i64 x) (by kernel_rfl) rfl (fun b V hV => by cases hV; simp [go_sem]) ?_
                            refine flow_want (.bool false) (by kernel_rfl) rfl (fun b V hV => by cases hV; simp [go_sem, hpos]) ?_
                            refine flow_want (.bool false) (by kernel_rfl) rfl (fun b V hV => by cases hV; simp [go_sem]) ?_
                            refine flow_want (.bool false) (by kernel_rfl) rfl (fun b V hV => by cases hV; simp [go_sem]) ?_
                            refine flow_skip (by kernel_rfl) rfl ?_
                            refine flow_skip (by kernel_rfl) rfl ?_
                            refine flow_skip (by kernel_rfl) rfl ?_
                            refine flow_skip (by kernel_rfl) rfl ?_
                            refine flow_want (.bool false) (by kernel_rfl) rfl (fun b V hV => by cases hV; simp [go_sem]) ?_
                            refine flow_want (.bool false) (by kernel_rfl) rfl (fun b V hV => by cases hV; simp [go_sem]) ?_
                            refine flow_pure (.bool false) rfl rfl (fun b V hV => by cases hV; simp [go_sem]) ?_
                            refine flow_nil fun V hV => ?_
                            obtain rfl : V = Wx.drew := hV
                            go_frame
                            go_wp2
                            go_roundg (c - 1)
                            case measure => omega
                            case rel => exact ⟨_, c - 1, nx, most, Nat.le_refl _, rfl, HF.out.1.same rfl rfl, HF.out.2.1.keepE (ext_drew _), HF.out.2.2.1, hSel.skip hMp (.inr ⟨by omega, fun h => by have := h.2.1; omega⟩), HF.out.2.2.2⟩
                        · refine wp_region_flow 24 [] (fun _ V => V = Wx.drew) (by kernel_rfl) (by kernel_rfl) rfl ?_
                          simp only [List.take_succ_cons, List.take_zero, List.drop_succ_cons, List.drop_zero]
                          refine flow_pure (.map (some (w.heap.size + 1 + 1 + 1))) rfl rfl (fun b V hV => by cases hV; simp [go_sem]) ?_
                          refine flow_pure (kvP p) rfl rfl (fun b V hV => by cases hV; simp [go_sem, d1, d2]) ?_
                          refine flow_pure (.bool false) rfl rfl (fun b V hV => by cases hV; simp [go_sem, d3, hap]) ?_
                          refine flow_pure (.bool true) rfl rfl (fun b V hV => by cases hV; simp [go_sem]) ?_
                          refine flow_pure (.bool true) rfl rfl (fun b V hV => by cases hV; simp [go_sem]) ?_
                          refine flow_want (.int .i64 x) (by kernel_rfl) rfl (fun b V hV => by cases hV; simp [go_sem]) ?_
                          refine flow_want (.int .i64 most) (by kernel_rfl) rfl (fun b V hV => by cases hV; simp [go_sem]) ?_
                          refine flow_want (.bool false) (by kernel_rfl) rfl (fun b V hV => by cases hV; simp [go_sem, hgt]) ?_
                          refine flow_want (.bool false) (by kernel_rfl) rfl (fun b V hV => by cases hV; simp [go_sem]) ?_
                          refine flow_want (.int .i64 x) (by kernel_rfl) rfl (fun b V hV => by cases hV; simp [go_sem]) ?_
                          refine flow_want (.int .i64 most) (by kernel_rfl) rfl (fun b V hV => by cases hV; simp [go_sem]) ?_
                          refine flow_want (.bool false) (by kernel_rfl) rfl (fun b V hV => by cases hV; simp [go_sem, heq]) ?_
                          refine flow_want (.bool false) (by kernel_rfl) rfl (fun b V hV => by cases hV; simp [go_sem]) ?_
                          refine flow_skip (by kernel_rfl) rfl ?_
                          refine flow_skip (by kernel_rfl) rfl ?_
                          refine flow_want (.bool false) (by kernel_rfl) rfl (fun b V hV => by cases hV; simp [go_sem]) ?_
                          refine flow_want (.bool false) (by kernel_rfl) rfl (fun b V hV => by cases hV; simp [go_sem]) ?_
                          refine flow_skip (by kernel_rfl) rfl ?_
                          refine flow_skip (by kernel_rfl) rfl ?_
                          refine flow_skip (by kernel_rfl) rfl ?_
                          refine flow_skip (by kernel_rfl) rfl ?_
                          refine flow_want (.bool false) (by kernel_rfl) rfl (fun b V hV => by cases hV; simp [go_sem]) ?_
                          refine flow_want (.bool false) (by kernel_rfl) rfl (fun b V hV => by cases hV; simp [go_sem]) ?_
                          refine flow_pure (.bool false) rfl rfl (fun b V hV => by cases hV; simp [go_sem]) ?_
                          refine flow_nil fun V hV => ?_
                          obtain rfl : V = Wx.drew := hV
                          go_frame
                          go_wp2
                          go_roundg (c - 1)
                          case measure => omega
                          case rel => exact ⟨_, c - 1, nx, most, Nat.le_refl _, rfl, HF.out.1.same rfl rfl, HF.out.2.1.keepE (ext_drew _), HF.out.2.2.1, hSel.skip hMp (.inr ⟨by omega, fun h => by have := h.1; omega⟩), HF.out.2.2.2⟩
            · obtain rfl := hAt p x hMp
              have hK1 : Kept (fun k => k = ib2) _ _ := .of_grown (X := fun k => k = ib2) hg1 rfl
              have G1' := (G.keep hK1 (fun k hk => by omega)).keepE (ext_alloc w1 (.cells #[.int .i64 p.1, .int .i64 p.2] 42))
              have hit2 := hit1.same ((ext_alloc w1 (.cells #[.int .i64 p.1, .int .i64 p.2] 42)).block _ hit1.lt.1) ((ext_alloc w1 (.cells #[.int .i64 p.1, .int .i64 p.2] 42)).block _ hit1.lt.2.1)
              obtain ⟨W', hst, hM', hg', _⟩ := update_fn keyP Try.underlying50 G1'.at_ p true
              have G2 := G1'.turnA hg' hM'
              have hit3 := hit2.same (hg'.block _ hit2.lt.1 (fun e => by have := Option.some.inj e; omega)) (hg'.block _ hit2.lt.2.1 (fun e => by have := Option.some.inj e; omega))
              have hW2 : ∀ p', ((p' = p ∨ D p') → (if p' = p then some true else At p') = AP p') ∧ (¬ (p' = p ∨ D p') → (if p' = p then some true else At p') = none) := fun p' => by
                by_cases e : p' = p
                · subst e
                  exact ⟨fun _ => by simp [hMp], fun h => absurd (.inl rfl) h⟩
                · simp only [e, false_or, if_false]
                  exact hAtD p'
              have HF := Lib.hid (And.intro hit3 (And.intro G2 hW2))
              dsimp only [vvB, kvP] at hst hnx2 hent
              clear G1' G2 G hit1 hit2 hit3 hW2 hAtD hM' hg' hK1 hg1 I
              go_wp2
              go_roundg (c - 1)
              case measure => omega
              case rel => exact ⟨_, c - 1, _, Nat.le_refl _, HF.out.1, HF.out.2.1, HF.out.2.2⟩
        · have hitl := I.lt
          have hib : w.heap.size + 1 + 1 + 1 < ib := by omega
          have hK1 : Kept (fun k => k = ib) _ _ := .of_grown (X := fun k => k = ib) hg1 rfl
          have G1' := (G.keep hK1 (fun k hk => by omega)).keepE (ext_alloc w1 (.cells #[.int .i64 p.1, .int .i64 p.2] 42))
          have hit2 := hit1.same ((ext_alloc w1 (.cells #[.int .i64 p.1, .int .i64 p.2] 42)).block _ hit1.lt.1) ((ext_alloc w1 (.cells #[.int .i64 p.1, .int .i64 p.2] 42)).block _ hit1.lt.2.1)
          have hl1 := lookup_fn keyI Try.underlying68 G1'.h p.1 zero3 true
          have hl2 := lookup_fn keyI Try.underlying68 G1'.h p.2 zero3 true
          dsimp only [vvI, kvP, if_true] at hl1 hl2 hnx hent
          have hG1l := G1'.lt
          have hit1l := hit1.lt
          by_cases hp1 : p.1 ∈ cl
          · have e1 : headOf cl id p.1 = some p.1 := by simp [headOf, hp1]
            rw [e1] at hl1
            by_cases hp2 : p.2 ∈ cl
            · have e2 : headOf cl id p.2 = some p.2 := by simp [headOf, hp2]
              rw [e2] at hl2
              obtain ⟨W', hst, hM', hg', _⟩ := update_fn keyP Try.underlying49 G1'.wt p x
              have G2 := G1'.turnW hg' hM'
              have hit3 := hit2.same (hg'.block _ hit2.lt.1 (fun e => by have := Option.some.inj e; omega)) (hg'.block _ hit2.lt.2.1 (fun e => by have := Option.some.inj e; omega))
              have hW2 : ∀ p', ((p' = p ∨ D p') → (if p' = p then some x else Wt p') = if p'.1 ∈ cl ∧ p'.2 ∈ cl then WT p' else none) ∧ (¬ (p' = p ∨ D p') → (if p' = p then some x else Wt p') = none) := fun p' => by
                by_cases e : p' = p
                · subst e
                  exact ⟨fun _ => by simp [hp1, hp2, hMp], fun h => absurd (.inl rfl) h⟩
                · simp only [e, false_or, if_false]
                  exact hWt p'
              have HF := Lib.hid (And.intro hit3 (And.intro G2 hW2))
              dsimp only [vvI, kvP] at hst
              clear G1' G2 G hit1 hit2 hit3 hW2 hWt hM' hg' hK1 hg1 I
              go_wp2
              go_roundg (c - 1)
              case measure => omega
              case rel => exact ⟨_, c - 1, _, Nat.le_refl _, HF.out.1, HF.out.2.1, HF.out.2.2⟩
            · have e2 : headOf cl id p.2 = none := by simp [headOf, hp2]
              rw [e2] at hl2
              have hW2 : ∀ p', ((p' = p ∨ D p') → Wt p' = if p'.1 ∈ cl ∧ p'.2 ∈ cl then WT p' else none) ∧ (¬ (p' = p ∨ D p') → Wt p' = none) := fun p' => by
                by_cases e : p' = p
                · subst e
                  exact ⟨fun _ => by rw [(hWt _).2 hDp]; simp [hp2], fun h => absurd (.inl rfl) h⟩
                · simp only [e, false_or]
                  exact hWt p'
              have HF := Lib.hid (And.intro hit2 (And.intro G1' hW2))
              clear G1' G hit1 hit2 hW2 hWt hK1 hg1 I
              go_wp2
              go_roundg (c - 1)
              case measure => omega
              case rel => exact ⟨_, c - 1, _, Nat.le_refl _, HF.out.1, HF.out.2.1, HF.out.2.2⟩
          · have e1 : headOf cl id p.1 = none := by simp [headOf, hp1]
            rw [e1] at hl1
            have hW2 : ∀ p', ((p' = p ∨ D p') → Wt p' = if p'.1 ∈ cl ∧ p'.2 ∈ cl then WT p' else none) ∧ (¬ (p' = p ∨ D p') → Wt p' = none) := fun p' => by
              by_cases e : p' = p
              · subst e
                exact ⟨fun _ => by rw [(hWt _).2 hDp]; simp [hp1], fun h => absurd (.inl rfl) h⟩
              · simp only [e, false_or]
                exact hWt p'
            have HF := Lib.hid (And.intro hit2 (And.intro G1' hW2))
            clear G1' G hit1 hit2 hW2 hWt hK1 hg1 I
            go_wp2
            go_roundg (c - 1)
            case measure => omega
            case rel => exact ⟨_, c - 1, _, Nat.le_refl _, HF.out.1, HF.out.2.1, HF.out.2.2⟩

end Go.Proofs.Ytiapdpbcnbgdmaa
