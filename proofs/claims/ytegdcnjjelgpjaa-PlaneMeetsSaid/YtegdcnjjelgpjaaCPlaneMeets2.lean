/- The law PlaneMeets answers true at every input and leaves its arguments as they were; no condition. Part 3 of 6. -/
import Derived.Test.YtegdcnjjelgpjaaCPlaneMeets0
import Derived.Test.YtegdcnjjelgpjaaCPlaneMeets1
set_option linter.unusedVariables false
set_option linter.unusedSimpArgs false
namespace Go.Proofs.Ytegdcnjjelgpjaa.P
open Go.RowKit Go.Proofs.YtegdcnjjelgpjaaW.PrintWords Go.Proofs.YtegdcnjjelgpjaaW.PrintLast Go.Proofs.YtegdcnjjelgpjaaW.PrintMore
attribute [local go_sem] max2_int min2_int max_two min_two max_three min_three max_four min_four   -- for this text's walks alone
set_option linter.unusedVariables false
set_option linter.unusedSimpArgs false
def plane_try.l0 : Nat → List (S23) → List (S23) → List (S75) → Int → Int → Option (Int × Int × Int × Bool)
 | 0, _, _, _, _, _ => none
 | k + 1, x0, x1, x14, x15, x16 => if x16 < x15 then (if 0 ≤ x16 then (if x16 < (x14.length : Int) then ((plane_span.f ((rd_T75 x14 x16).f0) ((rd_T75 x14 x16).f1) ((rd_T75 x14 x16).f2) x0).bind fun bt104 => ((plane_span.f ((rd_T75 x14 x16).f0) ((rd_T75 x14 x16).f1) ((rd_T75 x14 x16).f2) x1).bind fun bt106 => (if bt104.2 < bt106.1 then (some ((rd_T75 x14 x16).f0, (rd_T75 x14 x16).f1, bt104.2, true)) else (plane_try.l0 k x0 x1 x14 x15 (wrap64 (x16 + 1)))))) else (none)) else (none)) else (some (0, 0, 0, false))
def plane_try.f (k : Nat) (l0 : List (S23)) (l1 : List (S23)) (l2 : List (S75)) : Option (Int × Int × Int × Bool) := plane_try.l0 k l0 l1 l2 (l2.length : Int) 0
theorem plane_try.mono_l : ∀ k, (∀ y0 y1 y2 y3 y4, LeO (plane_try.l0 k y0 y1 y2 y3 y4) (plane_try.l0 (k + 1) y0 y1 y2 y3 y4))
 | 0 => fun _ _ _ _ _ r h => by simp [plane_try.l0] at h
 | k + 1 => by
  have ih0 := plane_try.mono_l k
  ·intro y0 y1 y2 y3 y4
   unfold plane_try.l0
   repeat' first
   | (with_reducible exact ih0 _ _ _ _ _)
   | (with_reducible exact LeO.refl _)
   | (with_reducible exact LeO.none _)
   | (with_reducible refine LeO.ite ?_ ?_)
   | (with_reducible refine LeO.bind ?_ (fun _ => ?_))
   | exact ih0 _ _ _ _ _
   | exact LeO.none _
   | refine LeO.ite ?_ ?_
   | refine LeO.bind ?_ (fun _ => ?_)
theorem plane_try.mono : ∀ a0 a1 a2 k, LeO (plane_try.f k a0 a1 a2) (plane_try.f (k + 1) a0 a1 a2) := by
 intro a0 a1 a2 k
 have ih0 := plane_try.mono_l k
 unfold plane_try.f
 repeat' first
   | (with_reducible exact ih0 _ _ _ _ _)
   | (with_reducible exact LeO.refl _)
   | (with_reducible exact LeO.none _)
   | (with_reducible refine LeO.ite ?_ ?_)
   | (with_reducible refine LeO.bind ?_ (fun _ => ?_))
   | exact ih0 _ _ _ _ _
   | exact LeO.none _
   | refine LeO.ite ?_ ?_
   | refine LeO.bind ?_ (fun _ => ?_)
set_option maxHeartbeats 8000000 in
set_option maxRecDepth 100000 in
theorem plane_try.calls (k : Nat) (A0 : Option Addr) (c0 : Nat) (l0 : List (S23)) (A1 : Option Addr) (c1 : Nat) (l1 : List (S23)) (A2 : Option Addr) (c2 : Nat) (l2 : List (S75)) (r1 : Int) (r2 : Int) (r3 : Int) (r4 : Bool) (w : World) (hr0 : Kd.C k23 w A0 l0.length l0) (hc0 : l0.length ≤ c0) (hr1 : Kd.C k23 w A1 l1.length l1) (hc1 : l1.length ≤ c1) (hr2 : Kd.C k75 w A2 l2.length l2) (hc2 : l2.length ≤ c2) (h : plane_try.f k l0 l1 l2 = some (r1, r2, r3, r4)) :
  Calls Try.prog 123 #[.slice A0 l0.length c0, .slice A1 l1.length c1, .slice A2 l2.length c2] w fun e w' => e = .returned (.tuple #[.agg #[.int .i64 r1, .int .i64 r2, .int .i64 r3], .bool r4]) ∧ Below w.heap.size w w' := by
 have hu75 := Try.underlying75
 have HR0 := Aside0.mk hr0
 have HC0 := Aside0.mk hc0
 clear hr0 hc0
 have HR1 := Aside0.mk hr1
 have HC1 := Aside0.mk hc1
 clear hr1 hc1
 have HR2 := Aside0.mk hr2
 have HC2 := Aside0.mk hc2
 clear hr2 hc2
 have HB := Aside0.mk (Below.refl w.heap.size w)
 have H : (plane_try.l0 k l0 l1 l2 (l2.length : Int) 0) = some (r1, r2, r3, r4) := h
 clear h
 have H' := Aside0.mk H
 clear H
 go_enter Try.func123, Try.ntmps123
 go_wp2_with (first | ((with_reducible refine gate_dst (N := 6) rfl ?_); refine boxE (N := 6) (cs := #[.int .i64 0, .int .i64 0, .int .i64 0]) (t := 75) ?_; intro gb101 hg w4 hbox hb; have n0_ := Aside0.mk (below_step (bB0 HB) hb); have BK101 := Aside0.mk (hbox); have GW101 := Aside0.mk (szB hg (below_size (bB0 HB))); have GE101 := GW101; clear HB; have HB := n0_; clear n0_; clear hb hbox hg))
 go_loopg [16] k (fun kq v16 w' => ∃ (x16_1 : Int) (x102000_1 : Int) (x102001_1 : Int) (x102002_1 : Int), v16 = .int .i64 x16_1 ∧ Aside0 (plane_try.l0 kq l0 l1 l2 (l2.length : Int) x16_1 = some (r1, r2, r3, r4)) ∧ Aside0 (kq ≤ k) ∧ Aside0 (w'.heap[gb101]? = some (.cells #[.int .i64 x102000_1, .int .i64 x102001_1, .int .i64 x102002_1] 75 (0, 0))) ∧ Aside0 (Below w.heap.size w w'))
 case atStart => exact ⟨(0), (0), (0), (0), sB, H', ⟨Nat.le_refl _⟩, ⟨by (with_reducible repeat (first | refine blk_drewN ?_ _ | refine blk_drew ?_ | refine blk_alloc ?_ _)); exact BK101.out⟩, ⟨bB1 HB GE101⟩⟩
 case round =>
  clear H'
  try clear c1
  try clear c2
  try clear p2
  obtain ⟨x16_1, x102000_1, x102001_1, x102002_1, rfl, HA, HK1, BK101, HB⟩ := hrel
  cases gk with
  | zero => exact absurd HA.out (by simp [plane_try.l0])
  | succ k1 =>
   have H := HA.out
   clear HA
   simp only [plane_try.l0] at H
   by_cases c5 : x16_1 < (l2.length : Int)
   ·rw [if_pos c5] at H
    have c5b0 : decide (x16_1 < (l2.length : Int)) = true := decide_eq_true c5
    clear c5
    by_cases c6 : 0 ≤ x16_1
    ·rw [if_pos c6] at H
     have c6b0 : decide (0 ≤ x16_1) = true := decide_eq_true c6
     clear c6
     by_cases c7 : x16_1 < (l2.length : Int)
     ·rw [if_pos c7] at H
      have c7b0 : decide (x16_1 < (l2.length : Int)) = true := decide_eq_true c7
      clear c7
      replace H := Option.bind_eq_some_iff.mp H
      obtain ⟨⟨t104, t105⟩, A80, H⟩ := H
      replace H : ((plane_span.f ((rd_T75 l2 x16_1).f0) ((rd_T75 l2 x16_1).f1) ((rd_T75 l2 x16_1).f2) l1).bind fun bt106 => (if t105 < bt106.1 then (some ((rd_T75 l2 x16_1).f0, (rd_T75 l2 x16_1).f1, t105, true)) else (plane_try.l0 k1 l0 l1 l2 (l2.length : Int) (wrap64 (x16_1 + 1))))) = some (r1, r2, r3, r4) := H
      have A8 := Aside0.mk A80
      clear A80
      replace H := Option.bind_eq_some_iff.mp H
      obtain ⟨⟨t106, t107⟩, A90, H⟩ := H
      replace H : (if t105 < t106 then (some ((rd_T75 l2 x16_1).f0, (rd_T75 l2 x16_1).f1, t105, true)) else (plane_try.l0 k1 l0 l1 l2 (l2.length : Int) (wrap64 (x16_1 + 1)))) = some (r1, r2, r3, r4) := H
      have A9 := Aside0.mk A90
      clear A90
      by_cases c10 : t105 < t106
      ·rw [if_pos c10] at H
       have c10b0 : decide (t105 < t106) = true := decide_eq_true c10
       clear c10
       simp only [Option.some.injEq, Prod.mk.injEq] at H
       obtain ⟨rfl, rfl, rfl, rfl⟩ := H
       have p102 : 0 ≤ (x16_1 : Int) := oB
       have q102 : x16_1 < (l2.length : Int) := oB
       obtain ⟨ad102, e102, hx102_0, hx102_1, hx102_2⟩ := at_T75 HR2.out x16_1 p102 q102
       cases e102
       replace hx102_0 := (HB.out.cell (World.block_lt_of_cell? w _ hx102_0)).trans hx102_0
       replace hx102_1 := (HB.out.cell (World.block_lt_of_cell? w _ hx102_1)).trans hx102_1
       replace hx102_2 := (HB.out.cell (World.block_lt_of_cell? w _ hx102_2)).trans hx102_2
       replace p102 := eq_true p102
       replace q102 := eq_true q102
       go_wp2_with (first | ((with_reducible refine gate_dst (N := 9) rfl ?_); refine boxE (N := 9) (cs := #[.int .i64 0, .int .i64 0, .int .i64 0]) (t := 75) ?_; intro gb103 hg w11 hbox hb; have n0_ := Aside0.mk (blk_below (kB BK101) hb); have n1_ := Aside0.mk (below_step (bB1 HB GE101) hb); have BK103 := Aside0.mk (hbox); have GW103 := Aside0.mk (szB hg (below_size (bB1 HB GE101))); have GE103 := GW103; have NB101_103 := Aside0.mk (neA hg (blk_lt (kB BK101))); have NB103_101 := Aside0.mk (neB hg (blk_lt (kB BK101))); clear BK101; clear HB; have BK101 := n0_; have HB := n1_; clear n0_ n1_; clear hb hbox hg; have hnb12 := NB103_101.out; have hnc12 := NB101_103.out; have hcz13_0 : w11.cell? ⟨gb103, 0, none⟩ = some (.int .i64 0) := (blk_cell BK103.out 0).trans rfl; have hcz13_1 : w11.cell? ⟨gb103, 1, none⟩ = some (.int .i64 0) := (blk_cell BK103.out 1).trans rfl; have hcz13_2 : w11.cell? ⟨gb103, 2, none⟩ = some (.int .i64 0) := (blk_cell BK103.out 2).trans rfl; have hfz13_0 := blk_frozen BK103.out 0; have hfz13_1 := blk_frozen BK103.out 1; have hfz13_2 := blk_frozen BK103.out 2) | ((with_reducible refine gate_callee (f := 104) rfl ?_); refine goesL_ (some 23) rfl rfl Try.func104 (by kernel_rfl) rfl #[.agg #[.int .i64 ((rd_T75 l2 x16_1).f0), .int .i64 ((rd_T75 l2 x16_1).f1), .int .i64 ((rd_T75 l2 x16_1).f2)], .slice A0 l0.length c0] rfl mB ?_; (with_reducible refine (plane_span.calls ((rd_T75 l2 x16_1).f0) ((rd_T75 l2 x16_1).f1) ((rd_T75 l2 x16_1).f2) _ _ l0 t104 t105 _ ?side1 ?side2 A8.out).mono ?_); (case side1 => exact Kd.C_below HR0.out (bB2 HB GE101 GE103)); (case side2 => exact HC0.out); rintro e w14 ⟨rfl, hb⟩; refine ⟨_, rfl, ?_⟩; replace BK101 := Aside0.mk (blk_below (g := gb101) (o := .cells #[.int .i64 x102000_1, .int .i64 x102001_1, .int .i64 x102002_1] 75 (0, 0)) (by (with_reducible repeat (first | refine blk_drewN ?_ _ | refine blk_drew ?_ | refine blk_alloc ?_ _)); refine blk_far ?_ NB101_103.out _; (with_reducible repeat (first | refine blk_drewN ?_ _ | refine blk_drew ?_ | refine blk_alloc ?_ _)); refine blk_far ?_ NB101_103.out _; (with_reducible repeat (first | refine blk_drewN ?_ _ | refine blk_drew ?_ | refine blk_alloc ?_ _)); refine blk_far ?_ NB101_103.out _; (with_reducible repeat (first | refine blk_drewN ?_ _ | refine blk_drew ?_ | refine blk_alloc ?_ _)); exact BK101.out) hb); replace BK103 := Aside0.mk (blk_below (g := gb103) (o := .cells #[.int .i64 ((rd_T75 l2 x16_1).f0), .int .i64 ((rd_T75 l2 x16_1).f1), .int .i64 ((rd_T75 l2 x16_1).f2)] 75 (0, 0)) (by (with_reducible repeat (first | refine blk_drewN ?_ _ | refine blk_drew ?_ | refine blk_alloc ?_ _)); refine blk_put (cs := #[.int .i64 ((rd_T75 l2 x16_1).f0), .int .i64 ((rd_T75 l2 x16_1).f1), .int .i64 0]) ?_ 2 _ rfl; (with_reducible repeat (first | refine blk_drewN ?_ _ | refine blk_drew ?_ | refine blk_alloc ?_ _)); refine blk_put (cs := #[.int .i64 ((rd_T75 l2 x16_1).f0), .int .i64 0, .int .i64 0]) ?_ 1 _ rfl; (with_reducible repeat (first | refine blk_drewN ?_ _ | refine blk_drew ?_ | refine blk_alloc ?_ _)); refine blk_put (cs := #[.int .i64 0, .int .i64 0, .int .i64 0]) ?_ 0 _ rfl; (with_reducible repeat (first | refine blk_drewN ?_ _ | refine blk_drew ?_ | refine blk_alloc ?_ _)); exact BK103.out) hb); replace HB := Aside0.mk (below_step (bB2 HB GE101 GE103) hb); (try clear hb); (try clear hb2); (try clear hk); (try clear hi); have hcz15_0 : w14.cell? ⟨gb103, 0, none⟩ = some (.int .i64 ((rd_T75 l2 x16_1).f0)) := (blk_cell BK103.out 0).trans rfl; have hcz15_1 : w14.cell? ⟨gb103, 1, none⟩ = some (.int .i64 ((rd_T75 l2 x16_1).f1)) := (blk_cell BK103.out 1).trans rfl; have hcz15_2 : w14.cell? ⟨gb103, 2, none⟩ = some (.int .i64 ((rd_T75 l2 x16_1).f2)) := (blk_cell BK103.out 2).trans rfl; have hfz15_0 := blk_frozen BK103.out 0; have hfz15_1 := blk_frozen BK103.out 1; have hfz15_2 := blk_frozen BK103.out 2) | ((with_reducible refine gate_callee (f := 104) rfl ?_); refine goesL_ (some 29) rfl rfl Try.func104 (by kernel_rfl) rfl #[.agg #[.int .i64 ((rd_T75 l2 x16_1).f0), .int .i64 ((rd_T75 l2 x16_1).f1), .int .i64 ((rd_T75 l2 x16_1).f2)], .slice A1 l1.length c1] rfl mB ?_; (with_reducible refine (plane_span.calls ((rd_T75 l2 x16_1).f0) ((rd_T75 l2 x16_1).f1) ((rd_T75 l2 x16_1).f2) _ _ l1 t106 t107 _ ?side1 ?side2 A9.out).mono ?_); (case side1 => exact cB HR1 HB); (case side2 => exact HC1.out); rintro e w16 ⟨rfl, hb⟩; refine ⟨_, rfl, ?_⟩; replace BK101 := Aside0.mk (blk_below (kB BK101) hb); replace BK103 := Aside0.mk (blk_below (kB BK103) hb); replace HB := Aside0.mk (below_step (bB2 HB GE101 GE103) hb); (try clear hb); (try clear hb2); (try clear hk); (try clear hi); have hcz17_0 : w16.cell? ⟨gb103, 0, none⟩ = some (.int .i64 ((rd_T75 l2 x16_1).f0)) := (blk_cell BK103.out 0).trans rfl; have hcz17_1 : w16.cell? ⟨gb103, 1, none⟩ = some (.int .i64 ((rd_T75 l2 x16_1).f1)) := (blk_cell BK103.out 1).trans rfl; have hcz17_2 : w16.cell? ⟨gb103, 2, none⟩ = some (.int .i64 ((rd_T75 l2 x16_1).f2)) := (blk_cell BK103.out 2).trans rfl; have hfz17_0 := blk_frozen BK103.out 0; have hfz17_1 := blk_frozen BK103.out 1; have hfz17_2 := blk_frozen BK103.out 2; have hcz18_0 : w16.cell? ⟨gb101, 0, none⟩ = some (.int .i64 x102000_1) := (blk_cell BK101.out 0).trans rfl; have hcz18_1 : w16.cell? ⟨gb101, 1, none⟩ = some (.int .i64 x102001_1) := (blk_cell BK101.out 1).trans rfl; have hcz18_2 : w16.cell? ⟨gb101, 2, none⟩ = some (.int .i64 x102002_1) := (blk_cell BK101.out 2).trans rfl; have hfz18_0 := blk_frozen BK101.out 0; have hfz18_1 := blk_frozen BK101.out 1; have hfz18_2 := blk_frozen BK101.out 2))
       refine bodyPost_ret (results_ct rfl _ _ gb101 75 #[.int .i64 ((rd_T75 l2 x16_1).f0), .int .i64 ((rd_T75 l2 x16_1).f1), .int .i64 t105] (0, 0) _ rfl (by (with_reducible repeat (first | refine blk_drewN ?_ _ | refine blk_drew ?_ | refine blk_alloc ?_ _)); refine blk_put (cs := #[.int .i64 ((rd_T75 l2 x16_1).f0), .int .i64 ((rd_T75 l2 x16_1).f1), .int .i64 x102002_1]) ?_ 2 _ rfl; (with_reducible repeat (first | refine blk_drewN ?_ _ | refine blk_drew ?_ | refine blk_alloc ?_ _)); refine blk_put (cs := #[.int .i64 ((rd_T75 l2 x16_1).f0), .int .i64 x102001_1, .int .i64 x102002_1]) ?_ 1 _ rfl; (with_reducible repeat (first | refine blk_drewN ?_ _ | refine blk_drew ?_ | refine blk_alloc ?_ _)); refine blk_put (cs := #[.int .i64 x102000_1, .int .i64 x102001_1, .int .i64 x102002_1]) ?_ 0 _ rfl; (with_reducible repeat (first | refine blk_drewN ?_ _ | refine blk_drew ?_ | refine blk_alloc ?_ _)); refine blk_far ?_ NB101_103.out _; (with_reducible repeat (first | refine blk_drewN ?_ _ | refine blk_drew ?_ | refine blk_alloc ?_ _)); exact BK101.out) Try.underlying75 rfl (by kernel_rfl)) rfl ?_
       exact ⟨eB, bB2 HB GE101 GE103⟩
      ·rw [if_neg c10] at H
       have c10b0 : decide (t105 < t106) = false := decide_eq_false c10
       clear c10
       have H' := Aside0.mk H
       clear H
       have p102 : 0 ≤ (x16_1 : Int) := oB
       have q102 : x16_1 < (l2.length : Int) := oB
       obtain ⟨ad102, e102, hx102_0, hx102_1, hx102_2⟩ := at_T75 HR2.out x16_1 p102 q102
       cases e102
       replace hx102_0 := (HB.out.cell (World.block_lt_of_cell? w _ hx102_0)).trans hx102_0
       replace hx102_1 := (HB.out.cell (World.block_lt_of_cell? w _ hx102_1)).trans hx102_1
       replace hx102_2 := (HB.out.cell (World.block_lt_of_cell? w _ hx102_2)).trans hx102_2
       replace p102 := eq_true p102
       replace q102 := eq_true q102
       go_wp2_with (first | ((with_reducible refine gate_dst (N := 9) rfl ?_); refine boxE (N := 9) (cs := #[.int .i64 0, .int .i64 0, .int .i64 0]) (t := 75) ?_; intro gb103 hg w19 hbox hb; have n0_ := Aside0.mk (blk_below (kB BK101) hb); have n1_ := Aside0.mk (below_step (bB1 HB GE101) hb); have BK103 := Aside0.mk (hbox); have GW103 := Aside0.mk (szB hg (below_size (bB1 HB GE101))); have GE103 := GW103; have NB101_103 := Aside0.mk (neA hg (blk_lt (kB BK101))); have NB103_101 := Aside0.mk (neB hg (blk_lt (kB BK101))); clear BK101; clear HB; have BK101 := n0_; have HB := n1_; clear n0_ n1_; clear hb hbox hg; have hnb20 := NB103_101.out; have hnc20 := NB101_103.out; have hcz21_0 : w19.cell? ⟨gb103, 0, none⟩ = some (.int .i64 0) := (blk_cell BK103.out 0).trans rfl; have hcz21_1 : w19.cell? ⟨gb103, 1, none⟩ = some (.int .i64 0) := (blk_cell BK103.out 1).trans rfl; have hcz21_2 : w19.cell? ⟨gb103, 2, none⟩ = some (.int .i64 0) := (blk_cell BK103.out 2).trans rfl; have hfz21_0 := blk_frozen BK103.out 0; have hfz21_1 := blk_frozen BK103.out 1; have hfz21_2 := blk_frozen BK103.out 2) | ((with_reducible refine gate_callee (f := 104) rfl ?_); refine goesL_ (some 23) rfl rfl Try.func104 (by kernel_rfl) rfl #[.agg #[.int .i64 ((rd_T75 l2 x16_1).f0), .int .i64 ((rd_T75 l2 x16_1).f1), .int .i64 ((rd_T75 l2 x16_1).f2)], .slice A0 l0.length c0] rfl mB ?_; (with_reducible refine (plane_span.calls ((rd_T75 l2 x16_1).f0) ((rd_T75 l2 x16_1).f1) ((rd_T75 l2 x16_1).f2) _ _ l0 t104 t105 _ ?side1 ?side2 A8.out).mono ?_); (case side1 => exact Kd.C_below HR0.out (bB2 HB GE101 GE103)); (case side2 => exact HC0.out); rintro e w22 ⟨rfl, hb⟩; refine ⟨_, rfl, ?_⟩; replace BK101 := Aside0.mk (blk_below (g := gb101) (o := .cells #[.int .i64 x102000_1, .int .i64 x102001_1, .int .i64 x102002_1] 75 (0, 0)) (by (with_reducible repeat (first | refine blk_drewN ?_ _ | refine blk_drew ?_ | refine blk_alloc ?_ _)); refine blk_far ?_ NB101_103.out _; (with_reducible repeat (first | refine blk_drewN ?_ _ | refine blk_drew ?_ | refine blk_alloc ?_ _)); refine blk_far ?_ NB101_103.out _; (with_reducible repeat (first | refine blk_drewN ?_ _ | refine blk_drew ?_ | refine blk_alloc ?_ _)); refine blk_far ?_ NB101_103.out _; (with_reducible repeat (first | refine blk_drewN ?_ _ | refine blk_drew ?_ | refine blk_alloc ?_ _)); exact BK101.out) hb); replace BK103 := Aside0.mk (blk_below (g := gb103) (o := .cells #[.int .i64 ((rd_T75 l2 x16_1).f0), .int .i64 ((rd_T75 l2 x16_1).f1), .int .i64 ((rd_T75 l2 x16_1).f2)] 75 (0, 0)) (by (with_reducible repeat (first | refine blk_drewN ?_ _ | refine blk_drew ?_ | refine blk_alloc ?_ _)); refine blk_put (cs := #[.int .i64 ((rd_T75 l2 x16_1).f0), .int .i64 ((rd_T75 l2 x16_1).f1), .int .i64 0]) ?_ 2 _ rfl; (with_reducible repeat (first | refine blk_drewN ?_ _ | refine blk_drew ?_ | refine blk_alloc ?_ _)); refine blk_put (cs := #[.int .i64 ((rd_T75 l2 x16_1).f0), .int .i64 0, .int .i64 0]) ?_ 1 _ rfl; (with_reducible repeat (first | refine blk_drewN ?_ _ | refine blk_drew ?_ | refine blk_alloc ?_ _)); refine blk_put (cs := #[.int .i64 0, .int .i64 0, .int .i64 0]) ?_ 0 _ rfl; (with_reducible repeat (first | refine blk_drewN ?_ _ | refine blk_drew ?_ | refine blk_alloc ?_ _)); exact BK103.out) hb); replace HB := Aside0.mk (below_step (bB2 HB GE101 GE103) hb); (try clear hb); (try clear hb2); (try clear hk); (try clear hi); have hcz23_0 : w22.cell? ⟨gb103, 0, none⟩ = some (.int .i64 ((rd_T75 l2 x16_1).f0)) := (blk_cell BK103.out 0).trans rfl; have hcz23_1 : w22.cell? ⟨gb103, 1, none⟩ = some (.int .i64 ((rd_T75 l2 x16_1).f1)) := (blk_cell BK103.out 1).trans rfl; have hcz23_2 : w22.cell? ⟨gb103, 2, none⟩ = some (.int .i64 ((rd_T75 l2 x16_1).f2)) := (blk_cell BK103.out 2).trans rfl; have hfz23_0 := blk_frozen BK103.out 0; have hfz23_1 := blk_frozen BK103.out 1; have hfz23_2 := blk_frozen BK103.out 2) | ((with_reducible refine gate_callee (f := 104) rfl ?_); refine goesL_ (some 29) rfl rfl Try.func104 (by kernel_rfl) rfl #[.agg #[.int .i64 ((rd_T75 l2 x16_1).f0), .int .i64 ((rd_T75 l2 x16_1).f1), .int .i64 ((rd_T75 l2 x16_1).f2)], .slice A1 l1.length c1] rfl mB ?_; (with_reducible refine (plane_span.calls ((rd_T75 l2 x16_1).f0) ((rd_T75 l2 x16_1).f1) ((rd_T75 l2 x16_1).f2) _ _ l1 t106 t107 _ ?side1 ?side2 A9.out).mono ?_); (case side1 => exact cB HR1 HB); (case side2 => exact HC1.out); rintro e w24 ⟨rfl, hb⟩; refine ⟨_, rfl, ?_⟩; replace BK101 := Aside0.mk (blk_below (kB BK101) hb); replace BK103 := Aside0.mk (blk_below (kB BK103) hb); replace HB := Aside0.mk (below_step (bB2 HB GE101 GE103) hb); (try clear hb); (try clear hb2); (try clear hk); (try clear hi)))
       go_roundg k1
       case measure => have := HK1.out; omega
       case rel => exact ⟨(wrap64 (x16_1 + 1)), (x102000_1), (x102001_1), (x102002_1), sB, H', ⟨by have := HK1.out; omega⟩, ⟨by (with_reducible repeat (first | refine blk_drewN ?_ _ | refine blk_drew ?_ | refine blk_alloc ?_ _)); exact BK101.out⟩, ⟨bB2 HB GE101 GE103⟩⟩
     ·rw [if_neg c7] at H
      exact absurd H (by simp)
    ·rw [if_neg c6] at H
     exact absurd H (by simp)
   ·rw [if_neg c5] at H
    have c5b0 : decide (x16_1 < (l2.length : Int)) = false := decide_eq_false c5
    clear c5
    simp only [Option.some.injEq, Prod.mk.injEq] at H
    obtain ⟨rfl, rfl, rfl, rfl⟩ := H
    have hcz25_0 : wr.cell? ⟨gb101, 0, none⟩ = some (.int .i64 x102000_1) := (blk_cell BK101.out 0).trans rfl
    have hcz25_1 : wr.cell? ⟨gb101, 1, none⟩ = some (.int .i64 x102001_1) := (blk_cell BK101.out 1).trans rfl
    have hcz25_2 : wr.cell? ⟨gb101, 2, none⟩ = some (.int .i64 x102002_1) := (blk_cell BK101.out 2).trans rfl
    have hfz25_0 := blk_frozen BK101.out 0
    have hfz25_1 := blk_frozen BK101.out 1
    have hfz25_2 := blk_frozen BK101.out 2
    go_wp2
    refine bodyPost_ret (results_ct rfl _ _ gb101 75 #[.int .i64 0, .int .i64 0, .int .i64 0] (0, 0) _ rfl (by (with_reducible repeat (first | refine blk_drewN ?_ _ | refine blk_drew ?_ | refine blk_alloc ?_ _)); refine blk_put (cs := #[.int .i64 0, .int .i64 0, .int .i64 x102002_1]) ?_ 2 _ rfl; (with_reducible repeat (first | refine blk_drewN ?_ _ | refine blk_drew ?_ | refine blk_alloc ?_ _)); refine blk_put (cs := #[.int .i64 0, .int .i64 x102001_1, .int .i64 x102002_1]) ?_ 1 _ rfl; (with_reducible repeat (first | refine blk_drewN ?_ _ | refine blk_drew ?_ | refine blk_alloc ?_ _)); refine blk_put (cs := #[.int .i64 x102000_1, .int .i64 x102001_1, .int .i64 x102002_1]) ?_ 0 _ rfl; (with_reducible repeat (first | refine blk_drewN ?_ _ | refine blk_drew ?_ | refine blk_alloc ?_ _)); exact BK101.out) Try.underlying75 rfl (by kernel_rfl)) rfl ?_
    exact ⟨eB, bB1 HB GE101⟩
end Go.Proofs.Ytegdcnjjelgpjaa.P
namespace Go.Proofs.Ytegdcnjjelgpjaa.P
open Go.RowKit Go.Proofs.YtegdcnjjelgpjaaW.PrintWords Go.Proofs.YtegdcnjjelgpjaaW.PrintLast Go.Proofs.YtegdcnjjelgpjaaW.PrintMore
set_option linter.unusedVariables false
set_option linter.unusedSimpArgs false
def tryA (a b : List S23) (d : S75) : Option S75 := if hiW d.f0 d.f1 a < loW d.f0 d.f1 b then some ⟨d.f0, d.f1, hiW d.f0 d.f1 a⟩ else none
def tryO (a b : List S23) (L : List S75) : Option S75 := L.findSome? (tryA a b)
def lineR : Option S75 → Int × Int × Int × Bool
 | some x => (x.f0, x.f1, x.f2, true)
 | none => (0, 0, 0, false)
theorem tryO_append (a b : List S23) (L M : List S75) : tryO a b (L ++ M) = (tryO a b L).or (tryO a b M) := by
 unfold tryO; rw [List.findSome?_append]
theorem rd75_get (l : List S75) (i : Nat) (h : i < l.length) : rd_T75 l (i : Int) = l[i] := by
 simp only [rd_T75, Int.toNat_natCast, List.getD_eq_getElem?_getD, List.getElem?_eq_getElem h, Option.getD_some]
theorem try_loop (a b : List S23) (ha : 0 < a.length) (hb : 0 < b.length) (L : List S75) (hl : (L.length : Int) < 9223372036854775807) (d : Nat) : ∀ (i : Nat), L.length - i = d → i ≤ L.length →
  Ev (fun k => plane_try.l0 k a b L (L.length : Int) (i : Int)) (lineR (tryO a b (L.drop i))) := by
 induction d with
 | zero =>
  intro i hd hi
  have he : i = L.length := by omega
  subst he
  rw [List.drop_length]
  refine Ev.step (f := fun _ => some (0, 0, 0, false)) (fun k => ?_) (Ev.now _)
  simp only [plane_try.l0]
  rw [if_neg (by omega)]
 | succ d ih =>
  intro i hd hi
  have h1 : i < L.length := by omega
  have ea : L.drop i = L[i] :: L.drop (i + 1) := List.drop_eq_getElem_cons h1
  have hw : wrap64 ((i : Int) + 1) = ((i + 1 : Nat) : Int) := by unfold wrap64; omega
  have es : ∀ x : S75, plane_span.f x.f0 x.f1 x.f2 a = some (loW x.f0 x.f1 a, hiW x.f0 x.f1 a) ∧ plane_span.f x.f0 x.f1 x.f2 b = some (loW x.f0 x.f1 b, hiW x.f0 x.f1 b) := fun x => ⟨if_pos ha, if_pos hb⟩
  refine Ev.step (f := fun k => if hiW L[i].f0 L[i].f1 a < loW L[i].f0 L[i].f1 b then some (L[i].f0, L[i].f1, hiW L[i].f0 L[i].f1 a, true) else plane_try.l0 k a b L (L.length : Int) ((i + 1 : Nat) : Int)) (fun k => ?_) ?_
  ·simp only [plane_try.l0]
   rw [if_pos (by omega), if_pos (by omega), if_pos (by omega), rd75_get L i h1, (es L[i]).1, (es L[i]).2, hw]
   simp only [Option.bind_some]
  ·rw [ea]
   unfold tryO
   rw [List.findSome?_cons]
   by_cases e : hiW L[i].f0 L[i].f1 a < loW L[i].f0 L[i].f1 b
   ·simp only [tryA, e, if_true]
    exact Ev.now _
   ·simp only [tryA, e, if_false]
    exact ih (i + 1) (by omega) (by omega)
theorem try_ev (a b : List S23) (ha : 0 < a.length) (hb : 0 < b.length) (L : List S75) (hl : L.length < 1000) : Ev (fun k => plane_try.f k a b L) (lineR (tryO a b L)) := by
 unfold plane_try.f
 simpa using try_loop a b ha hb L (by omega) L.length 0 (by omega) (by omega)
def lineC (x : S75) : Array Value := #[.int .i64 x.f0, .int .i64 x.f1, .int .i64 x.f2]
theorem line1_C {w : World} {g : Nat} (x : S75) (h : w.heap[g]? = some (.cells #[.int .i64 x.f0, .int .i64 x.f1, .int .i64 x.f2] 75 (0, 0))) : Kd.C k75 w (some ⟨g, 0, none⟩) 1 [x] := by
 refine ⟨rfl, by omega, fun _ => ⟨_, rfl, fun j p hp => ?_⟩⟩
 match j, hp with
 | 0, hp =>
  simp at hp; subst hp
  refine ⟨_, ?_, k75_mk w x, fun i u hu => ?_⟩
  ·rfl
  ·have e : (⟨g, 0, none⟩ : Addr).add (0 * k75.sz + i) = ⟨g, i, none⟩ := by
    by_cases h0 : i = 0
    ·subst h0; simp [Addr.add]
    ·simp [Addr.add, h0]
   rw [e, blk_cell h]
   match i, hu with
   | 0, hu => exact hu
   | 1, hu => exact hu
   | 2, hu => exact hu
   | i + 3, hu => simp at hu
 | j + 1, hp => simp at hp
theorem line4_C {w : World} {g : Nat} (x y z t : S75) (h : w.heap[g]? = some (.cells #[.int .i64 x.f0, .int .i64 x.f1, .int .i64 x.f2, .int .i64 y.f0, .int .i64 y.f1, .int .i64 y.f2, .int .i64 z.f0, .int .i64 z.f1, .int .i64 z.f2, .int .i64 t.f0, .int .i64 t.f1, .int .i64 t.f2] 75 (0, 0))) : Kd.C k75 w (some ⟨g, 0, none⟩) 4 [x, y, z, t] := by
 refine ⟨rfl, by omega, fun _ => ⟨_, rfl, fun j p hp => ?_⟩⟩
 have e : ∀ n : Nat, (⟨g, 0, none⟩ : Addr).add n = ⟨g, n, none⟩ := fun n => by
  by_cases h0 : n = 0
  ·subst h0; simp [Addr.add]
  ·simp [Addr.add, h0]
 have hz : k75.sz = 3 := rfl
 refine ⟨[.int .i64 p.f0, .int .i64 p.f1, .int .i64 p.f2], rfl, k75_mk w p, fun i u hu => ?_⟩
 rw [e, blk_cell h, hz]
 match j, hp with
 | 0, hp | 1, hp | 2, hp | 3, hp =>
  simp at hp; subst hp
  match i, hu with
  | 0, hu => exact hu
  | 1, hu => exact hu
  | 2, hu => exact hu
  | i + 3, hu => simp at hu
 | j + 4, hp => simp at hp
theorem line_cells {V : World} {B : Nat} {b : S75} (h : V.heap[B]? = some (.cells (lineC b) 75 (0, 0))) :
  (V.cell? ⟨B, 0, none⟩ = some (.int .i64 b.f0) ∧ V.cell? ⟨B, 1, none⟩ = some (.int .i64 b.f1) ∧ V.cell? ⟨B, 2, none⟩ = some (.int .i64 b.f2)) ∧ (V.frozen? ⟨B, 0, none⟩ = false ∧ V.frozen? ⟨B, 1, none⟩ = false ∧ V.frozen? ⟨B, 2, none⟩ = false) :=
 ⟨⟨(blk_cell h 0).trans rfl, (blk_cell h 1).trans rfl, (blk_cell h 2).trans rfl⟩, blk_frozen h 0, blk_frozen h 1, blk_frozen h 2⟩
def put3 (V : World) (B : Nat) (x : S75) : World := ((V.setCell ⟨B, 0, none⟩ (.int .i64 x.f0)).setCell ⟨B, 1, none⟩ (.int .i64 x.f1)).setCell ⟨B, 2, none⟩ (.int .i64 x.f2)
theorem put3_blk {V : World} {B : Nat} {b : S75} (x : S75) (h : V.heap[B]? = some (.cells (lineC b) 75 (0, 0))) : (put3 V B x).heap[B]? = some (.cells (lineC x) 75 (0, 0)) :=
 blk_set (blk_set (blk_set h 0 (.int .i64 x.f0)) 1 (.int .i64 x.f1)) 2 (.int .i64 x.f2)
theorem put3_far {V : World} {B k : Nat} {x : S75} (hk : k ≠ B) : (put3 V B x).heap[k]? = V.heap[k]? := by
 unfold put3
 rw [Below.heap_setCell _ _ _ _ hk, Below.heap_setCell _ _ _ _ hk, Below.heap_setCell _ _ _ _ hk]
theorem put3_below {V : World} {B : Nat} {x : S75} {A : Nat} (h : A ≤ B) : Below A V (put3 V B x) :=
 (((Below.refl _ _).setCell (p := ⟨B, 0, none⟩) h _).setCell (p := ⟨B, 1, none⟩) h _).setCell (p := ⟨B, 2, none⟩) h _
end Go.Proofs.Ytegdcnjjelgpjaa.P
namespace Go.Proofs.Ytegdcnjjelgpjaa.P
open Go.RowKit Go.Shelf Go.Proofs.Ytegdcnjjelgpjaa.O Go.Proofs.YtegdcnjjelgpjaaW.PrintWords Go.Proofs.YtegdcnjjelgpjaaW.PrintLast Go.Proofs.YtegdcnjjelgpjaaW.PrintMore
attribute [local go_sem] Oper.semAt_some
set_option linter.unusedVariables false
set_option linter.unusedSimpArgs false
def ptV2 (x : S23 × S23) : Array Value := #[.agg #[.int .i64 x.1.f0, .int .i64 x.1.f1], .agg #[.int .i64 x.2.f0, .int .i64 x.2.f1]]
def sideAt (h : List S23) (i : Nat) : S23 × S23 := (h.getD i z23, h.getD ((i + 1) % h.length) z23)
def sideL (h : List S23) : List (S23 × S23) := (List.range h.length).map (sideAt h)
theorem sideL_len (h : List S23) : (sideL h).length = h.length := by simp [sideL]
theorem sideL_get (h : List S23) (i : Nat) (hi : i < h.length) : (sideL h)[i]'(by rw [sideL_len]; exact hi) = sideAt h i := by simp [sideL]
theorem side_prefix (h : List S23) (i : Nat) (hi : i < h.length) : (sideL h).take i ++ [sideAt h i] <+: sideL h := by
 have h1 : i < (sideL h).length := by rw [sideL_len]; exact hi
 have := List.take_prefix (i + 1) (sideL h)
 rwa [List.take_succ_eq_append_getElem h1, sideL_get h i hi] at this
theorem side_succ (h : List S23) (i : Nat) (hi : i < h.length) : (sideL h).take (i + 1) = (sideL h).take i ++ [sideAt h i] := by
 have h1 : i < (sideL h).length := by rw [sideL_len]; exact hi
 rw [List.take_succ_eq_append_getElem h1, sideL_get h i hi]
set_option maxRecDepth 100000 in
set_option maxHeartbeats 4000000 in
theorem sides_seq (Bs c : Nat) (A : Option Addr) (h : List S23) (w : World) (hs : w.heap[Bs]? = some (.cells #[.slice A h.length c] 53 (0, 0))) (hr : Kd.C k23 w A h.length h) :
  SeqS Try.prog 120 #[.pointer (some ⟨Bs, 0, none⟩)] ptV2 (sideL h) w := by
 intro lo J Jx W hW hJ hJx hY h0
 have hm := Kd.C_max hr
 have cs0 : W.cell? ⟨Bs, 0, none⟩ = some (.slice A h.length c) := (blk_cell (keep_below hW (blk_lt hs) hs) 0).trans rfl
 have hu23 := Try.underlying23
 obtain ⟨n, hn⟩ : ∃ n, h.length = n := ⟨_, rfl⟩
 have HN := Aside0.mk hn
 have HR := Aside0.mk hr
 rw [hn] at cs0 hs hm
 clear hn hr
 refine callsIn_of_wp Try.func120 rfl trivial ?_ rfl
 simp only [Try.ntmps120, List.size_toArray, List.length_cons, List.length_nil, Nat.reduceAdd, Nat.reduceSub, Array.replicate_succ, Array.replicate_zero, List.push_toArray, List.append_toArray, List.nil_append, List.cons_append]
 gi_wp2
 gi_loopw [7] (fun v wr => ∃ k : Nat, k ≤ n ∧ v = .int .i64 k ∧ Aside0 (J ((sideL h).take k) wr) ∧ Aside0 (Below w.heap.size w wr) ∧ W.heap.size ≤ wr.heap.size)
  (fun v _ => n - (intOf v).toNat)
 case atStart => exact ⟨0, Nat.zero_le _, rfl, ⟨by simpa using h0⟩, ⟨hW⟩, Nat.le_refl _⟩
 case round =>
  obtain ⟨i, hk, rfl, HJs, HB, hsz⟩ := hrel
  by_cases hlt : i < n
  ·have hil : i < h.length := by rw [HN.out]; exact hlt
   obtain ⟨ad, rfl, hx0, hx1⟩ := at_T23 HR.out (i : Int) (by omega) (by have := HN.out; omega)
   obtain ⟨j, hj⟩ : ∃ j, (i + 1) % n = j := ⟨_, rfl⟩
   have hjn : j < n := by rw [← hj]; exact Nat.mod_lt _ (by omega)
   obtain ⟨ad2, e2, hy0, hy1⟩ := at_T23 HR.out (j : Int) (by omega) (by have := HN.out; omega)
   obtain rfl : ad = ad2 := Option.some.inj e2
   have hpq : sideAt h i = (rd_T23 h (i : Int), rd_T23 h (j : Int)) := by
    unfold sideAt rd_T23
    rw [HN.out, hj]
    rfl
   rw [Int.toNat_natCast] at hx0 hx1 hy0 hy1
   obtain ⟨p, hp⟩ : ∃ p, rd_T23 h (i : Int) = p := ⟨_, rfl⟩
   obtain ⟨q, hq⟩ : ∃ p, rd_T23 h (j : Int) = p := ⟨_, rfl⟩
   rw [hp] at hx0 hx1
   rw [hq] at hy0 hy1
   rw [hp, hq] at hpq
   replace hx0 := (HB.out.cell (World.block_lt_of_cell? w _ hx0)).trans hx0
   replace hx1 := (HB.out.cell (World.block_lt_of_cell? w _ hx1)).trans hx1
   replace hy0 := (HB.out.cell (World.block_lt_of_cell? w _ hy0)).trans hy0
   replace hy1 := (HB.out.cell (World.block_lt_of_cell? w _ hy1)).trans hy1
   have cs1 := (HB.out.cell (p := ⟨Bs, 0, none⟩) (blk_lt hs)).trans ((blk_cell hs 0).trans (rfl : _ = some (Value.slice (some ad) n c)))
   obtain ⟨W2, hW2⟩ : ∃ W2, wr.alloc (.cells #[.int .i64 p.f0, .int .i64 p.f1] 23 (0, 0)) = W2 := ⟨_, rfl⟩
   have hb2 : Below wr.heap.size wr W2 := by rw [← hW2]; exact (Below.refl _ _).alloc (Nat.le_refl _) _
   have kx : W2.heap[wr.heap.size]? = some (.cells #[.int .i64 p.f0, .int .i64 p.f1] 23 (0, 0)) := by rw [← hW2]; exact blk_new _ _
   have x0 : W2.cell? ⟨wr.heap.size, 0, none⟩ = some (.int .i64 p.f0) := (blk_cell kx 0).trans rfl
   have x1 : W2.cell? ⟨wr.heap.size, 1, none⟩ = some (.int .i64 p.f1) := (blk_cell kx 1).trans rfl
   have y0 := (hb2.cell (World.block_lt_of_cell? wr _ hy0)).trans hy0
   have y1 := (hb2.cell (World.block_lt_of_cell? wr _ hy1)).trans hy1
   have cs := (hb2.cell (World.block_lt_of_cell? wr _ cs1)).trans cs1
   have KB := Aside0.mk (blk_lt kx)
   have KS := Aside0.mk (World.block_lt_of_cell? W2 _ cs)
   have KW : Aside0 (w.heap.size ≤ W2.heap.size) := ⟨by have := HB.out.size; have := hb2.size; omega⟩
   have JS := Aside0.mk (hJ _ _ _ HJs.out hb2)
   have PRE := Aside0.mk (hpq ▸ side_prefix h i hil)
   have SUC := Aside0.mk (hpq ▸ side_succ h i hil)
   have HW2 := Aside0.mk (HB.out.trans (hb2.mono HB.out.size))
   have HZ2 : Aside0 (W.heap.size ≤ W2.heap.size) := ⟨by have := hb2.size; omega⟩
   obtain ⟨i1, hi1⟩ : ∃ k, i + 1 = k := ⟨_, rfl⟩
   rw [hi1] at hj
   have hn64 : (n : Int) ≤ 9223372036854775807 := by omega
   have w1 : IntKind.i64.wrap ((i : Int) + 1) = (i1 : Int) := by rw [i64_w]; unfold wrap64; omega
   have w2 : wrap64 ((i : Int) + 1) = (i1 : Int) := by unfold wrap64; omega
   have w3 : ((i1 : Int)).tmod (n : Int) = (j : Int) := by rw [← hj, ← Int.ofNat_tmod]
   have w4 : ((i1 : Int)) % (n : Int) = (j : Int) := by rw [← hj]; simp
   have g1 : ¬ (n : Int) = 0 := by omega
   have g2 : ¬ n = 0 := by omega
   clear hp hq hpq hb2 kx hy0 hy1 cs1 hj
   gi_wp2
   clear hW2 hx0 hx1
   refine wpIn_region_any (by kernel_rfl) ?_
   change wpAnyIn _ _ _ _ _ _ _ _ _ (World.drew W2)
   refine wpAnyIn_inv (fun listed a V' => ∃ vb, a = { tmps := (.func (.yield lo) #[] #[] :: .pointer (some ⟨Bs, 0, none⟩) :: undef :: .int .i64 (i : Int) :: .pointer (some ⟨wr.heap.size, 0, none⟩) :: .slice (some ad) n c :: .int .i64 (n : Int) :: .int .i64 (i : Int) :: .bool true :: .int .i64 (i : Int) :: .pointer (some (ad.add (i * 2))) :: .agg #[.int .i64 p.f0, .int .i64 p.f1] :: selOr listed 0 (.func (.yield lo) #[] #[]) u12 :: selOr listed 1 (.agg #[.int .i64 p.f0, .int .i64 p.f1]) u13 :: selOr listed 2 (.slice (some ad) n c) u14 :: selOr listed 3 (.int .i64 (i : Int)) u15 :: selOr listed 4 (.int .i64 (i1 : Int)) u16 :: selOr listed 5 (.slice (some ad) n c) u17 :: selOr listed 6 (.int .i64 (n : Int)) u18 :: selOr listed 7 (.int .i64 (j : Int)) u19 :: selOr listed 8 (.pointer (some (ad.add (j * 2)))) u20 :: selOr listed 9 (.agg #[.int .i64 q.f0, .int .i64 q.f1]) u21 :: selOr listed 10 (.bool vb) u22 :: selOr listed 11 (.bool (!vb)) u23 :: u24 :: []).toArray, defers := [] } ∧ (listed.getD 10 false = false → Below W2.heap.size W2 V') ∧ (listed.getD 10 false = true → (vb = true ∧ J ((sideL h).take i ++ [(p, q)]) V' ∧ Below w.heap.size W2 V') ∨ (vb = false ∧ Jx ((sideL h).take i ++ [(p, q)]) V'))) 19 ?stepq ?stopq ?finq 12 _ _ _ (by simp) (closed_none _) ⟨true, by simp [selOr], fun _ => (Below.refl _ _).drew, fun hz => by simp at hz⟩ (by simp)
   case stopq =>
    intro listed a V' fuel hs hc hi hr
    have := (ready_lt hr).1
    simp at hs
    omega
   case stepq =>
    rintro listed a V' i hs hc ⟨vb, rfl, q1, q2⟩ hr hne K hK
    obtain ⟨hlt', hl0⟩ := ready_lt hr
    have hi : i = 0 ∨ i = 1 ∨ i = 2 ∨ i = 3 ∨ i = 4 ∨ i = 5 ∨ i = 6 ∨ i = 7 ∨ i = 8 ∨ i = 9 ∨ i = 10 ∨ i = 11 := by simp at hs; omega
    rcases hi with rfl | rfl | rfl | rfl | rfl | rfl | rfl | rfl | rfl | rfl | rfl | rfl
    ·skip
     refine wpOpIn_of rfl rfl ?_
     clear hr hl0
     gi_wp2
     refine ⟨vb, ?_, (fun hz => q1 (by rw [getD_other hlt' (by decide)] at hz; exact hz)), fun hz => q2 (by rw [getD_other hlt' (by decide)] at hz; exact hz)⟩
     simp (disch := decide) only [selOr_same hlt', selOr_other hlt']
    ·skip
     refine wpOpIn_of rfl rfl ?_
     have n10 : listed.getD 10 false = false := by
      cases z : listed.getD 10 false
      ·rfl
      ·have z1 : listed.getD 1 false = true := hc 10 _ rfl z { on := 1, ground := .data } (by simp) rfl
       rw [hl0] at z1; cases z1
     have hq := q1 n10
     have z0 := (hq.cell (p := ⟨wr.heap.size, 0, none⟩) KB.out).trans x0
     have z1 := (hq.cell (p := ⟨wr.heap.size, 1, none⟩) KB.out).trans x1
     clear hr hl0
     gi_wp2
     refine ⟨vb, ?_, (fun hz => q1 (by rw [getD_other hlt' (by decide)] at hz; exact hz)), fun hz => q2 (by rw [getD_other hlt' (by decide)] at hz; exact hz)⟩
     simp (disch := decide) only [selOr_same hlt', selOr_other hlt']
    ·skip
     refine wpOpIn_of rfl rfl ?_
     have n10 : listed.getD 10 false = false := by
      cases z : listed.getD 10 false
      ·rfl
      ·have z9 : listed.getD 9 false = true := hc 10 _ rfl z { on := 9, ground := .data } (by simp) rfl
       have z8 : listed.getD 8 false = true := hc 9 _ rfl z9 { on := 8, ground := .data } (by simp) rfl
       have z2 : listed.getD 2 false = true := hc 8 _ rfl z8 { on := 2, ground := .data } (by simp) rfl
       rw [hl0] at z2; cases z2
     have hq := q1 n10
     have z0 := (hq.cell (p := ⟨Bs, 0, none⟩) KS.out).trans cs
     clear hr hl0
     gi_wp2
     refine ⟨vb, ?_, (fun hz => q1 (by rw [getD_other hlt' (by decide)] at hz; exact hz)), fun hz => q2 (by rw [getD_other hlt' (by decide)] at hz; exact hz)⟩
     simp (disch := decide) only [selOr_same hlt', selOr_other hlt']
    ·skip
     refine wpOpIn_of rfl rfl ?_
     clear hr hl0
     gi_wp2
     refine ⟨vb, ?_, (fun hz => q1 (by rw [getD_other hlt' (by decide)] at hz; exact hz)), fun hz => q2 (by rw [getD_other hlt' (by decide)] at hz; exact hz)⟩
     simp (disch := decide) only [selOr_same hlt', selOr_other hlt']
    ·have d3 := rdD 3 hr
     simp only [selOr_on d3]
     refine wpOpIn_of rfl rfl ?_
     clear hr hl0
     gi_wp2
     refine ⟨vb, ?_, (fun hz => q1 (by rw [getD_other hlt' (by decide)] at hz; exact hz)), fun hz => q2 (by rw [getD_other hlt' (by decide)] at hz; exact hz)⟩
     simp (disch := decide) only [selOr_same hlt', selOr_other hlt', selOr_on d3]
    ·skip
     refine wpOpIn_of rfl rfl ?_
     have n10 : listed.getD 10 false = false := by
      cases z : listed.getD 10 false
      ·rfl
      ·have z9 : listed.getD 9 false = true := hc 10 _ rfl z { on := 9, ground := .data } (by simp) rfl
       have z8 : listed.getD 8 false = true := hc 9 _ rfl z9 { on := 8, ground := .data } (by simp) rfl
       have z7 : listed.getD 7 false = true := hc 8 _ rfl z8 { on := 7, ground := .data } (by simp) rfl
       have z6 : listed.getD 6 false = true := hc 7 _ rfl z7 { on := 6, ground := .data } (by simp) rfl
       have z5 : listed.getD 5 false = true := hc 6 _ rfl z6 { on := 5, ground := .data } (by simp) rfl
       rw [hl0] at z5; cases z5
     have hq := q1 n10
     have z0 := (hq.cell (p := ⟨Bs, 0, none⟩) KS.out).trans cs
     clear hr hl0
     gi_wp2
     refine ⟨vb, ?_, (fun hz => q1 (by rw [getD_other hlt' (by decide)] at hz; exact hz)), fun hz => q2 (by rw [getD_other hlt' (by decide)] at hz; exact hz)⟩
     simp (disch := decide) only [selOr_same hlt', selOr_other hlt']
    ·have d5 := rdD 5 hr
     simp only [selOr_on d5]
     refine wpOpIn_of rfl rfl ?_
     clear hr hl0
     gi_wp2
     refine ⟨vb, ?_, (fun hz => q1 (by rw [getD_other hlt' (by decide)] at hz; exact hz)), fun hz => q2 (by rw [getD_other hlt' (by decide)] at hz; exact hz)⟩
     simp (disch := decide) only [selOr_same hlt', selOr_other hlt', selOr_on d5]
    ·have d4 := rdD 4 hr
     have d6 := rdD 6 hr
     simp only [selOr_on d4, selOr_on d6]
     refine wpOpIn_of rfl rfl ?_
     clear hr hl0
     gi_wp2
     refine ⟨vb, ?_, (fun hz => q1 (by rw [getD_other hlt' (by decide)] at hz; exact hz)), fun hz => q2 (by rw [getD_other hlt' (by decide)] at hz; exact hz)⟩
     simp (disch := decide) only [selOr_same hlt', selOr_other hlt', selOr_on d4, selOr_on d6]
    ·have d2 := rdD 2 hr
     have d7 := rdD 7 hr
     simp only [selOr_on d2, selOr_on d7]
     refine wpOpIn_of rfl rfl ?_
     clear hr hl0
     gi_wp2
     refine ⟨vb, ?_, (fun hz => q1 (by rw [getD_other hlt' (by decide)] at hz; exact hz)), fun hz => q2 (by rw [getD_other hlt' (by decide)] at hz; exact hz)⟩
     simp (disch := decide) only [selOr_same hlt', selOr_other hlt', selOr_on d2, selOr_on d7]
    ·have d8 := rdD 8 hr
     simp only [selOr_on d8]
     refine wpOpIn_of rfl rfl ?_
     have n10 : listed.getD 10 false = false := by
      cases z : listed.getD 10 false
      ·rfl
      ·have z9 : listed.getD 9 false = true := hc 10 _ rfl z { on := 9, ground := .data } (by simp) rfl
       rw [hl0] at z9; cases z9
     have hq := q1 n10
     have z0 := (hq.cell (World.block_lt_of_cell? W2 _ y0)).trans y0
     have z1 := (hq.cell (World.block_lt_of_cell? W2 _ y1)).trans y1
     clear hr hl0
     gi_wp2
     refine ⟨vb, ?_, (fun hz => q1 (by rw [getD_other hlt' (by decide)] at hz; exact hz)), fun hz => q2 (by rw [getD_other hlt' (by decide)] at hz; exact hz)⟩
     simp (disch := decide) only [selOr_same hlt', selOr_other hlt', selOr_on d8]
    ·have d0 := rdD 0 hr
     have d1 := rdD 1 hr
     have d9 := rdD 9 hr
     simp only [selOr_on d0, selOr_on d1, selOr_on d9]
     refine wpOpIn_of rfl rfl ?_
     have hq := q1 hl0
     obtain ⟨fn, tmps, assign, body, hy, hR⟩ := hY _ (p, q) V' (hJ _ _ _ JS.out hq) PRE.out
     dsimp only [ptV2] at hy
     clear hr
     gi_wp2
     refine ⟨rfl, hR.mono ?_⟩
     rintro e W3 (⟨rfl, hJ3, hm3⟩ | ⟨rfl, hJ3⟩)
     ·gi_wp2
      refine ⟨true, ?_, fun hz => (by rw [getD_same hlt'] at hz; cases hz), fun _ => .inl ⟨rfl, hJ3, (hq.mono KW.out).trans hm3⟩⟩
      have n11 : listed.getD 11 false = false := by
       cases z : listed.getD 11 false
       ·rfl
       ·have := hc 11 _ rfl z { on := 10, ground := .data } (by simp) rfl
        rw [hl0] at this; cases this
      have e11 : ∀ v u, selOr listed 11 v u = u := fun v u => if_neg (by rw [n11]; decide)
      simp only [e11]
      simp (disch := decide) only [selOr_same hlt', selOr_other hlt', selOr_on d0, selOr_on d1, selOr_on d9]
      simp only [e11]
     ·gi_wp2
      refine ⟨false, ?_, fun hz => (by rw [getD_same hlt'] at hz; cases hz), fun _ => .inr ⟨rfl, hJ3⟩⟩
      have n11 : listed.getD 11 false = false := by
       cases z : listed.getD 11 false
       ·rfl
       ·have := hc 11 _ rfl z { on := 10, ground := .data } (by simp) rfl
        rw [hl0] at this; cases this
      have e11 : ∀ v u, selOr listed 11 v u = u := fun v u => if_neg (by rw [n11]; decide)
      simp only [e11]
      simp (disch := decide) only [selOr_same hlt', selOr_other hlt', selOr_on d0, selOr_on d1, selOr_on d9]
      simp only [e11]
    ·have d10 := rdD 10 hr
     simp only [selOr_on d10]
     refine wpOpIn_of rfl rfl ?_
     clear hr hl0
     gi_wp2
     refine ⟨vb, ?_, (fun hz => q1 (by rw [getD_other hlt' (by decide)] at hz; exact hz)), fun hz => q2 (by rw [getD_other hlt' (by decide)] at hz; exact hz)⟩
     simp (disch := decide) only [selOr_same hlt', selOr_other hlt', selOr_on d10]
   case finq =>
    rintro listed a V' hs ⟨vb, rfl, q1, q2⟩ hr
    have all : ∀ j, j < 12 → listed.getD j false = true := fun j hj => by
     cases q : listed.getD j false
     ·exact absurd hr (ready_ne hs (by kernel_rfl) j (by simpa using hj) q)
     ·rfl
    simp only [selOr_on (all 0 (by decide)), selOr_on (all 1 (by decide)), selOr_on (all 2 (by decide)), selOr_on (all 3 (by decide)), selOr_on (all 4 (by decide)), selOr_on (all 5 (by decide)), selOr_on (all 6 (by decide)), selOr_on (all 7 (by decide)), selOr_on (all 8 (by decide)), selOr_on (all 9 (by decide)), selOr_on (all 10 (by decide)), selOr_on (all 11 (by decide))]
    clear hr hs
    have q3 := q2 (all 10 (by decide))
    clear all q1 q2
    rcases q3 with ⟨rfl, hJ3, hm3⟩ | ⟨rfl, hJ3⟩
    ·have hz3 := hm3.size
     gi_wp2
     refine ⟨⟨i + 1, by omega, by rw [hi1], ⟨?_⟩, ⟨HW2.out.trans hm3⟩, by have := HB.out.size; have := HW2.out.size; have := HZ2.out; omega⟩, by simp [intOf]; omega⟩
     rw [SUC.out]; exact hJ3
    ·gi_wp2
     refine bodyPost_ret (results_none rfl _ _ _) rfl ?_
     exact ⟨⟨_, rfl⟩, .inr ⟨_, PRE.out, hJ3⟩⟩
  ·obtain rfl : i = n := by omega
   gi_wp2
   go_end0
   refine ⟨⟨_, rfl⟩, .inl ?_⟩
   have := HJs.out
   rwa [List.take_of_length_le (by rw [sideL_len, HN.out]; exact Nat.le_refl _)] at this
set_option maxHeartbeats 1000000 in
theorem sides_make (A : Option Addr) (n c : Nat) (w : World) :
  CallsIn Fence.wide 0 Try.prog 99 #[.slice A n c] w fun e w' => e = .returned (.func (.func 120) #[] #[.pointer (some ⟨w.heap.size, 0, none⟩)]) ∧ w' = w.alloc (.cells #[.slice A n c] 53 (0, 0)) := by
 refine callsIn_of_wp Try.func99 rfl trivial ?_ rfl
 simp only [Try.ntmps99, List.size_toArray, List.length_cons, List.length_nil, Nat.reduceAdd, Nat.reduceSub, Array.replicate_succ, Array.replicate_zero, List.push_toArray, List.append_toArray, List.nil_append, List.cons_append]
 gi_wp2
 go_ret
 exact ⟨rfl, rfl⟩
end Go.Proofs.Ytegdcnjjelgpjaa.P
namespace Go.Proofs.Ytegdcnjjelgpjaa.O
open Go.RowKit Go.Shelf
def SeqP {α : Type} (P : Program) (g : Nat) (lb : Array Value) (encs : α → Array Value) (L : List α) (T T2 : Nat → Prop) (w : World) : Prop :=
 ∀ (l : Nat) (J Jx : List α → World → Prop) (W : World), Below w.heap.size w W → Firm W.heap.size J → Firm W.heap.size Jx →
  (∀ pre x W1, J pre W1 → (pre ++ [x]) <+: L → YieldAt Fence.wide 0 P l (encs x) W1 fun e W' =>
   (e = .returned (.bool true) ∧ J (pre ++ [x]) W' ∧ Turns (Tor T w.heap.size W.heap.size) W1 W') ∨ (e = .returned (.bool false) ∧ Jx (pre ++ [x]) W' ∧ Turns (Tor T2 w.heap.size W.heap.size) W1 W')) →
  J [] W →
  CallsIn Fence.wide 0 P g (#[.func (.yield l) #[] #[]] ++ lb) W fun e W' => (∃ v, e = .returned v) ∧ (J L W' ∨ ∃ pre, pre <+: L ∧ Jx pre W')
variable {P : Program}
theorem SeqP.same {α : Type} {P : Program} {g : Nat} {lb : Array Value} {encs : α → Array Value} {L : List α} {T : Nat → Prop} {w : World} (h : SeqP P g lb encs L T T w) : SeqO P g lb encs L T w := h
def Coll (B : Nat) : Nat → List Deferred → World → Prop
 | _, [], _ => True
 | hi, d :: ds, W => ∃ D, B ≤ D ∧ D < hi ∧ d = { target := .collected D, args := #[] } ∧ W.heap[D]? = some (.deferred (some [])) ∧ Coll B D ds W
theorem Coll.below {B : Nat} : ∀ {ds : List Deferred} {hi X : Nat} {W W' : World}, Coll B hi ds W → Below X W W' → hi ≤ X → Coll B hi ds W'
 | [], _, _, _, _, _, _, _ => trivial
 | d :: ds, hi, X, W, W', ⟨D, h1, h2, h3, h4, h5⟩, hb, hX => ⟨D, h1, h2, h3, (hb.block D (by omega)).trans h4, h5.below hb (by omega)⟩
theorem Coll.mono {B : Nat} {ds : List Deferred} {hi hi' : Nat} {W : World} (h : Coll B hi ds W) (hh : hi ≤ hi') : Coll B hi' ds W := by
 cases ds with
 | nil => trivial
 | cons d ds => obtain ⟨D, h1, h2, h3⟩ := h; exact ⟨D, h1, by omega, h3⟩
theorem Coll.push {B : Nat} {ds : List Deferred} {hi D : Nat} {W : World} (h : Coll B hi ds W) (hB : B ≤ D) (hD : hi ≤ D) (hW : W.heap[D]? = some (.deferred (some []))) : Coll B (D + 1) ({ target := .collected D, args := #[] } :: ds) W :=
 ⟨D, hB, by omega, rfl, hW, h.mono hD⟩
theorem Coll.same {B : Nat} : ∀ {ds : List Deferred} {hi : Nat} {W W' : World}, Coll B hi ds W → (∀ k, B ≤ k → k < hi → W'.heap[k]? = W.heap[k]?) → Coll B hi ds W'
 | [], _, _, _, _, _ => trivial
 | d :: ds, hi, W, W', ⟨D, h1, h2, h3, h4, h5⟩, hk => ⟨D, h1, h2, h3, (hk D h1 h2).trans h4, h5.same fun k a b => hk k a (by omega)⟩
theorem leaves_coll {P : Program} {F : Fence} {n B : Nat} {fn : Func} {tmps : Array Value} {R : Ending → World → Prop} : ∀ (ds : List Deferred) (hi : Nat) (W : World), Coll B hi ds W → (∀ W', Below B W W' → LeavesInM F n P fn tmps R [] .returning W') → LeavesInM F n P fn tmps R ds .returning W
 | [], _, W, _, h => h W (Below.refl _ _)
 | d :: ds, hi, W, ⟨D, h1, h2, h3, h4, h5⟩, h => by
  subst h3
  refine ⟨by simp, .inl ⟨_, _, rfl, run_takeDeferred h4, ?_⟩⟩
  refine leaves_coll ds D _ (h5.same fun k _ hk => World.putObj_heap_other (by omega)) fun W' hW' => h W' ((below_putObj _ _ h1).trans hW')
end Go.Proofs.Ytegdcnjjelgpjaa.O
namespace Go.Proofs.Ytegdcnjjelgpjaa.P
open Go.RowKit Go.Shelf Go.Proofs.Ytegdcnjjelgpjaa.O Go.Proofs.YtegdcnjjelgpjaaW.PrintWords Go.Proofs.YtegdcnjjelgpjaaW.PrintLast Go.Proofs.YtegdcnjjelgpjaaW.PrintMore
attribute [local go_sem] Oper.semAt_some
set_option linter.unusedVariables false
set_option linter.unusedSimpArgs false
def dir4 (s : S23 × S23) : List S75 := [⟨wrap64 (s.2.f1 - s.1.f1), wrap64 (-(wrap64 (s.2.f0 - s.1.f0))), 0⟩, ⟨wrap64 (-(wrap64 (s.2.f1 - s.1.f1))), wrap64 (s.2.f0 - s.1.f0), 0⟩, ⟨wrap64 (s.2.f0 - s.1.f0), wrap64 (s.2.f1 - s.1.f1), 0⟩, ⟨wrap64 (-(wrap64 (s.2.f0 - s.1.f0))), wrap64 (-(wrap64 (s.2.f1 - s.1.f1))), 0⟩]
def dirs (h : List S23) : List S75 := (sideL h).flatMap dir4
def dir0 (a b : List S23) : S75 := ⟨wrap64 ((rd_T23 b 0).f0 - (rd_T23 a 0).f0), wrap64 ((rd_T23 b 0).f1 - (rd_T23 a 0).f1), 0⟩
def partL (a b : List S23) : List S75 := dir0 a b :: (dirs a ++ dirs b)
def plane_part.f (l0 : List (S23)) (l1 : List (S23)) : Option (Int × Int × Int × Bool) := if 0 < l0.length ∧ 0 < l1.length then some (lineR (tryO l0 l1 (partL l0 l1))) else none
theorem results_lb {fn : Func} {p p' : Tmp} (h : fn.results = #[.cell p 75, .cell p' 4]) (tmps : Array Value) (w : World) (g : Nat) (cs : Array Value) (g' : Nat) (v : Value)
  (hp : tmps.getD p undef = .pointer (some ⟨g, 0, none⟩)) (hp' : tmps.getD p' undef = .pointer (some ⟨g', 0, none⟩)) (hg : w.heap[g]? = some (.cells cs 75 (0, 0))) (hc : w.cell? ⟨g', 0, none⟩ = some v) (hs : cs.size = 3) :
  (results fn tmps).run Try.prog w = .ok (.tuple #[.agg cs, v]) w := by
 have hu75 := Try.underlying75
 have h1 : tmps[p]?.getD undef = .pointer (some ⟨g, 0, none⟩) := by simpa using hp
 have h2 : tmps[p']?.getD undef = .pointer (some ⟨g', 0, none⟩) := by simpa using hp'
 have hi : (Try.prog.info? 75).map (·.size) = some cs.size := by rw [hs]; kernel_rfl
 have hb : (isAgg 4).run Try.prog w = .ok false w := by kernel_rfl
 have hl : (loadVar 4 ⟨g', 0, none⟩).run Try.prog w = .ok v w := by
  unfold loadVar
  simp [Sem.run_bind, hb, Result.andThen, go_sem, hc]
 simp [results, h, h1, h2, asAddr, run_loadVar_row w g 75 75 cs (0, 0) _ hg hu75 rfl hi, hl]
structure PInv (B : Nat) (w : World) (va vb : Value) (hi : Nat) (ds : List Deferred) (W : World) : Prop where
 below : Below B w W
 size : B + 4 ≤ hi ∧ hi ≤ W.heap.size
 ha : W.heap[B]? = some (.cells #[va] 53 (0, 0))
 hb : W.heap[B + 1]? = some (.cells #[vb] 53 (0, 0))
 hl : W.heap[B + 1 + 1]? = some (.cells (lineC z75) 75 (0, 0))
 hf : W.heap[B + 1 + 1 + 1]? = some (.cells #[.bool false] 4 (0, 0))
 coll : Coll (B + 4) hi ds W
theorem PInv.step {B : Nat} {w : World} {va vb : Value} {hi X : Nat} {ds : List Deferred} {W W' : World} (h : PInv B w va vb hi ds W) (hb : Below X W W') (hX : hi ≤ X) : PInv B w va vb hi ds W' := by
 have h1 := h.size
 have h2 := hb.size
 exact ⟨h.below.trans (hb.mono (by omega)), by omega, keep_below hb (by omega) h.ha, keep_below hb (by omega) h.hb, keep_below hb (by omega) h.hl, keep_below hb (by omega) h.hf, h.coll.below hb hX⟩
theorem PInv.up {B : Nat} {w : World} {va vb : Value} {hi : Nat} {ds : List Deferred} {W : World} (h : PInv B w va vb hi ds W) : PInv B w va vb W.heap.size ds W :=
 ⟨h.below, ⟨by have := h.size; omega, Nat.le_refl _⟩, h.ha, h.hb, h.hl, h.hf, h.coll.mono h.size.2⟩
structure PEnd (B : Nat) (w : World) (hi : Nat) (ds : List Deferred) (x : S75) (b : Bool) (W : World) : Prop where
 below : Below B w W
 size : B + 4 ≤ hi ∧ hi ≤ W.heap.size
 hl : W.heap[B + 1 + 1]? = some (.cells (lineC x) 75 (0, 0))
 hf : W.heap[B + 1 + 1 + 1]? = some (.cells #[.bool b] 4 (0, 0))
 coll : Coll (B + 4) hi ds W
theorem PEnd.step {B : Nat} {w : World} {hi X : Nat} {ds : List Deferred} {x : S75} {b : Bool} {W W' : World} (h : PEnd B w hi ds x b W) (hb : Below X W W') (hX : hi ≤ X) : PEnd B w hi ds x b W' := by
 have h1 := h.size
 have h2 := hb.size
 exact ⟨h.below.trans (hb.mono (by omega)), by omega, keep_below hb (by omega) h.hl, keep_below hb (by omega) h.hf, h.coll.below hb hX⟩
theorem part_store {B hi : Nat} {w : World} {va vb : Value} {ds : List Deferred} {V : World} (x0 x1 x2 : Int) (b : Bool) (J : PInv B w va vb hi ds V) :
  PEnd B w hi ds ⟨x0, x1, x2⟩ b ((((V.setCell ⟨B + 1 + 1, 0, none⟩ (.int .i64 x0)).setCell ⟨B + 1 + 1, 1, none⟩ (.int .i64 x1)).setCell ⟨B + 1 + 1, 2, none⟩ (.int .i64 x2)).setCell ⟨B + 1 + 1 + 1, 0, none⟩ (.bool b)) ∧
  ∀ D, B + 4 ≤ D → Recs D V ((((V.setCell ⟨B + 1 + 1, 0, none⟩ (.int .i64 x0)).setCell ⟨B + 1 + 1, 1, none⟩ (.int .i64 x1)).setCell ⟨B + 1 + 1, 2, none⟩ (.int .i64 x2)).setCell ⟨B + 1 + 1 + 1, 0, none⟩ (.bool b)) := by
 show PEnd B w hi ds ⟨x0, x1, x2⟩ b ((put3 V (B + 1 + 1) ⟨x0, x1, x2⟩).setCell ⟨B + 1 + 1 + 1, 0, none⟩ (.bool b)) ∧ ∀ D, B + 4 ≤ D → Recs D V ((put3 V (B + 1 + 1) ⟨x0, x1, x2⟩).setCell ⟨B + 1 + 1 + 1, 0, none⟩ (.bool b))
 have hbe : Below (B + 1 + 1) V ((put3 V (B + 1 + 1) ⟨x0, x1, x2⟩).setCell ⟨B + 1 + 1 + 1, 0, none⟩ (.bool b)) := (put3_below (Nat.le_refl _)).setCell (p := ⟨B + 1 + 1 + 1, 0, none⟩) (by simp) _
 have q5 : (put3 V (B + 1 + 1) ⟨x0, x1, x2⟩).heap[B + 1 + 1 + 1]? = some (.cells #[.bool false] 4 (0, 0)) := by rw [put3_far (by omega)]; exact J.hf
 have far : ∀ q, B + 4 ≤ q → ((put3 V (B + 1 + 1) ⟨x0, x1, x2⟩).setCell ⟨B + 1 + 1 + 1, 0, none⟩ (.bool b)).heap[q]? = V.heap[q]? := fun q hq => by
  rw [Below.heap_setCell _ _ _ _ (by simp; omega), put3_far (by omega)]
 refine ⟨⟨J.below.trans (hbe.mono (by omega)), ⟨J.size.1, Nat.le_trans J.size.2 hbe.size⟩, ?_, ?_, J.coll.same fun q hq _ => far q hq⟩, fun D hD => ⟨far D hD, far (D + 1) (by omega)⟩⟩
 ·rw [Below.heap_setCell _ _ _ _ (by simp)]; exact put3_blk _ J.hl
 ·exact blk_set q5 0 (.bool b)
theorem try_in (aa ab : Addr) (na nb ca cb g m : Nat) (l0 l1 : List S23) (L : List S75) (r1 r2 r3 : Int) (r4 : Bool) (w V : World) (h0 : 0 < l0.length) (h1 : 0 < l1.length) (hna : l0.length = na) (hnb : l1.length = nb)
  (hr0 : Kd.C k23 w (some aa) l0.length l0) (hca : l0.length ≤ ca) (hr1 : Kd.C k23 w (some ab) l1.length l1) (hcb : l1.length ≤ cb) (hV : Below w.heap.size w V) (hL : L.length < 1000) (hm : L.length = m) (hr2 : Kd.C k75 V (some ⟨g, 0, none⟩) m L) (hr : lineR (tryO l0 l1 L) = (r1, r2, r3, r4)) :
  CallsIn Fence.wide 0 Try.prog 123 #[.slice (some aa) na ca, .slice (some ab) nb cb, .slice (some ⟨g, 0, none⟩) m m] V fun e W' => e = .returned (.tuple #[.agg #[.int .i64 r1, .int .i64 r2, .int .i64 r3], .bool r4]) ∧ Below V.heap.size V W' := by
 subst hna hnb hm
 obtain ⟨k, hk⟩ := (try_ev l0 l1 h0 h1 L hL).rounds
 rw [hr] at hk
 exact callsIn_w (plane_try.calls k (some aa) ca l0 (some ab) cb l1 (some ⟨g, 0, none⟩) L.length L r1 r2 r3 r4 V (Kd.C_below hr0 hV) hca (Kd.C_below hr1 hV) hcb hr2 (Nat.le_refl _) hk)
set_option maxRecDepth 100000 in
set_option maxHeartbeats 1000000 in
theorem part_in (aa ab : Addr) (ca cb : Nat) (l0 l1 : List S23) (w : World) (h0 : 0 < l0.length) (h1 : 0 < l1.length)
  (hr0 : Kd.C k23 w (some aa) l0.length l0) (hca : l0.length ≤ ca) (hr1 : Kd.C k23 w (some ab) l1.length l1) (hcb : l1.length ≤ cb) :
  CallsIn Fence.wide 0 Try.prog 106 #[.slice (some aa) l0.length ca, .slice (some ab) l1.length cb] w fun e W' =>
   e = .returned (.tuple #[.agg #[.int .i64 (lineR (tryO l0 l1 (partL l0 l1))).1, .int .i64 (lineR (tryO l0 l1 (partL l0 l1))).2.1, .int .i64 (lineR (tryO l0 l1 (partL l0 l1))).2.2.1], .bool (lineR (tryO l0 l1 (partL l0 l1))).2.2.2]) ∧ Below w.heap.size w W' := by
 have hu75 := Try.underlying75
 have hu23 := Try.underlying23
 obtain ⟨A', eA, xa0, xa1⟩ := at_T23 hr0 0 (by omega) (by omega)
 obtain rfl : aa = A' := Option.some.inj eA
 obtain ⟨B', eB, xb0, xb1⟩ := at_T23 hr1 0 (by omega) (by omega)
 obtain rfl : ab = B' := Option.some.inj eB
 rw [show ((0 : Int)).toNat = 0 from rfl, show 0 * 2 = 0 from rfl, Addr.add_zero'] at xa0 xa1 xb0 xb1
 obtain ⟨a0, ha0⟩ : ∃ p, rd_T23 l0 0 = p := ⟨_, rfl⟩
 obtain ⟨b0, hb0⟩ : ∃ p, rd_T23 l1 0 = p := ⟨_, rfl⟩
 obtain ⟨dx, hdx⟩ : ∃ d, wrap64 (b0.f0 - a0.f0) = d := ⟨_, rfl⟩
 obtain ⟨dy, hdy⟩ : ∃ d, wrap64 (b0.f1 - a0.f1) = d := ⟨_, rfl⟩
 have HPL : Aside0 (partL l0 l1 = ⟨dx, dy, 0⟩ :: (dirs l0 ++ dirs l1)) := ⟨by unfold partL dir0; rw [ha0, hb0, hdx, hdy]⟩
 rw [ha0] at xa0 xa1
 rw [hb0] at xb0 xb1
 have w1 : IntKind.i64.wrap (b0.f0 - a0.f0) = dx := by rw [i64_w]; exact hdx
 have w2 : IntKind.i64.wrap (b0.f1 - a0.f1) = dy := by rw [i64_w]; exact hdy
 obtain ⟨⟨r1, r2, r3, r4⟩, hr⟩ : ∃ r, lineR (tryO l0 l1 [⟨dx, dy, 0⟩]) = r := ⟨_, rfl⟩
 have HR := Aside0.mk hr
 obtain ⟨na, hna⟩ : ∃ n, l0.length = n := ⟨_, rfl⟩
 obtain ⟨nb, hnb⟩ : ∃ n, l1.length = n := ⟨_, rfl⟩
 have HTR : Aside0 (∀ (L : List S75) (g m : Nat) (V : World) (s1 s2 s3 : Int) (s4 : Bool), Below w.heap.size w V → L.length < 1000 → L.length = m → Kd.C k75 V (some ⟨g, 0, none⟩) m L → lineR (tryO l0 l1 L) = (s1, s2, s3, s4) →
   CallsIn Fence.wide 0 Try.prog 123 #[.slice (some aa) na ca, .slice (some ab) nb cb, .slice (some ⟨g, 0, none⟩) m m] V fun e W' => e = .returned (.tuple #[.agg #[.int .i64 s1, .int .i64 s2, .int .i64 s3], .bool s4]) ∧ Below V.heap.size V W') :=
  ⟨fun L g m V s1 s2 s3 s4 a b c d e => try_in aa ab na nb ca cb g m l0 l1 L s1 s2 s3 s4 w V h0 h1 hna hnb hr0 hca hr1 hcb a b c d e⟩
 have HTRY : Aside0 (∀ (g : Nat) (V : World), Below w.heap.size w V → V.heap[g]? = some (.cells #[.int .i64 dx, .int .i64 dy, .int .i64 0] 75 (0, 0)) →
   CallsIn Fence.wide 0 Try.prog 123 #[.slice (some aa) na ca, .slice (some ab) nb cb, .slice (some ⟨g, 0, none⟩) 1 1] V fun e W' => e = .returned (.tuple #[.agg #[.int .i64 r1, .int .i64 r2, .int .i64 r3], .bool r4]) ∧ Below V.heap.size V W') :=
  ⟨fun g V a b => HTR.out [⟨dx, dy, 0⟩] g 1 V r1 r2 r3 r4 a (by simp) rfl (line1_C ⟨dx, dy, 0⟩ b) hr⟩
 have HNA := Aside0.mk hna
 have HNB := Aside0.mk hnb
 have HRA := Aside0.mk hr0
 have HRB := Aside0.mk hr1
 have HCA := Aside0.mk hca
 have HCB := Aside0.mk hcb
 have g1 : 0 < na := by omega
 have g2 : 0 < nb := by omega
 have g3 : (0 : Int) < (na : Int) := by omega
 have g4 : (0 : Int) < (nb : Int) := by omega
 rw [hna, hnb]
 obtain ⟨B, hB⟩ : ∃ B, w.heap.size = B := ⟨_, rfl⟩
 obtain ⟨W1, hW1⟩ : ∃ W1, (((w.alloc (.cells #[.slice (some aa) na ca] 53 (0, 0))).alloc (.cells #[.slice (some ab) nb cb] 53 (0, 0))).alloc (.cells (lineC z75) 75 (0, 0))).alloc (.cells #[.bool false] 4 (0, 0)) = W1 := ⟨_, rfl⟩
 have J1 : PInv B w (.slice (some aa) na ca) (.slice (some ab) nb cb) W1.heap.size [] W1 := by
  rw [← hW1]; subst hB
  refine ⟨((((Below.refl _ _).alloc (Nat.le_refl _) _).alloc (by simp) _).alloc (by simp; omega) _).alloc (by simp; omega) _, by simp, blk_alloc (blk_alloc (blk_alloc (blk_new _ _) _) _) _, ?_, ?_, ?_, trivial⟩
  ·refine blk_alloc (blk_alloc ?_ _) _
   have := blk_new (w.alloc (.cells #[.slice (some aa) na ca] 53 (0, 0))) (.cells #[.slice (some ab) nb cb] 53 (0, 0))
   rwa [World.size_alloc] at this
  ·refine blk_alloc ?_ _
   have := blk_new ((w.alloc (.cells #[.slice (some aa) na ca] 53 (0, 0))).alloc (.cells #[.slice (some ab) nb cb] 53 (0, 0))) (.cells (lineC z75) 75 (0, 0))
   rwa [World.size_alloc, World.size_alloc] at this
  ·have := blk_new (((w.alloc (.cells #[.slice (some aa) na ca] 53 (0, 0))).alloc (.cells #[.slice (some ab) nb cb] 53 (0, 0))).alloc (.cells (lineC z75) 75 (0, 0))) (.cells #[.bool false] 4 (0, 0))
   rwa [World.size_alloc, World.size_alloc, World.size_alloc] at this
 have HW1 : Aside0 (Below w.heap.size w W1) := ⟨hB ▸ J1.below⟩
 replace xa0 := (HW1.out.cell (World.block_lt_of_cell? w _ xa0)).trans xa0
 replace xa1 := (HW1.out.cell (World.block_lt_of_cell? w _ xa1)).trans xa1
 replace xb0 := (HW1.out.cell (World.block_lt_of_cell? w _ xb0)).trans xb0
 replace xb1 := (HW1.out.cell (World.block_lt_of_cell? w _ xb1)).trans xb1
 have ca0 : W1.cell? ⟨B, 0, none⟩ = some (.slice (some aa) na ca) := (blk_cell J1.ha 0).trans rfl
 have cb0 : W1.cell? ⟨B + 1, 0, none⟩ = some (.slice (some ab) nb cb) := (blk_cell J1.hb 0).trans rfl
 have KA := Aside0.mk (blk_lt J1.ha)
 have KBB := Aside0.mk (blk_lt J1.hb)
 have J1A := Aside0.mk J1
 have HBe := Aside0.mk hB
 simp only [lineC, z75] at hW1
 clear ha0 hb0 hdx hdy hr hna hnb hr0 hr1 hca hcb J1 h0 h1 eA eB
 refine callsIn_of_wp_marks Try.func106 rfl trivial ?_ rfl
 simp only [Try.ntmps106, List.size_toArray, List.length_cons, List.length_nil, Nat.reduceAdd, Nat.reduceSub, Array.replicate_succ, Array.replicate_zero, List.push_toArray, List.append_toArray, List.nil_append, List.cons_append]
 gi_wp2
 refine wpIn_region_any (by kernel_rfl) ?_
 change wpAnyIn _ _ _ _ _ _ _ _ _ (World.drew W1)
 refine wpAnyIn_inv (fun listed a V' => ∃ gs g6 x6, a = { tmps := (.slice (some aa) na ca :: .slice (some ab) nb cb :: .pointer (some ⟨B, 0, none⟩) :: .pointer (some ⟨B + 1, 0, none⟩) :: .pointer (some ⟨B + 1 + 1, 0, none⟩) :: .pointer (some ⟨B + 1 + 1 + 1, 0, none⟩) :: selOr listed 26 (.pointer (some ⟨g6, 0, none⟩)) undef :: selOr listed 28 (.bool r4) undef :: undef :: undef :: undef :: undef :: undef :: undef :: undef :: undef :: selOr listed 23 (.tuple #[.agg #[.int .i64 r1, .int .i64 r2, .int .i64 r3], .bool r4]) undef :: selOr listed 0 (.slice (some aa) na ca) undef :: selOr listed 1 (.slice (some ab) nb cb) undef :: selOr listed 2 (.slice (some ab) nb cb) undef :: selOr listed 3 (.pointer (some ab)) undef :: selOr listed 4 (.pointer (some ab)) undef :: selOr listed 5 (.int .i64 b0.f0) undef :: selOr listed 6 (.slice (some aa) na ca) undef :: selOr listed 7 (.pointer (some aa)) undef :: selOr listed 8 (.pointer (some aa)) undef :: selOr listed 9 (.int .i64 a0.f0) undef :: selOr listed 10 (.int .i64 dx) undef :: selOr listed 11 (.slice (some ab) nb cb) undef :: selOr listed 12 (.pointer (some ab)) undef :: selOr listed 13 (.pointer (some ⟨ab.block, ab.off + 1, none⟩)) undef :: selOr listed 14 (.int .i64 b0.f1) undef :: selOr listed 15 (.slice (some aa) na ca) undef :: selOr listed 16 (.pointer (some aa)) undef :: selOr listed 17 (.pointer (some ⟨aa.block, aa.off + 1, none⟩)) undef :: selOr listed 18 (.int .i64 a0.f1) undef :: selOr listed 19 (.int .i64 dy) undef :: selOr listed 20 (.agg #[.int .i64 dx, .int .i64 dy, .int .i64 0]) undef :: selOr listed 21 (.slice (some ⟨gs, 0, none⟩) 1 1) undef :: selOr listed 22 (.tuple #[.agg #[.int .i64 r1, .int .i64 r2, .int .i64 r3], .bool r4]) undef :: selOr listed 24 (.agg #[.int .i64 r1, .int .i64 r2, .int .i64 r3]) undef :: selOr listed 25 (.bool r4) undef :: undef :: undef :: undef :: undef :: undef :: undef :: undef :: undef :: undef :: undef :: undef :: undef :: undef :: undef :: undef :: undef :: undef :: undef :: undef :: undef :: undef :: undef :: undef :: undef :: undef :: undef :: undef :: undef :: undef :: undef :: undef :: undef :: undef :: undef :: undef :: undef :: undef :: undef :: undef :: undef :: undef :: undef :: undef :: undef :: undef :: undef :: undef :: undef :: undef :: []).toArray, defers := [] } ∧ Below W1.heap.size W1 V' ∧ (listed.getD 21 false = true → listed.getD 22 false = false → V'.heap[gs]? = some (.cells #[.int .i64 dx, .int .i64 dy, .int .i64 0] 75 (0, 0))) ∧ (listed.getD 26 false = true → W1.heap.size ≤ g6 ∧ V'.heap[g6]? = some (.cells (lineC x6) 75 (0, 0))) ∧ (listed.getD 27 false = true → x6 = ⟨r1, r2, r3⟩)) 36 ?stepq ?stopq ?finq 29 _ _ _ (by simp) (closed_none _) ⟨0, 0, z75, by simp [selOr], (Below.refl _ _).drew, by simp, by simp, by simp⟩ (by simp)
 case stopq =>
  intro listed a V' fuel hs hc hi hr
  have := (ready_lt hr).1
  simp at hs
  omega
 case stepq =>
  rintro listed a V' i hs hc ⟨gs, g6, x6, rfl, q1, q2, q3, q4⟩ hr hne K hK
  obtain ⟨hlt', hl0⟩ := ready_lt hr
  have cca0 := (q1.cell (p := ⟨B, 0, none⟩) KA.out).trans ca0
  have ccb0 := (q1.cell (p := ⟨B + 1, 0, none⟩) KBB.out).trans cb0
  have cxa0 := (q1.cell (World.block_lt_of_cell? W1 _ xa0)).trans xa0
  have cxa1 := (q1.cell (World.block_lt_of_cell? W1 _ xa1)).trans xa1
  have cxb0 := (q1.cell (World.block_lt_of_cell? W1 _ xb0)).trans xb0
  have cxb1 := (q1.cell (World.block_lt_of_cell? W1 _ xb1)).trans xb1
  clear ca0 cb0 xa0 xa1 xb0 xb1
  have hwV : Below w.heap.size w V' := HW1.out.trans (q1.mono HW1.out.size)
  have hi : i = 0 ∨ i = 1 ∨ i = 2 ∨ i = 3 ∨ i = 4 ∨ i = 5 ∨ i = 6 ∨ i = 7 ∨ i = 8 ∨ i = 9 ∨ i = 10 ∨ i = 11 ∨ i = 12 ∨ i = 13 ∨ i = 14 ∨ i = 15 ∨ i = 16 ∨ i = 17 ∨ i = 18 ∨ i = 19 ∨ i = 20 ∨ i = 21 ∨ i = 22 ∨ i = 23 ∨ i = 24 ∨ i = 25 ∨ i = 26 ∨ i = 27 ∨ i = 28 := by simp at hs; omega
  rcases hi with rfl | rfl | rfl | rfl | rfl | rfl | rfl | rfl | rfl | rfl | rfl | rfl | rfl | rfl | rfl | rfl | rfl | rfl | rfl | rfl | rfl | rfl | rfl | rfl | rfl | rfl | rfl | rfl | rfl
  ·skip
   refine wpOpIn_of rfl rfl ?_
   clear hr hl0
   gi_wp2
   refine ⟨gs, g6, x6, ?_, q1, (by rw [getD_other hlt' (by decide), getD_other hlt' (by decide)]; exact q2), (by rw [getD_other hlt' (by decide)]; exact q3), (by rw [getD_other hlt' (by decide)]; exact q4)⟩
   simp (disch := decide) only [selOr_same hlt', selOr_other hlt']
  ·skip
   refine wpOpIn_of rfl rfl ?_
   clear hr hl0
   gi_wp2
   refine ⟨gs, g6, x6, ?_, q1, (by rw [getD_other hlt' (by decide), getD_other hlt' (by decide)]; exact q2), (by rw [getD_other hlt' (by decide)]; exact q3), (by rw [getD_other hlt' (by decide)]; exact q4)⟩
   simp (disch := decide) only [selOr_same hlt', selOr_other hlt']
  ·skip
   refine wpOpIn_of rfl rfl ?_
   clear hr hl0
   gi_wp2
   refine ⟨gs, g6, x6, ?_, q1, (by rw [getD_other hlt' (by decide), getD_other hlt' (by decide)]; exact q2), (by rw [getD_other hlt' (by decide)]; exact q3), (by rw [getD_other hlt' (by decide)]; exact q4)⟩
   simp (disch := decide) only [selOr_same hlt', selOr_other hlt']
  ·have d2 := rdD 2 hr
   simp only [selOr_on d2]
   refine wpOpIn_of rfl rfl ?_
   clear hr hl0
   gi_wp2
   refine ⟨gs, g6, x6, ?_, q1, (by rw [getD_other hlt' (by decide), getD_other hlt' (by decide)]; exact q2), (by rw [getD_other hlt' (by decide)]; exact q3), (by rw [getD_other hlt' (by decide)]; exact q4)⟩
   simp (disch := decide) only [selOr_same hlt', selOr_other hlt', selOr_on d2]
  ·have d3 := rdD 3 hr
   simp only [selOr_on d3]
   refine wpOpIn_of rfl rfl ?_
   clear hr hl0
   gi_wp2
   refine ⟨gs, g6, x6, ?_, q1, (by rw [getD_other hlt' (by decide), getD_other hlt' (by decide)]; exact q2), (by rw [getD_other hlt' (by decide)]; exact q3), (by rw [getD_other hlt' (by decide)]; exact q4)⟩
   simp (disch := decide) only [selOr_same hlt', selOr_other hlt', selOr_on d3]
  ·have d4 := rdD 4 hr
   simp only [selOr_on d4]
   refine wpOpIn_of rfl rfl ?_
   clear hr hl0
   gi_wp2
   refine ⟨gs, g6, x6, ?_, q1, (by rw [getD_other hlt' (by decide), getD_other hlt' (by decide)]; exact q2), (by rw [getD_other hlt' (by decide)]; exact q3), (by rw [getD_other hlt' (by decide)]; exact q4)⟩
   simp (disch := decide) only [selOr_same hlt', selOr_other hlt', selOr_on d4]
  ·skip
   refine wpOpIn_of rfl rfl ?_
   clear hr hl0
   gi_wp2
   refine ⟨gs, g6, x6, ?_, q1, (by rw [getD_other hlt' (by decide), getD_other hlt' (by decide)]; exact q2), (by rw [getD_other hlt' (by decide)]; exact q3), (by rw [getD_other hlt' (by decide)]; exact q4)⟩
   simp (disch := decide) only [selOr_same hlt', selOr_other hlt']
  ·have d6 := rdD 6 hr
   simp only [selOr_on d6]
   refine wpOpIn_of rfl rfl ?_
   clear hr hl0
   gi_wp2
   refine ⟨gs, g6, x6, ?_, q1, (by rw [getD_other hlt' (by decide), getD_other hlt' (by decide)]; exact q2), (by rw [getD_other hlt' (by decide)]; exact q3), (by rw [getD_other hlt' (by decide)]; exact q4)⟩
   simp (disch := decide) only [selOr_same hlt', selOr_other hlt', selOr_on d6]
  ·have d7 := rdD 7 hr
   simp only [selOr_on d7]
   refine wpOpIn_of rfl rfl ?_
   clear hr hl0
   gi_wp2
   refine ⟨gs, g6, x6, ?_, q1, (by rw [getD_other hlt' (by decide), getD_other hlt' (by decide)]; exact q2), (by rw [getD_other hlt' (by decide)]; exact q3), (by rw [getD_other hlt' (by decide)]; exact q4)⟩
   simp (disch := decide) only [selOr_same hlt', selOr_other hlt', selOr_on d7]
  ·have d8 := rdD 8 hr
   simp only [selOr_on d8]
   refine wpOpIn_of rfl rfl ?_
   clear hr hl0
   gi_wp2
   refine ⟨gs, g6, x6, ?_, q1, (by rw [getD_other hlt' (by decide), getD_other hlt' (by decide)]; exact q2), (by rw [getD_other hlt' (by decide)]; exact q3), (by rw [getD_other hlt' (by decide)]; exact q4)⟩
   simp (disch := decide) only [selOr_same hlt', selOr_other hlt', selOr_on d8]
  ·have d5 := rdD 5 hr
   have d9 := rdD 9 hr
   simp only [selOr_on d5, selOr_on d9]
   refine wpOpIn_of rfl rfl ?_
   clear hr hl0
   gi_wp2
   refine ⟨gs, g6, x6, ?_, q1, (by rw [getD_other hlt' (by decide), getD_other hlt' (by decide)]; exact q2), (by rw [getD_other hlt' (by decide)]; exact q3), (by rw [getD_other hlt' (by decide)]; exact q4)⟩
   simp (disch := decide) only [selOr_same hlt', selOr_other hlt', selOr_on d5, selOr_on d9]
  ·skip
   refine wpOpIn_of rfl rfl ?_
   clear hr hl0
   gi_wp2
   refine ⟨gs, g6, x6, ?_, q1, (by rw [getD_other hlt' (by decide), getD_other hlt' (by decide)]; exact q2), (by rw [getD_other hlt' (by decide)]; exact q3), (by rw [getD_other hlt' (by decide)]; exact q4)⟩
   simp (disch := decide) only [selOr_same hlt', selOr_other hlt']
  ·have d11 := rdD 11 hr
   simp only [selOr_on d11]
   refine wpOpIn_of rfl rfl ?_
   clear hr hl0
   gi_wp2
   refine ⟨gs, g6, x6, ?_, q1, (by rw [getD_other hlt' (by decide), getD_other hlt' (by decide)]; exact q2), (by rw [getD_other hlt' (by decide)]; exact q3), (by rw [getD_other hlt' (by decide)]; exact q4)⟩
   simp (disch := decide) only [selOr_same hlt', selOr_other hlt', selOr_on d11]
  ·have d12 := rdD 12 hr
   simp only [selOr_on d12]
   refine wpOpIn_of rfl rfl ?_
   clear hr hl0
   gi_wp2
   refine ⟨gs, g6, x6, ?_, q1, (by rw [getD_other hlt' (by decide), getD_other hlt' (by decide)]; exact q2), (by rw [getD_other hlt' (by decide)]; exact q3), (by rw [getD_other hlt' (by decide)]; exact q4)⟩
   simp (disch := decide) only [selOr_same hlt', selOr_other hlt', selOr_on d12]
  ·have d13 := rdD 13 hr
   simp only [selOr_on d13]
   refine wpOpIn_of rfl rfl ?_
   clear hr hl0
   gi_wp2
   refine ⟨gs, g6, x6, ?_, q1, (by rw [getD_other hlt' (by decide), getD_other hlt' (by decide)]; exact q2), (by rw [getD_other hlt' (by decide)]; exact q3), (by rw [getD_other hlt' (by decide)]; exact q4)⟩
   simp (disch := decide) only [selOr_same hlt', selOr_other hlt', selOr_on d13]
  ·skip
   refine wpOpIn_of rfl rfl ?_
   clear hr hl0
   gi_wp2
   refine ⟨gs, g6, x6, ?_, q1, (by rw [getD_other hlt' (by decide), getD_other hlt' (by decide)]; exact q2), (by rw [getD_other hlt' (by decide)]; exact q3), (by rw [getD_other hlt' (by decide)]; exact q4)⟩
   simp (disch := decide) only [selOr_same hlt', selOr_other hlt']
  ·have d15 := rdD 15 hr
   simp only [selOr_on d15]
   refine wpOpIn_of rfl rfl ?_
   clear hr hl0
   gi_wp2
   refine ⟨gs, g6, x6, ?_, q1, (by rw [getD_other hlt' (by decide), getD_other hlt' (by decide)]; exact q2), (by rw [getD_other hlt' (by decide)]; exact q3), (by rw [getD_other hlt' (by decide)]; exact q4)⟩
   simp (disch := decide) only [selOr_same hlt', selOr_other hlt', selOr_on d15]
  ·have d16 := rdD 16 hr
   simp only [selOr_on d16]
   refine wpOpIn_of rfl rfl ?_
   clear hr hl0
   gi_wp2
   refine ⟨gs, g6, x6, ?_, q1, (by rw [getD_other hlt' (by decide), getD_other hlt' (by decide)]; exact q2), (by rw [getD_other hlt' (by decide)]; exact q3), (by rw [getD_other hlt' (by decide)]; exact q4)⟩
   simp (disch := decide) only [selOr_same hlt', selOr_other hlt', selOr_on d16]
  ·have d17 := rdD 17 hr
   simp only [selOr_on d17]
   refine wpOpIn_of rfl rfl ?_
   clear hr hl0
   gi_wp2
   refine ⟨gs, g6, x6, ?_, q1, (by rw [getD_other hlt' (by decide), getD_other hlt' (by decide)]; exact q2), (by rw [getD_other hlt' (by decide)]; exact q3), (by rw [getD_other hlt' (by decide)]; exact q4)⟩
   simp (disch := decide) only [selOr_same hlt', selOr_other hlt', selOr_on d17]
  ·have d14 := rdD 14 hr
   have d18 := rdD 18 hr
   simp only [selOr_on d14, selOr_on d18]
   refine wpOpIn_of rfl rfl ?_
   clear hr hl0
   gi_wp2
   refine ⟨gs, g6, x6, ?_, q1, (by rw [getD_other hlt' (by decide), getD_other hlt' (by decide)]; exact q2), (by rw [getD_other hlt' (by decide)]; exact q3), (by rw [getD_other hlt' (by decide)]; exact q4)⟩
   simp (disch := decide) only [selOr_same hlt', selOr_other hlt', selOr_on d14, selOr_on d18]
  ·have d10 := rdD 10 hr
   have d19 := rdD 19 hr
   simp only [selOr_on d10, selOr_on d19]
   refine wpOpIn_of rfl rfl ?_
   clear hr hl0
   gi_wp2
   refine ⟨gs, g6, x6, ?_, q1, (by rw [getD_other hlt' (by decide), getD_other hlt' (by decide)]; exact q2), (by rw [getD_other hlt' (by decide)]; exact q3), (by rw [getD_other hlt' (by decide)]; exact q4)⟩
   simp (disch := decide) only [selOr_same hlt', selOr_other hlt', selOr_on d10, selOr_on d19]
  ·have d20 := rdD 20 hr
   simp only [selOr_on d20]
   refine wpOpIn_of rfl rfl ?_
   gi_wp2
   have hq : Below V'.heap.size V' (V'.alloc (.cells #[.int .i64 dx, .int .i64 dy, .int .i64 0] 75 (0, 0))) := (Below.refl _ _).alloc (Nat.le_refl _) _
   refine ⟨V'.heap.size, g6, x6, ?_, q1.trans (hq.mono q1.size), fun _ _ => blk_new _ _, fun h => ?_, (by rw [getD_other hlt' (by decide)]; exact q4)⟩
   ·have n22 : listed.getD 22 false = false := by
     cases z : listed.getD 22 false
     ·rfl
     ·have := hc 22 _ rfl z { on := 21, ground := .data } (by simp) rfl
      rw [hl0] at this; cases this
    simp (disch := decide) only [selOr_same hlt', selOr_other hlt', selOr_on d20]
   ·rw [getD_other hlt' (by decide)] at h; exact ⟨(q3 h).1, keep_below hq (blk_lt (q3 h).2) (q3 h).2⟩
  ·have d0 := rdD 0 hr
   have d1 := rdD 1 hr
   have d21 := rdD 21 hr
   simp only [selOr_on d0, selOr_on d1, selOr_on d21]
   refine wpOpIn_of rfl rfl ?_
   gi_wp2
   refine ⟨trivial, rfl, (HTRY.out gs V' hwV (q2 d21 hl0)).mono ?_⟩
   rintro e V5 ⟨rfl, hb5⟩
   gi_wp2
   refine ⟨gs, g6, x6, ?_, q1.trans (hb5.mono q1.size), fun _ h => (by rw [getD_same hlt'] at h; cases h), fun h => ?_, (by rw [getD_other hlt' (by decide)]; exact q4)⟩
   ·simp (disch := decide) only [selOr_same hlt', selOr_other hlt', selOr_on d0, selOr_on d1, selOr_on d21]
   ·rw [getD_other hlt' (by decide)] at h; exact ⟨(q3 h).1, keep_below hb5 (blk_lt (q3 h).2) (q3 h).2⟩
  ·have d22 := rdD 22 hr
   simp only [selOr_on d22]
   refine wpOpIn_of rfl rfl ?_
   clear hr hl0
   gi_wp2
   refine ⟨gs, g6, x6, ?_, q1, (by rw [getD_other hlt' (by decide), getD_other hlt' (by decide)]; exact q2), (by rw [getD_other hlt' (by decide)]; exact q3), (by rw [getD_other hlt' (by decide)]; exact q4)⟩
   simp (disch := decide) only [selOr_same hlt', selOr_other hlt', selOr_on d22]
  ·have d23 := rdD 23 hr
   simp only [selOr_on d23]
   refine wpOpIn_of rfl rfl ?_
   clear hr hl0
   gi_wp2
   refine ⟨gs, g6, x6, ?_, q1, (by rw [getD_other hlt' (by decide), getD_other hlt' (by decide)]; exact q2), (by rw [getD_other hlt' (by decide)]; exact q3), (by rw [getD_other hlt' (by decide)]; exact q4)⟩
   simp (disch := decide) only [selOr_same hlt', selOr_other hlt', selOr_on d23]
  ·have d23 := rdD 23 hr
   simp only [selOr_on d23]
   refine wpOpIn_of rfl rfl ?_
   clear hr hl0
   gi_wp2
   refine ⟨gs, g6, x6, ?_, q1, (by rw [getD_other hlt' (by decide), getD_other hlt' (by decide)]; exact q2), (by rw [getD_other hlt' (by decide)]; exact q3), (by rw [getD_other hlt' (by decide)]; exact q4)⟩
   simp (disch := decide) only [selOr_same hlt', selOr_other hlt', selOr_on d23]
  ·skip
   refine wpOpIn_of rfl rfl ?_
   gi_wp2
   have hq : Below V'.heap.size V' (V'.alloc (.cells (lineC z75) 75 (0, 0))) := (Below.refl _ _).alloc (Nat.le_refl _) _
   have n27 : listed.getD 27 false = false := by
    cases z : listed.getD 27 false
    ·rfl
    ·have := hc 27 _ rfl z { on := 26, ground := .data } (by simp) rfl
     rw [hl0] at this; cases this
   refine ⟨gs, V'.heap.size, z75, ?_, q1.trans (hq.mono q1.size), fun h21 h22 => ?_, fun _ => ⟨q1.size, blk_new _ _⟩, fun h => (by rw [getD_other hlt' (by decide), n27] at h; cases h)⟩
   ·simp (disch := decide) only [selOr_same hlt', selOr_other hlt']
   ·rw [getD_other hlt' (by decide)] at h21 h22; exact keep_below hq (blk_lt (q2 h21 h22)) (q2 h21 h22)
  ·have d26 := rdD 26 hr
   have d24 := rdD 24 hr
   simp only [selOr_on d26, selOr_on d24]
   refine wpOpIn_of rfl rfl ?_
   have d22 : listed.getD 22 false = true := hc 23 _ rfl (hc 24 _ rfl d24 { on := 23, ground := .data } (by simp) rfl) { on := 22, ground := .data } (by simp) rfl
   have k6 := q3 d26
   have hp1 := put3_blk (⟨r1, r2, r3⟩ : S75) k6.2
   have hp2 := put3_below (V := V') (x := (⟨r1, r2, r3⟩ : S75)) k6.1
   unfold put3 at hp1 hp2
   dsimp only at hp1 hp2
   obtain ⟨⟨o0, o1, o2⟩, f0, f1, f2⟩ := line_cells k6.2
   clear hr hl0
   gi_wp2
   refine ⟨gs, g6, ⟨r1, r2, r3⟩, ?_, q1.trans hp2, fun _ h => (by rw [getD_other hlt' (by decide), d22] at h; cases h), fun _ => ⟨k6.1, hp1⟩, fun _ => rfl⟩
   simp (disch := decide) only [selOr_same hlt', selOr_other hlt', selOr_on d26, selOr_on d24]
  ·have d25 := rdD 25 hr
   simp only [selOr_on d25]
   refine wpOpIn_of rfl rfl ?_
   clear hr hl0
   gi_wp2
   refine ⟨gs, g6, x6, ?_, q1, (by rw [getD_other hlt' (by decide), getD_other hlt' (by decide)]; exact q2), (by rw [getD_other hlt' (by decide)]; exact q3), (by rw [getD_other hlt' (by decide)]; exact q4)⟩
   simp (disch := decide) only [selOr_same hlt', selOr_other hlt', selOr_on d25]
 case finq =>
  rintro listed a V' hs ⟨gs, g6, x6, rfl, q1, q2, q3, q4⟩ hr
  have all : ∀ j, j < 29 → listed.getD j false = true := fun j hj => by
   cases q : listed.getD j false
   ·exact absurd hr (ready_ne hs (by kernel_rfl) j (by simpa using hj) q)
   ·rfl
  simp only [selOr_on (all 0 (by decide)), selOr_on (all 1 (by decide)), selOr_on (all 2 (by decide)), selOr_on (all 3 (by decide)), selOr_on (all 4 (by decide)), selOr_on (all 5 (by decide)), selOr_on (all 6 (by decide)), selOr_on (all 7 (by decide)), selOr_on (all 8 (by decide)), selOr_on (all 9 (by decide)), selOr_on (all 10 (by decide)), selOr_on (all 11 (by decide)), selOr_on (all 12 (by decide)), selOr_on (all 13 (by decide)), selOr_on (all 14 (by decide)), selOr_on (all 15 (by decide)), selOr_on (all 16 (by decide)), selOr_on (all 17 (by decide)), selOr_on (all 18 (by decide)), selOr_on (all 19 (by decide)), selOr_on (all 20 (by decide)), selOr_on (all 21 (by decide)), selOr_on (all 22 (by decide)), selOr_on (all 23 (by decide)), selOr_on (all 24 (by decide)), selOr_on (all 25 (by decide)), selOr_on (all 26 (by decide)), selOr_on (all 28 (by decide))]
  clear hr hs
  have k6 := q3 (all 26 (by decide))
  obtain rfl := q4 (all 27 (by decide))
  clear all q2 q3 q4 ca0 cb0 xa0 xa1 xb0 xb1 w1 w2 hW1 g1 g2 g3 g4
  have J2 := J1A.out.step q1 (Nat.le_refl _)
  obtain ⟨o, ho⟩ : ∃ o, tryO l0 l1 [⟨dx, dy, 0⟩] = o := ⟨_, rfl⟩
  have hr := HR.out
  rw [ho] at hr
  cases o with
  | some x =>
   simp only [lineR, Prod.mk.injEq] at hr
   obtain ⟨rfl, rfl, rfl, rfl⟩ := hr
   have HRES : Aside0 (lineR (tryO l0 l1 (partL l0 l1)) = (x.f0, x.f1, x.f2, true)) := ⟨by
    rw [HPL.out, show (⟨dx, dy, 0⟩ : S75) :: (dirs l0 ++ dirs l1) = [⟨dx, dy, 0⟩] ++ (dirs l0 ++ dirs l1) from rfl, tryO_append, ho]; rfl⟩
   obtain ⟨⟨y0, y1, y2⟩, _⟩ := line_cells k6.2
   obtain ⟨⟨o0, o1, o2⟩, f0, f1, f2⟩ := line_cells J2.hl
   have fb := blk_frozen J2.hf 0
   have cb : V'.cell? ⟨B + 1 + 1 + 1, 0, none⟩ = some (.bool false) := (blk_cell J2.hf 0).trans rfl
   have HP := Aside0.mk (part_store x.f0 x.f1 x.f2 true J2)
   clear ho J2 k6 q1
   gi_wp2
   have HE := HP.out.1
   refine leaves_coll (B := B + 4) _ _ _ HE.coll fun W' hW' => ?_
   have hEs := HE.size
   refine ⟨_, results_lb rfl _ _ (B + 1 + 1) (lineC ⟨x.f0, x.f1, x.f2⟩) (B + 1 + 1 + 1) (.bool true) rfl rfl ((hW'.block _ (by omega)).trans HE.hl) ((blk_cell ((hW'.block _ (by omega)).trans HE.hf) 0).trans rfl) rfl, ?_⟩
   exact ⟨by rw [HRES.out]; rfl, HBe.out ▸ HE.below.trans (hW'.mono (by omega))⟩
  | none =>
   simp only [lineR, Prod.mk.injEq] at hr
   obtain ⟨rfl, rfl, rfl, rfl⟩ := hr
   have HO := Aside0.mk ho
   have ca0 : V'.cell? ⟨B, 0, none⟩ = some (.slice (some aa) na ca) := (blk_cell J2.ha 0).trans rfl
   have cb0 : V'.cell? ⟨B + 1, 0, none⟩ = some (.slice (some ab) nb cb) := (blk_cell J2.hb 0).trans rfl
   have HJ := Aside0.mk J2
   clear ho k6 J2 q1
   gi_wp2
   refine wpIn_loop (fun a W => ∃ (k : Nat) (ds : List Deferred) (u9 u48 u49 u50 u51 u89 : Value), a = { tmps := (.slice (some aa) na ca :: .slice (some ab) nb cb :: .pointer (some ⟨B, 0, none⟩) :: .pointer (some ⟨B + 1, 0, none⟩) :: .pointer (some ⟨B + 1 + 1, 0, none⟩) :: .pointer (some ⟨B + 1 + 1 + 1, 0, none⟩) :: .pointer (some ⟨g6, 0, none⟩) :: .bool false :: undef :: u9 :: undef :: undef :: undef :: undef :: undef :: undef :: .tuple #[.agg #[.int .i64 0, .int .i64 0, .int .i64 0], .bool false] :: .slice (some aa) na ca :: .slice (some ab) nb cb :: .slice (some ab) nb cb :: .pointer (some ab) :: .pointer (some ab) :: .int .i64 b0.f0 :: .slice (some aa) na ca :: .pointer (some aa) :: .pointer (some aa) :: .int .i64 a0.f0 :: .int .i64 dx :: .slice (some ab) nb cb :: .pointer (some ab) :: .pointer (some ⟨ab.block, ab.off + 1, none⟩) :: .int .i64 b0.f1 :: .slice (some aa) na ca :: .pointer (some aa) :: .pointer (some ⟨aa.block, aa.off + 1, none⟩) :: .int .i64 a0.f1 :: .int .i64 dy :: .agg #[.int .i64 dx, .int .i64 dy, .int .i64 0] :: .slice (some ⟨gs, 0, none⟩) 1 1 :: .tuple #[.agg #[.int .i64 0, .int .i64 0, .int .i64 0], .bool false] :: .agg #[.int .i64 0, .int .i64 0, .int .i64 0] :: .bool false :: .bool false :: undef :: .slice (some aa) na ca :: .slice (some ab) nb cb :: .agg #[.slice (some aa) na ca, .slice (some ab) nb cb] :: .int .i64 (k : Int) :: u48 :: u49 :: u50 :: u51 :: undef :: undef :: undef :: undef :: undef :: undef :: undef :: undef :: undef :: undef :: undef :: undef :: undef :: undef :: undef :: undef :: undef :: undef :: undef :: undef :: undef :: undef :: undef :: undef :: undef :: undef :: undef :: undef :: undef :: undef :: undef :: undef :: undef :: undef :: undef :: undef :: undef :: u89 :: undef :: []).toArray, defers := ds } ∧ k ≤ 2 ∧ ((1 ≤ k → tryO l0 l1 (dirs l0) = none) ∧ (2 ≤ k → tryO l0 l1 (dirs l1) = none)) ∧ PInv B w (.slice (some aa) na ca) (.slice (some ab) nb cb) W.heap.size ds W)
    (fun a _ => 2 - (intOf (a.tmps.getD 47 undef)).toNat) ⟨0, [], _, _, _, _, _, _, rfl, Nat.zero_le _, ⟨fun h => absurd h (by omega), fun h => absurd h (by omega)⟩, HJ.out.up⟩ ?_
   intro _ W hI
   obtain ⟨k, hI⟩ := hI
   obtain ⟨ds, hI⟩ := hI
   obtain ⟨u9, hI⟩ := hI
   obtain ⟨u48, hI⟩ := hI
   obtain ⟨u49, hI⟩ := hI
   obtain ⟨u50, hI⟩ := hI
   obtain ⟨u51, hI⟩ := hI
   obtain ⟨u89, hI⟩ := hI
   obtain ⟨ha, hk, hnone, I⟩ := hI
   subst ha
   dsimp only
   by_cases hlt : k < 2
   ·obtain ⟨h, ah, nh, chh, hcase⟩ : ∃ (h : List S23) (ah : Addr) (nh chh : Nat), (k = 0 ∧ h = l0 ∧ ah = aa ∧ nh = na ∧ chh = ca) ∨ (k = 1 ∧ h = l1 ∧ ah = ab ∧ nh = nb ∧ chh = cb) := by
     rcases (show k = 0 ∨ k = 1 by omega) with e | e
     ·exact ⟨l0, aa, na, ca, .inl ⟨e, rfl, rfl, rfl, rfl⟩⟩
     ·exact ⟨l1, ab, nb, cb, .inr ⟨e, rfl, rfl, rfl, rfl⟩⟩
    have hidx : ∀ w, (Instr.index 130 (.agg #[.slice (some aa) na ca, .slice (some ab) nb cb]) (.int .i64 (k : Int))).run Try.prog w = .ok (.slice (some ah) nh chh) w := by
     rcases hcase with ⟨rfl, rfl, rfl, rfl, rfl⟩ | ⟨rfl, rfl, rfl, rfl, rfl⟩
     ·intro w; rfl
     ·intro w; rfl
    have hrh : Kd.C k23 w (some ah) h.length h := by
     rcases hcase with ⟨_, rfl, rfl, _, _⟩ | ⟨_, rfl, rfl, _, _⟩
     ·exact HRA.out
     ·exact HRB.out
    have hnh : h.length = nh := by
     rcases hcase with ⟨_, rfl, _, rfl, _⟩ | ⟨_, rfl, _, rfl, _⟩
     ·exact HNA.out
     ·exact HNB.out
    have HCS := Aside0.mk hcase
    have HN := Aside0.mk hnone
    have HRH := Aside0.mk hrh
    have HNH := Aside0.mk hnh
    have HIV := Aside0.mk I
    clear hcase hnone hrh hnh I
    gi_wp2
    refine ⟨trivial, rfl, (sides_make _ _ _ _).mono ?_⟩
    rintro e W2 ⟨rfl, hW2⟩
    have hb2 : Below W.heap.size W W2 := by rw [hW2]; exact (Below.refl _ _).alloc (Nat.le_refl _) _
    have p1 : W2.heap[W.heap.size]? = some (.cells #[.slice (some ah) nh chh] 53 (0, 0)) := by rw [hW2]; exact blk_new _ _
    have s2 : W2.heap.size = W.heap.size + 1 := by rw [hW2]; simp
    have I2 := HIV.out.step hb2 (Nat.le_refl _)
    have I3 : PInv B w (.slice (some aa) na ca) (.slice (some ab) nb cb) W2.heap.size ds W2 := ⟨I2.below, ⟨by have := I2.size; omega, Nat.le_refl _⟩, I2.ha, I2.hb, I2.hl, I2.hf, I2.coll.mono (by omega)⟩
    have hseq := sides_seq W.heap.size chh (some ah) h W2 (by rw [HNH.out]; exact p1) (Kd.C_below HRH.out (HBe.out ▸ I2.below))
    have HSQ := Aside0.mk hseq
    have HI3 := Aside0.mk I3
    have HS2 := Aside0.mk s2
    clear hb2 p1 I2 I3 hseq hW2 s2
    gi_wp2
    refine wpIn_rangeFunc_S (gf := 120) (lb := #[.pointer (some ⟨W.heap.size, 0, none⟩)]) rfl (enters_of Try.func120 (by kernel_rfl) rfl) (encs := ptV2) (L := sideL h) (w0 := W2) HSQ.out (Below.refl _ _) (fun _ => rfl)
     (fun pre V => PInv B w (.slice (some aa) na ca) (.slice (some ab) nb cb) W2.heap.size ds V ∧ tryO l0 l1 (pre.flatMap dir4) = none)
     (fun pre V => ∃ x, tryO l0 l1 (dirs h) = some x ∧ PEnd B w W2.heap.size ds x true V)
     ?hI ?hIx ?hIp ?hIxp ⟨HI3.out, rfl⟩
     (fun x a' V => ∃ Bp Bq, W2.heap.size + 2 ≤ Bp ∧ W2.heap.size + 2 ≤ Bq ∧ V.heap[Bp]? = some (.cells #[.int .i64 x.1.f0, .int .i64 x.1.f1] 23 (0, 0)) ∧ V.heap[Bq]? = some (.cells #[.int .i64 x.2.f0, .int .i64 x.2.f1] 23 (0, 0)) ∧ a' = { tmps := (.slice (some aa) na ca :: .slice (some ab) nb cb :: .pointer (some ⟨B, 0, none⟩) :: .pointer (some ⟨B + 1, 0, none⟩) :: .pointer (some ⟨B + 1 + 1, 0, none⟩) :: .pointer (some ⟨B + 1 + 1 + 1, 0, none⟩) :: .pointer (some ⟨g6, 0, none⟩) :: .bool false :: undef :: .slice (some ah) nh chh :: .pointer (some ⟨Bp, 0, none⟩) :: .pointer (some ⟨Bq, 0, none⟩) :: undef :: undef :: undef :: undef :: .tuple #[.agg #[.int .i64 0, .int .i64 0, .int .i64 0], .bool false] :: .slice (some aa) na ca :: .slice (some ab) nb cb :: .slice (some ab) nb cb :: .pointer (some ab) :: .pointer (some ab) :: .int .i64 b0.f0 :: .slice (some aa) na ca :: .pointer (some aa) :: .pointer (some aa) :: .int .i64 a0.f0 :: .int .i64 dx :: .slice (some ab) nb cb :: .pointer (some ab) :: .pointer (some ⟨ab.block, ab.off + 1, none⟩) :: .int .i64 b0.f1 :: .slice (some aa) na ca :: .pointer (some aa) :: .pointer (some ⟨aa.block, aa.off + 1, none⟩) :: .int .i64 a0.f1 :: .int .i64 dy :: .agg #[.int .i64 dx, .int .i64 dy, .int .i64 0] :: .slice (some ⟨gs, 0, none⟩) 1 1 :: .tuple #[.agg #[.int .i64 0, .int .i64 0, .int .i64 0], .bool false] :: .agg #[.int .i64 0, .int .i64 0, .int .i64 0] :: .bool false :: .bool false :: undef :: .slice (some aa) na ca :: .slice (some ab) nb cb :: .agg #[.slice (some aa) na ca, .slice (some ab) nb cb] :: .int .i64 (k : Int) :: .bool true :: .slice (some ah) nh chh :: .slice (some ah) nh chh :: .func (.func 120) #[] #[.pointer (some ⟨W.heap.size, 0, none⟩)] :: .agg #[.int .i64 x.1.f0, .int .i64 x.1.f1] :: .agg #[.int .i64 x.2.f0, .int .i64 x.2.f1] :: undef :: undef :: undef :: undef :: undef :: undef :: undef :: undef :: undef :: undef :: undef :: undef :: undef :: undef :: undef :: undef :: undef :: undef :: undef :: undef :: undef :: undef :: undef :: undef :: undef :: undef :: undef :: undef :: undef :: undef :: undef :: undef :: undef :: undef :: undef :: u89 :: undef :: []).toArray, defers := [] })
     ?hAx ?assign ?body ?done ?stop
    case hI =>
     rintro s A V ⟨g1, g2⟩ hb
     exact ⟨g1.step hb g1.size.2, g2⟩
    case hIx =>
     rintro s A V ⟨x, g1, g2⟩ hb
     exact ⟨x, g1, g2.step hb g2.size.2⟩
    case hIp =>
     rintro s V o r ⟨g1, g2⟩ hr
     exact ⟨g1.step (below_putObj (B := W2.heap.size) V o (by omega)) (Nat.le_refl _), g2⟩
    case hIxp =>
     rintro s V o r ⟨x, g1, g2⟩ hr
     exact ⟨x, g1, g2.step (below_putObj (B := W2.heap.size) V o (by omega)) (Nat.le_refl _)⟩
    case hAx =>
     rintro x a' V r o ⟨Bp, Bq, h1, h2, h3, h4, rfl⟩ hr
     exact ⟨Bp, Bq, h1, h2, (World.putObj_heap_other (by omega)).trans h3, (World.putObj_heap_other (by omega)).trans h4, rfl⟩
    case assign =>
     rintro l' pre x V K ⟨g1, g2⟩ hpre hz hK
     dsimp only [ptV2]
     gi_wp2
     refine hK _ _ (((Below.refl _ _).alloc (Nat.le_refl _) _).alloc (by simp) _) ⟨V.heap.size, V.heap.size + 1, hz, by omega, blk_alloc (blk_new _ _) _, ?_, rfl⟩
     have := blk_new (V.alloc (.cells #[.int .i64 x.1.f0, .int .i64 x.1.f1] 23 (0, 0))) (.cells #[.int .i64 x.2.f0, .int .i64 x.2.f1] 23 (0, 0))
     rwa [World.size_alloc] at this
    case body =>
     rintro l' pre ⟨p, q⟩ a' V ⟨g1, g2⟩ hpre hz ⟨Bp, Bq, hBp, hBq, hp, hq, rfl⟩
     dsimp only at hp hq ⊢
     obtain ⟨x, hx⟩ : ∃ d, wrap64 (q.f0 - p.f0) = d := ⟨_, rfl⟩
     obtain ⟨y, hy⟩ : ∃ d, wrap64 (q.f1 - p.f1) = d := ⟨_, rfl⟩
     obtain ⟨nx, hnx⟩ : ∃ d, wrap64 (-x) = d := ⟨_, rfl⟩
     obtain ⟨ny, hny⟩ : ∃ d, wrap64 (-y) = d := ⟨_, rfl⟩
     have HD4 : Aside0 (dir4 (p, q) = [⟨y, nx, 0⟩, ⟨ny, x, 0⟩, ⟨x, y, 0⟩, ⟨nx, ny, 0⟩]) := ⟨by unfold dir4; simp only [hx, hy, hnx, hny]⟩
     have w1 : IntKind.i64.wrap (q.f0 - p.f0) = x := by rw [i64_w]; exact hx
     have w2 : IntKind.i64.wrap (q.f1 - p.f1) = y := by rw [i64_w]; exact hy
     have w3 : IntKind.i64.wrap (-x) = nx := by rw [i64_w]; exact hnx
     have w4 : IntKind.i64.wrap (-y) = ny := by rw [i64_w]; exact hny
     have p0 : V.cell? ⟨Bp, 0, none⟩ = some (.int .i64 p.f0) := (blk_cell hp 0).trans rfl
     have p1 : V.cell? ⟨Bp, 1, none⟩ = some (.int .i64 p.f1) := (blk_cell hp 1).trans rfl
     have y0 : V.cell? ⟨Bq, 0, none⟩ = some (.int .i64 q.f0) := (blk_cell hq 0).trans rfl
     have y1 : V.cell? ⟨Bq, 1, none⟩ = some (.int .i64 q.f1) := (blk_cell hq 1).trans rfl
     have KP := Aside0.mk (blk_lt hp)
     have KQ := Aside0.mk (blk_lt hq)
     have G1 := Aside0.mk g1
     have G2 := Aside0.mk g2
     have HPR := Aside0.mk hpre
     clear hp hq g1 g2 hpre hx hy hidx
     gi_wp2
     refine wpIn_region_any (by kernel_rfl) ?_
     change wpAnyIn _ _ _ _ _ _ _ _ _ (World.drew V)
     refine wpAnyIn_inv (fun listed a V' => a = { tmps := (.slice (some aa) na ca :: .slice (some ab) nb cb :: .pointer (some ⟨B, 0, none⟩) :: .pointer (some ⟨B + 1, 0, none⟩) :: .pointer (some ⟨B + 1 + 1, 0, none⟩) :: .pointer (some ⟨B + 1 + 1 + 1, 0, none⟩) :: .pointer (some ⟨g6, 0, none⟩) :: .bool false :: undef :: .slice (some ah) nh chh :: .pointer (some ⟨Bp, 0, none⟩) :: .pointer (some ⟨Bq, 0, none⟩) :: selOr listed 10 (.int .i64 x) undef :: selOr listed 11 (.int .i64 y) undef :: undef :: undef :: .tuple #[.agg #[.int .i64 0, .int .i64 0, .int .i64 0], .bool false] :: .slice (some aa) na ca :: .slice (some ab) nb cb :: .slice (some ab) nb cb :: .pointer (some ab) :: .pointer (some ab) :: .int .i64 b0.f0 :: .slice (some aa) na ca :: .pointer (some aa) :: .pointer (some aa) :: .int .i64 a0.f0 :: .int .i64 dx :: .slice (some ab) nb cb :: .pointer (some ab) :: .pointer (some ⟨ab.block, ab.off + 1, none⟩) :: .int .i64 b0.f1 :: .slice (some aa) na ca :: .pointer (some aa) :: .pointer (some ⟨aa.block, aa.off + 1, none⟩) :: .int .i64 a0.f1 :: .int .i64 dy :: .agg #[.int .i64 dx, .int .i64 dy, .int .i64 0] :: .slice (some ⟨gs, 0, none⟩) 1 1 :: .tuple #[.agg #[.int .i64 0, .int .i64 0, .int .i64 0], .bool false] :: .agg #[.int .i64 0, .int .i64 0, .int .i64 0] :: .bool false :: .bool false :: undef :: .slice (some aa) na ca :: .slice (some ab) nb cb :: .agg #[.slice (some aa) na ca, .slice (some ab) nb cb] :: .int .i64 (k : Int) :: .bool true :: .slice (some ah) nh chh :: .slice (some ah) nh chh :: .func (.func 120) #[] #[.pointer (some ⟨W.heap.size, 0, none⟩)] :: .agg #[.int .i64 p.f0, .int .i64 p.f1] :: .agg #[.int .i64 q.f0, .int .i64 q.f1] :: selOr listed 0 (.pointer (some ⟨Bq, 0, none⟩)) undef :: selOr listed 1 (.int .i64 q.f0) undef :: selOr listed 2 (.pointer (some ⟨Bp, 0, none⟩)) undef :: selOr listed 3 (.int .i64 p.f0) undef :: selOr listed 4 (.int .i64 x) undef :: selOr listed 5 (.pointer (some ⟨Bq, 1, none⟩)) undef :: selOr listed 6 (.int .i64 q.f1) undef :: selOr listed 7 (.pointer (some ⟨Bp, 1, none⟩)) undef :: selOr listed 8 (.int .i64 p.f1) undef :: selOr listed 9 (.int .i64 y) undef :: undef :: undef :: undef :: undef :: undef :: undef :: undef :: undef :: undef :: undef :: undef :: undef :: undef :: undef :: undef :: undef :: undef :: undef :: undef :: undef :: undef :: undef :: undef :: undef :: undef :: u89 :: undef :: []).toArray, defers := [] } ∧ Below V.heap.size V V') 19 ?stepq ?stopq ?finq 12 _ _ _ (by simp) (closed_none _) ⟨by simp [selOr], (Below.refl _ _).drew⟩ (by simp)
     case stopq =>
      intro listed a V' fuel hs hc hi hr
      have := (ready_lt hr).1
      simp at hs
      omega
     case stepq =>
      rintro listed a V' i hs hc ⟨rfl, q1⟩ hr hne K hK
      obtain ⟨hlt', hl0⟩ := ready_lt hr
      have cp0 := (q1.cell (p := ⟨Bp, 0, none⟩) KP.out).trans p0
      have cp1 := (q1.cell (p := ⟨Bp, 1, none⟩) KP.out).trans p1
      have cy0 := (q1.cell (p := ⟨Bq, 0, none⟩) KQ.out).trans y0
      have cy1 := (q1.cell (p := ⟨Bq, 1, none⟩) KQ.out).trans y1
      clear p0 p1 y0 y1
      have hi : i = 0 ∨ i = 1 ∨ i = 2 ∨ i = 3 ∨ i = 4 ∨ i = 5 ∨ i = 6 ∨ i = 7 ∨ i = 8 ∨ i = 9 ∨ i = 10 ∨ i = 11 := by simp at hs; omega
      rcases hi with rfl | rfl | rfl | rfl | rfl | rfl | rfl | rfl | rfl | rfl | rfl | rfl
      ·skip
       refine wpOpIn_of rfl rfl ?_
       clear hr hl0
       gi_wp2
       refine ⟨?_, q1⟩
       simp (disch := decide) only [selOr_same hlt', selOr_other hlt']
      ·have d0 := rdD 0 hr
       simp only [selOr_on d0]
       refine wpOpIn_of rfl rfl ?_
       clear hr hl0
       gi_wp2
       refine ⟨?_, q1⟩
       simp (disch := decide) only [selOr_same hlt', selOr_other hlt', selOr_on d0]
      ·skip
       refine wpOpIn_of rfl rfl ?_
       clear hr hl0
       gi_wp2
       refine ⟨?_, q1⟩
       simp (disch := decide) only [selOr_same hlt', selOr_other hlt']
      ·have d2 := rdD 2 hr
       simp only [selOr_on d2]
       refine wpOpIn_of rfl rfl ?_
       clear hr hl0
       gi_wp2
       refine ⟨?_, q1⟩
       simp (disch := decide) only [selOr_same hlt', selOr_other hlt', selOr_on d2]
      ·have d1 := rdD 1 hr
       have d3 := rdD 3 hr
       simp only [selOr_on d1, selOr_on d3]
       refine wpOpIn_of rfl rfl ?_
       clear hr hl0
       gi_wp2
       refine ⟨?_, q1⟩
       simp (disch := decide) only [selOr_same hlt', selOr_other hlt', selOr_on d1, selOr_on d3]
      ·skip
       refine wpOpIn_of rfl rfl ?_
       clear hr hl0
       gi_wp2
       refine ⟨?_, q1⟩
       simp (disch := decide) only [selOr_same hlt', selOr_other hlt']
      ·have d5 := rdD 5 hr
       simp only [selOr_on d5]
       refine wpOpIn_of rfl rfl ?_
       clear hr hl0
       gi_wp2
       refine ⟨?_, q1⟩
       simp (disch := decide) only [selOr_same hlt', selOr_other hlt', selOr_on d5]
      ·skip
       refine wpOpIn_of rfl rfl ?_
       clear hr hl0
       gi_wp2
       refine ⟨?_, q1⟩
       simp (disch := decide) only [selOr_same hlt', selOr_other hlt']
      ·have d7 := rdD 7 hr
       simp only [selOr_on d7]
       refine wpOpIn_of rfl rfl ?_
       clear hr hl0
       gi_wp2
       refine ⟨?_, q1⟩
       simp (disch := decide) only [selOr_same hlt', selOr_other hlt', selOr_on d7]
      ·have d6 := rdD 6 hr
       have d8 := rdD 8 hr
       simp only [selOr_on d6, selOr_on d8]
       refine wpOpIn_of rfl rfl ?_
       clear hr hl0
       gi_wp2
       refine ⟨?_, q1⟩
       simp (disch := decide) only [selOr_same hlt', selOr_other hlt', selOr_on d6, selOr_on d8]
      ·have d4 := rdD 4 hr
       simp only [selOr_on d4]
       refine wpOpIn_of rfl rfl ?_
       clear hr hl0
       gi_wp2
       refine ⟨?_, q1⟩
       simp (disch := decide) only [selOr_same hlt', selOr_other hlt', selOr_on d4]
      ·have d9 := rdD 9 hr
       simp only [selOr_on d9]
       refine wpOpIn_of rfl rfl ?_
       clear hr hl0
       gi_wp2
       refine ⟨?_, q1⟩
       simp (disch := decide) only [selOr_same hlt', selOr_other hlt', selOr_on d9]
     case finq =>
      rintro listed a V' hs ⟨rfl, q1⟩ hr
      have all : ∀ j, j < 12 → listed.getD j false = true := fun j hj => by
       cases q : listed.getD j false
       ·exact absurd hr (ready_ne hs (by kernel_rfl) j (by simpa using hj) q)
       ·rfl
      simp only [selOr_on (all 0 (by decide)), selOr_on (all 1 (by decide)), selOr_on (all 2 (by decide)), selOr_on (all 3 (by decide)), selOr_on (all 4 (by decide)), selOr_on (all 5 (by decide)), selOr_on (all 6 (by decide)), selOr_on (all 7 (by decide)), selOr_on (all 8 (by decide)), selOr_on (all 9 (by decide)), selOr_on (all 10 (by decide)), selOr_on (all 11 (by decide))]
      clear hr hs
      have J2 := G1.out.step q1 G1.out.size.2
      have ca0 : V'.cell? ⟨B, 0, none⟩ = some (.slice (some aa) na ca) := (blk_cell J2.ha 0).trans rfl
      have cb0 : V'.cell? ⟨B + 1, 0, none⟩ = some (.slice (some ab) nb cb) := (blk_cell J2.hb 0).trans rfl
      obtain ⟨o, ho⟩ : ∃ o, tryO l0 l1 [⟨y, nx, 0⟩, ⟨ny, x, 0⟩, ⟨x, y, 0⟩, ⟨nx, ny, 0⟩] = o := ⟨_, rfl⟩
      have hpre2 : tryO l0 l1 ((pre ++ [(p, q)]).flatMap dir4) = o := by
       rw [List.flatMap_append, tryO_append, G2.out, List.flatMap_singleton, HD4.out, ho]; rfl
      have hba : Below V'.heap.size V' (V'.alloc (.cells #[.int .i64 y, .int .i64 nx, .int .i64 0, .int .i64 ny, .int .i64 x, .int .i64 0, .int .i64 x, .int .i64 y, .int .i64 0, .int .i64 nx, .int .i64 ny, .int .i64 0] 75 (0, 0))) := (Below.refl _ _).alloc (Nat.le_refl _) _
      have hbw : Below w.heap.size w (V'.alloc (.cells #[.int .i64 y, .int .i64 nx, .int .i64 0, .int .i64 ny, .int .i64 x, .int .i64 0, .int .i64 x, .int .i64 y, .int .i64 0, .int .i64 nx, .int .i64 ny, .int .i64 0] 75 (0, 0))) := (HBe.out ▸ J2.below : Below w.heap.size w V').trans (hba.mono (by have := J2.below.size; omega))
      have J3 := J2.step hba J2.size.2
      have hVb : Below V.heap.size V (V'.alloc (.cells #[.int .i64 y, .int .i64 nx, .int .i64 0, .int .i64 ny, .int .i64 x, .int .i64 0, .int .i64 x, .int .i64 y, .int .i64 0, .int .i64 nx, .int .i64 ny, .int .i64 0] 75 (0, 0))) := q1.trans (hba.mono q1.size)
      have HCALL := Aside0.mk (HTR.out [⟨y, nx, 0⟩, ⟨ny, x, 0⟩, ⟨x, y, 0⟩, ⟨nx, ny, 0⟩] V'.heap.size 4 (V'.alloc (.cells #[.int .i64 y, .int .i64 nx, .int .i64 0, .int .i64 ny, .int .i64 x, .int .i64 0, .int .i64 x, .int .i64 y, .int .i64 0, .int .i64 nx, .int .i64 ny, .int .i64 0] 75 (0, 0))) (lineR o).1 (lineR o).2.1 (lineR o).2.2.1 (lineR o).2.2.2 hbw (by simp) rfl (line4_C ⟨y, nx, 0⟩ ⟨ny, x, 0⟩ ⟨x, y, 0⟩ ⟨nx, ny, 0⟩ (blk_new _ _)) (by rw [ho]))
      have HP2 := Aside0.mk hpre2
      have HJ3 := Aside0.mk J3
      have HVB := Aside0.mk hVb
      clear ho hpre2 hba hbw J2 J3 hVb all q1 w1 w2
      cases o with
      | some z =>
       have hful : tryO l0 l1 (dirs h) = some z := by
        obtain ⟨tl, htl⟩ := HPR.out
        unfold dirs
        rw [← htl, List.flatMap_append, tryO_append, HP2.out]; rfl
       have HFU := Aside0.mk hful
       clear hful
       gi_wp2
       refine ⟨trivial, rfl, (CallsIn.inRound l' HCALL.out).mono ?_⟩
       rintro e V5 ⟨rfl, hb5⟩
       dsimp only [lineR]
       have hb6 : Below V5.heap.size V5 (V5.alloc (.cells #[.int .i64 z.f0, .int .i64 z.f1, .int .i64 z.f2] 75 (0, 0))) := (Below.refl _ _).alloc (Nat.le_refl _) _
       obtain ⟨V6, hV6⟩ : ∃ V6, V5.alloc (.cells #[.int .i64 z.f0, .int .i64 z.f1, .int .i64 z.f2] 75 (0, 0)) = V6 := ⟨_, rfl⟩
       have kz : V6.heap[V5.heap.size]? = some (.cells (lineC z) 75 (0, 0)) := by rw [← hV6]; exact blk_new _ _
       rw [hV6] at hb6
       have J6 := (HJ3.out.step hb5 HJ3.out.size.2).step hb6 (Nat.le_trans HJ3.out.size.2 hb5.size)
       have HVB6 := Aside0.mk ((HVB.out.trans (hb5.mono HVB.out.size)).trans (hb6.mono (Nat.le_trans HVB.out.size hb5.size)))
       obtain ⟨⟨z0, z1, z2⟩, _⟩ := line_cells kz
       obtain ⟨⟨o0, o1, o2⟩, f0, f1, f2⟩ := line_cells J6.hl
       have fb := blk_frozen J6.hf 0
       have cb : V6.cell? ⟨B + 1 + 1 + 1, 0, none⟩ = some (.bool false) := (blk_cell J6.hf 0).trans rfl
       have HPS := Aside0.mk (part_store z.f0 z.f1 z.f2 true J6)
       have HJ6 := Aside0.mk J6
       clear ca0 cb0 kz hb6 hb5 J6 HCALL
       gi_wp2
       dsimp only [postS]
       refine ⟨(Recs.below HVB6.out hz).trans (HPS.out.2 _ (by have := HI3.out.size; omega)), z, HFU.out, HPS.out.1⟩
      | none =>
       gi_wp2
       refine ⟨trivial, rfl, (CallsIn.inRound l' HCALL.out).mono ?_⟩
       rintro e V5 ⟨rfl, hb5⟩
       dsimp only [lineR]
       have hb6 : Below V5.heap.size V5 (V5.alloc (.cells #[.int .i64 0, .int .i64 0, .int .i64 0] 75 (0, 0))) := (Below.refl _ _).alloc (Nat.le_refl _) _
       have HJ6 := Aside0.mk ((HJ3.out.step hb5 HJ3.out.size.2).step hb6 (Nat.le_trans HJ3.out.size.2 hb5.size))
       have HVB6 := Aside0.mk ((HVB.out.trans (hb5.mono HVB.out.size)).trans (hb6.mono (Nat.le_trans HVB.out.size hb5.size)))
       clear ca0 cb0 hb6 hb5 HCALL
       gi_wp2
       dsimp only [postS]
       exact ⟨HVB6.out.mono (by omega), Recs.below HVB6.out hz, HJ6.out, HP2.out⟩
    case stop =>
     rintro D pre V hD hpre ⟨x, g1, hE⟩ hK
     have hbv : tryO l0 l1 (partL l0 l1) = some x := by
      rw [HPL.out, show (⟨dx, dy, 0⟩ : S75) :: (dirs l0 ++ dirs l1) = [⟨dx, dy, 0⟩] ++ (dirs l0 ++ dirs l1) from rfl, tryO_append, HO.out, tryO_append]
      rcases HCS.out with ⟨_, rfl, _⟩ | ⟨hk1, rfl, _⟩
      ·rw [g1]; rfl
      ·rw [HN.out.1 (by omega), g1]; rfl
     have HRES : Aside0 (lineR (tryO l0 l1 (partL l0 l1)) = (x.f0, x.f1, x.f2, true)) := ⟨by rw [hbv]; rfl⟩
     have HEA := Aside0.mk hE
     have HDK := Aside0.mk hK
     clear hE hbv g1 hK hidx
     gi_wp2
     have hEs := HEA.out.size
     have hs2 := HS2.out
     refine leaves_coll (B := B + 4) _ (D + 1) _ (HEA.out.coll.push (by omega) hD HDK.out) fun W' hW' => ?_
     refine ⟨_, results_lb rfl _ _ (B + 1 + 1) (lineC x) (B + 1 + 1 + 1) (.bool true) rfl rfl ((hW'.block _ (by omega)).trans HEA.out.hl) ((blk_cell ((hW'.block _ (by omega)).trans HEA.out.hf) 0).trans rfl) rfl, ?_⟩
     exact ⟨by rw [HRES.out]; rfl, HBe.out ▸ HEA.out.below.trans (hW'.mono (by omega))⟩
    case done =>
     rintro D V hD ⟨g1, g2⟩ hK
     have hDV : D < V.heap.size := (Array.getElem?_eq_some_iff.1 hK).1
     have J0 : PInv B w (.slice (some aa) na ca) (.slice (some ab) nb cb) (D + 1) ({ target := .collected D, args := #[] } :: ds) V := ⟨g1.below, ⟨by have := g1.size; omega, by omega⟩, g1.ha, g1.hb, g1.hl, g1.hf, g1.coll.push (by have := g1.size; omega) hD hK⟩
     have HJ0 := Aside0.mk J0.up
     have G2 := Aside0.mk g2
     have hk1 : wrap64 ((k : Int) + 1) = ((k + 1 : Nat) : Int) := by unfold wrap64; omega
     clear hK g1 g2 hDV J0 hidx
     gi_wp2
     first | rw [hk1] | skip
     clear hk1
     refine ⟨⟨k + 1, { target := .collected D, args := #[] } :: ds, _, _, _, _, _, _, rfl, by omega, ⟨fun _ => ?_, fun _ => ?_⟩, HJ0.out⟩, by simp [intOf]; omega⟩
     ·rcases HCS.out with ⟨_, e, _⟩ | ⟨hk1, _, _⟩
      ·have := G2.out; rw [e] at this; exact this
      ·exact HN.out.1 (by omega)
     ·rcases HCS.out with ⟨hk1, _, _⟩ | ⟨_, e, _⟩
      ·omega
      ·have := G2.out; rw [e] at this; exact this
   ·have hbv : tryO l0 l1 (partL l0 l1) = none := by
     rw [HPL.out, show (⟨dx, dy, 0⟩ : S75) :: (dirs l0 ++ dirs l1) = [⟨dx, dy, 0⟩] ++ (dirs l0 ++ dirs l1) from rfl, tryO_append, HO.out, tryO_append, hnone.1 (by omega), hnone.2 (by omega)]; rfl
    have HRES : Aside0 (lineR (tryO l0 l1 (partL l0 l1)) = (0, 0, 0, false)) := ⟨by rw [hbv]; rfl⟩
    obtain ⟨⟨o0, o1, o2⟩, f0, f1, f2⟩ := line_cells I.hl
    have fb := blk_frozen I.hf 0
    have cb : W.cell? ⟨B + 1 + 1 + 1, 0, none⟩ = some (.bool false) := (blk_cell I.hf 0).trans rfl
    have HPS := Aside0.mk (part_store 0 0 0 false I)
    clear I hbv
    gi_wp2
    have HE := HPS.out.1
    have hEs := HE.size
    refine leaves_coll (B := B + 4) _ W.heap.size _ HE.coll fun W' hW' => ?_
    refine ⟨_, results_lb rfl _ _ (B + 1 + 1) (lineC ⟨0, 0, 0⟩) (B + 1 + 1 + 1) (.bool false) rfl rfl ((hW'.block _ (by omega)).trans HE.hl) ((blk_cell ((hW'.block _ (by omega)).trans HE.hf) 0).trans rfl) rfl, ?_⟩
    exact ⟨by rw [HRES.out]; rfl, HBe.out ▸ HE.below.trans (hW'.mono (by omega))⟩
theorem some_addr {l : List S23} {A : Option Addr} {w : World} (h : 0 < l.length) (hr : Kd.C k23 w A l.length l) : ∃ ad, A = some ad := by
 obtain ⟨ad, _, e, _⟩ := Kd.C_get hr z23 0 (by omega) (by omega)
 exact ⟨ad, e⟩
theorem plane_part.calls (A0 : Option Addr) (c0 : Nat) (l0 : List (S23)) (A1 : Option Addr) (c1 : Nat) (l1 : List (S23)) (r1 : Int) (r2 : Int) (r3 : Int) (r4 : Bool) (w : World) (hr0 : Kd.C k23 w A0 l0.length l0) (hc0 : l0.length ≤ c0) (hr1 : Kd.C k23 w A1 l1.length l1) (hc1 : l1.length ≤ c1) (h : plane_part.f l0 l1 = some (r1, r2, r3, r4)) :
  Calls Try.prog 106 #[.slice A0 l0.length c0, .slice A1 l1.length c1] w fun e w' => e = .returned (.tuple #[.agg #[.int .i64 r1, .int .i64 r2, .int .i64 r3], .bool r4]) ∧ Below w.heap.size w w' := by
 unfold plane_part.f at h
 split at h
 case isFalse => cases h
 rename_i hg
 obtain ⟨aa, rfl⟩ := some_addr hg.1 hr0
 obtain ⟨ab, rfl⟩ := some_addr hg.2 hr1
 have hc := (callsIn_wide (n := 0)).1 (part_in aa ab c0 c1 l0 l1 w hg.1 hg.2 hr0 hc0 hr1 hc1)
 have he := Option.some.inj h
 rw [he] at hc
 exact hc
end Go.Proofs.Ytegdcnjjelgpjaa.P
namespace Go.Proofs.Ytegdcnjjelgpjaa.P
open Go.RowKit Go.Proofs.YtegdcnjjelgpjaaW.PrintWords Go.Proofs.YtegdcnjjelgpjaaW.PrintLast Go.Proofs.YtegdcnjjelgpjaaW.PrintMore
attribute [local go_sem] max2_int min2_int max_two min_two max_three min_three max_four min_four   -- for this text's walks alone
set_option linter.unusedVariables false
set_option linter.unusedSimpArgs false
def plane_apart.f (l0 : List (S23)) (l1 : List (S23)) : Option (Bool) := (plane_part.f l0 l1).bind fun bt101 => (some bt101.2.2.2)
set_option maxHeartbeats 8000000 in
set_option maxRecDepth 100000 in
theorem plane_apart.calls (A0 : Option Addr) (c0 : Nat) (l0 : List (S23)) (A1 : Option Addr) (c1 : Nat) (l1 : List (S23)) (r : Bool) (w : World) (hr0 : Kd.C k23 w A0 l0.length l0) (hc0 : l0.length ≤ c0) (hr1 : Kd.C k23 w A1 l1.length l1) (hc1 : l1.length ≤ c1) (h : plane_apart.f l0 l1 = some r) :
  Calls Try.prog 95 #[.slice A0 l0.length c0, .slice A1 l1.length c1] w fun e w' => e = .returned (.bool r) ∧ Below w.heap.size w w' := by
 have hu75 := Try.underlying75
 have HR0 := Aside0.mk hr0
 have HC0 := Aside0.mk hc0
 clear hr0 hc0
 have HR1 := Aside0.mk hr1
 have HC1 := Aside0.mk hc1
 clear hr1 hc1
 have HB := Aside0.mk (Below.refl w.heap.size w)
 have H : ((plane_part.f l0 l1).bind fun bt101 => (some bt101.2.2.2)) = some r := h
 clear h
 replace H := Option.bind_eq_some_iff.mp H
 obtain ⟨⟨t101, t102, t103, t104⟩, A30, H⟩ := H
 replace H : (some t104) = some r := H
 have A3 := Aside0.mk A30
 clear A30
 obtain rfl := Option.some.inj H
 go_enter Try.func95, Try.ntmps95
 go_wp2_with (first | ((with_reducible refine gate_callee (f := 106) rfl ?_); refine goesL_ (some 10) rfl rfl Try.func106 (by kernel_rfl) rfl #[.slice A0 l0.length c0, .slice A1 l1.length c1] rfl mB ?_; (with_reducible refine (plane_part.calls _ _ l0 _ _ l1 t101 t102 t103 t104 _ ?side1 ?side2 ?side3 ?side4 A3.out).mono ?_); (case side1 => exact cB1 HR0); (case side2 => exact HC0.out); (case side3 => exact cB1 HR1); (case side4 => exact HC1.out); rintro e w4 ⟨rfl, hb⟩; refine ⟨_, rfl, ?_⟩; replace HB := Aside0.mk (below_step (bB0 HB) hb); (try clear hb); (try clear hb2); (try clear hk); (try clear hi)) | ((with_reducible refine gate_dst (N := 5) rfl ?_); refine boxE (N := 5) (cs := #[.int .i64 0, .int .i64 0, .int .i64 0]) (t := 75) ?_; intro gb105 hg w5 hbox hb; have n0_ := Aside0.mk (below_step (bB0 HB) hb); have BK105 := Aside0.mk (hbox); have GW105 := Aside0.mk (szB hg (below_size (bB0 HB))); have GE105 := GW105; clear HB; have HB := n0_; clear n0_; clear hb hbox hg; have hcz6_0 : w5.cell? ⟨gb105, 0, none⟩ = some (.int .i64 0) := (blk_cell BK105.out 0).trans rfl; have hcz6_1 : w5.cell? ⟨gb105, 1, none⟩ = some (.int .i64 0) := (blk_cell BK105.out 1).trans rfl; have hcz6_2 : w5.cell? ⟨gb105, 2, none⟩ = some (.int .i64 0) := (blk_cell BK105.out 2).trans rfl; have hfz6_0 := blk_frozen BK105.out 0; have hfz6_1 := blk_frozen BK105.out 1; have hfz6_2 := blk_frozen BK105.out 2))
 go_ret
 exact ⟨eB, bB1 HB GE105⟩
def plane_Meet.f (l0 : List (S23)) (l1 : List (S23)) : Option (Bool × Int) := (plane_checkHulls.f (([l0, l1] : List (List (S23))))).bind fun t104 => (if t104 = 0 then ((plane_apart.f l0 l1).bind fun t105 => (some (!t105, 0))) else (some (false, t104)))
set_option maxHeartbeats 8000000 in
set_option maxRecDepth 100000 in
theorem plane_Meet.calls (P0_ : Nat → Prop) (A0 : Option Addr) (c0 : Nat) (l0 : List (S23)) (P1_ : Nat → Prop) (A1 : Option Addr) (c1 : Nat) (l1 : List (S23)) (r1 : Bool) (r2 : Int) (w : World) (hs0 : Kd.V k23 23 w w.heap.size (fun k_ => P0_ k_) (.slice A0 l0.length c0) l0) (hs1 : Kd.V k23 23 w w.heap.size (fun k_ => P1_ k_) (.slice A1 l1.length c1) l1) (h : plane_Meet.f l0 l1 = some (r1, r2)) :
  Calls Try.prog 58 #[.slice A0 l0.length c0, .slice A1 l1.length c1] w fun e w' => e = .returned (.tuple #[.bool r1, .int .i64 r2]) ∧ Below w.heap.size w w' := by
 have HO0 := Aside0.mk (show Kd.V k23 23 w w.heap.size (fun k_ => ((P0_ k_ ∨ P1_ k_) ∨ w.heap.size ≤ k_)) (.slice A0 l0.length c0) l0 from Kd.V_mono hs0 (fun k_ hk => .inl (.inl hk)))
 have HO1 := Aside0.mk (show Kd.V k23 23 w w.heap.size (fun k_ => ((P0_ k_ ∨ P1_ k_) ∨ w.heap.size ≤ k_)) (.slice A1 l1.length c1) l1 from Kd.V_mono hs1 (fun k_ hk => .inl (.inr hk)))
 have HB := Aside0.mk (Below.refl w.heap.size w)
 have H : ((plane_checkHulls.f (([l0, l1] : List (List (S23))))).bind fun t104 => (if t104 = 0 then ((plane_apart.f l0 l1).bind fun t105 => (some (!t105, 0))) else (some (false, t104)))) = some (r1, r2) := h
 clear h
 obtain ⟨y101, hy101⟩ : ∃ y_ : List (List (S23)), y_ = (([l0, l1] : List (List (S23)))) := ⟨_, rfl⟩
 replace H : ((plane_checkHulls.f y101).bind fun t104 => (if t104 = 0 then ((plane_apart.f l0 l1).bind fun t105 => (some (!t105, 0))) else (some (false, t104)))) = some (r1, r2) := by first | (rw [hy101]; with_reducible exact H) | (have H2_ := (Option.bind_some _ _).symm.trans H; rw [hy101]; with_reducible exact H2_) | (have H2_ := (Option.bind_some _ _).symm.trans H; with_reducible exact H2_) | with_reducible exact H | (rw [hy101]; exact H) | exact H
 have Ny101 := Aside0.mk hy101
 clear hy101
 replace H := Option.bind_eq_some_iff.mp H
 obtain ⟨t104, A30, H⟩ := H
 replace H : (if t104 = 0 then ((plane_apart.f l0 l1).bind fun t105 => (some (!t105, 0))) else (some (false, t104))) = some (r1, r2) := H
 have A3 := Aside0.mk A30
 clear A30
 by_cases c4 : t104 = 0
 ·rw [if_pos c4] at H
  have c4b0 : (t104 == 0) = true := beq_iff_eq.mpr c4
  have c4b1 : (t104 != 0) = false := bne_eq_false_iff_eq.mpr c4
  clear c4
  replace H := Option.bind_eq_some_iff.mp H
  obtain ⟨t105, A50, H⟩ := H
  replace H : (some (!t105, 0)) = some (r1, r2) := H
  have A5 := Aside0.mk A50
  clear A50
  simp only [Option.some.injEq, Prod.mk.injEq] at H
  obtain ⟨rfl, rfl⟩ := H
  go_enter Try.func58, Try.ntmps58
  go_wp2_with (first | ((with_reducible refine gate_dst (N := 9) rfl ?_); refine Kd.N_lit (Kd.slice 23 k23) _ 53 ?hg (N' := 9) ?hd (xs := ([l0, l1] : List (List (S23)))) (inner := [.slice A0 l0.length c0, .slice A1 l1.length c1]) (ok := (fun k_ => ((P0_ k_ ∨ P1_ k_) ∨ w.heap.size ≤ k_))) (okp := (fun k_ => ((P0_ k_ ∨ P1_ k_) ∨ w.heap.size ≤ k_))) ?hr ?hp (fun _ hk => hk) ((show ∀ k_, w.heap.size ≤ k_ → (fun k_ => ((P0_ k_ ∨ P1_ k_) ∨ w.heap.size ≤ k_)) k_ from fun k_ hk => (.inr (Nat.le_trans (below_size (bB0 HB)) hk))) _ (Nat.le_refl _)) (Below.refl _ _) (Nat.le_refl _) (by simp) ?_; (case hd => rfl); (case hg => rfl); (case hr => first | (go_simp; done) | (go_simp; rfl)); (case hp => exact (Reps.one (show Kd.FK (Kd.slice 23 k23) _ _ l0 [.slice A0 l0.length c0] from (Kd.FK_slice_mk (Kd.V_reads' (Kd.V_mono (ok' := (fun k_ => ((P0_ k_ ∨ P1_ k_) ∨ w.heap.size ≤ k_))) (HO0.out) (fun k_ hk => hk))).2.1 (Kd.V_F (Kd.V_mono (ok' := (fun k_ => ((P0_ k_ ∨ P1_ k_) ∨ w.heap.size ≤ k_))) (HO0.out) (fun k_ hk => hk))))) (Reps.one (show Kd.FK (Kd.slice 23 k23) _ _ l1 [.slice A1 l1.length c1] from (Kd.FK_slice_mk (Kd.V_reads' (Kd.V_mono (ok' := (fun k_ => ((P0_ k_ ∨ P1_ k_) ∨ w.heap.size ≤ k_))) (HO1.out) (fun k_ hk => hk))).2.1 (Kd.V_F (Kd.V_mono (ok' := (fun k_ => ((P0_ k_ ∨ P1_ k_) ∨ w.heap.size ≤ k_))) (HO1.out) (fun k_ hk => hk))))) (Reps.none _ _)))); intro v102 w6 ho7 hb hg_ hnew_; clear hg_ hnew_; (first | rw [← Ny101.out] at ho7 | (simp only [Int.reduceToNat] at ho7; rw [← Ny101.out] at ho7)); replace HO0 := Aside0.mk (Kd.V_elder' (vB HO0) (Kd.N_base ho7) hb); replace HO1 := Aside0.mk (Kd.V_elder' (vB HO1) (Kd.N_base ho7) hb); have HO103 := Aside0.mk (Kd.N_lower ho7 (below_size (bB0 HB))); replace HB := Aside0.mk (below_step (bB0 HB) hb); clear hb ho7; obtain ⟨Ao8, co8, eo8⟩ := Kd.N_slice HO103.out; subst eo8) | ((with_reducible refine gate_callee (f := 94) rfl ?_); refine goesL_ (some 10) rfl rfl Try.func94 (by kernel_rfl) rfl #[.slice Ao8 y101.length co8] rfl mB ?_; (with_reducible refine (plane_checkHulls.calls _ _ y101 t104 _ ?side1 ?side2 A3.out).mono ?_); (case side1 => repeat (first | exact (Kd.N_reads' HO103.out).2.2 | (with_reducible refine Kd.C_alloc ?_ _) | (with_reducible refine Kd.C_drewN ?_ _) | (with_reducible refine Kd.C_drew ?_))); (case side2 => exact (Kd.N_reads' HO103.out).2.1); rintro e w9 ⟨rfl, hb⟩; refine ⟨_, rfl, ?_⟩; replace HO0 := Aside0.mk (Kd.V_below (vB HO0) hb); replace HO1 := Aside0.mk (Kd.V_below (vB HO1) hb); replace HO103 := Aside0.mk (Kd.N_below (by (with_reducible repeat (first | apply Kd.N_alloc | apply Kd.N_drewN | apply Kd.N_drew)); exact HO103.out) hb); replace HB := Aside0.mk (below_step (bB0 HB) hb); (try clear hb); (try clear hb2); (try clear hk); (try clear hi)) | ((with_reducible refine gate_callee (f := 95) rfl ?_); refine goesL_ (some 16) rfl rfl Try.func95 (by kernel_rfl) rfl #[.slice A0 l0.length c0, .slice A1 l1.length c1] rfl mB ?_; (with_reducible refine (plane_apart.calls _ _ l0 _ _ l1 t105 _ ?side1 ?side2 ?side3 ?side4 A5.out).mono ?_); (case side1 => repeat (first | exact (Kd.V_reads' HO0.out).2.2 | (with_reducible refine Kd.C_alloc ?_ _) | (with_reducible refine Kd.C_drewN ?_ _) | (with_reducible refine Kd.C_drew ?_))); (case side2 => exact (Kd.V_reads' HO0.out).2.1); (case side3 => repeat (first | exact (Kd.V_reads' HO1.out).2.2 | (with_reducible refine Kd.C_alloc ?_ _) | (with_reducible refine Kd.C_drewN ?_ _) | (with_reducible refine Kd.C_drew ?_))); (case side4 => exact (Kd.V_reads' HO1.out).2.1); rintro e w10 ⟨rfl, hb⟩; refine ⟨_, rfl, ?_⟩; replace HO0 := Aside0.mk (Kd.V_below (vB HO0) hb); replace HO1 := Aside0.mk (Kd.V_below (vB HO1) hb); replace HO103 := Aside0.mk (Kd.N_below (by (with_reducible repeat (first | apply Kd.N_alloc | apply Kd.N_drewN | apply Kd.N_drew)); exact HO103.out) hb); replace HB := Aside0.mk (below_step (bB0 HB) hb); (try clear hb); (try clear hb2); (try clear hk); (try clear hi)))
  go_ret2
  exact ⟨eB, bB0 HB⟩
 ·rw [if_neg c4] at H
  have c4b0 : (t104 == 0) = false := beq_eq_false_iff_ne.mpr c4
  have c4b1 : (t104 != 0) = true := bne_iff_ne.mpr c4
  simp only [Option.some.injEq, Prod.mk.injEq] at H
  obtain ⟨rfl, rfl⟩ := H
  go_enter Try.func58, Try.ntmps58
  go_wp2_with (first | ((with_reducible refine gate_dst (N := 9) rfl ?_); refine Kd.N_lit (Kd.slice 23 k23) _ 53 ?hg (N' := 9) ?hd (xs := ([l0, l1] : List (List (S23)))) (inner := [.slice A0 l0.length c0, .slice A1 l1.length c1]) (ok := (fun k_ => ((P0_ k_ ∨ P1_ k_) ∨ w.heap.size ≤ k_))) (okp := (fun k_ => ((P0_ k_ ∨ P1_ k_) ∨ w.heap.size ≤ k_))) ?hr ?hp (fun _ hk => hk) ((show ∀ k_, w.heap.size ≤ k_ → (fun k_ => ((P0_ k_ ∨ P1_ k_) ∨ w.heap.size ≤ k_)) k_ from fun k_ hk => (.inr (Nat.le_trans (below_size (bB0 HB)) hk))) _ (Nat.le_refl _)) (Below.refl _ _) (Nat.le_refl _) (by simp) ?_; (case hd => rfl); (case hg => rfl); (case hr => first | (go_simp; done) | (go_simp; rfl)); (case hp => exact (Reps.one (show Kd.FK (Kd.slice 23 k23) _ _ l0 [.slice A0 l0.length c0] from (Kd.FK_slice_mk (Kd.V_reads' (Kd.V_mono (ok' := (fun k_ => ((P0_ k_ ∨ P1_ k_) ∨ w.heap.size ≤ k_))) (HO0.out) (fun k_ hk => hk))).2.1 (Kd.V_F (Kd.V_mono (ok' := (fun k_ => ((P0_ k_ ∨ P1_ k_) ∨ w.heap.size ≤ k_))) (HO0.out) (fun k_ hk => hk))))) (Reps.one (show Kd.FK (Kd.slice 23 k23) _ _ l1 [.slice A1 l1.length c1] from (Kd.FK_slice_mk (Kd.V_reads' (Kd.V_mono (ok' := (fun k_ => ((P0_ k_ ∨ P1_ k_) ∨ w.heap.size ≤ k_))) (HO1.out) (fun k_ hk => hk))).2.1 (Kd.V_F (Kd.V_mono (ok' := (fun k_ => ((P0_ k_ ∨ P1_ k_) ∨ w.heap.size ≤ k_))) (HO1.out) (fun k_ hk => hk))))) (Reps.none _ _)))); intro v102 w11 ho12 hb hg_ hnew_; clear hg_ hnew_; (first | rw [← Ny101.out] at ho12 | (simp only [Int.reduceToNat] at ho12; rw [← Ny101.out] at ho12)); replace HO0 := Aside0.mk (Kd.V_elder' (vB HO0) (Kd.N_base ho12) hb); replace HO1 := Aside0.mk (Kd.V_elder' (vB HO1) (Kd.N_base ho12) hb); have HO103 := Aside0.mk (Kd.N_lower ho12 (below_size (bB0 HB))); replace HB := Aside0.mk (below_step (bB0 HB) hb); clear hb ho12; obtain ⟨Ao13, co13, eo13⟩ := Kd.N_slice HO103.out; subst eo13) | ((with_reducible refine gate_callee (f := 94) rfl ?_); refine goesL_ (some 10) rfl rfl Try.func94 (by kernel_rfl) rfl #[.slice Ao13 y101.length co13] rfl mB ?_; (with_reducible refine (plane_checkHulls.calls _ _ y101 t104 _ ?side1 ?side2 A3.out).mono ?_); (case side1 => repeat (first | exact (Kd.N_reads' HO103.out).2.2 | (with_reducible refine Kd.C_alloc ?_ _) | (with_reducible refine Kd.C_drewN ?_ _) | (with_reducible refine Kd.C_drew ?_))); (case side2 => exact (Kd.N_reads' HO103.out).2.1); rintro e w14 ⟨rfl, hb⟩; refine ⟨_, rfl, ?_⟩; replace HO0 := Aside0.mk (Kd.V_below (vB HO0) hb); replace HO1 := Aside0.mk (Kd.V_below (vB HO1) hb); replace HO103 := Aside0.mk (Kd.N_below (by (with_reducible repeat (first | apply Kd.N_alloc | apply Kd.N_drewN | apply Kd.N_drew)); exact HO103.out) hb); replace HB := Aside0.mk (below_step (bB0 HB) hb); (try clear hb); (try clear hb2); (try clear hk); (try clear hi)))
  go_ret2
  exact ⟨eB, bB0 HB⟩
def gooseneckref01_dot.f (a0_0 : Int) (a0_1 : Int) (a0_2 : Int) (a1_0 : Int) (a1_1 : Int) : Option (Int) := some (wrap64 ((wrap64 (a0_0 * a1_0)) + (wrap64 (a0_1 * a1_1))))
set_option maxHeartbeats 8000000 in
set_option maxRecDepth 100000 in
theorem gooseneckref01_dot.calls (a0_0 : Int) (a0_1 : Int) (a0_2 : Int) (a1_0 : Int) (a1_1 : Int) (r : Int) (w : World) (h : gooseneckref01_dot.f a0_0 a0_1 a0_2 a1_0 a1_1 = some r) :
  Calls Try.prog 122 #[.agg #[.int .i64 a0_0, .int .i64 a0_1, .int .i64 a0_2], .agg #[.int .i64 a1_0, .int .i64 a1_1]] w fun e w' => e = .returned (.int .i64 r) ∧ Below w.heap.size w w' := by
 have hu75 := Try.underlying75
 have hu23 := Try.underlying23
 have HB := Aside0.mk (Below.refl w.heap.size w)
 have H : (some (wrap64 ((wrap64 (a0_0 * a1_0)) + (wrap64 (a0_1 * a1_1))))) = some r := h
 clear h
 obtain rfl := Option.some.inj H
 go_enter Try.func122, Try.ntmps122
 go_wp2_with (first | ((with_reducible refine gate_dst (N := 2) rfl ?_); refine boxE (N := 2) (cs := #[.int .i64 a0_0, .int .i64 a0_1, .int .i64 a0_2]) (t := 75) ?_; intro gb101 hg w3 hbox hb; have n0_ := Aside0.mk (below_step (bB0 HB) hb); have BK101 := Aside0.mk (hbox); have GW101 := Aside0.mk (szB hg (below_size (bB0 HB))); have GE101 := GW101; clear HB; have HB := n0_; clear n0_; clear hb hbox hg) | ((with_reducible refine gate_dst (N := 3) rfl ?_); refine boxE (N := 3) (cs := #[.int .i64 a1_0, .int .i64 a1_1]) (t := 23) ?_; intro gb102 hg w4 hbox hb; have n0_ := Aside0.mk (blk_below (kB BK101) hb); have n1_ := Aside0.mk (below_step (bB1 HB GE101) hb); have BK102 := Aside0.mk (hbox); have GW102 := Aside0.mk (szB hg (below_size (bB1 HB GE101))); have GE102 := GW102; have NB101_102 := Aside0.mk (neA hg (blk_lt (kB BK101))); have NB102_101 := Aside0.mk (neB hg (blk_lt (kB BK101))); clear BK101; clear HB; have BK101 := n0_; have HB := n1_; clear n0_ n1_; clear hb hbox hg; have hnb5 := NB101_102.out; have hnc5 := NB102_101.out; have hcz6_0 : w4.cell? ⟨gb101, 0, none⟩ = some (.int .i64 a0_0) := (blk_cell BK101.out 0).trans rfl; have hcz6_1 : w4.cell? ⟨gb101, 1, none⟩ = some (.int .i64 a0_1) := (blk_cell BK101.out 1).trans rfl; have hcz6_2 : w4.cell? ⟨gb101, 2, none⟩ = some (.int .i64 a0_2) := (blk_cell BK101.out 2).trans rfl; have hfz6_0 := blk_frozen BK101.out 0; have hfz6_1 := blk_frozen BK101.out 1; have hfz6_2 := blk_frozen BK101.out 2; have hcz7_0 : w4.cell? ⟨gb102, 0, none⟩ = some (.int .i64 a1_0) := (blk_cell BK102.out 0).trans rfl; have hcz7_1 : w4.cell? ⟨gb102, 1, none⟩ = some (.int .i64 a1_1) := (blk_cell BK102.out 1).trans rfl; have hfz7_0 := blk_frozen BK102.out 0; have hfz7_1 := blk_frozen BK102.out 1))
 go_ret
 exact ⟨eB, bB2 HB GE101 GE102⟩
mutual
def gooseneckref01_parts.l0 : Nat → List (S23) → List (S23) → Int → Int → Int → Int → Option (Bool)
 | 0, _, _, _, _, _, _ => none
 | k + 1, x0, x1, x7, x102000, x102001, x102002 => if x7 < (x0.length : Int) then (if 0 ≤ x7 then ((gooseneckref01_dot.f x102000 x102001 x102002 ((rd_T23 x0 x7).f0) ((rd_T23 x0 x7).f1)).bind fun t103 => (if t103 > x102002 then (some false) else (gooseneckref01_parts.l0 k x0 x1 (wrap64 (x7 + 1)) x102000 x102001 x102002))) else (none)) else (gooseneckref01_parts.l1 k x1 0 x102000 x102001 x102002)
def gooseneckref01_parts.l1 : Nat → List (S23) → Int → Int → Int → Int → Option (Bool)
 | 0, _, _, _, _, _ => none
 | k + 1, x1, x8, x102000, x102001, x102002 => if x8 < (x1.length : Int) then (if 0 ≤ x8 then ((gooseneckref01_dot.f x102000 x102001 x102002 ((rd_T23 x1 x8).f0) ((rd_T23 x1 x8).f1)).bind fun t105 => (if t105 ≤ x102002 then (some false) else (gooseneckref01_parts.l1 k x1 (wrap64 (x8 + 1)) x102000 x102001 x102002))) else (none)) else (some true)
end
def gooseneckref01_parts.f (k : Nat) (l0 : List (S23)) (l1 : List (S23)) (a2_0 : Int) (a2_1 : Int) (a2_2 : Int) : Option (Bool) := gooseneckref01_parts.l0 k l0 l1 0 a2_0 a2_1 a2_2
theorem gooseneckref01_parts.mono_l : ∀ k, (∀ y0 y1 y2 y3 y4 y5, LeO (gooseneckref01_parts.l0 k y0 y1 y2 y3 y4 y5) (gooseneckref01_parts.l0 (k + 1) y0 y1 y2 y3 y4 y5)) ∧ (∀ y0 y1 y2 y3 y4, LeO (gooseneckref01_parts.l1 k y0 y1 y2 y3 y4) (gooseneckref01_parts.l1 (k + 1) y0 y1 y2 y3 y4))
 | 0 => ⟨fun _ _ _ _ _ _ r h => by simp [gooseneckref01_parts.l0] at h, fun _ _ _ _ _ r h => by simp [gooseneckref01_parts.l1] at h⟩
 | k + 1 => by
  obtain ⟨ih0, ih1⟩ := gooseneckref01_parts.mono_l k
  refine ⟨?_, ?_⟩
  ·intro y0 y1 y2 y3 y4 y5
   unfold gooseneckref01_parts.l0
   repeat' first
   | (with_reducible exact ih0 _ _ _ _ _ _)
   | (with_reducible exact ih1 _ _ _ _ _)
   | (with_reducible exact LeO.refl _)
   | (with_reducible exact LeO.none _)
   | (with_reducible refine LeO.ite ?_ ?_)
   | (with_reducible refine LeO.bind ?_ (fun _ => ?_))
   | exact ih0 _ _ _ _ _ _
   | exact ih1 _ _ _ _ _
   | exact LeO.none _
   | refine LeO.ite ?_ ?_
   | refine LeO.bind ?_ (fun _ => ?_)
  ·intro y0 y1 y2 y3 y4
   unfold gooseneckref01_parts.l1
   repeat' first
   | (with_reducible exact ih0 _ _ _ _ _ _)
   | (with_reducible exact ih1 _ _ _ _ _)
   | (with_reducible exact LeO.refl _)
   | (with_reducible exact LeO.none _)
   | (with_reducible refine LeO.ite ?_ ?_)
   | (with_reducible refine LeO.bind ?_ (fun _ => ?_))
   | exact ih0 _ _ _ _ _ _
   | exact ih1 _ _ _ _ _
   | exact LeO.none _
   | refine LeO.ite ?_ ?_
   | refine LeO.bind ?_ (fun _ => ?_)
theorem gooseneckref01_parts.mono : ∀ a0 a1 a2 a3 a4 k, LeO (gooseneckref01_parts.f k a0 a1 a2 a3 a4) (gooseneckref01_parts.f (k + 1) a0 a1 a2 a3 a4) := by
 intro a0 a1 a2 a3 a4 k
 obtain ⟨ih0, ih1⟩ := gooseneckref01_parts.mono_l k
 unfold gooseneckref01_parts.f
 repeat' first
   | (with_reducible exact ih0 _ _ _ _ _ _)
   | (with_reducible exact ih1 _ _ _ _ _)
   | (with_reducible exact LeO.refl _)
   | (with_reducible exact LeO.none _)
   | (with_reducible refine LeO.ite ?_ ?_)
   | (with_reducible refine LeO.bind ?_ (fun _ => ?_))
   | exact ih0 _ _ _ _ _ _
   | exact ih1 _ _ _ _ _
   | exact LeO.none _
   | refine LeO.ite ?_ ?_
   | refine LeO.bind ?_ (fun _ => ?_)
def gooseneckref01_parts.T4 : Bool × List (List Nat × List Nat) := (true, [([], []), ([], []), ([], []), ([1, 2], [1, 2]), ([3], [3]), ([0, 4], [0, 4]), ([], []), ([6], [6]), ([5, 7], [5, 7])])
def gooseneckref01_parts.B4 : List Nat := [0, 0, 0, 6, 14, 31, 0, 64, 255]
theorem gooseneckref01_parts.tab4 : rtab .any (opsOf Try.f105 4) = gooseneckref01_parts.T4 := by kernel_rfl
theorem gooseneckref01_parts.bits4 : waitsOk gooseneckref01_parts.T4.2 gooseneckref01_parts.B4 = true := by kernel_rfl
def gooseneckref01_parts.T9 : Bool × List (List Nat × List Nat) := (true, [([], []), ([], []), ([], []), ([1, 2], [1, 2]), ([3], [3]), ([0, 4], [0, 4]), ([], []), ([6], [6]), ([5, 7], [5, 7])])
def gooseneckref01_parts.B9 : List Nat := [0, 0, 0, 6, 14, 31, 0, 64, 255]
theorem gooseneckref01_parts.tab9 : rtab .any (opsOf Try.f105 9) = gooseneckref01_parts.T9 := by kernel_rfl
theorem gooseneckref01_parts.bits9 : waitsOk gooseneckref01_parts.T9.2 gooseneckref01_parts.B9 = true := by kernel_rfl
set_option maxHeartbeats 8000000 in
set_option maxRecDepth 100000 in
theorem gooseneckref01_parts.calls (k : Nat) (A0 : Option Addr) (c0 : Nat) (l0 : List (S23)) (A1 : Option Addr) (c1 : Nat) (l1 : List (S23)) (a2_0 : Int) (a2_1 : Int) (a2_2 : Int) (r : Bool) (w : World) (hr0 : Kd.C k23 w A0 l0.length l0) (hc0 : l0.length ≤ c0) (hr1 : Kd.C k23 w A1 l1.length l1) (hc1 : l1.length ≤ c1) (h : gooseneckref01_parts.f k l0 l1 a2_0 a2_1 a2_2 = some r) :
  Calls Try.prog 105 #[.slice A0 l0.length c0, .slice A1 l1.length c1, .agg #[.int .i64 a2_0, .int .i64 a2_1, .int .i64 a2_2]] w fun e w' => e = .returned (.bool r) ∧ Below w.heap.size w w' := by
 have hu75 := Try.underlying75
 have hu23 := Try.underlying23
 have HR0 := Aside0.mk hr0
 have HC0 := Aside0.mk hc0
 clear hr0 hc0
 have HR1 := Aside0.mk hr1
 have HC1 := Aside0.mk hc1
 clear hr1 hc1
 have HB := Aside0.mk (Below.refl w.heap.size w)
 have H : (gooseneckref01_parts.l0 k l0 l1 0 a2_0 a2_1 a2_2) = some r := h
 clear h
 have H' := Aside0.mk H
 clear H
 go_enter Try.func105, Try.ntmps105
 go_wp2_with (first | ((with_reducible refine gate_dst (N := 5) rfl ?_); refine boxE (N := 5) (cs := #[.int .i64 a2_0, .int .i64 a2_1, .int .i64 a2_2]) (t := 75) ?_; intro gb101 hg w4 hbox hb; have n0_ := Aside0.mk (below_step (bB0 HB) hb); have BK101 := Aside0.mk (hbox); have GW101 := Aside0.mk (szB hg (below_size (bB0 HB))); have GE101 := GW101; clear HB; have HB := n0_; clear n0_; clear hb hbox hg))
 go_loopg [7] k (fun kq v7 w' => ∃ (x7_1 : Int), v7 = .int .i64 x7_1 ∧ Aside0 (gooseneckref01_parts.l0 kq l0 l1 x7_1 a2_0 a2_1 a2_2 = some r) ∧ Aside0 (kq ≤ k) ∧ Aside0 (w'.heap[gb101]? = some (.cells #[.int .i64 a2_0, .int .i64 a2_1, .int .i64 a2_2] 75 (0, 0))) ∧ Aside0 (Below w.heap.size w w'))
 case atStart => exact ⟨(0), sB, H', ⟨Nat.le_refl _⟩, ⟨by (with_reducible repeat (first | refine blk_drewN ?_ _ | refine blk_drew ?_ | refine blk_alloc ?_ _)); exact BK101.out⟩, ⟨bB1 HB GE101⟩⟩
 case round =>
  clear H'
  try clear c1
  try clear p2
  obtain ⟨x7_1, rfl, HA, HK1, BK101, HB⟩ := hrel
  cases gk with
  | zero => exact absurd HA.out (by simp [gooseneckref01_parts.l0])
  | succ k1 =>
   have H := HA.out
   clear HA
   simp only [gooseneckref01_parts.l0] at H
   by_cases c5 : x7_1 < (l0.length : Int)
   ·rw [if_pos c5] at H
    have c5b0 : decide (x7_1 < (l0.length : Int)) = true := decide_eq_true c5
    clear c5
    by_cases c6 : 0 ≤ x7_1
    ·rw [if_pos c6] at H
     have c6b0 : decide (0 ≤ x7_1) = true := decide_eq_true c6
     clear c6
     replace H := Option.bind_eq_some_iff.mp H
     obtain ⟨t103, A70, H⟩ := H
     replace H : (if t103 > a2_2 then (some false) else (gooseneckref01_parts.l0 k1 l0 l1 (wrap64 (x7_1 + 1)) a2_0 a2_1 a2_2)) = some r := H
     have A7 := Aside0.mk A70
     clear A70
     by_cases c8 : t103 > a2_2
     ·rw [if_pos c8] at H
      have c8b0 : decide (a2_2 < t103) = true := decide_eq_true c8
      clear c8
      obtain rfl := Option.some.inj H
      try go_wp2
      replace BK101 := Aside0.mk (blk_drew BK101.out)
      replace HB := Aside0.mk (below_drew1 HB.out)
      have p102 : 0 ≤ (x7_1 : Int) := oB
      have q102 : x7_1 < (l0.length : Int) := oB
      obtain ⟨ad102, e102, hx102_0, hx102_1⟩ := at_T23 HR0.out x7_1 p102 q102
      have hw102_1 := hx102_1
      have hw102_0 := hx102_0
      cases e102
      replace hx102_0 := (HB.out.cell (World.block_lt_of_cell? w _ hx102_0)).trans hx102_0
      replace hx102_1 := (HB.out.cell (World.block_lt_of_cell? w _ hx102_1)).trans hx102_1
      replace p102 := eq_true p102
      replace q102 := eq_true q102
      refine start_ (n := 9) (S := fun w' => w'.cell? ⟨gb101, 0, none⟩ = some (.int .i64 a2_0) ∧ w'.cell? ⟨gb101, 1, none⟩ = some (.int .i64 a2_1) ∧ w'.cell? ⟨gb101, 2, none⟩ = some (.int .i64 a2_2) ∧ w'.cell? (ad102.add ((x7_1).toNat * 2)) = some (.int .i64 ((rd_T23 l0 x7_1).f0)) ∧ w'.cell? ⟨(ad102.add ((x7_1).toNat * 2)).block, (ad102.add ((x7_1).toNat * 2)).off + 1, none⟩ = some (.int .i64 ((rd_T23 l0 x7_1).f1))) (ds := []) #[false, false, false, false, false, false, false, false, false] (by kernel_rfl) rfl rfl ⟨(blk_cell BK101.out 0).trans rfl, (blk_cell BK101.out 1).trans rfl, (blk_cell BK101.out 2).trans rfl, ((HB.out.cell (World.block_lt_of_cell? w _ hw102_0)).trans hw102_0), ((HB.out.cell (World.block_lt_of_cell? w _ hw102_1)).trans hw102_1)⟩ (fun hHeld => ?_); refine with_tabW gooseneckref01_parts.tab4 gooseneckref01_parts.bits4 (fun HT_ HW_ => ?_)
      generalize wr.drew = w9 at BK101 HB hx102_0 hx102_1 hHeld ⊢
      refine pS 1 (some 16) HT_ ?_
      refine pS 2 (some 17) HT_ ?_
      refine pS 3 (some 18) HT_ ?_
      refine pS 6 (some 21) HT_ ?_
      refine tS 0 (some 15) rfl rfl HT_ HW_ hHeld (by rintro w' ⟨s0, s1, s2, s3, s4⟩; go_simp; with_reducible rfl) ?_
      refine tS 4 (some 19) rfl rfl HT_ HW_ hHeld (by rintro w' ⟨s0, s1, s2, s3, s4⟩; go_simp; with_reducible rfl) ?_
      refine tS 7 (some 22) rfl rfl HT_ HW_ hHeld (by rintro w' ⟨s0, s1, s2, s3, s4⟩; go_simp; with_reducible rfl) ?_
      refine one_ (i := 5) (N := some 20) #[true, true, true, true, true, true, true, true, false] rfl rfl (one_of HT_.out (by kernel_rfl)) (by decide) (fun K hK => ?_)
      refine goes_ Try.func122 (by kernel_rfl) rfl #[.agg #[.int .i64 a2_0, .int .i64 a2_1, .int .i64 a2_2], .agg #[.int .i64 ((rd_T23 l0 x7_1).f0), .int .i64 ((rd_T23 l0 x7_1).f1)]] (by rfl) rfl rfl mB ?_
      with_reducible refine (gooseneckref01_dot.calls a2_0 a2_1 a2_2 ((rd_T23 l0 x7_1).f0) ((rd_T23 l0 x7_1).f1) t103 _ A7.out).mono ?_
      rintro e w10 ⟨rfl, hb⟩
      refine ⟨_, rfl, ?_⟩
      replace BK101 := Aside0.mk (blk_below (kB BK101) hb)
      replace HB := Aside0.mk (below_step (bB1 HB GE101) hb)
      (try clear hb)
      (try clear hb2)
      (try clear hk)
      (try clear hi)
      refine hK.out _ _ ⟨(blk_cell BK101.out 0).trans rfl, (blk_cell BK101.out 1).trans rfl, (blk_cell BK101.out 2).trans rfl, ((HB.out.cell (World.block_lt_of_cell? w _ hw102_0)).trans hw102_0), ((HB.out.cell (World.block_lt_of_cell? w _ hw102_1)).trans hw102_1)⟩ (fun hHeld => ?_)
      clear hK K
      refine nZ (some 20) ?_
      refine pS 8 (some 23) HT_ ?_
      refine done_ (done_of HT_.out (by kernel_rfl)) ?_
      try go_wp2
      go_ret
      exact ⟨eB, bB1 HB GE101⟩
     ·rw [if_neg c8] at H
      have c8b0 : decide (a2_2 < t103) = false := decide_eq_false c8
      clear c8
      have H' := Aside0.mk H
      clear H
      try go_wp2
      replace BK101 := Aside0.mk (blk_drew BK101.out)
      replace HB := Aside0.mk (below_drew1 HB.out)
      have p102 : 0 ≤ (x7_1 : Int) := oB
      have q102 : x7_1 < (l0.length : Int) := oB
      obtain ⟨ad102, e102, hx102_0, hx102_1⟩ := at_T23 HR0.out x7_1 p102 q102
      have hw102_1 := hx102_1
      have hw102_0 := hx102_0
      cases e102
      replace hx102_0 := (HB.out.cell (World.block_lt_of_cell? w _ hx102_0)).trans hx102_0
      replace hx102_1 := (HB.out.cell (World.block_lt_of_cell? w _ hx102_1)).trans hx102_1
      replace p102 := eq_true p102
      replace q102 := eq_true q102
      refine start_ (n := 9) (S := fun w' => w'.cell? ⟨gb101, 0, none⟩ = some (.int .i64 a2_0) ∧ w'.cell? ⟨gb101, 1, none⟩ = some (.int .i64 a2_1) ∧ w'.cell? ⟨gb101, 2, none⟩ = some (.int .i64 a2_2) ∧ w'.cell? (ad102.add ((x7_1).toNat * 2)) = some (.int .i64 ((rd_T23 l0 x7_1).f0)) ∧ w'.cell? ⟨(ad102.add ((x7_1).toNat * 2)).block, (ad102.add ((x7_1).toNat * 2)).off + 1, none⟩ = some (.int .i64 ((rd_T23 l0 x7_1).f1))) (ds := []) #[false, false, false, false, false, false, false, false, false] (by kernel_rfl) rfl rfl ⟨(blk_cell BK101.out 0).trans rfl, (blk_cell BK101.out 1).trans rfl, (blk_cell BK101.out 2).trans rfl, ((HB.out.cell (World.block_lt_of_cell? w _ hw102_0)).trans hw102_0), ((HB.out.cell (World.block_lt_of_cell? w _ hw102_1)).trans hw102_1)⟩ (fun hHeld => ?_); refine with_tabW gooseneckref01_parts.tab4 gooseneckref01_parts.bits4 (fun HT_ HW_ => ?_)
      generalize wr.drew = w11 at BK101 HB hx102_0 hx102_1 hHeld ⊢
      refine pS 1 (some 16) HT_ ?_
      refine pS 2 (some 17) HT_ ?_
      refine pS 3 (some 18) HT_ ?_
      refine pS 6 (some 21) HT_ ?_
      refine tS 0 (some 15) rfl rfl HT_ HW_ hHeld (by rintro w' ⟨s0, s1, s2, s3, s4⟩; go_simp; with_reducible rfl) ?_
      refine tS 4 (some 19) rfl rfl HT_ HW_ hHeld (by rintro w' ⟨s0, s1, s2, s3, s4⟩; go_simp; with_reducible rfl) ?_
      refine tS 7 (some 22) rfl rfl HT_ HW_ hHeld (by rintro w' ⟨s0, s1, s2, s3, s4⟩; go_simp; with_reducible rfl) ?_
      refine one_ (i := 5) (N := some 20) #[true, true, true, true, true, true, true, true, false] rfl rfl (one_of HT_.out (by kernel_rfl)) (by decide) (fun K hK => ?_)
      refine goes_ Try.func122 (by kernel_rfl) rfl #[.agg #[.int .i64 a2_0, .int .i64 a2_1, .int .i64 a2_2], .agg #[.int .i64 ((rd_T23 l0 x7_1).f0), .int .i64 ((rd_T23 l0 x7_1).f1)]] (by rfl) rfl rfl mB ?_
      with_reducible refine (gooseneckref01_dot.calls a2_0 a2_1 a2_2 ((rd_T23 l0 x7_1).f0) ((rd_T23 l0 x7_1).f1) t103 _ A7.out).mono ?_
      rintro e w12 ⟨rfl, hb⟩
      refine ⟨_, rfl, ?_⟩
      replace BK101 := Aside0.mk (blk_below (kB BK101) hb)
      replace HB := Aside0.mk (below_step (bB1 HB GE101) hb)
      (try clear hb)
      (try clear hb2)
      (try clear hk)
      (try clear hi)
      refine hK.out _ _ ⟨(blk_cell BK101.out 0).trans rfl, (blk_cell BK101.out 1).trans rfl, (blk_cell BK101.out 2).trans rfl, ((HB.out.cell (World.block_lt_of_cell? w _ hw102_0)).trans hw102_0), ((HB.out.cell (World.block_lt_of_cell? w _ hw102_1)).trans hw102_1)⟩ (fun hHeld => ?_)
      clear hK K
      refine nZ (some 20) ?_
      refine pS 8 (some 23) HT_ ?_
      refine done_ (done_of HT_.out (by kernel_rfl)) ?_
      try go_wp2
      go_roundg k1
      case measure => have := HK1.out; omega
      case rel => exact ⟨(wrap64 (x7_1 + 1)), sB, H', ⟨by have := HK1.out; omega⟩, ⟨by (with_reducible repeat (first | refine blk_drewN ?_ _ | refine blk_drew ?_ | refine blk_alloc ?_ _)); exact BK101.out⟩, ⟨bB1 HB GE101⟩⟩
    ·rw [if_neg c6] at H
     exact absurd H (by simp)
   ·rw [if_neg c5] at H
    have c5b0 : decide (x7_1 < (l0.length : Int)) = false := decide_eq_false c5
    clear c5
    have H' := Aside0.mk H
    clear H
    go_wp2
    go_loopg [8] k1 (fun kq v8 w' => ∃ (x8_2 : Int), v8 = .int .i64 x8_2 ∧ Aside0 (gooseneckref01_parts.l1 kq l1 x8_2 a2_0 a2_1 a2_2 = some r) ∧ Aside0 (kq ≤ k1) ∧ Aside0 (w'.heap[gb101]? = some (.cells #[.int .i64 a2_0, .int .i64 a2_1, .int .i64 a2_2] 75 (0, 0))) ∧ Aside0 (Below w.heap.size w w'))
    case atStart => exact ⟨(0), sB, H', ⟨Nat.le_refl _⟩, ⟨by (with_reducible repeat (first | refine blk_drewN ?_ _ | refine blk_drew ?_ | refine blk_alloc ?_ _)); exact BK101.out⟩, ⟨bB1 HB GE101⟩⟩
    case round =>
     clear H'
     try clear c1
     try clear p1
     try clear q1
     try clear hx1
     try clear p2
     try clear c5
     try clear c5b0
     try clear c6
     try clear c6b0
     try clear p6
     try clear c8
     try clear c8b0
     try clear c10
     try clear p10
     try clear q10
     try clear hx10
     try clear c12
     try clear hx102_0
     try clear hx102_1
     try clear p102
     try clear p2
     try clear q102
     obtain ⟨x8_2, rfl, HA, HK2, BK101, HB⟩ := hrel
     cases gk with
     | zero => exact absurd HA.out (by simp [gooseneckref01_parts.l1])
     | succ k2 =>
      have H := HA.out
      clear HA
      simp only [gooseneckref01_parts.l1] at H
      by_cases c13 : x8_2 < (l1.length : Int)
      ·rw [if_pos c13] at H
       have c13b0 : decide (x8_2 < (l1.length : Int)) = true := decide_eq_true c13
       clear c13
       by_cases c14 : 0 ≤ x8_2
       ·rw [if_pos c14] at H
        have c14b0 : decide (0 ≤ x8_2) = true := decide_eq_true c14
        clear c14
        replace H := Option.bind_eq_some_iff.mp H
        obtain ⟨t105, A150, H⟩ := H
        replace H : (if t105 ≤ a2_2 then (some false) else (gooseneckref01_parts.l1 k2 l1 (wrap64 (x8_2 + 1)) a2_0 a2_1 a2_2)) = some r := H
        have A15 := Aside0.mk A150
        clear A150
        by_cases c16 : t105 ≤ a2_2
        ·rw [if_pos c16] at H
         have c16b0 : decide (t105 ≤ a2_2) = true := decide_eq_true c16
         clear c16
         obtain rfl := Option.some.inj H
         try go_wp2
         replace BK101 := Aside0.mk (blk_drew BK101.out)
         replace HB := Aside0.mk (below_drew1 HB.out)
         have p104 : 0 ≤ (x8_2 : Int) := oB
         have q104 : x8_2 < (l1.length : Int) := oB
         obtain ⟨ad104, e104, hx104_0, hx104_1⟩ := at_T23 HR1.out x8_2 p104 q104
         have hw104_1 := hx104_1
         have hw104_0 := hx104_0
         cases e104
         replace hx104_0 := (HB.out.cell (World.block_lt_of_cell? w _ hx104_0)).trans hx104_0
         replace hx104_1 := (HB.out.cell (World.block_lt_of_cell? w _ hx104_1)).trans hx104_1
         replace p104 := eq_true p104
         replace q104 := eq_true q104
         refine start_ (n := 9) (S := fun w' => w'.cell? ⟨gb101, 0, none⟩ = some (.int .i64 a2_0) ∧ w'.cell? ⟨gb101, 1, none⟩ = some (.int .i64 a2_1) ∧ w'.cell? ⟨gb101, 2, none⟩ = some (.int .i64 a2_2) ∧ w'.cell? (ad104.add ((x8_2).toNat * 2)) = some (.int .i64 ((rd_T23 l1 x8_2).f0)) ∧ w'.cell? ⟨(ad104.add ((x8_2).toNat * 2)).block, (ad104.add ((x8_2).toNat * 2)).off + 1, none⟩ = some (.int .i64 ((rd_T23 l1 x8_2).f1))) (ds := []) #[false, false, false, false, false, false, false, false, false] (by kernel_rfl) rfl rfl ⟨(blk_cell BK101.out 0).trans rfl, (blk_cell BK101.out 1).trans rfl, (blk_cell BK101.out 2).trans rfl, ((HB.out.cell (World.block_lt_of_cell? w _ hw104_0)).trans hw104_0), ((HB.out.cell (World.block_lt_of_cell? w _ hw104_1)).trans hw104_1)⟩ (fun hHeld => ?_); refine with_tabW gooseneckref01_parts.tab9 gooseneckref01_parts.bits9 (fun HT_ HW_ => ?_)
         generalize wr.drew = w17 at BK101 HB hx104_0 hx104_1 hHeld ⊢
         refine pS 1 (some 31) HT_ ?_
         refine pS 2 (some 32) HT_ ?_
         refine pS 3 (some 33) HT_ ?_
         refine pS 6 (some 36) HT_ ?_
         refine tS 0 (some 30) rfl rfl HT_ HW_ hHeld (by rintro w' ⟨s0, s1, s2, s3, s4⟩; go_simp; with_reducible rfl) ?_
         refine tS 4 (some 34) rfl rfl HT_ HW_ hHeld (by rintro w' ⟨s0, s1, s2, s3, s4⟩; go_simp; with_reducible rfl) ?_
         refine tS 7 (some 37) rfl rfl HT_ HW_ hHeld (by rintro w' ⟨s0, s1, s2, s3, s4⟩; go_simp; with_reducible rfl) ?_
         refine one_ (i := 5) (N := some 35) #[true, true, true, true, true, true, true, true, false] rfl rfl (one_of HT_.out (by kernel_rfl)) (by decide) (fun K hK => ?_)
         refine goes_ Try.func122 (by kernel_rfl) rfl #[.agg #[.int .i64 a2_0, .int .i64 a2_1, .int .i64 a2_2], .agg #[.int .i64 ((rd_T23 l1 x8_2).f0), .int .i64 ((rd_T23 l1 x8_2).f1)]] (by rfl) rfl rfl mB ?_
         with_reducible refine (gooseneckref01_dot.calls a2_0 a2_1 a2_2 ((rd_T23 l1 x8_2).f0) ((rd_T23 l1 x8_2).f1) t105 _ A15.out).mono ?_
         rintro e w18 ⟨rfl, hb⟩
         refine ⟨_, rfl, ?_⟩
         replace BK101 := Aside0.mk (blk_below (kB BK101) hb)
         replace HB := Aside0.mk (below_step (bB1 HB GE101) hb)
         (try clear hb)
         (try clear hb2)
         (try clear hk)
         (try clear hi)
         refine hK.out _ _ ⟨(blk_cell BK101.out 0).trans rfl, (blk_cell BK101.out 1).trans rfl, (blk_cell BK101.out 2).trans rfl, ((HB.out.cell (World.block_lt_of_cell? w _ hw104_0)).trans hw104_0), ((HB.out.cell (World.block_lt_of_cell? w _ hw104_1)).trans hw104_1)⟩ (fun hHeld => ?_)
         clear hK K
         refine nZ (some 35) ?_
         refine pS 8 (some 38) HT_ ?_
         refine done_ (done_of HT_.out (by kernel_rfl)) ?_
         try go_wp2
         go_ret
         exact ⟨eB, bB1 HB GE101⟩
        ·rw [if_neg c16] at H
         have c16b0 : decide (t105 ≤ a2_2) = false := decide_eq_false c16
         clear c16
         have H' := Aside0.mk H
         clear H
         try go_wp2
         replace BK101 := Aside0.mk (blk_drew BK101.out)
         replace HB := Aside0.mk (below_drew1 HB.out)
         have p104 : 0 ≤ (x8_2 : Int) := oB
         have q104 : x8_2 < (l1.length : Int) := oB
         obtain ⟨ad104, e104, hx104_0, hx104_1⟩ := at_T23 HR1.out x8_2 p104 q104
         have hw104_1 := hx104_1
         have hw104_0 := hx104_0
         cases e104
         replace hx104_0 := (HB.out.cell (World.block_lt_of_cell? w _ hx104_0)).trans hx104_0
         replace hx104_1 := (HB.out.cell (World.block_lt_of_cell? w _ hx104_1)).trans hx104_1
         replace p104 := eq_true p104
         replace q104 := eq_true q104
         refine start_ (n := 9) (S := fun w' => w'.cell? ⟨gb101, 0, none⟩ = some (.int .i64 a2_0) ∧ w'.cell? ⟨gb101, 1, none⟩ = some (.int .i64 a2_1) ∧ w'.cell? ⟨gb101, 2, none⟩ = some (.int .i64 a2_2) ∧ w'.cell? (ad104.add ((x8_2).toNat * 2)) = some (.int .i64 ((rd_T23 l1 x8_2).f0)) ∧ w'.cell? ⟨(ad104.add ((x8_2).toNat * 2)).block, (ad104.add ((x8_2).toNat * 2)).off + 1, none⟩ = some (.int .i64 ((rd_T23 l1 x8_2).f1))) (ds := []) #[false, false, false, false, false, false, false, false, false] (by kernel_rfl) rfl rfl ⟨(blk_cell BK101.out 0).trans rfl, (blk_cell BK101.out 1).trans rfl, (blk_cell BK101.out 2).trans rfl, ((HB.out.cell (World.block_lt_of_cell? w _ hw104_0)).trans hw104_0), ((HB.out.cell (World.block_lt_of_cell? w _ hw104_1)).trans hw104_1)⟩ (fun hHeld => ?_); refine with_tabW gooseneckref01_parts.tab9 gooseneckref01_parts.bits9 (fun HT_ HW_ => ?_)
         generalize wr.drew = w19 at BK101 HB hx104_0 hx104_1 hHeld ⊢
         refine pS 1 (some 31) HT_ ?_
         refine pS 2 (some 32) HT_ ?_
         refine pS 3 (some 33) HT_ ?_
         refine pS 6 (some 36) HT_ ?_
         refine tS 0 (some 30) rfl rfl HT_ HW_ hHeld (by rintro w' ⟨s0, s1, s2, s3, s4⟩; go_simp; with_reducible rfl) ?_
         refine tS 4 (some 34) rfl rfl HT_ HW_ hHeld (by rintro w' ⟨s0, s1, s2, s3, s4⟩; go_simp; with_reducible rfl) ?_
         refine tS 7 (some 37) rfl rfl HT_ HW_ hHeld (by rintro w' ⟨s0, s1, s2, s3, s4⟩; go_simp; with_reducible rfl) ?_
         refine one_ (i := 5) (N := some 35) #[true, true, true, true, true, true, true, true, false] rfl rfl (one_of HT_.out (by kernel_rfl)) (by decide) (fun K hK => ?_)
         refine goes_ Try.func122 (by kernel_rfl) rfl #[.agg #[.int .i64 a2_0, .int .i64 a2_1, .int .i64 a2_2], .agg #[.int .i64 ((rd_T23 l1 x8_2).f0), .int .i64 ((rd_T23 l1 x8_2).f1)]] (by rfl) rfl rfl mB ?_
         with_reducible refine (gooseneckref01_dot.calls a2_0 a2_1 a2_2 ((rd_T23 l1 x8_2).f0) ((rd_T23 l1 x8_2).f1) t105 _ A15.out).mono ?_
         rintro e w20 ⟨rfl, hb⟩
         refine ⟨_, rfl, ?_⟩
         replace BK101 := Aside0.mk (blk_below (kB BK101) hb)
         replace HB := Aside0.mk (below_step (bB1 HB GE101) hb)
         (try clear hb)
         (try clear hb2)
         (try clear hk)
         (try clear hi)
         refine hK.out _ _ ⟨(blk_cell BK101.out 0).trans rfl, (blk_cell BK101.out 1).trans rfl, (blk_cell BK101.out 2).trans rfl, ((HB.out.cell (World.block_lt_of_cell? w _ hw104_0)).trans hw104_0), ((HB.out.cell (World.block_lt_of_cell? w _ hw104_1)).trans hw104_1)⟩ (fun hHeld => ?_)
         clear hK K
         refine nZ (some 35) ?_
         refine pS 8 (some 38) HT_ ?_
         refine done_ (done_of HT_.out (by kernel_rfl)) ?_
         try go_wp2
         go_roundg k2
         case measure => have := HK1.out; have := HK2.out; omega
         case rel => exact ⟨(wrap64 (x8_2 + 1)), sB, H', ⟨by have := HK1.out; have := HK2.out; omega⟩, ⟨by (with_reducible repeat (first | refine blk_drewN ?_ _ | refine blk_drew ?_ | refine blk_alloc ?_ _)); exact BK101.out⟩, ⟨bB1 HB GE101⟩⟩
       ·rw [if_neg c14] at H
        exact absurd H (by simp)
      ·rw [if_neg c13] at H
       have c13b0 : decide (x8_2 < (l1.length : Int)) = false := decide_eq_false c13
       clear c13
       obtain rfl := Option.some.inj H
       go_wp2
       go_ret
       exact ⟨eB, bB1 HB GE101⟩
def gooseneckref01_directions.l0 : Nat → List (S23) → List (S75) → Int → Option ((List (S75)))
 | 0, _, _, _ => none
 | k + 1, x0, x3, x4 => if x4 < (x0.length : Int) then (if (x0.length : Int) = 0 then (none) else (if 0 ≤ (Int.tmod (wrap64 (x4 + 1)) (x0.length : Int)) then (if (Int.tmod (wrap64 (x4 + 1)) (x0.length : Int)) < (x0.length : Int) then (if 0 ≤ x4 then ((some (([(⟨wrap64 (((rd_T23 x0 (Int.tmod (wrap64 (x4 + 1)) (x0.length : Int))).f0) - ((rd_T23 x0 x4).f0)), wrap64 (((rd_T23 x0 (Int.tmod (wrap64 (x4 + 1)) (x0.length : Int))).f1) - ((rd_T23 x0 x4).f1)), 0⟩ : S75), (⟨wrap64 (-(wrap64 (((rd_T23 x0 (Int.tmod (wrap64 (x4 + 1)) (x0.length : Int))).f0) - ((rd_T23 x0 x4).f0)))), wrap64 (-(wrap64 (((rd_T23 x0 (Int.tmod (wrap64 (x4 + 1)) (x0.length : Int))).f1) - ((rd_T23 x0 x4).f1)))), 0⟩ : S75), (⟨wrap64 (((rd_T23 x0 (Int.tmod (wrap64 (x4 + 1)) (x0.length : Int))).f1) - ((rd_T23 x0 x4).f1)), wrap64 (-(wrap64 (((rd_T23 x0 (Int.tmod (wrap64 (x4 + 1)) (x0.length : Int))).f0) - ((rd_T23 x0 x4).f0)))), 0⟩ : S75), (⟨wrap64 (-(wrap64 (((rd_T23 x0 (Int.tmod (wrap64 (x4 + 1)) (x0.length : Int))).f1) - ((rd_T23 x0 x4).f1)))), wrap64 (((rd_T23 x0 (Int.tmod (wrap64 (x4 + 1)) (x0.length : Int))).f0) - ((rd_T23 x0 x4).f0)), 0⟩ : S75)] : List (S75)) : List (S75))).bind fun y105 => (if x3.length + y105.length < 5864062014805 then (gooseneckref01_directions.l0 k x0 (x3 ++ y105) (wrap64 (x4 + 1))) else (none))) else (none)) else (none)) else (none))) else (some x3)
def gooseneckref01_directions.f (k : Nat) (l0 : List (S23)) : Option ((List (S75))) := gooseneckref01_directions.l0 k l0 ([] : List (S75)) 0
theorem gooseneckref01_directions.mono_l : ∀ k, (∀ y0 y1 y2, LeO (gooseneckref01_directions.l0 k y0 y1 y2) (gooseneckref01_directions.l0 (k + 1) y0 y1 y2))
 | 0 => fun _ _ _ r h => by simp [gooseneckref01_directions.l0] at h
 | k + 1 => by
  have ih0 := gooseneckref01_directions.mono_l k
  ·intro y0 y1 y2
   unfold gooseneckref01_directions.l0
   repeat' first
   | (with_reducible exact ih0 _ _ _)
   | (with_reducible exact LeO.refl _)
   | (with_reducible exact LeO.none _)
   | (with_reducible refine LeO.ite ?_ ?_)
   | (with_reducible refine LeO.bind ?_ (fun _ => ?_))
   | exact ih0 _ _ _
   | exact LeO.none _
   | refine LeO.ite ?_ ?_
   | refine LeO.bind ?_ (fun _ => ?_)
theorem gooseneckref01_directions.mono : ∀ a0 k, LeO (gooseneckref01_directions.f k a0) (gooseneckref01_directions.f (k + 1) a0) := by
 intro a0 k
 have ih0 := gooseneckref01_directions.mono_l k
 unfold gooseneckref01_directions.f
 repeat' first
   | (with_reducible exact ih0 _ _ _)
   | (with_reducible exact LeO.refl _)
   | (with_reducible exact LeO.none _)
   | (with_reducible refine LeO.ite ?_ ?_)
   | (with_reducible refine LeO.bind ?_ (fun _ => ?_))
   | exact ih0 _ _ _
   | exact LeO.none _
   | refine LeO.ite ?_ ?_
   | refine LeO.bind ?_ (fun _ => ?_)
set_option maxHeartbeats 8000000 in
set_option maxRecDepth 100000 in
theorem gooseneckref01_directions.calls (k : Nat) (A0 : Option Addr) (c0 : Nat) (l0 : List (S23)) (r : List (S75)) (w : World) (hr0 : Kd.C k23 w A0 l0.length l0) (hc0 : l0.length ≤ c0) (h : gooseneckref01_directions.f k l0 = some r) :
  Calls Try.prog 129 #[.slice A0 l0.length c0] w fun e w' => ∃ v0_ : Value, e = .returned (v0_) ∧ Kd.R k75 75 w' w.heap.size (fun _ => True) v0_ r ∧ Below w.heap.size w w' := by
 have hu75 := Try.underlying75
 have HR0 := Aside0.mk hr0
 have HC0 := Aside0.mk hc0
 clear hr0 hc0
 have HB := Aside0.mk (Below.refl w.heap.size w)
 have H : (gooseneckref01_directions.l0 k l0 ([] : List (S75)) 0) = some r := h
 clear h
 have H' := Aside0.mk H
 clear H
 go_enter Try.func129, Try.ntmps129
 go_wp2
 repeat (go_quiet (fail); try go_wp2)
 go_loopg [3, 4] k (fun kq v3 v4 w' => ∃ (x3_1 : List (S75)) (x4_1 : Int), v4 = .int .i64 x4_1 ∧ Aside0 (gooseneckref01_directions.l0 kq l0 x3_1 x4_1 = some r) ∧ Aside0 (kq ≤ k) ∧ Aside0 (Kd.R k75 75 w' w.heap.size (fun _ => True) v3 x3_1) ∧ Aside0 (Below w.heap.size w w'))
 case atStart => exact ⟨(([] : List (S75))), (0), sB, H', ⟨Nat.le_refl _⟩, ⟨by first | exact Kd.R_nil _ _ _ _ _ | exact Kd.N_nil _ _ _ _ _ | exact Kd.V_nil _ _ _ _ _ | exact Kd.Q_nil _ _ _ _ _ | exact Kd.S_nil _ _ _ _ _⟩, ⟨bB0 HB⟩⟩
 case round =>
  clear H'
  try clear c1
  obtain ⟨x3_1, x4_1, rfl, HA, HK1, HO_3, HB⟩ := hrel
  cases gk with
  | zero => exact absurd HA.out (by simp [gooseneckref01_directions.l0])
  | succ k1 =>
   have H := HA.out
   clear HA
   simp only [gooseneckref01_directions.l0] at H
   by_cases c2 : x4_1 < (l0.length : Int)
   ·rw [if_pos c2] at H
    have c2b0 : decide (x4_1 < (l0.length : Int)) = true := decide_eq_true c2
    clear c2
    by_cases c3 : (l0.length : Int) = 0
    ·rw [if_pos c3] at H
     exact absurd H (by simp)
    ·rw [if_neg c3] at H
     have c3b0 : ((l0.length : Int) == 0) = false := beq_eq_false_iff_ne.mpr c3
     have c3b1 : ((l0.length : Int) != 0) = true := bne_iff_ne.mpr c3
     have c3b2 : ¬ (l0 = []) := fun h_ => c3 (by rw [h_]; rfl)
     obtain ⟨ji4, hji4⟩ : ∃ j_ : Int, (Int.tmod (wrap64 (x4_1 + 1)) (l0.length : Int)) = j_ := ⟨_, rfl⟩
     replace H : (if 0 ≤ (ji4) then (if (ji4) < (l0.length : Int) then (if 0 ≤ x4_1 then ((some (([(⟨wrap64 (((rd_T23 l0 (ji4)).f0) - ((rd_T23 l0 x4_1).f0)), wrap64 (((rd_T23 l0 (ji4)).f1) - ((rd_T23 l0 x4_1).f1)), 0⟩ : S75), (⟨wrap64 (-(wrap64 (((rd_T23 l0 (ji4)).f0) - ((rd_T23 l0 x4_1).f0)))), wrap64 (-(wrap64 (((rd_T23 l0 (ji4)).f1) - ((rd_T23 l0 x4_1).f1)))), 0⟩ : S75), (⟨wrap64 (((rd_T23 l0 (ji4)).f1) - ((rd_T23 l0 x4_1).f1)), wrap64 (-(wrap64 (((rd_T23 l0 (ji4)).f0) - ((rd_T23 l0 x4_1).f0)))), 0⟩ : S75), (⟨wrap64 (-(wrap64 (((rd_T23 l0 (ji4)).f1) - ((rd_T23 l0 x4_1).f1)))), wrap64 (((rd_T23 l0 (ji4)).f0) - ((rd_T23 l0 x4_1).f0)), 0⟩ : S75)] : List (S75)) : List (S75))).bind fun y105 => (if x3_1.length + y105.length < 5864062014805 then (gooseneckref01_directions.l0 k1 l0 (x3_1 ++ y105) (wrap64 (x4_1 + 1))) else (none))) else (none)) else (none)) else (none)) = some r := by first | (rw [hji4] at H; exact H) | (simp only [hji4] at H ⊢; exact H)
     by_cases c5 : 0 ≤ (ji4)
     ·rw [if_pos c5] at H
      have c5b0 : decide (0 ≤ (ji4)) = true := decide_eq_true c5
      clear c5
      by_cases c6 : (ji4) < (l0.length : Int)
      ·rw [if_pos c6] at H
       have c6b0 : decide ((ji4) < (l0.length : Int)) = true := decide_eq_true c6
       clear c6
       by_cases c7 : 0 ≤ x4_1
       ·rw [if_pos c7] at H
        have c7b0 : decide (0 ≤ x4_1) = true := decide_eq_true c7
        clear c7
        obtain ⟨y105, hy105⟩ : ∃ y_ : List (S75), y_ = (([(⟨wrap64 (((rd_T23 l0 (ji4)).f0) - ((rd_T23 l0 x4_1).f0)), wrap64 (((rd_T23 l0 (ji4)).f1) - ((rd_T23 l0 x4_1).f1)), 0⟩ : S75), (⟨wrap64 (-(wrap64 (((rd_T23 l0 (ji4)).f0) - ((rd_T23 l0 x4_1).f0)))), wrap64 (-(wrap64 (((rd_T23 l0 (ji4)).f1) - ((rd_T23 l0 x4_1).f1)))), 0⟩ : S75), (⟨wrap64 (((rd_T23 l0 (ji4)).f1) - ((rd_T23 l0 x4_1).f1)), wrap64 (-(wrap64 (((rd_T23 l0 (ji4)).f0) - ((rd_T23 l0 x4_1).f0)))), 0⟩ : S75), (⟨wrap64 (-(wrap64 (((rd_T23 l0 (ji4)).f1) - ((rd_T23 l0 x4_1).f1)))), wrap64 (((rd_T23 l0 (ji4)).f0) - ((rd_T23 l0 x4_1).f0)), 0⟩ : S75)] : List (S75))) := ⟨_, rfl⟩
        replace H : (if x3_1.length + y105.length < 5864062014805 then (gooseneckref01_directions.l0 k1 l0 (x3_1 ++ y105) (wrap64 (x4_1 + 1))) else (none)) = some r := by first | (rw [hy105]; with_reducible exact H) | (have H2_ := (Option.bind_some _ _).symm.trans H; rw [hy105]; with_reducible exact H2_) | (have H2_ := (Option.bind_some _ _).symm.trans H; with_reducible exact H2_) | with_reducible exact H | (rw [hy105]; exact H) | exact H
        have Ny105 := Aside0.mk hy105
        clear hy105
        by_cases c8 : x3_1.length + y105.length < 5864062014805
        ·rw [if_pos c8] at H
         have LMc8 := Aside0.mk c8
         clear c8
         obtain ⟨y108, hy108⟩ : ∃ y_ : List (S75), y_ = (x3_1 ++ y105) := ⟨_, rfl⟩
         replace H : (gooseneckref01_directions.l0 k1 l0 y108 (wrap64 (x4_1 + 1))) = some r := by first | (rw [hy108]; with_reducible exact H) | (have H2_ := (Option.bind_some _ _).symm.trans H; rw [hy108]; with_reducible exact H2_) | (have H2_ := (Option.bind_some _ _).symm.trans H; with_reducible exact H2_) | with_reducible exact H | (rw [hy108]; exact H) | exact H
         have Ny108 := Aside0.mk hy108
         clear hy108
         have H' := Aside0.mk H
         clear H
         have p101 : 0 ≤ ((ji4) : Int) := oB
         have q101 : (ji4) < (l0.length : Int) := oB
         obtain ⟨ad101, e101, hx101_0, hx101_1⟩ := at_T23 HR0.out (ji4) p101 q101
         cases e101
         replace hx101_0 := (HB.out.cell (World.block_lt_of_cell? w _ hx101_0)).trans hx101_0
         replace hx101_1 := (HB.out.cell (World.block_lt_of_cell? w _ hx101_1)).trans hx101_1
         replace p101 := eq_true p101
         replace q101 := eq_true q101
         have p102 : 0 ≤ (x4_1 : Int) := oB
         have q102 : x4_1 < (l0.length : Int) := oB
         obtain ⟨ad102, e102, hx102_0, hx102_1⟩ := at_T23 HR0.out x4_1 p102 q102
         obtain rfl : ad101 = ad102 := (by injection e102)
         replace hx102_0 := (HB.out.cell (World.block_lt_of_cell? w _ hx102_0)).trans hx102_0
         replace hx102_1 := (HB.out.cell (World.block_lt_of_cell? w _ hx102_1)).trans hx102_1
         replace p102 := eq_true p102
         replace q102 := eq_true q102
         have p103 : 0 ≤ ((ji4) : Int) := oB
         have q103 : (ji4) < (l0.length : Int) := oB
         obtain ⟨ad103, e103, hx103_0, hx103_1⟩ := at_T23 HR0.out (ji4) p103 q103
         obtain rfl : ad101 = ad103 := (by injection e103)
         replace hx103_0 := (HB.out.cell (World.block_lt_of_cell? w _ hx103_0)).trans hx103_0
         replace hx103_1 := (HB.out.cell (World.block_lt_of_cell? w _ hx103_1)).trans hx103_1
         replace p103 := eq_true p103
         replace q103 := eq_true q103
         have p104 : 0 ≤ (x4_1 : Int) := oB
         have q104 : x4_1 < (l0.length : Int) := oB
         obtain ⟨ad104, e104, hx104_0, hx104_1⟩ := at_T23 HR0.out x4_1 p104 q104
         obtain rfl : ad101 = ad104 := (by injection e104)
         replace hx104_0 := (HB.out.cell (World.block_lt_of_cell? w _ hx104_0)).trans hx104_0
         replace hx104_1 := (HB.out.cell (World.block_lt_of_cell? w _ hx104_1)).trans hx104_1
         replace p104 := eq_true p104
         replace q104 := eq_true q104
         go_wp2_with (first | ((with_reducible refine gate_dst (N := 58) rfl ?_); refine Kd.R_lit k75 _ 75 ?hg (N := 58) ?hd (xs := ([(⟨wrap64 (((rd_T23 l0 (ji4)).f0) - ((rd_T23 l0 x4_1).f0)), wrap64 (((rd_T23 l0 (ji4)).f1) - ((rd_T23 l0 x4_1).f1)), 0⟩ : S75), (⟨wrap64 (-(wrap64 (((rd_T23 l0 (ji4)).f0) - ((rd_T23 l0 x4_1).f0)))), wrap64 (-(wrap64 (((rd_T23 l0 (ji4)).f1) - ((rd_T23 l0 x4_1).f1)))), 0⟩ : S75), (⟨wrap64 (((rd_T23 l0 (ji4)).f1) - ((rd_T23 l0 x4_1).f1)), wrap64 (-(wrap64 (((rd_T23 l0 (ji4)).f0) - ((rd_T23 l0 x4_1).f0)))), 0⟩ : S75), (⟨wrap64 (-(wrap64 (((rd_T23 l0 (ji4)).f1) - ((rd_T23 l0 x4_1).f1)))), wrap64 (((rd_T23 l0 (ji4)).f0) - ((rd_T23 l0 x4_1).f0)), 0⟩ : S75)] : List (S75))) (inner := [.int .i64 (wrap64 (((rd_T23 l0 (ji4)).f0) - ((rd_T23 l0 x4_1).f0))), .int .i64 (wrap64 (((rd_T23 l0 (ji4)).f1) - ((rd_T23 l0 x4_1).f1))), .int .i64 0, .int .i64 (wrap64 (-(wrap64 (((rd_T23 l0 (ji4)).f0) - ((rd_T23 l0 x4_1).f0))))), .int .i64 (wrap64 (-(wrap64 (((rd_T23 l0 (ji4)).f1) - ((rd_T23 l0 x4_1).f1))))), .int .i64 0, .int .i64 (wrap64 (((rd_T23 l0 (ji4)).f1) - ((rd_T23 l0 x4_1).f1))), .int .i64 (wrap64 (-(wrap64 (((rd_T23 l0 (ji4)).f0) - ((rd_T23 l0 x4_1).f0))))), .int .i64 0, .int .i64 (wrap64 (-(wrap64 (((rd_T23 l0 (ji4)).f1) - ((rd_T23 l0 x4_1).f1))))), .int .i64 (wrap64 (((rd_T23 l0 (ji4)).f0) - ((rd_T23 l0 x4_1).f0))), .int .i64 0]) (ok := fun _ => True) (okp := fun _ => True) ?hr ?hp (fun _ hk => hk) trivial (Below.refl _ _) (Nat.le_refl _) (by simp) ?_; (case hd => rfl); (case hg => rfl); (case hr => first | (go_simp; done) | (go_simp; rfl)); (case hp => exact (Reps.c3 (show Kd.M k75 _ _ _ (⟨wrap64 (((rd_T23 l0 (ji4)).f0) - ((rd_T23 l0 x4_1).f0)), wrap64 (((rd_T23 l0 (ji4)).f1) - ((rd_T23 l0 x4_1).f1)), 0⟩ : S75) [.int .i64 (wrap64 (((rd_T23 l0 (ji4)).f0) - ((rd_T23 l0 x4_1).f0))), .int .i64 (wrap64 (((rd_T23 l0 (ji4)).f1) - ((rd_T23 l0 x4_1).f1))), .int .i64 0] from (k75_mkM _ _ _ (⟨wrap64 (((rd_T23 l0 (ji4)).f0) - ((rd_T23 l0 x4_1).f0)), wrap64 (((rd_T23 l0 (ji4)).f1) - ((rd_T23 l0 x4_1).f1)), 0⟩ : S75) )) (Reps.c3 (show Kd.M k75 _ _ _ (⟨wrap64 (-(wrap64 (((rd_T23 l0 (ji4)).f0) - ((rd_T23 l0 x4_1).f0)))), wrap64 (-(wrap64 (((rd_T23 l0 (ji4)).f1) - ((rd_T23 l0 x4_1).f1)))), 0⟩ : S75) [.int .i64 (wrap64 (-(wrap64 (((rd_T23 l0 (ji4)).f0) - ((rd_T23 l0 x4_1).f0))))), .int .i64 (wrap64 (-(wrap64 (((rd_T23 l0 (ji4)).f1) - ((rd_T23 l0 x4_1).f1))))), .int .i64 0] from (k75_mkM _ _ _ (⟨wrap64 (-(wrap64 (((rd_T23 l0 (ji4)).f0) - ((rd_T23 l0 x4_1).f0)))), wrap64 (-(wrap64 (((rd_T23 l0 (ji4)).f1) - ((rd_T23 l0 x4_1).f1)))), 0⟩ : S75) )) (Reps.c3 (show Kd.M k75 _ _ _ (⟨wrap64 (((rd_T23 l0 (ji4)).f1) - ((rd_T23 l0 x4_1).f1)), wrap64 (-(wrap64 (((rd_T23 l0 (ji4)).f0) - ((rd_T23 l0 x4_1).f0)))), 0⟩ : S75) [.int .i64 (wrap64 (((rd_T23 l0 (ji4)).f1) - ((rd_T23 l0 x4_1).f1))), .int .i64 (wrap64 (-(wrap64 (((rd_T23 l0 (ji4)).f0) - ((rd_T23 l0 x4_1).f0))))), .int .i64 0] from (k75_mkM _ _ _ (⟨wrap64 (((rd_T23 l0 (ji4)).f1) - ((rd_T23 l0 x4_1).f1)), wrap64 (-(wrap64 (((rd_T23 l0 (ji4)).f0) - ((rd_T23 l0 x4_1).f0)))), 0⟩ : S75) )) (Reps.c3 (show Kd.M k75 _ _ _ (⟨wrap64 (-(wrap64 (((rd_T23 l0 (ji4)).f1) - ((rd_T23 l0 x4_1).f1)))), wrap64 (((rd_T23 l0 (ji4)).f0) - ((rd_T23 l0 x4_1).f0)), 0⟩ : S75) [.int .i64 (wrap64 (-(wrap64 (((rd_T23 l0 (ji4)).f1) - ((rd_T23 l0 x4_1).f1))))), .int .i64 (wrap64 (((rd_T23 l0 (ji4)).f0) - ((rd_T23 l0 x4_1).f0))), .int .i64 0] from (k75_mkM _ _ _ (⟨wrap64 (-(wrap64 (((rd_T23 l0 (ji4)).f1) - ((rd_T23 l0 x4_1).f1)))), wrap64 (((rd_T23 l0 (ji4)).f0) - ((rd_T23 l0 x4_1).f0)), 0⟩ : S75) )) (Reps.none _ _)))))); intro v106 w9 ho10 hb hg_ hnew_; clear hg_ hnew_; (first | rw [← Ny105.out] at ho10 | (simp only [Int.reduceToNat] at ho10; rw [← Ny105.out] at ho10)); have n0_ := Aside0.mk (Kd.R_elder' (rB HO_3) (Kd.R_base ho10) hb); have HO107 := Aside0.mk (Kd.R_lower (Kd.R_new' ho10 (Kd.R_lt (rB HO_3))) (below_size (bB0 HB))); replace HB := Aside0.mk (below_step (bB0 HB) hb); clear HO_3; have HO_3 := n0_; clear n0_; clear hb ho10; obtain ⟨Ao12, co12, eo12⟩ := Kd.R_slice HO107.out; subst eo12) | ((with_reducible refine gate_builtin (b := .append) (xs := #[.tmp 41, .tmp 58]) rfl ?_); at_builtin; refine Kd.R_append_rows k75 (w0 := w) w.heap.size rfl (.tmp 41) (.tmp 58) 134 75 (.agg #[(.int .i64 0), (.int .i64 0), (.int .i64 0)]) 24 rfl Try.underlying134 info75 rfl (by decide) (by omega) u3 x3_1 y105 _ _ _ (fun k_ => some k_ ≠ (.slice Ao12 y105.length co12 : Value).ownBlock) (fun _ => False) rfl rfl ?aO ?aR (fun _ _ h => h) (fun _ h => h.elim) ?aF ?aB ?aS ?aL ?_; (case aR => exact cB2 HO107); (case aB => exact (bB0 HB)); (case aF => exact (fun k_ hk => Kd.fresh' (Kd.R_lt (rB HO107)) k_ hk)); (case aO => exact (by (with_reducible repeat (first | apply Kd.R_alloc | apply Kd.R_drewN | apply Kd.R_drew)); exact Kd.R_mono HO_3.out (fun _ hk => hk.2))); (case aS => exact (below_size (bB0 HB))); (case aL => have := LMc8.out; omega); intro v109 w11 ho hb hg hat; rw [← Ny108.out] at ho; replace HO107 := Aside0.mk (Kd.R_after (ok := (fun _ => True)) (rB HO107) hg hat); replace HB := Aside0.mk (hb); have HO110 := Aside0.mk (ho); clear HO_3; clear ho hb hg hat))
         repeat (go_quiet (first | ((with_reducible refine gate_dst (N := 58) rfl ?_); refine Kd.R_lit k75 _ 75 ?hg (N := 58) ?hd (xs := ([(⟨wrap64 (((rd_T23 l0 (ji4)).f0) - ((rd_T23 l0 x4_1).f0)), wrap64 (((rd_T23 l0 (ji4)).f1) - ((rd_T23 l0 x4_1).f1)), 0⟩ : S75), (⟨wrap64 (-(wrap64 (((rd_T23 l0 (ji4)).f0) - ((rd_T23 l0 x4_1).f0)))), wrap64 (-(wrap64 (((rd_T23 l0 (ji4)).f1) - ((rd_T23 l0 x4_1).f1)))), 0⟩ : S75), (⟨wrap64 (((rd_T23 l0 (ji4)).f1) - ((rd_T23 l0 x4_1).f1)), wrap64 (-(wrap64 (((rd_T23 l0 (ji4)).f0) - ((rd_T23 l0 x4_1).f0)))), 0⟩ : S75), (⟨wrap64 (-(wrap64 (((rd_T23 l0 (ji4)).f1) - ((rd_T23 l0 x4_1).f1)))), wrap64 (((rd_T23 l0 (ji4)).f0) - ((rd_T23 l0 x4_1).f0)), 0⟩ : S75)] : List (S75))) (inner := [.int .i64 (wrap64 (((rd_T23 l0 (ji4)).f0) - ((rd_T23 l0 x4_1).f0))), .int .i64 (wrap64 (((rd_T23 l0 (ji4)).f1) - ((rd_T23 l0 x4_1).f1))), .int .i64 0, .int .i64 (wrap64 (-(wrap64 (((rd_T23 l0 (ji4)).f0) - ((rd_T23 l0 x4_1).f0))))), .int .i64 (wrap64 (-(wrap64 (((rd_T23 l0 (ji4)).f1) - ((rd_T23 l0 x4_1).f1))))), .int .i64 0, .int .i64 (wrap64 (((rd_T23 l0 (ji4)).f1) - ((rd_T23 l0 x4_1).f1))), .int .i64 (wrap64 (-(wrap64 (((rd_T23 l0 (ji4)).f0) - ((rd_T23 l0 x4_1).f0))))), .int .i64 0, .int .i64 (wrap64 (-(wrap64 (((rd_T23 l0 (ji4)).f1) - ((rd_T23 l0 x4_1).f1))))), .int .i64 (wrap64 (((rd_T23 l0 (ji4)).f0) - ((rd_T23 l0 x4_1).f0))), .int .i64 0]) (ok := fun _ => True) (okp := fun _ => True) ?hr ?hp (fun _ hk => hk) trivial (Below.refl _ _) (Nat.le_refl _) (by simp) ?_; (case hd => rfl); (case hg => rfl); (case hr => first | (go_simp; done) | (go_simp; rfl)); (case hp => exact (Reps.c3 (show Kd.M k75 _ _ _ (⟨wrap64 (((rd_T23 l0 (ji4)).f0) - ((rd_T23 l0 x4_1).f0)), wrap64 (((rd_T23 l0 (ji4)).f1) - ((rd_T23 l0 x4_1).f1)), 0⟩ : S75) [.int .i64 (wrap64 (((rd_T23 l0 (ji4)).f0) - ((rd_T23 l0 x4_1).f0))), .int .i64 (wrap64 (((rd_T23 l0 (ji4)).f1) - ((rd_T23 l0 x4_1).f1))), .int .i64 0] from (k75_mkM _ _ _ (⟨wrap64 (((rd_T23 l0 (ji4)).f0) - ((rd_T23 l0 x4_1).f0)), wrap64 (((rd_T23 l0 (ji4)).f1) - ((rd_T23 l0 x4_1).f1)), 0⟩ : S75) )) (Reps.c3 (show Kd.M k75 _ _ _ (⟨wrap64 (-(wrap64 (((rd_T23 l0 (ji4)).f0) - ((rd_T23 l0 x4_1).f0)))), wrap64 (-(wrap64 (((rd_T23 l0 (ji4)).f1) - ((rd_T23 l0 x4_1).f1)))), 0⟩ : S75) [.int .i64 (wrap64 (-(wrap64 (((rd_T23 l0 (ji4)).f0) - ((rd_T23 l0 x4_1).f0))))), .int .i64 (wrap64 (-(wrap64 (((rd_T23 l0 (ji4)).f1) - ((rd_T23 l0 x4_1).f1))))), .int .i64 0] from (k75_mkM _ _ _ (⟨wrap64 (-(wrap64 (((rd_T23 l0 (ji4)).f0) - ((rd_T23 l0 x4_1).f0)))), wrap64 (-(wrap64 (((rd_T23 l0 (ji4)).f1) - ((rd_T23 l0 x4_1).f1)))), 0⟩ : S75) )) (Reps.c3 (show Kd.M k75 _ _ _ (⟨wrap64 (((rd_T23 l0 (ji4)).f1) - ((rd_T23 l0 x4_1).f1)), wrap64 (-(wrap64 (((rd_T23 l0 (ji4)).f0) - ((rd_T23 l0 x4_1).f0)))), 0⟩ : S75) [.int .i64 (wrap64 (((rd_T23 l0 (ji4)).f1) - ((rd_T23 l0 x4_1).f1))), .int .i64 (wrap64 (-(wrap64 (((rd_T23 l0 (ji4)).f0) - ((rd_T23 l0 x4_1).f0))))), .int .i64 0] from (k75_mkM _ _ _ (⟨wrap64 (((rd_T23 l0 (ji4)).f1) - ((rd_T23 l0 x4_1).f1)), wrap64 (-(wrap64 (((rd_T23 l0 (ji4)).f0) - ((rd_T23 l0 x4_1).f0)))), 0⟩ : S75) )) (Reps.c3 (show Kd.M k75 _ _ _ (⟨wrap64 (-(wrap64 (((rd_T23 l0 (ji4)).f1) - ((rd_T23 l0 x4_1).f1)))), wrap64 (((rd_T23 l0 (ji4)).f0) - ((rd_T23 l0 x4_1).f0)), 0⟩ : S75) [.int .i64 (wrap64 (-(wrap64 (((rd_T23 l0 (ji4)).f1) - ((rd_T23 l0 x4_1).f1))))), .int .i64 (wrap64 (((rd_T23 l0 (ji4)).f0) - ((rd_T23 l0 x4_1).f0))), .int .i64 0] from (k75_mkM _ _ _ (⟨wrap64 (-(wrap64 (((rd_T23 l0 (ji4)).f1) - ((rd_T23 l0 x4_1).f1)))), wrap64 (((rd_T23 l0 (ji4)).f0) - ((rd_T23 l0 x4_1).f0)), 0⟩ : S75) )) (Reps.none _ _)))))); intro v106 w9 ho10 hb hg_ hnew_; clear hg_ hnew_; (first | rw [← Ny105.out] at ho10 | (simp only [Int.reduceToNat] at ho10; rw [← Ny105.out] at ho10)); have n0_ := Aside0.mk (Kd.R_elder' (rB HO_3) (Kd.R_base ho10) hb); have HO107 := Aside0.mk (Kd.R_lower (Kd.R_new' ho10 (Kd.R_lt (rB HO_3))) (below_size (bB0 HB))); replace HB := Aside0.mk (below_step (bB0 HB) hb); clear HO_3; have HO_3 := n0_; clear n0_; clear hb ho10; obtain ⟨Ao12, co12, eo12⟩ := Kd.R_slice HO107.out; subst eo12) | ((with_reducible refine gate_builtin (b := .append) (xs := #[.tmp 41, .tmp 58]) rfl ?_); at_builtin; refine Kd.R_append_rows k75 (w0 := w) w.heap.size rfl (.tmp 41) (.tmp 58) 134 75 (.agg #[(.int .i64 0), (.int .i64 0), (.int .i64 0)]) 24 rfl Try.underlying134 info75 rfl (by decide) (by omega) u3 x3_1 y105 _ _ _ (fun k_ => some k_ ≠ (.slice Ao12 y105.length co12 : Value).ownBlock) (fun _ => False) rfl rfl ?aO ?aR (fun _ _ h => h) (fun _ h => h.elim) ?aF ?aB ?aS ?aL ?_; (case aR => exact cB2 HO107); (case aB => exact (bB0 HB)); (case aF => exact (fun k_ hk => Kd.fresh' (Kd.R_lt (rB HO107)) k_ hk)); (case aO => exact (by (with_reducible repeat (first | apply Kd.R_alloc | apply Kd.R_drewN | apply Kd.R_drew)); exact Kd.R_mono HO_3.out (fun _ hk => hk.2))); (case aS => exact (below_size (bB0 HB))); (case aL => have := LMc8.out; omega); intro v109 w11 ho hb hg hat; rw [← Ny108.out] at ho; replace HO107 := Aside0.mk (Kd.R_after (ok := (fun _ => True)) (rB HO107) hg hat); replace HB := Aside0.mk (hb); have HO110 := Aside0.mk (ho); clear HO_3; clear ho hb hg hat)); try go_wp2_with (first | ((with_reducible refine gate_dst (N := 58) rfl ?_); refine Kd.R_lit k75 _ 75 ?hg (N := 58) ?hd (xs := ([(⟨wrap64 (((rd_T23 l0 (ji4)).f0) - ((rd_T23 l0 x4_1).f0)), wrap64 (((rd_T23 l0 (ji4)).f1) - ((rd_T23 l0 x4_1).f1)), 0⟩ : S75), (⟨wrap64 (-(wrap64 (((rd_T23 l0 (ji4)).f0) - ((rd_T23 l0 x4_1).f0)))), wrap64 (-(wrap64 (((rd_T23 l0 (ji4)).f1) - ((rd_T23 l0 x4_1).f1)))), 0⟩ : S75), (⟨wrap64 (((rd_T23 l0 (ji4)).f1) - ((rd_T23 l0 x4_1).f1)), wrap64 (-(wrap64 (((rd_T23 l0 (ji4)).f0) - ((rd_T23 l0 x4_1).f0)))), 0⟩ : S75), (⟨wrap64 (-(wrap64 (((rd_T23 l0 (ji4)).f1) - ((rd_T23 l0 x4_1).f1)))), wrap64 (((rd_T23 l0 (ji4)).f0) - ((rd_T23 l0 x4_1).f0)), 0⟩ : S75)] : List (S75))) (inner := [.int .i64 (wrap64 (((rd_T23 l0 (ji4)).f0) - ((rd_T23 l0 x4_1).f0))), .int .i64 (wrap64 (((rd_T23 l0 (ji4)).f1) - ((rd_T23 l0 x4_1).f1))), .int .i64 0, .int .i64 (wrap64 (-(wrap64 (((rd_T23 l0 (ji4)).f0) - ((rd_T23 l0 x4_1).f0))))), .int .i64 (wrap64 (-(wrap64 (((rd_T23 l0 (ji4)).f1) - ((rd_T23 l0 x4_1).f1))))), .int .i64 0, .int .i64 (wrap64 (((rd_T23 l0 (ji4)).f1) - ((rd_T23 l0 x4_1).f1))), .int .i64 (wrap64 (-(wrap64 (((rd_T23 l0 (ji4)).f0) - ((rd_T23 l0 x4_1).f0))))), .int .i64 0, .int .i64 (wrap64 (-(wrap64 (((rd_T23 l0 (ji4)).f1) - ((rd_T23 l0 x4_1).f1))))), .int .i64 (wrap64 (((rd_T23 l0 (ji4)).f0) - ((rd_T23 l0 x4_1).f0))), .int .i64 0]) (ok := fun _ => True) (okp := fun _ => True) ?hr ?hp (fun _ hk => hk) trivial (Below.refl _ _) (Nat.le_refl _) (by simp) ?_; (case hd => rfl); (case hg => rfl); (case hr => first | (go_simp; done) | (go_simp; rfl)); (case hp => exact (Reps.c3 (show Kd.M k75 _ _ _ (⟨wrap64 (((rd_T23 l0 (ji4)).f0) - ((rd_T23 l0 x4_1).f0)), wrap64 (((rd_T23 l0 (ji4)).f1) - ((rd_T23 l0 x4_1).f1)), 0⟩ : S75) [.int .i64 (wrap64 (((rd_T23 l0 (ji4)).f0) - ((rd_T23 l0 x4_1).f0))), .int .i64 (wrap64 (((rd_T23 l0 (ji4)).f1) - ((rd_T23 l0 x4_1).f1))), .int .i64 0] from (k75_mkM _ _ _ (⟨wrap64 (((rd_T23 l0 (ji4)).f0) - ((rd_T23 l0 x4_1).f0)), wrap64 (((rd_T23 l0 (ji4)).f1) - ((rd_T23 l0 x4_1).f1)), 0⟩ : S75) )) (Reps.c3 (show Kd.M k75 _ _ _ (⟨wrap64 (-(wrap64 (((rd_T23 l0 (ji4)).f0) - ((rd_T23 l0 x4_1).f0)))), wrap64 (-(wrap64 (((rd_T23 l0 (ji4)).f1) - ((rd_T23 l0 x4_1).f1)))), 0⟩ : S75) [.int .i64 (wrap64 (-(wrap64 (((rd_T23 l0 (ji4)).f0) - ((rd_T23 l0 x4_1).f0))))), .int .i64 (wrap64 (-(wrap64 (((rd_T23 l0 (ji4)).f1) - ((rd_T23 l0 x4_1).f1))))), .int .i64 0] from (k75_mkM _ _ _ (⟨wrap64 (-(wrap64 (((rd_T23 l0 (ji4)).f0) - ((rd_T23 l0 x4_1).f0)))), wrap64 (-(wrap64 (((rd_T23 l0 (ji4)).f1) - ((rd_T23 l0 x4_1).f1)))), 0⟩ : S75) )) (Reps.c3 (show Kd.M k75 _ _ _ (⟨wrap64 (((rd_T23 l0 (ji4)).f1) - ((rd_T23 l0 x4_1).f1)), wrap64 (-(wrap64 (((rd_T23 l0 (ji4)).f0) - ((rd_T23 l0 x4_1).f0)))), 0⟩ : S75) [.int .i64 (wrap64 (((rd_T23 l0 (ji4)).f1) - ((rd_T23 l0 x4_1).f1))), .int .i64 (wrap64 (-(wrap64 (((rd_T23 l0 (ji4)).f0) - ((rd_T23 l0 x4_1).f0))))), .int .i64 0] from (k75_mkM _ _ _ (⟨wrap64 (((rd_T23 l0 (ji4)).f1) - ((rd_T23 l0 x4_1).f1)), wrap64 (-(wrap64 (((rd_T23 l0 (ji4)).f0) - ((rd_T23 l0 x4_1).f0)))), 0⟩ : S75) )) (Reps.c3 (show Kd.M k75 _ _ _ (⟨wrap64 (-(wrap64 (((rd_T23 l0 (ji4)).f1) - ((rd_T23 l0 x4_1).f1)))), wrap64 (((rd_T23 l0 (ji4)).f0) - ((rd_T23 l0 x4_1).f0)), 0⟩ : S75) [.int .i64 (wrap64 (-(wrap64 (((rd_T23 l0 (ji4)).f1) - ((rd_T23 l0 x4_1).f1))))), .int .i64 (wrap64 (((rd_T23 l0 (ji4)).f0) - ((rd_T23 l0 x4_1).f0))), .int .i64 0] from (k75_mkM _ _ _ (⟨wrap64 (-(wrap64 (((rd_T23 l0 (ji4)).f1) - ((rd_T23 l0 x4_1).f1)))), wrap64 (((rd_T23 l0 (ji4)).f0) - ((rd_T23 l0 x4_1).f0)), 0⟩ : S75) )) (Reps.none _ _)))))); intro v106 w9 ho10 hb hg_ hnew_; clear hg_ hnew_; (first | rw [← Ny105.out] at ho10 | (simp only [Int.reduceToNat] at ho10; rw [← Ny105.out] at ho10)); have n0_ := Aside0.mk (Kd.R_elder' (rB HO_3) (Kd.R_base ho10) hb); have HO107 := Aside0.mk (Kd.R_lower (Kd.R_new' ho10 (Kd.R_lt (rB HO_3))) (below_size (bB0 HB))); replace HB := Aside0.mk (below_step (bB0 HB) hb); clear HO_3; have HO_3 := n0_; clear n0_; clear hb ho10; obtain ⟨Ao12, co12, eo12⟩ := Kd.R_slice HO107.out; subst eo12) | ((with_reducible refine gate_builtin (b := .append) (xs := #[.tmp 41, .tmp 58]) rfl ?_); at_builtin; refine Kd.R_append_rows k75 (w0 := w) w.heap.size rfl (.tmp 41) (.tmp 58) 134 75 (.agg #[(.int .i64 0), (.int .i64 0), (.int .i64 0)]) 24 rfl Try.underlying134 info75 rfl (by decide) (by omega) u3 x3_1 y105 _ _ _ (fun k_ => some k_ ≠ (.slice Ao12 y105.length co12 : Value).ownBlock) (fun _ => False) rfl rfl ?aO ?aR (fun _ _ h => h) (fun _ h => h.elim) ?aF ?aB ?aS ?aL ?_; (case aR => exact cB2 HO107); (case aB => exact (bB0 HB)); (case aF => exact (fun k_ hk => Kd.fresh' (Kd.R_lt (rB HO107)) k_ hk)); (case aO => exact (by (with_reducible repeat (first | apply Kd.R_alloc | apply Kd.R_drewN | apply Kd.R_drew)); exact Kd.R_mono HO_3.out (fun _ hk => hk.2))); (case aS => exact (below_size (bB0 HB))); (case aL => have := LMc8.out; omega); intro v109 w11 ho hb hg hat; rw [← Ny108.out] at ho; replace HO107 := Aside0.mk (Kd.R_after (ok := (fun _ => True)) (rB HO107) hg hat); replace HB := Aside0.mk (hb); have HO110 := Aside0.mk (ho); clear HO_3; clear ho hb hg hat)))
         go_roundg k1
         case measure => have := HK1.out; omega
         case rel => exact ⟨(y108), (wrap64 (x4_1 + 1)), sB, H', ⟨by have := HK1.out; omega⟩, ⟨by (with_reducible repeat (first | apply Kd.R_alloc | apply Kd.R_drewN | apply Kd.R_drew)); exact Kd.R_mono HO110.out (fun _ hk => trivial)⟩, ⟨bB0 HB⟩⟩
        ·rw [if_neg c8] at H
         exact absurd H (by simp)
       ·rw [if_neg c7] at H
        exact absurd H (by simp)
      ·rw [if_neg c6] at H
       exact absurd H (by simp)
     ·rw [if_neg c5] at H
      exact absurd H (by simp)
   ·rw [if_neg c2] at H
    have c2b0 : decide (x4_1 < (l0.length : Int)) = false := decide_eq_false c2
    clear c2
    obtain rfl := Option.some.inj H
    go_wp2
    repeat (go_quiet (fail); try go_wp2)
    go_ret
    exact ⟨_, eB, rB HO_3, bB0 HB⟩
def gooseneckref01_level.l0 : Nat → List (S23) → Int → Int → Int → Int → Option (Int × Int × Int)
 | 0, _, _, _, _, _ => none
 | k + 1, x1, x5, x102000, x102001, x102002 => if x5 < (x1.length : Int) then (if 0 ≤ x5 then ((gooseneckref01_dot.f x102000 x102001 x102002 ((rd_T23 x1 x5).f0) ((rd_T23 x1 x5).f1)).bind fun t106 => (gooseneckref01_level.l0 k x1 (wrap64 (x5 + 1)) x102000 x102001 (mx x102002 t106))) else (none)) else (some (x102000, x102001, x102002))
def gooseneckref01_level.f (k : Nat) (a0_0 : Int) (a0_1 : Int) (a0_2 : Int) (l1 : List (S23)) : Option (Int × Int × Int) := if 0 < (l1.length : Int) then ((gooseneckref01_dot.f a0_0 a0_1 a0_2 ((rd_T23 l1 0).f0) ((rd_T23 l1 0).f1)).bind fun t104 => (gooseneckref01_level.l0 k l1 1 a0_0 a0_1 t104)) else (none)
theorem gooseneckref01_level.mono_l : ∀ k, (∀ y0 y1 y2 y3 y4, LeO (gooseneckref01_level.l0 k y0 y1 y2 y3 y4) (gooseneckref01_level.l0 (k + 1) y0 y1 y2 y3 y4))
 | 0 => fun _ _ _ _ _ r h => by simp [gooseneckref01_level.l0] at h
 | k + 1 => by
  have ih0 := gooseneckref01_level.mono_l k
  ·intro y0 y1 y2 y3 y4
   unfold gooseneckref01_level.l0
   repeat' first
   | (with_reducible exact ih0 _ _ _ _ _)
   | (with_reducible exact LeO.refl _)
   | (with_reducible exact LeO.none _)
   | (with_reducible refine LeO.ite ?_ ?_)
   | (with_reducible refine LeO.bind ?_ (fun _ => ?_))
   | exact ih0 _ _ _ _ _
   | exact LeO.none _
   | refine LeO.ite ?_ ?_
   | refine LeO.bind ?_ (fun _ => ?_)
theorem gooseneckref01_level.mono : ∀ a0 a1 a2 a3 k, LeO (gooseneckref01_level.f k a0 a1 a2 a3) (gooseneckref01_level.f (k + 1) a0 a1 a2 a3) := by
 intro a0 a1 a2 a3 k
 have ih0 := gooseneckref01_level.mono_l k
 unfold gooseneckref01_level.f
 repeat' first
   | (with_reducible exact ih0 _ _ _ _ _)
   | (with_reducible exact LeO.refl _)
   | (with_reducible exact LeO.none _)
   | (with_reducible refine LeO.ite ?_ ?_)
   | (with_reducible refine LeO.bind ?_ (fun _ => ?_))
   | exact ih0 _ _ _ _ _
   | exact LeO.none _
   | refine LeO.ite ?_ ?_
   | refine LeO.bind ?_ (fun _ => ?_)
def gooseneckref01_level.T5 : Bool × List (List Nat × List Nat) := (true, [([], []), ([0], [0]), ([], []), ([], []), ([], []), ([3, 4], [3, 4]), ([5], [5]), ([2, 6], [2, 6]), ([1, 7], [1, 7]), ([0, 1, 2, 3, 4, 5, 6, 7, 8], []), ([9, 8, 7, 0, 1, 2, 3, 4, 5, 6, 7, 8], [8, 9])])
def gooseneckref01_level.B5 : List Nat := [0, 1, 0, 0, 0, 24, 56, 124, 255, 511, 1023]
theorem gooseneckref01_level.tab5 : rtab .any (opsOf Try.f130 5) = gooseneckref01_level.T5 := by kernel_rfl
theorem gooseneckref01_level.bits5 : waitsOk gooseneckref01_level.T5.2 gooseneckref01_level.B5 = true := by kernel_rfl
set_option maxHeartbeats 8000000 in
set_option maxRecDepth 100000 in
theorem gooseneckref01_level.calls (k : Nat) (a0_0 : Int) (a0_1 : Int) (a0_2 : Int) (A1 : Option Addr) (c1 : Nat) (l1 : List (S23)) (r1 : Int) (r2 : Int) (r3 : Int) (w : World) (hr1 : Kd.C k23 w A1 l1.length l1) (hc1 : l1.length ≤ c1) (h : gooseneckref01_level.f k a0_0 a0_1 a0_2 l1 = some (r1, r2, r3)) :
  Calls Try.prog 130 #[.agg #[.int .i64 a0_0, .int .i64 a0_1, .int .i64 a0_2], .slice A1 l1.length c1] w fun e w' => e = .returned (.agg #[.int .i64 r1, .int .i64 r2, .int .i64 r3]) ∧ Below w.heap.size w w' := by
 have hu75 := Try.underlying75
 have hu23 := Try.underlying23
 have HR1 := Aside0.mk hr1
 have HC1 := Aside0.mk hc1
 clear hr1 hc1
 have HB := Aside0.mk (Below.refl w.heap.size w)
 have H : (if 0 < (l1.length : Int) then ((gooseneckref01_dot.f a0_0 a0_1 a0_2 ((rd_T23 l1 0).f0) ((rd_T23 l1 0).f1)).bind fun t104 => (gooseneckref01_level.l0 k l1 1 a0_0 a0_1 t104)) else (none)) = some (r1, r2, r3) := h
 clear h
 by_cases c3 : 0 < (l1.length : Int)
 ·rw [if_pos c3] at H
  have c3b0 : decide (0 < (l1.length : Int)) = true := decide_eq_true c3
  have c3b1 : decide (0 < l1.length) = true := decide_eq_true (by omega)
  clear c3
  replace H := Option.bind_eq_some_iff.mp H
  obtain ⟨t104, A40, H⟩ := H
  replace H : (gooseneckref01_level.l0 k l1 1 a0_0 a0_1 t104) = some (r1, r2, r3) := H
  have A4 := Aside0.mk A40
  clear A40
  have H' := Aside0.mk H
  clear H
  go_enter Try.func130, Try.ntmps130
  try go_wp2_with (first | ((with_reducible refine gate_dst (N := 2) rfl ?_); refine boxE (N := 2) (cs := #[.int .i64 a0_0, .int .i64 a0_1, .int .i64 a0_2]) (t := 75) ?_; intro gb101 hg w5 hbox hb; have n0_ := Aside0.mk (below_step (bB0 HB) hb); have BK101 := Aside0.mk (hbox); have GW101 := Aside0.mk (szB hg (below_size (bB0 HB))); have GE101 := GW101; clear HB; have HB := n0_; clear n0_; clear hb hbox hg) | ((with_reducible refine gate_dst (N := 4) rfl ?_); refine boxE (N := 4) (cs := #[.int .i64 0, .int .i64 0, .int .i64 0]) (t := 75) ?_; intro gb102 hg w6 hbox hb; have n0_ := Aside0.mk (blk_below (kB BK101) hb); have n1_ := Aside0.mk (below_step (bB1 HB GE101) hb); have BK102 := Aside0.mk (hbox); have GW102 := Aside0.mk (szB hg (below_size (bB1 HB GE101))); have GE102 := GW102; have NB101_102 := Aside0.mk (neA hg (blk_lt (kB BK101))); have NB102_101 := Aside0.mk (neB hg (blk_lt (kB BK101))); clear BK101; clear HB; have BK101 := n0_; have HB := n1_; clear n0_ n1_; clear hb hbox hg))
  replace BK101 := Aside0.mk (blk_drew BK101.out)
  replace BK102 := Aside0.mk (blk_drew BK102.out)
  replace HB := Aside0.mk (below_drew1 HB.out)
  have p103 : 0 ≤ (0 : Int) := (by omega)
  have q103 : 0 < (l1.length : Int) := oB
  obtain ⟨ad103, e103, hx103_0, hx103_1⟩ := at_T23 HR1.out 0 p103 q103
  have hw103_1 := hx103_1
  (try rw [show ((0 : Int)).toNat = 0 from rfl] at hw103_1)
  (try rw [show 0 * 2 = 0 from rfl] at hw103_1)
  (try rw [Addr.add_zero'] at hw103_1)
  have hw103_0 := hx103_0
  (try rw [show ((0 : Int)).toNat = 0 from rfl] at hw103_0)
  (try rw [show 0 * 2 = 0 from rfl] at hw103_0)
  (try rw [Addr.add_zero'] at hw103_0)
  cases e103
  have qi103 : (0 < l1.length) = True := eq_true (by omega)
  (try rw [show ((0 : Int)).toNat = 0 from rfl] at hx103_0)
  (try rw [show 0 * 2 = 0 from rfl] at hx103_0)
  (try rw [Addr.add_zero'] at hx103_0)
  (try rw [show ((0 : Int)).toNat = 0 from rfl] at hx103_1)
  (try rw [show 0 * 2 = 0 from rfl] at hx103_1)
  (try rw [Addr.add_zero'] at hx103_1)
  replace hx103_0 := (HB.out.cell (World.block_lt_of_cell? w _ hx103_0)).trans hx103_0
  replace hx103_1 := (HB.out.cell (World.block_lt_of_cell? w _ hx103_1)).trans hx103_1
  replace p103 := eq_true p103
  replace q103 := eq_true q103
  refine start_ (n := 7) (S := fun w' => w'.cell? ⟨gb101, 0, none⟩ = some (.int .i64 a0_0) ∧ w'.cell? ⟨gb101, 1, none⟩ = some (.int .i64 a0_1) ∧ w'.cell? ⟨gb101, 2, none⟩ = some (.int .i64 a0_2) ∧ w'.cell? ad103 = some (.int .i64 ((rd_T23 l1 0).f0)) ∧ w'.cell? ⟨ad103.block, ad103.off + 1, none⟩ = some (.int .i64 ((rd_T23 l1 0).f1))) (ds := [6]) #[false, false, false, false, false, false, false] (by kernel_rfl) rfl rfl ⟨(blk_cell BK101.out 0).trans rfl, (blk_cell BK101.out 1).trans rfl, (blk_cell BK101.out 2).trans rfl, ((HB.out.cell (World.block_lt_of_cell? w _ hw103_0)).trans hw103_0), ((HB.out.cell (World.block_lt_of_cell? w _ hw103_1)).trans hw103_1)⟩ (fun hHeld => ?_)
  generalize w6.drew = w7 at BK101 BK102 HB hx103_0 hx103_1 hHeld ⊢
  refine pure_ (i := 1) (N := some 7) (v := ?_) (a' := ?_) #[false, true, false, false, false, false, false] rfl rfl (by kernel_rfl) (fun _ _ _ h => h) (Or.inl ⟨by rfl, ?_⟩) ?_ ?_
  rotate_left
  ·intro w'
   go_simp
   with_reducible rfl
  rotate_left
  ·simp only [Act.put, List.setIfInBounds_toArray, List.set_cons_zero, List.set_cons_succ, i64_w, i32_w]
   rfl
  refine pure_ (i := 2) (N := some 8) (v := ?_) (a' := ?_) #[false, true, true, false, false, false, false] rfl rfl (by kernel_rfl) (fun _ _ _ h => h) (Or.inl ⟨by rfl, ?_⟩) ?_ ?_
  rotate_left
  ·intro w'
   go_simp
   with_reducible rfl
  rotate_left
  ·simp only [Act.put, List.setIfInBounds_toArray, List.set_cons_zero, List.set_cons_succ, i64_w, i32_w]
   rfl
  refine take_ (i := 0) (N := some 6) (v := ?_) (a' := ?_) #[true, true, true, false, false, false, false] rfl rfl (by kernel_rfl) (fun _ _ _ h => h) (Or.inl ⟨by rfl, ?_⟩) hHeld ?_ ?_
  rotate_left
  ·rintro w' ⟨s0, s1, s2, s3, s4⟩
   go_simp
   with_reducible rfl
  rotate_left
  ·simp only [Act.put, List.setIfInBounds_toArray, List.set_cons_zero, List.set_cons_succ, i64_w, i32_w]
   rfl
  refine take_ (i := 3) (N := some 9) (v := ?_) (a' := ?_) #[true, true, true, true, false, false, false] rfl rfl (by kernel_rfl) (fun _ _ _ h => h) (Or.inl ⟨by rfl, ?_⟩) hHeld ?_ ?_
  rotate_left
  ·rintro w' ⟨s0, s1, s2, s3, s4⟩
   go_simp
   with_reducible rfl
  rotate_left
  ·simp only [Act.put, List.setIfInBounds_toArray, List.set_cons_zero, List.set_cons_succ, i64_w, i32_w]
   rfl
  refine one_ (i := 4) (N := some 10) #[true, true, true, true, true, false, false] rfl rfl (by kernel_rfl) (by decide) (fun K hK => ?_)
  refine goes_ Try.func122 (by kernel_rfl) rfl #[.agg #[.int .i64 a0_0, .int .i64 a0_1, .int .i64 a0_2], .agg #[.int .i64 ((rd_T23 l1 0).f0), .int .i64 ((rd_T23 l1 0).f1)]] (by rfl) rfl rfl mB ?_
  with_reducible refine (gooseneckref01_dot.calls a0_0 a0_1 a0_2 ((rd_T23 l1 0).f0) ((rd_T23 l1 0).f1) t104 _ A4.out).mono ?_
  rintro e w8 ⟨rfl, hb⟩
  refine ⟨_, rfl, ?_⟩
  replace BK101 := Aside0.mk (blk_below (kB BK101) hb)
  replace BK102 := Aside0.mk (blk_below (kB BK102) hb)
  replace HB := Aside0.mk (below_step (bB2 HB GE101 GE102) hb)
  (try clear hb)
  (try clear hb2)
  (try clear hk)
  (try clear hi)
  refine hK.out _ _ ⟨(blk_cell BK101.out 0).trans rfl, (blk_cell BK101.out 1).trans rfl, (blk_cell BK101.out 2).trans rfl, ((HB.out.cell (World.block_lt_of_cell? w _ hw103_0)).trans hw103_0), ((HB.out.cell (World.block_lt_of_cell? w _ hw103_1)).trans hw103_1)⟩ (fun hHeld => ?_)
  clear hK K
  refine nZ (some 10) ?_
  refine pure_ (i := 5) (N := some 11) (v := ?_) (a' := ?_) #[true, true, true, true, true, true, false] rfl rfl (by kernel_rfl) (fun _ _ _ h => h) (Or.inl ⟨by rfl, ?_⟩) ?_ ?_
  rotate_left
  ·intro w'
   go_simp
   with_reducible rfl
  rotate_left
  ·simp only [Act.put, List.setIfInBounds_toArray, List.set_cons_zero, List.set_cons_succ, i64_w, i32_w]
   rfl
  refine last_ (i := 6) (N := none) #[true, true, true, true, true, true, true] rfl rfl (by kernel_rfl) (by decide) (fun K hK => ?_)
  have hs9 : w8.cell? ⟨gb101, 2, none⟩ = some (.int .i64 a0_2) := (blk_cell BK101.out 2).trans rfl
  have hfs9 := blk_frozen BK101.out 2
  have hns9_1 := NB102_101.out
  have hms9_1 := NB101_102.out
  refine skip_ (w1 := ?_) (by rfl) rfl ?_ ?_
  rotate_left
  ·go_simp
   rfl
  refine hK.out _ _ ?_
  clear hK K
  refine done_ (by kernel_rfl) ?_
  try go_wp2
  go_loopg [5] k (fun kq v5 w' => ∃ (x5_1 : Int) (x102002_1 : Int), v5 = .int .i64 x5_1 ∧ Aside0 (gooseneckref01_level.l0 kq l1 x5_1 a0_0 a0_1 x102002_1 = some (r1, r2, r3)) ∧ Aside0 (kq ≤ k) ∧ Aside0 (w'.heap[gb101]? = some (.cells #[.int .i64 a0_0, .int .i64 a0_1, .int .i64 x102002_1] 75 (0, 0))) ∧ Aside0 (w'.heap[gb102]? = some (.cells #[.int .i64 0, .int .i64 0, .int .i64 0] 75 (0, 0))) ∧ Aside0 (Below w.heap.size w w'))
  case atStart => exact ⟨(1), (t104), sB, H', ⟨Nat.le_refl _⟩, ⟨by (with_reducible repeat (first | refine blk_drewN ?_ _ | refine blk_drew ?_ | refine blk_alloc ?_ _)); refine blk_put (cs := #[.int .i64 a0_0, .int .i64 a0_1, .int .i64 a0_2]) ?_ 2 _ rfl; (with_reducible repeat (first | refine blk_drewN ?_ _ | refine blk_drew ?_ | refine blk_alloc ?_ _)); exact BK101.out⟩, ⟨by (with_reducible repeat (first | refine blk_drewN ?_ _ | refine blk_drew ?_ | refine blk_alloc ?_ _)); refine blk_far ?_ NB102_101.out _; (with_reducible repeat (first | refine blk_drewN ?_ _ | refine blk_drew ?_ | refine blk_alloc ?_ _)); exact BK102.out⟩, ⟨bB2 HB GE101 GE102⟩⟩
  case round =>
   clear H'
   try clear c1
   try clear p1
   try clear q1
   try clear hx1
   try clear qi1
   try clear p2
   try clear c3
   try clear c3b0
   try clear c3b1
   try clear hx103_0
   try clear hx103_1
   try clear p103
   try clear q103
   obtain ⟨x5_1, x102002_1, rfl, HA, HK1, BK101, BK102, HB⟩ := hrel
   cases gk with
   | zero => exact absurd HA.out (by simp [gooseneckref01_level.l0])
   | succ k1 =>
    have H := HA.out
    clear HA
    simp only [gooseneckref01_level.l0] at H
    by_cases c10 : x5_1 < (l1.length : Int)
    ·rw [if_pos c10] at H
     have c10b0 : decide (x5_1 < (l1.length : Int)) = true := decide_eq_true c10
     clear c10
     by_cases c11 : 0 ≤ x5_1
     ·rw [if_pos c11] at H
      have c11b0 : decide (0 ≤ x5_1) = true := decide_eq_true c11
      clear c11
      replace H := Option.bind_eq_some_iff.mp H
      obtain ⟨t106, A120, H⟩ := H
      replace H : (gooseneckref01_level.l0 k1 l1 (wrap64 (x5_1 + 1)) a0_0 a0_1 (mx x102002_1 t106)) = some (r1, r2, r3) := H
      have A12 := Aside0.mk A120
      clear A120
      obtain ⟨ji13, hji13⟩ : ∃ j_ : Int, (mx x102002_1 t106) = j_ := ⟨_, rfl⟩
      replace H : (gooseneckref01_level.l0 k1 l1 (wrap64 (x5_1 + 1)) a0_0 a0_1 ji13) = some (r1, r2, r3) := by first | (rw [hji13] at H; exact H) | (simp only [hji13] at H ⊢; exact H)
      (try rw [hji13] at A12)
      have hji13_ : (if x102002_1 < t106 then t106 else x102002_1) = ji13 := hji13
      have H' := Aside0.mk H
      clear H
      try go_wp2
      replace BK101 := Aside0.mk (blk_drew BK101.out)
      replace BK102 := Aside0.mk (blk_drew BK102.out)
      replace HB := Aside0.mk (below_drew1 HB.out)
      have p105 : 0 ≤ (x5_1 : Int) := oB
      have q105 : x5_1 < (l1.length : Int) := oB
      obtain ⟨ad105, e105, hx105_0, hx105_1⟩ := at_T23 HR1.out x5_1 p105 q105
      have hw105_1 := hx105_1
      have hw105_0 := hx105_0
      obtain rfl : ad103 = ad105 := (by injection e105)
      replace hx105_0 := (HB.out.cell (World.block_lt_of_cell? w _ hx105_0)).trans hx105_0
      replace hx105_1 := (HB.out.cell (World.block_lt_of_cell? w _ hx105_1)).trans hx105_1
      replace p105 := eq_true p105
      replace q105 := eq_true q105
      refine start_ (n := 11) (S := fun w' => w'.cell? ⟨gb101, 0, none⟩ = some (.int .i64 a0_0) ∧ w'.cell? ⟨gb101, 1, none⟩ = some (.int .i64 a0_1) ∧ w'.cell? ⟨gb101, 2, none⟩ = some (.int .i64 x102002_1) ∧ w'.cell? (ad103.add ((x5_1).toNat * 2)) = some (.int .i64 ((rd_T23 l1 x5_1).f0)) ∧ w'.cell? ⟨(ad103.add ((x5_1).toNat * 2)).block, (ad103.add ((x5_1).toNat * 2)).off + 1, none⟩ = some (.int .i64 ((rd_T23 l1 x5_1).f1))) (ds := [10]) #[false, false, false, false, false, false, false, false, false, false, false] (by kernel_rfl) rfl rfl ⟨(blk_cell BK101.out 0).trans rfl, (blk_cell BK101.out 1).trans rfl, (blk_cell BK101.out 2).trans rfl, ((HB.out.cell (World.block_lt_of_cell? w _ hw105_0)).trans hw105_0), ((HB.out.cell (World.block_lt_of_cell? w _ hw105_1)).trans hw105_1)⟩ (fun hHeld => ?_); refine with_tabW gooseneckref01_level.tab5 gooseneckref01_level.bits5 (fun HT_ HW_ => ?_)
      generalize wr.drew = w14 at BK101 BK102 HB hx105_0 hx105_1 hHeld ⊢
      refine pS 0 (some 18) HT_ ?_
      refine pS 3 (some 21) HT_ ?_
      refine pS 4 (some 22) HT_ ?_
      refine pS 5 (some 23) HT_ ?_
      refine tS 1 (some 19) rfl rfl HT_ HW_ hHeld (by rintro w' ⟨s0, s1, s2, s3, s4⟩; go_simp; with_reducible rfl) ?_
      refine tS 2 (some 20) rfl rfl HT_ HW_ hHeld (by rintro w' ⟨s0, s1, s2, s3, s4⟩; go_simp; with_reducible rfl) ?_
      refine tS 6 (some 24) rfl rfl HT_ HW_ hHeld (by rintro w' ⟨s0, s1, s2, s3, s4⟩; go_simp; with_reducible rfl) ?_
      refine one_ (i := 7) (N := some 25) #[true, true, true, true, true, true, true, true, false, false, false] rfl rfl (one_of HT_.out (by kernel_rfl)) (by decide) (fun K hK => ?_)
      refine goes_ Try.func122 (by kernel_rfl) rfl #[.agg #[.int .i64 a0_0, .int .i64 a0_1, .int .i64 x102002_1], .agg #[.int .i64 ((rd_T23 l1 x5_1).f0), .int .i64 ((rd_T23 l1 x5_1).f1)]] (by rfl) rfl rfl mB ?_
      with_reducible refine (gooseneckref01_dot.calls a0_0 a0_1 x102002_1 ((rd_T23 l1 x5_1).f0) ((rd_T23 l1 x5_1).f1) t106 _ A12.out).mono ?_
      rintro e w15 ⟨rfl, hb⟩
      refine ⟨_, rfl, ?_⟩
      replace BK101 := Aside0.mk (blk_below (kB BK101) hb)
      replace BK102 := Aside0.mk (blk_below (kB BK102) hb)
      replace HB := Aside0.mk (below_step (bB2 HB GE101 GE102) hb)
      (try clear hb)
      (try clear hb2)
      (try clear hk)
      (try clear hi)
      refine hK.out _ _ ⟨(blk_cell BK101.out 0).trans rfl, (blk_cell BK101.out 1).trans rfl, (blk_cell BK101.out 2).trans rfl, ((HB.out.cell (World.block_lt_of_cell? w _ hw105_0)).trans hw105_0), ((HB.out.cell (World.block_lt_of_cell? w _ hw105_1)).trans hw105_1)⟩ (fun hHeld => ?_)
      clear hK K
      refine nZ (some 25) ?_
      refine pS 8 (some 26) HT_ ?_
      refine pS 9 (some 27) HT_ ?_
      refine last_ (i := 10) (N := none) #[true, true, true, true, true, true, true, true, true, true, true] rfl rfl (one_of HT_.out (by kernel_rfl)) (by decide) (fun K hK => ?_)
      have hs16 : w15.cell? ⟨gb101, 2, none⟩ = some (.int .i64 x102002_1) := (blk_cell BK101.out 2).trans rfl
      have hfs16 := blk_frozen BK101.out 2
      have hns16_1 := NB102_101.out
      have hms16_1 := NB101_102.out
      refine skip_ (w1 := ?_) (by rfl) rfl ?_ ?_
      rotate_left
      ·go_simp
       rfl
      refine hK.out _ _ ?_
      clear hK K
      refine done_ (done_of HT_.out (by kernel_rfl)) ?_
      try go_wp2
      go_roundg k1
      case measure => have := HK1.out; omega
      case rel => exact ⟨(wrap64 (x5_1 + 1)), (ji13), sB, H', ⟨by have := HK1.out; omega⟩, ⟨by (with_reducible repeat (first | refine blk_drewN ?_ _ | refine blk_drew ?_ | refine blk_alloc ?_ _)); refine blk_put (cs := #[.int .i64 a0_0, .int .i64 a0_1, .int .i64 x102002_1]) ?_ 2 _ rfl; (with_reducible repeat (first | refine blk_drewN ?_ _ | refine blk_drew ?_ | refine blk_alloc ?_ _)); exact BK101.out⟩, ⟨by (with_reducible repeat (first | refine blk_drewN ?_ _ | refine blk_drew ?_ | refine blk_alloc ?_ _)); refine blk_far ?_ NB102_101.out _; (with_reducible repeat (first | refine blk_drewN ?_ _ | refine blk_drew ?_ | refine blk_alloc ?_ _)); exact BK102.out⟩, ⟨bB2 HB GE101 GE102⟩⟩
     ·rw [if_neg c11] at H
      exact absurd H (by simp)
    ·rw [if_neg c10] at H
     have c10b0 : decide (x5_1 < (l1.length : Int)) = false := decide_eq_false c10
     clear c10
     simp only [Option.some.injEq, Prod.mk.injEq] at H
     obtain ⟨rfl, rfl, rfl⟩ := H
     have hnb17 := NB101_102.out
     have hnc17 := NB102_101.out
     have hcz18_0 : wr.cell? ⟨gb101, 0, none⟩ = some (.int .i64 a0_0) := (blk_cell BK101.out 0).trans rfl
     have hcz18_1 : wr.cell? ⟨gb101, 1, none⟩ = some (.int .i64 a0_1) := (blk_cell BK101.out 1).trans rfl
     have hcz18_2 : wr.cell? ⟨gb101, 2, none⟩ = some (.int .i64 x102002_1) := (blk_cell BK101.out 2).trans rfl
     have hfz18_0 := blk_frozen BK101.out 0
     have hfz18_1 := blk_frozen BK101.out 1
     have hfz18_2 := blk_frozen BK101.out 2
     have hcz19_0 : wr.cell? ⟨gb102, 0, none⟩ = some (.int .i64 0) := (blk_cell BK102.out 0).trans rfl
     have hcz19_1 : wr.cell? ⟨gb102, 1, none⟩ = some (.int .i64 0) := (blk_cell BK102.out 1).trans rfl
     have hcz19_2 : wr.cell? ⟨gb102, 2, none⟩ = some (.int .i64 0) := (blk_cell BK102.out 2).trans rfl
     have hfz19_0 := blk_frozen BK102.out 0
     have hfz19_1 := blk_frozen BK102.out 1
     have hfz19_2 := blk_frozen BK102.out 2
     go_wp2
     refine bodyPost_ret (results_cell_row rfl _ _ gb102 75 #[.int .i64 a0_0, .int .i64 a0_1, .int .i64 x102002_1] (0, 0) _ rfl (by (with_reducible repeat (first | refine blk_drewN ?_ _ | refine blk_drew ?_ | refine blk_alloc ?_ _)); refine blk_put (cs := #[.int .i64 a0_0, .int .i64 a0_1, .int .i64 0]) ?_ 2 _ rfl; (with_reducible repeat (first | refine blk_drewN ?_ _ | refine blk_drew ?_ | refine blk_alloc ?_ _)); refine blk_put (cs := #[.int .i64 a0_0, .int .i64 0, .int .i64 0]) ?_ 1 _ rfl; (with_reducible repeat (first | refine blk_drewN ?_ _ | refine blk_drew ?_ | refine blk_alloc ?_ _)); refine blk_put (cs := #[.int .i64 0, .int .i64 0, .int .i64 0]) ?_ 0 _ rfl; (with_reducible repeat (first | refine blk_drewN ?_ _ | refine blk_drew ?_ | refine blk_alloc ?_ _)); exact BK102.out) Try.underlying75 rfl (by kernel_rfl)) rfl ?_
     exact ⟨eB, bB2 HB GE101 GE102⟩
 ·rw [if_neg c3] at H
  exact absurd H (by simp)
def gooseneckref01_Parting.l0 : Nat → List (S23) → List (S23) → List (S75) → Int → Option (Int × Int × Int × Bool)
 | 0, _, _, _, _ => none
 | k + 1, x0, x1, x6, x7 => if x7 < (x6.length : Int) then (if 0 ≤ x7 then ((gooseneckref01_level.f k ((rd_T75 x6 x7).f0) ((rd_T75 x6 x7).f1) ((rd_T75 x6 x7).f2) x0).bind fun bt122 => ((gooseneckref01_parts.f k x0 x1 bt122.1 bt122.2.1 bt122.2.2).bind fun t126 => (if t126 = true then (some (bt122.1, bt122.2.1, bt122.2.2, true)) else (gooseneckref01_Parting.l0 k x0 x1 x6 (wrap64 (x7 + 1)))))) else (none)) else (some (0, 0, 0, false))
def gooseneckref01_Parting.f (k : Nat) (l0 : List (S23)) (l1 : List (S23)) : Option (Int × Int × Int × Bool) := if 0 < (l1.length : Int) then (if 0 < (l0.length : Int) then ((some (([(⟨wrap64 (((rd_T23 l1 0).f0) - ((rd_T23 l0 0).f0)), wrap64 (((rd_T23 l1 0).f1) - ((rd_T23 l0 0).f1)), 0⟩ : S75)] : List (S75)) : List (S75))).bind fun y106 => ((gooseneckref01_directions.f k l0).bind fun t109 => (if y106.length + t109.length < 5864062014805 then ((some (y106 ++ t109 : List (S75))).bind fun y112 => ((gooseneckref01_directions.f k l1).bind fun t115 => (if y112.length + t115.length < 5864062014805 then (gooseneckref01_Parting.l0 k l0 l1 (y112 ++ t115) 0) else (none)))) else (none)))) else (none)) else (none)
theorem gooseneckref01_Parting.mono_l : ∀ k, (∀ y0 y1 y2 y3, LeO (gooseneckref01_Parting.l0 k y0 y1 y2 y3) (gooseneckref01_Parting.l0 (k + 1) y0 y1 y2 y3))
 | 0 => fun _ _ _ _ r h => by simp [gooseneckref01_Parting.l0] at h
 | k + 1 => by
  have ih0 := gooseneckref01_Parting.mono_l k
  ·intro y0 y1 y2 y3
   unfold gooseneckref01_Parting.l0
   repeat' first
   | (with_reducible exact ih0 _ _ _ _)
   | (with_reducible exact gooseneckref01_directions.mono _ _)
   | (with_reducible exact gooseneckref01_level.mono _ _ _ _ _)
   | (with_reducible exact gooseneckref01_parts.mono _ _ _ _ _ _)
   | (with_reducible exact LeO.refl _)
   | (with_reducible exact LeO.none _)
   | (with_reducible refine LeO.ite ?_ ?_)
   | (with_reducible refine LeO.bind ?_ (fun _ => ?_))
   | exact ih0 _ _ _ _
   | exact gooseneckref01_directions.mono _ _
   | exact gooseneckref01_level.mono _ _ _ _ _
   | exact gooseneckref01_parts.mono _ _ _ _ _ _
   | exact LeO.none _
   | refine LeO.ite ?_ ?_
   | refine LeO.bind ?_ (fun _ => ?_)
theorem gooseneckref01_Parting.mono : ∀ a0 a1 k, LeO (gooseneckref01_Parting.f k a0 a1) (gooseneckref01_Parting.f (k + 1) a0 a1) := by
 intro a0 a1 k
 have ih0 := gooseneckref01_Parting.mono_l k
 unfold gooseneckref01_Parting.f
 repeat' first
   | (with_reducible exact ih0 _ _ _ _)
   | (with_reducible exact gooseneckref01_directions.mono _ _)
   | (with_reducible exact gooseneckref01_level.mono _ _ _ _ _)
   | (with_reducible exact gooseneckref01_parts.mono _ _ _ _ _ _)
   | (with_reducible exact LeO.refl _)
   | (with_reducible exact LeO.none _)
   | (with_reducible refine LeO.ite ?_ ?_)
   | (with_reducible refine LeO.bind ?_ (fun _ => ?_))
   | exact ih0 _ _ _ _
   | exact gooseneckref01_directions.mono _ _
   | exact gooseneckref01_level.mono _ _ _ _ _
   | exact gooseneckref01_parts.mono _ _ _ _ _ _
   | exact LeO.none _
   | refine LeO.ite ?_ ?_
   | refine LeO.bind ?_ (fun _ => ?_)
def gooseneckref01_Parting.T1 : Bool × List (List Nat × List Nat) := (true, [([], []), ([0], [0]), ([1], [1]), ([2], [2]), ([], []), ([4], [4]), ([5], [5]), ([6], [6]), ([3, 7], [3, 7]), ([], []), ([9], [9]), ([10], [10]), ([11], [11]), ([], []), ([13], [13]), ([14], [14]), ([15], [15]), ([12, 16], [12, 16]), ([8, 17], [8, 17]), ([18], [18]), ([], []), ([20], [20]), ([19, 21, 21], [19, 21]), ([], []), ([23, 22], [23]), ([22, 24, 24], [22, 24]), ([25, 25, 0, 1, 2, 3, 4, 5, 6, 7, 8, 9, 10, 11, 12, 13, 14, 15, 16, 17, 18, 19, 20, 21, 22, 23, 24, 25], [25])])
def gooseneckref01_Parting.B1 : List Nat := [0, 1, 3, 7, 0, 16, 48, 112, 255, 0, 512, 1536, 3584, 0, 8192, 24576, 57344, 130560, 262143, 524287, 0, 1048576, 4194303, 0, 16777215, 33554431, 67108863]
theorem gooseneckref01_Parting.tab1 : rtab .any (opsOf Try.f121 1) = gooseneckref01_Parting.T1 := by kernel_rfl
theorem gooseneckref01_Parting.bits1 : waitsOk gooseneckref01_Parting.T1.2 gooseneckref01_Parting.B1 = true := by kernel_rfl
set_option maxHeartbeats 8000000 in
set_option maxRecDepth 100000 in
theorem gooseneckref01_Parting.calls (k : Nat) (A0 : Option Addr) (c0 : Nat) (l0 : List (S23)) (A1 : Option Addr) (c1 : Nat) (l1 : List (S23)) (r1 : Int) (r2 : Int) (r3 : Int) (r4 : Bool) (w : World) (hr0 : Kd.C k23 w A0 l0.length l0) (hc0 : l0.length ≤ c0) (hr1 : Kd.C k23 w A1 l1.length l1) (hc1 : l1.length ≤ c1) (h : gooseneckref01_Parting.f k l0 l1 = some (r1, r2, r3, r4)) :
  Calls Try.prog 121 #[.slice A0 l0.length c0, .slice A1 l1.length c1] w fun e w' => e = .returned (.tuple #[.agg #[.int .i64 r1, .int .i64 r2, .int .i64 r3], .bool r4]) ∧ Below w.heap.size w w' := by
 have hu75 := Try.underlying75
 have HR0 := Aside0.mk hr0
 have HC0 := Aside0.mk hc0
 clear hr0 hc0
 have HR1 := Aside0.mk hr1
 have HC1 := Aside0.mk hc1
 clear hr1 hc1
 have HB := Aside0.mk (Below.refl w.heap.size w)
 have H : (if 0 < (l1.length : Int) then (if 0 < (l0.length : Int) then ((some (([(⟨wrap64 (((rd_T23 l1 0).f0) - ((rd_T23 l0 0).f0)), wrap64 (((rd_T23 l1 0).f1) - ((rd_T23 l0 0).f1)), 0⟩ : S75)] : List (S75)) : List (S75))).bind fun y106 => ((gooseneckref01_directions.f k l0).bind fun t109 => (if y106.length + t109.length < 5864062014805 then ((some (y106 ++ t109 : List (S75))).bind fun y112 => ((gooseneckref01_directions.f k l1).bind fun t115 => (if y112.length + t115.length < 5864062014805 then (gooseneckref01_Parting.l0 k l0 l1 (y112 ++ t115) 0) else (none)))) else (none)))) else (none)) else (none)) = some (r1, r2, r3, r4) := h
 clear h
 by_cases c3 : 0 < (l1.length : Int)
 ·rw [if_pos c3] at H
  have c3b0 : decide (0 < (l1.length : Int)) = true := decide_eq_true c3
  have c3b1 : decide (0 < l1.length) = true := decide_eq_true (by omega)
  clear c3
  by_cases c4 : 0 < (l0.length : Int)
  ·rw [if_pos c4] at H
   have c4b0 : decide (0 < (l0.length : Int)) = true := decide_eq_true c4
   have c4b1 : decide (0 < l0.length) = true := decide_eq_true (by omega)
   clear c4
   obtain ⟨y106, hy106⟩ : ∃ y_ : List (S75), y_ = (([(⟨wrap64 (((rd_T23 l1 0).f0) - ((rd_T23 l0 0).f0)), wrap64 (((rd_T23 l1 0).f1) - ((rd_T23 l0 0).f1)), 0⟩ : S75)] : List (S75))) := ⟨_, rfl⟩
   replace H : ((gooseneckref01_directions.f k l0).bind fun t109 => (if y106.length + t109.length < 5864062014805 then ((some (y106 ++ t109 : List (S75))).bind fun y112 => ((gooseneckref01_directions.f k l1).bind fun t115 => (if y112.length + t115.length < 5864062014805 then (gooseneckref01_Parting.l0 k l0 l1 (y112 ++ t115) 0) else (none)))) else (none))) = some (r1, r2, r3, r4) := by first | (rw [hy106]; with_reducible exact H) | (have H2_ := (Option.bind_some _ _).symm.trans H; rw [hy106]; with_reducible exact H2_) | (have H2_ := (Option.bind_some _ _).symm.trans H; with_reducible exact H2_) | with_reducible exact H | (rw [hy106]; exact H) | exact H
   have Ny106 := Aside0.mk hy106
   clear hy106
   replace H := Option.bind_eq_some_iff.mp H
   obtain ⟨t109, A50, H⟩ := H
   replace H : (if y106.length + t109.length < 5864062014805 then ((some (y106 ++ t109 : List (S75))).bind fun y112 => ((gooseneckref01_directions.f k l1).bind fun t115 => (if y112.length + t115.length < 5864062014805 then (gooseneckref01_Parting.l0 k l0 l1 (y112 ++ t115) 0) else (none)))) else (none)) = some (r1, r2, r3, r4) := H
   have A5 := Aside0.mk A50
   clear A50
   by_cases c6 : y106.length + t109.length < 5864062014805
   ·rw [if_pos c6] at H
    have LMc6 := Aside0.mk c6
    clear c6
    obtain ⟨y112, hy112⟩ : ∃ y_ : List (S75), y_ = (y106 ++ t109) := ⟨_, rfl⟩
    replace H : ((gooseneckref01_directions.f k l1).bind fun t115 => (if y112.length + t115.length < 5864062014805 then (gooseneckref01_Parting.l0 k l0 l1 (y112 ++ t115) 0) else (none))) = some (r1, r2, r3, r4) := by first | (rw [hy112]; with_reducible exact H) | (have H2_ := (Option.bind_some _ _).symm.trans H; rw [hy112]; with_reducible exact H2_) | (have H2_ := (Option.bind_some _ _).symm.trans H; with_reducible exact H2_) | with_reducible exact H | (rw [hy112]; exact H) | exact H
    have Ny112 := Aside0.mk hy112
    clear hy112
    replace H := Option.bind_eq_some_iff.mp H
    obtain ⟨t115, A70, H⟩ := H
    replace H : (if y112.length + t115.length < 5864062014805 then (gooseneckref01_Parting.l0 k l0 l1 (y112 ++ t115) 0) else (none)) = some (r1, r2, r3, r4) := H
    have A7 := Aside0.mk A70
    clear A70
    by_cases c8 : y112.length + t115.length < 5864062014805
    ·rw [if_pos c8] at H
     have LMc8 := Aside0.mk c8
     clear c8
     obtain ⟨y118, hy118⟩ : ∃ y_ : List (S75), y_ = (y112 ++ t115) := ⟨_, rfl⟩
     replace H : (gooseneckref01_Parting.l0 k l0 l1 y118 0) = some (r1, r2, r3, r4) := by first | (rw [hy118]; with_reducible exact H) | (have H2_ := (Option.bind_some _ _).symm.trans H; rw [hy118]; with_reducible exact H2_) | (have H2_ := (Option.bind_some _ _).symm.trans H; with_reducible exact H2_) | with_reducible exact H | (rw [hy118]; exact H) | exact H
     have Ny118 := Aside0.mk hy118
     clear hy118
     have H' := Aside0.mk H
     clear H
     go_enter Try.func121, Try.ntmps121
     try go_wp2_with (first | ((with_reducible refine gate_dst (N := 4) rfl ?_); refine boxE (N := 4) (cs := #[.int .i64 0, .int .i64 0, .int .i64 0]) (t := 75) ?_; intro gb101 hg w9 hbox hb; have n0_ := Aside0.mk (below_step (bB0 HB) hb); have BK101 := Aside0.mk (hbox); have GW101 := Aside0.mk (szB hg (below_size (bB0 HB))); have GE101 := GW101; clear HB; have HB := n0_; clear n0_; clear hb hbox hg))
     replace BK101 := Aside0.mk (blk_drew BK101.out)
     replace HB := Aside0.mk (below_drew1 HB.out)
     have p102 : 0 ≤ (0 : Int) := (by omega)
     have q102 : 0 < (l1.length : Int) := oB
     obtain ⟨ad102, e102, hx102_0, hx102_1⟩ := at_T23 HR1.out 0 p102 q102
     have hw102_1 := hx102_1
     (try rw [show ((0 : Int)).toNat = 0 from rfl] at hw102_1)
     (try rw [show 0 * 2 = 0 from rfl] at hw102_1)
     (try rw [Addr.add_zero'] at hw102_1)
     have hw102_0 := hx102_0
     (try rw [show ((0 : Int)).toNat = 0 from rfl] at hw102_0)
     (try rw [show 0 * 2 = 0 from rfl] at hw102_0)
     (try rw [Addr.add_zero'] at hw102_0)
     cases e102
     have qi102 : (0 < l1.length) = True := eq_true (by omega)
     (try rw [show ((0 : Int)).toNat = 0 from rfl] at hx102_0)
     (try rw [show 0 * 2 = 0 from rfl] at hx102_0)
     (try rw [Addr.add_zero'] at hx102_0)
     (try rw [show ((0 : Int)).toNat = 0 from rfl] at hx102_1)
     (try rw [show 0 * 2 = 0 from rfl] at hx102_1)
     (try rw [Addr.add_zero'] at hx102_1)
     replace hx102_0 := (HB.out.cell (World.block_lt_of_cell? w _ hx102_0)).trans hx102_0
     replace hx102_1 := (HB.out.cell (World.block_lt_of_cell? w _ hx102_1)).trans hx102_1
     replace p102 := eq_true p102
     replace q102 := eq_true q102
     have p103 : 0 ≤ (0 : Int) := (by omega)
     have q103 : 0 < (l0.length : Int) := oB
     obtain ⟨ad103, e103, hx103_0, hx103_1⟩ := at_T23 HR0.out 0 p103 q103
     have hw103_1 := hx103_1
     (try rw [show ((0 : Int)).toNat = 0 from rfl] at hw103_1)
     (try rw [show 0 * 2 = 0 from rfl] at hw103_1)
     (try rw [Addr.add_zero'] at hw103_1)
     have hw103_0 := hx103_0
     (try rw [show ((0 : Int)).toNat = 0 from rfl] at hw103_0)
     (try rw [show 0 * 2 = 0 from rfl] at hw103_0)
     (try rw [Addr.add_zero'] at hw103_0)
     cases e103
     have qi103 : (0 < l0.length) = True := eq_true (by omega)
     (try rw [show ((0 : Int)).toNat = 0 from rfl] at hx103_0)
     (try rw [show 0 * 2 = 0 from rfl] at hx103_0)
     (try rw [Addr.add_zero'] at hx103_0)
     (try rw [show ((0 : Int)).toNat = 0 from rfl] at hx103_1)
     (try rw [show 0 * 2 = 0 from rfl] at hx103_1)
     (try rw [Addr.add_zero'] at hx103_1)
     replace hx103_0 := (HB.out.cell (World.block_lt_of_cell? w _ hx103_0)).trans hx103_0
     replace hx103_1 := (HB.out.cell (World.block_lt_of_cell? w _ hx103_1)).trans hx103_1
     replace p103 := eq_true p103
     replace q103 := eq_true q103
     have p104 : 0 ≤ (0 : Int) := (by omega)
     have q104 : 0 < (l1.length : Int) := oB
     obtain ⟨ad104, e104, hx104_0, hx104_1⟩ := at_T23 HR1.out 0 p104 q104
     have hw104_1 := hx104_1
     (try rw [show ((0 : Int)).toNat = 0 from rfl] at hw104_1)
     (try rw [show 0 * 2 = 0 from rfl] at hw104_1)
     (try rw [Addr.add_zero'] at hw104_1)
     have hw104_0 := hx104_0
     (try rw [show ((0 : Int)).toNat = 0 from rfl] at hw104_0)
     (try rw [show 0 * 2 = 0 from rfl] at hw104_0)
     (try rw [Addr.add_zero'] at hw104_0)
     obtain rfl : ad102 = ad104 := (by injection e104)
     have qi104 : (0 < l1.length) = True := eq_true (by omega)
     (try rw [show ((0 : Int)).toNat = 0 from rfl] at hx104_0)
     (try rw [show 0 * 2 = 0 from rfl] at hx104_0)
     (try rw [Addr.add_zero'] at hx104_0)
     (try rw [show ((0 : Int)).toNat = 0 from rfl] at hx104_1)
     (try rw [show 0 * 2 = 0 from rfl] at hx104_1)
     (try rw [Addr.add_zero'] at hx104_1)
     replace hx104_0 := (HB.out.cell (World.block_lt_of_cell? w _ hx104_0)).trans hx104_0
     replace hx104_1 := (HB.out.cell (World.block_lt_of_cell? w _ hx104_1)).trans hx104_1
     replace p104 := eq_true p104
     replace q104 := eq_true q104
     have p105 : 0 ≤ (0 : Int) := (by omega)
     have q105 : 0 < (l0.length : Int) := oB
     obtain ⟨ad105, e105, hx105_0, hx105_1⟩ := at_T23 HR0.out 0 p105 q105
     have hw105_1 := hx105_1
     (try rw [show ((0 : Int)).toNat = 0 from rfl] at hw105_1)
     (try rw [show 0 * 2 = 0 from rfl] at hw105_1)
     (try rw [Addr.add_zero'] at hw105_1)
     have hw105_0 := hx105_0
     (try rw [show ((0 : Int)).toNat = 0 from rfl] at hw105_0)
     (try rw [show 0 * 2 = 0 from rfl] at hw105_0)
     (try rw [Addr.add_zero'] at hw105_0)
     obtain rfl : ad103 = ad105 := (by injection e105)
     have qi105 : (0 < l0.length) = True := eq_true (by omega)
     (try rw [show ((0 : Int)).toNat = 0 from rfl] at hx105_0)
     (try rw [show 0 * 2 = 0 from rfl] at hx105_0)
     (try rw [Addr.add_zero'] at hx105_0)
     (try rw [show ((0 : Int)).toNat = 0 from rfl] at hx105_1)
     (try rw [show 0 * 2 = 0 from rfl] at hx105_1)
     (try rw [Addr.add_zero'] at hx105_1)
     replace hx105_0 := (HB.out.cell (World.block_lt_of_cell? w _ hx105_0)).trans hx105_0
     replace hx105_1 := (HB.out.cell (World.block_lt_of_cell? w _ hx105_1)).trans hx105_1
     replace p105 := eq_true p105
     replace q105 := eq_true q105
     refine start_ (n := 27) (S := fun w' => w'.cell? ad102 = some (.int .i64 ((rd_T23 l1 0).f0)) ∧ w'.cell? ⟨ad102.block, ad102.off + 1, none⟩ = some (.int .i64 ((rd_T23 l1 0).f1)) ∧ w'.cell? ad103 = some (.int .i64 ((rd_T23 l0 0).f0)) ∧ w'.cell? ⟨ad103.block, ad103.off + 1, none⟩ = some (.int .i64 ((rd_T23 l0 0).f1)) ∧ w'.cell? ad102 = some (.int .i64 ((rd_T23 l1 0).f0)) ∧ w'.cell? ⟨ad102.block, ad102.off + 1, none⟩ = some (.int .i64 ((rd_T23 l1 0).f1)) ∧ w'.cell? ad103 = some (.int .i64 ((rd_T23 l0 0).f0)) ∧ w'.cell? ⟨ad103.block, ad103.off + 1, none⟩ = some (.int .i64 ((rd_T23 l0 0).f1))) (ds := []) #[false, false, false, false, false, false, false, false, false, false, false, false, false, false, false, false, false, false, false, false, false, false, false, false, false, false, false] (by kernel_rfl) rfl rfl ⟨((HB.out.cell (World.block_lt_of_cell? w _ hw102_0)).trans hw102_0), ((HB.out.cell (World.block_lt_of_cell? w _ hw102_1)).trans hw102_1), ((HB.out.cell (World.block_lt_of_cell? w _ hw103_0)).trans hw103_0), ((HB.out.cell (World.block_lt_of_cell? w _ hw103_1)).trans hw103_1), ((HB.out.cell (World.block_lt_of_cell? w _ hw104_0)).trans hw104_0), ((HB.out.cell (World.block_lt_of_cell? w _ hw104_1)).trans hw104_1), ((HB.out.cell (World.block_lt_of_cell? w _ hw105_0)).trans hw105_0), ((HB.out.cell (World.block_lt_of_cell? w _ hw105_1)).trans hw105_1)⟩ (fun hHeld => ?_); refine with_tabW gooseneckref01_Parting.tab1 gooseneckref01_Parting.bits1 (fun HT_ HW_ => ?_)
     generalize w9.drew = w10 at BK101 HB hx102_0 hx102_1 hx103_0 hx103_1 hx104_0 hx104_1 hx105_0 hx105_1 hHeld ⊢
     refine pS 0 (some 9) HT_ ?_
     refine pS 1 (some 10) HT_ ?_
     refine pS 2 (some 11) HT_ ?_
     refine pS 4 (some 13) HT_ ?_
     refine pS 5 (some 14) HT_ ?_
     refine pS 6 (some 15) HT_ ?_
     refine pS 9 (some 18) HT_ ?_
     refine pS 10 (some 19) HT_ ?_
     refine pS 11 (some 20) HT_ ?_
     refine pS 13 (some 22) HT_ ?_
     refine pS 14 (some 23) HT_ ?_
     refine pS 15 (some 24) HT_ ?_
     refine pS 20 (some 29) HT_ ?_
     refine pS 23 (some 32) HT_ ?_
     refine tS 3 (some 12) rfl rfl HT_ HW_ hHeld (by rintro w' ⟨s0, s1, s2, s3, s4, s5, s6, s7⟩; go_simp; with_reducible rfl) ?_
     refine tS 7 (some 16) rfl rfl HT_ HW_ hHeld (by rintro w' ⟨s0, s1, s2, s3, s4, s5, s6, s7⟩; go_simp; with_reducible rfl) ?_
     refine pS 8 (some 17) HT_ ?_
     refine tS 12 (some 21) rfl rfl HT_ HW_ hHeld (by rintro w' ⟨s0, s1, s2, s3, s4, s5, s6, s7⟩; go_simp; with_reducible rfl) ?_
     refine tS 16 (some 25) rfl rfl HT_ HW_ hHeld (by rintro w' ⟨s0, s1, s2, s3, s4, s5, s6, s7⟩; go_simp; with_reducible rfl) ?_
     refine pS 17 (some 26) HT_ ?_
     refine pS 18 (some 27) HT_ ?_
     refine join_ (σ := Value × Value) 4 #[true, true, true, true, true, true, true, true, true, true, true, true, true, true, true, true, true, true, true, true, true, true, false, true, false, false, false] (fun s_ => [(28, s_.1), (30, s_.2)]) (fun s_ w' => (w'.cell? ad102 = some (.int .i64 ((rd_T23 l1 0).f0)) ∧ w'.cell? ⟨ad102.block, ad102.off + 1, none⟩ = some (.int .i64 ((rd_T23 l1 0).f1)) ∧ w'.cell? ad103 = some (.int .i64 ((rd_T23 l0 0).f0)) ∧ w'.cell? ⟨ad103.block, ad103.off + 1, none⟩ = some (.int .i64 ((rd_T23 l0 0).f1)) ∧ w'.cell? ad102 = some (.int .i64 ((rd_T23 l1 0).f0)) ∧ w'.cell? ⟨ad102.block, ad102.off + 1, none⟩ = some (.int .i64 ((rd_T23 l1 0).f1)) ∧ w'.cell? ad103 = some (.int .i64 ((rd_T23 l0 0).f0)) ∧ w'.cell? ⟨ad103.block, ad103.off + 1, none⟩ = some (.int .i64 ((rd_T23 l0 0).f1))) ∧ (Kd.R k75 75 w' w.heap.size (fun k_ => some k_ ≠ (s_.2 : Value).ownBlock ∧ k_ ≠ gb101) s_.1 y106) ∧ (Kd.R k75 75 w' w.heap.size (fun k_ => some k_ ≠ (s_.1 : Value).ownBlock ∧ k_ ≠ gb101) s_.2 t109) ∧ (w'.heap[gb101]? = some (.cells #[.int .i64 0, .int .i64 0, .int .i64 0] 75 (0, 0))) ∧ (Below w.heap.size w w')) ?_ ?_
     rotate_left
     ·intro hCont
      refine two_ (i := 19) (j := 21) (Ni := some 28) (Nj := some 30) #[true, true, true, true, true, true, true, true, true, true, true, true, true, true, true, true, true, true, true, true, true, false, false, true, false, false, false] #[true, true, true, true, true, true, true, true, true, true, true, true, true, true, true, true, true, true, true, false, true, true, false, true, false, false, false] rfl rfl rfl rfl (two_of HT_.out (by kernel_rfl)) (by decide) (by decide) (fun K hK => ?_) (fun K hK => ?_)
      ·skip
       refine Kd.R_lit_step k75 _ 75 ?hg (N := 28) ?hd (xs := ([(⟨wrap64 (((rd_T23 l1 0).f0) - ((rd_T23 l0 0).f0)), wrap64 (((rd_T23 l1 0).f1) - ((rd_T23 l0 0).f1)), 0⟩ : S75)] : List (S75))) (inner := [.int .i64 (wrap64 (((rd_T23 l1 0).f0) - ((rd_T23 l0 0).f0))), .int .i64 (wrap64 (((rd_T23 l1 0).f1) - ((rd_T23 l0 0).f1))), .int .i64 0]) (ok := fun _ => True) (okp := fun _ => True) ?hr ?hp (fun _ hk => hk) trivial (Below.refl _ _) (Nat.le_refl _) (by simp) ?_; (case hd => rfl); (case hg => rfl); (case hr => first | (go_simp; done) | (go_simp; rfl)); (case hp => exact (Reps.c3 (show Kd.M k75 _ _ _ (⟨wrap64 (((rd_T23 l1 0).f0) - ((rd_T23 l0 0).f0)), wrap64 (((rd_T23 l1 0).f1) - ((rd_T23 l0 0).f1)), 0⟩ : S75) [.int .i64 (wrap64 (((rd_T23 l1 0).f0) - ((rd_T23 l0 0).f0))), .int .i64 (wrap64 (((rd_T23 l1 0).f1) - ((rd_T23 l0 0).f1))), .int .i64 0] from (k75_mkM _ _ _ (⟨wrap64 (((rd_T23 l1 0).f0) - ((rd_T23 l0 0).f0)), wrap64 (((rd_T23 l1 0).f1) - ((rd_T23 l0 0).f1)), 0⟩ : S75) )) (Reps.none _ _)))
       intro v107 w11 ho12 hb hg_ hnew_
       clear hg_ hnew_
       (first | rw [← Ny106.out] at ho12 | (simp only [Int.reduceToNat] at ho12; rw [← Ny106.out] at ho12))
       have HO108 := Aside0.mk (Kd.R_lower (Kd.R_newB ho12 (kB BK101)) (below_size (bB1 HB GE101)))
       replace BK101 := Aside0.mk (blk_below (kB BK101) hb)
       replace HB := Aside0.mk (below_step (bB1 HB GE101) hb)
       clear hb ho12
       refine hK.out _ _ ⟨((HB.out.cell (World.block_lt_of_cell? w _ hw102_0)).trans hw102_0), ((HB.out.cell (World.block_lt_of_cell? w _ hw102_1)).trans hw102_1), ((HB.out.cell (World.block_lt_of_cell? w _ hw103_0)).trans hw103_0), ((HB.out.cell (World.block_lt_of_cell? w _ hw103_1)).trans hw103_1), ((HB.out.cell (World.block_lt_of_cell? w _ hw104_0)).trans hw104_0), ((HB.out.cell (World.block_lt_of_cell? w _ hw104_1)).trans hw104_1), ((HB.out.cell (World.block_lt_of_cell? w _ hw105_0)).trans hw105_0), ((HB.out.cell (World.block_lt_of_cell? w _ hw105_1)).trans hw105_1)⟩ (fun hHeld => ?_)
       clear hK K
       refine nZ (some 28) ?_
       refine one_ (i := 21) (N := some 30) #[true, true, true, true, true, true, true, true, true, true, true, true, true, true, true, true, true, true, true, true, true, true, false, true, false, false, false] rfl rfl (one_of HT_.out (by kernel_rfl)) (by decide) (fun K hK => ?_)
       refine goes_ Try.func129 (by kernel_rfl) rfl #[.slice (some ad103) l0.length c0] (by rfl) rfl rfl mB ?_
       with_reducible refine (gooseneckref01_directions.calls k _ _ l0 t109 _ ?side1 ?side2 A5.out).mono ?_
       (case side1 => exact cB HR0 HB)
       (case side2 => exact HC0.out)
       rintro e w13 ⟨v110, rfl, ho0, hb⟩
       refine ⟨_, rfl, ?_⟩
       have n0_ := Aside0.mk (Kd.R_elder' (rB HO108) (Kd.R_base ho0) hb)
       have HO111 := Aside0.mk (Kd.R_lower (Kd.R_newB (Kd.R_new' ho0 (Kd.R_lt (rB HO108))) (kB BK101)) (below_size (bB1 HB GE101)))
       replace BK101 := Aside0.mk (blk_below (kB BK101) hb)
       replace HB := Aside0.mk (below_step (bB1 HB GE101) hb)
       clear HO108
       have HO108 := n0_
       clear n0_
       (try clear hb)
       (try clear hb2)
       (try clear hk)
       (try clear hi)
       (try clear ho0)
       refine hK.out _ _ ⟨((HB.out.cell (World.block_lt_of_cell? w _ hw102_0)).trans hw102_0), ((HB.out.cell (World.block_lt_of_cell? w _ hw102_1)).trans hw102_1), ((HB.out.cell (World.block_lt_of_cell? w _ hw103_0)).trans hw103_0), ((HB.out.cell (World.block_lt_of_cell? w _ hw103_1)).trans hw103_1), ((HB.out.cell (World.block_lt_of_cell? w _ hw104_0)).trans hw104_0), ((HB.out.cell (World.block_lt_of_cell? w _ hw104_1)).trans hw104_1), ((HB.out.cell (World.block_lt_of_cell? w _ hw105_0)).trans hw105_0), ((HB.out.cell (World.block_lt_of_cell? w _ hw105_1)).trans hw105_1)⟩ (fun hHeld => ?_)
       clear hK K
       refine nZ (some 30) ?_
       exact norm_ (by simp only [putAll, Act.put, List.setIfInBounds_toArray, List.set_cons_zero, List.set_cons_succ]) (hCont (v107, v110) _ ⟨hHeld, (by (with_reducible repeat (first | apply Kd.R_alloc | apply Kd.R_drewN | apply Kd.R_drew)); exact Kd.R_mono HO108.out (fun _ hk => ⟨hk.2, hk.1.2⟩)), (by (with_reducible repeat (first | apply Kd.R_alloc | apply Kd.R_drewN | apply Kd.R_drew)); exact Kd.R_mono HO111.out (fun _ hk => ⟨hk.1.2, hk.2⟩)), (kB BK101), (bB1 HB GE101)⟩)
      ·skip
       refine goes_ Try.func129 (by kernel_rfl) rfl #[.slice (some ad103) l0.length c0] (by rfl) rfl rfl mB ?_
       with_reducible refine (gooseneckref01_directions.calls k _ _ l0 t109 _ ?side1 ?side2 A5.out).mono ?_
       (case side1 => exact cB HR0 HB)
       (case side2 => exact HC0.out)
       rintro e w11 ⟨v110, rfl, ho0, hb⟩
       refine ⟨_, rfl, ?_⟩
       have HO111 := Aside0.mk (Kd.R_lower (Kd.R_newB ho0 (kB BK101)) (below_size (bB1 HB GE101)))
       replace BK101 := Aside0.mk (blk_below (kB BK101) hb)
       replace HB := Aside0.mk (below_step (bB1 HB GE101) hb)
       (try clear hb)
       (try clear hb2)
       (try clear hk)
       (try clear hi)
       (try clear ho0)
       refine hK.out _ _ ⟨((HB.out.cell (World.block_lt_of_cell? w _ hw102_0)).trans hw102_0), ((HB.out.cell (World.block_lt_of_cell? w _ hw102_1)).trans hw102_1), ((HB.out.cell (World.block_lt_of_cell? w _ hw103_0)).trans hw103_0), ((HB.out.cell (World.block_lt_of_cell? w _ hw103_1)).trans hw103_1), ((HB.out.cell (World.block_lt_of_cell? w _ hw104_0)).trans hw104_0), ((HB.out.cell (World.block_lt_of_cell? w _ hw104_1)).trans hw104_1), ((HB.out.cell (World.block_lt_of_cell? w _ hw105_0)).trans hw105_0), ((HB.out.cell (World.block_lt_of_cell? w _ hw105_1)).trans hw105_1)⟩ (fun hHeld => ?_)
       clear hK K
       refine nZ (some 30) ?_
       refine one_ (i := 19) (N := some 28) #[true, true, true, true, true, true, true, true, true, true, true, true, true, true, true, true, true, true, true, true, true, true, false, true, false, false, false] rfl rfl (one_of HT_.out (by kernel_rfl)) (by decide) (fun K hK => ?_)
       refine Kd.R_lit_step k75 _ 75 ?hg (N := 28) ?hd (xs := ([(⟨wrap64 (((rd_T23 l1 0).f0) - ((rd_T23 l0 0).f0)), wrap64 (((rd_T23 l1 0).f1) - ((rd_T23 l0 0).f1)), 0⟩ : S75)] : List (S75))) (inner := [.int .i64 (wrap64 (((rd_T23 l1 0).f0) - ((rd_T23 l0 0).f0))), .int .i64 (wrap64 (((rd_T23 l1 0).f1) - ((rd_T23 l0 0).f1))), .int .i64 0]) (ok := fun _ => True) (okp := fun _ => True) ?hr ?hp (fun _ hk => hk) trivial (Below.refl _ _) (Nat.le_refl _) (by simp) ?_; (case hd => rfl); (case hg => rfl); (case hr => first | (go_simp; done) | (go_simp; rfl)); (case hp => exact (Reps.c3 (show Kd.M k75 _ _ _ (⟨wrap64 (((rd_T23 l1 0).f0) - ((rd_T23 l0 0).f0)), wrap64 (((rd_T23 l1 0).f1) - ((rd_T23 l0 0).f1)), 0⟩ : S75) [.int .i64 (wrap64 (((rd_T23 l1 0).f0) - ((rd_T23 l0 0).f0))), .int .i64 (wrap64 (((rd_T23 l1 0).f1) - ((rd_T23 l0 0).f1))), .int .i64 0] from (k75_mkM _ _ _ (⟨wrap64 (((rd_T23 l1 0).f0) - ((rd_T23 l0 0).f0)), wrap64 (((rd_T23 l1 0).f1) - ((rd_T23 l0 0).f1)), 0⟩ : S75) )) (Reps.none _ _)))
       intro v107 w12 ho13 hb hg_ hnew_
       clear hg_ hnew_
       (first | rw [← Ny106.out] at ho13 | (simp only [Int.reduceToNat] at ho13; rw [← Ny106.out] at ho13))
       have n0_ := Aside0.mk (Kd.R_elder' (rB HO111) (Kd.R_base ho13) hb)
       have HO108 := Aside0.mk (Kd.R_lower (Kd.R_newB (Kd.R_new' ho13 (Kd.R_lt (rB HO111))) (kB BK101)) (below_size (bB1 HB GE101)))
       replace BK101 := Aside0.mk (blk_below (kB BK101) hb)
       replace HB := Aside0.mk (below_step (bB1 HB GE101) hb)
       clear HO111
       have HO111 := n0_
       clear n0_
       clear hb ho13
       refine hK.out _ _ ⟨((HB.out.cell (World.block_lt_of_cell? w _ hw102_0)).trans hw102_0), ((HB.out.cell (World.block_lt_of_cell? w _ hw102_1)).trans hw102_1), ((HB.out.cell (World.block_lt_of_cell? w _ hw103_0)).trans hw103_0), ((HB.out.cell (World.block_lt_of_cell? w _ hw103_1)).trans hw103_1), ((HB.out.cell (World.block_lt_of_cell? w _ hw104_0)).trans hw104_0), ((HB.out.cell (World.block_lt_of_cell? w _ hw104_1)).trans hw104_1), ((HB.out.cell (World.block_lt_of_cell? w _ hw105_0)).trans hw105_0), ((HB.out.cell (World.block_lt_of_cell? w _ hw105_1)).trans hw105_1)⟩ (fun hHeld => ?_)
       clear hK K
       refine nZ (some 28) ?_
       exact norm_ (by simp only [putAll, Act.put, List.setIfInBounds_toArray, List.set_cons_zero, List.set_cons_succ]) (hCont (v107, v110) _ ⟨hHeld, (by (with_reducible repeat (first | apply Kd.R_alloc | apply Kd.R_drewN | apply Kd.R_drew)); exact Kd.R_mono HO108.out (fun _ hk => ⟨hk.1.2, hk.2⟩)), (by (with_reducible repeat (first | apply Kd.R_alloc | apply Kd.R_drewN | apply Kd.R_drew)); exact Kd.R_mono HO111.out (fun _ hk => ⟨hk.2, hk.1.2⟩)), (kB BK101), (bB1 HB GE101)⟩)
     rintro ⟨v107, v110⟩ w14 ⟨hS_, h0_, h1_, h2_, h3_⟩
     have HO108 : Aside0 (Kd.R k75 75 w14 w.heap.size (fun k_ => some k_ ≠ (v110 : Value).ownBlock ∧ k_ ≠ gb101) v107 y106) := ⟨h0_⟩
     have HO111 : Aside0 (Kd.R k75 75 w14 w.heap.size (fun k_ => some k_ ≠ (v107 : Value).ownBlock ∧ k_ ≠ gb101) v110 t109) := ⟨h1_⟩
     have n2_ : Aside0 (w14.heap[gb101]? = some (.cells #[.int .i64 0, .int .i64 0, .int .i64 0] 75 (0, 0))) := ⟨h2_⟩
     have n3_ : Aside0 (Below w.heap.size w w14) := ⟨h3_⟩
     clear BK101
     clear HB
     clear h0_ h1_ h2_ h3_
     have BK101 := n2_
     have HB := n3_
     clear n2_ n3_
     have hHeld : w14.cell? ad102 = some (.int .i64 ((rd_T23 l1 0).f0)) ∧ w14.cell? ⟨ad102.block, ad102.off + 1, none⟩ = some (.int .i64 ((rd_T23 l1 0).f1)) ∧ w14.cell? ad103 = some (.int .i64 ((rd_T23 l0 0).f0)) ∧ w14.cell? ⟨ad103.block, ad103.off + 1, none⟩ = some (.int .i64 ((rd_T23 l0 0).f1)) ∧ w14.cell? ad102 = some (.int .i64 ((rd_T23 l1 0).f0)) ∧ w14.cell? ⟨ad102.block, ad102.off + 1, none⟩ = some (.int .i64 ((rd_T23 l1 0).f1)) ∧ w14.cell? ad103 = some (.int .i64 ((rd_T23 l0 0).f0)) ∧ w14.cell? ⟨ad103.block, ad103.off + 1, none⟩ = some (.int .i64 ((rd_T23 l0 0).f1)) := hS_
     obtain ⟨Ao16, co16, eo16⟩ := Kd.R_slice HO111.out
     (first | subst eo16 | (injection eo16 with f1_ f2_ f3_; have f4_ := f1_.symm; have f5_ := f3_.symm; clear f1_ f2_ f3_; subst f4_; subst f5_))
     refine norm_ (a' := ?_) ?_ ?_
     rotate_left
     ·simp only [putAll, Act.put, List.setIfInBounds_toArray, List.set_cons_zero, List.set_cons_succ]
      rfl
     refine one_ (i := 22) (N := some 31) #[true, true, true, true, true, true, true, true, true, true, true, true, true, true, true, true, true, true, true, true, true, true, true, true, false, false, false] rfl rfl (one_of HT_.out (by kernel_rfl)) (by decide) (fun K hK => ?_)
     refine Kd.R_append_rows_step k75 (w0 := w) w.heap.size (by rfl) (.tmp 28) (.tmp 30) 134 75 (.agg #[(.int .i64 0), (.int .i64 0), (.int .i64 0)]) 24 rfl Try.underlying134 info75 rfl (by decide) (by omega) v107 y106 t109 _ _ _ (fun k_ => some k_ ≠ (.slice Ao16 t109.length co16 : Value).ownBlock ∧ k_ ≠ gb101) (fun _ => False) rfl rfl ?aO ?aR (fun _ _ h => h) (fun _ h => h.elim) ?aF ?aB ?aS ?aL ?_
     (case aR => exact cB2 HO111)
     (case aB => exact (bB1 HB GE101))
     (case aF => exact (fun k_ hk => ⟨Kd.fresh' (Kd.R_lt (rB HO111)) k_ hk, Kd.freshB (kB BK101) k_ hk⟩))
     (case aO => exact (rB HO108))
     (case aS => exact (below_size (bB1 HB GE101)))
     (case aL => have := LMc6.out; omega)
     intro v113 w15 ho hb hg hat
     rw [← Ny112.out] at ho
     replace BK101 := Aside0.mk (blk_grown (kB BK101) hg (Kd.R_away HO108.out (fun _ hk => hk.2)))
     replace HO111 := Aside0.mk (Kd.R_after (ok := (fun k_ => k_ ≠ gb101)) (by (with_reducible repeat (first | apply Kd.R_alloc | apply Kd.R_drewN | apply Kd.R_drew)); exact Kd.R_mono HO111.out (fun _ hk => ⟨hk.2, hk.1⟩)) hg hat)
     replace HB := Aside0.mk (hb)
     have HO114 := Aside0.mk (ho)
     clear HO108
     clear ho hb hg hat
     refine hK.out _ _ ⟨((HB.out.cell (World.block_lt_of_cell? w _ hw102_0)).trans hw102_0), ((HB.out.cell (World.block_lt_of_cell? w _ hw102_1)).trans hw102_1), ((HB.out.cell (World.block_lt_of_cell? w _ hw103_0)).trans hw103_0), ((HB.out.cell (World.block_lt_of_cell? w _ hw103_1)).trans hw103_1), ((HB.out.cell (World.block_lt_of_cell? w _ hw104_0)).trans hw104_0), ((HB.out.cell (World.block_lt_of_cell? w _ hw104_1)).trans hw104_1), ((HB.out.cell (World.block_lt_of_cell? w _ hw105_0)).trans hw105_0), ((HB.out.cell (World.block_lt_of_cell? w _ hw105_1)).trans hw105_1)⟩ (fun hHeld => ?_)
     clear hK K
     refine nZ (some 31) ?_
     refine one_ (i := 24) (N := some 33) #[true, true, true, true, true, true, true, true, true, true, true, true, true, true, true, true, true, true, true, true, true, true, true, true, true, false, false] rfl rfl (one_of HT_.out (by kernel_rfl)) (by decide) (fun K hK => ?_)
     refine goes_ Try.func129 (by kernel_rfl) rfl #[.slice (some ad102) l1.length c1] (by rfl) rfl rfl mB ?_
     with_reducible refine (gooseneckref01_directions.calls k _ _ l1 t115 _ ?side1 ?side2 A7.out).mono ?_
     (case side1 => exact cB HR1 HB)
     (case side2 => exact HC1.out)
     rintro e w17 ⟨v116, rfl, ho0, hb⟩
     refine ⟨_, rfl, ?_⟩
     have n0_ := Aside0.mk (Kd.R_elder' (rB HO111) (Kd.R_base ho0) hb)
     have n1_ := Aside0.mk (Kd.R_elder' (rB HO114) (Kd.R_base ho0) hb)
     have HO117 := Aside0.mk (Kd.R_lower (Kd.R_newB (Kd.R_new' (Kd.R_new' ho0 (Kd.R_lt (rB HO111))) (Kd.R_lt (rB HO114))) (kB BK101)) (below_size (bB1 HB GE101)))
     replace BK101 := Aside0.mk (blk_below (kB BK101) hb)
     replace HB := Aside0.mk (below_step (bB1 HB GE101) hb)
     clear HO111
     clear HO114
     have HO111 := n0_
     have HO114 := n1_
     clear n0_ n1_
     (try clear hb)
     (try clear hb2)
     (try clear hk)
     (try clear hi)
     (try clear ho0)
     obtain ⟨Ao19, co19, eo19⟩ := Kd.R_slice HO117.out
     (first | subst eo19 | (injection eo19 with f1_ f2_ f3_; have f4_ := f1_.symm; have f5_ := f3_.symm; clear f1_ f2_ f3_; subst f4_; subst f5_))
     refine hK.out _ _ ⟨((HB.out.cell (World.block_lt_of_cell? w _ hw102_0)).trans hw102_0), ((HB.out.cell (World.block_lt_of_cell? w _ hw102_1)).trans hw102_1), ((HB.out.cell (World.block_lt_of_cell? w _ hw103_0)).trans hw103_0), ((HB.out.cell (World.block_lt_of_cell? w _ hw103_1)).trans hw103_1), ((HB.out.cell (World.block_lt_of_cell? w _ hw104_0)).trans hw104_0), ((HB.out.cell (World.block_lt_of_cell? w _ hw104_1)).trans hw104_1), ((HB.out.cell (World.block_lt_of_cell? w _ hw105_0)).trans hw105_0), ((HB.out.cell (World.block_lt_of_cell? w _ hw105_1)).trans hw105_1)⟩ (fun hHeld => ?_)
     clear hK K
     refine nZ (some 33) ?_
     refine one_ (i := 25) (N := some 34) #[true, true, true, true, true, true, true, true, true, true, true, true, true, true, true, true, true, true, true, true, true, true, true, true, true, true, false] rfl rfl (one_of HT_.out (by kernel_rfl)) (by decide) (fun K hK => ?_)
     refine Kd.R_append_rows_step k75 (w0 := w) w.heap.size (by rfl) (.tmp 31) (.tmp 33) 134 75 (.agg #[(.int .i64 0), (.int .i64 0), (.int .i64 0)]) 24 rfl Try.underlying134 info75 rfl (by decide) (by omega) v113 y112 t115 _ _ _ (fun k_ => some k_ ≠ (.slice Ao16 t109.length co16 : Value).ownBlock ∧ some k_ ≠ (.slice Ao19 t115.length co19 : Value).ownBlock ∧ k_ ≠ gb101) (fun _ => False) rfl rfl ?aO ?aR (fun _ _ h => h) (fun _ h => h.elim) ?aF ?aB ?aS ?aL ?_
     (case aR => exact cB2 HO117)
     (case aB => exact (bB1 HB GE101))
     (case aF => exact (fun k_ hk => ⟨Kd.fresh' (Kd.R_lt (rB HO111)) k_ hk, Kd.fresh' (Kd.R_lt (rB HO117)) k_ hk, Kd.freshB (kB BK101) k_ hk⟩))
     (case aO => exact (by (with_reducible repeat (first | apply Kd.R_alloc | apply Kd.R_drewN | apply Kd.R_drew)); exact Kd.R_mono HO114.out (fun _ hk => ⟨hk.1.1, ⟨hk.2, hk.1.2⟩⟩)))
     (case aS => exact (below_size (bB1 HB GE101)))
     (case aL => have := LMc8.out; omega)
     intro v119 w18 ho hb hg hat
     rw [← Ny118.out] at ho
     replace BK101 := Aside0.mk (blk_grown (kB BK101) hg (Kd.R_away HO114.out (fun _ hk => hk.1.2)))
     replace HO111 := Aside0.mk (Kd.R_after (ok := (fun k_ => some k_ ≠ (.slice Ao19 t115.length co19 : Value).ownBlock ∧ k_ ≠ gb101)) (by (with_reducible repeat (first | apply Kd.R_alloc | apply Kd.R_drewN | apply Kd.R_drew)); exact Kd.R_mono HO111.out (fun _ hk => ⟨⟨hk.2, hk.1.1⟩, hk.1.2⟩)) hg hat)
     replace HO117 := Aside0.mk (Kd.R_after (ok := (fun k_ => some k_ ≠ (.slice Ao16 t109.length co16 : Value).ownBlock ∧ k_ ≠ gb101)) (by (with_reducible repeat (first | apply Kd.R_alloc | apply Kd.R_drewN | apply Kd.R_drew)); exact Kd.R_mono HO117.out (fun _ hk => ⟨⟨hk.1.1.2, hk.2⟩, hk.1.2⟩)) hg hat)
     replace HB := Aside0.mk (hb)
     have HO120 := Aside0.mk (ho)
     clear HO114
     clear ho hb hg hat
     refine hK.out _ _ ⟨((HB.out.cell (World.block_lt_of_cell? w _ hw102_0)).trans hw102_0), ((HB.out.cell (World.block_lt_of_cell? w _ hw102_1)).trans hw102_1), ((HB.out.cell (World.block_lt_of_cell? w _ hw103_0)).trans hw103_0), ((HB.out.cell (World.block_lt_of_cell? w _ hw103_1)).trans hw103_1), ((HB.out.cell (World.block_lt_of_cell? w _ hw104_0)).trans hw104_0), ((HB.out.cell (World.block_lt_of_cell? w _ hw104_1)).trans hw104_1), ((HB.out.cell (World.block_lt_of_cell? w _ hw105_0)).trans hw105_0), ((HB.out.cell (World.block_lt_of_cell? w _ hw105_1)).trans hw105_1)⟩ (fun hHeld => ?_)
     clear hK K
     refine nZ (some 34) ?_
     refine pS 26 (some 6) HT_ ?_
     refine done_ (done_of HT_.out (by kernel_rfl)) ?_
     try go_wp2
     go_loopg [7] k (fun kq v7 w' => ∃ (x7_1 : Int) (x102000_1 : Int) (x102001_1 : Int) (x102002_1 : Int), v7 = .int .i64 x7_1 ∧ Aside0 (gooseneckref01_Parting.l0 kq l0 l1 y118 x7_1 = some (r1, r2, r3, r4)) ∧ Aside0 (kq ≤ k) ∧ Aside0 (Kd.R k75 75 w' w.heap.size (fun k_ => k_ ≠ gb101) v119 y118) ∧ Aside0 (w'.heap[gb101]? = some (.cells #[.int .i64 x102000_1, .int .i64 x102001_1, .int .i64 x102002_1] 75 (0, 0))) ∧ Aside0 (Below w.heap.size w w'))
     case atStart => exact ⟨(0), (0), (0), (0), sB, H', ⟨Nat.le_refl _⟩, ⟨by (with_reducible repeat (first | apply Kd.R_alloc | apply Kd.R_drewN | apply Kd.R_drew)); exact Kd.R_mono HO120.out (fun _ hk => hk.2.2)⟩, ⟨by (with_reducible repeat (first | refine blk_drewN ?_ _ | refine blk_drew ?_ | refine blk_alloc ?_ _)); exact BK101.out⟩, ⟨bB1 HB GE101⟩⟩
     case round =>
      clear H'
      try clear c1
      try clear p1
      try clear q1
      try clear hx1
      try clear qi1
      try clear p2
      try clear c3
      try clear c3b0
      try clear c3b1
      try clear c4
      try clear c4b0
      try clear c4b1
      try clear c6
      try clear p6
      try clear c8
      try clear p10
      try clear q10
      try clear hx10
      try clear qi10
      try clear c12
      try clear hx102_0
      try clear hx102_1
      try clear hx103_0
      try clear hx103_1
      try clear hx104_0
      try clear hx104_1
      try clear hx105_0
      try clear hx105_1
      try clear p102
      try clear p103
      try clear p104
      try clear p105
      try clear q102
      try clear q103
      try clear q104
      try clear q105
      obtain ⟨x7_1, x102000_1, x102001_1, x102002_1, rfl, HA, HK1, HO_6, BK101, HB⟩ := hrel
      cases gk with
      | zero => exact absurd HA.out (by simp [gooseneckref01_Parting.l0])
      | succ k1 =>
       have H := HA.out
       clear HA
       simp only [gooseneckref01_Parting.l0] at H
       by_cases c20 : x7_1 < (y118.length : Int)
       ·rw [if_pos c20] at H
        have c20b0 : decide (x7_1 < (y118.length : Int)) = true := decide_eq_true c20
        clear c20
        by_cases c21 : 0 ≤ x7_1
        ·rw [if_pos c21] at H
         have c21b0 : decide (0 ≤ x7_1) = true := decide_eq_true c21
         clear c21
         replace H := Option.bind_eq_some_iff.mp H
         obtain ⟨⟨t122, t123, t124⟩, A220, H⟩ := H
         replace H : ((gooseneckref01_parts.f k1 l0 l1 t122 t123 t124).bind fun t126 => (if t126 = true then (some (t122, t123, t124, true)) else (gooseneckref01_Parting.l0 k1 l0 l1 y118 (wrap64 (x7_1 + 1))))) = some (r1, r2, r3, r4) := H
         have A22 := Aside0.mk A220
         clear A220
         replace H := Option.bind_eq_some_iff.mp H
         obtain ⟨t126, A230, H⟩ := H
         replace H : (if t126 = true then (some (t122, t123, t124, true)) else (gooseneckref01_Parting.l0 k1 l0 l1 y118 (wrap64 (x7_1 + 1)))) = some (r1, r2, r3, r4) := H
         have A23 := Aside0.mk A230
         clear A230
         by_cases c24 : t126 = true
         ·subst c24
          have H1 : (some (t122, t123, t124, true)) = some (r1, r2, r3, r4) := by rw [if_pos rfl] at H; exact H
          clear H
          have H := H1
          clear H1
          simp only [Option.some.injEq, Prod.mk.injEq] at H
          obtain ⟨rfl, rfl, rfl, rfl⟩ := H
          obtain ⟨Ao25, co25, eo25⟩ := Kd.R_slice HO_6.out
          subst eo25
          have p121 : 0 ≤ (x7_1 : Int) := oB
          have q121 : x7_1 < (y118.length : Int) := oB
          obtain ⟨ad121, e121, hx121_0, hx121_1, hx121_2⟩ := at_T75 (Kd.R_reads' HO_6.out).2.2 x7_1 p121 q121
          cases e121
          replace p121 := eq_true p121
          replace q121 := eq_true q121
          go_wp2_with (first | ((with_reducible refine gate_callee (f := 130) rfl ?_); refine goesL_ (some 46) rfl rfl Try.func130 (by kernel_rfl) rfl #[.agg #[.int .i64 ((rd_T75 y118 x7_1).f0), .int .i64 ((rd_T75 y118 x7_1).f1), .int .i64 ((rd_T75 y118 x7_1).f2)], .slice (some ad103) l0.length c0] rfl mB ?_; (with_reducible refine (gooseneckref01_level.calls k1 ((rd_T75 y118 x7_1).f0) ((rd_T75 y118 x7_1).f1) ((rd_T75 y118 x7_1).f2) _ _ l0 t122 t123 t124 _ ?side1 ?side2 A22.out).mono ?_); (case side1 => exact cB HR0 HB); (case side2 => exact HC0.out); rintro e w26 ⟨rfl, hb⟩; refine ⟨_, rfl, ?_⟩; replace HO_6 := Aside0.mk (Kd.R_below (rB HO_6) hb); replace BK101 := Aside0.mk (blk_below (kB BK101) hb); replace HB := Aside0.mk (below_step (bB1 HB GE101) hb); (try clear hb); (try clear hb2); (try clear hk); (try clear hi)) | ((with_reducible refine gate_dst (N := 8) rfl ?_); refine boxE (N := 8) (cs := #[.int .i64 0, .int .i64 0, .int .i64 0]) (t := 75) ?_; intro gb125 hg w27 hbox hb; replace HO_6 := Aside0.mk (Kd.R_below (Kd.R_elderB (rB HO_6) gb125 (Nat.le_of_eq hg.symm)) hb); have n1_ := Aside0.mk (blk_below (kB BK101) hb); have n2_ := Aside0.mk (below_step (bB1 HB GE101) hb); have BK125 := Aside0.mk (hbox); have GW125 := Aside0.mk (szB hg (below_size (bB1 HB GE101))); have GE125 := GW125; have NB101_125 := Aside0.mk (neA hg (blk_lt (kB BK101))); have NB125_101 := Aside0.mk (neB hg (blk_lt (kB BK101))); clear BK101; clear HB; have BK101 := n1_; have HB := n2_; clear n1_ n2_; clear hb hbox hg; have hnb28 := NB125_101.out; have hnc28 := NB101_125.out; have hcz29_0 : w27.cell? ⟨gb125, 0, none⟩ = some (.int .i64 0) := (blk_cell BK125.out 0).trans rfl; have hcz29_1 : w27.cell? ⟨gb125, 1, none⟩ = some (.int .i64 0) := (blk_cell BK125.out 1).trans rfl; have hcz29_2 : w27.cell? ⟨gb125, 2, none⟩ = some (.int .i64 0) := (blk_cell BK125.out 2).trans rfl; have hfz29_0 := blk_frozen BK125.out 0; have hfz29_1 := blk_frozen BK125.out 1; have hfz29_2 := blk_frozen BK125.out 2) | ((with_reducible refine gate_callee (f := 105) rfl ?_); refine goesL_ (some 50) rfl rfl Try.func105 (by kernel_rfl) rfl #[.slice (some ad103) l0.length c0, .slice (some ad102) l1.length c1, .agg #[.int .i64 t122, .int .i64 t123, .int .i64 t124]] rfl mB ?_; (with_reducible refine (gooseneckref01_parts.calls k1 _ _ l0 _ _ l1 t122 t123 t124 true _ ?side1 ?side2 ?side3 ?side4 A23.out).mono ?_); (case side1 => exact Kd.C_below HR0.out (bB2 HB GE101 GE125)); (case side2 => exact HC0.out); (case side3 => exact Kd.C_below HR1.out (bB2 HB GE101 GE125)); (case side4 => exact HC1.out); rintro e w30 ⟨rfl, hb⟩; refine ⟨_, rfl, ?_⟩; replace HO_6 := Aside0.mk (Kd.R_below (by (with_reducible repeat (first | apply Kd.R_alloc | apply Kd.R_drewN | apply Kd.R_drew)); exact (Kd.R_mono (Kd.R_far (p := ⟨gb125, 2, none⟩) (Kd.R_far (p := ⟨gb125, 1, none⟩) (Kd.R_far (p := ⟨gb125, 0, none⟩) (Kd.R_mono HO_6.out (fun k_ hk => (⟨hk, hk.2⟩ : _ ∧ k_ ≠ gb125))) (fun _ hk => hk.2) (.int .i64 t122)) (fun _ hk => hk.2) (.int .i64 t123)) (fun _ hk => hk.2) (.int .i64 t124)) (fun _ h_ => h_.1))) hb); replace BK101 := Aside0.mk (blk_below (g := gb101) (o := .cells #[.int .i64 x102000_1, .int .i64 x102001_1, .int .i64 x102002_1] 75 (0, 0)) (by (with_reducible repeat (first | refine blk_drewN ?_ _ | refine blk_drew ?_ | refine blk_alloc ?_ _)); refine blk_far ?_ NB101_125.out _; (with_reducible repeat (first | refine blk_drewN ?_ _ | refine blk_drew ?_ | refine blk_alloc ?_ _)); refine blk_far ?_ NB101_125.out _; (with_reducible repeat (first | refine blk_drewN ?_ _ | refine blk_drew ?_ | refine blk_alloc ?_ _)); refine blk_far ?_ NB101_125.out _; (with_reducible repeat (first | refine blk_drewN ?_ _ | refine blk_drew ?_ | refine blk_alloc ?_ _)); exact BK101.out) hb); replace BK125 := Aside0.mk (blk_below (g := gb125) (o := .cells #[.int .i64 t122, .int .i64 t123, .int .i64 t124] 75 (0, 0)) (by (with_reducible repeat (first | refine blk_drewN ?_ _ | refine blk_drew ?_ | refine blk_alloc ?_ _)); refine blk_put (cs := #[.int .i64 t122, .int .i64 t123, .int .i64 0]) ?_ 2 _ rfl; (with_reducible repeat (first | refine blk_drewN ?_ _ | refine blk_drew ?_ | refine blk_alloc ?_ _)); refine blk_put (cs := #[.int .i64 t122, .int .i64 0, .int .i64 0]) ?_ 1 _ rfl; (with_reducible repeat (first | refine blk_drewN ?_ _ | refine blk_drew ?_ | refine blk_alloc ?_ _)); refine blk_put (cs := #[.int .i64 0, .int .i64 0, .int .i64 0]) ?_ 0 _ rfl; (with_reducible repeat (first | refine blk_drewN ?_ _ | refine blk_drew ?_ | refine blk_alloc ?_ _)); exact BK125.out) hb); replace HB := Aside0.mk (below_step (bB2 HB GE101 GE125) hb); (try clear hb); (try clear hb2); (try clear hk); (try clear hi); have hcz31_0 : w30.cell? ⟨gb125, 0, none⟩ = some (.int .i64 t122) := (blk_cell BK125.out 0).trans rfl; have hcz31_1 : w30.cell? ⟨gb125, 1, none⟩ = some (.int .i64 t123) := (blk_cell BK125.out 1).trans rfl; have hcz31_2 : w30.cell? ⟨gb125, 2, none⟩ = some (.int .i64 t124) := (blk_cell BK125.out 2).trans rfl; have hfz31_0 := blk_frozen BK125.out 0; have hfz31_1 := blk_frozen BK125.out 1; have hfz31_2 := blk_frozen BK125.out 2; have hcz32_0 : w30.cell? ⟨gb101, 0, none⟩ = some (.int .i64 x102000_1) := (blk_cell BK101.out 0).trans rfl; have hcz32_1 : w30.cell? ⟨gb101, 1, none⟩ = some (.int .i64 x102001_1) := (blk_cell BK101.out 1).trans rfl; have hcz32_2 : w30.cell? ⟨gb101, 2, none⟩ = some (.int .i64 x102002_1) := (blk_cell BK101.out 2).trans rfl; have hfz32_0 := blk_frozen BK101.out 0; have hfz32_1 := blk_frozen BK101.out 1; have hfz32_2 := blk_frozen BK101.out 2))
          refine bodyPost_ret (results_ct rfl _ _ gb101 75 #[.int .i64 t122, .int .i64 t123, .int .i64 t124] (0, 0) _ rfl (by (with_reducible repeat (first | refine blk_drewN ?_ _ | refine blk_drew ?_ | refine blk_alloc ?_ _)); refine blk_put (cs := #[.int .i64 t122, .int .i64 t123, .int .i64 x102002_1]) ?_ 2 _ rfl; (with_reducible repeat (first | refine blk_drewN ?_ _ | refine blk_drew ?_ | refine blk_alloc ?_ _)); refine blk_put (cs := #[.int .i64 t122, .int .i64 x102001_1, .int .i64 x102002_1]) ?_ 1 _ rfl; (with_reducible repeat (first | refine blk_drewN ?_ _ | refine blk_drew ?_ | refine blk_alloc ?_ _)); refine blk_put (cs := #[.int .i64 x102000_1, .int .i64 x102001_1, .int .i64 x102002_1]) ?_ 0 _ rfl; (with_reducible repeat (first | refine blk_drewN ?_ _ | refine blk_drew ?_ | refine blk_alloc ?_ _)); exact BK101.out) Try.underlying75 rfl (by kernel_rfl)) rfl ?_
          exact ⟨eB, bB2 HB GE101 GE125⟩
         ·replace c24 := Bool.eq_false_iff.mpr c24
          subst c24
          have H1 : (gooseneckref01_Parting.l0 k1 l0 l1 y118 (wrap64 (x7_1 + 1))) = some (r1, r2, r3, r4) := by rw [if_neg (show ¬ (false = true) by decide)] at H; exact H
          clear H
          have H := H1
          clear H1
          have H' := Aside0.mk H
          clear H
          obtain ⟨Ao33, co33, eo33⟩ := Kd.R_slice HO_6.out
          subst eo33
          have p121 : 0 ≤ (x7_1 : Int) := oB
          have q121 : x7_1 < (y118.length : Int) := oB
          obtain ⟨ad121, e121, hx121_0, hx121_1, hx121_2⟩ := at_T75 (Kd.R_reads' HO_6.out).2.2 x7_1 p121 q121
          cases e121
          replace p121 := eq_true p121
          replace q121 := eq_true q121
          go_wp2_with (first | ((with_reducible refine gate_callee (f := 130) rfl ?_); refine goesL_ (some 46) rfl rfl Try.func130 (by kernel_rfl) rfl #[.agg #[.int .i64 ((rd_T75 y118 x7_1).f0), .int .i64 ((rd_T75 y118 x7_1).f1), .int .i64 ((rd_T75 y118 x7_1).f2)], .slice (some ad103) l0.length c0] rfl mB ?_; (with_reducible refine (gooseneckref01_level.calls k1 ((rd_T75 y118 x7_1).f0) ((rd_T75 y118 x7_1).f1) ((rd_T75 y118 x7_1).f2) _ _ l0 t122 t123 t124 _ ?side1 ?side2 A22.out).mono ?_); (case side1 => exact cB HR0 HB); (case side2 => exact HC0.out); rintro e w34 ⟨rfl, hb⟩; refine ⟨_, rfl, ?_⟩; replace HO_6 := Aside0.mk (Kd.R_below (rB HO_6) hb); replace BK101 := Aside0.mk (blk_below (kB BK101) hb); replace HB := Aside0.mk (below_step (bB1 HB GE101) hb); (try clear hb); (try clear hb2); (try clear hk); (try clear hi)) | ((with_reducible refine gate_dst (N := 8) rfl ?_); refine boxE (N := 8) (cs := #[.int .i64 0, .int .i64 0, .int .i64 0]) (t := 75) ?_; intro gb125 hg w35 hbox hb; replace HO_6 := Aside0.mk (Kd.R_below (Kd.R_elderB (rB HO_6) gb125 (Nat.le_of_eq hg.symm)) hb); have n1_ := Aside0.mk (blk_below (kB BK101) hb); have n2_ := Aside0.mk (below_step (bB1 HB GE101) hb); have BK125 := Aside0.mk (hbox); have GW125 := Aside0.mk (szB hg (below_size (bB1 HB GE101))); have GE125 := GW125; have NB101_125 := Aside0.mk (neA hg (blk_lt (kB BK101))); have NB125_101 := Aside0.mk (neB hg (blk_lt (kB BK101))); clear BK101; clear HB; have BK101 := n1_; have HB := n2_; clear n1_ n2_; clear hb hbox hg; have hnb36 := NB125_101.out; have hnc36 := NB101_125.out; have hcz37_0 : w35.cell? ⟨gb125, 0, none⟩ = some (.int .i64 0) := (blk_cell BK125.out 0).trans rfl; have hcz37_1 : w35.cell? ⟨gb125, 1, none⟩ = some (.int .i64 0) := (blk_cell BK125.out 1).trans rfl; have hcz37_2 : w35.cell? ⟨gb125, 2, none⟩ = some (.int .i64 0) := (blk_cell BK125.out 2).trans rfl; have hfz37_0 := blk_frozen BK125.out 0; have hfz37_1 := blk_frozen BK125.out 1; have hfz37_2 := blk_frozen BK125.out 2) | ((with_reducible refine gate_callee (f := 105) rfl ?_); refine goesL_ (some 50) rfl rfl Try.func105 (by kernel_rfl) rfl #[.slice (some ad103) l0.length c0, .slice (some ad102) l1.length c1, .agg #[.int .i64 t122, .int .i64 t123, .int .i64 t124]] rfl mB ?_; (with_reducible refine (gooseneckref01_parts.calls k1 _ _ l0 _ _ l1 t122 t123 t124 false _ ?side1 ?side2 ?side3 ?side4 A23.out).mono ?_); (case side1 => exact Kd.C_below HR0.out (bB2 HB GE101 GE125)); (case side2 => exact HC0.out); (case side3 => exact Kd.C_below HR1.out (bB2 HB GE101 GE125)); (case side4 => exact HC1.out); rintro e w38 ⟨rfl, hb⟩; refine ⟨_, rfl, ?_⟩; replace HO_6 := Aside0.mk (Kd.R_below (by (with_reducible repeat (first | apply Kd.R_alloc | apply Kd.R_drewN | apply Kd.R_drew)); exact (Kd.R_mono (Kd.R_far (p := ⟨gb125, 2, none⟩) (Kd.R_far (p := ⟨gb125, 1, none⟩) (Kd.R_far (p := ⟨gb125, 0, none⟩) (Kd.R_mono HO_6.out (fun k_ hk => (⟨hk, hk.2⟩ : _ ∧ k_ ≠ gb125))) (fun _ hk => hk.2) (.int .i64 t122)) (fun _ hk => hk.2) (.int .i64 t123)) (fun _ hk => hk.2) (.int .i64 t124)) (fun _ h_ => h_.1))) hb); replace BK101 := Aside0.mk (blk_below (g := gb101) (o := .cells #[.int .i64 x102000_1, .int .i64 x102001_1, .int .i64 x102002_1] 75 (0, 0)) (by (with_reducible repeat (first | refine blk_drewN ?_ _ | refine blk_drew ?_ | refine blk_alloc ?_ _)); refine blk_far ?_ NB101_125.out _; (with_reducible repeat (first | refine blk_drewN ?_ _ | refine blk_drew ?_ | refine blk_alloc ?_ _)); refine blk_far ?_ NB101_125.out _; (with_reducible repeat (first | refine blk_drewN ?_ _ | refine blk_drew ?_ | refine blk_alloc ?_ _)); refine blk_far ?_ NB101_125.out _; (with_reducible repeat (first | refine blk_drewN ?_ _ | refine blk_drew ?_ | refine blk_alloc ?_ _)); exact BK101.out) hb); replace BK125 := Aside0.mk (blk_below (g := gb125) (o := .cells #[.int .i64 t122, .int .i64 t123, .int .i64 t124] 75 (0, 0)) (by (with_reducible repeat (first | refine blk_drewN ?_ _ | refine blk_drew ?_ | refine blk_alloc ?_ _)); refine blk_put (cs := #[.int .i64 t122, .int .i64 t123, .int .i64 0]) ?_ 2 _ rfl; (with_reducible repeat (first | refine blk_drewN ?_ _ | refine blk_drew ?_ | refine blk_alloc ?_ _)); refine blk_put (cs := #[.int .i64 t122, .int .i64 0, .int .i64 0]) ?_ 1 _ rfl; (with_reducible repeat (first | refine blk_drewN ?_ _ | refine blk_drew ?_ | refine blk_alloc ?_ _)); refine blk_put (cs := #[.int .i64 0, .int .i64 0, .int .i64 0]) ?_ 0 _ rfl; (with_reducible repeat (first | refine blk_drewN ?_ _ | refine blk_drew ?_ | refine blk_alloc ?_ _)); exact BK125.out) hb); replace HB := Aside0.mk (below_step (bB2 HB GE101 GE125) hb); (try clear hb); (try clear hb2); (try clear hk); (try clear hi)))
          go_roundg k1
          case measure => have := HK1.out; omega
          case rel => exact ⟨(wrap64 (x7_1 + 1)), (x102000_1), (x102001_1), (x102002_1), sB, H', ⟨by have := HK1.out; omega⟩, ⟨by (with_reducible repeat (first | apply Kd.R_alloc | apply Kd.R_drewN | apply Kd.R_drew)); exact Kd.R_mono HO_6.out (fun _ hk => hk.1)⟩, ⟨by (with_reducible repeat (first | refine blk_drewN ?_ _ | refine blk_drew ?_ | refine blk_alloc ?_ _)); exact BK101.out⟩, ⟨bB2 HB GE101 GE125⟩⟩
        ·rw [if_neg c21] at H
         exact absurd H (by simp)
       ·rw [if_neg c20] at H
        have c20b0 : decide (x7_1 < (y118.length : Int)) = false := decide_eq_false c20
        clear c20
        simp only [Option.some.injEq, Prod.mk.injEq] at H
        obtain ⟨rfl, rfl, rfl, rfl⟩ := H
        obtain ⟨Ao39, co39, eo39⟩ := Kd.R_slice HO_6.out
        subst eo39
        have hcz40_0 : wr.cell? ⟨gb101, 0, none⟩ = some (.int .i64 x102000_1) := (blk_cell BK101.out 0).trans rfl
        have hcz40_1 : wr.cell? ⟨gb101, 1, none⟩ = some (.int .i64 x102001_1) := (blk_cell BK101.out 1).trans rfl
        have hcz40_2 : wr.cell? ⟨gb101, 2, none⟩ = some (.int .i64 x102002_1) := (blk_cell BK101.out 2).trans rfl
        have hfz40_0 := blk_frozen BK101.out 0
        have hfz40_1 := blk_frozen BK101.out 1
        have hfz40_2 := blk_frozen BK101.out 2
        go_wp2
        refine bodyPost_ret (results_ct rfl _ _ gb101 75 #[.int .i64 0, .int .i64 0, .int .i64 0] (0, 0) _ rfl (by (with_reducible repeat (first | refine blk_drewN ?_ _ | refine blk_drew ?_ | refine blk_alloc ?_ _)); refine blk_put (cs := #[.int .i64 0, .int .i64 0, .int .i64 x102002_1]) ?_ 2 _ rfl; (with_reducible repeat (first | refine blk_drewN ?_ _ | refine blk_drew ?_ | refine blk_alloc ?_ _)); refine blk_put (cs := #[.int .i64 0, .int .i64 x102001_1, .int .i64 x102002_1]) ?_ 1 _ rfl; (with_reducible repeat (first | refine blk_drewN ?_ _ | refine blk_drew ?_ | refine blk_alloc ?_ _)); refine blk_put (cs := #[.int .i64 x102000_1, .int .i64 x102001_1, .int .i64 x102002_1]) ?_ 0 _ rfl; (with_reducible repeat (first | refine blk_drewN ?_ _ | refine blk_drew ?_ | refine blk_alloc ?_ _)); exact BK101.out) Try.underlying75 rfl (by kernel_rfl)) rfl ?_
        exact ⟨eB, bB1 HB GE101⟩
    ·rw [if_neg c8] at H
     exact absurd H (by simp)
   ·rw [if_neg c6] at H
    exact absurd H (by simp)
  ·rw [if_neg c4] at H
   exact absurd H (by simp)
 ·rw [if_neg c3] at H
  exact absurd H (by simp)
def gooseneckref01_Meets.f (k : Nat) (l0 : List (S23)) (l1 : List (S23)) : Option (Bool) := (gooseneckref01_Parting.f k l0 l1).bind fun bt101 => (some (!bt101.2.2.2))
theorem gooseneckref01_Meets.mono : ∀ a0 a1 k, LeO (gooseneckref01_Meets.f k a0 a1) (gooseneckref01_Meets.f (k + 1) a0 a1) := by
 intro a0 a1 k
 unfold gooseneckref01_Meets.f
 repeat' first
   | (with_reducible exact gooseneckref01_Parting.mono _ _ _)
   | (with_reducible exact LeO.refl _)
   | (with_reducible exact LeO.none _)
   | (with_reducible refine LeO.ite ?_ ?_)
   | (with_reducible refine LeO.bind ?_ (fun _ => ?_))
   | exact gooseneckref01_Parting.mono _ _ _
   | exact LeO.none _
   | refine LeO.ite ?_ ?_
   | refine LeO.bind ?_ (fun _ => ?_)
set_option maxHeartbeats 8000000 in
set_option maxRecDepth 100000 in
theorem gooseneckref01_Meets.calls (k : Nat) (A0 : Option Addr) (c0 : Nat) (l0 : List (S23)) (A1 : Option Addr) (c1 : Nat) (l1 : List (S23)) (r : Bool) (w : World) (hr0 : Kd.C k23 w A0 l0.length l0) (hc0 : l0.length ≤ c0) (hr1 : Kd.C k23 w A1 l1.length l1) (hc1 : l1.length ≤ c1) (h : gooseneckref01_Meets.f k l0 l1 = some r) :
  Calls Try.prog 102 #[.slice A0 l0.length c0, .slice A1 l1.length c1] w fun e w' => e = .returned (.bool r) ∧ Below w.heap.size w w' := by
 have hu75 := Try.underlying75
 have HR0 := Aside0.mk hr0
 have HC0 := Aside0.mk hc0
 clear hr0 hc0
 have HR1 := Aside0.mk hr1
 have HC1 := Aside0.mk hc1
 clear hr1 hc1
 have HB := Aside0.mk (Below.refl w.heap.size w)
 have H : ((gooseneckref01_Parting.f k l0 l1).bind fun bt101 => (some (!bt101.2.2.2))) = some r := h
 clear h
 replace H := Option.bind_eq_some_iff.mp H
 obtain ⟨⟨t101, t102, t103, t104⟩, A30, H⟩ := H
 replace H : (some (!t104)) = some r := H
 have A3 := Aside0.mk A30
 clear A30
 obtain rfl := Option.some.inj H
 go_enter Try.func102, Try.ntmps102
 go_wp2_with (first | ((with_reducible refine gate_callee (f := 121) rfl ?_); refine goesL_ (some 10) rfl rfl Try.func121 (by kernel_rfl) rfl #[.slice A0 l0.length c0, .slice A1 l1.length c1] rfl mB ?_; (with_reducible refine (gooseneckref01_Parting.calls k _ _ l0 _ _ l1 t101 t102 t103 t104 _ ?side1 ?side2 ?side3 ?side4 A3.out).mono ?_); (case side1 => exact cB1 HR0); (case side2 => exact HC0.out); (case side3 => exact cB1 HR1); (case side4 => exact HC1.out); rintro e w4 ⟨rfl, hb⟩; refine ⟨_, rfl, ?_⟩; replace HB := Aside0.mk (below_step (bB0 HB) hb); (try clear hb); (try clear hb2); (try clear hk); (try clear hi)) | ((with_reducible refine gate_dst (N := 5) rfl ?_); refine boxE (N := 5) (cs := #[.int .i64 0, .int .i64 0, .int .i64 0]) (t := 75) ?_; intro gb105 hg w5 hbox hb; have n0_ := Aside0.mk (below_step (bB0 HB) hb); have BK105 := Aside0.mk (hbox); have GW105 := Aside0.mk (szB hg (below_size (bB0 HB))); have GE105 := GW105; clear HB; have HB := n0_; clear n0_; clear hb hbox hg; have hcz6_0 : w5.cell? ⟨gb105, 0, none⟩ = some (.int .i64 0) := (blk_cell BK105.out 0).trans rfl; have hcz6_1 : w5.cell? ⟨gb105, 1, none⟩ = some (.int .i64 0) := (blk_cell BK105.out 1).trans rfl; have hcz6_2 : w5.cell? ⟨gb105, 2, none⟩ = some (.int .i64 0) := (blk_cell BK105.out 2).trans rfl; have hfz6_0 := blk_frozen BK105.out 0; have hfz6_1 := blk_frozen BK105.out 1; have hfz6_2 := blk_frozen BK105.out 2))
 go_ret
 exact ⟨eB, bB1 HB GE105⟩
end Go.Proofs.Ytegdcnjjelgpjaa.P
