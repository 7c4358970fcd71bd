/- The law BridgeBorne answers true at every input and leaves its arguments as they were; no condition. Part 3 of 6. -/
import Derived.Test.YtiklpefckadgdaaCBridgeBorne0
import Derived.Test.YtiklpefckadgdaaCBridgeBorne1
noncomputable section
namespace Go.Proofs.Ytiklpefckadgdaa.P
open Go.RowKit Go.Proofs.YtiklpefckadgdaaW.PrintWords Go.Proofs.YtiklpefckadgdaaW.PrintLast Go.Proofs.YtiklpefckadgdaaW.PrintMore
attribute [local go_sem] max2_int min2_int max_two min_two max_three min_three max_four min_four   -- for this text's walks alone
set_option linter.unusedVariables false
set_option linter.unusedSimpArgs false
mutual
def bridge_wear.l0 : Nat → Int → List (S35) → Int → Int → Int → Int → Int → Option (Int × Int)
 | 0, _, _, _, _, _, _, _ => none
 | k + 1, x7, x22, x23, x24, x102000, x102001, x102002 => if x24 < x23 then (if 0 ≤ x24 then (if x24 < (x22.length : Int) then ((bridge_up.f (wrap64 (((rd_T35 x22 x24).f1) * 1000)) x102000).bind fun t110 => (bridge_wear.l1 k x7 t110 t110 1 x22 x23 x24 x102000 x102001 x102002)) else (none)) else (none)) else (some (x7, 0))
def bridge_wear.l1 : Nat → Int → Int → Int → Int → List (S35) → Int → Int → Int → Int → Int → Option (Int × Int)
 | 0, _, _, _, _, _, _, _, _, _, _ => none
 | k + 1, x7, x10, x11, x12, x22, x23, x24, x102000, x102001, x102002 => if x12 < x102002 then (if x11 ≤ 1073741824 then ((bridge_up.f (wrap64 (x11 * x10)) 1000).bind fun t111 => (bridge_wear.l1 k x7 x10 t111 (wrap64 (x12 + 1)) x22 x23 x24 x102000 x102001 x102002)) else (if x11 > 1073741824 then (some (0, 4)) else (if (wrap64 (x7 + x11)) > 1073741824 then (some (0, 4)) else (bridge_wear.l0 k (wrap64 (x7 + x11)) x22 x23 (wrap64 (x24 + 1)) x102000 x102001 x102002)))) else (if x11 > 1073741824 then (some (0, 4)) else (if (wrap64 (x7 + x11)) > 1073741824 then (some (0, 4)) else (bridge_wear.l0 k (wrap64 (x7 + x11)) x22 x23 (wrap64 (x24 + 1)) x102000 x102001 x102002)))
end
def bridge_wear.f (k : Nat) (a0_0 : Int) (a0_1 : Int) (a0_2 : Int) (l1 : List (S35)) : Option (Int × Int) := (bridge_CheckPavement.f a0_0 a0_1 a0_2).bind fun t102 => ((bridge_CheckTrain.f k l1).bind fun t103 => ((cmp_Or_80.f k (([t102, t103] : List Int))).bind fun t107 => (if t107 = 0 then (bridge_wear.l0 k 0 l1 (l1.length : Int) 0 a0_0 a0_1 a0_2) else (some (0, t107)))))
theorem bridge_wear.mono_l : ∀ k, (∀ y0 y1 y2 y3 y4 y5 y6, LeO (bridge_wear.l0 k y0 y1 y2 y3 y4 y5 y6) (bridge_wear.l0 (k + 1) y0 y1 y2 y3 y4 y5 y6)) ∧ (∀ y0 y1 y2 y3 y4 y5 y6 y7 y8 y9, LeO (bridge_wear.l1 k y0 y1 y2 y3 y4 y5 y6 y7 y8 y9) (bridge_wear.l1 (k + 1) y0 y1 y2 y3 y4 y5 y6 y7 y8 y9))
 | 0 => ⟨fun _ _ _ _ _ _ _ r h => by simp [bridge_wear.l0] at h, fun _ _ _ _ _ _ _ _ _ _ r h => by simp [bridge_wear.l1] at h⟩
 | k + 1 => by
  obtain ⟨ih0, ih1⟩ := bridge_wear.mono_l k
  refine ⟨?_, ?_⟩
  ·intro y0 y1 y2 y3 y4 y5 y6
   unfold bridge_wear.l0
   repeat' first
   | (with_reducible exact ih0 _ _ _ _ _ _ _)
   | (with_reducible exact ih1 _ _ _ _ _ _ _ _ _ _)
   | (with_reducible exact bridge_CheckTrain.mono _ _)
   | (with_reducible exact cmp_Or_80.mono _ _)
   | (with_reducible exact LeO.refl _)
   | (with_reducible exact LeO.none _)
   | (with_reducible refine LeO.ite ?_ ?_)
   | (with_reducible refine LeO.bind ?_ (fun _ => ?_))
   | exact ih0 _ _ _ _ _ _ _
   | exact ih1 _ _ _ _ _ _ _ _ _ _
   | exact bridge_CheckTrain.mono _ _
   | exact cmp_Or_80.mono _ _
   | exact LeO.none _
   | refine LeO.ite ?_ ?_
   | refine LeO.bind ?_ (fun _ => ?_)
  ·intro y0 y1 y2 y3 y4 y5 y6 y7 y8 y9
   unfold bridge_wear.l1
   repeat' first
   | (with_reducible exact ih0 _ _ _ _ _ _ _)
   | (with_reducible exact ih1 _ _ _ _ _ _ _ _ _ _)
   | (with_reducible exact bridge_CheckTrain.mono _ _)
   | (with_reducible exact cmp_Or_80.mono _ _)
   | (with_reducible exact LeO.refl _)
   | (with_reducible exact LeO.none _)
   | (with_reducible refine LeO.ite ?_ ?_)
   | (with_reducible refine LeO.bind ?_ (fun _ => ?_))
   | exact ih0 _ _ _ _ _ _ _
   | exact ih1 _ _ _ _ _ _ _ _ _ _
   | exact bridge_CheckTrain.mono _ _
   | exact cmp_Or_80.mono _ _
   | exact LeO.none _
   | refine LeO.ite ?_ ?_
   | refine LeO.bind ?_ (fun _ => ?_)
theorem bridge_wear.mono : ∀ a0 a1 a2 a3 k, LeO (bridge_wear.f k a0 a1 a2 a3) (bridge_wear.f (k + 1) a0 a1 a2 a3) := by
 intro a0 a1 a2 a3 k
 obtain ⟨ih0, ih1⟩ := bridge_wear.mono_l k
 unfold bridge_wear.f
 repeat' first
   | (with_reducible exact ih0 _ _ _ _ _ _ _)
   | (with_reducible exact ih1 _ _ _ _ _ _ _ _ _ _)
   | (with_reducible exact bridge_CheckTrain.mono _ _)
   | (with_reducible exact cmp_Or_80.mono _ _)
   | (with_reducible exact LeO.refl _)
   | (with_reducible exact LeO.none _)
   | (with_reducible refine LeO.ite ?_ ?_)
   | (with_reducible refine LeO.bind ?_ (fun _ => ?_))
   | exact ih0 _ _ _ _ _ _ _
   | exact ih1 _ _ _ _ _ _ _ _ _ _
   | exact bridge_CheckTrain.mono _ _
   | exact cmp_Or_80.mono _ _
   | exact LeO.none _
   | refine LeO.ite ?_ ?_
   | refine LeO.bind ?_ (fun _ => ?_)
set_option maxHeartbeats 8000000 in
set_option maxRecDepth 100000 in
theorem bridge_wear.calls (k : Nat) (a0_0 : Int) (a0_1 : Int) (a0_2 : Int) (A1 : Option Addr) (c1 : Nat) (l1 : List (S35)) (r1 : Int) (r2 : Int) (w : World) (hr1 : Kd.C k35 w A1 l1.length l1) (hc1 : l1.length ≤ c1) (h : bridge_wear.f k a0_0 a0_1 a0_2 l1 = some (r1, r2)) :
  Calls Try.prog 51 #[.agg #[.int .i64 a0_0, .int .i64 a0_1, .int .i64 a0_2], .slice A1 l1.length c1] w fun e w' => e = .returned (.tuple #[.int .i64 r1, .int .i64 r2]) ∧ Below w.heap.size w w' := by
 have hu43 := Try.underlying43
 have hu35 := Try.underlying35
 have HR1 := Aside0.mk hr1
 have HC1 := Aside0.mk hc1
 clear hr1 hc1
 have HB := Aside0.mk (Below.refl w.heap.size w)
 have H : ((bridge_CheckPavement.f a0_0 a0_1 a0_2).bind fun t102 => ((bridge_CheckTrain.f k l1).bind fun t103 => ((cmp_Or_80.f k (([t102, t103] : List Int))).bind fun t107 => (if t107 = 0 then (bridge_wear.l0 k 0 l1 (l1.length : Int) 0 a0_0 a0_1 a0_2) else (some (0, t107)))))) = some (r1, r2) := h
 clear h
 replace H := Option.bind_eq_some_iff.mp H
 obtain ⟨t102, A30, H⟩ := H
 replace H : ((bridge_CheckTrain.f k l1).bind fun t103 => ((cmp_Or_80.f k (([t102, t103] : List Int))).bind fun t107 => (if t107 = 0 then (bridge_wear.l0 k 0 l1 (l1.length : Int) 0 a0_0 a0_1 a0_2) else (some (0, t107))))) = some (r1, r2) := H
 have A3 := Aside0.mk A30
 clear A30
 replace H := Option.bind_eq_some_iff.mp H
 obtain ⟨t103, A40, H⟩ := H
 replace H : ((cmp_Or_80.f k (([t102, t103] : List Int))).bind fun t107 => (if t107 = 0 then (bridge_wear.l0 k 0 l1 (l1.length : Int) 0 a0_0 a0_1 a0_2) else (some (0, t107)))) = some (r1, r2) := H
 have A4 := Aside0.mk A40
 clear A40
 obtain ⟨y104, hy104⟩ : ∃ y_ : List Int, y_ = (([t102, t103] : List Int)) := ⟨_, rfl⟩
 replace H : ((cmp_Or_80.f k y104).bind fun t107 => (if t107 = 0 then (bridge_wear.l0 k 0 l1 (l1.length : Int) 0 a0_0 a0_1 a0_2) else (some (0, t107)))) = some (r1, r2) := by first | (rw [hy104]; with_reducible exact H) | (have H2_ := (Option.bind_some _ _).symm.trans H; rw [hy104]; with_reducible exact H2_) | (have H2_ := (Option.bind_some _ _).symm.trans H; with_reducible exact H2_) | with_reducible exact H | (rw [hy104]; exact H) | exact H
 have Ny104 := Aside0.mk hy104
 clear hy104
 replace H := Option.bind_eq_some_iff.mp H
 obtain ⟨t107, A50, H⟩ := H
 replace H : (if t107 = 0 then (bridge_wear.l0 k 0 l1 (l1.length : Int) 0 a0_0 a0_1 a0_2) else (some (0, t107))) = some (r1, r2) := H
 have A5 := Aside0.mk A50
 clear A50
 by_cases c6 : t107 = 0
 ·rw [if_pos c6] at H
  have c6b0 : (t107 == 0) = true := beq_iff_eq.mpr c6
  have c6b1 : (t107 != 0) = false := bne_eq_false_iff_eq.mpr c6
  clear c6
  have H' := Aside0.mk H
  clear H
  go_enter Try.func51, Try.ntmps51
  go_wp2_with (first | ((with_reducible refine gate_dst (N := 2) rfl ?_); refine box_event ?hg (N := 2) ?hd (cs := #[.int .i64 a0_0, .int .i64 a0_1, .int .i64 a0_2]) (t := 43) ?hr ?_; (case hd => rfl); (case hg => rfl); (case hr => first | (go_simp; done) | (go_simp; rfl)); intro gb101 hg w7 hbox hb; have n0_ := Aside0.mk (below_step (by repeat (first | (with_reducible first | exact HB.out | apply below_alloc | apply pw_below_drewN | apply below_drew1) | exact HB.out)) hb); have n1_ := Aside0.mk (hbox); have n2_ := Aside0.mk ((by rw [hg]; exact (below_size (by repeat (first | (with_reducible first | exact HB.out | apply below_alloc | apply pw_below_drewN | apply below_drew1) | exact HB.out))) : w.heap.size ≤ gb101)); have n3_ := Aside0.mk ((by rw [hg]; exact (below_size (by repeat (first | (with_reducible first | exact HB.out | apply below_alloc | apply pw_below_drewN | apply below_drew1) | exact HB.out))) : w.heap.size ≤ gb101)); clear HB; have HB := n0_; have BK101 := n1_; have GW101 := n2_; have GE101 := n3_; clear n0_ n1_ n2_ n3_; clear hb hbox hg; have hcz8_0 : w7.cell? ⟨gb101, 0, none⟩ = some (.int .i64 a0_0) := (blk_cell BK101.out 0).trans rfl; have hcz8_1 : w7.cell? ⟨gb101, 1, none⟩ = some (.int .i64 a0_1) := (blk_cell BK101.out 1).trans rfl; have hcz8_2 : w7.cell? ⟨gb101, 2, none⟩ = some (.int .i64 a0_2) := (blk_cell BK101.out 2).trans rfl; have hfz8_0 := blk_frozen BK101.out 0; have hfz8_1 := blk_frozen BK101.out 1; have hfz8_2 := blk_frozen BK101.out 2) | ((with_reducible refine gate_callee (f := 24) rfl ?_); refine goesL_ (some 14) rfl rfl Try.func24 (by kernel_rfl) rfl #[.agg #[.int .i64 a0_0, .int .i64 a0_1, .int .i64 a0_2]] rfl (by (try simp only [List.map_toArray, List.map_cons, List.map_nil]); first | done | rfl | (simp only [List.length_drop, List.length_take]; rfl)) ?_; (with_reducible refine (bridge_CheckPavement.calls a0_0 a0_1 a0_2 t102 _ A3.out).mono ?_); rintro e w9 ⟨rfl, hb⟩; refine ⟨_, rfl, ?_⟩; have n0_ := Aside0.mk (blk_below (g := gb101) (o := .cells #[.int .i64 a0_0, .int .i64 a0_1, .int .i64 a0_2] 43 (0, 0)) (by (with_reducible repeat (first | refine blk_drewN ?_ _ | refine blk_drew ?_ | refine blk_alloc ?_ _)); exact BK101.out) hb); have n1_ := Aside0.mk (below_step (by repeat (first | (with_reducible first | exact HB.out | apply below_alloc | apply pw_below_drewN | apply below_drew1 | refine below_set ?_ GE101.out) | exact HB.out)) hb); clear BK101; clear HB; have BK101 := n0_; have HB := n1_; clear n0_ n1_; (try clear hb); (try clear hb2); (try clear hk); (try clear hi)) | ((with_reducible refine gate_callee (f := 29) rfl ?_); refine goesL_ (some 16) rfl rfl Try.func29 (by kernel_rfl) rfl #[.slice A1 l1.length c1] rfl (by (try simp only [List.map_toArray, List.map_cons, List.map_nil]); first | done | rfl | (simp only [List.length_drop, List.length_take]; rfl)) ?_; (with_reducible refine (bridge_CheckTrain.calls k _ _ l1 t103 _ ?side1 ?side2 A4.out).mono ?_); (case side1 => repeat (first | exact (Kd.C_below HR1.out HB.out) | (with_reducible refine Kd.C_alloc ?_ _) | (with_reducible refine Kd.C_drewN ?_ _) | (with_reducible refine Kd.C_drew ?_))); (case side2 => exact HC1.out); rintro e w10 ⟨rfl, hb⟩; refine ⟨_, rfl, ?_⟩; have n0_ := Aside0.mk (blk_below (g := gb101) (o := .cells #[.int .i64 a0_0, .int .i64 a0_1, .int .i64 a0_2] 43 (0, 0)) (by (with_reducible repeat (first | refine blk_drewN ?_ _ | refine blk_drew ?_ | refine blk_alloc ?_ _)); exact BK101.out) hb); have n1_ := Aside0.mk (below_step (by repeat (first | (with_reducible first | exact HB.out | apply below_alloc | apply pw_below_drewN | apply below_drew1 | refine below_set ?_ GE101.out) | exact HB.out)) hb); clear BK101; clear HB; have BK101 := n0_; have HB := n1_; clear n0_ n1_; (try clear hb); (try clear hb2); (try clear hk); (try clear hi)) | ((with_reducible refine gate_dst (N := 17) rfl ?_); refine Kd.R_lit (Kd.int .i64) _ 30 ?hg (N := 17) ?hd (xs := ([t102, t103] : List Int)) (inner := [.int .i64 t102, .int .i64 t103]) (ok := fun _ => True) (okp := fun _ => True) ?hr ?hp (fun _ hk => hk) trivial (Below.refl _ _) (Nat.le_refl _) (by simp) ?_; (case hd => rfl); (case hg => rfl); (case hr => first | (go_simp; done) | (go_simp; rfl)); (case hp => exact (Reps.one (show Kd.M (Kd.int .i64) _ _ _ t102 [.int .i64 t102] from rfl) (Reps.one (show Kd.M (Kd.int .i64) _ _ _ t103 [.int .i64 t103] from rfl) (Reps.none _ _)))); intro v105 w11 ho12 hb hg_ hnew_; clear hg_ hnew_; (first | rw [← Ny104.out] at ho12 | (simp only [Int.reduceToNat] at ho12; rw [← Ny104.out] at ho12)); have n0_ := Aside0.mk (Kd.R_lower ho12 (below_size (by repeat (first | (with_reducible first | exact HB.out | apply below_alloc | apply pw_below_drewN | apply below_drew1 | refine below_set ?_ GE101.out) | exact HB.out)))); have n1_ := Aside0.mk (blk_below (g := gb101) (o := .cells #[.int .i64 a0_0, .int .i64 a0_1, .int .i64 a0_2] 43 (0, 0)) (by (with_reducible repeat (first | refine blk_drewN ?_ _ | refine blk_drew ?_ | refine blk_alloc ?_ _)); exact BK101.out) hb); have n2_ := Aside0.mk (below_step (by repeat (first | (with_reducible first | exact HB.out | apply below_alloc | apply pw_below_drewN | apply below_drew1 | refine below_set ?_ GE101.out) | exact HB.out)) hb); clear BK101; clear HB; have HO106 := n0_; have BK101 := n1_; have HB := n2_; clear n0_ n1_ n2_; clear hb ho12; obtain ⟨Ao13, co13, eo13⟩ := Kd.R_slice HO106.out; subst eo13) | ((with_reducible refine gate_callee (f := 80) rfl ?_); refine goesL_ (some 18) rfl rfl Try.func80 (by kernel_rfl) rfl #[.slice Ao13 y104.length co13] rfl (by (try simp only [List.map_toArray, List.map_cons, List.map_nil]); first | done | rfl | (simp only [List.length_drop, List.length_take]; rfl)) ?_; (with_reducible refine (cmp_Or_80.calls k _ _ y104 t107 _ ?side1 ?side2 A5.out).mono ?_); (case side1 => repeat (first | exact (Kd.R_reads' HO106.out).2.2 | (with_reducible refine Kd.C_alloc ?_ _) | (with_reducible refine Kd.C_drewN ?_ _) | (with_reducible refine Kd.C_drew ?_))); (case side2 => exact (Kd.R_reads' HO106.out).2.1); rintro e w' ⟨rfl, ⟨nd, rfl⟩⟩; refine ⟨_, rfl, ?_⟩))
  go_loopg [7, 24] k (fun kq v7 v24 w' => ∃ (x7_1 : Int) (x24_1 : Int), v7 = .int .i64 x7_1 ∧ v24 = .int .i64 x24_1 ∧ Aside0 (bridge_wear.l0 kq x7_1 l1 (l1.length : Int) x24_1 a0_0 a0_1 a0_2 = some (r1, r2)) ∧ Aside0 (kq ≤ k) ∧ Aside0 (w'.heap[gb101]? = some (.cells #[.int .i64 a0_0, .int .i64 a0_1, .int .i64 a0_2] 43 (0, 0))) ∧ Aside0 (Below w.heap.size w w'))
  case atStart => exact ⟨(0), (0), (by first | rfl | (simp; done) | (simp [*]; done)), (by first | rfl | (simp; done) | (simp [*]; done)), H', ⟨Nat.le_refl _⟩, ⟨by (with_reducible repeat (first | refine blk_drewN ?_ _ | refine blk_drew ?_ | refine blk_alloc ?_ _)); exact BK101.out⟩, ⟨by repeat (first | (with_reducible first | exact HB.out | apply below_alloc | apply pw_below_drewN | apply below_drew1 | refine below_set ?_ GE101.out) | exact HB.out)⟩⟩
  case round =>
   clear H'
   try clear c1
   try clear c2
   try clear p2
   try clear c5
   try clear c6
   try clear c6b0
   try clear c6b1
   try clear c8
   try clear hcz8_0
   try clear hcz8_1
   try clear hcz8_2
   try clear hfz8_0
   try clear hfz8_1
   try clear hfz8_2
   obtain ⟨x7_1, x24_1, rfl, rfl, HA, HK1, BK101, HB⟩ := hrel
   cases gk with
   | zero => exact absurd HA.out (by simp [bridge_wear.l0])
   | succ k1 =>
    have H := HA.out
    clear HA
    simp only [bridge_wear.l0] at H
    by_cases c14 : x24_1 < (l1.length : Int)
    ·rw [if_pos c14] at H
     have c14b0 : decide (x24_1 < (l1.length : Int)) = true := decide_eq_true c14
     clear c14
     by_cases c15 : 0 ≤ x24_1
     ·rw [if_pos c15] at H
      have c15b0 : decide (0 ≤ x24_1) = true := decide_eq_true c15
      clear c15
      by_cases c16 : x24_1 < (l1.length : Int)
      ·rw [if_pos c16] at H
       have c16b0 : decide (x24_1 < (l1.length : Int)) = true := decide_eq_true c16
       clear c16
       replace H := Option.bind_eq_some_iff.mp H
       obtain ⟨t110, A170, H⟩ := H
       replace H : (bridge_wear.l1 k1 x7_1 t110 t110 1 l1 (l1.length : Int) x24_1 a0_0 a0_1 a0_2) = some (r1, r2) := H
       have A17 := Aside0.mk A170
       clear A170
       have H' := Aside0.mk H
       clear H
       have p108 : 0 ≤ (x24_1 : Int) := of_decide_eq_true (by first | (with_reducible assumption) | assumption)
       have q108 : x24_1 < (l1.length : Int) := of_decide_eq_true (by first | (with_reducible assumption) | assumption)
       obtain ⟨ad108, e108, hx108_0, hx108_1⟩ := at_T35 HR1.out x24_1 p108 q108
       cases e108
       replace hx108_0 := (HB.out.cell (World.block_lt_of_cell? w _ hx108_0)).trans hx108_0
       replace hx108_1 := (HB.out.cell (World.block_lt_of_cell? w _ hx108_1)).trans hx108_1
       replace p108 := eq_true p108
       replace q108 := eq_true q108
       go_wp2_with (first | ((with_reducible refine gate_dst (N := 9) rfl ?_); refine box_event ?hg (N := 9) ?hd (cs := #[.int .i64 0, .int .i64 0]) (t := 35) ?hr ?_; (case hd => rfl); (case hg => rfl); (case hr => first | (go_simp; done) | (go_simp; rfl)); intro gb109 hg w18 hbox hb; have n0_ := Aside0.mk (blk_below (g := gb101) (o := .cells #[.int .i64 a0_0, .int .i64 a0_1, .int .i64 a0_2] 43 (0, 0)) (by (with_reducible repeat (first | refine blk_drewN ?_ _ | refine blk_drew ?_ | refine blk_alloc ?_ _)); exact BK101.out) hb); have n1_ := Aside0.mk (below_step (by repeat (first | (with_reducible first | exact HB.out | apply below_alloc | apply pw_below_drewN | apply below_drew1 | refine below_set ?_ GE101.out) | exact HB.out)) hb); have n2_ := Aside0.mk (hbox); have n3_ := Aside0.mk ((by rw [hg]; exact (below_size (by repeat (first | (with_reducible first | exact HB.out | apply below_alloc | apply pw_below_drewN | apply below_drew1 | refine below_set ?_ GE101.out) | exact HB.out))) : w.heap.size ≤ gb109)); have n4_ := Aside0.mk ((by rw [hg]; exact (below_size (by repeat (first | (with_reducible first | exact HB.out | apply below_alloc | apply pw_below_drewN | apply below_drew1 | refine below_set ?_ GE101.out) | exact HB.out))) : w.heap.size ≤ gb109)); have n5_ := Aside0.mk ((by rw [hg]; exact Nat.ne_of_lt (blk_lt (g := gb101) (o := .cells #[.int .i64 a0_0, .int .i64 a0_1, .int .i64 a0_2] 43 (0, 0)) (by (with_reducible repeat (first | refine blk_drewN ?_ _ | refine blk_drew ?_ | refine blk_alloc ?_ _)); exact BK101.out)) : gb101 ≠ gb109)); have n6_ := Aside0.mk ((by rw [hg]; exact Nat.ne_of_gt (blk_lt (g := gb101) (o := .cells #[.int .i64 a0_0, .int .i64 a0_1, .int .i64 a0_2] 43 (0, 0)) (by (with_reducible repeat (first | refine blk_drewN ?_ _ | refine blk_drew ?_ | refine blk_alloc ?_ _)); exact BK101.out)) : gb109 ≠ gb101)); clear BK101; clear HB; have BK101 := n0_; have HB := n1_; have BK109 := n2_; have GW109 := n3_; have GE109 := n4_; have NB101_109 := n5_; have NB109_101 := n6_; clear n0_ n1_ n2_ n3_ n4_ n5_ n6_; clear hb hbox hg; have hnb19 := NB109_101.out; have hnc19 := NB101_109.out; have hcz20_0 : w18.cell? ⟨gb109, 0, none⟩ = some (.int .i64 0) := (blk_cell BK109.out 0).trans rfl; have hcz20_1 : w18.cell? ⟨gb109, 1, none⟩ = some (.int .i64 0) := (blk_cell BK109.out 1).trans rfl; have hfz20_0 := blk_frozen BK109.out 0; have hfz20_1 := blk_frozen BK109.out 1; have hcz21_0 : w18.cell? ⟨gb101, 0, none⟩ = some (.int .i64 a0_0) := (blk_cell BK101.out 0).trans rfl; have hcz21_1 : w18.cell? ⟨gb101, 1, none⟩ = some (.int .i64 a0_1) := (blk_cell BK101.out 1).trans rfl; have hcz21_2 : w18.cell? ⟨gb101, 2, none⟩ = some (.int .i64 a0_2) := (blk_cell BK101.out 2).trans rfl; have hfz21_0 := blk_frozen BK101.out 0; have hfz21_1 := blk_frozen BK101.out 1; have hfz21_2 := blk_frozen BK101.out 2) | ((with_reducible refine gate_callee (f := 55) rfl ?_); refine goesL_ (some 33) rfl rfl Try.func55 (by kernel_rfl) rfl #[.int .i64 (wrap64 (((rd_T35 l1 x24_1).f1) * 1000)), .int .i64 a0_0] rfl (by (try simp only [List.map_toArray, List.map_cons, List.map_nil]); first | done | rfl | (simp only [List.length_drop, List.length_take]; rfl)) ?_; (with_reducible refine (bridge_up.calls (wrap64 (((rd_T35 l1 x24_1).f1) * 1000)) a0_0 t110 _ A17.out).mono ?_); rintro e w' ⟨rfl, ⟨nd, rfl⟩⟩; refine ⟨_, rfl, ?_⟩))
       go_loopg [11, 12] k1 (fun kq v11 v12 w' => ∃ (x11_2 : Int) (x12_2 : Int), v11 = .int .i64 x11_2 ∧ v12 = .int .i64 x12_2 ∧ Aside0 (bridge_wear.l1 kq x7_1 t110 x11_2 x12_2 l1 (l1.length : Int) x24_1 a0_0 a0_1 a0_2 = some (r1, r2)) ∧ Aside0 (kq ≤ k1) ∧ Aside0 (w'.heap[gb101]? = some (.cells #[.int .i64 a0_0, .int .i64 a0_1, .int .i64 a0_2] 43 (0, 0))) ∧ Aside0 (w'.heap[gb109]? = some (.cells #[.int .i64 ((rd_T35 l1 x24_1).f0), .int .i64 ((rd_T35 l1 x24_1).f1)] 35 (0, 0))) ∧ Aside0 (Below w.heap.size w w'))
       case atStart => exact ⟨(t110), (1), (by first | rfl | (simp; done) | (simp [*]; done)), (by first | rfl | (simp; done) | (simp [*]; done)), H', ⟨Nat.le_refl _⟩, ⟨by (with_reducible repeat (first | refine blk_drewN ?_ _ | refine blk_drew ?_ | refine blk_alloc ?_ _)); refine blk_far ?_ NB101_109.out _; (with_reducible repeat (first | refine blk_drewN ?_ _ | refine blk_drew ?_ | refine blk_alloc ?_ _)); refine blk_far ?_ NB101_109.out _; (with_reducible repeat (first | refine blk_drewN ?_ _ | refine blk_drew ?_ | refine blk_alloc ?_ _)); exact BK101.out⟩, ⟨by (with_reducible repeat (first | refine blk_drewN ?_ _ | refine blk_drew ?_ | refine blk_alloc ?_ _)); refine blk_put (cs := #[.int .i64 ((rd_T35 l1 x24_1).f0), .int .i64 0]) ?_ 1 _ rfl; (with_reducible repeat (first | refine blk_drewN ?_ _ | refine blk_drew ?_ | refine blk_alloc ?_ _)); refine blk_put (cs := #[.int .i64 0, .int .i64 0]) ?_ 0 _ rfl; (with_reducible repeat (first | refine blk_drewN ?_ _ | refine blk_drew ?_ | refine blk_alloc ?_ _)); exact BK109.out⟩, ⟨by repeat (first | (with_reducible first | exact HB.out | apply below_alloc | apply pw_below_drewN | apply below_drew1 | refine below_set ?_ GE101.out | refine below_set ?_ GE109.out) | exact HB.out)⟩⟩
       case round =>
        clear H'
        try clear c1
        try clear p1
        try clear q1
        try clear hx1
        try clear c2
        try clear p2
        try clear c5
        try clear c6
        try clear c6b0
        try clear c6b1
        try clear p6
        try clear c8
        try clear p10
        try clear q10
        try clear hx10
        try clear c14
        try clear c14b0
        try clear c15
        try clear c15b0
        try clear c16
        try clear c16b0
        try clear c19
        try clear hcz20_0
        try clear hcz20_1
        try clear hcz21_0
        try clear hcz21_1
        try clear hcz21_2
        try clear hcz8_0
        try clear hcz8_1
        try clear hcz8_2
        try clear hfz20_0
        try clear hfz20_1
        try clear hfz21_0
        try clear hfz21_1
        try clear hfz21_2
        try clear hfz8_0
        try clear hfz8_1
        try clear hfz8_2
        try clear hx108_0
        try clear hx108_1
        try clear p108
        try clear p2
        try clear q108
        obtain ⟨x11_2, x12_2, rfl, rfl, HA, HK2, BK101, BK109, HB⟩ := hrel
        cases gk with
        | zero => exact absurd HA.out (by simp [bridge_wear.l1])
        | succ k2 =>
         have H := HA.out
         clear HA
         simp only [bridge_wear.l1] at H
         by_cases c22 : x12_2 < a0_2
         ·rw [if_pos c22] at H
          have c22b0 : decide (x12_2 < a0_2) = true := decide_eq_true c22
          clear c22
          by_cases c23 : x11_2 ≤ 1073741824
          ·rw [if_pos c23] at H
           have c23b0 : decide (x11_2 ≤ 1073741824) = true := decide_eq_true c23
           clear c23
           replace H := Option.bind_eq_some_iff.mp H
           obtain ⟨t111, A240, H⟩ := H
           replace H : (bridge_wear.l1 k2 x7_1 t110 t111 (wrap64 (x12_2 + 1)) l1 (l1.length : Int) x24_1 a0_0 a0_1 a0_2) = some (r1, r2) := H
           have A24 := Aside0.mk A240
           clear A240
           have H' := Aside0.mk H
           clear H
           have hnb25 := NB101_109.out
           have hnc25 := NB109_101.out
           have hcz26_0 : wr.cell? ⟨gb101, 0, none⟩ = some (.int .i64 a0_0) := (blk_cell BK101.out 0).trans rfl
           have hcz26_1 : wr.cell? ⟨gb101, 1, none⟩ = some (.int .i64 a0_1) := (blk_cell BK101.out 1).trans rfl
           have hcz26_2 : wr.cell? ⟨gb101, 2, none⟩ = some (.int .i64 a0_2) := (blk_cell BK101.out 2).trans rfl
           have hfz26_0 := blk_frozen BK101.out 0
           have hfz26_1 := blk_frozen BK101.out 1
           have hfz26_2 := blk_frozen BK101.out 2
           go_wp2_with (first | ((with_reducible refine gate_callee (f := 55) rfl ?_); refine goesL_ (some 48) rfl rfl Try.func55 (by kernel_rfl) rfl #[.int .i64 (wrap64 (x11_2 * t110)), .int .i64 1000] rfl (by (try simp only [List.map_toArray, List.map_cons, List.map_nil]); first | done | rfl | (simp only [List.length_drop, List.length_take]; rfl)) ?_; (with_reducible refine (bridge_up.calls (wrap64 (x11_2 * t110)) 1000 t111 _ A24.out).mono ?_); rintro e w' ⟨rfl, ⟨nd, rfl⟩⟩; refine ⟨_, rfl, ?_⟩))
           go_roundg k2
           case measure => have := HK1.out; have := HK2.out; omega
           case rel => exact ⟨(t111), (wrap64 (x12_2 + 1)), (by first | rfl | (simp; done) | (simp [*]; done)), (by first | rfl | (simp; done) | (simp [*]; done)), H', ⟨by have := HK1.out; have := HK2.out; omega⟩, ⟨by (with_reducible repeat (first | refine blk_drewN ?_ _ | refine blk_drew ?_ | refine blk_alloc ?_ _)); exact BK101.out⟩, ⟨by (with_reducible repeat (first | refine blk_drewN ?_ _ | refine blk_drew ?_ | refine blk_alloc ?_ _)); exact BK109.out⟩, ⟨by repeat (first | (with_reducible first | exact HB.out | apply below_alloc | apply pw_below_drewN | apply below_drew1 | refine below_set ?_ GE101.out | refine below_set ?_ GE109.out) | exact HB.out)⟩⟩
          ·rw [if_neg c23] at H
           have c23b0 : decide (x11_2 ≤ 1073741824) = false := decide_eq_false c23
           clear c23
           by_cases c27 : x11_2 > 1073741824
           ·rw [if_pos c27] at H
            have c27b0 : decide (1073741824 < x11_2) = true := decide_eq_true c27
            clear c27
            simp only [Option.some.injEq, Prod.mk.injEq] at H
            obtain ⟨rfl, rfl⟩ := H
            have hnb28 := NB101_109.out
            have hnc28 := NB109_101.out
            have hcz29_0 : wr.cell? ⟨gb101, 0, none⟩ = some (.int .i64 a0_0) := (blk_cell BK101.out 0).trans rfl
            have hcz29_1 : wr.cell? ⟨gb101, 1, none⟩ = some (.int .i64 a0_1) := (blk_cell BK101.out 1).trans rfl
            have hcz29_2 : wr.cell? ⟨gb101, 2, none⟩ = some (.int .i64 a0_2) := (blk_cell BK101.out 2).trans rfl
            have hfz29_0 := blk_frozen BK101.out 0
            have hfz29_1 := blk_frozen BK101.out 1
            have hfz29_2 := blk_frozen BK101.out 2
            go_wp2
            go_ret2
            exact ⟨by first | rfl | (simp [errW_none, errW_some] <;> rfl) | (simp [*, errW_none, errW_some] <;> rfl), by repeat (first | (with_reducible first | exact HB.out | apply below_alloc | apply pw_below_drewN | apply below_drew1 | refine below_set ?_ GE101.out | refine below_set ?_ GE109.out) | exact HB.out)⟩
           ·rw [if_neg c27] at H
            have c27b0 : decide (1073741824 < x11_2) = false := decide_eq_false c27
            clear c27
            by_cases c30 : (wrap64 (x7_1 + x11_2)) > 1073741824
            ·rw [if_pos c30] at H
             have c30b0 : decide (1073741824 < (wrap64 (x7_1 + x11_2))) = true := decide_eq_true c30
             clear c30
             simp only [Option.some.injEq, Prod.mk.injEq] at H
             obtain ⟨rfl, rfl⟩ := H
             have hnb31 := NB101_109.out
             have hnc31 := NB109_101.out
             have hcz32_0 : wr.cell? ⟨gb101, 0, none⟩ = some (.int .i64 a0_0) := (blk_cell BK101.out 0).trans rfl
             have hcz32_1 : wr.cell? ⟨gb101, 1, none⟩ = some (.int .i64 a0_1) := (blk_cell BK101.out 1).trans rfl
             have hcz32_2 : wr.cell? ⟨gb101, 2, none⟩ = some (.int .i64 a0_2) := (blk_cell BK101.out 2).trans rfl
             have hfz32_0 := blk_frozen BK101.out 0
             have hfz32_1 := blk_frozen BK101.out 1
             have hfz32_2 := blk_frozen BK101.out 2
             go_wp2
             go_ret2
             exact ⟨by first | rfl | (simp [errW_none, errW_some] <;> rfl) | (simp [*, errW_none, errW_some] <;> rfl), by repeat (first | (with_reducible first | exact HB.out | apply below_alloc | apply pw_below_drewN | apply below_drew1 | refine below_set ?_ GE101.out | refine below_set ?_ GE109.out) | exact HB.out)⟩
            ·rw [if_neg c30] at H
             have c30b0 : decide (1073741824 < (wrap64 (x7_1 + x11_2))) = false := decide_eq_false c30
             clear c30
             have H' := Aside0.mk H
             clear H
             have hnb33 := NB101_109.out
             have hnc33 := NB109_101.out
             have hcz34_0 : wr.cell? ⟨gb101, 0, none⟩ = some (.int .i64 a0_0) := (blk_cell BK101.out 0).trans rfl
             have hcz34_1 : wr.cell? ⟨gb101, 1, none⟩ = some (.int .i64 a0_1) := (blk_cell BK101.out 1).trans rfl
             have hcz34_2 : wr.cell? ⟨gb101, 2, none⟩ = some (.int .i64 a0_2) := (blk_cell BK101.out 2).trans rfl
             have hfz34_0 := blk_frozen BK101.out 0
             have hfz34_1 := blk_frozen BK101.out 1
             have hfz34_2 := blk_frozen BK101.out 2
             go_wp2
             go_roundg k2
             case measure => have := HK1.out; have := HK2.out; omega
             case rel => exact ⟨(wrap64 (x7_1 + x11_2)), (wrap64 (x24_1 + 1)), (by first | rfl | (simp; done) | (simp [*]; done)), (by first | rfl | (simp; done) | (simp [*]; done)), H', ⟨by have := HK1.out; have := HK2.out; omega⟩, ⟨by (with_reducible repeat (first | refine blk_drewN ?_ _ | refine blk_drew ?_ | refine blk_alloc ?_ _)); exact BK101.out⟩, ⟨by repeat (first | (with_reducible first | exact HB.out | apply below_alloc | apply pw_below_drewN | apply below_drew1 | refine below_set ?_ GE101.out | refine below_set ?_ GE109.out) | exact HB.out)⟩⟩
         ·rw [if_neg c22] at H
          have c22b0 : decide (x12_2 < a0_2) = false := decide_eq_false c22
          clear c22
          by_cases c35 : x11_2 > 1073741824
          ·rw [if_pos c35] at H
           have c35b0 : decide (1073741824 < x11_2) = true := decide_eq_true c35
           clear c35
           simp only [Option.some.injEq, Prod.mk.injEq] at H
           obtain ⟨rfl, rfl⟩ := H
           have hnb36 := NB101_109.out
           have hnc36 := NB109_101.out
           have hcz37_0 : wr.cell? ⟨gb101, 0, none⟩ = some (.int .i64 a0_0) := (blk_cell BK101.out 0).trans rfl
           have hcz37_1 : wr.cell? ⟨gb101, 1, none⟩ = some (.int .i64 a0_1) := (blk_cell BK101.out 1).trans rfl
           have hcz37_2 : wr.cell? ⟨gb101, 2, none⟩ = some (.int .i64 a0_2) := (blk_cell BK101.out 2).trans rfl
           have hfz37_0 := blk_frozen BK101.out 0
           have hfz37_1 := blk_frozen BK101.out 1
           have hfz37_2 := blk_frozen BK101.out 2
           go_wp2
           go_ret2
           exact ⟨by first | rfl | (simp [errW_none, errW_some] <;> rfl) | (simp [*, errW_none, errW_some] <;> rfl), by repeat (first | (with_reducible first | exact HB.out | apply below_alloc | apply pw_below_drewN | apply below_drew1 | refine below_set ?_ GE101.out | refine below_set ?_ GE109.out) | exact HB.out)⟩
          ·rw [if_neg c35] at H
           have c35b0 : decide (1073741824 < x11_2) = false := decide_eq_false c35
           clear c35
           by_cases c38 : (wrap64 (x7_1 + x11_2)) > 1073741824
           ·rw [if_pos c38] at H
            have c38b0 : decide (1073741824 < (wrap64 (x7_1 + x11_2))) = true := decide_eq_true c38
            clear c38
            simp only [Option.some.injEq, Prod.mk.injEq] at H
            obtain ⟨rfl, rfl⟩ := H
            have hnb39 := NB101_109.out
            have hnc39 := NB109_101.out
            have hcz40_0 : wr.cell? ⟨gb101, 0, none⟩ = some (.int .i64 a0_0) := (blk_cell BK101.out 0).trans rfl
            have hcz40_1 : wr.cell? ⟨gb101, 1, none⟩ = some (.int .i64 a0_1) := (blk_cell BK101.out 1).trans rfl
            have hcz40_2 : wr.cell? ⟨gb101, 2, none⟩ = some (.int .i64 a0_2) := (blk_cell BK101.out 2).trans rfl
            have hfz40_0 := blk_frozen BK101.out 0
            have hfz40_1 := blk_frozen BK101.out 1
            have hfz40_2 := blk_frozen BK101.out 2
            go_wp2
            go_ret2
            exact ⟨by first | rfl | (simp [errW_none, errW_some] <;> rfl) | (simp [*, errW_none, errW_some] <;> rfl), by repeat (first | (with_reducible first | exact HB.out | apply below_alloc | apply pw_below_drewN | apply below_drew1 | refine below_set ?_ GE101.out | refine below_set ?_ GE109.out) | exact HB.out)⟩
           ·rw [if_neg c38] at H
            have c38b0 : decide (1073741824 < (wrap64 (x7_1 + x11_2))) = false := decide_eq_false c38
            clear c38
            have H' := Aside0.mk H
            clear H
            have hnb41 := NB101_109.out
            have hnc41 := NB109_101.out
            have hcz42_0 : wr.cell? ⟨gb101, 0, none⟩ = some (.int .i64 a0_0) := (blk_cell BK101.out 0).trans rfl
            have hcz42_1 : wr.cell? ⟨gb101, 1, none⟩ = some (.int .i64 a0_1) := (blk_cell BK101.out 1).trans rfl
            have hcz42_2 : wr.cell? ⟨gb101, 2, none⟩ = some (.int .i64 a0_2) := (blk_cell BK101.out 2).trans rfl
            have hfz42_0 := blk_frozen BK101.out 0
            have hfz42_1 := blk_frozen BK101.out 1
            have hfz42_2 := blk_frozen BK101.out 2
            go_wp2
            go_roundg k2
            case measure => have := HK1.out; have := HK2.out; omega
            case rel => exact ⟨(wrap64 (x7_1 + x11_2)), (wrap64 (x24_1 + 1)), (by first | rfl | (simp; done) | (simp [*]; done)), (by first | rfl | (simp; done) | (simp [*]; done)), H', ⟨by have := HK1.out; have := HK2.out; omega⟩, ⟨by (with_reducible repeat (first | refine blk_drewN ?_ _ | refine blk_drew ?_ | refine blk_alloc ?_ _)); exact BK101.out⟩, ⟨by repeat (first | (with_reducible first | exact HB.out | apply below_alloc | apply pw_below_drewN | apply below_drew1 | refine below_set ?_ GE101.out | refine below_set ?_ GE109.out) | exact HB.out)⟩⟩
      ·rw [if_neg c16] at H
       exact absurd H (by simp)
     ·rw [if_neg c15] at H
      exact absurd H (by simp)
    ·rw [if_neg c14] at H
     have c14b0 : decide (x24_1 < (l1.length : Int)) = false := decide_eq_false c14
     clear c14
     simp only [Option.some.injEq, Prod.mk.injEq] at H
     obtain ⟨rfl, rfl⟩ := H
     go_wp2
     go_ret2
     exact ⟨by first | rfl | (simp [errW_none, errW_some] <;> rfl) | (simp [*, errW_none, errW_some] <;> rfl), by repeat (first | (with_reducible first | exact HB.out | apply below_alloc | apply pw_below_drewN | apply below_drew1 | refine below_set ?_ GE101.out) | exact HB.out)⟩
 ·rw [if_neg c6] at H
  have c6b0 : (t107 == 0) = false := beq_eq_false_iff_ne.mpr c6
  have c6b1 : (t107 != 0) = true := bne_iff_ne.mpr c6
  simp only [Option.some.injEq, Prod.mk.injEq] at H
  obtain ⟨rfl, rfl⟩ := H
  go_enter Try.func51, Try.ntmps51
  go_wp2_with (first | ((with_reducible refine gate_dst (N := 2) rfl ?_); refine box_event ?hg (N := 2) ?hd (cs := #[.int .i64 a0_0, .int .i64 a0_1, .int .i64 a0_2]) (t := 43) ?hr ?_; (case hd => rfl); (case hg => rfl); (case hr => first | (go_simp; done) | (go_simp; rfl)); intro gb101 hg w43 hbox hb; have n0_ := Aside0.mk (below_step (by repeat (first | (with_reducible first | exact HB.out | apply below_alloc | apply pw_below_drewN | apply below_drew1) | exact HB.out)) hb); have n1_ := Aside0.mk (hbox); have n2_ := Aside0.mk ((by rw [hg]; exact (below_size (by repeat (first | (with_reducible first | exact HB.out | apply below_alloc | apply pw_below_drewN | apply below_drew1) | exact HB.out))) : w.heap.size ≤ gb101)); have n3_ := Aside0.mk ((by rw [hg]; exact (below_size (by repeat (first | (with_reducible first | exact HB.out | apply below_alloc | apply pw_below_drewN | apply below_drew1) | exact HB.out))) : w.heap.size ≤ gb101)); clear HB; have HB := n0_; have BK101 := n1_; have GW101 := n2_; have GE101 := n3_; clear n0_ n1_ n2_ n3_; clear hb hbox hg; have hcz44_0 : w43.cell? ⟨gb101, 0, none⟩ = some (.int .i64 a0_0) := (blk_cell BK101.out 0).trans rfl; have hcz44_1 : w43.cell? ⟨gb101, 1, none⟩ = some (.int .i64 a0_1) := (blk_cell BK101.out 1).trans rfl; have hcz44_2 : w43.cell? ⟨gb101, 2, none⟩ = some (.int .i64 a0_2) := (blk_cell BK101.out 2).trans rfl; have hfz44_0 := blk_frozen BK101.out 0; have hfz44_1 := blk_frozen BK101.out 1; have hfz44_2 := blk_frozen BK101.out 2) | ((with_reducible refine gate_callee (f := 24) rfl ?_); refine goesL_ (some 14) rfl rfl Try.func24 (by kernel_rfl) rfl #[.agg #[.int .i64 a0_0, .int .i64 a0_1, .int .i64 a0_2]] rfl (by (try simp only [List.map_toArray, List.map_cons, List.map_nil]); first | done | rfl | (simp only [List.length_drop, List.length_take]; rfl)) ?_; (with_reducible refine (bridge_CheckPavement.calls a0_0 a0_1 a0_2 t102 _ A3.out).mono ?_); rintro e w45 ⟨rfl, hb⟩; refine ⟨_, rfl, ?_⟩; have n0_ := Aside0.mk (blk_below (g := gb101) (o := .cells #[.int .i64 a0_0, .int .i64 a0_1, .int .i64 a0_2] 43 (0, 0)) (by (with_reducible repeat (first | refine blk_drewN ?_ _ | refine blk_drew ?_ | refine blk_alloc ?_ _)); exact BK101.out) hb); have n1_ := Aside0.mk (below_step (by repeat (first | (with_reducible first | exact HB.out | apply below_alloc | apply pw_below_drewN | apply below_drew1 | refine below_set ?_ GE101.out) | exact HB.out)) hb); clear BK101; clear HB; have BK101 := n0_; have HB := n1_; clear n0_ n1_; (try clear hb); (try clear hb2); (try clear hk); (try clear hi)) | ((with_reducible refine gate_callee (f := 29) rfl ?_); refine goesL_ (some 16) rfl rfl Try.func29 (by kernel_rfl) rfl #[.slice A1 l1.length c1] rfl (by (try simp only [List.map_toArray, List.map_cons, List.map_nil]); first | done | rfl | (simp only [List.length_drop, List.length_take]; rfl)) ?_; (with_reducible refine (bridge_CheckTrain.calls k _ _ l1 t103 _ ?side1 ?side2 A4.out).mono ?_); (case side1 => repeat (first | exact (Kd.C_below HR1.out HB.out) | (with_reducible refine Kd.C_alloc ?_ _) | (with_reducible refine Kd.C_drewN ?_ _) | (with_reducible refine Kd.C_drew ?_))); (case side2 => exact HC1.out); rintro e w46 ⟨rfl, hb⟩; refine ⟨_, rfl, ?_⟩; have n0_ := Aside0.mk (blk_below (g := gb101) (o := .cells #[.int .i64 a0_0, .int .i64 a0_1, .int .i64 a0_2] 43 (0, 0)) (by (with_reducible repeat (first | refine blk_drewN ?_ _ | refine blk_drew ?_ | refine blk_alloc ?_ _)); exact BK101.out) hb); have n1_ := Aside0.mk (below_step (by repeat (first | (with_reducible first | exact HB.out | apply below_alloc | apply pw_below_drewN | apply below_drew1 | refine below_set ?_ GE101.out) | exact HB.out)) hb); clear BK101; clear HB; have BK101 := n0_; have HB := n1_; clear n0_ n1_; (try clear hb); (try clear hb2); (try clear hk); (try clear hi)) | ((with_reducible refine gate_dst (N := 17) rfl ?_); refine Kd.R_lit (Kd.int .i64) _ 30 ?hg (N := 17) ?hd (xs := ([t102, t103] : List Int)) (inner := [.int .i64 t102, .int .i64 t103]) (ok := fun _ => True) (okp := fun _ => True) ?hr ?hp (fun _ hk => hk) trivial (Below.refl _ _) (Nat.le_refl _) (by simp) ?_; (case hd => rfl); (case hg => rfl); (case hr => first | (go_simp; done) | (go_simp; rfl)); (case hp => exact (Reps.one (show Kd.M (Kd.int .i64) _ _ _ t102 [.int .i64 t102] from rfl) (Reps.one (show Kd.M (Kd.int .i64) _ _ _ t103 [.int .i64 t103] from rfl) (Reps.none _ _)))); intro v105 w47 ho48 hb hg_ hnew_; clear hg_ hnew_; (first | rw [← Ny104.out] at ho48 | (simp only [Int.reduceToNat] at ho48; rw [← Ny104.out] at ho48)); have n0_ := Aside0.mk (Kd.R_lower ho48 (below_size (by repeat (first | (with_reducible first | exact HB.out | apply below_alloc | apply pw_below_drewN | apply below_drew1 | refine below_set ?_ GE101.out) | exact HB.out)))); have n1_ := Aside0.mk (blk_below (g := gb101) (o := .cells #[.int .i64 a0_0, .int .i64 a0_1, .int .i64 a0_2] 43 (0, 0)) (by (with_reducible repeat (first | refine blk_drewN ?_ _ | refine blk_drew ?_ | refine blk_alloc ?_ _)); exact BK101.out) hb); have n2_ := Aside0.mk (below_step (by repeat (first | (with_reducible first | exact HB.out | apply below_alloc | apply pw_below_drewN | apply below_drew1 | refine below_set ?_ GE101.out) | exact HB.out)) hb); clear BK101; clear HB; have HO106 := n0_; have BK101 := n1_; have HB := n2_; clear n0_ n1_ n2_; clear hb ho48; obtain ⟨Ao49, co49, eo49⟩ := Kd.R_slice HO106.out; subst eo49) | ((with_reducible refine gate_callee (f := 80) rfl ?_); refine goesL_ (some 18) rfl rfl Try.func80 (by kernel_rfl) rfl #[.slice Ao49 y104.length co49] rfl (by (try simp only [List.map_toArray, List.map_cons, List.map_nil]); first | done | rfl | (simp only [List.length_drop, List.length_take]; rfl)) ?_; (with_reducible refine (cmp_Or_80.calls k _ _ y104 t107 _ ?side1 ?side2 A5.out).mono ?_); (case side1 => repeat (first | exact (Kd.R_reads' HO106.out).2.2 | (with_reducible refine Kd.C_alloc ?_ _) | (with_reducible refine Kd.C_drewN ?_ _) | (with_reducible refine Kd.C_drew ?_))); (case side2 => exact (Kd.R_reads' HO106.out).2.1); rintro e w' ⟨rfl, ⟨nd, rfl⟩⟩; refine ⟨_, rfl, ?_⟩))
  go_ret2
  exact ⟨by first | rfl | (simp [errW_none, errW_some] <;> rfl) | (simp [*, errW_none, errW_some] <;> rfl), by repeat (first | (with_reducible first | exact HB.out | apply below_alloc | apply pw_below_drewN | apply below_drew1 | refine below_set ?_ GE101.out) | exact HB.out)⟩
end Go.Proofs.Ytiklpefckadgdaa.P
noncomputable section
namespace Go.Proofs.Ytiklpefckadgdaa.P
open Go.RowKit Go.Proofs.YtiklpefckadgdaaW.PrintWords Go.Proofs.YtiklpefckadgdaaW.PrintLast Go.Proofs.YtiklpefckadgdaaW.PrintMore
attribute [local go_sem] max2_int min2_int max_two min_two max_three min_three max_four min_four   -- for this text's walks alone
set_option linter.unusedVariables false
set_option linter.unusedSimpArgs false
def bridge_Damage.j0 : Nat → Int → Int → Int → Bool → Int → Int → Int → Option (Int × Int)
 | 0, _, _, _, _, _, _, _ => none
 | k + 1, x2, x8, x9, x21, x102000, x102001, x102002 => if x21 = true then (some (0, x9)) else ((bridge_between.f x2 0 1048576).bind fun t104 => (if t104 = true then (if x9 = 0 then ((bridge_share.f x8 (wrap64 (1000 * x2)) x102001).bind fun t105 => (some (t105, 0))) else (some (0, x9))) else (some (0, 3))))
def bridge_Damage.f (k : Nat) (a0_0 : Int) (a0_1 : Int) (a0_2 : Int) (l1 : List (S35)) (a2 : Int) : Option (Int × Int) := (bridge_wear.f k a0_0 a0_1 a0_2 l1).bind fun bt102 => (if bt102.2 = 0 then (bridge_Damage.j0 k a2 bt102.1 bt102.2 false a0_0 a0_1 a0_2) else (bridge_Damage.j0 k a2 bt102.1 bt102.2 (bt102.2 != 4) a0_0 a0_1 a0_2))
theorem bridge_Damage.mono_l : ∀ k, (∀ y0 y1 y2 y3 y4 y5 y6, LeO (bridge_Damage.j0 k y0 y1 y2 y3 y4 y5 y6) (bridge_Damage.j0 (k + 1) y0 y1 y2 y3 y4 y5 y6))
 | 0 => fun _ _ _ _ _ _ _ r h => by simp [bridge_Damage.j0] at h
 | k + 1 => by
  have ih0 := bridge_Damage.mono_l k
  ·intro y0 y1 y2 y3 y4 y5 y6
   unfold bridge_Damage.j0
   repeat' first
   | (with_reducible exact ih0 _ _ _ _ _ _ _)
   | (with_reducible exact bridge_wear.mono _ _ _ _ _)
   | (with_reducible exact LeO.refl _)
   | (with_reducible exact LeO.none _)
   | (with_reducible refine LeO.ite ?_ ?_)
   | (with_reducible refine LeO.bind ?_ (fun _ => ?_))
   | exact ih0 _ _ _ _ _ _ _
   | exact bridge_wear.mono _ _ _ _ _
   | exact LeO.none _
   | refine LeO.ite ?_ ?_
   | refine LeO.bind ?_ (fun _ => ?_)
theorem bridge_Damage.mono : ∀ a0 a1 a2 a3 a4 k, LeO (bridge_Damage.f k a0 a1 a2 a3 a4) (bridge_Damage.f (k + 1) a0 a1 a2 a3 a4) := by
 intro a0 a1 a2 a3 a4 k
 have ih0 := bridge_Damage.mono_l k
 unfold bridge_Damage.f
 repeat' first
   | (with_reducible exact ih0 _ _ _ _ _ _ _)
   | (with_reducible exact bridge_wear.mono _ _ _ _ _)
   | (with_reducible exact LeO.refl _)
   | (with_reducible exact LeO.none _)
   | (with_reducible refine LeO.ite ?_ ?_)
   | (with_reducible refine LeO.bind ?_ (fun _ => ?_))
   | exact ih0 _ _ _ _ _ _ _
   | exact bridge_wear.mono _ _ _ _ _
   | exact LeO.none _
   | refine LeO.ite ?_ ?_
   | refine LeO.bind ?_ (fun _ => ?_)
set_option maxHeartbeats 8000000 in
set_option maxRecDepth 100000 in
theorem bridge_Damage.calls (k : Nat) (a0_0 : Int) (a0_1 : Int) (a0_2 : Int) (A1 : Option Addr) (c1 : Nat) (l1 : List (S35)) (a2 : Int) (r1 : Int) (r2 : Int) (w : World) (hr1 : Kd.C k35 w A1 l1.length l1) (hc1 : l1.length ≤ c1) (h : bridge_Damage.f k a0_0 a0_1 a0_2 l1 a2 = some (r1, r2)) :
  Calls Try.prog 18 #[.agg #[.int .i64 a0_0, .int .i64 a0_1, .int .i64 a0_2], .slice A1 l1.length c1, .int .i64 a2] w fun e w' => e = .returned (.tuple #[.int .i64 r1, .int .i64 r2]) ∧ Below w.heap.size w w' := by
 have hu43 := Try.underlying43
 have HR1 := Aside0.mk hr1
 have HC1 := Aside0.mk hc1
 clear hr1 hc1
 have HB := Aside0.mk (Below.refl w.heap.size w)
 have H : ((bridge_wear.f k a0_0 a0_1 a0_2 l1).bind fun bt102 => (if bt102.2 = 0 then (bridge_Damage.j0 k a2 bt102.1 bt102.2 false a0_0 a0_1 a0_2) else (bridge_Damage.j0 k a2 bt102.1 bt102.2 (bt102.2 != 4) a0_0 a0_1 a0_2))) = some (r1, r2) := h
 clear h
 replace H := Option.bind_eq_some_iff.mp H
 obtain ⟨⟨t102, t103⟩, A40, H⟩ := H
 replace H : (if t103 = 0 then (bridge_Damage.j0 k a2 t102 t103 false a0_0 a0_1 a0_2) else (bridge_Damage.j0 k a2 t102 t103 (t103 != 4) a0_0 a0_1 a0_2)) = some (r1, r2) := H
 have A4 := Aside0.mk A40
 clear A40
 have HC5 := Aside0.mk H
 clear H
 go_enter Try.func18, Try.ntmps18
 go_upto_region 2 with (first | ((with_reducible refine gate_dst (N := 3) rfl ?_); refine box_event ?hg (N := 3) ?hd (cs := #[.int .i64 a0_0, .int .i64 a0_1, .int .i64 a0_2]) (t := 43) ?hr ?_; (case hd => rfl); (case hg => rfl); (case hr => first | (go_simp; done) | (go_simp; rfl)); intro gb101 hg w6 hbox hb; have n0_ := Aside0.mk (below_step (by repeat (first | (with_reducible first | exact HB.out | apply below_alloc | apply pw_below_drewN | apply below_drew1) | exact HB.out)) hb); have n1_ := Aside0.mk (hbox); have n2_ := Aside0.mk ((by rw [hg]; exact (below_size (by repeat (first | (with_reducible first | exact HB.out | apply below_alloc | apply pw_below_drewN | apply below_drew1) | exact HB.out))) : w.heap.size ≤ gb101)); have n3_ := Aside0.mk ((by rw [hg]; exact (below_size (by repeat (first | (with_reducible first | exact HB.out | apply below_alloc | apply pw_below_drewN | apply below_drew1) | exact HB.out))) : w.heap.size ≤ gb101)); clear HB; have HB := n0_; have BK101 := n1_; have GW101 := n2_; have GE101 := n3_; clear n0_ n1_ n2_ n3_; clear hb hbox hg; have hcz7_0 : w6.cell? ⟨gb101, 0, none⟩ = some (.int .i64 a0_0) := (blk_cell BK101.out 0).trans rfl; have hcz7_1 : w6.cell? ⟨gb101, 1, none⟩ = some (.int .i64 a0_1) := (blk_cell BK101.out 1).trans rfl; have hcz7_2 : w6.cell? ⟨gb101, 2, none⟩ = some (.int .i64 a0_2) := (blk_cell BK101.out 2).trans rfl; have hfz7_0 := blk_frozen BK101.out 0; have hfz7_1 := blk_frozen BK101.out 1; have hfz7_2 := blk_frozen BK101.out 2) | ((with_reducible refine gate_callee (f := 51) rfl ?_); refine goesL_ (some 13) rfl rfl Try.func51 (by kernel_rfl) rfl #[.agg #[.int .i64 a0_0, .int .i64 a0_1, .int .i64 a0_2], .slice A1 l1.length c1] rfl (by (try simp only [List.map_toArray, List.map_cons, List.map_nil]); first | done | rfl | (simp only [List.length_drop, List.length_take]; rfl)) ?_; (with_reducible refine (bridge_wear.calls k a0_0 a0_1 a0_2 _ _ l1 t102 t103 _ ?side1 ?side2 A4.out).mono ?_); (case side1 => repeat (first | exact (Kd.C_below HR1.out HB.out) | (with_reducible refine Kd.C_alloc ?_ _) | (with_reducible refine Kd.C_drewN ?_ _) | (with_reducible refine Kd.C_drew ?_))); (case side2 => exact HC1.out); rintro e w8 ⟨rfl, hb⟩; refine ⟨_, rfl, ?_⟩; have n0_ := Aside0.mk (blk_below (g := gb101) (o := .cells #[.int .i64 a0_0, .int .i64 a0_1, .int .i64 a0_2] 43 (0, 0)) (by (with_reducible repeat (first | refine blk_drewN ?_ _ | refine blk_drew ?_ | refine blk_alloc ?_ _)); exact BK101.out) hb); have n1_ := Aside0.mk (below_step (by repeat (first | (with_reducible first | exact HB.out | apply below_alloc | apply pw_below_drewN | apply below_drew1 | refine below_set ?_ GE101.out) | exact HB.out)) hb); clear BK101; clear HB; have BK101 := n0_; have HB := n1_; clear n0_ n1_; (try clear hb); (try clear hb2); (try clear hk); (try clear hi)))
 (try simp only [Act.put, List.setIfInBounds_toArray, List.set_cons_zero, List.set_cons_succ])
 go_cut [21] (fun v21 wc => ∃ (kq : Nat) (x21_4 : Bool), v21 = .bool x21_4 ∧ Aside0 (bridge_Damage.j0 kq a2 t102 t103 x21_4 a0_0 a0_1 a0_2 = some (r1, r2)) ∧ Aside0 (kq ≤ k) ∧ Aside0 (wc.heap[gb101]? = some (.cells #[.int .i64 a0_0, .int .i64 a0_1, .int .i64 a0_2] 43 (0, 0))) ∧ Aside0 (Below w.heap.size w wc))
 case first =>
  have H := HC5.out
  clear HC5
  by_cases c9 : t103 = 0
  ·rw [if_pos c9] at H
   have c9b0 : (t103 == 0) = true := beq_iff_eq.mpr c9
   have c9b1 : (t103 != 0) = false := bne_eq_false_iff_eq.mpr c9
   clear c9
   (first | rw [c9b0] | (simp only [i64_w, i32_w]; rw [c9b0]) | skip)
   have H' := Aside0.mk H
   clear H
   go_wp2
   go_meet
   case rel => exact ⟨_, (false), (by first | rfl | (simp; done) | (simp [*]; done)), H', ⟨by first | omega | exact Nat.le_refl _⟩, ⟨by (with_reducible repeat (first | refine blk_drewN ?_ _ | refine blk_drew ?_ | refine blk_alloc ?_ _)); exact BK101.out⟩, ⟨by repeat (first | (with_reducible first | exact HB.out | apply below_alloc | apply pw_below_drewN | apply below_drew1 | refine below_set ?_ GE101.out) | exact HB.out)⟩⟩
  ·rw [if_neg c9] at H
   have c9b0 : (t103 == 0) = false := beq_eq_false_iff_ne.mpr c9
   have c9b1 : (t103 != 0) = true := bne_iff_ne.mpr c9
   (first | rw [c9b0] | (simp only [i64_w, i32_w]; rw [c9b0]) | skip)
   have H' := Aside0.mk H
   clear H
   go_wp2
   go_meet
   case rel => exact ⟨_, ((t103 != 4)), (by first | rfl | (simp; done) | (simp [*]; done)), H', ⟨by first | omega | exact Nat.le_refl _⟩, ⟨by (with_reducible repeat (first | refine blk_drewN ?_ _ | refine blk_drew ?_ | refine blk_alloc ?_ _)); exact BK101.out⟩, ⟨by repeat (first | (with_reducible first | exact HB.out | apply below_alloc | apply pw_below_drewN | apply below_drew1 | refine below_set ?_ GE101.out) | exact HB.out)⟩⟩
 case rest =>
  clear HC5
  try clear c1
  try clear p2
  try clear c5
  try clear c9
  try clear c9b0
  try clear c9b1
  try clear hcz7_0
  try clear hcz7_1
  try clear hcz7_2
  try clear hfz7_0
  try clear hfz7_1
  try clear hfz7_2
  obtain ⟨kq, x21_4, rfl, HA, HJ4, BK101, HB⟩ := hcut
  cases kq with
  | zero => exact absurd HA.out (by simp [bridge_Damage.j0])
  | succ kj4 =>
   have H := HA.out
   clear HA
   simp only [bridge_Damage.j0] at H
   by_cases c10 : x21_4 = true
   ·subst c10
    have H1 : (some (0, t103)) = some (r1, r2) := by rw [if_pos rfl] at H; exact H
    clear H
    have H := H1
    clear H1
    simp only [Option.some.injEq, Prod.mk.injEq] at H
    obtain ⟨rfl, rfl⟩ := H
    go_wp2
    go_ret2
    exact ⟨by first | rfl | (simp [errW_none, errW_some] <;> rfl) | (simp [*, errW_none, errW_some] <;> rfl), by repeat (first | (with_reducible first | exact HB.out | apply below_alloc | apply pw_below_drewN | apply below_drew1 | refine below_set ?_ GE101.out) | exact HB.out)⟩
   ·replace c10 := Bool.eq_false_iff.mpr c10
    subst c10
    have H1 : ((bridge_between.f a2 0 1048576).bind fun t104 => (if t104 = true then (if t103 = 0 then ((bridge_share.f t102 (wrap64 (1000 * a2)) a0_1).bind fun t105 => (some (t105, 0))) else (some (0, t103))) else (some (0, 3)))) = some (r1, r2) := by rw [if_neg (show ¬ (false = true) by decide)] at H; exact H
    clear H
    have H := H1
    clear H1
    replace H := Option.bind_eq_some_iff.mp H
    obtain ⟨t104, A110, H⟩ := H
    replace H : (if t104 = true then (if t103 = 0 then ((bridge_share.f t102 (wrap64 (1000 * a2)) a0_1).bind fun t105 => (some (t105, 0))) else (some (0, t103))) else (some (0, 3))) = some (r1, r2) := H
    have A11 := Aside0.mk A110
    clear A110
    by_cases c12 : t104 = true
    ·subst c12
     have H1 : (if t103 = 0 then ((bridge_share.f t102 (wrap64 (1000 * a2)) a0_1).bind fun t105 => (some (t105, 0))) else (some (0, t103))) = some (r1, r2) := by rw [if_pos rfl] at H; exact H
     clear H
     have H := H1
     clear H1
     by_cases c13 : t103 = 0
     ·rw [if_pos c13] at H
      have c13b0 : (t103 == 0) = true := beq_iff_eq.mpr c13
      have c13b1 : (t103 != 0) = false := bne_eq_false_iff_eq.mpr c13
      clear c13
      replace H := Option.bind_eq_some_iff.mp H
      obtain ⟨t105, A140, H⟩ := H
      replace H : (some (t105, 0)) = some (r1, r2) := H
      have A14 := Aside0.mk A140
      clear A140
      simp only [Option.some.injEq, Prod.mk.injEq] at H
      obtain ⟨rfl, rfl⟩ := H
      go_wp2_with (first | ((with_reducible refine gate_callee (f := 44) rfl ?_); refine goesL_ (some 24) rfl rfl Try.func44 (by kernel_rfl) rfl #[.int .i64 a2, .int .i64 0, .int .i64 1048576] rfl (by (try simp only [List.map_toArray, List.map_cons, List.map_nil]); first | done | rfl | (simp only [List.length_drop, List.length_take]; rfl)) ?_; (with_reducible refine (bridge_between.calls a2 0 1048576 true _ A11.out).mono ?_); rintro e w' ⟨rfl, ⟨nd, rfl⟩⟩; refine ⟨_, rfl, ?_⟩; have hcz15_0 : wc.cell? ⟨gb101, 0, none⟩ = some (.int .i64 a0_0) := (blk_cell BK101.out 0).trans rfl; have hcz15_1 : wc.cell? ⟨gb101, 1, none⟩ = some (.int .i64 a0_1) := (blk_cell BK101.out 1).trans rfl; have hcz15_2 : wc.cell? ⟨gb101, 2, none⟩ = some (.int .i64 a0_2) := (blk_cell BK101.out 2).trans rfl; have hfz15_0 := blk_frozen BK101.out 0; have hfz15_1 := blk_frozen BK101.out 1; have hfz15_2 := blk_frozen BK101.out 2) | ((with_reducible refine gate_callee (f := 52) rfl ?_); refine goesL_ (some 34) rfl rfl Try.func52 (by kernel_rfl) rfl #[.int .i64 t102, .int .i64 (wrap64 (1000 * a2)), .int .i64 a0_1] rfl (by (try simp only [List.map_toArray, List.map_cons, List.map_nil]); first | done | rfl | (simp only [List.length_drop, List.length_take]; rfl)) ?_; (with_reducible refine (bridge_share.calls t102 (wrap64 (1000 * a2)) a0_1 t105 _ A14.out).mono ?_); rintro e w' ⟨rfl, ⟨nd, rfl⟩⟩; refine ⟨_, rfl, ?_⟩))
      go_ret2
      exact ⟨by first | rfl | (simp [errW_none, errW_some] <;> rfl) | (simp [*, errW_none, errW_some] <;> rfl), by repeat (first | (with_reducible first | exact HB.out | apply below_alloc | apply pw_below_drewN | apply below_drew1 | refine below_set ?_ GE101.out) | exact HB.out)⟩
     ·rw [if_neg c13] at H
      have c13b0 : (t103 == 0) = false := beq_eq_false_iff_ne.mpr c13
      have c13b1 : (t103 != 0) = true := bne_iff_ne.mpr c13
      simp only [Option.some.injEq, Prod.mk.injEq] at H
      obtain ⟨rfl, rfl⟩ := H
      go_wp2_with (first | ((with_reducible refine gate_callee (f := 44) rfl ?_); refine goesL_ (some 24) rfl rfl Try.func44 (by kernel_rfl) rfl #[.int .i64 a2, .int .i64 0, .int .i64 1048576] rfl (by (try simp only [List.map_toArray, List.map_cons, List.map_nil]); first | done | rfl | (simp only [List.length_drop, List.length_take]; rfl)) ?_; (with_reducible refine (bridge_between.calls a2 0 1048576 true _ A11.out).mono ?_); rintro e w' ⟨rfl, ⟨nd, rfl⟩⟩; refine ⟨_, rfl, ?_⟩))
      go_ret2
      exact ⟨by first | rfl | (simp [errW_none, errW_some] <;> rfl) | (simp [*, errW_none, errW_some] <;> rfl), by repeat (first | (with_reducible first | exact HB.out | apply below_alloc | apply pw_below_drewN | apply below_drew1 | refine below_set ?_ GE101.out) | exact HB.out)⟩
    ·replace c12 := Bool.eq_false_iff.mpr c12
     subst c12
     have H1 : (some (0, 3)) = some (r1, r2) := by rw [if_neg (show ¬ (false = true) by decide)] at H; exact H
     clear H
     have H := H1
     clear H1
     simp only [Option.some.injEq, Prod.mk.injEq] at H
     obtain ⟨rfl, rfl⟩ := H
     go_wp2_with (first | ((with_reducible refine gate_callee (f := 44) rfl ?_); refine goesL_ (some 24) rfl rfl Try.func44 (by kernel_rfl) rfl #[.int .i64 a2, .int .i64 0, .int .i64 1048576] rfl (by (try simp only [List.map_toArray, List.map_cons, List.map_nil]); first | done | rfl | (simp only [List.length_drop, List.length_take]; rfl)) ?_; (with_reducible refine (bridge_between.calls a2 0 1048576 false _ A11.out).mono ?_); rintro e w' ⟨rfl, ⟨nd, rfl⟩⟩; refine ⟨_, rfl, ?_⟩))
     go_ret2
     exact ⟨by first | rfl | (simp [errW_none, errW_some] <;> rfl) | (simp [*, errW_none, errW_some] <;> rfl), by repeat (first | (with_reducible first | exact HB.out | apply below_alloc | apply pw_below_drewN | apply below_drew1 | refine below_set ?_ GE101.out) | exact HB.out)⟩
end Go.Proofs.Ytiklpefckadgdaa.P
noncomputable section
namespace Go.Proofs.Ytiklpefckadgdaa.P
open Go.RowKit Go.Proofs.YtiklpefckadgdaaW.PrintWords Go.Proofs.YtiklpefckadgdaaW.PrintLast Go.Proofs.YtiklpefckadgdaaW.PrintMore
attribute [local go_sem] max2_int min2_int max_two min_two max_three min_three max_four min_four   -- for this text's walks alone
set_option linter.unusedVariables false
set_option linter.unusedSimpArgs false
def goosenecklaw06_Example.f  : Option (List Int × List Int × List Int × Int × Int × Int) := some ((([20000, 10000] : List Int)), (([200000, 100000] : List Int)), (([60000, 50000] : List Int)), 200, 2, 500)
set_option maxHeartbeats 8000000 in
set_option maxRecDepth 100000 in
theorem goosenecklaw06_Example.calls  (r1 : List Int) (r2 : List Int) (r3 : List Int) (r4 : Int) (r5 : Int) (r6 : Int) (w : World) (h : goosenecklaw06_Example.f  = some (r1, r2, r3, r4, r5, r6)) :
  Calls Try.prog 41 #[] w fun e w' => ∃ v0_ v1_ v2_ : Value, e = .returned (.agg #[v0_, v1_, v2_, .int .i64 r4, .int .i64 r5, .int .i64 r6]) ∧ Kd.R (Kd.int .i64) 2 w' w.heap.size (fun k_ => some k_ ≠ (v1_ : Value).ownBlock ∧ some k_ ≠ (v2_ : Value).ownBlock) v0_ r1 ∧ Kd.R (Kd.int .i64) 2 w' w.heap.size (fun k_ => some k_ ≠ (v0_ : Value).ownBlock ∧ some k_ ≠ (v2_ : Value).ownBlock) v1_ r2 ∧ Kd.R (Kd.int .i64) 2 w' w.heap.size (fun k_ => some k_ ≠ (v0_ : Value).ownBlock ∧ some k_ ≠ (v1_ : Value).ownBlock) v2_ r3 ∧ Below w.heap.size w w' := by
 have hu24 := Try.underlying24
 have HB := Aside0.mk (Below.refl w.heap.size w)
 have H : (some ((([20000, 10000] : List Int)), (([200000, 100000] : List Int)), (([60000, 50000] : List Int)), 200, 2, 500)) = some (r1, r2, r3, r4, r5, r6) := h
 clear h
 obtain ⟨y102, hy102⟩ : ∃ y_ : List Int, y_ = (([20000, 10000] : List Int)) := ⟨_, rfl⟩
 replace H : (some (y102, (([200000, 100000] : List Int)), (([60000, 50000] : List Int)), 200, 2, 500)) = some (r1, r2, r3, r4, r5, r6) := by first | (rw [hy102]; with_reducible exact H) | (have H2_ := (Option.bind_some _ _).symm.trans H; rw [hy102]; with_reducible exact H2_) | (have H2_ := (Option.bind_some _ _).symm.trans H; with_reducible exact H2_) | with_reducible exact H | (rw [hy102]; exact H) | exact H
 have Ny102 := Aside0.mk hy102
 clear hy102
 obtain ⟨y105, hy105⟩ : ∃ y_ : List Int, y_ = (([200000, 100000] : List Int)) := ⟨_, rfl⟩
 replace H : (some (y102, y105, (([60000, 50000] : List Int)), 200, 2, 500)) = some (r1, r2, r3, r4, r5, r6) := by first | (rw [hy105]; with_reducible exact H) | (have H2_ := (Option.bind_some _ _).symm.trans H; rw [hy105]; with_reducible exact H2_) | (have H2_ := (Option.bind_some _ _).symm.trans H; with_reducible exact H2_) | with_reducible exact H | (rw [hy105]; exact H) | exact H
 have Ny105 := Aside0.mk hy105
 clear hy105
 obtain ⟨y108, hy108⟩ : ∃ y_ : List Int, y_ = (([60000, 50000] : List Int)) := ⟨_, rfl⟩
 replace H : (some (y102, y105, y108, 200, 2, 500)) = some (r1, r2, r3, r4, r5, r6) := by first | (rw [hy108]; with_reducible exact H) | (have H2_ := (Option.bind_some _ _).symm.trans H; rw [hy108]; with_reducible exact H2_) | (have H2_ := (Option.bind_some _ _).symm.trans H; with_reducible exact H2_) | with_reducible exact H | (rw [hy108]; exact H) | exact H
 have Ny108 := Aside0.mk hy108
 clear hy108
 simp only [Option.some.injEq, Prod.mk.injEq] at H
 obtain ⟨rfl, rfl, rfl, rfl, rfl, rfl⟩ := H
 go_enter Try.func41, Try.ntmps41
 go_wp2_with (first | ((with_reducible refine gate_dst (N := 0) rfl ?_); refine box_event ?hg (N := 0) ?hd (cs := #[.slice none 0 0, .slice none 0 0, .slice none 0 0, .int .i64 0, .int .i64 0, .int .i64 0]) (t := 24) ?hr ?_; (case hd => rfl); (case hg => rfl); (case hr => first | (go_simp; done) | (go_simp; rfl)); intro gb101 hg w1 hbox hb; have n0_ := Aside0.mk (below_step (by repeat (first | (with_reducible first | exact HB.out | apply below_alloc | apply pw_below_drewN | apply below_drew1) | exact HB.out)) hb); have n1_ := Aside0.mk (hbox); have n2_ := Aside0.mk ((by rw [hg]; exact (below_size (by repeat (first | (with_reducible first | exact HB.out | apply below_alloc | apply pw_below_drewN | apply below_drew1) | exact HB.out))) : w.heap.size ≤ gb101)); have n3_ := Aside0.mk ((by rw [hg]; exact (below_size (by repeat (first | (with_reducible first | exact HB.out | apply below_alloc | apply pw_below_drewN | apply below_drew1) | exact HB.out))) : w.heap.size ≤ gb101)); clear HB; have HB := n0_; have BK101 := n1_; have GW101 := n2_; have GE101 := n3_; clear n0_ n1_ n2_ n3_; clear hb hbox hg) | ((with_reducible refine gate_dst (N := 1) rfl ?_); refine Kd.R_lit (Kd.int .i64) _ 2 ?hg (N := 1) ?hd (xs := ([20000, 10000] : List Int)) (inner := [.int .i64 20000, .int .i64 10000]) (ok := fun _ => True) (okp := fun _ => True) ?hr ?hp (fun _ hk => hk) trivial (Below.refl _ _) (Nat.le_refl _) (by simp) ?_; (case hd => rfl); (case hg => rfl); (case hr => first | (go_simp; done) | (go_simp; rfl)); (case hp => exact (Reps.one (show Kd.M (Kd.int .i64) _ _ _ 20000 [.int .i64 20000] from rfl) (Reps.one (show Kd.M (Kd.int .i64) _ _ _ 10000 [.int .i64 10000] from rfl) (Reps.none _ _)))); intro v103 w2 ho3 hb hg_ hnew_; clear hg_ hnew_; (first | rw [← Ny102.out] at ho3 | (simp only [Int.reduceToNat] at ho3; rw [← Ny102.out] at ho3)); have n0_ := Aside0.mk (Kd.R_lower ho3 (below_size (by repeat (first | (with_reducible first | exact HB.out | apply below_alloc | apply pw_below_drewN | apply below_drew1 | refine below_set ?_ GE101.out) | exact HB.out)))); have n1_ := Aside0.mk (blk_below (g := gb101) (o := .cells #[.slice none 0 0, .slice none 0 0, .slice none 0 0, .int .i64 0, .int .i64 0, .int .i64 0] 24 (0, 0)) (by (with_reducible repeat (first | refine blk_drewN ?_ _ | refine blk_drew ?_ | refine blk_alloc ?_ _)); exact BK101.out) hb); have n2_ := Aside0.mk (below_step (by repeat (first | (with_reducible first | exact HB.out | apply below_alloc | apply pw_below_drewN | apply below_drew1 | refine below_set ?_ GE101.out) | exact HB.out)) hb); clear BK101; clear HB; have HO104 := n0_; have BK101 := n1_; have HB := n2_; clear n0_ n1_ n2_; clear hb ho3) | ((with_reducible refine gate_dst (N := 2) rfl ?_); refine Kd.R_lit (Kd.int .i64) _ 2 ?hg (N := 2) ?hd (xs := ([200000, 100000] : List Int)) (inner := [.int .i64 200000, .int .i64 100000]) (ok := fun _ => True) (okp := fun _ => True) ?hr ?hp (fun _ hk => hk) trivial (Below.refl _ _) (Nat.le_refl _) (by simp) ?_; (case hd => rfl); (case hg => rfl); (case hr => first | (go_simp; done) | (go_simp; rfl)); (case hp => exact (Reps.one (show Kd.M (Kd.int .i64) _ _ _ 200000 [.int .i64 200000] from rfl) (Reps.one (show Kd.M (Kd.int .i64) _ _ _ 100000 [.int .i64 100000] from rfl) (Reps.none _ _)))); intro v106 w4 ho5 hb hg_ hnew_; clear hg_ hnew_; (first | rw [← Ny105.out] at ho5 | (simp only [Int.reduceToNat] at ho5; rw [← Ny105.out] at ho5)); have n0_ := Aside0.mk (Kd.R_elder' (by (with_reducible repeat (first | apply Kd.R_alloc | apply Kd.R_drewN | apply Kd.R_drew)); exact HO104.out) (Kd.R_base ho5) hb); have n1_ := Aside0.mk (Kd.R_lower (Kd.R_new' ho5 (Kd.R_lt (by (with_reducible repeat (first | apply Kd.R_alloc | apply Kd.R_drewN | apply Kd.R_drew)); exact HO104.out))) (below_size (by repeat (first | (with_reducible first | exact HB.out | apply below_alloc | apply pw_below_drewN | apply below_drew1 | refine below_set ?_ GE101.out) | exact HB.out)))); have n2_ := Aside0.mk (blk_below (g := gb101) (o := .cells #[.slice none 0 0, .slice none 0 0, .slice none 0 0, .int .i64 0, .int .i64 0, .int .i64 0] 24 (0, 0)) (by (with_reducible repeat (first | refine blk_drewN ?_ _ | refine blk_drew ?_ | refine blk_alloc ?_ _)); exact BK101.out) hb); have n3_ := Aside0.mk (below_step (by repeat (first | (with_reducible first | exact HB.out | apply below_alloc | apply pw_below_drewN | apply below_drew1 | refine below_set ?_ GE101.out) | exact HB.out)) hb); clear HO104; clear BK101; clear HB; have HO104 := n0_; have HO107 := n1_; have BK101 := n2_; have HB := n3_; clear n0_ n1_ n2_ n3_; clear hb ho5) | ((with_reducible refine gate_dst (N := 3) rfl ?_); refine Kd.R_lit (Kd.int .i64) _ 2 ?hg (N := 3) ?hd (xs := ([60000, 50000] : List Int)) (inner := [.int .i64 60000, .int .i64 50000]) (ok := fun _ => True) (okp := fun _ => True) ?hr ?hp (fun _ hk => hk) trivial (Below.refl _ _) (Nat.le_refl _) (by simp) ?_; (case hd => rfl); (case hg => rfl); (case hr => first | (go_simp; done) | (go_simp; rfl)); (case hp => exact (Reps.one (show Kd.M (Kd.int .i64) _ _ _ 60000 [.int .i64 60000] from rfl) (Reps.one (show Kd.M (Kd.int .i64) _ _ _ 50000 [.int .i64 50000] from rfl) (Reps.none _ _)))); intro v109 w6 ho7 hb hg_ hnew_; clear hg_ hnew_; (first | rw [← Ny108.out] at ho7 | (simp only [Int.reduceToNat] at ho7; rw [← Ny108.out] at ho7)); have n0_ := Aside0.mk (Kd.R_elder' (by (with_reducible repeat (first | apply Kd.R_alloc | apply Kd.R_drewN | apply Kd.R_drew)); exact HO104.out) (Kd.R_base ho7) hb); have n1_ := Aside0.mk (Kd.R_elder' (by (with_reducible repeat (first | apply Kd.R_alloc | apply Kd.R_drewN | apply Kd.R_drew)); exact HO107.out) (Kd.R_base ho7) hb); have n2_ := Aside0.mk (Kd.R_lower (Kd.R_new' (Kd.R_new' ho7 (Kd.R_lt (by (with_reducible repeat (first | apply Kd.R_alloc | apply Kd.R_drewN | apply Kd.R_drew)); exact HO104.out))) (Kd.R_lt (by (with_reducible repeat (first | apply Kd.R_alloc | apply Kd.R_drewN | apply Kd.R_drew)); exact HO107.out))) (below_size (by repeat (first | (with_reducible first | exact HB.out | apply below_alloc | apply pw_below_drewN | apply below_drew1 | refine below_set ?_ GE101.out) | exact HB.out)))); have n3_ := Aside0.mk (blk_below (g := gb101) (o := .cells #[.slice none 0 0, .slice none 0 0, .slice none 0 0, .int .i64 0, .int .i64 0, .int .i64 0] 24 (0, 0)) (by (with_reducible repeat (first | refine blk_drewN ?_ _ | refine blk_drew ?_ | refine blk_alloc ?_ _)); exact BK101.out) hb); have n4_ := Aside0.mk (below_step (by repeat (first | (with_reducible first | exact HB.out | apply below_alloc | apply pw_below_drewN | apply below_drew1 | refine below_set ?_ GE101.out) | exact HB.out)) hb); clear HO104; clear HO107; clear BK101; clear HB; have HO104 := n0_; have HO107 := n1_; have HO110 := n2_; have BK101 := n3_; have HB := n4_; clear n0_ n1_ n2_ n3_ n4_; clear hb ho7; obtain ⟨Ao8, co8, eo8⟩ := Kd.R_slice HO110.out; subst eo8; obtain ⟨Ao9, co9, eo9⟩ := Kd.R_slice HO107.out; subst eo9; obtain ⟨Ao10, co10, eo10⟩ := Kd.R_slice HO104.out; subst eo10; have hcz11_0 : w6.cell? ⟨gb101, 0, none⟩ = some (.slice none 0 0) := (blk_cell BK101.out 0).trans rfl; have hcz11_1 : w6.cell? ⟨gb101, 1, none⟩ = some (.slice none 0 0) := (blk_cell BK101.out 1).trans rfl; have hcz11_2 : w6.cell? ⟨gb101, 2, none⟩ = some (.slice none 0 0) := (blk_cell BK101.out 2).trans rfl; have hcz11_3 : w6.cell? ⟨gb101, 3, none⟩ = some (.int .i64 0) := (blk_cell BK101.out 3).trans rfl; have hcz11_4 : w6.cell? ⟨gb101, 4, none⟩ = some (.int .i64 0) := (blk_cell BK101.out 4).trans rfl; have hcz11_5 : w6.cell? ⟨gb101, 5, none⟩ = some (.int .i64 0) := (blk_cell BK101.out 5).trans rfl; have hfz11_0 := blk_frozen BK101.out 0; have hfz11_1 := blk_frozen BK101.out 1; have hfz11_2 := blk_frozen BK101.out 2; have hfz11_3 := blk_frozen BK101.out 3; have hfz11_4 := blk_frozen BK101.out 4; have hfz11_5 := blk_frozen BK101.out 5))
 refine bodyPost_ret (results_cell_row rfl _ _ gb101 24 #[.slice Ao10 y102.length co10, .slice Ao9 y105.length co9, .slice Ao8 y108.length co8, .int .i64 200, .int .i64 2, .int .i64 500] (0, 0) _ rfl (by (with_reducible repeat (first | refine blk_drewN ?_ _ | refine blk_drew ?_ | refine blk_alloc ?_ _)); refine blk_put (cs := #[.slice Ao10 y102.length co10, .slice Ao9 y105.length co9, .slice Ao8 y108.length co8, .int .i64 200, .int .i64 2, .int .i64 0]) ?_ 5 _ rfl; (with_reducible repeat (first | refine blk_drewN ?_ _ | refine blk_drew ?_ | refine blk_alloc ?_ _)); refine blk_put (cs := #[.slice Ao10 y102.length co10, .slice Ao9 y105.length co9, .slice Ao8 y108.length co8, .int .i64 200, .int .i64 0, .int .i64 0]) ?_ 4 _ rfl; (with_reducible repeat (first | refine blk_drewN ?_ _ | refine blk_drew ?_ | refine blk_alloc ?_ _)); refine blk_put (cs := #[.slice Ao10 y102.length co10, .slice Ao9 y105.length co9, .slice Ao8 y108.length co8, .int .i64 0, .int .i64 0, .int .i64 0]) ?_ 3 _ rfl; (with_reducible repeat (first | refine blk_drewN ?_ _ | refine blk_drew ?_ | refine blk_alloc ?_ _)); refine blk_put (cs := #[.slice Ao10 y102.length co10, .slice Ao9 y105.length co9, .slice none 0 0, .int .i64 0, .int .i64 0, .int .i64 0]) ?_ 2 _ rfl; (with_reducible repeat (first | refine blk_drewN ?_ _ | refine blk_drew ?_ | refine blk_alloc ?_ _)); refine blk_put (cs := #[.slice Ao10 y102.length co10, .slice none 0 0, .slice none 0 0, .int .i64 0, .int .i64 0, .int .i64 0]) ?_ 1 _ rfl; (with_reducible repeat (first | refine blk_drewN ?_ _ | refine blk_drew ?_ | refine blk_alloc ?_ _)); refine blk_put (cs := #[.slice none 0 0, .slice none 0 0, .slice none 0 0, .int .i64 0, .int .i64 0, .int .i64 0]) ?_ 0 _ rfl; (with_reducible repeat (first | refine blk_drewN ?_ _ | refine blk_drew ?_ | refine blk_alloc ?_ _)); exact BK101.out) Try.underlying24 rfl (by kernel_rfl)) rfl ?_
 exact ⟨_, _, _, by first | rfl | (simp [errW_none, errW_some] <;> rfl) | (simp [*, errW_none, errW_some] <;> rfl), by (with_reducible repeat (first | apply Kd.R_alloc | apply Kd.R_drewN | apply Kd.R_drew)); exact Kd.R_mono (Kd.R_far (p := ⟨gb101, 5, none⟩) (Kd.R_far (p := ⟨gb101, 4, none⟩) (Kd.R_far (p := ⟨gb101, 3, none⟩) (Kd.R_far (p := ⟨gb101, 2, none⟩) (Kd.R_far (p := ⟨gb101, 1, none⟩) (Kd.R_far (p := ⟨gb101, 0, none⟩) (Kd.R_types HO104.out BK101.out (by decide)) (fun _ hk => hk.2) (.slice Ao10 y102.length co10)) (fun _ hk => hk.2) (.slice Ao9 y105.length co9)) (fun _ hk => hk.2) (.slice Ao8 y108.length co8)) (fun _ hk => hk.2) (.int .i64 200)) (fun _ hk => hk.2) (.int .i64 2)) (fun _ hk => hk.2) (.int .i64 500)) (fun _ hk => ⟨hk.1.1.2, hk.1.2⟩), by (with_reducible repeat (first | apply Kd.R_alloc | apply Kd.R_drewN | apply Kd.R_drew)); exact Kd.R_mono (Kd.R_far (p := ⟨gb101, 5, none⟩) (Kd.R_far (p := ⟨gb101, 4, none⟩) (Kd.R_far (p := ⟨gb101, 3, none⟩) (Kd.R_far (p := ⟨gb101, 2, none⟩) (Kd.R_far (p := ⟨gb101, 1, none⟩) (Kd.R_far (p := ⟨gb101, 0, none⟩) (Kd.R_types HO107.out BK101.out (by decide)) (fun _ hk => hk.2) (.slice Ao10 y102.length co10)) (fun _ hk => hk.2) (.slice Ao9 y105.length co9)) (fun _ hk => hk.2) (.slice Ao8 y108.length co8)) (fun _ hk => hk.2) (.int .i64 200)) (fun _ hk => hk.2) (.int .i64 2)) (fun _ hk => hk.2) (.int .i64 500)) (fun _ hk => ⟨hk.1.1.2, hk.1.2⟩), by (with_reducible repeat (first | apply Kd.R_alloc | apply Kd.R_drewN | apply Kd.R_drew)); exact Kd.R_mono (Kd.R_far (p := ⟨gb101, 5, none⟩) (Kd.R_far (p := ⟨gb101, 4, none⟩) (Kd.R_far (p := ⟨gb101, 3, none⟩) (Kd.R_far (p := ⟨gb101, 2, none⟩) (Kd.R_far (p := ⟨gb101, 1, none⟩) (Kd.R_far (p := ⟨gb101, 0, none⟩) (Kd.R_types HO110.out BK101.out (by decide)) (fun _ hk => hk.2) (.slice Ao10 y102.length co10)) (fun _ hk => hk.2) (.slice Ao9 y105.length co9)) (fun _ hk => hk.2) (.slice Ao8 y108.length co8)) (fun _ hk => hk.2) (.int .i64 200)) (fun _ hk => hk.2) (.int .i64 2)) (fun _ hk => hk.2) (.int .i64 500)) (fun _ hk => ⟨hk.1.1.2, hk.1.2⟩), by repeat (first | (with_reducible first | exact HB.out | apply below_alloc | apply pw_below_drewN | apply below_drew1 | refine below_set ?_ GE101.out) | exact HB.out)⟩
end Go.Proofs.Ytiklpefckadgdaa.P
noncomputable section
namespace Go.Proofs.Ytiklpefckadgdaa.P
open Go.RowKit Go.Proofs.YtiklpefckadgdaaW.PrintWords Go.Proofs.YtiklpefckadgdaaW.PrintLast Go.Proofs.YtiklpefckadgdaaW.PrintMore
attribute [local go_sem] max2_int min2_int max_two min_two max_three min_three max_four min_four   -- for this text's walks alone
set_option linter.unusedVariables false
set_option linter.unusedSimpArgs false
def goosenecklaw06_Two.f  : Option ((List (S35))) := some (([(⟨0, 12000⟩ : S35), (⟨2000, 12000⟩ : S35)] : List (S35)))
set_option maxHeartbeats 8000000 in
set_option maxRecDepth 100000 in
theorem goosenecklaw06_Two.calls  (r : List (S35)) (w : World) (h : goosenecklaw06_Two.f  = some r) :
  Calls Try.prog 42 #[] w fun e w' => ∃ v0_ : Value, e = .returned (v0_) ∧ Kd.R k35 35 w' w.heap.size (fun _ => True) v0_ r ∧ Below w.heap.size w w' := by
 have hu35 := Try.underlying35
 have HB := Aside0.mk (Below.refl w.heap.size w)
 have H : (some (([(⟨0, 12000⟩ : S35), (⟨2000, 12000⟩ : S35)] : List (S35)))) = some r := h
 clear h
 obtain ⟨y101, hy101⟩ : ∃ y_ : List (S35), y_ = (([(⟨0, 12000⟩ : S35), (⟨2000, 12000⟩ : S35)] : List (S35))) := ⟨_, rfl⟩
 replace H : (some y101) = some r := by first | (rw [hy101]; with_reducible exact H) | (have H2_ := (Option.bind_some _ _).symm.trans H; rw [hy101]; with_reducible exact H2_) | (have H2_ := (Option.bind_some _ _).symm.trans H; with_reducible exact H2_) | with_reducible exact H | (rw [hy101]; exact H) | exact H
 have Ny101 := Aside0.mk hy101
 clear hy101
 obtain rfl := Option.some.inj H
 go_enter Try.func42, Try.ntmps42
 go_wp2_with (first | ((with_reducible refine gate_dst (N := 3) rfl ?_); refine Kd.R_lit k35 _ 35 ?hg (N := 3) ?hd (xs := ([(⟨0, 12000⟩ : S35), (⟨2000, 12000⟩ : S35)] : List (S35))) (inner := [.int .i64 0, .int .i64 12000, .int .i64 2000, .int .i64 12000]) (ok := fun _ => True) (okp := fun _ => True) ?hr ?hp (fun _ hk => hk) trivial (Below.refl _ _) (Nat.le_refl _) (by simp) ?_; (case hd => rfl); (case hg => rfl); (case hr => first | (go_simp; done) | (go_simp; rfl)); (case hp => exact (Reps.c2 (show Kd.M k35 _ _ _ (⟨0, 12000⟩ : S35) [.int .i64 0, .int .i64 12000] from (k35_mkM _ _ _ (⟨0, 12000⟩ : S35) )) (Reps.c2 (show Kd.M k35 _ _ _ (⟨2000, 12000⟩ : S35) [.int .i64 2000, .int .i64 12000] from (k35_mkM _ _ _ (⟨2000, 12000⟩ : S35) )) (Reps.none _ _)))); intro v102 w1 ho2 hb hg_ hnew_; clear hg_ hnew_; (first | rw [← Ny101.out] at ho2 | (simp only [Int.reduceToNat] at ho2; rw [← Ny101.out] at ho2)); have n0_ := Aside0.mk (Kd.R_lower ho2 (below_size (by repeat (first | (with_reducible first | exact HB.out | apply below_alloc | apply pw_below_drewN | apply below_drew1) | exact HB.out)))); have n1_ := Aside0.mk (below_step (by repeat (first | (with_reducible first | exact HB.out | apply below_alloc | apply pw_below_drewN | apply below_drew1) | exact HB.out)) hb); clear HB; have HO103 := n0_; have HB := n1_; clear n0_ n1_; clear hb ho2))
 go_ret
 exact ⟨_, by first | rfl | (simp [errW_none, errW_some] <;> rfl) | (simp [*, errW_none, errW_some] <;> rfl), by (with_reducible repeat (first | apply Kd.R_alloc | apply Kd.R_drewN | apply Kd.R_drew)); exact HO103.out, by repeat (first | (with_reducible first | exact HB.out | apply below_alloc | apply pw_below_drewN | apply below_drew1) | exact HB.out)⟩
end Go.Proofs.Ytiklpefckadgdaa.P
noncomputable section
namespace Go.Proofs.Ytiklpefckadgdaa.P
open Go.RowKit Go.Proofs.YtiklpefckadgdaaW.PrintWords Go.Proofs.YtiklpefckadgdaaW.PrintLast Go.Proofs.YtiklpefckadgdaaW.PrintMore
attribute [local go_sem] max2_int min2_int max_two min_two max_three min_three max_four min_four   -- for this text's walks alone
set_option linter.unusedVariables false
set_option linter.unusedSimpArgs false
attribute [local go_sem high] eqA29
def goosenecklaw06_known.f (k : Nat)  : Option (Bool) := (goosenecklaw06_Example.f).bind fun bt101 => ((goosenecklaw06_Two.f).bind fun t113 => ((bridge_WorstMoment.f bt101.1 bt101.2.1 bt101.2.2.1 bt101.2.2.2.1 bt101.2.2.2.2.1 bt101.2.2.2.2.2 t113 0 10000).bind fun bt116 => ((goosenecklaw06_Example.f).bind fun bt122 => ((goosenecklaw06_Two.f).bind fun t134 => ((bridge_WorstEnd.f bt122.1 bt122.2.1 bt122.2.2.1 bt122.2.2.2.1 bt122.2.2.2.2.1 bt122.2.2.2.2.2 t134 0 false).bind fun bt137 => ((goosenecklaw06_Two.f).bind fun t143 => ((bridge_Damage.f k 10000 1000 4 t143 1).bind fun bt146 => (if (wrap64 ((wrap64 (bt116.2.2.2.2 + bt137.2.2.2.2)) + bt146.2)) = 0 then (if (bt116.1 == 2160000000000 && (bt116.2.1 == 0 && (bt116.2.2.1 == 10000 && (bt116.2.2.2.1 == 10000)))) = true then (if (bt137.1 == 456000000 && (bt137.2.1 == 0 && (bt137.2.2.1 == 0 && (bt137.2.2.2.1 == 2000)))) = true then (some (bt146.1 == 4148)) else (some false)) else (some false)) else (some false)))))))))
theorem goosenecklaw06_known.mono : ∀ k, LeO (goosenecklaw06_known.f k ) (goosenecklaw06_known.f (k + 1) ) := by
 intro  k
 unfold goosenecklaw06_known.f
 repeat' first
   | (with_reducible exact bridge_Damage.mono _ _ _ _ _ _)
   | (with_reducible exact LeO.refl _)
   | (with_reducible exact LeO.none _)
   | (with_reducible refine LeO.ite ?_ ?_)
   | (with_reducible refine LeO.bind ?_ (fun _ => ?_))
   | exact bridge_Damage.mono _ _ _ _ _ _
   | exact LeO.none _
   | refine LeO.ite ?_ ?_
   | refine LeO.bind ?_ (fun _ => ?_)
set_option maxHeartbeats 8000000 in
set_option maxRecDepth 100000 in
theorem goosenecklaw06_known.callsT (k : Nat)  (r : Bool) (w : World) (hr_ : Aside0 (r = true)) (h : goosenecklaw06_known.f k  = some r) :
  Calls Try.prog 12 #[] w fun e w' => e = .returned (.bool r) ∧ Below w.heap.size w w' := by
 have hu29 := Try.underlying29
 have hu43 := Try.underlying43
 have HB := Aside0.mk (Below.refl w.heap.size w)
 have H : ((goosenecklaw06_Example.f).bind fun bt101 => ((goosenecklaw06_Two.f).bind fun t113 => ((bridge_WorstMoment.f bt101.1 bt101.2.1 bt101.2.2.1 bt101.2.2.2.1 bt101.2.2.2.2.1 bt101.2.2.2.2.2 t113 0 10000).bind fun bt116 => ((goosenecklaw06_Example.f).bind fun bt122 => ((goosenecklaw06_Two.f).bind fun t134 => ((bridge_WorstEnd.f bt122.1 bt122.2.1 bt122.2.2.1 bt122.2.2.2.1 bt122.2.2.2.2.1 bt122.2.2.2.2.2 t134 0 false).bind fun bt137 => ((goosenecklaw06_Two.f).bind fun t143 => ((bridge_Damage.f k 10000 1000 4 t143 1).bind fun bt146 => (if (wrap64 ((wrap64 (bt116.2.2.2.2 + bt137.2.2.2.2)) + bt146.2)) = 0 then (if (bt116.1 == 2160000000000 && (bt116.2.1 == 0 && (bt116.2.2.1 == 10000 && (bt116.2.2.2.1 == 10000)))) = true then (if (bt137.1 == 456000000 && (bt137.2.1 == 0 && (bt137.2.2.1 == 0 && (bt137.2.2.2.1 == 2000)))) = true then (some (bt146.1 == 4148)) else (some false)) else (some false)) else (some false)))))))))) = some r := h
 clear h
 replace H := Option.bind_eq_some_iff.mp H
 obtain ⟨⟨t101, t104, t107, t110, t111, t112⟩, A10, H⟩ := H
 replace H : ((goosenecklaw06_Two.f).bind fun t113 => ((bridge_WorstMoment.f t101 t104 t107 t110 t111 t112 t113 0 10000).bind fun bt116 => ((goosenecklaw06_Example.f).bind fun bt122 => ((goosenecklaw06_Two.f).bind fun t134 => ((bridge_WorstEnd.f bt122.1 bt122.2.1 bt122.2.2.1 bt122.2.2.2.1 bt122.2.2.2.2.1 bt122.2.2.2.2.2 t134 0 false).bind fun bt137 => ((goosenecklaw06_Two.f).bind fun t143 => ((bridge_Damage.f k 10000 1000 4 t143 1).bind fun bt146 => (if (wrap64 ((wrap64 (bt116.2.2.2.2 + bt137.2.2.2.2)) + bt146.2)) = 0 then (if (bt116.1 == 2160000000000 && (bt116.2.1 == 0 && (bt116.2.2.1 == 10000 && (bt116.2.2.2.1 == 10000)))) = true then (if (bt137.1 == 456000000 && (bt137.2.1 == 0 && (bt137.2.2.1 == 0 && (bt137.2.2.2.1 == 2000)))) = true then (some (bt146.1 == 4148)) else (some false)) else (some false)) else (some false))))))))) = some r := H
 have A1 := Aside0.mk A10
 clear A10
 replace H := Option.bind_eq_some_iff.mp H
 obtain ⟨t113, A20, H⟩ := H
 replace H : ((bridge_WorstMoment.f t101 t104 t107 t110 t111 t112 t113 0 10000).bind fun bt116 => ((goosenecklaw06_Example.f).bind fun bt122 => ((goosenecklaw06_Two.f).bind fun t134 => ((bridge_WorstEnd.f bt122.1 bt122.2.1 bt122.2.2.1 bt122.2.2.2.1 bt122.2.2.2.2.1 bt122.2.2.2.2.2 t134 0 false).bind fun bt137 => ((goosenecklaw06_Two.f).bind fun t143 => ((bridge_Damage.f k 10000 1000 4 t143 1).bind fun bt146 => (if (wrap64 ((wrap64 (bt116.2.2.2.2 + bt137.2.2.2.2)) + bt146.2)) = 0 then (if (bt116.1 == 2160000000000 && (bt116.2.1 == 0 && (bt116.2.2.1 == 10000 && (bt116.2.2.2.1 == 10000)))) = true then (if (bt137.1 == 456000000 && (bt137.2.1 == 0 && (bt137.2.2.1 == 0 && (bt137.2.2.2.1 == 2000)))) = true then (some (bt146.1 == 4148)) else (some false)) else (some false)) else (some false)))))))) = some r := H
 have A2 := Aside0.mk A20
 clear A20
 replace H := Option.bind_eq_some_iff.mp H
 obtain ⟨⟨t116, t117, t118, t119, t120⟩, A30, H⟩ := H
 replace H : ((goosenecklaw06_Example.f).bind fun bt122 => ((goosenecklaw06_Two.f).bind fun t134 => ((bridge_WorstEnd.f bt122.1 bt122.2.1 bt122.2.2.1 bt122.2.2.2.1 bt122.2.2.2.2.1 bt122.2.2.2.2.2 t134 0 false).bind fun bt137 => ((goosenecklaw06_Two.f).bind fun t143 => ((bridge_Damage.f k 10000 1000 4 t143 1).bind fun bt146 => (if (wrap64 ((wrap64 (t120 + bt137.2.2.2.2)) + bt146.2)) = 0 then (if (t116 == 2160000000000 && (t117 == 0 && (t118 == 10000 && (t119 == 10000)))) = true then (if (bt137.1 == 456000000 && (bt137.2.1 == 0 && (bt137.2.2.1 == 0 && (bt137.2.2.2.1 == 2000)))) = true then (some (bt146.1 == 4148)) else (some false)) else (some false)) else (some false))))))) = some r := H
 have A3 := Aside0.mk A30
 clear A30
 replace H := Option.bind_eq_some_iff.mp H
 obtain ⟨⟨t122, t125, t128, t131, t132, t133⟩, A40, H⟩ := H
 replace H : ((goosenecklaw06_Two.f).bind fun t134 => ((bridge_WorstEnd.f t122 t125 t128 t131 t132 t133 t134 0 false).bind fun bt137 => ((goosenecklaw06_Two.f).bind fun t143 => ((bridge_Damage.f k 10000 1000 4 t143 1).bind fun bt146 => (if (wrap64 ((wrap64 (t120 + bt137.2.2.2.2)) + bt146.2)) = 0 then (if (t116 == 2160000000000 && (t117 == 0 && (t118 == 10000 && (t119 == 10000)))) = true then (if (bt137.1 == 456000000 && (bt137.2.1 == 0 && (bt137.2.2.1 == 0 && (bt137.2.2.2.1 == 2000)))) = true then (some (bt146.1 == 4148)) else (some false)) else (some false)) else (some false)))))) = some r := H
 have A4 := Aside0.mk A40
 clear A40
 replace H := Option.bind_eq_some_iff.mp H
 obtain ⟨t134, A50, H⟩ := H
 replace H : ((bridge_WorstEnd.f t122 t125 t128 t131 t132 t133 t134 0 false).bind fun bt137 => ((goosenecklaw06_Two.f).bind fun t143 => ((bridge_Damage.f k 10000 1000 4 t143 1).bind fun bt146 => (if (wrap64 ((wrap64 (t120 + bt137.2.2.2.2)) + bt146.2)) = 0 then (if (t116 == 2160000000000 && (t117 == 0 && (t118 == 10000 && (t119 == 10000)))) = true then (if (bt137.1 == 456000000 && (bt137.2.1 == 0 && (bt137.2.2.1 == 0 && (bt137.2.2.2.1 == 2000)))) = true then (some (bt146.1 == 4148)) else (some false)) else (some false)) else (some false))))) = some r := H
 have A5 := Aside0.mk A50
 clear A50
 replace H := Option.bind_eq_some_iff.mp H
 obtain ⟨⟨t137, t138, t139, t140, t141⟩, A60, H⟩ := H
 replace H : ((goosenecklaw06_Two.f).bind fun t143 => ((bridge_Damage.f k 10000 1000 4 t143 1).bind fun bt146 => (if (wrap64 ((wrap64 (t120 + t141)) + bt146.2)) = 0 then (if (t116 == 2160000000000 && (t117 == 0 && (t118 == 10000 && (t119 == 10000)))) = true then (if (t137 == 456000000 && (t138 == 0 && (t139 == 0 && (t140 == 2000)))) = true then (some (bt146.1 == 4148)) else (some false)) else (some false)) else (some false)))) = some r := H
 have A6 := Aside0.mk A60
 clear A60
 replace H := Option.bind_eq_some_iff.mp H
 obtain ⟨t143, A70, H⟩ := H
 replace H : ((bridge_Damage.f k 10000 1000 4 t143 1).bind fun bt146 => (if (wrap64 ((wrap64 (t120 + t141)) + bt146.2)) = 0 then (if (t116 == 2160000000000 && (t117 == 0 && (t118 == 10000 && (t119 == 10000)))) = true then (if (t137 == 456000000 && (t138 == 0 && (t139 == 0 && (t140 == 2000)))) = true then (some (bt146.1 == 4148)) else (some false)) else (some false)) else (some false))) = some r := H
 have A7 := Aside0.mk A70
 clear A70
 replace H := Option.bind_eq_some_iff.mp H
 obtain ⟨⟨t146, t147⟩, A80, H⟩ := H
 replace H : (if (wrap64 ((wrap64 (t120 + t141)) + t147)) = 0 then (if (t116 == 2160000000000 && (t117 == 0 && (t118 == 10000 && (t119 == 10000)))) = true then (if (t137 == 456000000 && (t138 == 0 && (t139 == 0 && (t140 == 2000)))) = true then (some (t146 == 4148)) else (some false)) else (some false)) else (some false)) = some r := H
 have A8 := Aside0.mk A80
 clear A80
 by_cases c9 : (wrap64 ((wrap64 (t120 + t141)) + t147)) = 0
 ·rw [if_pos c9] at H
  have c9b0 : ((wrap64 ((wrap64 (t120 + t141)) + t147)) == 0) = true := beq_iff_eq.mpr c9
  have c9b1 : ((wrap64 ((wrap64 (t120 + t141)) + t147)) != 0) = false := bne_eq_false_iff_eq.mpr c9
  clear c9
  by_cases c10 : (t116 == 2160000000000 && (t117 == 0 && (t118 == 10000 && (t119 == 10000)))) = true
  ·rw [if_pos c10] at H
   have c10b0 : (t116 == 2160000000000 && (t117 == 0 && (t118 == 10000 && (t119 == 10000)))) = true := c10
   (try (have c10b1 : decide (t116 = 2160000000000 && (t117 == 0 && (t118 == 10000 && (t119 == 10000)))) = true := by simpa using c10))
   (try (have c10b2 : (t116 == 2160000000000 && (t117 == 0 && (t118 == 10000 && (t119 == 10000)))) = true := by simpa using c10))
   clear c10
   by_cases c11 : (t137 == 456000000 && (t138 == 0 && (t139 == 0 && (t140 == 2000)))) = true
   ·rw [if_pos c11] at H
    have c11b0 : (t137 == 456000000 && (t138 == 0 && (t139 == 0 && (t140 == 2000)))) = true := c11
    (try (have c11b1 : decide (t137 = 456000000 && (t138 == 0 && (t139 == 0 && (t140 == 2000)))) = true := by simpa using c11))
    (try (have c11b2 : (t137 == 456000000 && (t138 == 0 && (t139 == 0 && (t140 == 2000)))) = true := by simpa using c11))
    clear c11
    obtain rfl := Option.some.inj H
    go_enter Try.func12, Try.ntmps12
    go_wp2_with (first | ((with_reducible refine gate_callee (f := 41) rfl ?_); refine goesL_ (some 8) rfl rfl Try.func41 (by kernel_rfl) rfl #[] rfl (by (try simp only [List.map_toArray, List.map_cons, List.map_nil]); first | done | rfl | (simp only [List.length_drop, List.length_take]; rfl)) ?_; (with_reducible refine (goosenecklaw06_Example.calls  t101 t104 t107 t110 t111 t112 _ A1.out).mono ?_); rintro e w12 ⟨v102, v105, v108, rfl, ho0, ho1, ho2, hb⟩; refine ⟨_, rfl, ?_⟩; have n0_ := Aside0.mk (Kd.R_lower ho0 (below_size (by repeat (first | (with_reducible first | exact HB.out | apply below_alloc | apply pw_below_drewN | apply below_drew1) | exact HB.out)))); have n1_ := Aside0.mk (Kd.R_lower ho1 (below_size (by repeat (first | (with_reducible first | exact HB.out | apply below_alloc | apply pw_below_drewN | apply below_drew1) | exact HB.out)))); have n2_ := Aside0.mk (Kd.R_lower ho2 (below_size (by repeat (first | (with_reducible first | exact HB.out | apply below_alloc | apply pw_below_drewN | apply below_drew1) | exact HB.out)))); have n3_ := Aside0.mk (below_step (by repeat (first | (with_reducible first | exact HB.out | apply below_alloc | apply pw_below_drewN | apply below_drew1) | exact HB.out)) hb); clear HB; have HO103 := n0_; have HO106 := n1_; have HO109 := n2_; have HB := n3_; clear n0_ n1_ n2_ n3_; (try clear hb); (try clear hb2); (try clear hk); (try clear hi); (try clear ho0); (try clear ho1); (try clear ho2)) | ((with_reducible refine gate_callee (f := 42) rfl ?_); refine goesL_ (some 9) rfl rfl Try.func42 (by kernel_rfl) rfl #[] rfl (by (try simp only [List.map_toArray, List.map_cons, List.map_nil]); first | done | rfl | (simp only [List.length_drop, List.length_take]; rfl)) ?_; (with_reducible refine (goosenecklaw06_Two.calls  t113 _ A2.out).mono ?_); rintro e w13 ⟨v114, rfl, ho0, hb⟩; refine ⟨_, rfl, ?_⟩; have n0_ := Aside0.mk (Kd.R_below (by (with_reducible repeat (first | apply Kd.R_alloc | apply Kd.R_drewN | apply Kd.R_drew)); exact HO103.out) hb); have n1_ := Aside0.mk (Kd.R_below (by (with_reducible repeat (first | apply Kd.R_alloc | apply Kd.R_drewN | apply Kd.R_drew)); exact HO106.out) hb); have n2_ := Aside0.mk (Kd.R_below (by (with_reducible repeat (first | apply Kd.R_alloc | apply Kd.R_drewN | apply Kd.R_drew)); exact HO109.out) hb); have n3_ := Aside0.mk (Kd.R_lower ho0 (below_size (by repeat (first | (with_reducible first | exact HB.out | apply below_alloc | apply pw_below_drewN | apply below_drew1) | exact HB.out)))); have n4_ := Aside0.mk (below_step (by repeat (first | (with_reducible first | exact HB.out | apply below_alloc | apply pw_below_drewN | apply below_drew1) | exact HB.out)) hb); clear HO103; clear HO106; clear HO109; clear HB; have HO103 := n0_; have HO106 := n1_; have HO109 := n2_; have HO115 := n3_; have HB := n4_; clear n0_ n1_ n2_ n3_ n4_; (try clear hb); (try clear hb2); (try clear hk); (try clear hi); (try clear ho0); obtain ⟨Ao14, co14, eo14⟩ := Kd.R_slice HO103.out; subst eo14; obtain ⟨Ao15, co15, eo15⟩ := Kd.R_slice HO106.out; subst eo15; obtain ⟨Ao16, co16, eo16⟩ := Kd.R_slice HO109.out; subst eo16; obtain ⟨Ao17, co17, eo17⟩ := Kd.R_slice HO115.out; subst eo17) | ((with_reducible refine gate_callee (f := 13) rfl ?_); refine goesL_ (some 10) rfl rfl Try.func13 (by kernel_rfl) rfl #[.agg #[.slice Ao14 t101.length co14, .slice Ao15 t104.length co15, .slice Ao16 t107.length co16, .int .i64 t110, .int .i64 t111, .int .i64 t112], .slice Ao17 t113.length co17, .int .i64 0, .int .i64 10000] rfl (by (try simp only [List.map_toArray, List.map_cons, List.map_nil]); first | done | rfl | (simp only [List.length_drop, List.length_take]; rfl)) ?_; (with_reducible refine (bridge_WorstMoment.calls _ _ t101 _ _ t104 _ _ t107 t110 t111 t112 _ _ t113 0 10000 t116 t117 t118 t119 t120 _ ?side1 ?side2 ?side3 ?side4 ?side5 ?side6 ?side7 ?side8 A3.out).mono ?_); (case side1 => repeat (first | exact (Kd.R_reads' HO103.out).2.2 | (with_reducible refine Kd.C_alloc ?_ _) | (with_reducible refine Kd.C_drewN ?_ _) | (with_reducible refine Kd.C_drew ?_))); (case side2 => exact (Kd.R_reads' HO103.out).2.1); (case side3 => repeat (first | exact (Kd.R_reads' HO106.out).2.2 | (with_reducible refine Kd.C_alloc ?_ _) | (with_reducible refine Kd.C_drewN ?_ _) | (with_reducible refine Kd.C_drew ?_))); (case side4 => exact (Kd.R_reads' HO106.out).2.1); (case side5 => repeat (first | exact (Kd.R_reads' HO109.out).2.2 | (with_reducible refine Kd.C_alloc ?_ _) | (with_reducible refine Kd.C_drewN ?_ _) | (with_reducible refine Kd.C_drew ?_))); (case side6 => exact (Kd.R_reads' HO109.out).2.1); (case side7 => repeat (first | exact (Kd.R_reads' HO115.out).2.2 | (with_reducible refine Kd.C_alloc ?_ _) | (with_reducible refine Kd.C_drewN ?_ _) | (with_reducible refine Kd.C_drew ?_))); (case side8 => exact (Kd.R_reads' HO115.out).2.1); rintro e w18 ⟨rfl, hb⟩; refine ⟨_, rfl, ?_⟩; have n0_ := Aside0.mk (Kd.R_below (by (with_reducible repeat (first | apply Kd.R_alloc | apply Kd.R_drewN | apply Kd.R_drew)); exact HO103.out) hb); have n1_ := Aside0.mk (Kd.R_below (by (with_reducible repeat (first | apply Kd.R_alloc | apply Kd.R_drewN | apply Kd.R_drew)); exact HO106.out) hb); have n2_ := Aside0.mk (Kd.R_below (by (with_reducible repeat (first | apply Kd.R_alloc | apply Kd.R_drewN | apply Kd.R_drew)); exact HO109.out) hb); have n3_ := Aside0.mk (Kd.R_below (by (with_reducible repeat (first | apply Kd.R_alloc | apply Kd.R_drewN | apply Kd.R_drew)); exact HO115.out) hb); have n4_ := Aside0.mk (below_step (by repeat (first | (with_reducible first | exact HB.out | apply below_alloc | apply pw_below_drewN | apply below_drew1) | exact HB.out)) hb); clear HO103; clear HO106; clear HO109; clear HO115; clear HB; have HO103 := n0_; have HO106 := n1_; have HO109 := n2_; have HO115 := n3_; have HB := n4_; clear n0_ n1_ n2_ n3_ n4_; (try clear hb); (try clear hb2); (try clear hk); (try clear hi)) | ((with_reducible refine gate_dst (N := 1) rfl ?_); refine box_event ?hg (N := 1) ?hd (cs := #[.int .i64 0, .int .i64 0, .int .i64 0, .int .i64 0]) (t := 29) ?hr ?_; (case hd => rfl); (case hg => rfl); (case hr => first | (go_simp; done) | (go_simp; rfl)); intro gb121 hg w19 hbox hb; have n0_ := Aside0.mk (Kd.R_below (by (with_reducible repeat (first | apply Kd.R_alloc | apply Kd.R_drewN | apply Kd.R_drew)); exact HO103.out) hb); have n1_ := Aside0.mk (Kd.R_below (by (with_reducible repeat (first | apply Kd.R_alloc | apply Kd.R_drewN | apply Kd.R_drew)); exact HO106.out) hb); have n2_ := Aside0.mk (Kd.R_below (by (with_reducible repeat (first | apply Kd.R_alloc | apply Kd.R_drewN | apply Kd.R_drew)); exact HO109.out) hb); have n3_ := Aside0.mk (Kd.R_below (by (with_reducible repeat (first | apply Kd.R_alloc | apply Kd.R_drewN | apply Kd.R_drew)); exact HO115.out) hb); have n4_ := Aside0.mk (below_step (by repeat (first | (with_reducible first | exact HB.out | apply below_alloc | apply pw_below_drewN | apply below_drew1) | exact HB.out)) hb); have n5_ := Aside0.mk (hbox); have n6_ := Aside0.mk ((by rw [hg]; exact (below_size (by repeat (first | (with_reducible first | exact HB.out | apply below_alloc | apply pw_below_drewN | apply below_drew1) | exact HB.out))) : w.heap.size ≤ gb121)); have n7_ := Aside0.mk ((by rw [hg]; exact (below_size (by repeat (first | (with_reducible first | exact HB.out | apply below_alloc | apply pw_below_drewN | apply below_drew1) | exact HB.out))) : w.heap.size ≤ gb121)); clear HO103; clear HO106; clear HO109; clear HO115; clear HB; have HO103 := n0_; have HO106 := n1_; have HO109 := n2_; have HO115 := n3_; have HB := n4_; have BK121 := n5_; have GW121 := n6_; have GE121 := n7_; clear n0_ n1_ n2_ n3_ n4_ n5_ n6_ n7_; clear hb hbox hg; have hcz20_0 : w19.cell? ⟨gb121, 0, none⟩ = some (.int .i64 0) := (blk_cell BK121.out 0).trans rfl; have hcz20_1 : w19.cell? ⟨gb121, 1, none⟩ = some (.int .i64 0) := (blk_cell BK121.out 1).trans rfl; have hcz20_2 : w19.cell? ⟨gb121, 2, none⟩ = some (.int .i64 0) := (blk_cell BK121.out 2).trans rfl; have hcz20_3 : w19.cell? ⟨gb121, 3, none⟩ = some (.int .i64 0) := (blk_cell BK121.out 3).trans rfl; have hfz20_0 := blk_frozen BK121.out 0; have hfz20_1 := blk_frozen BK121.out 1; have hfz20_2 := blk_frozen BK121.out 2; have hfz20_3 := blk_frozen BK121.out 3) | ((with_reducible refine gate_callee (f := 41) rfl ?_); refine goesL_ (some 14) rfl rfl Try.func41 (by kernel_rfl) rfl #[] rfl (by (try simp only [List.map_toArray, List.map_cons, List.map_nil]); first | done | rfl | (simp only [List.length_drop, List.length_take]; rfl)) ?_; (with_reducible refine (goosenecklaw06_Example.calls  t122 t125 t128 t131 t132 t133 _ A4.out).mono ?_); rintro e w21 ⟨v123, v126, v129, rfl, ho0, ho1, ho2, hb⟩; refine ⟨_, rfl, ?_⟩; have n0_ := Aside0.mk (Kd.R_mono (Kd.R_told (Kd.R_told (Kd.R_told (Kd.R_old (by (with_reducible repeat (first | apply Kd.R_alloc | apply Kd.R_drewN | apply Kd.R_drew)); exact (Kd.R_mono (Kd.R_far (p := ⟨gb121, 3, none⟩) (Kd.R_far (p := ⟨gb121, 2, none⟩) (Kd.R_far (p := ⟨gb121, 1, none⟩) (Kd.R_far (p := ⟨gb121, 0, none⟩) (Kd.R_types HO103.out BK121.out (by decide)) (fun _ hk => hk.2) (.int .i64 t116)) (fun _ hk => hk.2) (.int .i64 t117)) (fun _ hk => hk.2) (.int .i64 t118)) (fun _ hk => hk.2) (.int .i64 t119)) (fun _ h_ => h_.1))) hb) (Kd.R_base ho0)) (Kd.R_base ho1)) (Kd.R_base ho2)) (fun _ h_ => h_.1)); have n1_ := Aside0.mk (Kd.R_mono (Kd.R_told (Kd.R_told (Kd.R_told (Kd.R_old (by (with_reducible repeat (first | apply Kd.R_alloc | apply Kd.R_drewN | apply Kd.R_drew)); exact (Kd.R_mono (Kd.R_far (p := ⟨gb121, 3, none⟩) (Kd.R_far (p := ⟨gb121, 2, none⟩) (Kd.R_far (p := ⟨gb121, 1, none⟩) (Kd.R_far (p := ⟨gb121, 0, none⟩) (Kd.R_types HO106.out BK121.out (by decide)) (fun _ hk => hk.2) (.int .i64 t116)) (fun _ hk => hk.2) (.int .i64 t117)) (fun _ hk => hk.2) (.int .i64 t118)) (fun _ hk => hk.2) (.int .i64 t119)) (fun _ h_ => h_.1))) hb) (Kd.R_base ho0)) (Kd.R_base ho1)) (Kd.R_base ho2)) (fun _ h_ => h_.1)); have n2_ := Aside0.mk (Kd.R_mono (Kd.R_told (Kd.R_told (Kd.R_told (Kd.R_old (by (with_reducible repeat (first | apply Kd.R_alloc | apply Kd.R_drewN | apply Kd.R_drew)); exact (Kd.R_mono (Kd.R_far (p := ⟨gb121, 3, none⟩) (Kd.R_far (p := ⟨gb121, 2, none⟩) (Kd.R_far (p := ⟨gb121, 1, none⟩) (Kd.R_far (p := ⟨gb121, 0, none⟩) (Kd.R_types HO109.out BK121.out (by decide)) (fun _ hk => hk.2) (.int .i64 t116)) (fun _ hk => hk.2) (.int .i64 t117)) (fun _ hk => hk.2) (.int .i64 t118)) (fun _ hk => hk.2) (.int .i64 t119)) (fun _ h_ => h_.1))) hb) (Kd.R_base ho0)) (Kd.R_base ho1)) (Kd.R_base ho2)) (fun _ h_ => h_.1)); have n3_ := Aside0.mk (Kd.R_below (by (with_reducible repeat (first | apply Kd.R_alloc | apply Kd.R_drewN | apply Kd.R_drew)); exact (Kd.R_mono (Kd.R_far (p := ⟨gb121, 3, none⟩) (Kd.R_far (p := ⟨gb121, 2, none⟩) (Kd.R_far (p := ⟨gb121, 1, none⟩) (Kd.R_far (p := ⟨gb121, 0, none⟩) (Kd.R_types HO115.out BK121.out (by decide)) (fun _ hk => hk.2) (.int .i64 t116)) (fun _ hk => hk.2) (.int .i64 t117)) (fun _ hk => hk.2) (.int .i64 t118)) (fun _ hk => hk.2) (.int .i64 t119)) (fun _ h_ => h_.1))) hb); have n4_ := Aside0.mk (Kd.R_lower (Kd.R_new' (Kd.R_new' (Kd.R_new' ho0 (Kd.R_lt (by (with_reducible repeat (first | apply Kd.R_alloc | apply Kd.R_drewN | apply Kd.R_drew)); exact (Kd.R_mono (Kd.R_far (p := ⟨gb121, 3, none⟩) (Kd.R_far (p := ⟨gb121, 2, none⟩) (Kd.R_far (p := ⟨gb121, 1, none⟩) (Kd.R_far (p := ⟨gb121, 0, none⟩) (Kd.R_types HO103.out BK121.out (by decide)) (fun _ hk => hk.2) (.int .i64 t116)) (fun _ hk => hk.2) (.int .i64 t117)) (fun _ hk => hk.2) (.int .i64 t118)) (fun _ hk => hk.2) (.int .i64 t119)) (fun _ h_ => h_.1))))) (Kd.R_lt (by (with_reducible repeat (first | apply Kd.R_alloc | apply Kd.R_drewN | apply Kd.R_drew)); exact (Kd.R_mono (Kd.R_far (p := ⟨gb121, 3, none⟩) (Kd.R_far (p := ⟨gb121, 2, none⟩) (Kd.R_far (p := ⟨gb121, 1, none⟩) (Kd.R_far (p := ⟨gb121, 0, none⟩) (Kd.R_types HO106.out BK121.out (by decide)) (fun _ hk => hk.2) (.int .i64 t116)) (fun _ hk => hk.2) (.int .i64 t117)) (fun _ hk => hk.2) (.int .i64 t118)) (fun _ hk => hk.2) (.int .i64 t119)) (fun _ h_ => h_.1))))) (Kd.R_lt (by (with_reducible repeat (first | apply Kd.R_alloc | apply Kd.R_drewN | apply Kd.R_drew)); exact (Kd.R_mono (Kd.R_far (p := ⟨gb121, 3, none⟩) (Kd.R_far (p := ⟨gb121, 2, none⟩) (Kd.R_far (p := ⟨gb121, 1, none⟩) (Kd.R_far (p := ⟨gb121, 0, none⟩) (Kd.R_types HO109.out BK121.out (by decide)) (fun _ hk => hk.2) (.int .i64 t116)) (fun _ hk => hk.2) (.int .i64 t117)) (fun _ hk => hk.2) (.int .i64 t118)) (fun _ hk => hk.2) (.int .i64 t119)) (fun _ h_ => h_.1))))) (below_size (by repeat (first | (with_reducible first | exact HB.out | apply below_alloc | apply pw_below_drewN | apply below_drew1 | refine below_set ?_ GE121.out) | exact HB.out)))); have n5_ := Aside0.mk (Kd.R_lower (Kd.R_new' (Kd.R_new' (Kd.R_new' ho1 (Kd.R_lt (by (with_reducible repeat (first | apply Kd.R_alloc | apply Kd.R_drewN | apply Kd.R_drew)); exact (Kd.R_mono (Kd.R_far (p := ⟨gb121, 3, none⟩) (Kd.R_far (p := ⟨gb121, 2, none⟩) (Kd.R_far (p := ⟨gb121, 1, none⟩) (Kd.R_far (p := ⟨gb121, 0, none⟩) (Kd.R_types HO103.out BK121.out (by decide)) (fun _ hk => hk.2) (.int .i64 t116)) (fun _ hk => hk.2) (.int .i64 t117)) (fun _ hk => hk.2) (.int .i64 t118)) (fun _ hk => hk.2) (.int .i64 t119)) (fun _ h_ => h_.1))))) (Kd.R_lt (by (with_reducible repeat (first | apply Kd.R_alloc | apply Kd.R_drewN | apply Kd.R_drew)); exact (Kd.R_mono (Kd.R_far (p := ⟨gb121, 3, none⟩) (Kd.R_far (p := ⟨gb121, 2, none⟩) (Kd.R_far (p := ⟨gb121, 1, none⟩) (Kd.R_far (p := ⟨gb121, 0, none⟩) (Kd.R_types HO106.out BK121.out (by decide)) (fun _ hk => hk.2) (.int .i64 t116)) (fun _ hk => hk.2) (.int .i64 t117)) (fun _ hk => hk.2) (.int .i64 t118)) (fun _ hk => hk.2) (.int .i64 t119)) (fun _ h_ => h_.1))))) (Kd.R_lt (by (with_reducible repeat (first | apply Kd.R_alloc | apply Kd.R_drewN | apply Kd.R_drew)); exact (Kd.R_mono (Kd.R_far (p := ⟨gb121, 3, none⟩) (Kd.R_far (p := ⟨gb121, 2, none⟩) (Kd.R_far (p := ⟨gb121, 1, none⟩) (Kd.R_far (p := ⟨gb121, 0, none⟩) (Kd.R_types HO109.out BK121.out (by decide)) (fun _ hk => hk.2) (.int .i64 t116)) (fun _ hk => hk.2) (.int .i64 t117)) (fun _ hk => hk.2) (.int .i64 t118)) (fun _ hk => hk.2) (.int .i64 t119)) (fun _ h_ => h_.1))))) (below_size (by repeat (first | (with_reducible first | exact HB.out | apply below_alloc | apply pw_below_drewN | apply below_drew1 | refine below_set ?_ GE121.out) | exact HB.out)))); have n6_ := Aside0.mk (Kd.R_lower (Kd.R_new' (Kd.R_new' (Kd.R_new' ho2 (Kd.R_lt (by (with_reducible repeat (first | apply Kd.R_alloc | apply Kd.R_drewN | apply Kd.R_drew)); exact (Kd.R_mono (Kd.R_far (p := ⟨gb121, 3, none⟩) (Kd.R_far (p := ⟨gb121, 2, none⟩) (Kd.R_far (p := ⟨gb121, 1, none⟩) (Kd.R_far (p := ⟨gb121, 0, none⟩) (Kd.R_types HO103.out BK121.out (by decide)) (fun _ hk => hk.2) (.int .i64 t116)) (fun _ hk => hk.2) (.int .i64 t117)) (fun _ hk => hk.2) (.int .i64 t118)) (fun _ hk => hk.2) (.int .i64 t119)) (fun _ h_ => h_.1))))) (Kd.R_lt (by (with_reducible repeat (first | apply Kd.R_alloc | apply Kd.R_drewN | apply Kd.R_drew)); exact (Kd.R_mono (Kd.R_far (p := ⟨gb121, 3, none⟩) (Kd.R_far (p := ⟨gb121, 2, none⟩) (Kd.R_far (p := ⟨gb121, 1, none⟩) (Kd.R_far (p := ⟨gb121, 0, none⟩) (Kd.R_types HO106.out BK121.out (by decide)) (fun _ hk => hk.2) (.int .i64 t116)) (fun _ hk => hk.2) (.int .i64 t117)) (fun _ hk => hk.2) (.int .i64 t118)) (fun _ hk => hk.2) (.int .i64 t119)) (fun _ h_ => h_.1))))) (Kd.R_lt (by (with_reducible repeat (first | apply Kd.R_alloc | apply Kd.R_drewN | apply Kd.R_drew)); exact (Kd.R_mono (Kd.R_far (p := ⟨gb121, 3, none⟩) (Kd.R_far (p := ⟨gb121, 2, none⟩) (Kd.R_far (p := ⟨gb121, 1, none⟩) (Kd.R_far (p := ⟨gb121, 0, none⟩) (Kd.R_types HO109.out BK121.out (by decide)) (fun _ hk => hk.2) (.int .i64 t116)) (fun _ hk => hk.2) (.int .i64 t117)) (fun _ hk => hk.2) (.int .i64 t118)) (fun _ hk => hk.2) (.int .i64 t119)) (fun _ h_ => h_.1))))) (below_size (by repeat (first | (with_reducible first | exact HB.out | apply below_alloc | apply pw_below_drewN | apply below_drew1 | refine below_set ?_ GE121.out) | exact HB.out)))); have n7_ := Aside0.mk (blk_below (g := gb121) (o := .cells #[.int .i64 t116, .int .i64 t117, .int .i64 t118, .int .i64 t119] 29 (0, 0)) (by (with_reducible repeat (first | refine blk_drewN ?_ _ | refine blk_drew ?_ | refine blk_alloc ?_ _)); refine blk_put (cs := #[.int .i64 t116, .int .i64 t117, .int .i64 t118, .int .i64 0]) ?_ 3 _ rfl; (with_reducible repeat (first | refine blk_drewN ?_ _ | refine blk_drew ?_ | refine blk_alloc ?_ _)); refine blk_put (cs := #[.int .i64 t116, .int .i64 t117, .int .i64 0, .int .i64 0]) ?_ 2 _ rfl; (with_reducible repeat (first | refine blk_drewN ?_ _ | refine blk_drew ?_ | refine blk_alloc ?_ _)); refine blk_put (cs := #[.int .i64 t116, .int .i64 0, .int .i64 0, .int .i64 0]) ?_ 1 _ rfl; (with_reducible repeat (first | refine blk_drewN ?_ _ | refine blk_drew ?_ | refine blk_alloc ?_ _)); refine blk_put (cs := #[.int .i64 0, .int .i64 0, .int .i64 0, .int .i64 0]) ?_ 0 _ rfl; (with_reducible repeat (first | refine blk_drewN ?_ _ | refine blk_drew ?_ | refine blk_alloc ?_ _)); exact BK121.out) hb); have n8_ := Aside0.mk (below_step (by repeat (first | (with_reducible first | exact HB.out | apply below_alloc | apply pw_below_drewN | apply below_drew1 | refine below_set ?_ GE121.out) | exact HB.out)) hb); clear HO103; clear HO106; clear HO109; clear HO115; clear BK121; clear HB; have HO103 := n0_; have HO106 := n1_; have HO109 := n2_; have HO115 := n3_; have HO124 := n4_; have HO127 := n5_; have HO130 := n6_; have BK121 := n7_; have HB := n8_; clear n0_ n1_ n2_ n3_ n4_ n5_ n6_ n7_ n8_; (try clear hb); (try clear hb2); (try clear hk); (try clear hi); (try clear ho0); (try clear ho1); (try clear ho2)) | ((with_reducible refine gate_callee (f := 42) rfl ?_); refine goesL_ (some 15) rfl rfl Try.func42 (by kernel_rfl) rfl #[] rfl (by (try simp only [List.map_toArray, List.map_cons, List.map_nil]); first | done | rfl | (simp only [List.length_drop, List.length_take]; rfl)) ?_; (with_reducible refine (goosenecklaw06_Two.calls  t134 _ A5.out).mono ?_); rintro e w22 ⟨v135, rfl, ho0, hb⟩; refine ⟨_, rfl, ?_⟩; have n0_ := Aside0.mk (Kd.R_below (by (with_reducible repeat (first | apply Kd.R_alloc | apply Kd.R_drewN | apply Kd.R_drew)); exact HO103.out) hb); have n1_ := Aside0.mk (Kd.R_below (by (with_reducible repeat (first | apply Kd.R_alloc | apply Kd.R_drewN | apply Kd.R_drew)); exact HO106.out) hb); have n2_ := Aside0.mk (Kd.R_below (by (with_reducible repeat (first | apply Kd.R_alloc | apply Kd.R_drewN | apply Kd.R_drew)); exact HO109.out) hb); have n3_ := Aside0.mk (Kd.R_elder' (by (with_reducible repeat (first | apply Kd.R_alloc | apply Kd.R_drewN | apply Kd.R_drew)); exact HO115.out) (Kd.R_base ho0) hb); have n4_ := Aside0.mk (Kd.R_below (by (with_reducible repeat (first | apply Kd.R_alloc | apply Kd.R_drewN | apply Kd.R_drew)); exact HO124.out) hb); have n5_ := Aside0.mk (Kd.R_below (by (with_reducible repeat (first | apply Kd.R_alloc | apply Kd.R_drewN | apply Kd.R_drew)); exact HO127.out) hb); have n6_ := Aside0.mk (Kd.R_below (by (with_reducible repeat (first | apply Kd.R_alloc | apply Kd.R_drewN | apply Kd.R_drew)); exact HO130.out) hb); have n7_ := Aside0.mk (Kd.R_lower (Kd.R_new' ho0 (Kd.R_lt (by (with_reducible repeat (first | apply Kd.R_alloc | apply Kd.R_drewN | apply Kd.R_drew)); exact HO115.out))) (below_size (by repeat (first | (with_reducible first | exact HB.out | apply below_alloc | apply pw_below_drewN | apply below_drew1 | refine below_set ?_ GE121.out) | exact HB.out)))); have n8_ := Aside0.mk (blk_below (g := gb121) (o := .cells #[.int .i64 t116, .int .i64 t117, .int .i64 t118, .int .i64 t119] 29 (0, 0)) (by (with_reducible repeat (first | refine blk_drewN ?_ _ | refine blk_drew ?_ | refine blk_alloc ?_ _)); exact BK121.out) hb); have n9_ := Aside0.mk (below_step (by repeat (first | (with_reducible first | exact HB.out | apply below_alloc | apply pw_below_drewN | apply below_drew1 | refine below_set ?_ GE121.out) | exact HB.out)) hb); clear HO103; clear HO106; clear HO109; clear HO115; clear HO124; clear HO127; clear HO130; clear BK121; clear HB; have HO103 := n0_; have HO106 := n1_; have HO109 := n2_; have HO115 := n3_; have HO124 := n4_; have HO127 := n5_; have HO130 := n6_; have HO136 := n7_; have BK121 := n8_; have HB := n9_; clear n0_ n1_ n2_ n3_ n4_ n5_ n6_ n7_ n8_ n9_; (try clear hb); (try clear hb2); (try clear hk); (try clear hi); (try clear ho0); obtain ⟨Ao23, co23, eo23⟩ := Kd.R_slice HO124.out; subst eo23; obtain ⟨Ao24, co24, eo24⟩ := Kd.R_slice HO127.out; subst eo24; obtain ⟨Ao25, co25, eo25⟩ := Kd.R_slice HO130.out; subst eo25; obtain ⟨Ao26, co26, eo26⟩ := Kd.R_slice HO136.out; subst eo26) | ((with_reducible refine gate_callee (f := 14) rfl ?_); refine goesL_ (some 16) rfl rfl Try.func14 (by kernel_rfl) rfl #[.agg #[.slice Ao23 t122.length co23, .slice Ao24 t125.length co24, .slice Ao25 t128.length co25, .int .i64 t131, .int .i64 t132, .int .i64 t133], .slice Ao26 t134.length co26, .int .i64 0, .bool false] rfl (by (try simp only [List.map_toArray, List.map_cons, List.map_nil]); first | done | rfl | (simp only [List.length_drop, List.length_take]; rfl)) ?_; (with_reducible refine (bridge_WorstEnd.calls _ _ t122 _ _ t125 _ _ t128 t131 t132 t133 _ _ t134 0 false t137 t138 t139 t140 t141 _ ?side1 ?side2 ?side3 ?side4 ?side5 ?side6 ?side7 ?side8 A6.out).mono ?_); (case side1 => repeat (first | exact (Kd.R_reads' HO124.out).2.2 | (with_reducible refine Kd.C_alloc ?_ _) | (with_reducible refine Kd.C_drewN ?_ _) | (with_reducible refine Kd.C_drew ?_))); (case side2 => exact (Kd.R_reads' HO124.out).2.1); (case side3 => repeat (first | exact (Kd.R_reads' HO127.out).2.2 | (with_reducible refine Kd.C_alloc ?_ _) | (with_reducible refine Kd.C_drewN ?_ _) | (with_reducible refine Kd.C_drew ?_))); (case side4 => exact (Kd.R_reads' HO127.out).2.1); (case side5 => repeat (first | exact (Kd.R_reads' HO130.out).2.2 | (with_reducible refine Kd.C_alloc ?_ _) | (with_reducible refine Kd.C_drewN ?_ _) | (with_reducible refine Kd.C_drew ?_))); (case side6 => exact (Kd.R_reads' HO130.out).2.1); (case side7 => repeat (first | exact (Kd.R_reads' HO136.out).2.2 | (with_reducible refine Kd.C_alloc ?_ _) | (with_reducible refine Kd.C_drewN ?_ _) | (with_reducible refine Kd.C_drew ?_))); (case side8 => exact (Kd.R_reads' HO136.out).2.1); rintro e w27 ⟨rfl, hb⟩; refine ⟨_, rfl, ?_⟩; have n0_ := Aside0.mk (Kd.R_below (by (with_reducible repeat (first | apply Kd.R_alloc | apply Kd.R_drewN | apply Kd.R_drew)); exact HO103.out) hb); have n1_ := Aside0.mk (Kd.R_below (by (with_reducible repeat (first | apply Kd.R_alloc | apply Kd.R_drewN | apply Kd.R_drew)); exact HO106.out) hb); have n2_ := Aside0.mk (Kd.R_below (by (with_reducible repeat (first | apply Kd.R_alloc | apply Kd.R_drewN | apply Kd.R_drew)); exact HO109.out) hb); have n3_ := Aside0.mk (Kd.R_below (by (with_reducible repeat (first | apply Kd.R_alloc | apply Kd.R_drewN | apply Kd.R_drew)); exact HO115.out) hb); have n4_ := Aside0.mk (Kd.R_below (by (with_reducible repeat (first | apply Kd.R_alloc | apply Kd.R_drewN | apply Kd.R_drew)); exact HO124.out) hb); have n5_ := Aside0.mk (Kd.R_below (by (with_reducible repeat (first | apply Kd.R_alloc | apply Kd.R_drewN | apply Kd.R_drew)); exact HO127.out) hb); have n6_ := Aside0.mk (Kd.R_below (by (with_reducible repeat (first | apply Kd.R_alloc | apply Kd.R_drewN | apply Kd.R_drew)); exact HO130.out) hb); have n7_ := Aside0.mk (Kd.R_below (by (with_reducible repeat (first | apply Kd.R_alloc | apply Kd.R_drewN | apply Kd.R_drew)); exact HO136.out) hb); have n8_ := Aside0.mk (blk_below (g := gb121) (o := .cells #[.int .i64 t116, .int .i64 t117, .int .i64 t118, .int .i64 t119] 29 (0, 0)) (by (with_reducible repeat (first | refine blk_drewN ?_ _ | refine blk_drew ?_ | refine blk_alloc ?_ _)); exact BK121.out) hb); have n9_ := Aside0.mk (below_step (by repeat (first | (with_reducible first | exact HB.out | apply below_alloc | apply pw_below_drewN | apply below_drew1 | refine below_set ?_ GE121.out) | exact HB.out)) hb); clear HO103; clear HO106; clear HO109; clear HO115; clear HO124; clear HO127; clear HO130; clear HO136; clear BK121; clear HB; have HO103 := n0_; have HO106 := n1_; have HO109 := n2_; have HO115 := n3_; have HO124 := n4_; have HO127 := n5_; have HO130 := n6_; have HO136 := n7_; have BK121 := n8_; have HB := n9_; clear n0_ n1_ n2_ n3_ n4_ n5_ n6_ n7_ n8_ n9_; (try clear hb); (try clear hb2); (try clear hk); (try clear hi)) | ((with_reducible refine gate_dst (N := 3) rfl ?_); refine box_event ?hg (N := 3) ?hd (cs := #[.int .i64 0, .int .i64 0, .int .i64 0, .int .i64 0]) (t := 29) ?hr ?_; (case hd => rfl); (case hg => rfl); (case hr => first | (go_simp; done) | (go_simp; rfl)); intro gb142 hg w28 hbox hb; have n0_ := Aside0.mk (Kd.R_below (by (with_reducible repeat (first | apply Kd.R_alloc | apply Kd.R_drewN | apply Kd.R_drew)); exact HO103.out) hb); have n1_ := Aside0.mk (Kd.R_below (by (with_reducible repeat (first | apply Kd.R_alloc | apply Kd.R_drewN | apply Kd.R_drew)); exact HO106.out) hb); have n2_ := Aside0.mk (Kd.R_below (by (with_reducible repeat (first | apply Kd.R_alloc | apply Kd.R_drewN | apply Kd.R_drew)); exact HO109.out) hb); have n3_ := Aside0.mk (Kd.R_below (by (with_reducible repeat (first | apply Kd.R_alloc | apply Kd.R_drewN | apply Kd.R_drew)); exact HO115.out) hb); have n4_ := Aside0.mk (Kd.R_below (by (with_reducible repeat (first | apply Kd.R_alloc | apply Kd.R_drewN | apply Kd.R_drew)); exact HO124.out) hb); have n5_ := Aside0.mk (Kd.R_below (by (with_reducible repeat (first | apply Kd.R_alloc | apply Kd.R_drewN | apply Kd.R_drew)); exact HO127.out) hb); have n6_ := Aside0.mk (Kd.R_below (by (with_reducible repeat (first | apply Kd.R_alloc | apply Kd.R_drewN | apply Kd.R_drew)); exact HO130.out) hb); have n7_ := Aside0.mk (Kd.R_below (by (with_reducible repeat (first | apply Kd.R_alloc | apply Kd.R_drewN | apply Kd.R_drew)); exact HO136.out) hb); have n8_ := Aside0.mk (blk_below (g := gb121) (o := .cells #[.int .i64 t116, .int .i64 t117, .int .i64 t118, .int .i64 t119] 29 (0, 0)) (by (with_reducible repeat (first | refine blk_drewN ?_ _ | refine blk_drew ?_ | refine blk_alloc ?_ _)); exact BK121.out) hb); have n9_ := Aside0.mk (below_step (by repeat (first | (with_reducible first | exact HB.out | apply below_alloc | apply pw_below_drewN | apply below_drew1 | refine below_set ?_ GE121.out) | exact HB.out)) hb); have n10_ := Aside0.mk (hbox); have n11_ := Aside0.mk ((by rw [hg]; exact (below_size (by repeat (first | (with_reducible first | exact HB.out | apply below_alloc | apply pw_below_drewN | apply below_drew1 | refine below_set ?_ GE121.out) | exact HB.out))) : w.heap.size ≤ gb142)); have n12_ := Aside0.mk ((by rw [hg]; exact (below_size (by repeat (first | (with_reducible first | exact HB.out | apply below_alloc | apply pw_below_drewN | apply below_drew1 | refine below_set ?_ GE121.out) | exact HB.out))) : w.heap.size ≤ gb142)); have n13_ := Aside0.mk ((by rw [hg]; exact Nat.ne_of_lt (blk_lt (g := gb121) (o := .cells #[.int .i64 t116, .int .i64 t117, .int .i64 t118, .int .i64 t119] 29 (0, 0)) (by (with_reducible repeat (first | refine blk_drewN ?_ _ | refine blk_drew ?_ | refine blk_alloc ?_ _)); exact BK121.out)) : gb121 ≠ gb142)); have n14_ := Aside0.mk ((by rw [hg]; exact Nat.ne_of_gt (blk_lt (g := gb121) (o := .cells #[.int .i64 t116, .int .i64 t117, .int .i64 t118, .int .i64 t119] 29 (0, 0)) (by (with_reducible repeat (first | refine blk_drewN ?_ _ | refine blk_drew ?_ | refine blk_alloc ?_ _)); exact BK121.out)) : gb142 ≠ gb121)); clear HO103; clear HO106; clear HO109; clear HO115; clear HO124; clear HO127; clear HO130; clear HO136; clear BK121; clear HB; have HO103 := n0_; have HO106 := n1_; have HO109 := n2_; have HO115 := n3_; have HO124 := n4_; have HO127 := n5_; have HO130 := n6_; have HO136 := n7_; have BK121 := n8_; have HB := n9_; have BK142 := n10_; have GW142 := n11_; have GE142 := n12_; have NB121_142 := n13_; have NB142_121 := n14_; clear n0_ n1_ n2_ n3_ n4_ n5_ n6_ n7_ n8_ n9_ n10_ n11_ n12_ n13_ n14_; clear hb hbox hg; have hnb29 := NB142_121.out; have hnc29 := NB121_142.out; have hcz30_0 : w28.cell? ⟨gb142, 0, none⟩ = some (.int .i64 0) := (blk_cell BK142.out 0).trans rfl; have hcz30_1 : w28.cell? ⟨gb142, 1, none⟩ = some (.int .i64 0) := (blk_cell BK142.out 1).trans rfl; have hcz30_2 : w28.cell? ⟨gb142, 2, none⟩ = some (.int .i64 0) := (blk_cell BK142.out 2).trans rfl; have hcz30_3 : w28.cell? ⟨gb142, 3, none⟩ = some (.int .i64 0) := (blk_cell BK142.out 3).trans rfl; have hfz30_0 := blk_frozen BK142.out 0; have hfz30_1 := blk_frozen BK142.out 1; have hfz30_2 := blk_frozen BK142.out 2; have hfz30_3 := blk_frozen BK142.out 3) | ((with_reducible refine gate_callee (f := 42) rfl ?_); refine goesL_ (some 21) rfl rfl Try.func42 (by kernel_rfl) rfl #[] rfl (by (try simp only [List.map_toArray, List.map_cons, List.map_nil]); first | done | rfl | (simp only [List.length_drop, List.length_take]; rfl)) ?_; (with_reducible refine (goosenecklaw06_Two.calls  t143 _ A7.out).mono ?_); rintro e w31 ⟨v144, rfl, ho0, hb⟩; refine ⟨_, rfl, ?_⟩; have n0_ := Aside0.mk (Kd.R_below (by (with_reducible repeat (first | apply Kd.R_alloc | apply Kd.R_drewN | apply Kd.R_drew)); exact (Kd.R_mono (Kd.R_far (p := ⟨gb142, 3, none⟩) (Kd.R_far (p := ⟨gb142, 2, none⟩) (Kd.R_far (p := ⟨gb142, 1, none⟩) (Kd.R_far (p := ⟨gb142, 0, none⟩) (Kd.R_types HO103.out BK142.out (by decide)) (fun _ hk => hk.2) (.int .i64 t137)) (fun _ hk => hk.2) (.int .i64 t138)) (fun _ hk => hk.2) (.int .i64 t139)) (fun _ hk => hk.2) (.int .i64 t140)) (fun _ h_ => h_.1))) hb); have n1_ := Aside0.mk (Kd.R_below (by (with_reducible repeat (first | apply Kd.R_alloc | apply Kd.R_drewN | apply Kd.R_drew)); exact (Kd.R_mono (Kd.R_far (p := ⟨gb142, 3, none⟩) (Kd.R_far (p := ⟨gb142, 2, none⟩) (Kd.R_far (p := ⟨gb142, 1, none⟩) (Kd.R_far (p := ⟨gb142, 0, none⟩) (Kd.R_types HO106.out BK142.out (by decide)) (fun _ hk => hk.2) (.int .i64 t137)) (fun _ hk => hk.2) (.int .i64 t138)) (fun _ hk => hk.2) (.int .i64 t139)) (fun _ hk => hk.2) (.int .i64 t140)) (fun _ h_ => h_.1))) hb); have n2_ := Aside0.mk (Kd.R_below (by (with_reducible repeat (first | apply Kd.R_alloc | apply Kd.R_drewN | apply Kd.R_drew)); exact (Kd.R_mono (Kd.R_far (p := ⟨gb142, 3, none⟩) (Kd.R_far (p := ⟨gb142, 2, none⟩) (Kd.R_far (p := ⟨gb142, 1, none⟩) (Kd.R_far (p := ⟨gb142, 0, none⟩) (Kd.R_types HO109.out BK142.out (by decide)) (fun _ hk => hk.2) (.int .i64 t137)) (fun _ hk => hk.2) (.int .i64 t138)) (fun _ hk => hk.2) (.int .i64 t139)) (fun _ hk => hk.2) (.int .i64 t140)) (fun _ h_ => h_.1))) hb); have n3_ := Aside0.mk (Kd.R_elder' (by (with_reducible repeat (first | apply Kd.R_alloc | apply Kd.R_drewN | apply Kd.R_drew)); exact (Kd.R_mono (Kd.R_far (p := ⟨gb142, 3, none⟩) (Kd.R_far (p := ⟨gb142, 2, none⟩) (Kd.R_far (p := ⟨gb142, 1, none⟩) (Kd.R_far (p := ⟨gb142, 0, none⟩) (Kd.R_types HO115.out BK142.out (by decide)) (fun _ hk => hk.2) (.int .i64 t137)) (fun _ hk => hk.2) (.int .i64 t138)) (fun _ hk => hk.2) (.int .i64 t139)) (fun _ hk => hk.2) (.int .i64 t140)) (fun _ h_ => h_.1))) (Kd.R_base ho0) hb); have n4_ := Aside0.mk (Kd.R_below (by (with_reducible repeat (first | apply Kd.R_alloc | apply Kd.R_drewN | apply Kd.R_drew)); exact (Kd.R_mono (Kd.R_far (p := ⟨gb142, 3, none⟩) (Kd.R_far (p := ⟨gb142, 2, none⟩) (Kd.R_far (p := ⟨gb142, 1, none⟩) (Kd.R_far (p := ⟨gb142, 0, none⟩) (Kd.R_types HO124.out BK142.out (by decide)) (fun _ hk => hk.2) (.int .i64 t137)) (fun _ hk => hk.2) (.int .i64 t138)) (fun _ hk => hk.2) (.int .i64 t139)) (fun _ hk => hk.2) (.int .i64 t140)) (fun _ h_ => h_.1))) hb); have n5_ := Aside0.mk (Kd.R_below (by (with_reducible repeat (first | apply Kd.R_alloc | apply Kd.R_drewN | apply Kd.R_drew)); exact (Kd.R_mono (Kd.R_far (p := ⟨gb142, 3, none⟩) (Kd.R_far (p := ⟨gb142, 2, none⟩) (Kd.R_far (p := ⟨gb142, 1, none⟩) (Kd.R_far (p := ⟨gb142, 0, none⟩) (Kd.R_types HO127.out BK142.out (by decide)) (fun _ hk => hk.2) (.int .i64 t137)) (fun _ hk => hk.2) (.int .i64 t138)) (fun _ hk => hk.2) (.int .i64 t139)) (fun _ hk => hk.2) (.int .i64 t140)) (fun _ h_ => h_.1))) hb); have n6_ := Aside0.mk (Kd.R_below (by (with_reducible repeat (first | apply Kd.R_alloc | apply Kd.R_drewN | apply Kd.R_drew)); exact (Kd.R_mono (Kd.R_far (p := ⟨gb142, 3, none⟩) (Kd.R_far (p := ⟨gb142, 2, none⟩) (Kd.R_far (p := ⟨gb142, 1, none⟩) (Kd.R_far (p := ⟨gb142, 0, none⟩) (Kd.R_types HO130.out BK142.out (by decide)) (fun _ hk => hk.2) (.int .i64 t137)) (fun _ hk => hk.2) (.int .i64 t138)) (fun _ hk => hk.2) (.int .i64 t139)) (fun _ hk => hk.2) (.int .i64 t140)) (fun _ h_ => h_.1))) hb); have n7_ := Aside0.mk (Kd.R_elder' (by (with_reducible repeat (first | apply Kd.R_alloc | apply Kd.R_drewN | apply Kd.R_drew)); exact (Kd.R_mono (Kd.R_far (p := ⟨gb142, 3, none⟩) (Kd.R_far (p := ⟨gb142, 2, none⟩) (Kd.R_far (p := ⟨gb142, 1, none⟩) (Kd.R_far (p := ⟨gb142, 0, none⟩) (Kd.R_types HO136.out BK142.out (by decide)) (fun _ hk => hk.2) (.int .i64 t137)) (fun _ hk => hk.2) (.int .i64 t138)) (fun _ hk => hk.2) (.int .i64 t139)) (fun _ hk => hk.2) (.int .i64 t140)) (fun _ h_ => h_.1))) (Kd.R_base ho0) hb); have n8_ := Aside0.mk (Kd.R_lower (Kd.R_new' (Kd.R_new' ho0 (Kd.R_lt (by (with_reducible repeat (first | apply Kd.R_alloc | apply Kd.R_drewN | apply Kd.R_drew)); exact (Kd.R_mono (Kd.R_far (p := ⟨gb142, 3, none⟩) (Kd.R_far (p := ⟨gb142, 2, none⟩) (Kd.R_far (p := ⟨gb142, 1, none⟩) (Kd.R_far (p := ⟨gb142, 0, none⟩) (Kd.R_types HO115.out BK142.out (by decide)) (fun _ hk => hk.2) (.int .i64 t137)) (fun _ hk => hk.2) (.int .i64 t138)) (fun _ hk => hk.2) (.int .i64 t139)) (fun _ hk => hk.2) (.int .i64 t140)) (fun _ h_ => h_.1))))) (Kd.R_lt (by (with_reducible repeat (first | apply Kd.R_alloc | apply Kd.R_drewN | apply Kd.R_drew)); exact (Kd.R_mono (Kd.R_far (p := ⟨gb142, 3, none⟩) (Kd.R_far (p := ⟨gb142, 2, none⟩) (Kd.R_far (p := ⟨gb142, 1, none⟩) (Kd.R_far (p := ⟨gb142, 0, none⟩) (Kd.R_types HO136.out BK142.out (by decide)) (fun _ hk => hk.2) (.int .i64 t137)) (fun _ hk => hk.2) (.int .i64 t138)) (fun _ hk => hk.2) (.int .i64 t139)) (fun _ hk => hk.2) (.int .i64 t140)) (fun _ h_ => h_.1))))) (below_size (by repeat (first | (with_reducible first | exact HB.out | apply below_alloc | apply pw_below_drewN | apply below_drew1 | refine below_set ?_ GE121.out | refine below_set ?_ GE142.out) | exact HB.out)))); have n9_ := Aside0.mk (blk_below (g := gb121) (o := .cells #[.int .i64 t116, .int .i64 t117, .int .i64 t118, .int .i64 t119] 29 (0, 0)) (by (with_reducible repeat (first | refine blk_drewN ?_ _ | refine blk_drew ?_ | refine blk_alloc ?_ _)); refine blk_far ?_ NB121_142.out _; (with_reducible repeat (first | refine blk_drewN ?_ _ | refine blk_drew ?_ | refine blk_alloc ?_ _)); refine blk_far ?_ NB121_142.out _; (with_reducible repeat (first | refine blk_drewN ?_ _ | refine blk_drew ?_ | refine blk_alloc ?_ _)); refine blk_far ?_ NB121_142.out _; (with_reducible repeat (first | refine blk_drewN ?_ _ | refine blk_drew ?_ | refine blk_alloc ?_ _)); refine blk_far ?_ NB121_142.out _; (with_reducible repeat (first | refine blk_drewN ?_ _ | refine blk_drew ?_ | refine blk_alloc ?_ _)); exact BK121.out) hb); have n10_ := Aside0.mk (blk_below (g := gb142) (o := .cells #[.int .i64 t137, .int .i64 t138, .int .i64 t139, .int .i64 t140] 29 (0, 0)) (by (with_reducible repeat (first | refine blk_drewN ?_ _ | refine blk_drew ?_ | refine blk_alloc ?_ _)); refine blk_put (cs := #[.int .i64 t137, .int .i64 t138, .int .i64 t139, .int .i64 0]) ?_ 3 _ rfl; (with_reducible repeat (first | refine blk_drewN ?_ _ | refine blk_drew ?_ | refine blk_alloc ?_ _)); refine blk_put (cs := #[.int .i64 t137, .int .i64 t138, .int .i64 0, .int .i64 0]) ?_ 2 _ rfl; (with_reducible repeat (first | refine blk_drewN ?_ _ | refine blk_drew ?_ | refine blk_alloc ?_ _)); refine blk_put (cs := #[.int .i64 t137, .int .i64 0, .int .i64 0, .int .i64 0]) ?_ 1 _ rfl; (with_reducible repeat (first | refine blk_drewN ?_ _ | refine blk_drew ?_ | refine blk_alloc ?_ _)); refine blk_put (cs := #[.int .i64 0, .int .i64 0, .int .i64 0, .int .i64 0]) ?_ 0 _ rfl; (with_reducible repeat (first | refine blk_drewN ?_ _ | refine blk_drew ?_ | refine blk_alloc ?_ _)); exact BK142.out) hb); have n11_ := Aside0.mk (below_step (by repeat (first | (with_reducible first | exact HB.out | apply below_alloc | apply pw_below_drewN | apply below_drew1 | refine below_set ?_ GE121.out | refine below_set ?_ GE142.out) | exact HB.out)) hb); clear HO103; clear HO106; clear HO109; clear HO115; clear HO124; clear HO127; clear HO130; clear HO136; clear BK121; clear BK142; clear HB; have HO103 := n0_; have HO106 := n1_; have HO109 := n2_; have HO115 := n3_; have HO124 := n4_; have HO127 := n5_; have HO130 := n6_; have HO136 := n7_; have HO145 := n8_; have BK121 := n9_; have BK142 := n10_; have HB := n11_; clear n0_ n1_ n2_ n3_ n4_ n5_ n6_ n7_ n8_ n9_ n10_ n11_; (try clear hb); (try clear hb2); (try clear hk); (try clear hi); (try clear ho0); obtain ⟨Ao32, co32, eo32⟩ := Kd.R_slice HO145.out; subst eo32) | ((with_reducible refine gate_callee (f := 18) rfl ?_); refine goesL_ (some 22) rfl rfl Try.func18 (by kernel_rfl) rfl #[.agg #[.int .i64 10000, .int .i64 1000, .int .i64 4], .slice Ao32 t143.length co32, .int .i64 1] rfl (by (try simp only [List.map_toArray, List.map_cons, List.map_nil]); first | done | rfl | (simp only [List.length_drop, List.length_take]; rfl)) ?_; (with_reducible refine (bridge_Damage.calls k 10000 1000 4 _ _ t143 1 t146 t147 _ ?side1 ?side2 A8.out).mono ?_); (case side1 => repeat (first | exact (Kd.R_reads' HO145.out).2.2 | (with_reducible refine Kd.C_alloc ?_ _) | (with_reducible refine Kd.C_drewN ?_ _) | (with_reducible refine Kd.C_drew ?_))); (case side2 => exact (Kd.R_reads' HO145.out).2.1); rintro e w33 ⟨rfl, hb⟩; refine ⟨_, rfl, ?_⟩; have n0_ := Aside0.mk (Kd.R_below (by (with_reducible repeat (first | apply Kd.R_alloc | apply Kd.R_drewN | apply Kd.R_drew)); exact HO103.out) hb); have n1_ := Aside0.mk (Kd.R_below (by (with_reducible repeat (first | apply Kd.R_alloc | apply Kd.R_drewN | apply Kd.R_drew)); exact HO106.out) hb); have n2_ := Aside0.mk (Kd.R_below (by (with_reducible repeat (first | apply Kd.R_alloc | apply Kd.R_drewN | apply Kd.R_drew)); exact HO109.out) hb); have n3_ := Aside0.mk (Kd.R_below (by (with_reducible repeat (first | apply Kd.R_alloc | apply Kd.R_drewN | apply Kd.R_drew)); exact HO115.out) hb); have n4_ := Aside0.mk (Kd.R_below (by (with_reducible repeat (first | apply Kd.R_alloc | apply Kd.R_drewN | apply Kd.R_drew)); exact HO124.out) hb); have n5_ := Aside0.mk (Kd.R_below (by (with_reducible repeat (first | apply Kd.R_alloc | apply Kd.R_drewN | apply Kd.R_drew)); exact HO127.out) hb); have n6_ := Aside0.mk (Kd.R_below (by (with_reducible repeat (first | apply Kd.R_alloc | apply Kd.R_drewN | apply Kd.R_drew)); exact HO130.out) hb); have n7_ := Aside0.mk (Kd.R_below (by (with_reducible repeat (first | apply Kd.R_alloc | apply Kd.R_drewN | apply Kd.R_drew)); exact HO136.out) hb); have n8_ := Aside0.mk (Kd.R_below (by (with_reducible repeat (first | apply Kd.R_alloc | apply Kd.R_drewN | apply Kd.R_drew)); exact HO145.out) hb); have n9_ := Aside0.mk (blk_below (g := gb121) (o := .cells #[.int .i64 t116, .int .i64 t117, .int .i64 t118, .int .i64 t119] 29 (0, 0)) (by (with_reducible repeat (first | refine blk_drewN ?_ _ | refine blk_drew ?_ | refine blk_alloc ?_ _)); exact BK121.out) hb); have n10_ := Aside0.mk (blk_below (g := gb142) (o := .cells #[.int .i64 t137, .int .i64 t138, .int .i64 t139, .int .i64 t140] 29 (0, 0)) (by (with_reducible repeat (first | refine blk_drewN ?_ _ | refine blk_drew ?_ | refine blk_alloc ?_ _)); exact BK142.out) hb); have n11_ := Aside0.mk (below_step (by repeat (first | (with_reducible first | exact HB.out | apply below_alloc | apply pw_below_drewN | apply below_drew1 | refine below_set ?_ GE121.out | refine below_set ?_ GE142.out) | exact HB.out)) hb); clear HO103; clear HO106; clear HO109; clear HO115; clear HO124; clear HO127; clear HO130; clear HO136; clear HO145; clear BK121; clear BK142; clear HB; have HO103 := n0_; have HO106 := n1_; have HO109 := n2_; have HO115 := n3_; have HO124 := n4_; have HO127 := n5_; have HO130 := n6_; have HO136 := n7_; have HO145 := n8_; have BK121 := n9_; have BK142 := n10_; have HB := n11_; clear n0_ n1_ n2_ n3_ n4_ n5_ n6_ n7_ n8_ n9_ n10_ n11_; (try clear hb); (try clear hb2); (try clear hk); (try clear hi); have hcz34_0 : w33.cell? ⟨gb121, 0, none⟩ = some (.int .i64 t116) := (blk_cell BK121.out 0).trans rfl; have hcz34_1 : w33.cell? ⟨gb121, 1, none⟩ = some (.int .i64 t117) := (blk_cell BK121.out 1).trans rfl; have hcz34_2 : w33.cell? ⟨gb121, 2, none⟩ = some (.int .i64 t118) := (blk_cell BK121.out 2).trans rfl; have hcz34_3 : w33.cell? ⟨gb121, 3, none⟩ = some (.int .i64 t119) := (blk_cell BK121.out 3).trans rfl; have hfz34_0 := blk_frozen BK121.out 0; have hfz34_1 := blk_frozen BK121.out 1; have hfz34_2 := blk_frozen BK121.out 2; have hfz34_3 := blk_frozen BK121.out 3; have hcz35_0 : w33.cell? ⟨gb142, 0, none⟩ = some (.int .i64 t137) := (blk_cell BK142.out 0).trans rfl; have hcz35_1 : w33.cell? ⟨gb142, 1, none⟩ = some (.int .i64 t138) := (blk_cell BK142.out 1).trans rfl; have hcz35_2 : w33.cell? ⟨gb142, 2, none⟩ = some (.int .i64 t139) := (blk_cell BK142.out 2).trans rfl; have hcz35_3 : w33.cell? ⟨gb142, 3, none⟩ = some (.int .i64 t140) := (blk_cell BK142.out 3).trans rfl; have hfz35_0 := blk_frozen BK142.out 0; have hfz35_1 := blk_frozen BK142.out 1; have hfz35_2 := blk_frozen BK142.out 2; have hfz35_3 := blk_frozen BK142.out 3))
    go_ret
    exact ⟨by first | rfl | (simp [errW_none, errW_some] <;> rfl) | (simp [*, errW_none, errW_some] <;> rfl), by repeat (first | (with_reducible first | exact HB.out | apply below_alloc | apply pw_below_drewN | apply below_drew1 | refine below_set ?_ GE121.out | refine below_set ?_ GE142.out) | exact HB.out)⟩
   ·rw [if_neg c11] at H
    have c11b0 : (t137 == 456000000 && (t138 == 0 && (t139 == 0 && (t140 == 2000)))) = false := by simpa using c11
    (try (have c11b1 : decide (t137 = 456000000 && (t138 == 0 && (t139 == 0 && (t140 == 2000)))) = false := by simpa using c11))
    (try (have c11b2 : (t137 == 456000000 && (t138 == 0 && (t139 == 0 && (t140 == 2000)))) = false := by simpa using c11))
    (try (have c11b3 : ¬ (t137 = 456000000 && (t138 == 0 && (t139 == 0 && (t140 == 2000)))) := by simpa using c11))
    clear c11
    rw [hr_.out] at H
    exact absurd H (by simp)
  ·rw [if_neg c10] at H
   have c10b0 : (t116 == 2160000000000 && (t117 == 0 && (t118 == 10000 && (t119 == 10000)))) = false := by simpa using c10
   (try (have c10b1 : decide (t116 = 2160000000000 && (t117 == 0 && (t118 == 10000 && (t119 == 10000)))) = false := by simpa using c10))
   (try (have c10b2 : (t116 == 2160000000000 && (t117 == 0 && (t118 == 10000 && (t119 == 10000)))) = false := by simpa using c10))
   (try (have c10b3 : ¬ (t116 = 2160000000000 && (t117 == 0 && (t118 == 10000 && (t119 == 10000)))) := by simpa using c10))
   clear c10
   rw [hr_.out] at H
   exact absurd H (by simp)
 ·rw [if_neg c9] at H
  have c9b0 : ((wrap64 ((wrap64 (t120 + t141)) + t147)) == 0) = false := beq_eq_false_iff_ne.mpr c9
  have c9b1 : ((wrap64 ((wrap64 (t120 + t141)) + t147)) != 0) = true := bne_iff_ne.mpr c9
  rw [hr_.out] at H
  exact absurd H (by simp)
end Go.Proofs.Ytiklpefckadgdaa.P
namespace Go.Proofs.Ytiklpefckadgdaa.P
open Go.RowKit Go.Proofs.YtiklpefckadgdaaW.PrintWords Go.Proofs.YtiklpefckadgdaaW.PrintLast Go.Proofs.YtiklpefckadgdaaW.PrintMore
theorem two_span : (limO fun n => bridge_span.f n [20000, 10000] [200000, 100000] [60000, 50000] 200 2 500 [⟨0, 12000⟩, ⟨2000, 12000⟩] 0) = some 0 :=
 limO_ev (fun n => bridge_span.mono _ _ _ _ _ _ _ _ n) (Ev.of (fun n => bridge_span.mono _ _ _ _ _ _ _ _ n) (k := 40) (by decide +kernel))
theorem known_moment : bridge_WorstMoment.f [20000, 10000] [200000, 100000] [60000, 50000] 200 2 500 [⟨0, 12000⟩, ⟨2000, 12000⟩] 0 10000 = some (2160000000000, 0, 10000, 10000, 0) := by
 unfold bridge_WorstMoment.f
 rw [two_span]
 decide +kernel
theorem known_end : bridge_WorstEnd.f [20000, 10000] [200000, 100000] [60000, 50000] 200 2 500 [⟨0, 12000⟩, ⟨2000, 12000⟩] 0 false = some (456000000, 0, 0, 2000, 0) := by
 unfold bridge_WorstEnd.f
 rw [two_span]
 decide +kernel
theorem known_damage : Ev (fun k => bridge_Damage.f k 10000 1000 4 [⟨0, 12000⟩, ⟨2000, 12000⟩] 1) (4148, 0) := Ev.of (fun n => bridge_Damage.mono _ _ _ _ _ n) (k := 40) (by decide +kernel)
theorem known_ev : Ev (fun k => goosenecklaw06_known.f k) true := by
 unfold goosenecklaw06_known.f
 simp only [goosenecklaw06_Example.f, goosenecklaw06_Two.f, Option.bind_some, known_moment, known_end]
 refine Ev.bind known_damage ?_
 exact Ev.congr (f := fun _ => some true) (fun k => by decide +kernel) (Ev.now true)
theorem goosenecklaw06_known_true : ∃ k, goosenecklaw06_known.f k = some true := Ev.rounds known_ev
end Go.Proofs.Ytiklpefckadgdaa.P
noncomputable section
namespace Go.Proofs.Ytiklpefckadgdaa.P
open Go.RowKit Go.Proofs.YtiklpefckadgdaaW.PrintWords Go.Proofs.YtiklpefckadgdaaW.PrintLast Go.Proofs.YtiklpefckadgdaaW.PrintMore
attribute [local go_sem] max2_int min2_int max_two min_two max_three min_three max_four min_four   -- for this text's walks alone
set_option linter.unusedVariables false
set_option linter.unusedSimpArgs false
theorem goosenecklaw06_known.calls (k : Nat) (r : Bool) (w : World) (h : goosenecklaw06_known.f k = some r) :
  Calls Try.prog 12 #[] w fun e w' => e = .returned (.bool r) ∧ Below w.heap.size w w' := by
 obtain ⟨q, h1⟩ := goosenecklaw06_known_true
 have h2 := at_rounds goosenecklaw06_known.mono (Nat.le_max_left k q) h
 have h3 := at_rounds goosenecklaw06_known.mono (Nat.le_max_right k q) h1
 have hr : r = true := Option.some.inj (h2.symm.trans h3)
 exact goosenecklaw06_known.callsT k r w ⟨hr⟩ h
end Go.Proofs.Ytiklpefckadgdaa.P
noncomputable section
namespace Go.Proofs.Ytiklpefckadgdaa.P
open Go.RowKit Go.Proofs.YtiklpefckadgdaaW.PrintWords Go.Proofs.YtiklpefckadgdaaW.PrintLast Go.Proofs.YtiklpefckadgdaaW.PrintMore
attribute [local go_sem] max2_int min2_int max_two min_two max_three min_three max_four min_four   -- for this text's walks alone
set_option linter.unusedVariables false
set_option linter.unusedSimpArgs false
def goosenecklaw06_much.f (l0_0 : List Int) (l0_1 : List Int) (l0_2 : List Int) (a0_3 : Int) (a0_4 : Int) (a0_5 : Int) (l1 : List (S35)) : Option (Bool) := if (l0_0.length : Int) > 3 then (if (l0_0.length : Int) ≤ 6 then (some true) else (if (l1.length : Int) > 16 then (some (decide ((l1.length : Int) ≤ 64))) else (some false))) else (if (l1.length : Int) > 16 then (some (decide ((l1.length : Int) ≤ 64))) else (some false))
set_option maxHeartbeats 8000000 in
set_option maxRecDepth 100000 in
theorem goosenecklaw06_much.calls (A0_0 : Option Addr) (c0_0 : Nat) (l0_0 : List Int) (A0_1 : Option Addr) (c0_1 : Nat) (l0_1 : List Int) (A0_2 : Option Addr) (c0_2 : Nat) (l0_2 : List Int) (a0_3 : Int) (a0_4 : Int) (a0_5 : Int) (A1 : Option Addr) (c1 : Nat) (l1 : List (S35)) (r : Bool) (w : World) (hr0_0 : Kd.C (Kd.int .i64) w A0_0 l0_0.length l0_0) (hc0_0 : l0_0.length ≤ c0_0) (hr0_1 : Kd.C (Kd.int .i64) w A0_1 l0_1.length l0_1) (hc0_1 : l0_1.length ≤ c0_1) (hr0_2 : Kd.C (Kd.int .i64) w A0_2 l0_2.length l0_2) (hc0_2 : l0_2.length ≤ c0_2) (hr1 : Kd.C k35 w A1 l1.length l1) (hc1 : l1.length ≤ c1) (h : goosenecklaw06_much.f l0_0 l0_1 l0_2 a0_3 a0_4 a0_5 l1 = some r) :
  Calls Try.prog 26 #[.agg #[.slice A0_0 l0_0.length c0_0, .slice A0_1 l0_1.length c0_1, .slice A0_2 l0_2.length c0_2, .int .i64 a0_3, .int .i64 a0_4, .int .i64 a0_5], .slice A1 l1.length c1] w fun e w' => e = .returned (.bool r) ∧ Below w.heap.size w w' := by
 have hu24 := Try.underlying24
 have HR0_0 := Aside0.mk hr0_0
 have HC0_0 := Aside0.mk hc0_0
 clear hr0_0 hc0_0
 have HR0_1 := Aside0.mk hr0_1
 have HC0_1 := Aside0.mk hc0_1
 clear hr0_1 hc0_1
 have HR0_2 := Aside0.mk hr0_2
 have HC0_2 := Aside0.mk hc0_2
 clear hr0_2 hc0_2
 have HR1 := Aside0.mk hr1
 have HC1 := Aside0.mk hc1
 clear hr1 hc1
 have HB := Aside0.mk (Below.refl w.heap.size w)
 have H : (if (l0_0.length : Int) > 3 then (if (l0_0.length : Int) ≤ 6 then (some true) else (if (l1.length : Int) > 16 then (some (decide ((l1.length : Int) ≤ 64))) else (some false))) else (if (l1.length : Int) > 16 then (some (decide ((l1.length : Int) ≤ 64))) else (some false))) = some r := h
 clear h
 by_cases c3 : (l0_0.length : Int) > 3
 ·rw [if_pos c3] at H
  have c3b0 : decide (3 < (l0_0.length : Int)) = true := decide_eq_true c3
  have c3b1 : decide (3 < l0_0.length) = true := decide_eq_true (by omega)
  clear c3
  by_cases c4 : (l0_0.length : Int) ≤ 6
  ·rw [if_pos c4] at H
   have c4b0 : decide ((l0_0.length : Int) ≤ 6) = true := decide_eq_true c4
   have c4b1 : decide (l0_0.length ≤ 6) = true := decide_eq_true (by omega)
   clear c4
   obtain rfl := Option.some.inj H
   go_enter Try.func26, Try.ntmps26
   go_wp2_with (first | ((with_reducible refine gate_dst (N := 2) rfl ?_); (try (refine gate_guard (by rfl) ?_; dsimp only)); refine box_event ?hg (N := 2) ?hd (cs := #[.slice A0_0 l0_0.length c0_0, .slice A0_1 l0_1.length c0_1, .slice A0_2 l0_2.length c0_2, .int .i64 a0_3, .int .i64 a0_4, .int .i64 a0_5]) (t := 24) ?hr ?_; (case hd => rfl); (case hg => rfl); (case hr => first | (go_simp; done) | (go_simp; rfl)); intro gb101 hg w5 hbox hb; have n0_ := Aside0.mk (below_step (by repeat (first | (with_reducible first | exact HB.out | apply below_alloc | apply pw_below_drewN | apply below_drew1) | exact HB.out)) hb); have n1_ := Aside0.mk (hbox); have n2_ := Aside0.mk ((by rw [hg]; exact (below_size (by repeat (first | (with_reducible first | exact HB.out | apply below_alloc | apply pw_below_drewN | apply below_drew1) | exact HB.out))) : w.heap.size ≤ gb101)); have n3_ := Aside0.mk ((by rw [hg]; exact (below_size (by repeat (first | (with_reducible first | exact HB.out | apply below_alloc | apply pw_below_drewN | apply below_drew1) | exact HB.out))) : w.heap.size ≤ gb101)); clear HB; have HB := n0_; have BK101 := n1_; have GW101 := n2_; have GE101 := n3_; clear n0_ n1_ n2_ n3_; clear hb hbox hg; have hcz6_0 : w5.cell? ⟨gb101, 0, none⟩ = some (.slice A0_0 l0_0.length c0_0) := (blk_cell BK101.out 0).trans rfl; have hcz6_1 : w5.cell? ⟨gb101, 1, none⟩ = some (.slice A0_1 l0_1.length c0_1) := (blk_cell BK101.out 1).trans rfl; have hcz6_2 : w5.cell? ⟨gb101, 2, none⟩ = some (.slice A0_2 l0_2.length c0_2) := (blk_cell BK101.out 2).trans rfl; have hcz6_3 : w5.cell? ⟨gb101, 3, none⟩ = some (.int .i64 a0_3) := (blk_cell BK101.out 3).trans rfl; have hcz6_4 : w5.cell? ⟨gb101, 4, none⟩ = some (.int .i64 a0_4) := (blk_cell BK101.out 4).trans rfl; have hcz6_5 : w5.cell? ⟨gb101, 5, none⟩ = some (.int .i64 a0_5) := (blk_cell BK101.out 5).trans rfl; have hfz6_0 := blk_frozen BK101.out 0; have hfz6_1 := blk_frozen BK101.out 1; have hfz6_2 := blk_frozen BK101.out 2; have hfz6_3 := blk_frozen BK101.out 3; have hfz6_4 := blk_frozen BK101.out 4; have hfz6_5 := blk_frozen BK101.out 5))
   go_ret
   exact ⟨by first | rfl | (simp [errW_none, errW_some] <;> rfl) | (simp [*, errW_none, errW_some] <;> rfl), by repeat (first | (with_reducible first | exact HB.out | apply below_alloc | apply pw_below_drewN | apply below_drew1 | refine below_set ?_ GE101.out) | exact HB.out)⟩
  ·rw [if_neg c4] at H
   have c4b0 : decide ((l0_0.length : Int) ≤ 6) = false := decide_eq_false c4
   have c4b1 : decide (l0_0.length ≤ 6) = false := decide_eq_false (by omega)
   clear c4
   by_cases c7 : (l1.length : Int) > 16
   ·rw [if_pos c7] at H
    have c7b0 : decide (16 < (l1.length : Int)) = true := decide_eq_true c7
    have c7b1 : decide (16 < l1.length) = true := decide_eq_true (by omega)
    clear c7
    obtain rfl := Option.some.inj H
    go_enter Try.func26, Try.ntmps26
    go_wp2_with (first | ((with_reducible refine gate_dst (N := 2) rfl ?_); (try (refine gate_guard (by rfl) ?_; dsimp only)); refine box_event ?hg (N := 2) ?hd (cs := #[.slice A0_0 l0_0.length c0_0, .slice A0_1 l0_1.length c0_1, .slice A0_2 l0_2.length c0_2, .int .i64 a0_3, .int .i64 a0_4, .int .i64 a0_5]) (t := 24) ?hr ?_; (case hd => rfl); (case hg => rfl); (case hr => first | (go_simp; done) | (go_simp; rfl)); intro gb101 hg w8 hbox hb; have n0_ := Aside0.mk (below_step (by repeat (first | (with_reducible first | exact HB.out | apply below_alloc | apply pw_below_drewN | apply below_drew1) | exact HB.out)) hb); have n1_ := Aside0.mk (hbox); have n2_ := Aside0.mk ((by rw [hg]; exact (below_size (by repeat (first | (with_reducible first | exact HB.out | apply below_alloc | apply pw_below_drewN | apply below_drew1) | exact HB.out))) : w.heap.size ≤ gb101)); have n3_ := Aside0.mk ((by rw [hg]; exact (below_size (by repeat (first | (with_reducible first | exact HB.out | apply below_alloc | apply pw_below_drewN | apply below_drew1) | exact HB.out))) : w.heap.size ≤ gb101)); clear HB; have HB := n0_; have BK101 := n1_; have GW101 := n2_; have GE101 := n3_; clear n0_ n1_ n2_ n3_; clear hb hbox hg; have hcz9_0 : w8.cell? ⟨gb101, 0, none⟩ = some (.slice A0_0 l0_0.length c0_0) := (blk_cell BK101.out 0).trans rfl; have hcz9_1 : w8.cell? ⟨gb101, 1, none⟩ = some (.slice A0_1 l0_1.length c0_1) := (blk_cell BK101.out 1).trans rfl; have hcz9_2 : w8.cell? ⟨gb101, 2, none⟩ = some (.slice A0_2 l0_2.length c0_2) := (blk_cell BK101.out 2).trans rfl; have hcz9_3 : w8.cell? ⟨gb101, 3, none⟩ = some (.int .i64 a0_3) := (blk_cell BK101.out 3).trans rfl; have hcz9_4 : w8.cell? ⟨gb101, 4, none⟩ = some (.int .i64 a0_4) := (blk_cell BK101.out 4).trans rfl; have hcz9_5 : w8.cell? ⟨gb101, 5, none⟩ = some (.int .i64 a0_5) := (blk_cell BK101.out 5).trans rfl; have hfz9_0 := blk_frozen BK101.out 0; have hfz9_1 := blk_frozen BK101.out 1; have hfz9_2 := blk_frozen BK101.out 2; have hfz9_3 := blk_frozen BK101.out 3; have hfz9_4 := blk_frozen BK101.out 4; have hfz9_5 := blk_frozen BK101.out 5))
    go_ret
    exact ⟨by first | rfl | (simp [errW_none, errW_some] <;> rfl) | (simp [*, errW_none, errW_some] <;> rfl), by repeat (first | (with_reducible first | exact HB.out | apply below_alloc | apply pw_below_drewN | apply below_drew1 | refine below_set ?_ GE101.out) | exact HB.out)⟩
   ·rw [if_neg c7] at H
    have c7b0 : decide (16 < (l1.length : Int)) = false := decide_eq_false c7
    have c7b1 : decide (16 < l1.length) = false := decide_eq_false (by omega)
    clear c7
    obtain rfl := Option.some.inj H
    go_enter Try.func26, Try.ntmps26
    go_wp2_with (first | ((with_reducible refine gate_dst (N := 2) rfl ?_); (try (refine gate_guard (by rfl) ?_; dsimp only)); refine box_event ?hg (N := 2) ?hd (cs := #[.slice A0_0 l0_0.length c0_0, .slice A0_1 l0_1.length c0_1, .slice A0_2 l0_2.length c0_2, .int .i64 a0_3, .int .i64 a0_4, .int .i64 a0_5]) (t := 24) ?hr ?_; (case hd => rfl); (case hg => rfl); (case hr => first | (go_simp; done) | (go_simp; rfl)); intro gb101 hg w10 hbox hb; have n0_ := Aside0.mk (below_step (by repeat (first | (with_reducible first | exact HB.out | apply below_alloc | apply pw_below_drewN | apply below_drew1) | exact HB.out)) hb); have n1_ := Aside0.mk (hbox); have n2_ := Aside0.mk ((by rw [hg]; exact (below_size (by repeat (first | (with_reducible first | exact HB.out | apply below_alloc | apply pw_below_drewN | apply below_drew1) | exact HB.out))) : w.heap.size ≤ gb101)); have n3_ := Aside0.mk ((by rw [hg]; exact (below_size (by repeat (first | (with_reducible first | exact HB.out | apply below_alloc | apply pw_below_drewN | apply below_drew1) | exact HB.out))) : w.heap.size ≤ gb101)); clear HB; have HB := n0_; have BK101 := n1_; have GW101 := n2_; have GE101 := n3_; clear n0_ n1_ n2_ n3_; clear hb hbox hg; have hcz11_0 : w10.cell? ⟨gb101, 0, none⟩ = some (.slice A0_0 l0_0.length c0_0) := (blk_cell BK101.out 0).trans rfl; have hcz11_1 : w10.cell? ⟨gb101, 1, none⟩ = some (.slice A0_1 l0_1.length c0_1) := (blk_cell BK101.out 1).trans rfl; have hcz11_2 : w10.cell? ⟨gb101, 2, none⟩ = some (.slice A0_2 l0_2.length c0_2) := (blk_cell BK101.out 2).trans rfl; have hcz11_3 : w10.cell? ⟨gb101, 3, none⟩ = some (.int .i64 a0_3) := (blk_cell BK101.out 3).trans rfl; have hcz11_4 : w10.cell? ⟨gb101, 4, none⟩ = some (.int .i64 a0_4) := (blk_cell BK101.out 4).trans rfl; have hcz11_5 : w10.cell? ⟨gb101, 5, none⟩ = some (.int .i64 a0_5) := (blk_cell BK101.out 5).trans rfl; have hfz11_0 := blk_frozen BK101.out 0; have hfz11_1 := blk_frozen BK101.out 1; have hfz11_2 := blk_frozen BK101.out 2; have hfz11_3 := blk_frozen BK101.out 3; have hfz11_4 := blk_frozen BK101.out 4; have hfz11_5 := blk_frozen BK101.out 5))
    go_ret
    exact ⟨by first | rfl | (simp [errW_none, errW_some] <;> rfl) | (simp [*, errW_none, errW_some] <;> rfl), by repeat (first | (with_reducible first | exact HB.out | apply below_alloc | apply pw_below_drewN | apply below_drew1 | refine below_set ?_ GE101.out) | exact HB.out)⟩
 ·rw [if_neg c3] at H
  have c3b0 : decide (3 < (l0_0.length : Int)) = false := decide_eq_false c3
  have c3b1 : decide (3 < l0_0.length) = false := decide_eq_false (by omega)
  clear c3
  by_cases c12 : (l1.length : Int) > 16
  ·rw [if_pos c12] at H
   have c12b0 : decide (16 < (l1.length : Int)) = true := decide_eq_true c12
   have c12b1 : decide (16 < l1.length) = true := decide_eq_true (by omega)
   clear c12
   obtain rfl := Option.some.inj H
   go_enter Try.func26, Try.ntmps26
   go_wp2_with (first | ((with_reducible refine gate_dst (N := 2) rfl ?_); (try (refine gate_guard (by rfl) ?_; dsimp only)); refine box_event ?hg (N := 2) ?hd (cs := #[.slice A0_0 l0_0.length c0_0, .slice A0_1 l0_1.length c0_1, .slice A0_2 l0_2.length c0_2, .int .i64 a0_3, .int .i64 a0_4, .int .i64 a0_5]) (t := 24) ?hr ?_; (case hd => rfl); (case hg => rfl); (case hr => first | (go_simp; done) | (go_simp; rfl)); intro gb101 hg w13 hbox hb; have n0_ := Aside0.mk (below_step (by repeat (first | (with_reducible first | exact HB.out | apply below_alloc | apply pw_below_drewN | apply below_drew1) | exact HB.out)) hb); have n1_ := Aside0.mk (hbox); have n2_ := Aside0.mk ((by rw [hg]; exact (below_size (by repeat (first | (with_reducible first | exact HB.out | apply below_alloc | apply pw_below_drewN | apply below_drew1) | exact HB.out))) : w.heap.size ≤ gb101)); have n3_ := Aside0.mk ((by rw [hg]; exact (below_size (by repeat (first | (with_reducible first | exact HB.out | apply below_alloc | apply pw_below_drewN | apply below_drew1) | exact HB.out))) : w.heap.size ≤ gb101)); clear HB; have HB := n0_; have BK101 := n1_; have GW101 := n2_; have GE101 := n3_; clear n0_ n1_ n2_ n3_; clear hb hbox hg; have hcz14_0 : w13.cell? ⟨gb101, 0, none⟩ = some (.slice A0_0 l0_0.length c0_0) := (blk_cell BK101.out 0).trans rfl; have hcz14_1 : w13.cell? ⟨gb101, 1, none⟩ = some (.slice A0_1 l0_1.length c0_1) := (blk_cell BK101.out 1).trans rfl; have hcz14_2 : w13.cell? ⟨gb101, 2, none⟩ = some (.slice A0_2 l0_2.length c0_2) := (blk_cell BK101.out 2).trans rfl; have hcz14_3 : w13.cell? ⟨gb101, 3, none⟩ = some (.int .i64 a0_3) := (blk_cell BK101.out 3).trans rfl; have hcz14_4 : w13.cell? ⟨gb101, 4, none⟩ = some (.int .i64 a0_4) := (blk_cell BK101.out 4).trans rfl; have hcz14_5 : w13.cell? ⟨gb101, 5, none⟩ = some (.int .i64 a0_5) := (blk_cell BK101.out 5).trans rfl; have hfz14_0 := blk_frozen BK101.out 0; have hfz14_1 := blk_frozen BK101.out 1; have hfz14_2 := blk_frozen BK101.out 2; have hfz14_3 := blk_frozen BK101.out 3; have hfz14_4 := blk_frozen BK101.out 4; have hfz14_5 := blk_frozen BK101.out 5))
   go_ret
   exact ⟨by first | rfl | (simp [errW_none, errW_some] <;> rfl) | (simp [*, errW_none, errW_some] <;> rfl), by repeat (first | (with_reducible first | exact HB.out | apply below_alloc | apply pw_below_drewN | apply below_drew1 | refine below_set ?_ GE101.out) | exact HB.out)⟩
  ·rw [if_neg c12] at H
   have c12b0 : decide (16 < (l1.length : Int)) = false := decide_eq_false c12
   have c12b1 : decide (16 < l1.length) = false := decide_eq_false (by omega)
   clear c12
   obtain rfl := Option.some.inj H
   go_enter Try.func26, Try.ntmps26
   go_wp2_with (first | ((with_reducible refine gate_dst (N := 2) rfl ?_); (try (refine gate_guard (by rfl) ?_; dsimp only)); refine box_event ?hg (N := 2) ?hd (cs := #[.slice A0_0 l0_0.length c0_0, .slice A0_1 l0_1.length c0_1, .slice A0_2 l0_2.length c0_2, .int .i64 a0_3, .int .i64 a0_4, .int .i64 a0_5]) (t := 24) ?hr ?_; (case hd => rfl); (case hg => rfl); (case hr => first | (go_simp; done) | (go_simp; rfl)); intro gb101 hg w15 hbox hb; have n0_ := Aside0.mk (below_step (by repeat (first | (with_reducible first | exact HB.out | apply below_alloc | apply pw_below_drewN | apply below_drew1) | exact HB.out)) hb); have n1_ := Aside0.mk (hbox); have n2_ := Aside0.mk ((by rw [hg]; exact (below_size (by repeat (first | (with_reducible first | exact HB.out | apply below_alloc | apply pw_below_drewN | apply below_drew1) | exact HB.out))) : w.heap.size ≤ gb101)); have n3_ := Aside0.mk ((by rw [hg]; exact (below_size (by repeat (first | (with_reducible first | exact HB.out | apply below_alloc | apply pw_below_drewN | apply below_drew1) | exact HB.out))) : w.heap.size ≤ gb101)); clear HB; have HB := n0_; have BK101 := n1_; have GW101 := n2_; have GE101 := n3_; clear n0_ n1_ n2_ n3_; clear hb hbox hg; have hcz16_0 : w15.cell? ⟨gb101, 0, none⟩ = some (.slice A0_0 l0_0.length c0_0) := (blk_cell BK101.out 0).trans rfl; have hcz16_1 : w15.cell? ⟨gb101, 1, none⟩ = some (.slice A0_1 l0_1.length c0_1) := (blk_cell BK101.out 1).trans rfl; have hcz16_2 : w15.cell? ⟨gb101, 2, none⟩ = some (.slice A0_2 l0_2.length c0_2) := (blk_cell BK101.out 2).trans rfl; have hcz16_3 : w15.cell? ⟨gb101, 3, none⟩ = some (.int .i64 a0_3) := (blk_cell BK101.out 3).trans rfl; have hcz16_4 : w15.cell? ⟨gb101, 4, none⟩ = some (.int .i64 a0_4) := (blk_cell BK101.out 4).trans rfl; have hcz16_5 : w15.cell? ⟨gb101, 5, none⟩ = some (.int .i64 a0_5) := (blk_cell BK101.out 5).trans rfl; have hfz16_0 := blk_frozen BK101.out 0; have hfz16_1 := blk_frozen BK101.out 1; have hfz16_2 := blk_frozen BK101.out 2; have hfz16_3 := blk_frozen BK101.out 3; have hfz16_4 := blk_frozen BK101.out 4; have hfz16_5 := blk_frozen BK101.out 5))
   go_ret
   exact ⟨by first | rfl | (simp [errW_none, errW_some] <;> rfl) | (simp [*, errW_none, errW_some] <;> rfl), by repeat (first | (with_reducible first | exact HB.out | apply below_alloc | apply pw_below_drewN | apply below_drew1 | refine below_set ?_ GE101.out) | exact HB.out)⟩
end Go.Proofs.Ytiklpefckadgdaa.P
namespace Go.Proofs.Ytiklpefckadgdaa.P
open Go.RowKit Go.Proofs.YtiklpefckadgdaaW.PrintWords Go.Proofs.YtiklpefckadgdaaW.PrintLast Go.Proofs.YtiklpefckadgdaaW.PrintMore
theorem w64 {x : Int} (h0 : -9223372036854775808 ≤ x) (h1 : x ≤ 9223372036854775807) : wrap64 x = x := by unfold wrap64; omega
def inR (x lo hi : Int) : Bool := decide (lo ≤ x) && decide (x ≤ hi)
theorem inR_iff {x lo hi : Int} : inR x lo hi = true ↔ lo ≤ x ∧ x ≤ hi := by simp [inR]
theorem between_eq (x lo hi : Int) : bridge_between.f x lo hi = some (inR x lo hi) := by
 unfold bridge_between.f inR; split <;> rename_i h
 ·have : lo ≤ x := h
  simp [this]
 ·have : ¬ lo ≤ x := h
  simp [this]
def trainOk : Int → Bool → List S35 → Bool
 | _, _, [] => true
 | last, first, x :: r => decide (last ≤ x.f0) && (decide (x.f0 ≤ 262144) && ((!first || decide (x.f0 = 0)) && (inR x.f1 0 1048576 && trainOk x.f0 false r)))
def errT (l : List S35) : Int := if (l.length : Int) < 1 ∨ (l.length : Int) > 64 then 6 else if trainOk 0 true l = true then 0 else 2
theorem train_loop (l : List S35) (hl : l.length ≤ 64) (d : Nat) : ∀ (i : Nat) (last : Int), l.length - i = d → i ≤ l.length →
  Ev (fun k => bridge_CheckTrain.l0 k last l (l.length : Int) (i : Int)) (if trainOk last (decide (i = 0)) (l.drop i) = true then 0 else 2) := by
 induction d with
 | zero =>
  intro i last hd hi
  have he : i = l.length := by omega
  subst he
  rw [List.drop_length]
  refine Ev.step (f := fun _ => some 0) (fun k => ?_) (Ev.now _)
  simp only [bridge_CheckTrain.l0]
  rw [if_neg (by omega)]
 | succ d ih =>
  intro i last hd hi
  have hlt : i < l.length := by omega
  rw [List.drop_eq_getElem_cons hlt, trainOk]
  have hrec := ih (i + 1) l[i].f0 (by omega) (by omega)
  rw [show decide (i + 1 = 0) = false by simp] at hrec
  have hw : wrap64 ((i : Int) + 1) = ((i + 1 : Nat) : Int) := by rw [w64 (by omega) (by omega)]; rfl
  have hs : ∀ k, bridge_CheckTrain.l0 (k + 1) last l (l.length : Int) (i : Int) = if l[i].f0 < last then some 2 else if l[i].f0 > 262144 then some 2 else if (i : Int) = 0 then (if l[i].f0 = 0 then (if inR l[i].f1 0 1048576 = true then bridge_CheckTrain.l0 k l[i].f0 l (l.length : Int) ((i + 1 : Nat) : Int) else some 2) else some 2) else (if inR l[i].f1 0 1048576 = true then bridge_CheckTrain.l0 k l[i].f0 l (l.length : Int) ((i + 1 : Nat) : Int) else some 2) := by
   intro k
   simp only [bridge_CheckTrain.l0]
   rw [if_pos (by omega), if_pos (by omega), if_pos (by omega), rd35_get l i hlt, between_eq, hw]
   rfl
  refine Ev.step hs ?_
  by_cases h1 : l[i].f0 < last
  ·simp only [if_pos h1]
   rw [if_neg (by simp; omega)]; exact Ev.now _
  ·simp only [if_neg h1]
   by_cases h2 : l[i].f0 > 262144
   ·simp only [if_pos h2]
    rw [if_neg (by simp; omega)]; exact Ev.now _
   ·simp only [if_neg h2]
    have a1 : decide (last ≤ l[i].f0) = true := by simp; omega
    have a2 : decide (l[i].f0 ≤ 262144) = true := by simp; omega
    rw [a1, a2, Bool.true_and, Bool.true_and]
    cases h3 : inR l[i].f1 0 1048576
    ·have : ((!decide (i = 0) || decide (l[i].f0 = 0)) && (false && trainOk l[i].f0 false (l.drop (i + 1)))) = false := by simp
     rw [this]
     simp only [Bool.false_eq_true, if_false]
     by_cases h4 : (i : Int) = 0
     ·simp only [if_pos h4]
      by_cases h5 : l[i].f0 = 0
      ·simp only [if_pos h5, Bool.false_eq_true, if_false]; exact Ev.now _
      ·simp only [if_neg h5, Bool.false_eq_true, if_false]; exact Ev.now _
     ·simp only [if_neg h4, Bool.false_eq_true, if_false]; exact Ev.now _
    ·by_cases h4 : (i : Int) = 0
     ·simp only [if_pos h4, if_true]
      by_cases h5 : l[i].f0 = 0
      ·simp only [if_pos h5]
       have : ((!decide (i = 0) || decide (l[i].f0 = 0)) && (true && trainOk l[i].f0 false (l.drop (i + 1)))) = trainOk l[i].f0 false (l.drop (i + 1)) := by simp [h5]
       rw [this]; exact hrec
      ·simp only [if_neg h5]
       have : ((!decide (i = 0) || decide (l[i].f0 = 0)) && (true && trainOk l[i].f0 false (l.drop (i + 1)))) = false := by simp [h5]; omega
       rw [this]; exact Ev.now _
     ·simp only [if_neg h4, if_true]
      have : ((!decide (i = 0) || decide (l[i].f0 = 0)) && (true && trainOk l[i].f0 false (l.drop (i + 1)))) = trainOk l[i].f0 false (l.drop (i + 1)) := by
       have : ¬ i = 0 := by omega
       simp [this]
      rw [this]; exact hrec
theorem checkTrain_ev (l : List S35) : Ev (fun k => bridge_CheckTrain.f k l) (errT l) := by
 unfold bridge_CheckTrain.f errT
 by_cases h1 : (l.length : Int) < 1
 ·rw [if_pos (.inl h1)]
  simp only [if_pos h1]
  refine Ev.step (f := fun _ => some 6) (fun k => ?_) (Ev.now _)
  rw [bridge_CheckTrain.j0, if_pos rfl]
 ·simp only [if_neg h1]
  by_cases h2 : (l.length : Int) > 64
  ·rw [if_pos (.inr h2)]
   refine Ev.step (f := fun _ => some 6) (fun k => ?_) (Ev.now _)
   rw [bridge_CheckTrain.j0, if_pos (by simpa using h2)]
  ·rw [if_neg (by omega)]
   refine Ev.step (fun k => ?_) (train_loop l (by omega) l.length 0 0 (by omega) (by omega))
   rw [bridge_CheckTrain.j0, if_neg (by simpa using h2)]
   rfl
theorem errT_zero {l : List S35} (h : errT l = 0) : 1 ≤ l.length ∧ l.length ≤ 64 ∧ trainOk 0 true l = true := by
 unfold errT at h
 split at h
 ·cases h
 ·split at h
  ·exact ⟨by omega, by omega, by assumption⟩
  ·cases h
theorem trainOk_all {l : List S35} : ∀ {last : Int} {first : Bool}, trainOk last first l = true → ∀ x ∈ l, last ≤ x.f0 ∧ x.f0 ≤ 262144 ∧ 0 ≤ x.f1 ∧ x.f1 ≤ 1048576 := by
 induction l with
 | nil => intro _ _ _ x hx; cases hx
 | cons y r ih =>
  intro last first h x hx
  simp only [trainOk, Bool.and_eq_true, decide_eq_true_eq, inR_iff] at h
  obtain ⟨h1, h2, _, h3, h4⟩ := h
  rcases List.mem_cons.1 hx with rfl | hx
  ·exact ⟨h1, h2, h3⟩
  ·have := ih h4 x hx
   omega
def spansOk : List Int → List Int → List Int → Bool
 | [], _, _ => true
 | l :: r, m :: ms, s :: ss => inR l 100 131072 && (inR m 1 1073741824 && (inR s 1 1073741824 && spansOk r ms ss))
 | _, _, _ => false
def errB (l m s : List Int) (dyn lanes traffic : Int) : Int :=
 if (l.length : Int) < 1 ∨ (l.length : Int) > 6 then 6 else if ¬ ((m.length : Int) = l.length ∧ (s.length : Int) = l.length) then 17 else
 if ¬ (inR dyn 0 1000 = true ∧ 1 ≤ lanes ∧ lanes ≤ 4 ∧ inR traffic 0 4096 = true) then 2 else if spansOk l m s = true then 0 else 2
theorem check_loop (l m s : List Int) (a b c : Int) (hl : l.length ≤ 6) (hm : m.length = l.length) (hs : s.length = l.length) (d : Nat) : ∀ (i : Nat), l.length - i = d → i ≤ l.length →
  Ev (fun k => bridge_Check.l0 k l (l.length : Int) (i : Int) l m s a b c) (if spansOk (l.drop i) (m.drop i) (s.drop i) = true then 0 else 2) := by
 induction d with
 | zero =>
  intro i hd hi
  have he : i = l.length := by omega
  subst he
  rw [List.drop_length]
  refine Ev.step (f := fun _ => some 0) (fun k => ?_) (by simpa [spansOk] using Ev.now (0 : Int))
  simp only [bridge_Check.l0]
  rw [if_neg (by omega)]
 | succ d ih =>
  intro i hd hi
  have hlt : i < l.length := by omega
  have hltm : i < m.length := by omega
  have hlts : i < s.length := by omega
  rw [List.drop_eq_getElem_cons hlt, List.drop_eq_getElem_cons hltm, List.drop_eq_getElem_cons hlts, spansOk]
  have hrec := ih (i + 1) (by omega) (by omega)
  have hw : wrap64 ((i : Int) + 1) = ((i + 1 : Nat) : Int) := by rw [w64 (by omega) (by omega)]; rfl
  have hstep : ∀ k, bridge_Check.l0 (k + 1) l (l.length : Int) (i : Int) l m s a b c = if inR l[i] 100 131072 = true then (if inR m[i] 1 1073741824 = true then (if inR s[i] 1 1073741824 = true then bridge_Check.l0 k l (l.length : Int) ((i + 1 : Nat) : Int) l m s a b c else some 2) else some 2) else some 2 := by
   intro k
   simp only [bridge_Check.l0]
   rw [if_pos (by omega), if_pos (by omega), if_pos (by omega), rd_get l i hlt, between_eq, hw, if_pos (show (i : Int) < (m.length : Int) by omega), if_pos (show (i : Int) < (s.length : Int) by omega), rd_get m i hltm, rd_get s i hlts, between_eq, between_eq]
   rfl
  refine Ev.step hstep ?_
  cases h1 : inR l[i] 100 131072
  ·simpa using Ev.now (2 : Int)
  ·cases h2 : inR m[i] 1 1073741824
   ·simpa using Ev.now (2 : Int)
   ·cases h3 : inR s[i] 1 1073741824
    ·simpa using Ev.now (2 : Int)
    ·simpa using hrec
theorem check_ev (l m s : List Int) (a b c : Int) : Ev (fun k => bridge_Check.f k l m s a b c) (errB l m s a b c) := by
 unfold bridge_Check.f errB
 by_cases h1 : (l.length : Int) < 1
 ·rw [if_pos (.inl h1)]
  simp only [if_pos h1]
  refine Ev.step (f := fun _ => some 6) (fun k => ?_) (Ev.now _)
  rw [bridge_Check.j0, if_pos rfl]
 ·simp only [if_neg h1]
  by_cases h2 : (l.length : Int) > 6
  ·rw [if_pos (.inr h2)]
   refine Ev.step (f := fun _ => some 6) (fun k => ?_) (Ev.now _)
   rw [bridge_Check.j0, if_pos (by simpa using h2)]
  ·rw [if_neg (by omega)]
   have hj : ∀ k, bridge_Check.j0 (k + 1) (l.length : Int) (decide ((l.length : Int) > 6)) l m s a b c = if (m.length : Int) = l.length then bridge_Check.j1 k ((s.length : Int) != l.length) l m s a b c else bridge_Check.j1 k true l m s a b c := by
    intro k
    rw [bridge_Check.j0, if_neg (by simpa using h2)]
   refine Ev.step hj ?_
   by_cases h3 : (m.length : Int) = l.length
   ·simp only [if_pos h3]
    by_cases h4 : (s.length : Int) = l.length
    ·rw [if_neg (by simp [h3, h4])]
     have hj1 : ∀ k, bridge_Check.j1 (k + 1) ((s.length : Int) != l.length) l m s a b c = if inR a 0 1000 = true then (if b < 1 then some 2 else if b > 4 then some 2 else if inR c 0 4096 = true then bridge_Check.l0 k l (l.length : Int) ((0 : Nat) : Int) l m s a b c else some 2) else some 2 := by
      intro k
      rw [bridge_Check.j1, if_neg (by simp [h4])]
      simp only [between_eq, Option.bind_some]
      rfl
     refine Ev.step hj1 ?_
     by_cases h5 : inR a 0 1000 = true ∧ 1 ≤ b ∧ b ≤ 4 ∧ inR c 0 4096 = true
     ·rw [if_neg (by simpa using h5)]
      simp only [if_pos h5.1, if_neg (show ¬ b < 1 by omega), if_neg (show ¬ b > 4 by omega), if_pos h5.2.2.2]
      have := check_loop l m s a b c (by omega) (by omega) (by omega) l.length 0 (by omega) (by omega)
      simpa using this
     ·rw [if_pos h5]
      by_cases g1 : inR a 0 1000 = true
      ·simp only [if_pos g1]
       by_cases g2 : b < 1
       ·simp only [if_pos g2]; exact Ev.now _
       ·simp only [if_neg g2]
        by_cases g3 : b > 4
        ·simp only [if_pos g3]; exact Ev.now _
        ·simp only [if_neg g3]
         by_cases g4 : inR c 0 4096 = true
         ·exact absurd ⟨g1, by omega, by omega, g4⟩ h5
         ·simp only [if_neg g4]; exact Ev.now _
      ·simp only [if_neg g1]; exact Ev.now _
    ·rw [if_pos (by simp [h4])]
     refine Ev.step (f := fun _ => some 17) (fun k => ?_) (Ev.now _)
     rw [bridge_Check.j1, if_pos (by simp [h4])]
   ·simp only [if_neg h3]
    rw [if_pos (by simp [h3])]
    refine Ev.step (f := fun _ => some 17) (fun k => ?_) (Ev.now _)
    rw [bridge_Check.j1, if_pos rfl]
theorem errB_zero {l m s : List Int} {a b c : Int} (h : errB l m s a b c = 0) : 1 ≤ l.length ∧ l.length ≤ 6 ∧ m.length = l.length ∧ s.length = l.length ∧ (0 ≤ a ∧ a ≤ 1000) ∧ (1 ≤ b ∧ b ≤ 4) ∧ (0 ≤ c ∧ c ≤ 4096) ∧ spansOk l m s = true := by
 unfold errB at h
 split at h
 ·cases h
 ·split at h
  ·cases h
  ·split at h
   ·cases h
   ·split at h
    ·rename_i h1 h2 h3 h4
     have h2 := Decidable.not_not.1 h2
     have h3 := Decidable.not_not.1 h3
     exact ⟨by omega, by omega, by omega, by omega, inR_iff.1 h3.1, ⟨h3.2.1, h3.2.2.1⟩, inR_iff.1 h3.2.2.2, h4⟩
    ·cases h
theorem spansOk_get : ∀ {l m s : List Int}, spansOk l m s = true → ∀ (i : Nat) (h : i < l.length), 100 ≤ l[i] ∧ l[i] ≤ 131072
 | [], _, _, _, i, h => by simp at h
 | x :: r, y :: ys, z :: zs, hk, i, h => by
  simp only [spansOk, Bool.and_eq_true, inR_iff] at hk
  cases i with
  | zero => exact hk.1
  | succ i => exact spansOk_get hk.2.2.2 i (by simpa using h)
 | _ :: _, [], _, hk, _, _ => by simp [spansOk] at hk
 | _ :: _, _ :: _, [], hk, _, _ => by simp [spansOk] at hk
def errBT (l m s : List Int) (a b c : Int) (t : List S35) : Int := if errB l m s a b c ≠ 0 then errB l m s a b c else errT t
theorem or80 (a b : Int) : cmp_Or_80.f 3 [a, b] = some (if a ≠ 0 then a else b) := by
 by_cases h : a = 0
 ·subst h
  by_cases h2 : b = 0
  ·subst h2; decide +kernel
  ·simp [cmp_Or_80.f, cmp_Or_80.l0, h2, rd, wrap64]
 ·simp [cmp_Or_80.f, cmp_Or_80.l0, h, rd]
theorem both_ev (l m s : List Int) (a b c : Int) (t : List S35) : Ev (fun k => bridge_both.f k l m s a b c t) (errBT l m s a b c t) := by
 unfold bridge_both.f
 refine Ev.bind (check_ev l m s a b c) (Ev.bind (checkTrain_ev t) ?_)
 refine Ev.bind (Ev.of (fun k => cmp_Or_80.mono _ k) (or80 _ _)) (Ev.now _)
def errS (l m s : List Int) (a b c : Int) (t : List S35) (k : Int) : Int := if errBT l m s a b c t ≠ 0 then errBT l m s a b c t else if k < 0 ∨ (l.length : Int) ≤ k then 5 else 0
theorem span_lim (l m s : List Int) (a b c : Int) (t : List S35) (k : Int) : (limO fun n => bridge_span.f n l m s a b c t k) = some (errS l m s a b c t k) := by
 refine limO_ev (fun n => bridge_span.mono _ _ _ _ _ _ _ _ n) ?_
 unfold bridge_span.f errS
 refine Ev.bind (both_ev l m s a b c t) ?_
 by_cases h : errBT l m s a b c t = 0
 ·rw [if_neg (show ¬ errBT l m s a b c t ≠ 0 from fun g => g h)]
  simp only [if_pos h]
  by_cases h1 : k < 0
  ·simp only [if_pos h1]
   rw [if_pos (.inl h1)]; exact Ev.now _
  ·simp only [if_neg h1]
   by_cases h2 : k ≥ (l.length : Int)
   ·simp only [if_pos h2]
    rw [if_pos (.inr h2)]; exact Ev.now _
   ·simp only [if_neg h2]
    rw [if_neg (by omega)]; exact Ev.now _
 ·rw [if_pos (show errBT l m s a b c t ≠ 0 from h)]
  simp only [if_neg h]
  exact Ev.now _
theorem errS_zero {l m s : List Int} {a b c : Int} {t : List S35} {k : Int} (h : errS l m s a b c t k = 0) : errB l m s a b c = 0 ∧ errT t = 0 ∧ 0 ≤ k ∧ k < (l.length : Int) := by
 unfold errS at h
 split at h
 ·exact absurd h (by assumption)
 ·rename_i hw
  have hw := Decidable.not_not.1 hw
  unfold errBT at hw
  split at h
  ·cases h
  ·split at hw
   ·exact absurd hw (by assumption)
   ·exact ⟨Decidable.not_not.1 (by assumption), hw, by omega, by omega⟩
end Go.Proofs.Ytiklpefckadgdaa.P
namespace Go.Proofs.Ytiklpefckadgdaa.P
open Go.RowKit Go.Proofs.YtiklpefckadgdaaW.PrintWords Go.Proofs.YtiklpefckadgdaaW.PrintLast Go.Proofs.YtiklpefckadgdaaW.PrintMore
def effS (line : Int → Int) (s : Int) : List S35 → Int
 | [] => 0
 | x :: r => x.f1 * line (s - x.f0) + effS line s r
def OkForce (x : S35) : Prop := (0 ≤ x.f0 ∧ x.f0 ≤ 262144) ∧ (0 ≤ x.f1 ∧ x.f1 ≤ 1048576)
theorem effS_bd {line : Int → Int} {s : Int} (hline : ∀ a, 0 ≤ line a ∧ line a ≤ 17179869184) : ∀ {l : List S35}, (∀ x ∈ l, OkForce x) → 0 ≤ effS line s l ∧ effS line s l ≤ l.length * 18014398509481984
 | [], _ => by simp [effS]
 | x :: r, h => by
  have ih := effS_bd (line := line) (s := s) hline (l := r) (fun y hy => h y (List.mem_cons_of_mem _ hy))
  have hx := h x (List.mem_cons_self ..)
  have hb := hline (s - x.f0)
  have m0 := Int.mul_nonneg hx.2.1 hb.1
  have m1 := Int.mul_le_mul hx.2.2 hb.2 hb.1 (by omega)
  simp only [effS, List.length_cons] at *
  omega
theorem sumW_from {line : Int → Int} {s : Int} (hline : ∀ a, 0 ≤ line a ∧ line a ≤ 17179869184) (hs : -1099511627776 ≤ s ∧ s ≤ 1099511627776) : ∀ (l : List S35) (n : Int), (∀ x ∈ l, OkForce x) → 0 ≤ n → n + l.length * 18014398509481984 ≤ 2305843009213693952 →
  (l.map (axleW line s)).foldl (fun n x => wrap64 (n + x)) n = n + effS line s l
 | [], n, _, _, _ => by simp [effS]
 | x :: r, n, h, h0, h1 => by
  have hx := h x (List.mem_cons_self ..)
  have hb := hline (s - x.f0)
  have m0 := Int.mul_nonneg hx.2.1 hb.1
  have m1 := Int.mul_le_mul hx.2.2 hb.2 hb.1 (by omega)
  have e1 : wrap64 (s - x.f0) = s - x.f0 := by have := hx.1; exact w64 (by omega) (by omega)
  have ea : axleW line s x = x.f1 * line (s - x.f0) := by
   unfold axleW
   rw [e1]
   by_cases hp : 0 < x.f1
   ·rw [if_pos hp, w64 (by omega) (by omega)]
   ·rw [if_neg hp]
    have hx2 : 0 ≤ x.f1 := hx.2.1
    have : x.f1 = 0 := by omega
    rw [this, Int.zero_mul]
  simp only [List.length_cons] at h1
  rw [List.map_cons, List.foldl_cons, ea, w64 (by omega) (by omega), sumW_from hline hs r _ (fun y hy => h y (List.mem_cons_of_mem _ hy)) (by omega) (by omega), effS]
  omega
theorem effW_eq {line : Int → Int} {s : Int} {l : List S35} (hline : ∀ a, 0 ≤ line a ∧ line a ≤ 17179869184) (hs : -1099511627776 ≤ s ∧ s ≤ 1099511627776) (hl : l.length ≤ 64) (h : ∀ x ∈ l, OkForce x) :
  effW line l s = effS line s l := by
 have := sumW_from hline hs l 0 h (by omega) (by omega)
 simpa [effW, sumW] using this
theorem effS_congr {f g : Int → Int} {s t : Int} : ∀ {l : List S35}, (∀ x ∈ l, f (s - x.f0) = g (t - x.f0)) → effS f s l = effS g t l
 | [], _ => rfl
 | x :: r, h => by
  rw [effS, effS, h x (List.mem_cons_self ..), effS_congr (fun y hy => h y (List.mem_cons_of_mem _ hy))]
def momentI (l x a : Int) : Int := if a < 0 ∨ l < a then 0 else if a ≤ x then a * (l - x) else x * (l - a)
def endI (l : Int) (right : Bool) (a : Int) : Int := if a < 0 ∨ l < a then 0 else if right = true then a else l - a
theorem momentI_bd {l x : Int} (hl : 0 ≤ l ∧ l ≤ 131072) (hx : 0 ≤ x ∧ x ≤ l) (a : Int) : 0 ≤ momentI l x a ∧ momentI l x a ≤ 17179869184 := by
 have hb : ∀ u v : Int, 0 ≤ u → u ≤ 131072 → 0 ≤ v → v ≤ 131072 → 0 ≤ u * v ∧ u * v ≤ 17179869184 := fun u v h0 h1 h2 h3 => by
  have := Int.mul_nonneg h0 h2
  have := Int.mul_le_mul h1 h3 h2 (by omega)
  omega
 unfold momentI
 split
 ·omega
 ·split
  ·exact hb _ _ (by omega) (by omega) (by omega) (by omega)
  ·exact hb _ _ (by omega) (by omega) (by omega) (by omega)
theorem endI_bd {l : Int} {right : Bool} (hl : 0 ≤ l ∧ l ≤ 131072) (a : Int) : 0 ≤ endI l right a ∧ endI l right a ≤ 17179869184 := by
 unfold endI
 split
 ·omega
 ·split <;> omega
theorem best_some (l : List S29) (hne : l ≠ []) : ∃ b, bestO ltW l = some b ∧ b ∈ l ∧ ∀ x ∈ l, x.f0 ≤ b.f0 := by
 have key : ∀ (l : List S29) (o : Option S29), (∃ b, l.foldl (bestStep ltW) o = some b ∧ (b ∈ l ∨ o = some b) ∧ (∀ x ∈ l, x.f0 ≤ b.f0) ∧ (∀ x, o = some x → x.f0 ≤ b.f0)) ∨ (l = [] ∧ o = none) := by
  intro l
  induction l with
  | nil =>
   intro o
   cases o with
   | none => exact .inr ⟨rfl, rfl⟩
   | some b => exact .inl ⟨b, rfl, .inr rfl, by simp, fun x hx => by cases hx; exact Int.le_refl _⟩
  | cons x r ih =>
   intro o
   left
   rw [List.foldl_cons]
   rcases ih (bestStep ltW o x) with ⟨b, h1, h2, h3, h4⟩ | ⟨_, h2⟩
   ·refine ⟨b, h1, ?_, ?_, ?_⟩
    ·rcases h2 with h2 | h2
     ·exact .inl (List.mem_cons_of_mem _ h2)
     ·cases o with
      | none => cases h2; exact .inl (List.mem_cons_self ..)
      | some c =>
       simp only [bestStep] at h2
       split at h2
       ·cases h2; exact .inl (List.mem_cons_self ..)
       ·cases h2; exact .inr rfl
    ·intro y hy
     rcases List.mem_cons.1 hy with rfl | hy
     ·cases o with
      | none => exact h4 _ rfl
      | some c =>
       by_cases hlt : ltW c y = true
       ·exact h4 _ (by simp [bestStep, hlt])
       ·have := h4 c (by simp [bestStep, hlt])
        simp [ltW] at hlt
        omega
     ·exact h3 y hy
    ·intro y hy
     subst hy
     by_cases hlt : ltW y x = true
     ·have := h4 x (by simp [bestStep, hlt])
      simp [ltW] at hlt
      omega
     ·exact h4 y (by simp [bestStep, hlt])
   ·cases o <;> simp [bestStep] at h2
    split at h2 <;> cases h2
 rcases key l none with ⟨b, h1, h2, h3, _⟩ | ⟨h, _⟩
 ·refine ⟨b, h1, ?_, h3⟩
  rcases h2 with h2 | h2
  ·exact h2
  ·cases h2
 ·exact absurd h hne
end Go.Proofs.Ytiklpefckadgdaa.P
namespace Go.Proofs.Ytiklpefckadgdaa.P
open Go.RowKit Go.Proofs.YtiklpefckadgdaaW.PrintWords Go.Proofs.YtiklpefckadgdaaW.PrintLast Go.Proofs.YtiklpefckadgdaaW.PrintMore
theorem mem_breaks {l : List S35} {ks : List Int} {s : Int} : s ∈ breaksL l ks ↔ ∃ x ∈ l, ∃ k ∈ ks, s = wrap64 (k + x.f0) := by
 simp only [breaksL, breakRow, List.mem_flatMap, List.mem_map]
 constructor
 ·rintro ⟨x, hx, k, hk, rfl⟩; exact ⟨x, hx, k, hk, rfl⟩
 ·rintro ⟨x, hx, k, hk, rfl⟩; exact ⟨x, hx, k, hk, rfl⟩
theorem breaks_ne {l : List S35} {k : Int} {ks : List Int} (h : l ≠ []) : breaksL l (k :: ks) ≠ [] := by
 cases l with
 | nil => exact absurd rfl h
 | cons x r => simp [breaksL, breakRow]
theorem worst_val (line : Int → Int) (l : List S35) (ks : List Int) (span point : Int) (hne : breaksL l ks ≠ []) :
  (∃ s ∈ breaksL l ks, worstW line l ks span point = ⟨effW line l s, span, point, s⟩) ∧ ∀ s ∈ breaksL l ks, effW line l s ≤ (worstW line l ks span point).f0 := by
 obtain ⟨b, h1, h2, h3⟩ := best_some (effectsL line l ks span point) (by simpa [effectsL] using hne)
 unfold worstW
 rw [h1, Option.getD_some]
 simp only [effectsL, List.mem_map] at h2 h3
 obtain ⟨s, hs, rfl⟩ := h2
 refine ⟨⟨s, hs, rfl⟩, fun t ht => h3 _ ⟨t, ht, rfl⟩⟩
theorem worst_le {line line' : Int → Int} {l l' : List S35} {ks ks' : List Int} {span point span' point' : Int} (hne : breaksL l ks ≠ []) (hne' : breaksL l' ks' ≠ [])
  (h : ∀ s ∈ breaksL l ks, ∃ t ∈ breaksL l' ks', effW line l s ≤ effW line' l' t) : (worstW line l ks span point).f0 ≤ (worstW line' l' ks' span' point').f0 := by
 obtain ⟨⟨s, hs, e⟩, _⟩ := worst_val line l ks span point hne
 obtain ⟨t, ht, hle⟩ := h s hs
 have := (worst_val line' l' ks' span' point' hne').2 t ht
 rw [e]
 exact Int.le_trans hle this
theorem momentW_I {s l x a : Int} (hl : 0 ≤ l ∧ l ≤ 131072) (hx : 0 ≤ x ∧ x ≤ l) : momentW s l x a = momentI l x (wrap64 (a - s)) := by
 unfold momentW momentI
 by_cases h : wrap64 (a - s) < 0 ∨ l < wrap64 (a - s)
 ·rw [if_pos h, if_pos h]
 ·rw [if_neg h, if_neg h, w64 (x := l - x) (by omega) (by omega), w64 (x := l - wrap64 (a - s)) (by omega) (by omega)]
  have hb : ∀ u v : Int, 0 ≤ u → u ≤ 131072 → 0 ≤ v → v ≤ 131072 → wrap64 (u * v) = u * v := fun u v h0 h1 h2 h3 => by
   have := Int.mul_nonneg h0 h2
   have := Int.mul_le_mul h1 h3 h2 (by omega)
   exact w64 (by omega) (by omega)
  rw [hb _ _ (by omega) (by omega) (by omega) (by omega), hb _ _ (by omega) (by omega) (by omega) (by omega)]
theorem endW_I {s l a : Int} {right : Bool} (hl : 0 ≤ l ∧ l ≤ 131072) : endW s l right a = endI l right (wrap64 (a - s)) := by
 unfold endW endI
 by_cases h : wrap64 (a - s) < 0 ∨ l < wrap64 (a - s)
 ·rw [if_pos h, if_pos h]
 ·rw [if_neg h, if_neg h, w64 (x := l - wrap64 (a - s)) (by omega) (by omega)]
theorem okForces {l : List S35} (h : errT l = 0) : ∀ x ∈ l, OkForce x := fun x hx => by
 have := trainOk_all (errT_zero h).2.2 x hx
 exact ⟨⟨this.1, this.2.1⟩, this.2.2⟩
theorem effW_moment {o L x s : Int} {l : List S35} (ho : 0 ≤ o ∧ o ≤ 1048576) (hL : 0 ≤ L ∧ L ≤ 131072) (hx : 0 ≤ x ∧ x ≤ L) (hs : -1099511627776 ≤ s ∧ s ≤ 1099511627776) (h : errT l = 0) :
  effW (momentW o L x) l s = effS (fun a => momentI L x (a - o)) s l := by
 rw [effW_eq (fun a => by rw [momentW_I hL hx]; exact momentI_bd hL hx _) hs (errT_zero h).2.1 (okForces h)]
 refine effS_congr fun y hy => ?_
 have := (okForces h y hy).1
 rw [momentW_I hL hx, w64 (by omega) (by omega)]
theorem effW_end {o L s : Int} {right : Bool} {l : List S35} (ho : 0 ≤ o ∧ o ≤ 1048576) (hL : 0 ≤ L ∧ L ≤ 131072) (hs : -1099511627776 ≤ s ∧ s ≤ 1099511627776) (h : errT l = 0) :
  effW (endW o L right) l s = effS (fun a => endI L right (a - o)) s l := by
 rw [effW_eq (fun a => by rw [endW_I hL]; exact endI_bd hL _) hs (errT_zero h).2.1 (okForces h)]
 refine effS_congr fun y hy => ?_
 have := (okForces h y hy).1
 rw [endW_I hL, w64 (by omega) (by omega)]
end Go.Proofs.Ytiklpefckadgdaa.P
namespace Go.Proofs.Ytiklpefckadgdaa.P
open Go.RowKit Go.Proofs.YtiklpefckadgdaaW.PrintWords Go.Proofs.YtiklpefckadgdaaW.PrintLast Go.Proofs.YtiklpefckadgdaaW.PrintMore
end Go.Proofs.Ytiklpefckadgdaa.P
namespace Go.Proofs.Ytiklpefckadgdaa.P
open Go.RowKit Go.Proofs.YtiklpefckadgdaaW.PrintWords Go.Proofs.YtiklpefckadgdaaW.PrintLast Go.Proofs.YtiklpefckadgdaaW.PrintMore
theorem place_eq (s : Int) : bridge_validPlace.f s = some (inR s (-4194304) 4194304) := by
 unfold bridge_validPlace.f; rw [between_eq]; rfl
theorem Moment_eq (l m s : List Int) (a b c : Int) (t : List S35) (k x p : Int) : bridge_Moment.f l m s a b c t k x p =
  some (if errS l m s a b c t k = 0 then (if inR x 0 (rd l k) = true then (if inR p (-4194304) 4194304 = true then (effW (momentW (startW l k.toNat) (rd l k) x) t p, 0) else (0, 3)) else (0, 3)) else (0, errS l m s a b c t k)) := by
 unfold bridge_Moment.f
 rw [span_lim, Option.bind_some]
 by_cases h : errS l m s a b c t k = 0
 ·rw [if_pos h, if_pos h]
  obtain ⟨h1, h2, h3, h4⟩ := errS_zero h
  have g1 := errB_zero h1
  have g2 := errT_zero h2
  rw [if_pos ⟨h3, h4, by omega, by omega⟩, between_eq, Option.bind_some, place_eq, Option.bind_some]
  split
  ·split <;> rfl
  ·rfl
 ·rw [if_neg h, if_neg h]
theorem End_eq (l m s : List Int) (a b c : Int) (t : List S35) (k : Int) (right : Bool) (p : Int) : bridge_End.f l m s a b c t k right p =
  some (if errS l m s a b c t k = 0 then (if inR p (-4194304) 4194304 = true then (effW (endW (startW l k.toNat) (rd l k) right) t p, 0) else (0, 3)) else (0, errS l m s a b c t k)) := by
 unfold bridge_End.f
 rw [span_lim, Option.bind_some]
 by_cases h : errS l m s a b c t k = 0
 ·rw [if_pos h, if_pos h]
  obtain ⟨h1, h2, h3, h4⟩ := errS_zero h
  have g1 := errB_zero h1
  have g2 := errT_zero h2
  rw [if_pos ⟨h3, h4, by omega, by omega⟩, place_eq, Option.bind_some]
  split <;> rfl
 ·rw [if_neg h, if_neg h]
theorem sumW_bd : ∀ (l : List Int) (n : Int), (∀ x ∈ l, 0 ≤ x ∧ x ≤ 131072) → 0 ≤ n → n + l.length * 131072 ≤ 1000000000 → l.foldl (fun n x => wrap64 (n + x)) n = n + l.sum ∧ 0 ≤ l.sum ∧ l.sum ≤ l.length * 131072
 | [], n, _, _, _ => by simp
 | x :: r, n, h, h0, h1 => by
  have hx := h x (List.mem_cons_self ..)
  simp only [List.length_cons] at h1
  obtain ⟨e1, e2, e3⟩ := sumW_bd r (n + x) (fun y hy => h y (List.mem_cons_of_mem _ hy)) (by omega) (by omega)
  rw [List.foldl_cons, w64 (by omega) (by omega), e1, List.sum_cons, List.length_cons]
  omega
theorem startW_bd {l m s : List Int} {a b c : Int} (h : errB l m s a b c = 0) (k : Nat) : 0 ≤ startW l k ∧ startW l k ≤ 786432 := by
 have g := errB_zero h
 have hall : ∀ x ∈ l.take k, 0 ≤ x ∧ x ≤ 131072 := by
  intro x hx
  obtain ⟨i, hi, rfl⟩ := List.getElem_of_mem (List.mem_of_mem_take hx)
  have := spansOk_get g.2.2.2.2.2.2.2 i hi
  omega
 have hlen : (l.take k).length ≤ 6 := by simp; omega
 obtain ⟨e1, e2, e3⟩ := sumW_bd (l.take k) 0 hall (by omega) (by omega)
 unfold startW sumW
 rw [e1]
 omega
end Go.Proofs.Ytiklpefckadgdaa.P
namespace Go.Proofs.Ytiklpefckadgdaa.P
open Go.RowKit Go.Shelf Go.Proofs.Ytiklpefckadgdaa.O Go.Proofs.YtiklpefckadgdaaW.PrintWords Go.Proofs.YtiklpefckadgdaaW.PrintLast Go.Proofs.YtiklpefckadgdaaW.PrintMore
def srch (p : Int → Bool) : Nat → Int → Int → Int
 | 0, i, _ => i
 | k + 1, i, j => if i < j then (if p ((i + j) / 2) = true then srch p k i ((i + j) / 2) else srch p k ((i + j) / 2 + 1) j) else i
def PredFn (g : Nat) (lb : Array Value) (p : Int → Bool) (n : Int) (w0 : World) : Prop :=
 (∀ args w, (callFunc g args).run Try.prog w = .ok (.enter g args) w) ∧ ∀ a W, 0 ≤ a → a < n → Below w0.heap.size w0 W → Calls Try.prog g (#[.int .i64 a] ++ lb) W fun e W' => e = .returned (.bool (p a)) ∧ Below W.heap.size W W'
set_option maxRecDepth 100000 in
set_option maxHeartbeats 4000000 in
theorem search_in (g : Nat) (lb : Array Value) (p : Int → Bool) (n : Int) (w : World) (hn0 : 0 ≤ n) (hn1 : n ≤ 4611686018427387904) (hp : PredFn g lb p n w) :
  CallsIn Fence.wide 0 Try.prog 53 #[.int .i64 n, .func (.func g) #[] lb] w fun e W' => e = .returned (.int .i64 (srch p n.toNat 0 n)) ∧ Below w.heap.size w W' := by
 refine callsIn_of_wp Try.func53 rfl trivial ?_ rfl
 simp only [Try.ntmps53, List.size_toArray, List.length_cons, List.length_nil, Nat.reduceAdd, Nat.reduceSub, Array.replicate_succ, Array.replicate_zero, List.push_toArray, List.append_toArray, List.nil_append, List.cons_append]
 gi_wp2
 gi_loopw [5, 6] (fun vi vj wr => ∃ (i j : Int) (f : Nat), vi = .int .i64 i ∧ vj = .int .i64 j ∧ 0 ≤ i ∧ i ≤ j ∧ j ≤ n ∧ (j - i).toNat ≤ f ∧ srch p f i j = srch p n.toNat 0 n ∧ Below w.heap.size w wr)
  (fun vi vj _ => (intOf vj - intOf vi).toNat)
 case atStart => exact ⟨0, n, n.toNat, rfl, rfl, Int.le_refl _, hn0, Int.le_refl _, by omega, rfl, Below.refl _ _⟩
 case round =>
  obtain ⟨i, j, f, rfl, rfl, h0, h1, h2, h3, h4, hb⟩ := hrel
  by_cases hlt : i < j
  ·obtain ⟨f', rfl⟩ : ∃ f', f = f' + 1 := ⟨f - 1, by omega⟩
   rw [srch, if_pos hlt] at h4
   have he := hp.1
   have u1 : IntKind.u64.wrap (i + j) = i + j := by simp [IntKind.wrap, IntKind.bits, IntKind.signed]; omega
   have u2 : wrap64 (i + j) = i + j := by unfold wrap64; omega
   have u3 : wrap64 ((i + j) / 2) = (i + j) / 2 := by unfold wrap64; omega
   have u4 : wrap64 ((i + j) / 2 + 1) = (i + j) / 2 + 1 := by unfold wrap64; omega
   gi_wp2
   refine ⟨trivial, rfl, (callsIn_w (hp.2 ((i + j) / 2) wr (by omega) (by omega) hb)).mono ?_⟩
   rintro e w2 ⟨rfl, hb2⟩
   have hb3 : Below w.heap.size w w2 := hb.trans (hb2.mono hb.size)
   by_cases hq : p ((i + j) / 2) = true
   ·rw [if_pos hq] at h4
    gi_wp2
    exact ⟨⟨i, (i + j) / 2, f', rfl, rfl, h0, by omega, by omega, by omega, h4, hb3⟩, by simp [intOf]; omega⟩
   ·rw [if_neg hq] at h4
    have hq' : p ((i + j) / 2) = false := by simpa using hq
    gi_wp2
    exact ⟨⟨(i + j) / 2 + 1, j, f', rfl, rfl, by omega, by omega, by omega, by omega, h4, hb3⟩, by simp [intOf]; omega⟩
  ·have h5 : srch p n.toNat 0 n = i := by
    rw [← h4]
    cases f with
    | zero => rfl
    | succ f => rw [srch, if_neg hlt]
   gi_wp2
   go_ret
   exact ⟨rfl, hb⟩
end Go.Proofs.Ytiklpefckadgdaa.P
namespace Go.Proofs.Ytiklpefckadgdaa.P
open Go.RowKit Go.Shelf Go.Proofs.Ytiklpefckadgdaa.O Go.Proofs.YtiklpefckadgdaaW.PrintWords Go.Proofs.YtiklpefckadgdaaW.PrintLast Go.Proofs.YtiklpefckadgdaaW.PrintMore
def shareZ (a b d : Int) : Int := if 0 < a * b % d then a * b / d + 1 else a * b / d
def leftP (all life done : Int) (n : Int) : Bool := decide (done + shareZ all (1000 * (n + 1)) life > 1000000)
set_option maxRecDepth 100000 in
set_option maxHeartbeats 4000000 in
theorem left_fn (B1 B2 B3 : Nat) (load life power all done : Int) (w : World) (h1 : w.heap[B1]? = some (.cells #[.int .i64 done] 2 (0, 0))) (h2 : w.heap[B2]? = some (.cells #[.int .i64 all] 2 (0, 0))) (h3 : w.heap[B3]? = some (.cells #[.int .i64 load, .int .i64 life, .int .i64 power] 43 (0, 0)))
  (ha : 0 ≤ all ∧ all ≤ 1073741824) (hl : 1 ≤ life ∧ life ≤ 1048576) (hd : 0 ≤ done ∧ done ≤ 1000000) :
  PredFn 54 #[.pointer (some ⟨B1, 0, none⟩), .pointer (some ⟨B2, 0, none⟩), .pointer (some ⟨B3, 0, none⟩)] (leftP all life done) 1048576 w := by
 refine ⟨enters_of Try.func54 (by kernel_rfl) rfl, fun n W hn0 hn1 hW => ?_⟩
 have g1 := keep_below hW (blk_lt h1) h1
 have g2 := keep_below hW (blk_lt h2) h2
 have g3 := keep_below hW (blk_lt h3) h3
 have hu43 := Try.underlying43
 show Calls Try.prog 54 #[.int .i64 n, .pointer (some ⟨B1, 0, none⟩), .pointer (some ⟨B2, 0, none⟩), .pointer (some ⟨B3, 0, none⟩)] W _
 have u1 : wrap64 (n + 1) = n + 1 := by unfold wrap64; omega
 have u2 : wrap64 (1000 * (n + 1)) = 1000 * (n + 1) := by unfold wrap64; omega
 have m0 : 0 ≤ all * (1000 * (n + 1)) := Int.mul_nonneg ha.1 (by omega)
 have m1 : all * (1000 * (n + 1)) ≤ 1073741824 * 1048576000 := Int.mul_le_mul ha.2 (by omega) (by omega) (by omega)
 have hq : all * (1000 * (n + 1)) / life ≤ all * (1000 * (n + 1)) := Int.ediv_le_self _ m0
 have hs : bridge_share.f all (1000 * (n + 1)) life = some (shareZ all (1000 * (n + 1)) life) := by
  unfold bridge_share.f shareZ
  rw [if_pos ⟨ha.1, by omega, by omega, by omega, by omega, by omega, by omega⟩]
 have hq0 : 0 ≤ all * (1000 * (n + 1)) / life := Int.ediv_nonneg m0 (by omega)
 have hb : 0 ≤ shareZ all (1000 * (n + 1)) life ∧ shareZ all (1000 * (n + 1)) life ≤ 1125899906842624001 := by
  unfold shareZ; split <;> omega
 have u3 : wrap64 (done + shareZ all (1000 * (n + 1)) life) = done + shareZ all (1000 * (n + 1)) life := by unfold wrap64; omega
 refine calls_of_wp Try.func54 rfl ?_
 simp only [Try.ntmps54, List.size_toArray, List.length_cons, List.length_nil, Nat.reduceAdd, Nat.reduceSub, Array.replicate_succ, Array.replicate_zero, List.push_toArray, List.append_toArray, List.nil_append, List.cons_append]
 go_wp2
 refine start_ (n := 11) (S := fun w' => w'.cell? ⟨B1, 0, none⟩ = some (.int .i64 done) ∧ w'.cell? ⟨B2, 0, none⟩ = some (.int .i64 all) ∧ w'.cell? ⟨B3, 1, none⟩ = some (.int .i64 life)) (ds := []) #[false, false, false, false, false, false, false, false, false, false, false] (by kernel_rfl) rfl rfl ⟨(blk_cell (blk_drew g1) 0).trans rfl, (blk_cell (blk_drew g2) 0).trans rfl, (blk_cell (blk_drew g3) 1).trans rfl⟩ (fun hHeld => ?_)
 refine pure_ (i := 2) (N := some 8) (v := ?_) (a' := ?_) #[false, false, true, false, false, false, false, false, false, false, false] rfl rfl (by kernel_rfl) (fun _ _ _ h => h) (Or.inl ⟨by rfl, ?_⟩) ?_ ?_
 rotate_left
 ·intro w'
  go_simp
  with_reducible rfl
 rotate_left
 ·simp only [Act.put, List.setIfInBounds_toArray, List.set_cons_zero, List.set_cons_succ, i64_w, i32_w]
  rfl
 refine pure_ (i := 3) (N := some 9) (v := ?_) (a' := ?_) #[false, false, true, true, false, false, false, false, false, false, false] rfl rfl (by kernel_rfl) (fun _ _ _ h => h) (Or.inl ⟨by rfl, ?_⟩) ?_ ?_
 rotate_left
 ·intro w'
  go_simp
  with_reducible rfl
 rotate_left
 ·simp only [Act.put, List.setIfInBounds_toArray, List.set_cons_zero, List.set_cons_succ, i64_w, i32_w]
  rfl
 refine pure_ (i := 4) (N := some 10) (v := ?_) (a' := ?_) #[false, false, true, true, true, false, false, false, false, false, false] rfl rfl (by kernel_rfl) (fun _ _ _ h => h) (Or.inl ⟨by rfl, ?_⟩) ?_ ?_
 rotate_left
 ·intro w'
  go_simp
  with_reducible rfl
 rotate_left
 ·simp only [Act.put, List.setIfInBounds_toArray, List.set_cons_zero, List.set_cons_succ, i64_w, i32_w]
  rfl
 refine pure_ (i := 5) (N := some 11) (v := ?_) (a' := ?_) #[false, false, true, true, true, true, false, false, false, false, false] rfl rfl (by kernel_rfl) (fun _ _ _ h => h) (Or.inl ⟨by rfl, ?_⟩) ?_ ?_
 rotate_left
 ·intro w'
  go_simp
  with_reducible rfl
 rotate_left
 ·simp only [Act.put, List.setIfInBounds_toArray, List.set_cons_zero, List.set_cons_succ, i64_w, i32_w]
  rfl
 refine take_ (i := 0) (N := some 6) (v := ?_) (a' := ?_) #[true, false, true, true, true, true, false, false, false, false, false] rfl rfl (by kernel_rfl) (fun _ _ _ h => h) (Or.inl ⟨by rfl, ?_⟩) hHeld ?_ ?_
 rotate_left
 ·rintro w' ⟨s0, s1, s2⟩
  go_simp
  with_reducible rfl
 rotate_left
 ·simp only [Act.put, List.setIfInBounds_toArray, List.set_cons_zero, List.set_cons_succ, i64_w, i32_w]
  rfl
 refine take_ (i := 1) (N := some 7) (v := ?_) (a' := ?_) #[true, true, true, true, true, true, false, false, false, false, false] rfl rfl (by kernel_rfl) (fun _ _ _ h => h) (Or.inl ⟨by rfl, ?_⟩) hHeld ?_ ?_
 rotate_left
 ·rintro w' ⟨s0, s1, s2⟩
  go_simp
  with_reducible rfl
 rotate_left
 ·simp only [Act.put, List.setIfInBounds_toArray, List.set_cons_zero, List.set_cons_succ, i64_w, i32_w]
  rfl
 refine take_ (i := 6) (N := some 12) (v := ?_) (a' := ?_) #[true, true, true, true, true, true, true, false, false, false, false] rfl rfl (by kernel_rfl) (fun _ _ _ h => h) (Or.inl ⟨by rfl, ?_⟩) hHeld ?_ ?_
 rotate_left
 ·rintro w' ⟨s0, s1, s2⟩
  go_simp
  with_reducible rfl
 rotate_left
 ·simp only [Act.put, List.setIfInBounds_toArray, List.set_cons_zero, List.set_cons_succ, i64_w, i32_w]
  rfl
 refine one_ (i := 7) (N := some 13) #[true, true, true, true, true, true, true, true, false, false, false] rfl rfl (by kernel_rfl) (by decide) (fun K hK => ?_)
 refine goes_ Try.func52 (by kernel_rfl) rfl #[.int .i64 all, .int .i64 (1000 * (n + 1)), .int .i64 life] (by rfl) rfl rfl (by simp only [List.map_toArray, List.map_cons, List.map_nil, u1, u2]; rfl) ?_
 refine (bridge_share.calls all (1000 * (n + 1)) life _ _ hs).mono ?_
 rintro e w2 ⟨rfl, ⟨m, rfl⟩⟩
 refine ⟨_, rfl, ?_⟩
 refine hK.out _ _ ⟨(blk_cell (blk_drewN (blk_drew g1) m) 0).trans rfl, (blk_cell (blk_drewN (blk_drew g2) m) 0).trans rfl, (blk_cell (blk_drewN (blk_drew g3) m) 1).trans rfl⟩ (fun hHeld => ?_)
 clear hK K
 refine norm_ (a' := ?_) ?_ ?_
 rotate_left
 ·show Act.put _ (some 13) _ = _
  simp only [Act.put, List.setIfInBounds_toArray, List.set_cons_zero, List.set_cons_succ, i64_w, i32_w]
  rfl
 refine pure_ (i := 8) (N := some 14) (v := ?_) (a' := ?_) #[true, true, true, true, true, true, true, true, true, false, false] rfl rfl (by kernel_rfl) (fun _ _ _ h => h) (Or.inl ⟨by rfl, ?_⟩) ?_ ?_
 rotate_left
 ·intro w'
  go_simp
  with_reducible rfl
 rotate_left
 ·simp only [Act.put, List.setIfInBounds_toArray, List.set_cons_zero, List.set_cons_succ, i64_w, i32_w]
  rfl
 refine pure_ (i := 9) (N := some 15) (v := ?_) (a' := ?_) #[true, true, true, true, true, true, true, true, true, true, false] rfl rfl (by kernel_rfl) (fun _ _ _ h => h) (Or.inl ⟨by rfl, ?_⟩) ?_ ?_
 rotate_left
 ·intro w'
  go_simp
  with_reducible rfl
 rotate_left
 ·simp only [Act.put, List.setIfInBounds_toArray, List.set_cons_zero, List.set_cons_succ, i64_w, i32_w]
  rfl
 refine pure_ (i := 10) (N := some 5) (v := ?_) (a' := ?_) #[true, true, true, true, true, true, true, true, true, true, true] rfl rfl (by kernel_rfl) (fun _ _ _ h => h) (Or.inl ⟨by rfl, ?_⟩) ?_ ?_
 rotate_left
 ·intro w'
  go_simp
  with_reducible rfl
 rotate_left
 ·simp only [Act.put, List.setIfInBounds_toArray, List.set_cons_zero, List.set_cons_succ, i64_w, i32_w]
  rfl
 refine done_ (by kernel_rfl) ?_
 go_wp2
 go_ret
 refine ⟨?_, pw_below_drewN ((Below.refl _ _).drew) m⟩
 simp [leftP, u3]
noncomputable def bridge_Left.f (a0_0 : Int) (a0_1 : Int) (a0_2 : Int) (l1 : List (S35)) (a2 : Int) : Option (Int × Int) :=
 (limO fun n => bridge_wear.f n a0_0 a0_1 a0_2 l1).bind fun we => if we.2 ≠ 0 ∧ we.2 ≠ 4 then some (0, we.2) else if ¬ (0 ≤ a2 ∧ a2 ≤ 1000000) then some (0, 3) else if we.2 ≠ 0 then some (0, we.2) else if we.1 = 0 then some (0, 5) else
  if (0 ≤ we.1 ∧ we.1 ≤ 1073741824) ∧ (1 ≤ a0_1 ∧ a0_1 ≤ 1048576) then some (srch (leftP we.1 a0_1 a2) 1048576 0 1048576, 0) else none
set_option maxRecDepth 100000 in
set_option maxHeartbeats 4000000 in
theorem bridge_Left.calls (a0_0 : Int) (a0_1 : Int) (a0_2 : Int) (A1 : Option Addr) (c1 : Nat) (l1 : List (S35)) (a2 : Int) (r1 : Int) (r2 : Int) (w : World) (hr1 : Kd.C k35 w A1 l1.length l1) (hc1 : l1.length ≤ c1) (h : bridge_Left.f a0_0 a0_1 a0_2 l1 a2 = some (r1, r2)) :
  Calls Try.prog 19 #[.agg #[.int .i64 a0_0, .int .i64 a0_1, .int .i64 a0_2], .slice A1 l1.length c1, .int .i64 a2] w fun e w' => e = .returned (.tuple #[.int .i64 r1, .int .i64 r2]) ∧ Below w.heap.size w w' := by
 unfold bridge_Left.f at h
 have hu43 := Try.underlying43
 obtain ⟨⟨all, er⟩, he0, h⟩ := Option.bind_eq_some_iff.1 h
 obtain ⟨n, hn⟩ := limO_some he0
 simp only at h
 obtain ⟨w1, hw1⟩ : ∃ w1, (w.alloc (.cells #[.int .i64 a0_0, .int .i64 a0_1, .int .i64 a0_2] 43 (0, 0))).alloc (.cells #[.int .i64 a2] 2 (0, 0)) = w1 := ⟨_, rfl⟩
 have hb1 : Below w.heap.size w w1 := by rw [← hw1]; exact ((Below.refl _ _).alloc (Nat.le_refl _) _).alloc (by simp) _
 have hz1 : w1.heap.size = w.heap.size + 2 := by rw [← hw1]; simp
 have h1 : w1.heap[w.heap.size]? = some (.cells #[.int .i64 a0_0, .int .i64 a0_1, .int .i64 a0_2] 43 (0, 0)) := by rw [← hw1]; exact blk_alloc (blk_new _ _) _
 have h2 : w1.heap[w.heap.size + 1]? = some (.cells #[.int .i64 a2] 2 (0, 0)) := by
  rw [← hw1]; have := blk_new (w.alloc (.cells #[.int .i64 a0_0, .int .i64 a0_1, .int .i64 a0_2] 43 (0, 0))) (.cells #[.int .i64 a2] 2 (0, 0)); rwa [World.size_alloc] at this
 have b0 : w1.cell? ⟨w.heap.size, 0, none⟩ = some (.int .i64 a0_0) := (blk_cell h1 0).trans rfl
 have b1 : w1.cell? ⟨w.heap.size, 1, none⟩ = some (.int .i64 a0_1) := (blk_cell h1 1).trans rfl
 have b2 : w1.cell? ⟨w.heap.size, 2, none⟩ = some (.int .i64 a0_2) := (blk_cell h1 2).trans rfl
 refine (callsIn_wide (n := 0)).1 (callsIn_of_wp Try.func19 rfl trivial ?_ rfl)
 simp only [Try.ntmps19, List.size_toArray, List.length_cons, List.length_nil, Nat.reduceAdd, Nat.reduceSub, Array.replicate_succ, Array.replicate_zero, List.push_toArray, List.append_toArray, List.nil_append, List.cons_append]
 gi_wp2
 refine ⟨trivial, rfl, (callsIn_w (bridge_wear.calls n a0_0 a0_1 a0_2 A1 c1 l1 all er w1 (Kd.C_below hr1 hb1) hc1 hn)).mono ?_⟩
 clear b0 b1 b2
 rintro e w2 ⟨rfl, hb2⟩
 have hb3 : Below w.heap.size w w2 := hb1.trans (hb2.mono (by omega))
 have hz2 := hb2.size
 obtain ⟨w3, hw3⟩ : ∃ w3, w2.alloc (.cells #[.int .i64 all] 2 (0, 0)) = w3 := ⟨_, rfl⟩
 have hb4 : Below w2.heap.size w2 w3 := by rw [← hw3]; exact (Below.refl _ _).alloc (Nat.le_refl _) _
 have hb5 : Below w.heap.size w w3 := hb3.trans (hb4.mono hb3.size)
 have g1 := keep_below hb4 (by omega) (keep_below hb2 (by omega) h1)
 have g2 := keep_below hb4 (by omega) (keep_below hb2 (by omega) h2)
 have g3 : w3.heap[w2.heap.size]? = some (.cells #[.int .i64 all] 2 (0, 0)) := by rw [← hw3]; exact blk_new _ _
 have c2 : w3.cell? ⟨w.heap.size + 1, 0, none⟩ = some (.int .i64 a2) := (blk_cell g2 0).trans rfl
 by_cases he : er ≠ 0 ∧ er ≠ 4
 ·rw [if_pos he] at h
  simp only [Option.some.injEq, Prod.mk.injEq] at h
  obtain ⟨rfl, rfl⟩ := h
  obtain ⟨e1, e2⟩ := he
  have x1 : (er != 0) = true := by simpa using e1
  have x2 : (er != 4) = true := by simpa using e2
  have x3 : (er == 0) = false := by simpa using e1
  have x4 : (er == 4) = false := by simpa using e2
  gi_wp2
  refine bodyPost_ret (results_tmp2 rfl _ _ _) rfl ?_
  exact ⟨rfl, hb5⟩
 ·rw [if_neg he] at h
  have hok : bridge_between.f a2 0 1000000 = some (decide (0 ≤ a2 ∧ a2 ≤ 1000000)) := by
   unfold bridge_between.f
   by_cases q : a2 ≥ 0
   ·rw [if_pos q]; simp; omega
   ·rw [if_neg q]; simp; omega
  have hgo : ∀ w4 : World, Drawn0 w3 w4 → Below w.heap.size w w4 ∧ w3.heap.size ≤ w4.heap.size ∧ w4.heap[w.heap.size]? = some (.cells #[.int .i64 a0_0, .int .i64 a0_1, .int .i64 a0_2] 43 (0, 0)) ∧ w4.heap[w.heap.size + 1]? = some (.cells #[.int .i64 a2] 2 (0, 0)) ∧ w4.heap[w2.heap.size]? = some (.cells #[.int .i64 all] 2 (0, 0)) := by
   rintro w4 ⟨m, rfl⟩
   exact ⟨pw_below_drewN hb5 m, Nat.le_refl _, blk_drewN g1 m, blk_drewN g2 m, blk_drewN g3 m⟩
  by_cases e1 : er = 0
  ·subst e1
   gi_wp2
   refine ⟨trivial, rfl, (callsIn_w (bridge_between.calls a2 0 1000000 _ w3 hok)).mono ?_⟩
   clear c2
   rintro e w4 ⟨rfl, hd4⟩
   obtain ⟨b6, z6, k1, k2, k3⟩ := hgo w4 hd4
   by_cases hd : 0 ≤ a2 ∧ a2 ≤ 1000000
   ·rw [if_neg (fun g => g hd), if_neg (by decide)] at h
    rw [decide_eq_true hd]
    have c3 : w4.cell? ⟨w2.heap.size, 0, none⟩ = some (.int .i64 all) := (blk_cell k3 0).trans rfl
    by_cases ha : all = 0
    ·rw [if_pos ha] at h
     simp only [Option.some.injEq, Prod.mk.injEq] at h
     obtain ⟨rfl, rfl⟩ := h
     subst ha
     gi_wp2
     refine bodyPost_ret (results_tmp2 rfl _ _ _) rfl ?_
     exact ⟨rfl, b6⟩
    ·rw [if_neg ha] at h
     by_cases hc : (0 ≤ all ∧ all ≤ 1073741824) ∧ (1 ≤ a0_1 ∧ a0_1 ≤ 1048576)
     ·rw [if_pos hc] at h
      simp only [Option.some.injEq, Prod.mk.injEq] at h
      obtain ⟨rfl, rfl⟩ := h
      have x1 : (all == 0) = false := by simpa using ha
      gi_wp2
      refine ⟨trivial, rfl, (search_in 54 _ (leftP all a0_1 a2) 1048576 w4 (by decide) (by decide) (left_fn (w.heap.size + 1) w2.heap.size w.heap.size a0_0 a0_1 a0_2 all a2 w4 k2 k3 k1 hc.1 hc.2 hd)).mono ?_⟩
      rintro e w5 ⟨rfl, hb6⟩
      gi_wp2
      refine bodyPost_ret (results_tmp2 rfl _ _ _) rfl ?_
      exact ⟨rfl, b6.trans (hb6.mono b6.size)⟩
     ·rw [if_neg hc] at h; cases h
   ·rw [if_pos hd] at h
    simp only [Option.some.injEq, Prod.mk.injEq] at h
    obtain ⟨rfl, rfl⟩ := h
    rw [decide_eq_false hd]
    gi_wp2
    refine bodyPost_ret (results_tmp2 rfl _ _ _) rfl ?_
    exact ⟨rfl, b6⟩
  ·have e2 : er = 4 := by omega
   subst e2
   gi_wp2
   refine ⟨trivial, rfl, (callsIn_w (bridge_between.calls a2 0 1000000 _ w3 hok)).mono ?_⟩
   clear c2
   rintro e w4 ⟨rfl, hd4⟩
   obtain ⟨b6, z6, k1, k2, k3⟩ := hgo w4 hd4
   by_cases hd : 0 ≤ a2 ∧ a2 ≤ 1000000
   ·rw [if_neg (fun g => g hd), if_pos (by decide)] at h
    simp only [Option.some.injEq, Prod.mk.injEq] at h
    obtain ⟨rfl, rfl⟩ := h
    rw [decide_eq_true hd]
    gi_wp2
    refine bodyPost_ret (results_tmp2 rfl _ _ _) rfl ?_
    exact ⟨rfl, b6⟩
   ·rw [if_pos hd] at h
    simp only [Option.some.injEq, Prod.mk.injEq] at h
    obtain ⟨rfl, rfl⟩ := h
    rw [decide_eq_false hd]
    gi_wp2
    refine bodyPost_ret (results_tmp2 rfl _ _ _) rfl ?_
    exact ⟨rfl, b6⟩
end Go.Proofs.Ytiklpefckadgdaa.P
namespace Go.Proofs.Ytiklpefckadgdaa.P
open Go.RowKit Go.Proofs.YtiklpefckadgdaaW.PrintWords Go.Proofs.YtiklpefckadgdaaW.PrintLast Go.Proofs.YtiklpefckadgdaaW.PrintMore
def upI (n d : Int) : Int := (n + d - 1) / d
theorem up_eq {n d : Int} (hn : 0 ≤ n) (hn1 : n ≤ 4611686018427387904) (hd : 1 ≤ d) (hd1 : d ≤ 1048576) : bridge_up.f n d = some (upI n d) := by
 unfold bridge_up.f upI
 rw [if_neg (by omega), w64 (x := n + d) (by omega) (by omega), w64 (x := n + d - 1) (by omega) (by omega), Int.tdiv_eq_ediv_of_nonneg (by omega)]
 have h0 : 0 ≤ (n + d - 1) / d := Int.ediv_nonneg (by omega) (by omega)
 have h1 : (n + d - 1) / d ≤ n + d - 1 := Int.ediv_le_self _ (by omega)
 rw [w64 (by omega) (by omega)]
theorem upI_mono {m n d : Int} (h : m ≤ n) (hd : 1 ≤ d) : upI m d ≤ upI n d := Int.ediv_le_ediv (by omega) (by omega)
theorem upI_nonneg {n d : Int} (hn : 0 ≤ n) (hd : 1 ≤ d) : 0 ≤ upI n d := Int.ediv_nonneg (by omega) (by omega)
theorem upI_le {n d : Int} (hn : 0 ≤ n) (hd : 1 ≤ d) : upI n d ≤ n := by
 unfold upI
 by_cases h : n = 0
 ·subst h
  have : (0 + d - 1) / d = 0 := Int.ediv_eq_zero_of_lt (by omega) (by omega)
  omega
 ·have h1 : (n + d - 1) / d < n + 1 := by
   refine Int.ediv_lt_of_lt_mul (by omega) ?_
   have : n * 1 ≤ n * d := Int.mul_le_mul_of_nonneg_left hd hn
   rw [Int.add_mul]
   omega
  omega
end Go.Proofs.Ytiklpefckadgdaa.P
namespace Go.Proofs.Ytiklpefckadgdaa.P
open Go.RowKit Go.Proofs.YtiklpefckadgdaaW.PrintWords Go.Proofs.YtiklpefckadgdaaW.PrintLast Go.Proofs.YtiklpefckadgdaaW.PrintMore
theorem shareZ_up {a b d : Int} (hab : 0 ≤ a * b) (hd : 1 ≤ d) : shareZ a b d = (a * b + d - 1) / d := by
 unfold shareZ
 generalize a * b = n at *
 have h1 := Int.mul_ediv_add_emod n d
 have h2 := Int.emod_nonneg n (show d ≠ 0 by omega)
 have h3 := Int.emod_lt_of_pos n (show 0 < d by omega)
 generalize n / d = q at *
 generalize n % d = r at *
 by_cases h : 0 < r
 ·rw [if_pos h]
  symm
  refine (Int.ediv_eq_iff_of_pos (by omega)).2 ?_
  rw [Int.add_mul, Int.mul_comm q d]
  omega
 ·rw [if_neg h]
  symm
  refine (Int.ediv_eq_iff_of_pos (by omega)).2 ?_
  rw [Int.mul_comm q d]
  omega
end Go.Proofs.Ytiklpefckadgdaa.P
namespace Go.Proofs.Ytiklpefckadgdaa.O
open Go.RowKit Go.Shelf
def SeqP {α : Type} (P : Program) (g : Nat) (lb : Array Value) (encs : α → Array Value) (L : List α) (T T2 : Nat → Prop) (w : World) : Prop :=
 ∀ (l : Nat) (J Jx : List α → World → Prop) (W : World), Below w.heap.size w W → Firm W.heap.size J → Firm W.heap.size Jx →
  (∀ pre x W1, J pre W1 → (pre ++ [x]) <+: L → YieldAt Fence.wide 0 P l (encs x) W1 fun e W' =>
   (e = .returned (.bool true) ∧ J (pre ++ [x]) W' ∧ Turns (Tor T w.heap.size W.heap.size) W1 W') ∨ (e = .returned (.bool false) ∧ Jx (pre ++ [x]) W' ∧ Turns (Tor T2 w.heap.size W.heap.size) W1 W')) →
  J [] W →
  CallsIn Fence.wide 0 P g (#[.func (.yield l) #[] #[]] ++ lb) W fun e W' => (∃ v, e = .returned v) ∧ (J L W' ∨ ∃ pre, pre <+: L ∧ Jx pre W')
def postP {α : Type} (T T2 : Nat → Prop) (I Ix : List α → World → Prop) (xs : List α) (W : World) : Exit → Act → World → Prop
 | .normal, _, W' => Turns T W W' ∧ I xs W'
 | .ret, _, W' => Turns T2 W W' ∧ Ix xs W'
 | _, _, _ => False
variable {P : Program}
theorem wpIn_rangeFunc_P {α : Type} {g : Operand} {ps : Array Tmp} {assign body : Code} {Q : Exit → Act → World → Prop} {a : Act} {w : World}
  {gf : Nat} {lb : Array Value} (hg : a.eval g = .func (.func gf) #[] lb) (eg : ∀ args w, (callFunc gf args).run P w = .ok (.enter gf args) w)
  {encs : α → Array Value} {L : List α} {T T2 : Nat → Prop} {w0 : World} (hseq : SeqP P gf lb encs L T T2 w0) (hT : ∀ k, T k → k < w.heap.size) (hT2 : ∀ k, T2 k → k < w.heap.size) (hb0 : Below w0.heap.size w0 w) (hps : ∀ x, (encs x).size = ps.size)
  (I Ix : List α → World → Prop) (hI : Firm w.heap.size I) (hIx : Firm w.heap.size Ix) (h0 : I [] w)
  (Ax : α → Act → World → Prop) (hAx : ∀ x a' W r o, Ax x a' W → W.heap[w.heap.size + 1]? = some (.loop r) → Ax x a' (W.putObj (w.heap.size + 1) o))
  (hassign : ∀ (l : Nat) (pre : List α) (x : α) (W : World) (K : Act → World → Prop), I pre W → (pre ++ [x]) <+: L → w.heap.size ≤ W.heap.size → (∀ a' W', Below W.heap.size W W' → Ax x a' W' → K a' W') →
   assign.wpIn (Fence.wide.inRound l) 0 P (Exit.then K (fun _ _ _ => False)) { tmps := (ps.zip (encs x)).foldl (fun t (p, v) => t.setIfInBounds p v) a.tmps, defers := [] } W)
  (hbody : ∀ (l : Nat) (pre : List α) (x : α) (a' : Act) (W : World), I pre W → (pre ++ [x]) <+: L → w.heap.size ≤ W.heap.size → Ax x a' W → body.wpIn (Fence.wide.inRound l) 0 P (postP (Tor T w0.heap.size w.heap.size) (Tor T2 w0.heap.size w.heap.size) I Ix (pre ++ [x]) W) a' W)
  (hdone : ∀ (D : Nat) (W : World), w.heap.size ≤ D → I L W → W.heap[D]? = some (.deferred (some [])) → Q .normal { a with defers := { target := .collected D, args := #[] } :: a.defers } W)
  (hstop : ∀ (D : Nat) (pre : List α) (W : World), w.heap.size ≤ D → pre <+: L → Ix pre W → W.heap[D]? = some (.deferred (some [])) → Code.ret.wpIn Fence.wide 0 P Q { a with defers := { target := .collected D, args := #[] } :: a.defers } W) :
  (Code.rangeFunc g ps assign body).wpIn Fence.wide 0 P Q a w := by
 refine wpIn_rangeFunc fun fn hfn => ?_
 let rec_ : LoopState → Option Code → Loop := fun st pe => { state := st, pending := pe, fn, tmps := a.tmps, params := ps, assign, body, defers := w.heap.size }
 obtain ⟨W1, hW1⟩ : ∃ W1, (w.alloc (.deferred (some []))).alloc (.loop (rec_ .ready none)) = W1 := ⟨_, rfl⟩
 have hs1 : W1.heap.size = w.heap.size + 2 := by rw [← hW1]; simp
 have hL1 : W1.heap[w.heap.size + 1]? = some (.loop (rec_ .ready none)) := by
  rw [← hW1]; have := World.alloc_heap_new (w.alloc (.deferred (some []))) (.loop (rec_ .ready none)); rwa [World.size_alloc] at this
 have hK1 : W1.heap[w.heap.size]? = some (.deferred (some [])) := by
  rw [← hW1]; exact (Below.heap_alloc _ _ _ (by simp)).trans (World.alloc_heap_new w _)
 have hb1 : Below w.heap.size w W1 := by rw [← hW1]; exact ((Below.refl _ w).alloc (Nat.le_refl _) _).alloc (by simp) _
 have hsz := hb0.size
 refine ⟨w.heap.size + 1, [{ target := .collected w.heap.size, args := #[] }], W1, { target := .fn (.func gf) lb, args := #[.func (.yield (w.heap.size + 1)) #[] #[]] }, W1, gf,
  #[.func (.yield (w.heap.size + 1)) #[] #[]] ++ lb, W1, ?_, ?_, fun _ _ => trivial, ?_, (fun h => absurd h (by simp [Fence.wide])), ?_⟩
 ·rw [← hW1]; exact run_enterLoop_outer _ _ _ _ _
 ·simp only [resolve, hg]
  simp [go_sem]
 ·simp [invoke, go_sem, eg]
 ·refine (hseq (w.heap.size + 1)
   (fun pre W => (I pre W ∧ w.heap.size + 2 ≤ W.heap.size) ∧ W.heap[w.heap.size + 1]? = some (.loop (rec_ .ready none)) ∧ W.heap[w.heap.size]? = some (.deferred (some [])))
   (fun pre W => Ix pre W ∧ W.heap[w.heap.size + 1]? = some (.loop (rec_ .done (some .ret))) ∧ W.heap[w.heap.size]? = some (.deferred (some [])))
   W1 (hb0.trans (hb1.mono hsz)) ?_ ?_ ?_ ⟨⟨hI _ _ _ h0 hb1, by omega⟩, hL1, hK1⟩).mono ?_
  ·rintro s A B ⟨⟨hi, hz⟩, hl, hk⟩ hb
   have := hb.size
   exact ⟨⟨hI _ _ _ hi (hb.mono (by omega)), by omega⟩, keep_below hb (by omega) hl, keep_below hb (by omega) hk⟩
  ·rintro s A B ⟨hi, hl, hk⟩ hb
   exact ⟨hIx _ _ _ hi (hb.mono (by omega)), keep_below hb (by omega) hl, keep_below hb (by omega) hk⟩
  ·rintro pre x W ⟨⟨hi, hz⟩, hl, hk⟩ hpre
   have hy := run_yield (P := P) (args := encs x) hl (hps x)
   refine ⟨fn, _, assign, body, hy, roundIn_of_wpIn hfn (hassign _ pre x W _ hi hpre (by omega) ?_)⟩
   intro a' Wa hba hax
   have hza := hba.size
   have hla := keep_below hba (by omega) hl
   have hka := keep_below hba (by omega) hk
   refine ⟨_, run_beginRound hla rfl, ?_⟩
   have hl2 : (Wa.putObj (w.heap.size + 1) (.loop { rec_ .ready none with state := .busy })).heap[w.heap.size + 1]? = some (.loop { rec_ .ready none with state := .busy }) := World.putObj_heap_same (by omega)
   have hk2 : (Wa.putObj (w.heap.size + 1) (.loop { rec_ .ready none with state := .busy })).heap[w.heap.size]? = some (.deferred (some [])) := (World.putObj_heap_other (by omega)).trans hka
   have m1 : Turns (Tor T w0.heap.size W1.heap.size) W (Wa.putObj (w.heap.size + 1) (.loop { rec_ .ready none with state := .busy })) :=
    (Turns.of_below hba).trans (Turns.putObj _ _ (.inr ⟨by omega, by omega⟩))
   have m1' : Turns (Tor T2 w0.heap.size W1.heap.size) W (Wa.putObj (w.heap.size + 1) (.loop { rec_ .ready none with state := .busy })) :=
    (Turns.of_below hba).trans (Turns.putObj _ _ (.inr ⟨by omega, by omega⟩))
   have n1 : ¬ Tor T w0.heap.size w.heap.size (w.heap.size + 1) := fun h => by
    rcases h with h | h
    ·have := hT _ h; omega
    ·omega
   have n2 : ¬ Tor T w0.heap.size w.heap.size w.heap.size := fun h => by
    rcases h with h | h
    ·have := hT _ h; omega
    ·omega
   have n1' : ¬ Tor T2 w0.heap.size w.heap.size (w.heap.size + 1) := fun h => by
    rcases h with h | h
    ·have := hT2 _ h; omega
    ·omega
   have n2' : ¬ Tor T2 w0.heap.size w.heap.size w.heap.size := fun h => by
    rcases h with h | h
    ·have := hT2 _ h; omega
    ·omega
   have n3 : ∀ k, Tor T w0.heap.size w.heap.size k → Tor T w0.heap.size W1.heap.size k := fun k h => h.imp id (fun g => ⟨g.1, by omega⟩)
   have n3' : ∀ k, Tor T2 w0.heap.size w.heap.size k → Tor T2 w0.heap.size W1.heap.size k := fun k h => h.imp id (fun g => ⟨g.1, by omega⟩)
   have i2 := hI _ _ _ (hI _ _ _ hi (hba.mono (by omega))) (below_putObj Wa (.loop { rec_ .ready none with state := .busy }) (show w.heap.size ≤ w.heap.size + 1 by omega))
   refine wpIn_mono (hbody _ pre x a' _ i2 hpre (by simp; omega) (hAx _ _ _ _ _ hax hla)) ?_
   rintro e a3 W3 hp
   cases e with
   | normal =>
    obtain ⟨hm, hi3⟩ := hp
    have hl3 := hm.keeps n1 hl2
    have hk3 := hm.keeps n2 hk2
    have hz3 := (Array.getElem?_eq_some_iff.1 hl3).1
    refine ⟨_, _, run_endRound none hl3, .inl ⟨rfl, ⟨⟨hI _ _ _ hi3 (below_putObj _ _ (by omega)), by simp; omega⟩, World.putObj_heap_same hz3, (World.putObj_heap_other (by omega)).trans hk3⟩, ?_⟩⟩
    exact (m1.trans (hm.weaken n3)).trans (Turns.putObj _ _ (.inr ⟨by omega, by omega⟩))
   | ret =>
    obtain ⟨hm, hi3⟩ := hp
    have hl3 := hm.keeps n1' hl2
    have hk3 := hm.keeps n2' hk2
    have hz3 := (Array.getElem?_eq_some_iff.1 hl3).1
    refine ⟨_, _, run_endRound (some .ret) hl3, .inr ⟨rfl, ⟨hIx _ _ _ hi3 (below_putObj _ _ (by omega)), World.putObj_heap_same hz3, (World.putObj_heap_other (by omega)).trans hk3⟩, ?_⟩⟩
    exact (m1'.trans (hm.weaken n3')).trans (Turns.putObj _ _ (.inr ⟨by omega, by omega⟩))
   | exit id => exact hp.elim
   | goto t => exact hp.elim
   | panic ch => exact hp.elim
   | outgrown => exact hp.elim
  ·rintro e W2 ⟨⟨v, rfl⟩, (⟨⟨hi, _⟩, hl, hk⟩ | ⟨pre, hpre, hi, hl, hk⟩)⟩
   ·exact ⟨none, _, run_endLoop (P := P) hl (by simp [rec_]), hdone _ _ (Nat.le_refl _) (hI _ _ _ hi (below_putObj _ _ (by omega))) ((World.putObj_heap_other (by omega)).trans hk)⟩
   ·exact ⟨some .ret, _, run_endLoop (P := P) hl (by simp [rec_]), hstop _ pre _ (Nat.le_refl _) hpre (hIx _ _ _ hi (below_putObj _ _ (by omega))) ((World.putObj_heap_other (by omega)).trans hk)⟩
theorem SeqP.same {α : Type} {P : Program} {g : Nat} {lb : Array Value} {encs : α → Array Value} {L : List α} {T : Nat → Prop} {w : World} (h : SeqP P g lb encs L T T w) : SeqO P g lb encs L T w := h
end Go.Proofs.Ytiklpefckadgdaa.O
namespace Go.Proofs.Ytiklpefckadgdaa.P
open Go.RowKit Go.Shelf Go.Proofs.Ytiklpefckadgdaa.O Go.Proofs.YtiklpefckadgdaaW.PrintWords Go.Proofs.YtiklpefckadgdaaW.PrintLast Go.Proofs.YtiklpefckadgdaaW.PrintMore
attribute [local go_sem] Oper.semAt_some
def checkedL (spans : List Int) (t : List S35) (k : Nat) (L : Int) : List S29 := (List.range 15).map fun n => momentWorst spans t k L (L * ((n + 1 : Nat) : Int) / 16)
theorem checkedL_len (spans : List Int) (t : List S35) (k : Nat) (L : Int) : (checkedL spans t k L).length = 15 := by simp [checkedL]
theorem checkedL_step (spans : List Int) (t : List S35) (k : Nat) (L : Int) (j : Nat) (h1 : 1 ≤ j) (h2 : j ≤ 15) : (checkedL spans t k L).take j = (checkedL spans t k L).take (j - 1) ++ [momentWorst spans t k L (L * (j : Int) / 16)] := by
 obtain ⟨i, rfl⟩ : ∃ i, j = i + 1 := ⟨j - 1, by omega⟩
 have hi : i < (checkedL spans t k L).length := by rw [checkedL_len]; omega
 rw [List.take_succ_eq_append_getElem hi]
 simp [checkedL]
def ChkInv (tm : Array Bool → Array Value → Option Addr → Nat → Array Value) (w2 : World) (line : Int → Int) (ks : List Int) (listed : Array Bool) (a : Act) (V : World) : Prop :=
 ∃ lb A c, a = { tmps := tm listed lb A c, defers := [] } ∧ Below w2.heap.size w2 V ∧ (listed.getD 4 false = true → LineFn 72 lb line V ∧ Kd.C (Kd.int .i64) V A 3 ks) ∧ listed.getD 9 false = false
set_option maxRecDepth 100000 in
set_option maxHeartbeats 4000000 in
theorem checked_seqp (T2 : Nat → Prop) (Bb Bk Bt c0 c1 c2 ct : Nat) (A0 A1 A2 At : Option Addr) (l0 l1 l2 : List Int) (a3 a4 a5 : Int) (k : Nat) (t : List S35) (w0 : World) (hk : k < l0.length) (hlen : l0.length ≤ 1000000) (htl : t.length ≤ 1000) (hL : 0 ≤ l0[k] ∧ l0[k] ≤ 131072)
  (hb : w0.heap[Bb]? = some (.cells #[.slice A0 l0.length c0, .slice A1 l1.length c1, .slice A2 l2.length c2, .int .i64 a3, .int .i64 a4, .int .i64 a5] 24 (0, 0))) (hkB : w0.heap[Bk]? = some (.cells #[.int .i64 (k : Int)] 3 (0, 0))) (htB : w0.heap[Bt]? = some (.cells #[.slice At t.length ct] 25 (0, 0)))
  (hr0 : Kd.C (Kd.int .i64) w0 A0 l0.length l0) (hc0 : l0.length ≤ c0) (hr1 : Kd.C (Kd.int .i64) w0 A1 l1.length l1) (hc1 : l1.length ≤ c1) (hr2 : Kd.C (Kd.int .i64) w0 A2 l2.length l2) (hc2 : l2.length ≤ c2) (hrt : Kd.C k35 w0 At t.length t) :
  SeqP Try.prog 85 #[.pointer (some ⟨Bb, 0, none⟩), .pointer (some ⟨Bk, 0, none⟩), .pointer (some ⟨Bt, 0, none⟩)] effV (checkedL l0 t k l0[k]) (fun _ => False) T2 w0 := by
 intro l J Jx W hW hJ hJx hY h0
 have hu24 := Try.underlying24
 have hu29 := Try.underlying29
 obtain ⟨ad, rfl, hx0⟩ := Kd.at_int hr0 (k : Int) (by omega) (by omega)
 rw [rd_get l0 k hk, Int.toNat_natCast] at hx0
 have HL := Aside0.mk hL
 clear hL
 refine callsIn_of_wp Try.func85 rfl trivial ?_ rfl
 simp only [Try.ntmps85, List.size_toArray, List.length_cons, List.length_nil, Nat.reduceAdd, Nat.reduceSub, Array.replicate_succ, Array.replicate_zero, List.push_toArray, List.append_toArray, List.nil_append, List.cons_append]
 gi_wp2
 gi_loopw [5] (fun i wr => ∃ j : Nat, 1 ≤ j ∧ j ≤ 16 ∧ i = .int .i64 j ∧ J ((checkedL l0 t k l0[k]).take (j - 1)) wr ∧ Below w0.heap.size w0 wr ∧ W.heap.size ≤ wr.heap.size)
  (fun i _ => 16 - (intOf i).toNat)
 case atStart => exact ⟨1, by omega, by omega, rfl, by simpa using h0, hW, Nat.le_refl _⟩
 case round =>
  rename World => wq
  obtain ⟨j, h1, h2, rfl, hJs, hnx, hsz⟩ := hrel
  by_cases hlt : j ≤ 15
  ·obtain ⟨b0, b1, b2, b3, b4, b5⟩ := cells6 (keep_below hnx (blk_lt hb) hb)
   have ck : wq.cell? ⟨Bk, 0, none⟩ = some (.int .i64 (k : Int)) := (blk_cell (keep_below hnx (blk_lt hkB) hkB) 0).trans rfl
   have cs := (hnx.cell (World.block_lt_of_cell? w0 _ hx0)).trans hx0
   have m0 : 0 ≤ l0[k] * (j : Int) := Int.mul_nonneg HL.out.1 (by omega)
   have m1 : l0[k] * (j : Int) ≤ 131072 * 15 := Int.mul_le_mul HL.out.2 (by omega) (by omega) (by omega)
   generalize hLx : l0[k] = L at *
   obtain ⟨x, hx⟩ : ∃ x, L * (j : Int) / 16 = x := ⟨_, rfl⟩
   obtain ⟨X, hX⟩ : ∃ X, momentWorst l0 t k L x = X := ⟨_, rfl⟩
   have hpx : (checkedL l0 t k L).take (j - 1) ++ [X] = (checkedL l0 t k L).take j := by rw [checkedL_step l0 t k L j h1 hlt, hx, hX]
   unfold momentWorst at hX
   have HX := Aside0.mk hX
   have HP := Aside0.mk hpx
   have Hx := Aside0.mk hx
   have HC := Aside0.mk hLx
   clear hX hpx hx hLx
   gi_wp2
   rw [Hx.out]
   refine wpIn_region_any (by kernel_rfl) ?_
   change wpAnyIn _ _ _ _ _ _ _ _ _ (World.drew wq)
   clear b0 b1 b2 b3 b4 b5 ck cs
   refine wpAnyIn_inv (ChkInv (fun listed lb A c => #[.func (.yield l) #[] #[], .pointer (some ⟨Bb, 0, none⟩), .pointer (some ⟨Bk, 0, none⟩), .pointer (some ⟨Bt, 0, none⟩), undef, .int .i64 (j : Int), .int .i64 (x), .int .i64 (j : Int), .bool true, u9, u10, .pointer (some ⟨Bb, 0, none⟩), .slice (some ad) l0.length c0, .int .i64 (k : Int), .pointer (some (ad.add k)), .int .i64 L, .int .i64 (j : Int), .int .i64 (L * (j : Int)), .int .i64 (x), selOr listed 0 (.func (.yield l) #[] #[]) u19, selOr listed 1 (.agg #[.slice (some ad) l0.length c0, .slice A1 l1.length c1, .slice A2 l2.length c2, .int .i64 a3, .int .i64 a4, .int .i64 a5]) u20, selOr listed 2 (.int .i64 (k : Int)) u21, selOr listed 3 (.int .i64 (x)) u22, selOr listed 4 (.agg #[.func (.func 72) #[] lb, .slice A 3 c]) u23, selOr listed 5 (.slice At t.length ct) u24, selOr listed 6 (.int .i64 (k : Int)) u25, selOr listed 7 (.int .i64 (x)) u26, selOr listed 8 (.agg #[.int .i64 X.f0, .int .i64 X.f1, .int .i64 X.f2, .int .i64 X.f3]) u27, u28, u29]) wq (momentW (startW l0 k) L x) [startW l0 k, wrap64 (startW l0 k + x), wrap64 (startW l0 k + L)])
    9 ?step ?stop2 ?fin 11 _ _ _ (by simp) (closed_none _) ⟨#[], none, 0, by simp [selOr]; omega, (Below.refl _ _).drew, by simp, by simp⟩ (by simp)
   case step =>
    rintro listed a V i hs hc ⟨lb, A, c, rfl, q1, q2, q9⟩ hr hne K hK
    obtain ⟨hlt', hl0⟩ := ready_lt hr
    have hwV : Below w0.heap.size w0 V := hnx.trans (q1.mono hnx.size)
    have hi : i = 0 ∨ i = 1 ∨ i = 2 ∨ i = 3 ∨ i = 4 ∨ i = 5 ∨ i = 6 ∨ i = 7 ∨ i = 8 ∨ i = 10 := by simp at hs; omega
    rcases hi with rfl | rfl | rfl | rfl | rfl | rfl | rfl | rfl | rfl | rfl
    ·refine wpOpIn_of rfl rfl ?_
     clear hr hl0
     gi_wp2
     refine ⟨lb, A, c, ?_, q1, by rw [getD_other hlt' (by decide)]; exact q2, by rw [getD_other hlt' (by decide)]; exact q9⟩
     simp (disch := decide) only [selOr_same hlt', selOr_other hlt']
    ·refine wpOpIn_of rfl rfl ?_
     obtain ⟨b0, b1, b2, b3, b4, b5⟩ := cells6 (keep_below hwV (blk_lt hb) hb)
     clear hr hl0
     gi_wp2
     refine ⟨lb, A, c, ?_, q1, by rw [getD_other hlt' (by decide)]; exact q2, by rw [getD_other hlt' (by decide)]; exact q9⟩
     simp (disch := decide) only [selOr_same hlt', selOr_other hlt']
    ·refine wpOpIn_of rfl rfl ?_
     have ck : V.cell? ⟨Bk, 0, none⟩ = some (.int .i64 (k : Int)) := (blk_cell (keep_below hwV (blk_lt hkB) hkB) 0).trans rfl
     clear hr hl0
     gi_wp2
     refine ⟨lb, A, c, ?_, q1, by rw [getD_other hlt' (by decide)]; exact q2, by rw [getD_other hlt' (by decide)]; exact q9⟩
     simp (disch := decide) only [selOr_same hlt', selOr_other hlt']
    ·refine wpOpIn_of rfl rfl ?_
     clear hr hl0
     gi_wp2
     refine ⟨lb, A, c, ?_, q1, by rw [getD_other hlt' (by decide)]; exact q2, by rw [getD_other hlt' (by decide)]; exact q9⟩
     simp (disch := decide) only [selOr_same hlt', selOr_other hlt']
    ·refine wpOpIn_of rfl rfl ?_
     have d1 : listed.getD 1 false = true := ready_after hr rfl { on := 1, ground := .data } (by simp) rfl
     have d2 : listed.getD 2 false = true := ready_after hr rfl { on := 2, ground := .data } (by simp) rfl
     have d3 : listed.getD 3 false = true := ready_after hr rfl { on := 3, ground := .data } (by simp) rfl
     simp only [selOr_on d1, selOr_on d2, selOr_on d3]
     clear hr
     gi_wp2
     refine ⟨trivial, rfl, (callsIn_w (moment_calls (some ad) A1 A2 c0 c1 c2 l0 l1 l2 a3 a4 a5 k x V hk hlen (Kd.C_below hr0 hwV) hc0 (Kd.C_below hr1 hwV) hc1 (Kd.C_below hr2 hwV) hc2)).mono ?_⟩
     rw [HC.out]
     rintro e V5 ⟨lb5, A5, c5, rfl, hl5, hk5, hb5⟩
     gi_wp2
     have d8 : listed.getD 8 false = false := by
      cases q : listed.getD 8 false
      ·rfl
      ·have := hc 8 _ rfl q { on := 4, ground := .data } (by simp) rfl
       rw [hl0] at this; cases this
     have hs8 : ∀ v u, selOr listed 8 v u = u := fun v u => by unfold selOr; rw [d8, if_neg (by decide)]
     refine ⟨lb5, A5, c5, ?_, q1.trans (hb5.mono q1.size), fun _ => ⟨hl5, hk5⟩, by rw [getD_other hlt' (by decide)]; exact q9⟩
     simp (disch := decide) only [selOr_same hlt', selOr_other hlt', selOr_on d1, selOr_on d2, selOr_on d3]
    ·refine wpOpIn_of rfl rfl ?_
     have ctt : V.cell? ⟨Bt, 0, none⟩ = some (.slice At t.length ct) := (blk_cell (keep_below hwV (blk_lt htB) htB) 0).trans rfl
     clear hr hl0
     gi_wp2
     refine ⟨lb, A, c, ?_, q1, by rw [getD_other hlt' (by decide)]; exact q2, by rw [getD_other hlt' (by decide)]; exact q9⟩
     simp (disch := decide) only [selOr_same hlt', selOr_other hlt']
    ·refine wpOpIn_of rfl rfl ?_
     have ck : V.cell? ⟨Bk, 0, none⟩ = some (.int .i64 (k : Int)) := (blk_cell (keep_below hwV (blk_lt hkB) hkB) 0).trans rfl
     clear hr hl0
     gi_wp2
     refine ⟨lb, A, c, ?_, q1, by rw [getD_other hlt' (by decide)]; exact q2, by rw [getD_other hlt' (by decide)]; exact q9⟩
     simp (disch := decide) only [selOr_same hlt', selOr_other hlt']
    ·refine wpOpIn_of rfl rfl ?_
     clear hr hl0
     gi_wp2
     refine ⟨lb, A, c, ?_, q1, by rw [getD_other hlt' (by decide)]; exact q2, by rw [getD_other hlt' (by decide)]; exact q9⟩
     simp (disch := decide) only [selOr_same hlt', selOr_other hlt']
    ·refine wpOpIn_of rfl rfl ?_
     have d4 : listed.getD 4 false = true := ready_after hr rfl { on := 4, ground := .data } (by simp) rfl
     have d5 : listed.getD 5 false = true := ready_after hr rfl { on := 5, ground := .data } (by simp) rfl
     have d6 : listed.getD 6 false = true := ready_after hr rfl { on := 6, ground := .data } (by simp) rfl
     have d7 : listed.getD 7 false = true := ready_after hr rfl { on := 7, ground := .data } (by simp) rfl
     simp only [selOr_on d4, selOr_on d5, selOr_on d6, selOr_on d7]
     clear hr hl0
     gi_wp2
     obtain ⟨ql, qk⟩ := q2 d4
     refine ⟨trivial, rfl, (worst_in 72 lb _ ct c 3 At A t _ (k : Int) x V ql htl (Kd.C_below hrt hwV) rfl qk).mono ?_⟩
     rw [HX.out]
     rintro e V5 ⟨rfl, hb5⟩
     dsimp only [effC]
     gi_wp2
     refine ⟨lb, A, c, ?_, q1.trans (hb5.mono q1.size), fun _ => ⟨ql.below hb5, Kd.C_below qk hb5⟩, by rw [getD_other hlt' (by decide)]; exact q9⟩
     simp (disch := decide) only [selOr_same hlt', selOr_other hlt', selOr_on d4, selOr_on d5, selOr_on d6, selOr_on d7]
    ·have := ready_after hr rfl { on := 9, ground := .data } (by simp) rfl
     rw [q9] at this; cases this
   case stop2 =>
    rintro listed a V fuel hs hc ⟨lb, A, c, rfl, q1, q2, q9⟩ hr hfuel
    have d0 : listed.getD 0 false = true := ready_after hr rfl { on := 0, ground := .data } (by simp) rfl
    have d8 : listed.getD 8 false = true := ready_after hr rfl { on := 8, ground := .data } (by simp) rfl
    have d4 : listed.getD 4 false = true := hc 8 _ rfl d8 { on := 4, ground := .data } (by simp) rfl
    have d5 : listed.getD 5 false = true := hc 8 _ rfl d8 { on := 5, ground := .data } (by simp) rfl
    have d6 : listed.getD 6 false = true := hc 8 _ rfl d8 { on := 6, ground := .data } (by simp) rfl
    have d7 : listed.getD 7 false = true := hc 8 _ rfl d8 { on := 7, ground := .data } (by simp) rfl
    have d1 : listed.getD 1 false = true := hc 4 _ rfl d4 { on := 1, ground := .data } (by simp) rfl
    have d2 : listed.getD 2 false = true := hc 4 _ rfl d4 { on := 2, ground := .data } (by simp) rfl
    have d3 : listed.getD 3 false = true := hc 4 _ rfl d4 { on := 3, ground := .data } (by simp) rfl
    have d10 : listed.getD 10 false = false := by
     cases h : listed.getD 10 false
     ·rfl
     ·have := hc 10 _ rfl h { on := 9, ground := .data } (by simp) rfl
      rw [q9] at this; cases this
    have hl := arr11 (l := listed) (by simpa using hs)
    rw [d0, d1, d2, d3, d4, d5, d6, d7, d8, q9, d10] at hl
    subst hl
    have hJV := hJ _ _ _ hJs (q1.mono hsz)
    have hwV : Below w0.heap.size w0 V := hnx.trans (q1.mono hnx.size)
    obtain ⟨fn, tmps, assign, body, hy, hR⟩ := hY _ X V hJV (by rw [HP.out]; exact List.take_prefix _ _)
    refine wpOpIn_of rfl rfl ?_
    simp only [selOr_on d0, selOr_on d1, selOr_on d2, selOr_on d3, selOr_on d4, selOr_on d5, selOr_on d6, selOr_on d7, selOr_on d8]
    dsimp only [effV] at hy
    gi_wp2
    refine ⟨rfl, hR.mono ?_⟩
    rw [HP.out]
    rintro e V5 (⟨rfl, hJ5, hm5⟩ | ⟨rfl, hJ5, hm5⟩)
    all_goals
     obtain ⟨fuel', rfl⟩ : ∃ f, fuel = f + 1 := ⟨fuel - 1, by simp at hfuel; omega⟩
     refine wpAnyIn_ready (rs := [10]) (by kernel_rfl) (by simp) (AllReadyIn.cons rfl (fun K hK => ?_) AllReadyIn.nil)
     gi_wp2
     refine wpAnyIn_done (by kernel_rfl) ?_ _
     gi_wp2
    ·have hzw := hW.size
     have hzq := q1.size
     refine ⟨⟨j + 1, by omega, by omega, by simp, by simpa using hJ5, hwV.trans (hm5.below (fun k h => by rcases h with h | h; exact h.elim; omega) hwV.size), by have := hm5.size; omega⟩, by simp [intOf]; omega⟩
    ·refine bodyPost_ret (results_none rfl _ _ _) rfl ?_
     rw [HC.out]
     exact ⟨⟨_, rfl⟩, .inr ⟨_, List.take_prefix _ _, hJ5⟩⟩
   case fin =>
    rintro listed a V hs ⟨lb, A, c, rfl, q1, q2, q9⟩ hr
    exact absurd hr (ready_ne hs (by kernel_rfl) 9 (by simp) q9)
  ·gi_wp2
   go_end0
   have e : j = 16 := by omega
   subst e
   exact ⟨⟨_, rfl⟩, .inl (by rw [List.take_of_length_le (by rw [checkedL_len]; omega)] at hJs; exact hJs)⟩
end Go.Proofs.Ytiklpefckadgdaa.P
namespace Go.Proofs.Ytiklpefckadgdaa.P
open Go.RowKit Go.Proofs.YtiklpefckadgdaaW.PrintWords Go.Proofs.YtiklpefckadgdaaW.PrintLast Go.Proofs.YtiklpefckadgdaaW.PrintMore
theorem effS_le60 {f : Int → Int} {s : Int} {t : List S35} (hf : ∀ a, 0 ≤ f a ∧ f a ≤ 17179869184) (h : errT t = 0) : 0 ≤ effS f s t ∧ effS f s t ≤ 1152921504606846976 := by
 have h1 := effS_bd hf (s := s) (okForces h)
 have h2 := (errT_zero h).2.1
 generalize effS f s t = E at *
 clear h
 omega
theorem place_bd {y : S35} {k : Int} (hy : OkForce y) (hk : 0 ≤ k ∧ k ≤ 1179648) : wrap64 (k + y.f0) = k + y.f0 ∧ 0 ≤ k + y.f0 ∧ k + y.f0 ≤ 1441792 := by
 have := hy.1
 rw [w64 (by omega) (by omega)]; omega
theorem momentWorst_bd {l m s : List Int} {a b c : Int} {t : List S35} {k : Nat} {L x : Int} (h1 : errB l m s a b c = 0) (h2 : errT t = 0) (hL : 0 ≤ L ∧ L ≤ 131072) (hx : 0 ≤ x ∧ x ≤ L) :
  ∃ p, (0 ≤ p ∧ p ≤ 1441792) ∧ momentWorst l t k L x = ⟨effS (fun y => momentI L x (y - startW l k)) p t, (k : Int), x, p⟩ := by
 have hst := startW_bd h1 k
 have hne : t ≠ [] := by rintro rfl; have := (errT_zero h2).1; simp at this
 obtain ⟨⟨p, hp, e⟩, _⟩ := worst_val (momentW (startW l k) L x) t [startW l k, wrap64 (startW l k + x), wrap64 (startW l k + L)] (k : Int) x (breaks_ne hne)
 obtain ⟨y, hy, q, hq, rfl⟩ := mem_breaks.1 hp
 have hq1 : 0 ≤ q ∧ q ≤ 1179648 := by
  rw [w64 (x := startW l k + x) (by omega) (by omega), w64 (x := startW l k + L) (by omega) (by omega)] at hq
  simp only [List.mem_cons, List.not_mem_nil, or_false] at hq
  omega
 obtain ⟨e1, e2⟩ := place_bd (okForces h2 y hy) hq1
 refine ⟨wrap64 (q + y.f0), by rw [e1]; exact e2, ?_⟩
 unfold momentWorst
 rw [e, effW_moment (by omega) hL hx (by rw [e1]; omega) h2]
theorem endWorst_bd {l m s : List Int} {a b c : Int} {t : List S35} {k : Nat} {L point : Int} {right : Bool} (h1 : errB l m s a b c = 0) (h2 : errT t = 0) (hL : 0 ≤ L ∧ L ≤ 131072) :
  ∃ p, (0 ≤ p ∧ p ≤ 1441792) ∧ endWorst l t k L right point = ⟨effS (fun y => endI L right (y - startW l k)) p t, (k : Int), point, p⟩ := by
 have hst := startW_bd h1 k
 have hne : t ≠ [] := by rintro rfl; have := (errT_zero h2).1; simp at this
 obtain ⟨⟨p, hp, e⟩, _⟩ := worst_val (endW (startW l k) L right) t [startW l k, wrap64 (startW l k + L)] (k : Int) point (breaks_ne hne)
 obtain ⟨y, hy, q, hq, rfl⟩ := mem_breaks.1 hp
 have hq1 : 0 ≤ q ∧ q ≤ 1179648 := by
  rw [w64 (x := startW l k + L) (by omega) (by omega)] at hq
  simp only [List.mem_cons, List.not_mem_nil, or_false] at hq
  omega
 obtain ⟨e1, e2⟩ := place_bd (okForces h2 y hy) hq1
 refine ⟨wrap64 (q + y.f0), by rw [e1]; exact e2, ?_⟩
 unfold endWorst
 rw [e, effW_end (by omega) hL (by rw [e1]; omega) h2]
def restV (lanes traffic : Int) (tr : Bool) : Int := if tr = true then (lanes - 1) * traffic else 0
def failM (dyn rest L M : Int) (e : S29) : Bool := decide (shareZ (1000 + dyn) e.f0 (1000 * L) + upI (rest * e.f2 * (L - e.f2)) 2000 > 1000 * M)
def failE (dyn rest L S : Int) (e : S29) : Bool := decide (shareZ (1000 + dyn) e.f0 (1000 * L) + upI (rest * L) 2000 > S)
def spanBad (l0 l1 l2 : List Int) (dyn rest : Int) (t : List S35) (k : Nat) : Option S29 :=
 match (checkedL l0 t k (rd l0 (k : Int))).find? (failM dyn rest (rd l0 (k : Int)) (rd l1 (k : Int))) with
 | some e => some e
 | none => if failE dyn rest (rd l0 (k : Int)) (rd l2 (k : Int)) (endWorst l0 t k (rd l0 (k : Int)) false (-1)) = true then some (endWorst l0 t k (rd l0 (k : Int)) false (-1)) else
  if failE dyn rest (rd l0 (k : Int)) (rd l2 (k : Int)) (endWorst l0 t k (rd l0 (k : Int)) true (-2)) = true then some (endWorst l0 t k (rd l0 (k : Int)) true (-2)) else none
def bearsV (l0 l1 l2 : List Int) (dyn lanes traffic : Int) (t : List S35) (tr : Bool) : Option S29 := (List.range l0.length).findSome? (spanBad l0 l1 l2 dyn (restV lanes traffic tr) t)
def bearsR (o : Option S29) : S29 × Bool := match o with
 | some e => (e, true)
 | none => (z29, false)
theorem restV_bd {l m s : List Int} {a b c : Int} (h : errB l m s a b c = 0) (tr : Bool) : 0 ≤ restV b c tr ∧ restV b c tr ≤ 12288 := by
 obtain ⟨_, _, _, _, _, h1, h2, _⟩ := errB_zero h
 unfold restV
 split
 ·have g1 := Int.mul_nonneg (show 0 ≤ b - 1 by omega) h2.1
  have g2 := Int.mul_le_mul (show b - 1 ≤ 3 by omega) h2.2 h2.1 (by decide)
  omega
 ·decide
theorem share_fit {dyn v L : Int} (hd : 0 ≤ dyn ∧ dyn ≤ 1000) (hv : 0 ≤ v ∧ v ≤ 1152921504606846976) (hL : 100 ≤ L ∧ L ≤ 131072) :
  bridge_share.f (1000 + dyn) v (1000 * L) = some (shareZ (1000 + dyn) v (1000 * L)) ∧ 0 ≤ shareZ (1000 + dyn) v (1000 * L) ∧ shareZ (1000 + dyn) v (1000 * L) ≤ 23058430092136941 := by
 have m0 : 0 ≤ (1000 + dyn) * v := Int.mul_nonneg (by omega) hv.1
 have m1 : (1000 + dyn) * v ≤ 2000 * 1152921504606846976 := Int.mul_le_mul (by omega) hv.2 hv.1 (by decide)
 have q0 : 0 ≤ (1000 + dyn) * v / (1000 * L) := Int.ediv_nonneg m0 (by omega)
 have q1 : (1000 + dyn) * v / (1000 * L) < 23058430092136940 := by
  refine Int.ediv_lt_of_lt_mul (by omega) ?_
  have := Int.mul_le_mul_of_nonneg_left (show 100000 ≤ 1000 * L by omega) (show (0 : Int) ≤ 23058430092136940 by decide)
  omega
 refine ⟨?_, ?_⟩
 ·unfold bridge_share.f shareZ
  rw [if_pos ⟨by omega, hv.1, by omega, by omega, by omega, by omega, by omega⟩]
 ·unfold shareZ
  split <;> omega
end Go.Proofs.Ytiklpefckadgdaa.P
namespace Go.Proofs.Ytiklpefckadgdaa.O
open Go.RowKit Go.Shelf
def Coll (B : Nat) : Nat → List Deferred → World → Prop
 | _, [], _ => True
 | hi, d :: ds, W => ∃ D, B ≤ D ∧ D < hi ∧ d = { target := .collected D, args := #[] } ∧ W.heap[D]? = some (.deferred (some [])) ∧ Coll B D ds W
theorem Coll.below {B : Nat} : ∀ {ds : List Deferred} {hi X : Nat} {W W' : World}, Coll B hi ds W → Below X W W' → hi ≤ X → Coll B hi ds W'
 | [], _, _, _, _, _, _, _ => trivial
 | d :: ds, hi, X, W, W', ⟨D, h1, h2, h3, h4, h5⟩, hb, hX => ⟨D, h1, h2, h3, (hb.block D (by omega)).trans h4, h5.below hb (by omega)⟩
theorem Coll.mono {B : Nat} {ds : List Deferred} {hi hi' : Nat} {W : World} (h : Coll B hi ds W) (hh : hi ≤ hi') : Coll B hi' ds W := by
 cases ds with
 | nil => trivial
 | cons d ds => obtain ⟨D, h1, h2, h3⟩ := h; exact ⟨D, h1, by omega, h3⟩
theorem Coll.push {B : Nat} {ds : List Deferred} {hi D : Nat} {W : World} (h : Coll B hi ds W) (hB : B ≤ D) (hD : hi ≤ D) (hW : W.heap[D]? = some (.deferred (some []))) : Coll B (D + 1) ({ target := .collected D, args := #[] } :: ds) W :=
 ⟨D, hB, by omega, rfl, hW, h.mono hD⟩
theorem Coll.same {B : Nat} : ∀ {ds : List Deferred} {hi : Nat} {W W' : World}, Coll B hi ds W → (∀ k, B ≤ k → k < hi → W'.heap[k]? = W.heap[k]?) → Coll B hi ds W'
 | [], _, _, _, _, _ => trivial
 | d :: ds, hi, W, W', ⟨D, h1, h2, h3, h4, h5⟩, hk => ⟨D, h1, h2, h3, (hk D h1 h2).trans h4, h5.same fun k a b => hk k a (by omega)⟩
theorem leaves_coll {P : Program} {F : Fence} {n B : Nat} {fn : Func} {tmps : Array Value} {R : Ending → World → Prop} : ∀ (ds : List Deferred) (hi : Nat) (W : World), Coll B hi ds W → (∀ W', Below B W W' → LeavesInM F n P fn tmps R [] .returning W') → LeavesInM F n P fn tmps R ds .returning W
 | [], _, W, _, h => h W (Below.refl _ _)
 | d :: ds, hi, W, ⟨D, h1, h2, h3, h4, h5⟩, h => by
  subst h3
  refine ⟨by simp, .inl ⟨_, _, rfl, run_takeDeferred h4, ?_⟩⟩
  refine leaves_coll ds D _ (h5.same fun k _ hk => World.putObj_heap_other (by omega)) fun W' hW' => h W' ((below_putObj _ _ h1).trans hW')
end Go.Proofs.Ytiklpefckadgdaa.O
