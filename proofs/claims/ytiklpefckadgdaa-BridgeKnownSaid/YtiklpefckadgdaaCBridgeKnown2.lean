/- The law BridgeKnown answers true at every input and leaves its arguments as they were; no condition. Part 3 of 5. -/
import Derived.Test.YtiklpefckadgdaaCBridgeKnown0
import Derived.Test.YtiklpefckadgdaaCBridgeKnown1
import Derived.Sort.QuietIn
import Derived.Sort.CutIn
import Derived.BigQuiet
import Derived.Deep.QuietTactic
noncomputable section
namespace Go.Proofs.Ytiklpefckadgdaa.P
open Go.RowKit Go.Proofs.YtiklpefckadgdaaW.PrintWords Go.Proofs.YtiklpefckadgdaaW.PrintLast Go.Proofs.YtiklpefckadgdaaW.PrintMore
attribute [local go_sem] max2_int min2_int max_two min_two max_three min_three max_four min_four   -- for this text's walks alone
set_option linter.unusedVariables false
set_option linter.unusedSimpArgs false
mutual
def bridge_wear.l0 : Nat → Int → List (S35) → Int → Int → Int → Int → Int → Option (Int × Int)
  | 0, _, _, _, _, _, _, _ => none
  | k + 1, x7, x22, x23, x24, x102000, x102001, x102002 => if x24 < x23 then (if 0 ≤ x24 then (if x24 < (x22.length : Int) then ((bridge_up.f (wrap64 (((rd_T35 x22 x24).f1) * 1000)) x102000).bind fun t110 => (bridge_wear.l1 k x7 t110 t110 1 x22 x23 x24 x102000 x102001 x102002)) else (none)) else (none)) else (some (x7, 0))
def bridge_wear.l1 : Nat → Int → Int → Int → Int → List (S35) → Int → Int → Int → Int → Int → Option (Int × Int)
  | 0, _, _, _, _, _, _, _, _, _, _ => none
  | k + 1, x7, x10, x11, x12, x22, x23, x24, x102000, x102001, x102002 => if x12 < x102002 then (if x11 ≤ 1073741824 then ((bridge_up.f (wrap64 (x11 * x10)) 1000).bind fun t111 => (bridge_wear.l1 k x7 x10 t111 (wrap64 (x12 + 1)) x22 x23 x24 x102000 x102001 x102002)) else (if x11 > 1073741824 then (some (0, 4)) else (if (wrap64 (x7 + x11)) > 1073741824 then (some (0, 4)) else (bridge_wear.l0 k (wrap64 (x7 + x11)) x22 x23 (wrap64 (x24 + 1)) x102000 x102001 x102002)))) else (if x11 > 1073741824 then (some (0, 4)) else (if (wrap64 (x7 + x11)) > 1073741824 then (some (0, 4)) else (bridge_wear.l0 k (wrap64 (x7 + x11)) x22 x23 (wrap64 (x24 + 1)) x102000 x102001 x102002)))
end
def bridge_wear.f (k : Nat) (a0_0 : Int) (a0_1 : Int) (a0_2 : Int) (l1 : List (S35)) : Option (Int × Int) := (bridge_CheckPavement.f a0_0 a0_1 a0_2).bind fun t102 => ((bridge_CheckTrain.f k l1).bind fun t103 => ((cmp_Or_80.f k (([t102, t103] : List Int))).bind fun t107 => (if t107 = 0 then (bridge_wear.l0 k 0 l1 (l1.length : Int) 0 a0_0 a0_1 a0_2) else (some (0, t107)))))
theorem bridge_wear.mono_l : ∀ k, (∀ y0 y1 y2 y3 y4 y5 y6, LeO (bridge_wear.l0 k y0 y1 y2 y3 y4 y5 y6) (bridge_wear.l0 (k + 1) y0 y1 y2 y3 y4 y5 y6)) ∧ (∀ y0 y1 y2 y3 y4 y5 y6 y7 y8 y9, LeO (bridge_wear.l1 k y0 y1 y2 y3 y4 y5 y6 y7 y8 y9) (bridge_wear.l1 (k + 1) y0 y1 y2 y3 y4 y5 y6 y7 y8 y9))
  | 0 => ⟨fun _ _ _ _ _ _ _ r h => by simp [bridge_wear.l0] at h, fun _ _ _ _ _ _ _ _ _ _ r h => by simp [bridge_wear.l1] at h⟩
  | k + 1 => by
    obtain ⟨ih0, ih1⟩ := bridge_wear.mono_l k
    refine ⟨?_, ?_⟩
    · intro y0 y1 y2 y3 y4 y5 y6
      unfold bridge_wear.l0
      repeat' first
      | (with_reducible exact ih0 _ _ _ _ _ _ _)
      | (with_reducible exact ih1 _ _ _ _ _ _ _ _ _ _)
      | (with_reducible exact bridge_CheckTrain.mono _ _)
      | (with_reducible exact cmp_Or_80.mono _ _)
      | (with_reducible exact LeO.refl _)
      | (with_reducible exact LeO.none _)
      | (with_reducible refine LeO.ite ?_ ?_)
      | (with_reducible refine LeO.bind ?_ (fun _ => ?_))
      | exact ih0 _ _ _ _ _ _ _
      | exact ih1 _ _ _ _ _ _ _ _ _ _
      | exact bridge_CheckTrain.mono _ _
      | exact cmp_Or_80.mono _ _
      | exact LeO.none _
      | refine LeO.ite ?_ ?_
      | refine LeO.bind ?_ (fun _ => ?_)
    · intro y0 y1 y2 y3 y4 y5 y6 y7 y8 y9
      unfold bridge_wear.l1
      repeat' first
      | (with_reducible exact ih0 _ _ _ _ _ _ _)
      | (with_reducible exact ih1 _ _ _ _ _ _ _ _ _ _)
      | (with_reducible exact bridge_CheckTrain.mono _ _)
      | (with_reducible exact cmp_Or_80.mono _ _)
      | (with_reducible exact LeO.refl _)
      | (with_reducible exact LeO.none _)
      | (with_reducible refine LeO.ite ?_ ?_)
      | (with_reducible refine LeO.bind ?_ (fun _ => ?_))
      | exact ih0 _ _ _ _ _ _ _
      | exact ih1 _ _ _ _ _ _ _ _ _ _
      | exact bridge_CheckTrain.mono _ _
      | exact cmp_Or_80.mono _ _
      | exact LeO.none _
      | refine LeO.ite ?_ ?_
      | refine LeO.bind ?_ (fun _ => ?_)
theorem bridge_wear.mono : ∀ a0 a1 a2 a3 k, LeO (bridge_wear.f k a0 a1 a2 a3) (bridge_wear.f (k + 1) a0 a1 a2 a3) := by
  intro a0 a1 a2 a3 k
  obtain ⟨ih0, ih1⟩ := bridge_wear.mono_l k
  unfold bridge_wear.f
  repeat' first
      | (with_reducible exact ih0 _ _ _ _ _ _ _)
      | (with_reducible exact ih1 _ _ _ _ _ _ _ _ _ _)
      | (with_reducible exact bridge_CheckTrain.mono _ _)
      | (with_reducible exact cmp_Or_80.mono _ _)
      | (with_reducible exact LeO.refl _)
      | (with_reducible exact LeO.none _)
      | (with_reducible refine LeO.ite ?_ ?_)
      | (with_reducible refine LeO.bind ?_ (fun _ => ?_))
      | exact ih0 _ _ _ _ _ _ _
      | exact ih1 _ _ _ _ _ _ _ _ _ _
      | exact bridge_CheckTrain.mono _ _
      | exact cmp_Or_80.mono _ _
      | exact LeO.none _
      | refine LeO.ite ?_ ?_
      | refine LeO.bind ?_ (fun _ => ?_)
set_option maxHeartbeats 8000000 in
set_option maxRecDepth 100000 in
theorem bridge_wear.calls (k : Nat) (a0_0 : Int) (a0_1 : Int) (a0_2 : Int) (A1 : Option Addr) (c1 : Nat) (l1 : List (S35)) (r1 : Int) (r2 : Int) (w : World) (hr1 : Kd.C k35 w A1 l1.length l1) (hc1 : l1.length ≤ c1) (h : bridge_wear.f k a0_0 a0_1 a0_2 l1 = some (r1, r2)) :
    Calls Try.prog 51 #[.agg #[.int .i64 a0_0, .int .i64 a0_1, .int .i64 a0_2], .slice A1 l1.length c1] w fun e w' => e = .returned (.tuple #[.int .i64 r1, .int .i64 r2]) ∧ Below w.heap.size w w' := by
  have hu43 := Try.underlying43
  have hu35 := Try.underlying35
  have HR1 := Aside0.mk hr1
  have HC1 := Aside0.mk hc1
  clear hr1 hc1
  have HB := Aside0.mk (Below.refl w.heap.size w)
  have H : ((bridge_CheckPavement.f a0_0 a0_1 a0_2).bind fun t102 => ((bridge_CheckTrain.f k l1).bind fun t103 => ((cmp_Or_80.f k (([t102, t103] : List Int))).bind fun t107 => (if t107 = 0 then (bridge_wear.l0 k 0 l1 (l1.length : Int) 0 a0_0 a0_1 a0_2) else (some (0, t107)))))) = some (r1, r2) := h
  clear h
  replace H := Option.bind_eq_some_iff.mp H
  obtain ⟨t102, A30, H⟩ := H
  replace H : ((bridge_CheckTrain.f k l1).bind fun t103 => ((cmp_Or_80.f k (([t102, t103] : List Int))).bind fun t107 => (if t107 = 0 then (bridge_wear.l0 k 0 l1 (l1.length : Int) 0 a0_0 a0_1 a0_2) else (some (0, t107))))) = some (r1, r2) := H
  have A3 := Aside0.mk A30
  clear A30
  replace H := Option.bind_eq_some_iff.mp H
  obtain ⟨t103, A40, H⟩ := H
  replace H : ((cmp_Or_80.f k (([t102, t103] : List Int))).bind fun t107 => (if t107 = 0 then (bridge_wear.l0 k 0 l1 (l1.length : Int) 0 a0_0 a0_1 a0_2) else (some (0, t107)))) = some (r1, r2) := H
  have A4 := Aside0.mk A40
  clear A40
  obtain ⟨y104, hy104⟩ : ∃ y_ : List Int, y_ = (([t102, t103] : List Int)) := ⟨_, rfl⟩
  replace H : ((cmp_Or_80.f k y104).bind fun t107 => (if t107 = 0 then (bridge_wear.l0 k 0 l1 (l1.length : Int) 0 a0_0 a0_1 a0_2) else (some (0, t107)))) = some (r1, r2) := by first | (rw [hy104]; with_reducible exact H) | (have H2_ := (Option.bind_some _ _).symm.trans H; rw [hy104]; with_reducible exact H2_) | (have H2_ := (Option.bind_some _ _).symm.trans H; with_reducible exact H2_) | with_reducible exact H | (rw [hy104]; exact H) | exact H
  have Ny104 := Aside0.mk hy104
  clear hy104
  replace H := Option.bind_eq_some_iff.mp H
  obtain ⟨t107, A50, H⟩ := H
  replace H : (if t107 = 0 then (bridge_wear.l0 k 0 l1 (l1.length : Int) 0 a0_0 a0_1 a0_2) else (some (0, t107))) = some (r1, r2) := H
  have A5 := Aside0.mk A50
  clear A50
  by_cases c6 : t107 = 0
  · rw [if_pos c6] at H
    have c6b0 : (t107 == 0) = true := beq_iff_eq.mpr c6
    have c6b1 : (t107 != 0) = false := bne_eq_false_iff_eq.mpr c6
    clear c6
    have H' := Aside0.mk H
    clear H
    go_enter Try.func51, Try.ntmps51
    go_wp2_with (first | ((with_reducible refine gate_dst (N := 2) rfl ?_); refine box_event ?hg (N := 2) ?hd (cs := #[.int .i64 a0_0, .int .i64 a0_1, .int .i64 a0_2]) (t := 43) ?hr ?_; (case hd => rfl); (case hg => rfl); (case hr => first | (go_simp; done) | (go_simp; rfl)); intro gb101 hg w7 hbox hb; have n0_ := Aside0.mk (below_step (by repeat (first | (with_reducible first | exact HB.out | apply below_alloc | apply pw_below_drewN | apply below_drew1) | exact HB.out)) hb); have n1_ := Aside0.mk (hbox); have n2_ := Aside0.mk ((by rw [hg]; exact (below_size (by repeat (first | (with_reducible first | exact HB.out | apply below_alloc | apply pw_below_drewN | apply below_drew1) | exact HB.out))) : w.heap.size ≤ gb101)); have n3_ := Aside0.mk ((by rw [hg]; exact (below_size (by repeat (first | (with_reducible first | exact HB.out | apply below_alloc | apply pw_below_drewN | apply below_drew1) | exact HB.out))) : w.heap.size ≤ gb101)); clear HB; have HB := n0_; have BK101 := n1_; have GW101 := n2_; have GE101 := n3_; clear n0_ n1_ n2_ n3_; clear hb hbox hg; have hcz8_0 : w7.cell? ⟨gb101, 0, none⟩ = some (.int .i64 a0_0) := (blk_cell BK101.out 0).trans rfl; have hcz8_1 : w7.cell? ⟨gb101, 1, none⟩ = some (.int .i64 a0_1) := (blk_cell BK101.out 1).trans rfl; have hcz8_2 : w7.cell? ⟨gb101, 2, none⟩ = some (.int .i64 a0_2) := (blk_cell BK101.out 2).trans rfl; have hfz8_0 := blk_frozen BK101.out 0; have hfz8_1 := blk_frozen BK101.out 1; have hfz8_2 := blk_frozen BK101.out 2) | ((with_reducible refine gate_callee (f := 24) rfl ?_); refine goesL_ (some 14) rfl rfl Try.func24 (by kernel_rfl) rfl #[.agg #[.int .i64 a0_0, .int .i64 a0_1, .int .i64 a0_2]] rfl (by (try simp only [List.map_toArray, List.map_cons, List.map_nil]); first | done | rfl | (simp only [List.length_drop, List.length_take]; rfl)) ?_; (with_reducible refine (bridge_CheckPavement.calls a0_0 a0_1 a0_2 t102 _ A3.out).mono ?_); rintro e w9 ⟨rfl, hb⟩; refine ⟨_, rfl, ?_⟩; have n0_ := Aside0.mk (blk_below (g := gb101) (o := .cells #[.int .i64 a0_0, .int .i64 a0_1, .int .i64 a0_2] 43 (0, 0)) (by (with_reducible repeat (first | refine blk_drewN ?_ _ | refine blk_drew ?_ | refine blk_alloc ?_ _)); exact BK101.out) hb); have n1_ := Aside0.mk (below_step (by repeat (first | (with_reducible first | exact HB.out | apply below_alloc | apply pw_below_drewN | apply below_drew1 | refine below_set ?_ GE101.out) | exact HB.out)) hb); clear BK101; clear HB; have BK101 := n0_; have HB := n1_; clear n0_ n1_; (try clear hb); (try clear hb2); (try clear hk); (try clear hi)) | ((with_reducible refine gate_callee (f := 29) rfl ?_); refine goesL_ (some 16) rfl rfl Try.func29 (by kernel_rfl) rfl #[.slice A1 l1.length c1] rfl (by (try simp only [List.map_toArray, List.map_cons, List.map_nil]); first | done | rfl | (simp only [List.length_drop, List.length_take]; rfl)) ?_; (with_reducible refine (bridge_CheckTrain.calls k _ _ l1 t103 _ ?side1 ?side2 A4.out).mono ?_); (case side1 => repeat (first | exact (Kd.C_below HR1.out HB.out) | (with_reducible refine Kd.C_alloc ?_ _) | (with_reducible refine Kd.C_drewN ?_ _) | (with_reducible refine Kd.C_drew ?_))); (case side2 => exact HC1.out); rintro e w10 ⟨rfl, hb⟩; refine ⟨_, rfl, ?_⟩; have n0_ := Aside0.mk (blk_below (g := gb101) (o := .cells #[.int .i64 a0_0, .int .i64 a0_1, .int .i64 a0_2] 43 (0, 0)) (by (with_reducible repeat (first | refine blk_drewN ?_ _ | refine blk_drew ?_ | refine blk_alloc ?_ _)); exact BK101.out) hb); have n1_ := Aside0.mk (below_step (by repeat (first | (with_reducible first | exact HB.out | apply below_alloc | apply pw_below_drewN | apply below_drew1 | refine below_set ?_ GE101.out) | exact HB.out)) hb); clear BK101; clear HB; have BK101 := n0_; have HB := n1_; clear n0_ n1_; (try clear hb); (try clear hb2); (try clear hk); (try clear hi)) | ((with_reducible refine gate_dst (N := 17) rfl ?_); refine Kd.R_lit (Kd.int .i64) _ 30 ?hg (N := 17) ?hd (xs := ([t102, t103] : List Int)) (inner := [.int .i64 t102, .int .i64 t103]) (ok := fun _ => True) (okp := fun _ => True) ?hr ?hp (fun _ hk => hk) trivial (Below.refl _ _) (Nat.le_refl _) (by simp) ?_; (case hd => rfl); (case hg => rfl); (case hr => first | (go_simp; done) | (go_simp; rfl)); (case hp => exact (Reps.one (show Kd.M (Kd.int .i64) _ _ _ t102 [.int .i64 t102] from rfl) (Reps.one (show Kd.M (Kd.int .i64) _ _ _ t103 [.int .i64 t103] from rfl) (Reps.none _ _)))); intro v105 w11 ho12 hb hg_ hnew_; clear hg_ hnew_; (first | rw [← Ny104.out] at ho12 | (simp only [Int.reduceToNat] at ho12; rw [← Ny104.out] at ho12)); have n0_ := Aside0.mk (Kd.R_lower ho12 (below_size (by repeat (first | (with_reducible first | exact HB.out | apply below_alloc | apply pw_below_drewN | apply below_drew1 | refine below_set ?_ GE101.out) | exact HB.out)))); have n1_ := Aside0.mk (blk_below (g := gb101) (o := .cells #[.int .i64 a0_0, .int .i64 a0_1, .int .i64 a0_2] 43 (0, 0)) (by (with_reducible repeat (first | refine blk_drewN ?_ _ | refine blk_drew ?_ | refine blk_alloc ?_ _)); exact BK101.out) hb); have n2_ := Aside0.mk (below_step (by repeat (first | (with_reducible first | exact HB.out | apply below_alloc | apply pw_below_drewN | apply below_drew1 | refine below_set ?_ GE101.out) | exact HB.out)) hb); clear BK101; clear HB; have HO106 := n0_; have BK101 := n1_; have HB := n2_; clear n0_ n1_ n2_; clear hb ho12; obtain ⟨Ao13, co13, eo13⟩ := Kd.R_slice HO106.out; subst eo13) | ((with_reducible refine gate_callee (f := 80) rfl ?_); refine goesL_ (some 18) rfl rfl Try.func80 (by kernel_rfl) rfl #[.slice Ao13 y104.length co13] rfl (by (try simp only [List.map_toArray, List.map_cons, List.map_nil]); first | done | rfl | (simp only [List.length_drop, List.length_take]; rfl)) ?_; (with_reducible refine (cmp_Or_80.calls k _ _ y104 t107 _ ?side1 ?side2 A5.out).mono ?_); (case side1 => repeat (first | exact (Kd.R_reads' HO106.out).2.2 | (with_reducible refine Kd.C_alloc ?_ _) | (with_reducible refine Kd.C_drewN ?_ _) | (with_reducible refine Kd.C_drew ?_))); (case side2 => exact (Kd.R_reads' HO106.out).2.1); rintro e w' ⟨rfl, ⟨nd, rfl⟩⟩; refine ⟨_, rfl, ?_⟩))
    go_loopg [7, 24] k (fun kq v7 v24 w' => ∃ (x7_1 : Int) (x24_1 : Int), v7 = .int .i64 x7_1 ∧ v24 = .int .i64 x24_1 ∧ Aside0 (bridge_wear.l0 kq x7_1 l1 (l1.length : Int) x24_1 a0_0 a0_1 a0_2 = some (r1, r2)) ∧ Aside0 (kq ≤ k) ∧ Aside0 (w'.heap[gb101]? = some (.cells #[.int .i64 a0_0, .int .i64 a0_1, .int .i64 a0_2] 43 (0, 0))) ∧ Aside0 (Below w.heap.size w w'))
    case atStart => exact ⟨(0), (0), (by first | rfl | (simp; done) | (simp [*]; done)), (by first | rfl | (simp; done) | (simp [*]; done)), H', ⟨Nat.le_refl _⟩, ⟨by (with_reducible repeat (first | refine blk_drewN ?_ _ | refine blk_drew ?_ | refine blk_alloc ?_ _)); exact BK101.out⟩, ⟨by repeat (first | (with_reducible first | exact HB.out | apply below_alloc | apply pw_below_drewN | apply below_drew1 | refine below_set ?_ GE101.out) | exact HB.out)⟩⟩
    case round =>
      clear H'
      try clear c1
      try clear c2
      try clear p2
      try clear c5
      try clear c6
      try clear c6b0
      try clear c6b1
      try clear c8
      try clear hcz8_0
      try clear hcz8_1
      try clear hcz8_2
      try clear hfz8_0
      try clear hfz8_1
      try clear hfz8_2
      obtain ⟨x7_1, x24_1, rfl, rfl, HA, HK1, BK101, HB⟩ := hrel
      cases gk with
      | zero => exact absurd HA.out (by simp [bridge_wear.l0])
      | succ k1 =>
        have H := HA.out
        clear HA
        simp only [bridge_wear.l0] at H
        by_cases c14 : x24_1 < (l1.length : Int)
        · rw [if_pos c14] at H
          have c14b0 : decide (x24_1 < (l1.length : Int)) = true := decide_eq_true c14
          clear c14
          by_cases c15 : 0 ≤ x24_1
          · rw [if_pos c15] at H
            have c15b0 : decide (0 ≤ x24_1) = true := decide_eq_true c15
            clear c15
            by_cases c16 : x24_1 < (l1.length : Int)
            · rw [if_pos c16] at H
              have c16b0 : decide (x24_1 < (l1.length : Int)) = true := decide_eq_true c16
              clear c16
              replace H := Option.bind_eq_some_iff.mp H
              obtain ⟨t110, A170, H⟩ := H
              replace H : (bridge_wear.l1 k1 x7_1 t110 t110 1 l1 (l1.length : Int) x24_1 a0_0 a0_1 a0_2) = some (r1, r2) := H
              have A17 := Aside0.mk A170
              clear A170
              have H' := Aside0.mk H
              clear H
              have p108 : 0 ≤ (x24_1 : Int) := of_decide_eq_true (by first | (with_reducible assumption) | assumption)
              have q108 : x24_1 < (l1.length : Int) := of_decide_eq_true (by first | (with_reducible assumption) | assumption)
              obtain ⟨ad108, e108, hx108_0, hx108_1⟩ := at_T35 HR1.out x24_1 p108 q108
              cases e108
              replace hx108_0 := (HB.out.cell (World.block_lt_of_cell? w _ hx108_0)).trans hx108_0
              replace hx108_1 := (HB.out.cell (World.block_lt_of_cell? w _ hx108_1)).trans hx108_1
              replace p108 := eq_true p108
              replace q108 := eq_true q108
              go_wp2_with (first | ((with_reducible refine gate_dst (N := 9) rfl ?_); refine box_event ?hg (N := 9) ?hd (cs := #[.int .i64 0, .int .i64 0]) (t := 35) ?hr ?_; (case hd => rfl); (case hg => rfl); (case hr => first | (go_simp; done) | (go_simp; rfl)); intro gb109 hg w18 hbox hb; have n0_ := Aside0.mk (blk_below (g := gb101) (o := .cells #[.int .i64 a0_0, .int .i64 a0_1, .int .i64 a0_2] 43 (0, 0)) (by (with_reducible repeat (first | refine blk_drewN ?_ _ | refine blk_drew ?_ | refine blk_alloc ?_ _)); exact BK101.out) hb); have n1_ := Aside0.mk (below_step (by repeat (first | (with_reducible first | exact HB.out | apply below_alloc | apply pw_below_drewN | apply below_drew1 | refine below_set ?_ GE101.out) | exact HB.out)) hb); have n2_ := Aside0.mk (hbox); have n3_ := Aside0.mk ((by rw [hg]; exact (below_size (by repeat (first | (with_reducible first | exact HB.out | apply below_alloc | apply pw_below_drewN | apply below_drew1 | refine below_set ?_ GE101.out) | exact HB.out))) : w.heap.size ≤ gb109)); have n4_ := Aside0.mk ((by rw [hg]; exact (below_size (by repeat (first | (with_reducible first | exact HB.out | apply below_alloc | apply pw_below_drewN | apply below_drew1 | refine below_set ?_ GE101.out) | exact HB.out))) : w.heap.size ≤ gb109)); have n5_ := Aside0.mk ((by rw [hg]; exact Nat.ne_of_lt (blk_lt (g := gb101) (o := .cells #[.int .i64 a0_0, .int .i64 a0_1, .int .i64 a0_2] 43 (0, 0)) (by (with_reducible repeat (first | refine blk_drewN ?_ _ | refine blk_drew ?_ | refine blk_alloc ?_ _)); exact BK101.out)) : gb101 ≠ gb109)); have n6_ := Aside0.mk ((by rw [hg]; exact Nat.ne_of_gt (blk_lt (g := gb101) (o := .cells #[.int .i64 a0_0, .int .i64 a0_1, .int .i64 a0_2] 43 (0, 0)) (by (with_reducible repeat (first | refine blk_drewN ?_ _ | refine blk_drew ?_ | refine blk_alloc ?_ _)); exact BK101.out)) : gb109 ≠ gb101)); clear BK101; clear HB; have BK101 := n0_; have HB := n1_; have BK109 := n2_; have GW109 := n3_; have GE109 := n4_; have NB101_109 := n5_; have NB109_101 := n6_; clear n0_ n1_ n2_ n3_ n4_ n5_ n6_; clear hb hbox hg; have hnb19 := NB109_101.out; have hnc19 := NB101_109.out; have hcz20_0 : w18.cell? ⟨gb109, 0, none⟩ = some (.int .i64 0) := (blk_cell BK109.out 0).trans rfl; have hcz20_1 : w18.cell? ⟨gb109, 1, none⟩ = some (.int .i64 0) := (blk_cell BK109.out 1).trans rfl; have hfz20_0 := blk_frozen BK109.out 0; have hfz20_1 := blk_frozen BK109.out 1; have hcz21_0 : w18.cell? ⟨gb101, 0, none⟩ = some (.int .i64 a0_0) := (blk_cell BK101.out 0).trans rfl; have hcz21_1 : w18.cell? ⟨gb101, 1, none⟩ = some (.int .i64 a0_1) := (blk_cell BK101.out 1).trans rfl; have hcz21_2 : w18.cell? ⟨gb101, 2, none⟩ = some (.int .i64 a0_2) := (blk_cell BK101.out 2).trans rfl; have hfz21_0 := blk_frozen BK101.out 0; have hfz21_1 := blk_frozen BK101.out 1; have hfz21_2 := blk_frozen BK101.out 2) | ((with_reducible refine gate_callee (f := 55) rfl ?_); refine goesL_ (some 33) rfl rfl Try.func55 (by kernel_rfl) rfl #[.int .i64 (wrap64 (((rd_T35 l1 x24_1).f1) * 1000)), .int .i64 a0_0] rfl (by (try simp only [List.map_toArray, List.map_cons, List.map_nil]); first | done | rfl | (simp only [List.length_drop, List.length_take]; rfl)) ?_; (with_reducible refine (bridge_up.calls (wrap64 (((rd_T35 l1 x24_1).f1) * 1000)) a0_0 t110 _ A17.out).mono ?_); rintro e w' ⟨rfl, ⟨nd, rfl⟩⟩; refine ⟨_, rfl, ?_⟩))
              go_loopg [11, 12] k1 (fun kq v11 v12 w' => ∃ (x11_2 : Int) (x12_2 : Int), v11 = .int .i64 x11_2 ∧ v12 = .int .i64 x12_2 ∧ Aside0 (bridge_wear.l1 kq x7_1 t110 x11_2 x12_2 l1 (l1.length : Int) x24_1 a0_0 a0_1 a0_2 = some (r1, r2)) ∧ Aside0 (kq ≤ k1) ∧ Aside0 (w'.heap[gb101]? = some (.cells #[.int .i64 a0_0, .int .i64 a0_1, .int .i64 a0_2] 43 (0, 0))) ∧ Aside0 (w'.heap[gb109]? = some (.cells #[.int .i64 ((rd_T35 l1 x24_1).f0), .int .i64 ((rd_T35 l1 x24_1).f1)] 35 (0, 0))) ∧ Aside0 (Below w.heap.size w w'))
              case atStart => exact ⟨(t110), (1), (by first | rfl | (simp; done) | (simp [*]; done)), (by first | rfl | (simp; done) | (simp [*]; done)), H', ⟨Nat.le_refl _⟩, ⟨by (with_reducible repeat (first | refine blk_drewN ?_ _ | refine blk_drew ?_ | refine blk_alloc ?_ _)); refine blk_far ?_ NB101_109.out _; (with_reducible repeat (first | refine blk_drewN ?_ _ | refine blk_drew ?_ | refine blk_alloc ?_ _)); refine blk_far ?_ NB101_109.out _; (with_reducible repeat (first | refine blk_drewN ?_ _ | refine blk_drew ?_ | refine blk_alloc ?_ _)); exact BK101.out⟩, ⟨by (with_reducible repeat (first | refine blk_drewN ?_ _ | refine blk_drew ?_ | refine blk_alloc ?_ _)); refine blk_put (cs := #[.int .i64 ((rd_T35 l1 x24_1).f0), .int .i64 0]) ?_ 1 _ rfl; (with_reducible repeat (first | refine blk_drewN ?_ _ | refine blk_drew ?_ | refine blk_alloc ?_ _)); refine blk_put (cs := #[.int .i64 0, .int .i64 0]) ?_ 0 _ rfl; (with_reducible repeat (first | refine blk_drewN ?_ _ | refine blk_drew ?_ | refine blk_alloc ?_ _)); exact BK109.out⟩, ⟨by repeat (first | (with_reducible first | exact HB.out | apply below_alloc | apply pw_below_drewN | apply below_drew1 | refine below_set ?_ GE101.out | refine below_set ?_ GE109.out) | exact HB.out)⟩⟩
              case round =>
                clear H'
                try clear c1
                try clear p1
                try clear q1
                try clear hx1
                try clear c2
                try clear p2
                try clear c5
                try clear c6
                try clear c6b0
                try clear c6b1
                try clear p6
                try clear c8
                try clear p10
                try clear q10
                try clear hx10
                try clear c14
                try clear c14b0
                try clear c15
                try clear c15b0
                try clear c16
                try clear c16b0
                try clear c19
                try clear hcz20_0
                try clear hcz20_1
                try clear hcz21_0
                try clear hcz21_1
                try clear hcz21_2
                try clear hcz8_0
                try clear hcz8_1
                try clear hcz8_2
                try clear hfz20_0
                try clear hfz20_1
                try clear hfz21_0
                try clear hfz21_1
                try clear hfz21_2
                try clear hfz8_0
                try clear hfz8_1
                try clear hfz8_2
                try clear hx108_0
                try clear hx108_1
                try clear p108
                try clear p2
                try clear q108
                obtain ⟨x11_2, x12_2, rfl, rfl, HA, HK2, BK101, BK109, HB⟩ := hrel
                cases gk with
                | zero => exact absurd HA.out (by simp [bridge_wear.l1])
                | succ k2 =>
                  have H := HA.out
                  clear HA
                  simp only [bridge_wear.l1] at H
                  by_cases c22 : x12_2 < a0_2
                  · rw [if_pos c22] at H
                    have c22b0 : decide (x12_2 < a0_2) = true := decide_eq_true c22
                    clear c22
                    by_cases c23 : x11_2 ≤ 1073741824
                    · rw [if_pos c23] at H
                      have c23b0 : decide (x11_2 ≤ 1073741824) = true := decide_eq_true c23
                      clear c23
                      replace H := Option.bind_eq_some_iff.mp H
                      obtain ⟨t111, A240, H⟩ := H
                      replace H : (bridge_wear.l1 k2 x7_1 t110 t111 (wrap64 (x12_2 + 1)) l1 (l1.length : Int) x24_1 a0_0 a0_1 a0_2) = some (r1, r2) := H
                      have A24 := Aside0.mk A240
                      clear A240
                      have H' := Aside0.mk H
                      clear H
                      have hnb25 := NB101_109.out
                      have hnc25 := NB109_101.out
                      have hcz26_0 : wr.cell? ⟨gb101, 0, none⟩ = some (.int .i64 a0_0) := (blk_cell BK101.out 0).trans rfl
                      have hcz26_1 : wr.cell? ⟨gb101, 1, none⟩ = some (.int .i64 a0_1) := (blk_cell BK101.out 1).trans rfl
                      have hcz26_2 : wr.cell? ⟨gb101, 2, none⟩ = some (.int .i64 a0_2) := (blk_cell BK101.out 2).trans rfl
                      have hfz26_0 := blk_frozen BK101.out 0
                      have hfz26_1 := blk_frozen BK101.out 1
                      have hfz26_2 := blk_frozen BK101.out 2
                      go_wp2_with (first | ((with_reducible refine gate_callee (f := 55) rfl ?_); refine goesL_ (some 48) rfl rfl Try.func55 (by kernel_rfl) rfl #[.int .i64 (wrap64 (x11_2 * t110)), .int .i64 1000] rfl (by (try simp only [List.map_toArray, List.map_cons, List.map_nil]); first | done | rfl | (simp only [List.length_drop, List.length_take]; rfl)) ?_; (with_reducible refine (bridge_up.calls (wrap64 (x11_2 * t110)) 1000 t111 _ A24.out).mono ?_); rintro e w' ⟨rfl, ⟨nd, rfl⟩⟩; refine ⟨_, rfl, ?_⟩))
                      go_roundg k2
                      case measure => have := HK1.out; have := HK2.out; omega
                      case rel => exact ⟨(t111), (wrap64 (x12_2 + 1)), (by first | rfl | (simp; done) | (simp [*]; done)), (by first | rfl | (simp; done) | (simp [*]; done)), H', ⟨by have := HK1.out; have := HK2.out; omega⟩, ⟨by (with_reducible repeat (first | refine blk_drewN ?_ _ | refine blk_drew ?_ | refine blk_alloc ?_ _)); exact BK101.out⟩, ⟨by (with_reducible repeat (first | refine blk_drewN ?_ _ | refine blk_drew ?_ | refine blk_alloc ?_ _)); exact BK109.out⟩, ⟨by repeat (first | (with_reducible first | exact HB.out | apply below_alloc | apply pw_below_drewN | apply below_drew1 | refine below_set ?_ GE101.out | refine below_set ?_ GE109.out) | exact HB.out)⟩⟩
                    · rw [if_neg c23] at H
                      have c23b0 : decide (x11_2 ≤ 1073741824) = false := decide_eq_false c23
                      clear c23
                      by_cases c27 : x11_2 > 1073741824
                      · rw [if_pos c27] at H
                        have c27b0 : decide (1073741824 < x11_2) = true := decide_eq_true c27
                        clear c27
                        simp only [Option.some.injEq, Prod.mk.injEq] at H
                        obtain ⟨rfl, rfl⟩ := H
                        have hnb28 := NB101_109.out
                        have hnc28 := NB109_101.out
                        have hcz29_0 : wr.cell? ⟨gb101, 0, none⟩ = some (.int .i64 a0_0) := (blk_cell BK101.out 0).trans rfl
                        have hcz29_1 : wr.cell? ⟨gb101, 1, none⟩ = some (.int .i64 a0_1) := (blk_cell BK101.out 1).trans rfl
                        have hcz29_2 : wr.cell? ⟨gb101, 2, none⟩ = some (.int .i64 a0_2) := (blk_cell BK101.out 2).trans rfl
                        have hfz29_0 := blk_frozen BK101.out 0
                        have hfz29_1 := blk_frozen BK101.out 1
                        have hfz29_2 := blk_frozen BK101.out 2
                        go_wp2
                        go_ret2
                        exact ⟨by first | rfl | (simp [errW_none, errW_some] <;> rfl) | (simp [*, errW_none, errW_some] <;> rfl), by repeat (first | (with_reducible first | exact HB.out | apply below_alloc | apply pw_below_drewN | apply below_drew1 | refine below_set ?_ GE101.out | refine below_set ?_ GE109.out) | exact HB.out)⟩
                      · rw [if_neg c27] at H
                        have c27b0 : decide (1073741824 < x11_2) = false := decide_eq_false c27
                        clear c27
                        by_cases c30 : (wrap64 (x7_1 + x11_2)) > 1073741824
                        · rw [if_pos c30] at H
                          have c30b0 : decide (1073741824 < (wrap64 (x7_1 + x11_2))) = true := decide_eq_true c30
                          clear c30
                          simp only [Option.some.injEq, Prod.mk.injEq] at H
                          obtain ⟨rfl, rfl⟩ := H
                          have hnb31 := NB101_109.out
                          have hnc31 := NB109_101.out
                          have hcz32_0 : wr.cell? ⟨gb101, 0, none⟩ = some (.int .i64 a0_0) := (blk_cell BK101.out 0).trans rfl
                          have hcz32_1 : wr.cell? ⟨gb101, 1, none⟩ = some (.int .i64 a0_1) := (blk_cell BK101.out 1).trans rfl
                          have hcz32_2 : wr.cell? ⟨gb101, 2, none⟩ = some (.int .i64 a0_2) := (blk_cell BK101.out 2).trans rfl
                          have hfz32_0 := blk_frozen BK101.out 0
                          have hfz32_1 := blk_frozen BK101.out 1
                          have hfz32_2 := blk_frozen BK101.out 2
                          go_wp2
                          go_ret2
                          exact ⟨by first | rfl | (simp [errW_none, errW_some] <;> rfl) | (simp [*, errW_none, errW_some] <;> rfl), by repeat (first | (with_reducible first | exact HB.out | apply below_alloc | apply pw_below_drewN | apply below_drew1 | refine below_set ?_ GE101.out | refine below_set ?_ GE109.out) | exact HB.out)⟩
                        · rw [if_neg c30] at H
                          have c30b0 : decide (1073741824 < (wrap64 (x7_1 + x11_2))) = false := decide_eq_false c30
                          clear c30
                          have H' := Aside0.mk H
                          clear H
                          have hnb33 := NB101_109.out
                          have hnc33 := NB109_101.out
                          have hcz34_0 : wr.cell? ⟨gb101, 0, none⟩ = some (.int .i64 a0_0) := (blk_cell BK101.out 0).trans rfl
                          have hcz34_1 : wr.cell? ⟨gb101, 1, none⟩ = some (.int .i64 a0_1) := (blk_cell BK101.out 1).trans rfl
                          have hcz34_2 : wr.cell? ⟨gb101, 2, none⟩ = some (.int .i64 a0_2) := (blk_cell BK101.out 2).trans rfl
                          have hfz34_0 := blk_frozen BK101.out 0
                          have hfz34_1 := blk_frozen BK101.out 1
                          have hfz34_2 := blk_frozen BK101.out 2
                          go_wp2
                          go_roundg k2
                          case measure => have := HK1.out; have := HK2.out; omega
                          case rel => exact ⟨(wrap64 (x7_1 + x11_2)), (wrap64 (x24_1 + 1)), (by first | rfl | (simp; done) | (simp [*]; done)), (by first | rfl | (simp; done) | (simp [*]; done)), H', ⟨by have := HK1.out; have := HK2.out; omega⟩, ⟨by (with_reducible repeat (first | refine blk_drewN ?_ _ | refine blk_drew ?_ | refine blk_alloc ?_ _)); exact BK101.out⟩, ⟨by repeat (first | (with_reducible first | exact HB.out | apply below_alloc | apply pw_below_drewN | apply below_drew1 | refine below_set ?_ GE101.out | refine below_set ?_ GE109.out) | exact HB.out)⟩⟩
                  · rw [if_neg c22] at H
                    have c22b0 : decide (x12_2 < a0_2) = false := decide_eq_false c22
                    clear c22
                    by_cases c35 : x11_2 > 1073741824
                    · rw [if_pos c35] at H
                      have c35b0 : decide (1073741824 < x11_2) = true := decide_eq_true c35
                      clear c35
                      simp only [Option.some.injEq, Prod.mk.injEq] at H
                      obtain ⟨rfl, rfl⟩ := H
                      have hnb36 := NB101_109.out
                      have hnc36 := NB109_101.out
                      have hcz37_0 : wr.cell? ⟨gb101, 0, none⟩ = some (.int .i64 a0_0) := (blk_cell BK101.out 0).trans rfl
                      have hcz37_1 : wr.cell? ⟨gb101, 1, none⟩ = some (.int .i64 a0_1) := (blk_cell BK101.out 1).trans rfl
                      have hcz37_2 : wr.cell? ⟨gb101, 2, none⟩ = some (.int .i64 a0_2) := (blk_cell BK101.out 2).trans rfl
                      have hfz37_0 := blk_frozen BK101.out 0
                      have hfz37_1 := blk_frozen BK101.out 1
                      have hfz37_2 := blk_frozen BK101.out 2
                      go_wp2
                      go_ret2
                      exact ⟨by first | rfl | (simp [errW_none, errW_some] <;> rfl) | (simp [*, errW_none, errW_some] <;> rfl), by repeat (first | (with_reducible first | exact HB.out | apply below_alloc | apply pw_below_drewN | apply below_drew1 | refine below_set ?_ GE101.out | refine below_set ?_ GE109.out) | exact HB.out)⟩
                    · rw [if_neg c35] at H
                      have c35b0 : decide (1073741824 < x11_2) = false := decide_eq_false c35
                      clear c35
                      by_cases c38 : (wrap64 (x7_1 + x11_2)) > 1073741824
                      · rw [if_pos c38] at H
                        have c38b0 : decide (1073741824 < (wrap64 (x7_1 + x11_2))) = true := decide_eq_true c38
                        clear c38
                        simp only [Option.some.injEq, Prod.mk.injEq] at H
                        obtain ⟨rfl, rfl⟩ := H
                        have hnb39 := NB101_109.out
                        have hnc39 := NB109_101.out
                        have hcz40_0 : wr.cell? ⟨gb101, 0, none⟩ = some (.int .i64 a0_0) := (blk_cell BK101.out 0).trans rfl
                        have hcz40_1 : wr.cell? ⟨gb101, 1, none⟩ = some (.int .i64 a0_1) := (blk_cell BK101.out 1).trans rfl
                        have hcz40_2 : wr.cell? ⟨gb101, 2, none⟩ = some (.int .i64 a0_2) := (blk_cell BK101.out 2).trans rfl
                        have hfz40_0 := blk_frozen BK101.out 0
                        have hfz40_1 := blk_frozen BK101.out 1
                        have hfz40_2 := blk_frozen BK101.out 2
                        go_wp2
                        go_ret2
                        exact ⟨by first | rfl | (simp [errW_none, errW_some] <;> rfl) | (simp [*, errW_none, errW_some] <;> rfl), by repeat (first | (with_reducible first | exact HB.out | apply below_alloc | apply pw_below_drewN | apply below_drew1 | refine below_set ?_ GE101.out | refine below_set ?_ GE109.out) | exact HB.out)⟩
                      · rw [if_neg c38] at H
                        have c38b0 : decide (1073741824 < (wrap64 (x7_1 + x11_2))) = false := decide_eq_false c38
                        clear c38
                        have H' := Aside0.mk H
                        clear H
                        have hnb41 := NB101_109.out
                        have hnc41 := NB109_101.out
                        have hcz42_0 : wr.cell? ⟨gb101, 0, none⟩ = some (.int .i64 a0_0) := (blk_cell BK101.out 0).trans rfl
                        have hcz42_1 : wr.cell? ⟨gb101, 1, none⟩ = some (.int .i64 a0_1) := (blk_cell BK101.out 1).trans rfl
                        have hcz42_2 : wr.cell? ⟨gb101, 2, none⟩ = some (.int .i64 a0_2) := (blk_cell BK101.out 2).trans rfl
                        have hfz42_0 := blk_frozen BK101.out 0
                        have hfz42_1 := blk_frozen BK101.out 1
                        have hfz42_2 := blk_frozen BK101.out 2
                        go_wp2
                        go_roundg k2
                        case measure => have := HK1.out; have := HK2.out; omega
                        case rel => exact ⟨(wrap64 (x7_1 + x11_2)), (wrap64 (x24_1 + 1)), (by first | rfl | (simp; done) | (simp [*]; done)), (by first | rfl | (simp; done) | (simp [*]; done)), H', ⟨by have := HK1.out; have := HK2.out; omega⟩, ⟨by (with_reducible repeat (first | refine blk_drewN ?_ _ | refine blk_drew ?_ | refine blk_alloc ?_ _)); exact BK101.out⟩, ⟨by repeat (first | (with_reducible first | exact HB.out | apply below_alloc | apply pw_below_drewN | apply below_drew1 | refine below_set ?_ GE101.out | refine below_set ?_ GE109.out) | exact HB.out)⟩⟩
            · rw [if_neg c16] at H
              exact absurd H (by simp)
          · rw [if_neg c15] at H
            exact absurd H (by simp)
        · rw [if_neg c14] at H
          have c14b0 : decide (x24_1 < (l1.length : Int)) = false := decide_eq_false c14
          clear c14
          simp only [Option.some.injEq, Prod.mk.injEq] at H
          obtain ⟨rfl, rfl⟩ := H
          go_wp2
          go_ret2
          exact ⟨by first | rfl | (simp [errW_none, errW_some] <;> rfl) | (simp [*, errW_none, errW_some] <;> rfl), by repeat (first | (with_reducible first | exact HB.out | apply below_alloc | apply pw_below_drewN | apply below_drew1 | refine below_set ?_ GE101.out) | exact HB.out)⟩
  · rw [if_neg c6] at H
    have c6b0 : (t107 == 0) = false := beq_eq_false_iff_ne.mpr c6
    have c6b1 : (t107 != 0) = true := bne_iff_ne.mpr c6
    simp only [Option.some.injEq, Prod.mk.injEq] at H
    obtain ⟨rfl, rfl⟩ := H
    go_enter Try.func51, Try.ntmps51
    go_wp2_with (first | ((with_reducible refine gate_dst (N := 2) rfl ?_); refine box_event ?hg (N := 2) ?hd (cs := #[.int .i64 a0_0, .int .i64 a0_1, .int .i64 a0_2]) (t := 43) ?hr ?_; (case hd => rfl); (case hg => rfl); (case hr => first | (go_simp; done) | (go_simp; rfl)); intro gb101 hg w43 hbox hb; have n0_ := Aside0.mk (below_step (by repeat (first | (with_reducible first | exact HB.out | apply below_alloc | apply pw_below_drewN | apply below_drew1) | exact HB.out)) hb); have n1_ := Aside0.mk (hbox); have n2_ := Aside0.mk ((by rw [hg]; exact (below_size (by repeat (first | (with_reducible first | exact HB.out | apply below_alloc | apply pw_below_drewN | apply below_drew1) | exact HB.out))) : w.heap.size ≤ gb101)); have n3_ := Aside0.mk ((by rw [hg]; exact (below_size (by repeat (first | (with_reducible first | exact HB.out | apply below_alloc | apply pw_below_drewN | apply below_drew1) | exact HB.out))) : w.heap.size ≤ gb101)); clear HB; have HB := n0_; have BK101 := n1_; have GW101 := n2_; have GE101 := n3_; clear n0_ n1_ n2_ n3_; clear hb hbox hg; have hcz44_0 : w43.cell? ⟨gb101, 0, none⟩ = some (.int .i64 a0_0) := (blk_cell BK101.out 0).trans rfl; have hcz44_1 : w43.cell? ⟨gb101, 1, none⟩ = some (.int .i64 a0_1) := (blk_cell BK101.out 1).trans rfl; have hcz44_2 : w43.cell? ⟨gb101, 2, none⟩ = some (.int .i64 a0_2) := (blk_cell BK101.out 2).trans rfl; have hfz44_0 := blk_frozen BK101.out 0; have hfz44_1 := blk_frozen BK101.out 1; have hfz44_2 := blk_frozen BK101.out 2) | ((with_reducible refine gate_callee (f := 24) rfl ?_); refine goesL_ (some 14) rfl rfl Try.func24 (by kernel_rfl) rfl #[.agg #[.int .i64 a0_0, .int .i64 a0_1, .int .i64 a0_2]] rfl (by (try simp only [List.map_toArray, List.map_cons, List.map_nil]); first | done | rfl | (simp only [List.length_drop, List.length_take]; rfl)) ?_; (with_reducible refine (bridge_CheckPavement.calls a0_0 a0_1 a0_2 t102 _ A3.out).mono ?_); rintro e w45 ⟨rfl, hb⟩; refine ⟨_, rfl, ?_⟩; have n0_ := Aside0.mk (blk_below (g := gb101) (o := .cells #[.int .i64 a0_0, .int .i64 a0_1, .int .i64 a0_2] 43 (0, 0)) (by (with_reducible repeat (first | refine blk_drewN ?_ _ | refine blk_drew ?_ | refine blk_alloc ?_ _)); exact BK101.out) hb); have n1_ := Aside0.mk (below_step (by repeat (first | (with_reducible first | exact HB.out | apply below_alloc | apply pw_below_drewN | apply below_drew1 | refine below_set ?_ GE101.out) | exact HB.out)) hb); clear BK101; clear HB; have BK101 := n0_; have HB := n1_; clear n0_ n1_; (try clear hb); (try clear hb2); (try clear hk); (try clear hi)) | ((with_reducible refine gate_callee (f := 29) rfl ?_); refine goesL_ (some 16) rfl rfl Try.func29 (by kernel_rfl) rfl #[.slice A1 l1.length c1] rfl (by (try simp only [List.map_toArray, List.map_cons, List.map_nil]); first | done | rfl | (simp only [List.length_drop, List.length_take]; rfl)) ?_; (with_reducible refine (bridge_CheckTrain.calls k _ _ l1 t103 _ ?side1 ?side2 A4.out).mono ?_); (case side1 => repeat (first | exact (Kd.C_below HR1.out HB.out) | (with_reducible refine Kd.C_alloc ?_ _) | (with_reducible refine Kd.C_drewN ?_ _) | (with_reducible refine Kd.C_drew ?_))); (case side2 => exact HC1.out); rintro e w46 ⟨rfl, hb⟩; refine ⟨_, rfl, ?_⟩; have n0_ := Aside0.mk (blk_below (g := gb101) (o := .cells #[.int .i64 a0_0, .int .i64 a0_1, .int .i64 a0_2] 43 (0, 0)) (by (with_reducible repeat (first | refine blk_drewN ?_ _ | refine blk_drew ?_ | refine blk_alloc ?_ _)); exact BK101.out) hb); have n1_ := Aside0.mk (below_step (by repeat (first | (with_reducible first | exact HB.out | apply below_alloc | apply pw_below_drewN | apply below_drew1 | refine below_set ?_ GE101.out) | exact HB.out)) hb); clear BK101; clear HB; have BK101 := n0_; have HB := n1_; clear n0_ n1_; (try clear hb); (try clear hb2); (try clear hk); (try clear hi)) | ((with_reducible refine gate_dst (N := 17) rfl ?_); refine Kd.R_lit (Kd.int .i64) _ 30 ?hg (N := 17) ?hd (xs := ([t102, t103] : List Int)) (inner := [.int .i64 t102, .int .i64 t103]) (ok := fun _ => True) (okp := fun _ => True) ?hr ?hp (fun _ hk => hk) trivial (Below.refl _ _) (Nat.le_refl _) (by simp) ?_; (case hd => rfl); (case hg => rfl); (case hr => first | (go_simp; done) | (go_simp; rfl)); (case hp => exact (Reps.one (show Kd.M (Kd.int .i64) _ _ _ t102 [.int .i64 t102] from rfl) (Reps.one (show Kd.M (Kd.int .i64) _ _ _ t103 [.int .i64 t103] from rfl) (Reps.none _ _)))); intro v105 w47 ho48 hb hg_ hnew_; clear hg_ hnew_; (first | rw [← Ny104.out] at ho48 | (simp only [Int.reduceToNat] at ho48; rw [← Ny104.out] at ho48)); have n0_ := Aside0.mk (Kd.R_lower ho48 (below_size (by repeat (first | (with_reducible first | exact HB.out | apply below_alloc | apply pw_below_drewN | apply below_drew1 | refine below_set ?_ GE101.out) | exact HB.out)))); have n1_ := Aside0.mk (blk_below (g := gb101) (o := .cells #[.int .i64 a0_0, .int .i64 a0_1, .int .i64 a0_2] 43 (0, 0)) (by (with_reducible repeat (first | refine blk_drewN ?_ _ | refine blk_drew ?_ | refine blk_alloc ?_ _)); exact BK101.out) hb); have n2_ := Aside0.mk (below_step (by repeat (first | (with_reducible first | exact HB.out | apply below_alloc | apply pw_below_drewN | apply below_drew1 | refine below_set ?_ GE101.out) | exact HB.out)) hb); clear BK101; clear HB; have HO106 := n0_; have BK101 := n1_; have HB := n2_; clear n0_ n1_ n2_; clear hb ho48; obtain ⟨Ao49, co49, eo49⟩ := Kd.R_slice HO106.out; subst eo49) | ((with_reducible refine gate_callee (f := 80) rfl ?_); refine goesL_ (some 18) rfl rfl Try.func80 (by kernel_rfl) rfl #[.slice Ao49 y104.length co49] rfl (by (try simp only [List.map_toArray, List.map_cons, List.map_nil]); first | done | rfl | (simp only [List.length_drop, List.length_take]; rfl)) ?_; (with_reducible refine (cmp_Or_80.calls k _ _ y104 t107 _ ?side1 ?side2 A5.out).mono ?_); (case side1 => repeat (first | exact (Kd.R_reads' HO106.out).2.2 | (with_reducible refine Kd.C_alloc ?_ _) | (with_reducible refine Kd.C_drewN ?_ _) | (with_reducible refine Kd.C_drew ?_))); (case side2 => exact (Kd.R_reads' HO106.out).2.1); rintro e w' ⟨rfl, ⟨nd, rfl⟩⟩; refine ⟨_, rfl, ?_⟩))
    go_ret2
    exact ⟨by first | rfl | (simp [errW_none, errW_some] <;> rfl) | (simp [*, errW_none, errW_some] <;> rfl), by repeat (first | (with_reducible first | exact HB.out | apply below_alloc | apply pw_below_drewN | apply below_drew1 | refine below_set ?_ GE101.out) | exact HB.out)⟩
end Go.Proofs.Ytiklpefckadgdaa.P
namespace Go.Proofs.Ytiklpefckadgdaa.P
open Go.RowKit Go.Shelf Go.Proofs.Ytiklpefckadgdaa.O Go.Proofs.YtiklpefckadgdaaW.PrintWords Go.Proofs.YtiklpefckadgdaaW.PrintLast Go.Proofs.YtiklpefckadgdaaW.PrintMore
def shareZ (a b d : Int) : Int := if 0 < a * b % d then a * b / d + 1 else a * b / d
def leftP (all life done : Int) (n : Int) : Bool := decide (done + shareZ all (1000 * (n + 1)) life > 1000000)
set_option maxRecDepth 100000 in
set_option maxHeartbeats 4000000 in
theorem left_fn (B1 B2 B3 : Nat) (load life power all done : Int) (w : World) (h1 : w.heap[B1]? = some (.cells #[.int .i64 done] 2 (0, 0))) (h2 : w.heap[B2]? = some (.cells #[.int .i64 all] 2 (0, 0))) (h3 : w.heap[B3]? = some (.cells #[.int .i64 load, .int .i64 life, .int .i64 power] 43 (0, 0)))
    (ha : 0 ≤ all ∧ all ≤ 1073741824) (hl : 1 ≤ life ∧ life ≤ 1048576) (hd : 0 ≤ done ∧ done ≤ 1000000) :
    PredFn 54 #[.pointer (some ⟨B1, 0, none⟩), .pointer (some ⟨B2, 0, none⟩), .pointer (some ⟨B3, 0, none⟩)] (leftP all life done) 1048576 w := by
  refine ⟨enters_of Try.func54 (by kernel_rfl) rfl, fun n W hn0 hn1 hW => ?_⟩
  have g1 := keep_below hW (blk_lt h1) h1
  have g2 := keep_below hW (blk_lt h2) h2
  have g3 := keep_below hW (blk_lt h3) h3
  have hu43 := Try.underlying43
  show Calls Try.prog 54 #[.int .i64 n, .pointer (some ⟨B1, 0, none⟩), .pointer (some ⟨B2, 0, none⟩), .pointer (some ⟨B3, 0, none⟩)] W _
  have u1 : wrap64 (n + 1) = n + 1 := by unfold wrap64; omega
  have u2 : wrap64 (1000 * (n + 1)) = 1000 * (n + 1) := by unfold wrap64; omega
  have m0 : 0 ≤ all * (1000 * (n + 1)) := Int.mul_nonneg ha.1 (by omega)
  have m1 : all * (1000 * (n + 1)) ≤ 1073741824 * 1048576000 := Int.mul_le_mul ha.2 (by omega) (by omega) (by omega)
  have hq : all * (1000 * (n + 1)) / life ≤ all * (1000 * (n + 1)) := Int.ediv_le_self _ m0
  have hs : bridge_share.f all (1000 * (n + 1)) life = some (shareZ all (1000 * (n + 1)) life) := by
    unfold bridge_share.f shareZ
    rw [if_pos ⟨ha.1, by omega, by omega, by omega, by omega, by omega, by omega⟩]
  have hq0 : 0 ≤ all * (1000 * (n + 1)) / life := Int.ediv_nonneg m0 (by omega)
  have hb : 0 ≤ shareZ all (1000 * (n + 1)) life ∧ shareZ all (1000 * (n + 1)) life ≤ 1125899906842624001 := by
    unfold shareZ; split <;> omega
  have u3 : wrap64 (done + shareZ all (1000 * (n + 1)) life) = done + shareZ all (1000 * (n + 1)) life := by unfold wrap64; omega
  refine calls_of_wp Try.func54 rfl ?_
  simp only [Try.ntmps54, List.size_toArray, List.length_cons, List.length_nil, Nat.reduceAdd, Nat.reduceSub, Array.replicate_succ, Array.replicate_zero, List.push_toArray, List.append_toArray, List.nil_append, List.cons_append]
  go_wp2
  refine start_ (n := 11) (S := fun w' => w'.cell? ⟨B1, 0, none⟩ = some (.int .i64 done) ∧ w'.cell? ⟨B2, 0, none⟩ = some (.int .i64 all) ∧ w'.cell? ⟨B3, 1, none⟩ = some (.int .i64 life)) (ds := []) #[false, false, false, false, false, false, false, false, false, false, false] (by kernel_rfl) rfl rfl ⟨(blk_cell (blk_drew g1) 0).trans rfl, (blk_cell (blk_drew g2) 0).trans rfl, (blk_cell (blk_drew g3) 1).trans rfl⟩ (fun hHeld => ?_)
  refine pure_ (i := 2) (N := some 8) (v := ?_) (a' := ?_) #[false, false, true, false, false, false, false, false, false, false, false] rfl rfl (by kernel_rfl) (fun _ _ _ h => h) (Or.inl ⟨by rfl, ?_⟩) ?_ ?_
  rotate_left
  · intro w'
    go_simp
    with_reducible rfl
  rotate_left
  · simp only [Act.put, List.setIfInBounds_toArray, List.set_cons_zero, List.set_cons_succ, i64_w, i32_w]
    rfl
  refine pure_ (i := 3) (N := some 9) (v := ?_) (a' := ?_) #[false, false, true, true, false, false, false, false, false, false, false] rfl rfl (by kernel_rfl) (fun _ _ _ h => h) (Or.inl ⟨by rfl, ?_⟩) ?_ ?_
  rotate_left
  · intro w'
    go_simp
    with_reducible rfl
  rotate_left
  · simp only [Act.put, List.setIfInBounds_toArray, List.set_cons_zero, List.set_cons_succ, i64_w, i32_w]
    rfl
  refine pure_ (i := 4) (N := some 10) (v := ?_) (a' := ?_) #[false, false, true, true, true, false, false, false, false, false, false] rfl rfl (by kernel_rfl) (fun _ _ _ h => h) (Or.inl ⟨by rfl, ?_⟩) ?_ ?_
  rotate_left
  · intro w'
    go_simp
    with_reducible rfl
  rotate_left
  · simp only [Act.put, List.setIfInBounds_toArray, List.set_cons_zero, List.set_cons_succ, i64_w, i32_w]
    rfl
  refine pure_ (i := 5) (N := some 11) (v := ?_) (a' := ?_) #[false, false, true, true, true, true, false, false, false, false, false] rfl rfl (by kernel_rfl) (fun _ _ _ h => h) (Or.inl ⟨by rfl, ?_⟩) ?_ ?_
  rotate_left
  · intro w'
    go_simp
    with_reducible rfl
  rotate_left
  · simp only [Act.put, List.setIfInBounds_toArray, List.set_cons_zero, List.set_cons_succ, i64_w, i32_w]
    rfl
  refine take_ (i := 0) (N := some 6) (v := ?_) (a' := ?_) #[true, false, true, true, true, true, false, false, false, false, false] rfl rfl (by kernel_rfl) (fun _ _ _ h => h) (Or.inl ⟨by rfl, ?_⟩) hHeld ?_ ?_
  rotate_left
  · rintro w' ⟨s0, s1, s2⟩
    go_simp
    with_reducible rfl
  rotate_left
  · simp only [Act.put, List.setIfInBounds_toArray, List.set_cons_zero, List.set_cons_succ, i64_w, i32_w]
    rfl
  refine take_ (i := 1) (N := some 7) (v := ?_) (a' := ?_) #[true, true, true, true, true, true, false, false, false, false, false] rfl rfl (by kernel_rfl) (fun _ _ _ h => h) (Or.inl ⟨by rfl, ?_⟩) hHeld ?_ ?_
  rotate_left
  · rintro w' ⟨s0, s1, s2⟩
    go_simp
    with_reducible rfl
  rotate_left
  · simp only [Act.put, List.setIfInBounds_toArray, List.set_cons_zero, List.set_cons_succ, i64_w, i32_w]
    rfl
  refine take_ (i := 6) (N := some 12) (v := ?_) (a' := ?_) #[true, true, true, true, true, true, true, false, false, false, false] rfl rfl (by kernel_rfl) (fun _ _ _ h => h) (Or.inl ⟨by rfl, ?_⟩) hHeld ?_ ?_
  rotate_left
  · rintro w' ⟨s0, s1, s2⟩
    go_simp
    with_reducible rfl
  rotate_left
  · simp only [Act.put, List.setIfInBounds_toArray, List.set_cons_zero, List.set_cons_succ, i64_w, i32_w]
    rfl
  refine one_ (i := 7) (N := some 13) #[true, true, true, true, true, true, true, true, false, false, false] rfl rfl (by kernel_rfl) (by decide) (fun K hK => ?_)
  refine goes_ Try.func52 (by kernel_rfl) rfl #[.int .i64 all, .int .i64 (1000 * (n + 1)), .int .i64 life] (by rfl) rfl rfl (by simp only [List.map_toArray, List.map_cons, List.map_nil, u1, u2]; rfl) ?_
  refine (bridge_share.calls all (1000 * (n + 1)) life _ _ hs).mono ?_
  rintro e w2 ⟨rfl, ⟨m, rfl⟩⟩
  refine ⟨_, rfl, ?_⟩
  refine hK.out _ _ ⟨(blk_cell (blk_drewN (blk_drew g1) m) 0).trans rfl, (blk_cell (blk_drewN (blk_drew g2) m) 0).trans rfl, (blk_cell (blk_drewN (blk_drew g3) m) 1).trans rfl⟩ (fun hHeld => ?_)
  clear hK K
  refine norm_ (a' := ?_) ?_ ?_
  rotate_left
  · show Act.put _ (some 13) _ = _
    simp only [Act.put, List.setIfInBounds_toArray, List.set_cons_zero, List.set_cons_succ, i64_w, i32_w]
    rfl
  refine pure_ (i := 8) (N := some 14) (v := ?_) (a' := ?_) #[true, true, true, true, true, true, true, true, true, false, false] rfl rfl (by kernel_rfl) (fun _ _ _ h => h) (Or.inl ⟨by rfl, ?_⟩) ?_ ?_
  rotate_left
  · intro w'
    go_simp
    with_reducible rfl
  rotate_left
  · simp only [Act.put, List.setIfInBounds_toArray, List.set_cons_zero, List.set_cons_succ, i64_w, i32_w]
    rfl
  refine pure_ (i := 9) (N := some 15) (v := ?_) (a' := ?_) #[true, true, true, true, true, true, true, true, true, true, false] rfl rfl (by kernel_rfl) (fun _ _ _ h => h) (Or.inl ⟨by rfl, ?_⟩) ?_ ?_
  rotate_left
  · intro w'
    go_simp
    with_reducible rfl
  rotate_left
  · simp only [Act.put, List.setIfInBounds_toArray, List.set_cons_zero, List.set_cons_succ, i64_w, i32_w]
    rfl
  refine pure_ (i := 10) (N := some 5) (v := ?_) (a' := ?_) #[true, true, true, true, true, true, true, true, true, true, true] rfl rfl (by kernel_rfl) (fun _ _ _ h => h) (Or.inl ⟨by rfl, ?_⟩) ?_ ?_
  rotate_left
  · intro w'
    go_simp
    with_reducible rfl
  rotate_left
  · simp only [Act.put, List.setIfInBounds_toArray, List.set_cons_zero, List.set_cons_succ, i64_w, i32_w]
    rfl
  refine done_ (by kernel_rfl) ?_
  go_wp2
  go_ret
  refine ⟨?_, pw_below_drewN ((Below.refl _ _).drew) m⟩
  simp [leftP, u3]
noncomputable def bridge_Left.f (a0_0 : Int) (a0_1 : Int) (a0_2 : Int) (l1 : List (S35)) (a2 : Int) : Option (Int × Int) :=
  (limO fun n => bridge_wear.f n a0_0 a0_1 a0_2 l1).bind fun we => if we.2 ≠ 0 ∧ we.2 ≠ 4 then some (0, we.2) else if ¬ (0 ≤ a2 ∧ a2 ≤ 1000000) then some (0, 3) else if we.2 ≠ 0 then some (0, we.2) else if we.1 = 0 then some (0, 5) else
    if (0 ≤ we.1 ∧ we.1 ≤ 1073741824) ∧ (1 ≤ a0_1 ∧ a0_1 ≤ 1048576) then some (srch (leftP we.1 a0_1 a2) 1048576 0 1048576, 0) else none
set_option maxRecDepth 100000 in
set_option maxHeartbeats 4000000 in
theorem bridge_Left.calls (a0_0 : Int) (a0_1 : Int) (a0_2 : Int) (A1 : Option Addr) (c1 : Nat) (l1 : List (S35)) (a2 : Int) (r1 : Int) (r2 : Int) (w : World) (hr1 : Kd.C k35 w A1 l1.length l1) (hc1 : l1.length ≤ c1) (h : bridge_Left.f a0_0 a0_1 a0_2 l1 a2 = some (r1, r2)) :
    Calls Try.prog 19 #[.agg #[.int .i64 a0_0, .int .i64 a0_1, .int .i64 a0_2], .slice A1 l1.length c1, .int .i64 a2] w fun e w' => e = .returned (.tuple #[.int .i64 r1, .int .i64 r2]) ∧ Below w.heap.size w w' := by
  unfold bridge_Left.f at h
  have hu43 := Try.underlying43
  obtain ⟨⟨all, er⟩, he0, h⟩ := Option.bind_eq_some_iff.1 h
  obtain ⟨n, hn⟩ := limO_some he0
  simp only at h
  obtain ⟨w1, hw1⟩ : ∃ w1, (w.alloc (.cells #[.int .i64 a0_0, .int .i64 a0_1, .int .i64 a0_2] 43 (0, 0))).alloc (.cells #[.int .i64 a2] 2 (0, 0)) = w1 := ⟨_, rfl⟩
  have hb1 : Below w.heap.size w w1 := by rw [← hw1]; exact ((Below.refl _ _).alloc (Nat.le_refl _) _).alloc (by simp) _
  have hz1 : w1.heap.size = w.heap.size + 2 := by rw [← hw1]; simp
  have h1 : w1.heap[w.heap.size]? = some (.cells #[.int .i64 a0_0, .int .i64 a0_1, .int .i64 a0_2] 43 (0, 0)) := by rw [← hw1]; exact blk_alloc (blk_new _ _) _
  have h2 : w1.heap[w.heap.size + 1]? = some (.cells #[.int .i64 a2] 2 (0, 0)) := by
    rw [← hw1]; have := blk_new (w.alloc (.cells #[.int .i64 a0_0, .int .i64 a0_1, .int .i64 a0_2] 43 (0, 0))) (.cells #[.int .i64 a2] 2 (0, 0)); rwa [World.size_alloc] at this
  have b0 : w1.cell? ⟨w.heap.size, 0, none⟩ = some (.int .i64 a0_0) := (blk_cell h1 0).trans rfl
  have b1 : w1.cell? ⟨w.heap.size, 1, none⟩ = some (.int .i64 a0_1) := (blk_cell h1 1).trans rfl
  have b2 : w1.cell? ⟨w.heap.size, 2, none⟩ = some (.int .i64 a0_2) := (blk_cell h1 2).trans rfl
  refine (callsIn_wide (n := 0)).1 (callsIn_of_wp Try.func19 rfl trivial ?_ rfl)
  simp only [Try.ntmps19, List.size_toArray, List.length_cons, List.length_nil, Nat.reduceAdd, Nat.reduceSub, Array.replicate_succ, Array.replicate_zero, List.push_toArray, List.append_toArray, List.nil_append, List.cons_append]
  gi_wp2
  refine ⟨trivial, rfl, (callsIn_w (bridge_wear.calls n a0_0 a0_1 a0_2 A1 c1 l1 all er w1 (Kd.C_below hr1 hb1) hc1 hn)).mono ?_⟩
  clear b0 b1 b2
  rintro e w2 ⟨rfl, hb2⟩
  have hb3 : Below w.heap.size w w2 := hb1.trans (hb2.mono (by omega))
  have hz2 := hb2.size
  obtain ⟨w3, hw3⟩ : ∃ w3, w2.alloc (.cells #[.int .i64 all] 2 (0, 0)) = w3 := ⟨_, rfl⟩
  have hb4 : Below w2.heap.size w2 w3 := by rw [← hw3]; exact (Below.refl _ _).alloc (Nat.le_refl _) _
  have hb5 : Below w.heap.size w w3 := hb3.trans (hb4.mono hb3.size)
  have g1 := keep_below hb4 (by omega) (keep_below hb2 (by omega) h1)
  have g2 := keep_below hb4 (by omega) (keep_below hb2 (by omega) h2)
  have g3 : w3.heap[w2.heap.size]? = some (.cells #[.int .i64 all] 2 (0, 0)) := by rw [← hw3]; exact blk_new _ _
  have c2 : w3.cell? ⟨w.heap.size + 1, 0, none⟩ = some (.int .i64 a2) := (blk_cell g2 0).trans rfl
  by_cases he : er ≠ 0 ∧ er ≠ 4
  · rw [if_pos he] at h
    simp only [Option.some.injEq, Prod.mk.injEq] at h
    obtain ⟨rfl, rfl⟩ := h
    obtain ⟨e1, e2⟩ := he
    have x1 : (er != 0) = true := by simpa using e1
    have x2 : (er != 4) = true := by simpa using e2
    have x3 : (er == 0) = false := by simpa using e1
    have x4 : (er == 4) = false := by simpa using e2
    gi_wp2
    refine bodyPost_ret (results_tmp2 rfl _ _ _) rfl ?_
    exact ⟨rfl, hb5⟩
  · rw [if_neg he] at h
    have hok : bridge_between.f a2 0 1000000 = some (decide (0 ≤ a2 ∧ a2 ≤ 1000000)) := by
      unfold bridge_between.f
      by_cases q : a2 ≥ 0
      · rw [if_pos q]; simp; omega
      · rw [if_neg q]; simp; omega
    have hgo : ∀ w4 : World, Drawn0 w3 w4 → Below w.heap.size w w4 ∧ w3.heap.size ≤ w4.heap.size ∧ w4.heap[w.heap.size]? = some (.cells #[.int .i64 a0_0, .int .i64 a0_1, .int .i64 a0_2] 43 (0, 0)) ∧ w4.heap[w.heap.size + 1]? = some (.cells #[.int .i64 a2] 2 (0, 0)) ∧ w4.heap[w2.heap.size]? = some (.cells #[.int .i64 all] 2 (0, 0)) := by
      rintro w4 ⟨m, rfl⟩
      exact ⟨pw_below_drewN hb5 m, Nat.le_refl _, blk_drewN g1 m, blk_drewN g2 m, blk_drewN g3 m⟩
    by_cases e1 : er = 0
    · subst e1
      gi_wp2
      refine ⟨trivial, rfl, (callsIn_w (bridge_between.calls a2 0 1000000 _ w3 hok)).mono ?_⟩
      clear c2
      rintro e w4 ⟨rfl, hd4⟩
      obtain ⟨b6, z6, k1, k2, k3⟩ := hgo w4 hd4
      by_cases hd : 0 ≤ a2 ∧ a2 ≤ 1000000
      · rw [if_neg (fun g => g hd), if_neg (by decide)] at h
        rw [decide_eq_true hd]
        have c3 : w4.cell? ⟨w2.heap.size, 0, none⟩ = some (.int .i64 all) := (blk_cell k3 0).trans rfl
        by_cases ha : all = 0
        · rw [if_pos ha] at h
          simp only [Option.some.injEq, Prod.mk.injEq] at h
          obtain ⟨rfl, rfl⟩ := h
          subst ha
          gi_wp2
          refine bodyPost_ret (results_tmp2 rfl _ _ _) rfl ?_
          exact ⟨rfl, b6⟩
        · rw [if_neg ha] at h
          by_cases hc : (0 ≤ all ∧ all ≤ 1073741824) ∧ (1 ≤ a0_1 ∧ a0_1 ≤ 1048576)
          · rw [if_pos hc] at h
            simp only [Option.some.injEq, Prod.mk.injEq] at h
            obtain ⟨rfl, rfl⟩ := h
            have x1 : (all == 0) = false := by simpa using ha
            gi_wp2
            refine ⟨trivial, rfl, (search_in 54 _ (leftP all a0_1 a2) 1048576 w4 (by decide) (by decide) (left_fn (w.heap.size + 1) w2.heap.size w.heap.size a0_0 a0_1 a0_2 all a2 w4 k2 k3 k1 hc.1 hc.2 hd)).mono ?_⟩
            rintro e w5 ⟨rfl, hb6⟩
            gi_wp2
            refine bodyPost_ret (results_tmp2 rfl _ _ _) rfl ?_
            exact ⟨rfl, b6.trans (hb6.mono b6.size)⟩
          · rw [if_neg hc] at h; cases h
      · rw [if_pos hd] at h
        simp only [Option.some.injEq, Prod.mk.injEq] at h
        obtain ⟨rfl, rfl⟩ := h
        rw [decide_eq_false hd]
        gi_wp2
        refine bodyPost_ret (results_tmp2 rfl _ _ _) rfl ?_
        exact ⟨rfl, b6⟩
    · have e2 : er = 4 := by omega
      subst e2
      gi_wp2
      refine ⟨trivial, rfl, (callsIn_w (bridge_between.calls a2 0 1000000 _ w3 hok)).mono ?_⟩
      clear c2
      rintro e w4 ⟨rfl, hd4⟩
      obtain ⟨b6, z6, k1, k2, k3⟩ := hgo w4 hd4
      by_cases hd : 0 ≤ a2 ∧ a2 ≤ 1000000
      · rw [if_neg (fun g => g hd), if_pos (by decide)] at h
        simp only [Option.some.injEq, Prod.mk.injEq] at h
        obtain ⟨rfl, rfl⟩ := h
        rw [decide_eq_true hd]
        gi_wp2
        refine bodyPost_ret (results_tmp2 rfl _ _ _) rfl ?_
        exact ⟨rfl, b6⟩
      · rw [if_pos hd] at h
        simp only [Option.some.injEq, Prod.mk.injEq] at h
        obtain ⟨rfl, rfl⟩ := h
        rw [decide_eq_false hd]
        gi_wp2
        refine bodyPost_ret (results_tmp2 rfl _ _ _) rfl ?_
        exact ⟨rfl, b6⟩
end Go.Proofs.Ytiklpefckadgdaa.P
noncomputable section
namespace Go.Proofs.Ytiklpefckadgdaa.P
open Go.RowKit Go.Proofs.YtiklpefckadgdaaW.PrintWords Go.Proofs.YtiklpefckadgdaaW.PrintLast Go.Proofs.YtiklpefckadgdaaW.PrintMore
attribute [local go_sem] max2_int min2_int max_two min_two max_three min_three max_four min_four   -- for this text's walks alone
set_option linter.unusedVariables false
set_option linter.unusedSimpArgs false
def bridge_Damage.j0 : Nat → Int → Int → Int → Bool → Int → Int → Int → Option (Int × Int)
  | 0, _, _, _, _, _, _, _ => none
  | k + 1, x2, x8, x9, x21, x102000, x102001, x102002 => if x21 = true then (some (0, x9)) else ((bridge_between.f x2 0 1048576).bind fun t104 => (if t104 = true then (if x9 = 0 then ((bridge_share.f x8 (wrap64 (1000 * x2)) x102001).bind fun t105 => (some (t105, 0))) else (some (0, x9))) else (some (0, 3))))
def bridge_Damage.f (k : Nat) (a0_0 : Int) (a0_1 : Int) (a0_2 : Int) (l1 : List (S35)) (a2 : Int) : Option (Int × Int) := (bridge_wear.f k a0_0 a0_1 a0_2 l1).bind fun bt102 => (if bt102.2 = 0 then (bridge_Damage.j0 k a2 bt102.1 bt102.2 false a0_0 a0_1 a0_2) else (bridge_Damage.j0 k a2 bt102.1 bt102.2 (bt102.2 != 4) a0_0 a0_1 a0_2))
theorem bridge_Damage.mono_l : ∀ k, (∀ y0 y1 y2 y3 y4 y5 y6, LeO (bridge_Damage.j0 k y0 y1 y2 y3 y4 y5 y6) (bridge_Damage.j0 (k + 1) y0 y1 y2 y3 y4 y5 y6))
  | 0 => fun _ _ _ _ _ _ _ r h => by simp [bridge_Damage.j0] at h
  | k + 1 => by
    have ih0 := bridge_Damage.mono_l k
    · intro y0 y1 y2 y3 y4 y5 y6
      unfold bridge_Damage.j0
      repeat' first
      | (with_reducible exact ih0 _ _ _ _ _ _ _)
      | (with_reducible exact bridge_wear.mono _ _ _ _ _)
      | (with_reducible exact LeO.refl _)
      | (with_reducible exact LeO.none _)
      | (with_reducible refine LeO.ite ?_ ?_)
      | (with_reducible refine LeO.bind ?_ (fun _ => ?_))
      | exact ih0 _ _ _ _ _ _ _
      | exact bridge_wear.mono _ _ _ _ _
      | exact LeO.none _
      | refine LeO.ite ?_ ?_
      | refine LeO.bind ?_ (fun _ => ?_)
theorem bridge_Damage.mono : ∀ a0 a1 a2 a3 a4 k, LeO (bridge_Damage.f k a0 a1 a2 a3 a4) (bridge_Damage.f (k + 1) a0 a1 a2 a3 a4) := by
  intro a0 a1 a2 a3 a4 k
  have ih0 := bridge_Damage.mono_l k
  unfold bridge_Damage.f
  repeat' first
      | (with_reducible exact ih0 _ _ _ _ _ _ _)
      | (with_reducible exact bridge_wear.mono _ _ _ _ _)
      | (with_reducible exact LeO.refl _)
      | (with_reducible exact LeO.none _)
      | (with_reducible refine LeO.ite ?_ ?_)
      | (with_reducible refine LeO.bind ?_ (fun _ => ?_))
      | exact ih0 _ _ _ _ _ _ _
      | exact bridge_wear.mono _ _ _ _ _
      | exact LeO.none _
      | refine LeO.ite ?_ ?_
      | refine LeO.bind ?_ (fun _ => ?_)
set_option maxHeartbeats 8000000 in
set_option maxRecDepth 100000 in
theorem bridge_Damage.calls (k : Nat) (a0_0 : Int) (a0_1 : Int) (a0_2 : Int) (A1 : Option Addr) (c1 : Nat) (l1 : List (S35)) (a2 : Int) (r1 : Int) (r2 : Int) (w : World) (hr1 : Kd.C k35 w A1 l1.length l1) (hc1 : l1.length ≤ c1) (h : bridge_Damage.f k a0_0 a0_1 a0_2 l1 a2 = some (r1, r2)) :
    Calls Try.prog 18 #[.agg #[.int .i64 a0_0, .int .i64 a0_1, .int .i64 a0_2], .slice A1 l1.length c1, .int .i64 a2] w fun e w' => e = .returned (.tuple #[.int .i64 r1, .int .i64 r2]) ∧ Below w.heap.size w w' := by
  have hu43 := Try.underlying43
  have HR1 := Aside0.mk hr1
  have HC1 := Aside0.mk hc1
  clear hr1 hc1
  have HB := Aside0.mk (Below.refl w.heap.size w)
  have H : ((bridge_wear.f k a0_0 a0_1 a0_2 l1).bind fun bt102 => (if bt102.2 = 0 then (bridge_Damage.j0 k a2 bt102.1 bt102.2 false a0_0 a0_1 a0_2) else (bridge_Damage.j0 k a2 bt102.1 bt102.2 (bt102.2 != 4) a0_0 a0_1 a0_2))) = some (r1, r2) := h
  clear h
  replace H := Option.bind_eq_some_iff.mp H
  obtain ⟨⟨t102, t103⟩, A40, H⟩ := H
  replace H : (if t103 = 0 then (bridge_Damage.j0 k a2 t102 t103 false a0_0 a0_1 a0_2) else (bridge_Damage.j0 k a2 t102 t103 (t103 != 4) a0_0 a0_1 a0_2)) = some (r1, r2) := H
  have A4 := Aside0.mk A40
  clear A40
  have HC5 := Aside0.mk H
  clear H
  go_enter Try.func18, Try.ntmps18
  go_upto_region 2 with (first | ((with_reducible refine gate_dst (N := 3) rfl ?_); refine box_event ?hg (N := 3) ?hd (cs := #[.int .i64 a0_0, .int .i64 a0_1, .int .i64 a0_2]) (t := 43) ?hr ?_; (case hd => rfl); (case hg => rfl); (case hr => first | (go_simp; done) | (go_simp; rfl)); intro gb101 hg w6 hbox hb; have n0_ := Aside0.mk (below_step (by repeat (first | (with_reducible first | exact HB.out | apply below_alloc | apply pw_below_drewN | apply below_drew1) | exact HB.out)) hb); have n1_ := Aside0.mk (hbox); have n2_ := Aside0.mk ((by rw [hg]; exact (below_size (by repeat (first | (with_reducible first | exact HB.out | apply below_alloc | apply pw_below_drewN | apply below_drew1) | exact HB.out))) : w.heap.size ≤ gb101)); have n3_ := Aside0.mk ((by rw [hg]; exact (below_size (by repeat (first | (with_reducible first | exact HB.out | apply below_alloc | apply pw_below_drewN | apply below_drew1) | exact HB.out))) : w.heap.size ≤ gb101)); clear HB; have HB := n0_; have BK101 := n1_; have GW101 := n2_; have GE101 := n3_; clear n0_ n1_ n2_ n3_; clear hb hbox hg; have hcz7_0 : w6.cell? ⟨gb101, 0, none⟩ = some (.int .i64 a0_0) := (blk_cell BK101.out 0).trans rfl; have hcz7_1 : w6.cell? ⟨gb101, 1, none⟩ = some (.int .i64 a0_1) := (blk_cell BK101.out 1).trans rfl; have hcz7_2 : w6.cell? ⟨gb101, 2, none⟩ = some (.int .i64 a0_2) := (blk_cell BK101.out 2).trans rfl; have hfz7_0 := blk_frozen BK101.out 0; have hfz7_1 := blk_frozen BK101.out 1; have hfz7_2 := blk_frozen BK101.out 2) | ((with_reducible refine gate_callee (f := 51) rfl ?_); refine goesL_ (some 13) rfl rfl Try.func51 (by kernel_rfl) rfl #[.agg #[.int .i64 a0_0, .int .i64 a0_1, .int .i64 a0_2], .slice A1 l1.length c1] rfl (by (try simp only [List.map_toArray, List.map_cons, List.map_nil]); first | done | rfl | (simp only [List.length_drop, List.length_take]; rfl)) ?_; (with_reducible refine (bridge_wear.calls k a0_0 a0_1 a0_2 _ _ l1 t102 t103 _ ?side1 ?side2 A4.out).mono ?_); (case side1 => repeat (first | exact (Kd.C_below HR1.out HB.out) | (with_reducible refine Kd.C_alloc ?_ _) | (with_reducible refine Kd.C_drewN ?_ _) | (with_reducible refine Kd.C_drew ?_))); (case side2 => exact HC1.out); rintro e w8 ⟨rfl, hb⟩; refine ⟨_, rfl, ?_⟩; have n0_ := Aside0.mk (blk_below (g := gb101) (o := .cells #[.int .i64 a0_0, .int .i64 a0_1, .int .i64 a0_2] 43 (0, 0)) (by (with_reducible repeat (first | refine blk_drewN ?_ _ | refine blk_drew ?_ | refine blk_alloc ?_ _)); exact BK101.out) hb); have n1_ := Aside0.mk (below_step (by repeat (first | (with_reducible first | exact HB.out | apply below_alloc | apply pw_below_drewN | apply below_drew1 | refine below_set ?_ GE101.out) | exact HB.out)) hb); clear BK101; clear HB; have BK101 := n0_; have HB := n1_; clear n0_ n1_; (try clear hb); (try clear hb2); (try clear hk); (try clear hi)))
  (try simp only [Act.put, List.setIfInBounds_toArray, List.set_cons_zero, List.set_cons_succ])
  go_cut [21] (fun v21 wc => ∃ (kq : Nat) (x21_4 : Bool), v21 = .bool x21_4 ∧ Aside0 (bridge_Damage.j0 kq a2 t102 t103 x21_4 a0_0 a0_1 a0_2 = some (r1, r2)) ∧ Aside0 (kq ≤ k) ∧ Aside0 (wc.heap[gb101]? = some (.cells #[.int .i64 a0_0, .int .i64 a0_1, .int .i64 a0_2] 43 (0, 0))) ∧ Aside0 (Below w.heap.size w wc))
  case first =>
    have H := HC5.out
    clear HC5
    by_cases c9 : t103 = 0
    · rw [if_pos c9] at H
      have c9b0 : (t103 == 0) = true := beq_iff_eq.mpr c9
      have c9b1 : (t103 != 0) = false := bne_eq_false_iff_eq.mpr c9
      clear c9
      (first | rw [c9b0] | (simp only [i64_w, i32_w]; rw [c9b0]) | skip)
      have H' := Aside0.mk H
      clear H
      go_wp2
      go_meet
      case rel => exact ⟨_, (false), (by first | rfl | (simp; done) | (simp [*]; done)), H', ⟨by first | omega | exact Nat.le_refl _⟩, ⟨by (with_reducible repeat (first | refine blk_drewN ?_ _ | refine blk_drew ?_ | refine blk_alloc ?_ _)); exact BK101.out⟩, ⟨by repeat (first | (with_reducible first | exact HB.out | apply below_alloc | apply pw_below_drewN | apply below_drew1 | refine below_set ?_ GE101.out) | exact HB.out)⟩⟩
    · rw [if_neg c9] at H
      have c9b0 : (t103 == 0) = false := beq_eq_false_iff_ne.mpr c9
      have c9b1 : (t103 != 0) = true := bne_iff_ne.mpr c9
      (first | rw [c9b0] | (simp only [i64_w, i32_w]; rw [c9b0]) | skip)
      have H' := Aside0.mk H
      clear H
      go_wp2
      go_meet
      case rel => exact ⟨_, ((t103 != 4)), (by first | rfl | (simp; done) | (simp [*]; done)), H', ⟨by first | omega | exact Nat.le_refl _⟩, ⟨by (with_reducible repeat (first | refine blk_drewN ?_ _ | refine blk_drew ?_ | refine blk_alloc ?_ _)); exact BK101.out⟩, ⟨by repeat (first | (with_reducible first | exact HB.out | apply below_alloc | apply pw_below_drewN | apply below_drew1 | refine below_set ?_ GE101.out) | exact HB.out)⟩⟩
  case rest =>
    clear HC5
    try clear c1
    try clear p2
    try clear c5
    try clear c9
    try clear c9b0
    try clear c9b1
    try clear hcz7_0
    try clear hcz7_1
    try clear hcz7_2
    try clear hfz7_0
    try clear hfz7_1
    try clear hfz7_2
    obtain ⟨kq, x21_4, rfl, HA, HJ4, BK101, HB⟩ := hcut
    cases kq with
    | zero => exact absurd HA.out (by simp [bridge_Damage.j0])
    | succ kj4 =>
      have H := HA.out
      clear HA
      simp only [bridge_Damage.j0] at H
      by_cases c10 : x21_4 = true
      · subst c10
        have H1 : (some (0, t103)) = some (r1, r2) := by rw [if_pos rfl] at H; exact H
        clear H
        have H := H1
        clear H1
        simp only [Option.some.injEq, Prod.mk.injEq] at H
        obtain ⟨rfl, rfl⟩ := H
        go_wp2
        go_ret2
        exact ⟨by first | rfl | (simp [errW_none, errW_some] <;> rfl) | (simp [*, errW_none, errW_some] <;> rfl), by repeat (first | (with_reducible first | exact HB.out | apply below_alloc | apply pw_below_drewN | apply below_drew1 | refine below_set ?_ GE101.out) | exact HB.out)⟩
      · replace c10 := Bool.eq_false_iff.mpr c10
        subst c10
        have H1 : ((bridge_between.f a2 0 1048576).bind fun t104 => (if t104 = true then (if t103 = 0 then ((bridge_share.f t102 (wrap64 (1000 * a2)) a0_1).bind fun t105 => (some (t105, 0))) else (some (0, t103))) else (some (0, 3)))) = some (r1, r2) := by rw [if_neg (show ¬ (false = true) by decide)] at H; exact H
        clear H
        have H := H1
        clear H1
        replace H := Option.bind_eq_some_iff.mp H
        obtain ⟨t104, A110, H⟩ := H
        replace H : (if t104 = true then (if t103 = 0 then ((bridge_share.f t102 (wrap64 (1000 * a2)) a0_1).bind fun t105 => (some (t105, 0))) else (some (0, t103))) else (some (0, 3))) = some (r1, r2) := H
        have A11 := Aside0.mk A110
        clear A110
        by_cases c12 : t104 = true
        · subst c12
          have H1 : (if t103 = 0 then ((bridge_share.f t102 (wrap64 (1000 * a2)) a0_1).bind fun t105 => (some (t105, 0))) else (some (0, t103))) = some (r1, r2) := by rw [if_pos rfl] at H; exact H
          clear H
          have H := H1
          clear H1
          by_cases c13 : t103 = 0
          · rw [if_pos c13] at H
            have c13b0 : (t103 == 0) = true := beq_iff_eq.mpr c13
            have c13b1 : (t103 != 0) = false := bne_eq_false_iff_eq.mpr c13
            clear c13
            replace H := Option.bind_eq_some_iff.mp H
            obtain ⟨t105, A140, H⟩ := H
            replace H : (some (t105, 0)) = some (r1, r2) := H
            have A14 := Aside0.mk A140
            clear A140
            simp only [Option.some.injEq, Prod.mk.injEq] at H
            obtain ⟨rfl, rfl⟩ := H
            go_wp2_with (first | ((with_reducible refine gate_callee (f := 44) rfl ?_); refine goesL_ (some 24) rfl rfl Try.func44 (by kernel_rfl) rfl #[.int .i64 a2, .int .i64 0, .int .i64 1048576] rfl (by (try simp only [List.map_toArray, List.map_cons, List.map_nil]); first | done | rfl | (simp only [List.length_drop, List.length_take]; rfl)) ?_; (with_reducible refine (bridge_between.calls a2 0 1048576 true _ A11.out).mono ?_); rintro e w' ⟨rfl, ⟨nd, rfl⟩⟩; refine ⟨_, rfl, ?_⟩; have hcz15_0 : wc.cell? ⟨gb101, 0, none⟩ = some (.int .i64 a0_0) := (blk_cell BK101.out 0).trans rfl; have hcz15_1 : wc.cell? ⟨gb101, 1, none⟩ = some (.int .i64 a0_1) := (blk_cell BK101.out 1).trans rfl; have hcz15_2 : wc.cell? ⟨gb101, 2, none⟩ = some (.int .i64 a0_2) := (blk_cell BK101.out 2).trans rfl; have hfz15_0 := blk_frozen BK101.out 0; have hfz15_1 := blk_frozen BK101.out 1; have hfz15_2 := blk_frozen BK101.out 2) | ((with_reducible refine gate_callee (f := 52) rfl ?_); refine goesL_ (some 34) rfl rfl Try.func52 (by kernel_rfl) rfl #[.int .i64 t102, .int .i64 (wrap64 (1000 * a2)), .int .i64 a0_1] rfl (by (try simp only [List.map_toArray, List.map_cons, List.map_nil]); first | done | rfl | (simp only [List.length_drop, List.length_take]; rfl)) ?_; (with_reducible refine (bridge_share.calls t102 (wrap64 (1000 * a2)) a0_1 t105 _ A14.out).mono ?_); rintro e w' ⟨rfl, ⟨nd, rfl⟩⟩; refine ⟨_, rfl, ?_⟩))
            go_ret2
            exact ⟨by first | rfl | (simp [errW_none, errW_some] <;> rfl) | (simp [*, errW_none, errW_some] <;> rfl), by repeat (first | (with_reducible first | exact HB.out | apply below_alloc | apply pw_below_drewN | apply below_drew1 | refine below_set ?_ GE101.out) | exact HB.out)⟩
          · rw [if_neg c13] at H
            have c13b0 : (t103 == 0) = false := beq_eq_false_iff_ne.mpr c13
            have c13b1 : (t103 != 0) = true := bne_iff_ne.mpr c13
            simp only [Option.some.injEq, Prod.mk.injEq] at H
            obtain ⟨rfl, rfl⟩ := H
            go_wp2_with (first | ((with_reducible refine gate_callee (f := 44) rfl ?_); refine goesL_ (some 24) rfl rfl Try.func44 (by kernel_rfl) rfl #[.int .i64 a2, .int .i64 0, .int .i64 1048576] rfl (by (try simp only [List.map_toArray, List.map_cons, List.map_nil]); first | done | rfl | (simp only [List.length_drop, List.length_take]; rfl)) ?_; (with_reducible refine (bridge_between.calls a2 0 1048576 true _ A11.out).mono ?_); rintro e w' ⟨rfl, ⟨nd, rfl⟩⟩; refine ⟨_, rfl, ?_⟩))
            go_ret2
            exact ⟨by first | rfl | (simp [errW_none, errW_some] <;> rfl) | (simp [*, errW_none, errW_some] <;> rfl), by repeat (first | (with_reducible first | exact HB.out | apply below_alloc | apply pw_below_drewN | apply below_drew1 | refine below_set ?_ GE101.out) | exact HB.out)⟩
        · replace c12 := Bool.eq_false_iff.mpr c12
          subst c12
          have H1 : (some (0, 3)) = some (r1, r2) := by rw [if_neg (show ¬ (false = true) by decide)] at H; exact H
          clear H
          have H := H1
          clear H1
          simp only [Option.some.injEq, Prod.mk.injEq] at H
          obtain ⟨rfl, rfl⟩ := H
          go_wp2_with (first | ((with_reducible refine gate_callee (f := 44) rfl ?_); refine goesL_ (some 24) rfl rfl Try.func44 (by kernel_rfl) rfl #[.int .i64 a2, .int .i64 0, .int .i64 1048576] rfl (by (try simp only [List.map_toArray, List.map_cons, List.map_nil]); first | done | rfl | (simp only [List.length_drop, List.length_take]; rfl)) ?_; (with_reducible refine (bridge_between.calls a2 0 1048576 false _ A11.out).mono ?_); rintro e w' ⟨rfl, ⟨nd, rfl⟩⟩; refine ⟨_, rfl, ?_⟩))
          go_ret2
          exact ⟨by first | rfl | (simp [errW_none, errW_some] <;> rfl) | (simp [*, errW_none, errW_some] <;> rfl), by repeat (first | (with_reducible first | exact HB.out | apply below_alloc | apply pw_below_drewN | apply below_drew1 | refine below_set ?_ GE101.out) | exact HB.out)⟩
end Go.Proofs.Ytiklpefckadgdaa.P
namespace Go.Proofs.Ytiklpefckadgdaa.P
open Go.RowKit Go.Proofs.YtiklpefckadgdaaW.PrintWords Go.Proofs.YtiklpefckadgdaaW.PrintLast Go.Proofs.YtiklpefckadgdaaW.PrintMore
def upI (n d : Int) : Int := (n + d - 1) / d
theorem up_eq {n d : Int} (hn : 0 ≤ n) (hn1 : n ≤ 4611686018427387904) (hd : 1 ≤ d) (hd1 : d ≤ 1048576) : bridge_up.f n d = some (upI n d) := by
  unfold bridge_up.f upI
  rw [if_neg (by omega), w64 (x := n + d) (by omega) (by omega), w64 (x := n + d - 1) (by omega) (by omega), Int.tdiv_eq_ediv_of_nonneg (by omega)]
  have h0 : 0 ≤ (n + d - 1) / d := Int.ediv_nonneg (by omega) (by omega)
  have h1 : (n + d - 1) / d ≤ n + d - 1 := Int.ediv_le_self _ (by omega)
  rw [w64 (by omega) (by omega)]
theorem upI_mono {m n d : Int} (h : m ≤ n) (hd : 1 ≤ d) : upI m d ≤ upI n d := Int.ediv_le_ediv (by omega) (by omega)
theorem upI_nonneg {n d : Int} (hn : 0 ≤ n) (hd : 1 ≤ d) : 0 ≤ upI n d := Int.ediv_nonneg (by omega) (by omega)
theorem upI_le {n d : Int} (hn : 0 ≤ n) (hd : 1 ≤ d) : upI n d ≤ n := by
  unfold upI
  by_cases h : n = 0
  · subst h
    have : (0 + d - 1) / d = 0 := Int.ediv_eq_zero_of_lt (by omega) (by omega)
    omega
  · have h1 : (n + d - 1) / d < n + 1 := by
      refine Int.ediv_lt_of_lt_mul (by omega) ?_
      have : n * 1 ≤ n * d := Int.mul_le_mul_of_nonneg_left hd hn
      rw [Int.add_mul]
      omega
    omega
end Go.Proofs.Ytiklpefckadgdaa.P
namespace Go.Proofs.Ytiklpefckadgdaa.P
open Go.RowKit Go.Proofs.YtiklpefckadgdaaW.PrintWords Go.Proofs.YtiklpefckadgdaaW.PrintLast Go.Proofs.YtiklpefckadgdaaW.PrintMore
end Go.Proofs.Ytiklpefckadgdaa.P
namespace Go.Proofs.Ytiklpefckadgdaa.O
open Go.RowKit Go.Shelf
def SeqP {α : Type} (P : Program) (g : Nat) (lb : Array Value) (encs : α → Array Value) (L : List α) (T T2 : Nat → Prop) (w : World) : Prop :=
  ∀ (l : Nat) (J Jx : List α → World → Prop) (W : World), Below w.heap.size w W → Firm W.heap.size J → Firm W.heap.size Jx →
    (∀ pre x W1, J pre W1 → (pre ++ [x]) <+: L → YieldAt Fence.wide 0 P l (encs x) W1 fun e W' =>
      (e = .returned (.bool true) ∧ J (pre ++ [x]) W' ∧ Turns (Tor T w.heap.size W.heap.size) W1 W') ∨ (e = .returned (.bool false) ∧ Jx (pre ++ [x]) W' ∧ Turns (Tor T2 w.heap.size W.heap.size) W1 W')) →
    J [] W →
    CallsIn Fence.wide 0 P g (#[.func (.yield l) #[] #[]] ++ lb) W fun e W' => (∃ v, e = .returned v) ∧ (J L W' ∨ ∃ pre, pre <+: L ∧ Jx pre W')
def postP {α : Type} (T T2 : Nat → Prop) (I Ix : List α → World → Prop) (xs : List α) (W : World) : Exit → Act → World → Prop
  | .normal, _, W' => Turns T W W' ∧ I xs W'
  | .ret, _, W' => Turns T2 W W' ∧ Ix xs W'
  | _, _, _ => False
variable {P : Program}
theorem wpIn_rangeFunc_P {α : Type} {g : Operand} {ps : Array Tmp} {assign body : Code} {Q : Exit → Act → World → Prop} {a : Act} {w : World}
    {gf : Nat} {lb : Array Value} (hg : a.eval g = .func (.func gf) #[] lb) (eg : ∀ args w, (callFunc gf args).run P w = .ok (.enter gf args) w)
    {encs : α → Array Value} {L : List α} {T T2 : Nat → Prop} {w0 : World} (hseq : SeqP P gf lb encs L T T2 w0) (hT : ∀ k, T k → k < w.heap.size) (hT2 : ∀ k, T2 k → k < w.heap.size) (hb0 : Below w0.heap.size w0 w) (hps : ∀ x, (encs x).size = ps.size)
    (I Ix : List α → World → Prop) (hI : Firm w.heap.size I) (hIx : Firm w.heap.size Ix) (h0 : I [] w)
    (Ax : α → Act → World → Prop) (hAx : ∀ x a' W r o, Ax x a' W → W.heap[w.heap.size + 1]? = some (.loop r) → Ax x a' (W.putObj (w.heap.size + 1) o))
    (hassign : ∀ (l : Nat) (pre : List α) (x : α) (W : World) (K : Act → World → Prop), I pre W → (pre ++ [x]) <+: L → w.heap.size ≤ W.heap.size → (∀ a' W', Below W.heap.size W W' → Ax x a' W' → K a' W') →
      assign.wpIn (Fence.wide.inRound l) 0 P (Exit.then K (fun _ _ _ => False)) { tmps := (ps.zip (encs x)).foldl (fun t (p, v) => t.setIfInBounds p v) a.tmps, defers := [] } W)
    (hbody : ∀ (l : Nat) (pre : List α) (x : α) (a' : Act) (W : World), I pre W → (pre ++ [x]) <+: L → w.heap.size ≤ W.heap.size → Ax x a' W → body.wpIn (Fence.wide.inRound l) 0 P (postP (Tor T w0.heap.size w.heap.size) (Tor T2 w0.heap.size w.heap.size) I Ix (pre ++ [x]) W) a' W)
    (hdone : ∀ (D : Nat) (W : World), w.heap.size ≤ D → I L W → W.heap[D]? = some (.deferred (some [])) → Q .normal { a with defers := { target := .collected D, args := #[] } :: a.defers } W)
    (hstop : ∀ (D : Nat) (pre : List α) (W : World), w.heap.size ≤ D → pre <+: L → Ix pre W → W.heap[D]? = some (.deferred (some [])) → Code.ret.wpIn Fence.wide 0 P Q { a with defers := { target := .collected D, args := #[] } :: a.defers } W) :
    (Code.rangeFunc g ps assign body).wpIn Fence.wide 0 P Q a w := by
  refine wpIn_rangeFunc fun fn hfn => ?_
  let rec_ : LoopState → Option Code → Loop := fun st pe => { state := st, pending := pe, fn, tmps := a.tmps, params := ps, assign, body, defers := w.heap.size }
  obtain ⟨W1, hW1⟩ : ∃ W1, (w.alloc (.deferred (some []))).alloc (.loop (rec_ .ready none)) = W1 := ⟨_, rfl⟩
  have hs1 : W1.heap.size = w.heap.size + 2 := by rw [← hW1]; simp
  have hL1 : W1.heap[w.heap.size + 1]? = some (.loop (rec_ .ready none)) := by
    rw [← hW1]; have := World.alloc_heap_new (w.alloc (.deferred (some []))) (.loop (rec_ .ready none)); rwa [World.size_alloc] at this
  have hK1 : W1.heap[w.heap.size]? = some (.deferred (some [])) := by
    rw [← hW1]; exact (Below.heap_alloc _ _ _ (by simp)).trans (World.alloc_heap_new w _)
  have hb1 : Below w.heap.size w W1 := by rw [← hW1]; exact ((Below.refl _ w).alloc (Nat.le_refl _) _).alloc (by simp) _
  have hsz := hb0.size
  refine ⟨w.heap.size + 1, [{ target := .collected w.heap.size, args := #[] }], W1, { target := .fn (.func gf) lb, args := #[.func (.yield (w.heap.size + 1)) #[] #[]] }, W1, gf,
    #[.func (.yield (w.heap.size + 1)) #[] #[]] ++ lb, W1, ?_, ?_, fun _ _ => trivial, ?_, (fun h => absurd h (by simp [Fence.wide])), ?_⟩
  · rw [← hW1]; exact run_enterLoop_outer _ _ _ _ _
  · simp only [resolve, hg]
    simp [go_sem]
  · simp [invoke, go_sem, eg]
  · refine (hseq (w.heap.size + 1)
      (fun pre W => (I pre W ∧ w.heap.size + 2 ≤ W.heap.size) ∧ W.heap[w.heap.size + 1]? = some (.loop (rec_ .ready none)) ∧ W.heap[w.heap.size]? = some (.deferred (some [])))
      (fun pre W => Ix pre W ∧ W.heap[w.heap.size + 1]? = some (.loop (rec_ .done (some .ret))) ∧ W.heap[w.heap.size]? = some (.deferred (some [])))
      W1 (hb0.trans (hb1.mono hsz)) ?_ ?_ ?_ ⟨⟨hI _ _ _ h0 hb1, by omega⟩, hL1, hK1⟩).mono ?_
    · rintro s A B ⟨⟨hi, hz⟩, hl, hk⟩ hb
      have := hb.size
      exact ⟨⟨hI _ _ _ hi (hb.mono (by omega)), by omega⟩, keep_below hb (by omega) hl, keep_below hb (by omega) hk⟩
    · rintro s A B ⟨hi, hl, hk⟩ hb
      exact ⟨hIx _ _ _ hi (hb.mono (by omega)), keep_below hb (by omega) hl, keep_below hb (by omega) hk⟩
    · rintro pre x W ⟨⟨hi, hz⟩, hl, hk⟩ hpre
      have hy := run_yield (P := P) (args := encs x) hl (hps x)
      refine ⟨fn, _, assign, body, hy, roundIn_of_wpIn hfn (hassign _ pre x W _ hi hpre (by omega) ?_)⟩
      intro a' Wa hba hax
      have hza := hba.size
      have hla := keep_below hba (by omega) hl
      have hka := keep_below hba (by omega) hk
      refine ⟨_, run_beginRound hla rfl, ?_⟩
      have hl2 : (Wa.putObj (w.heap.size + 1) (.loop { rec_ .ready none with state := .busy })).heap[w.heap.size + 1]? = some (.loop { rec_ .ready none with state := .busy }) := World.putObj_heap_same (by omega)
      have hk2 : (Wa.putObj (w.heap.size + 1) (.loop { rec_ .ready none with state := .busy })).heap[w.heap.size]? = some (.deferred (some [])) := (World.putObj_heap_other (by omega)).trans hka
      have m1 : Turns (Tor T w0.heap.size W1.heap.size) W (Wa.putObj (w.heap.size + 1) (.loop { rec_ .ready none with state := .busy })) :=
        (Turns.of_below hba).trans (Turns.putObj _ _ (.inr ⟨by omega, by omega⟩))
      have m1' : Turns (Tor T2 w0.heap.size W1.heap.size) W (Wa.putObj (w.heap.size + 1) (.loop { rec_ .ready none with state := .busy })) :=
        (Turns.of_below hba).trans (Turns.putObj _ _ (.inr ⟨by omega, by omega⟩))
      have n1 : ¬ Tor T w0.heap.size w.heap.size (w.heap.size + 1) := fun h => by
        rcases h with h | h
        · have := hT _ h; omega
        · omega
      have n2 : ¬ Tor T w0.heap.size w.heap.size w.heap.size := fun h => by
        rcases h with h | h
        · have := hT _ h; omega
        · omega
      have n1' : ¬ Tor T2 w0.heap.size w.heap.size (w.heap.size + 1) := fun h => by
        rcases h with h | h
        · have := hT2 _ h; omega
        · omega
      have n2' : ¬ Tor T2 w0.heap.size w.heap.size w.heap.size := fun h => by
        rcases h with h | h
        · have := hT2 _ h; omega
        · omega
      have n3 : ∀ k, Tor T w0.heap.size w.heap.size k → Tor T w0.heap.size W1.heap.size k := fun k h => h.imp id (fun g => ⟨g.1, by omega⟩)
      have n3' : ∀ k, Tor T2 w0.heap.size w.heap.size k → Tor T2 w0.heap.size W1.heap.size k := fun k h => h.imp id (fun g => ⟨g.1, by omega⟩)
      have i2 := hI _ _ _ (hI _ _ _ hi (hba.mono (by omega))) (below_putObj Wa (.loop { rec_ .ready none with state := .busy }) (show w.heap.size ≤ w.heap.size + 1 by omega))
      refine wpIn_mono (hbody _ pre x a' _ i2 hpre (by simp; omega) (hAx _ _ _ _ _ hax hla)) ?_
      rintro e a3 W3 hp
      cases e with
      | normal =>
        obtain ⟨hm, hi3⟩ := hp
        have hl3 := hm.keeps n1 hl2
        have hk3 := hm.keeps n2 hk2
        have hz3 := (Array.getElem?_eq_some_iff.1 hl3).1
        refine ⟨_, _, run_endRound none hl3, .inl ⟨rfl, ⟨⟨hI _ _ _ hi3 (below_putObj _ _ (by omega)), by simp; omega⟩, World.putObj_heap_same hz3, (World.putObj_heap_other (by omega)).trans hk3⟩, ?_⟩⟩
        exact (m1.trans (hm.weaken n3)).trans (Turns.putObj _ _ (.inr ⟨by omega, by omega⟩))
      | ret =>
        obtain ⟨hm, hi3⟩ := hp
        have hl3 := hm.keeps n1' hl2
        have hk3 := hm.keeps n2' hk2
        have hz3 := (Array.getElem?_eq_some_iff.1 hl3).1
        refine ⟨_, _, run_endRound (some .ret) hl3, .inr ⟨rfl, ⟨hIx _ _ _ hi3 (below_putObj _ _ (by omega)), World.putObj_heap_same hz3, (World.putObj_heap_other (by omega)).trans hk3⟩, ?_⟩⟩
        exact (m1'.trans (hm.weaken n3')).trans (Turns.putObj _ _ (.inr ⟨by omega, by omega⟩))
      | exit id => exact hp.elim
      | goto t => exact hp.elim
      | panic ch => exact hp.elim
      | outgrown => exact hp.elim
    · rintro e W2 ⟨⟨v, rfl⟩, (⟨⟨hi, _⟩, hl, hk⟩ | ⟨pre, hpre, hi, hl, hk⟩)⟩
      · exact ⟨none, _, run_endLoop (P := P) hl (by simp [rec_]), hdone _ _ (Nat.le_refl _) (hI _ _ _ hi (below_putObj _ _ (by omega))) ((World.putObj_heap_other (by omega)).trans hk)⟩
      · exact ⟨some .ret, _, run_endLoop (P := P) hl (by simp [rec_]), hstop _ pre _ (Nat.le_refl _) hpre (hIx _ _ _ hi (below_putObj _ _ (by omega))) ((World.putObj_heap_other (by omega)).trans hk)⟩
theorem SeqP.same {α : Type} {P : Program} {g : Nat} {lb : Array Value} {encs : α → Array Value} {L : List α} {T : Nat → Prop} {w : World} (h : SeqP P g lb encs L T T w) : SeqO P g lb encs L T w := h
end Go.Proofs.Ytiklpefckadgdaa.O
namespace Go.Proofs.Ytiklpefckadgdaa.P
open Go.RowKit Go.Shelf Go.Proofs.Ytiklpefckadgdaa.O Go.Proofs.YtiklpefckadgdaaW.PrintWords Go.Proofs.YtiklpefckadgdaaW.PrintLast Go.Proofs.YtiklpefckadgdaaW.PrintMore
attribute [local go_sem] Oper.semAt_some
def checkedL (spans : List Int) (t : List S35) (k : Nat) (L : Int) : List S29 := (List.range 15).map fun n => momentWorst spans t k L (L * ((n + 1 : Nat) : Int) / 16)
theorem checkedL_len (spans : List Int) (t : List S35) (k : Nat) (L : Int) : (checkedL spans t k L).length = 15 := by simp [checkedL]
theorem checkedL_step (spans : List Int) (t : List S35) (k : Nat) (L : Int) (j : Nat) (h1 : 1 ≤ j) (h2 : j ≤ 15) : (checkedL spans t k L).take j = (checkedL spans t k L).take (j - 1) ++ [momentWorst spans t k L (L * (j : Int) / 16)] := by
  obtain ⟨i, rfl⟩ : ∃ i, j = i + 1 := ⟨j - 1, by omega⟩
  have hi : i < (checkedL spans t k L).length := by rw [checkedL_len]; omega
  rw [List.take_succ_eq_append_getElem hi]
  simp [checkedL]
def ChkInv (tm : Array Bool → Array Value → Option Addr → Nat → Array Value) (w2 : World) (line : Int → Int) (ks : List Int) (listed : Array Bool) (a : Act) (V : World) : Prop :=
  ∃ lb A c, a = { tmps := tm listed lb A c, defers := [] } ∧ Below w2.heap.size w2 V ∧ (listed.getD 4 false = true → LineFn 72 lb line V ∧ Kd.C (Kd.int .i64) V A 3 ks) ∧ listed.getD 9 false = false
set_option maxRecDepth 100000 in
set_option maxHeartbeats 4000000 in
theorem checked_seqp (T2 : Nat → Prop) (Bb Bk Bt c0 c1 c2 ct : Nat) (A0 A1 A2 At : Option Addr) (l0 l1 l2 : List Int) (a3 a4 a5 : Int) (k : Nat) (t : List S35) (w0 : World) (hk : k < l0.length) (hlen : l0.length ≤ 1000000) (htl : t.length ≤ 1000) (hL : 0 ≤ l0[k] ∧ l0[k] ≤ 131072)
    (hb : w0.heap[Bb]? = some (.cells #[.slice A0 l0.length c0, .slice A1 l1.length c1, .slice A2 l2.length c2, .int .i64 a3, .int .i64 a4, .int .i64 a5] 24 (0, 0))) (hkB : w0.heap[Bk]? = some (.cells #[.int .i64 (k : Int)] 3 (0, 0))) (htB : w0.heap[Bt]? = some (.cells #[.slice At t.length ct] 25 (0, 0)))
    (hr0 : Kd.C (Kd.int .i64) w0 A0 l0.length l0) (hc0 : l0.length ≤ c0) (hr1 : Kd.C (Kd.int .i64) w0 A1 l1.length l1) (hc1 : l1.length ≤ c1) (hr2 : Kd.C (Kd.int .i64) w0 A2 l2.length l2) (hc2 : l2.length ≤ c2) (hrt : Kd.C k35 w0 At t.length t) :
    SeqP Try.prog 85 #[.pointer (some ⟨Bb, 0, none⟩), .pointer (some ⟨Bk, 0, none⟩), .pointer (some ⟨Bt, 0, none⟩)] effV (checkedL l0 t k l0[k]) (fun _ => False) T2 w0 := by
  intro l J Jx W hW hJ hJx hY h0
  have hu24 := Try.underlying24
  have hu29 := Try.underlying29
  obtain ⟨ad, rfl, hx0⟩ := Kd.at_int hr0 (k : Int) (by omega) (by omega)
  rw [rd_get l0 k hk, Int.toNat_natCast] at hx0
  have HL := Aside0.mk hL
  clear hL
  refine callsIn_of_wp Try.func85 rfl trivial ?_ rfl
  simp only [Try.ntmps85, List.size_toArray, List.length_cons, List.length_nil, Nat.reduceAdd, Nat.reduceSub, Array.replicate_succ, Array.replicate_zero, List.push_toArray, List.append_toArray, List.nil_append, List.cons_append]
  gi_wp2
  gi_loopw [5] (fun i wr => ∃ j : Nat, 1 ≤ j ∧ j ≤ 16 ∧ i = .int .i64 j ∧ J ((checkedL l0 t k l0[k]).take (j - 1)) wr ∧ Below w0.heap.size w0 wr ∧ W.heap.size ≤ wr.heap.size)
    (fun i _ => 16 - (intOf i).toNat)
  case atStart => exact ⟨1, by omega, by omega, rfl, by simpa using h0, hW, Nat.le_refl _⟩
  case round =>
    rename World => wq
    obtain ⟨j, h1, h2, rfl, hJs, hnx, hsz⟩ := hrel
    by_cases hlt : j ≤ 15
    · obtain ⟨b0, b1, b2, b3, b4, b5⟩ := cells6 (keep_below hnx (blk_lt hb) hb)
      have ck : wq.cell? ⟨Bk, 0, none⟩ = some (.int .i64 (k : Int)) := (blk_cell (keep_below hnx (blk_lt hkB) hkB) 0).trans rfl
      have cs := (hnx.cell (World.block_lt_of_cell? w0 _ hx0)).trans hx0
      have m0 : 0 ≤ l0[k] * (j : Int) := Int.mul_nonneg HL.out.1 (by omega)
      have m1 : l0[k] * (j : Int) ≤ 131072 * 15 := Int.mul_le_mul HL.out.2 (by omega) (by omega) (by omega)
      generalize hLx : l0[k] = L at *
      obtain ⟨x, hx⟩ : ∃ x, L * (j : Int) / 16 = x := ⟨_, rfl⟩
      obtain ⟨X, hX⟩ : ∃ X, momentWorst l0 t k L x = X := ⟨_, rfl⟩
      have hpx : (checkedL l0 t k L).take (j - 1) ++ [X] = (checkedL l0 t k L).take j := by rw [checkedL_step l0 t k L j h1 hlt, hx, hX]
      unfold momentWorst at hX
      have HX := Aside0.mk hX
      have HP := Aside0.mk hpx
      have Hx := Aside0.mk hx
      have HC := Aside0.mk hLx
      clear hX hpx hx hLx
      gi_wp2
      rw [Hx.out]
      refine wpIn_region_any (by kernel_rfl) ?_
      change wpAnyIn _ _ _ _ _ _ _ _ _ (World.drew wq)
      clear b0 b1 b2 b3 b4 b5 ck cs
      refine wpAnyIn_inv (ChkInv (fun listed lb A c => #[.func (.yield l) #[] #[], .pointer (some ⟨Bb, 0, none⟩), .pointer (some ⟨Bk, 0, none⟩), .pointer (some ⟨Bt, 0, none⟩), undef, .int .i64 (j : Int), .int .i64 (x), .int .i64 (j : Int), .bool true, u9, u10, .pointer (some ⟨Bb, 0, none⟩), .slice (some ad) l0.length c0, .int .i64 (k : Int), .pointer (some (ad.add k)), .int .i64 L, .int .i64 (j : Int), .int .i64 (L * (j : Int)), .int .i64 (x), selOr listed 0 (.func (.yield l) #[] #[]) u19, selOr listed 1 (.agg #[.slice (some ad) l0.length c0, .slice A1 l1.length c1, .slice A2 l2.length c2, .int .i64 a3, .int .i64 a4, .int .i64 a5]) u20, selOr listed 2 (.int .i64 (k : Int)) u21, selOr listed 3 (.int .i64 (x)) u22, selOr listed 4 (.agg #[.func (.func 72) #[] lb, .slice A 3 c]) u23, selOr listed 5 (.slice At t.length ct) u24, selOr listed 6 (.int .i64 (k : Int)) u25, selOr listed 7 (.int .i64 (x)) u26, selOr listed 8 (.agg #[.int .i64 X.f0, .int .i64 X.f1, .int .i64 X.f2, .int .i64 X.f3]) u27, u28, u29]) wq (momentW (startW l0 k) L x) [startW l0 k, wrap64 (startW l0 k + x), wrap64 (startW l0 k + L)])
        9 ?step ?stop2 ?fin 11 _ _ _ (by simp) (closed_none _) ⟨#[], none, 0, by simp [selOr]; omega, (Below.refl _ _).drew, by simp, by simp⟩ (by simp)
      case step =>
        rintro listed a V i hs hc ⟨lb, A, c, rfl, q1, q2, q9⟩ hr hne K hK
        obtain ⟨hlt', hl0⟩ := ready_lt hr
        have hwV : Below w0.heap.size w0 V := hnx.trans (q1.mono hnx.size)
        have hi : i = 0 ∨ i = 1 ∨ i = 2 ∨ i = 3 ∨ i = 4 ∨ i = 5 ∨ i = 6 ∨ i = 7 ∨ i = 8 ∨ i = 10 := by simp at hs; omega
        rcases hi with rfl | rfl | rfl | rfl | rfl | rfl | rfl | rfl | rfl | rfl
        · refine wpOpIn_of rfl rfl ?_
          clear hr hl0
          gi_wp2
          refine ⟨lb, A, c, ?_, q1, by rw [getD_other hlt' (by decide)]; exact q2, by rw [getD_other hlt' (by decide)]; exact q9⟩
          simp (disch := decide) only [selOr_same hlt', selOr_other hlt']
        · refine wpOpIn_of rfl rfl ?_
          obtain ⟨b0, b1, b2, b3, b4, b5⟩ := cells6 (keep_below hwV (blk_lt hb) hb)
          clear hr hl0
          gi_wp2
          refine ⟨lb, A, c, ?_, q1, by rw [getD_other hlt' (by decide)]; exact q2, by rw [getD_other hlt' (by decide)]; exact q9⟩
          simp (disch := decide) only [selOr_same hlt', selOr_other hlt']
        · refine wpOpIn_of rfl rfl ?_
          have ck : V.cell? ⟨Bk, 0, none⟩ = some (.int .i64 (k : Int)) := (blk_cell (keep_below hwV (blk_lt hkB) hkB) 0).trans rfl
          clear hr hl0
          gi_wp2
          refine ⟨lb, A, c, ?_, q1, by rw [getD_other hlt' (by decide)]; exact q2, by rw [getD_other hlt' (by decide)]; exact q9⟩
          simp (disch := decide) only [selOr_same hlt', selOr_other hlt']
        · refine wpOpIn_of rfl rfl ?_
          clear hr hl0
          gi_wp2
          refine ⟨lb, A, c, ?_, q1, by rw [getD_other hlt' (by decide)]; exact q2, by rw [getD_other hlt' (by decide)]; exact q9⟩
          simp (disch := decide) only [selOr_same hlt', selOr_other hlt']
        · refine wpOpIn_of rfl rfl ?_
          have d1 : listed.getD 1 false = true := ready_after hr rfl { on := 1, ground := .data } (by simp) rfl
          have d2 : listed.getD 2 false = true := ready_after hr rfl { on := 2, ground := .data } (by simp) rfl
          have d3 : listed.getD 3 false = true := ready_after hr rfl { on := 3, ground := .data } (by simp) rfl
          simp only [selOr_on d1, selOr_on d2, selOr_on d3]
          clear hr
          gi_wp2
          refine ⟨trivial, rfl, (callsIn_w (moment_calls (some ad) A1 A2 c0 c1 c2 l0 l1 l2 a3 a4 a5 k x V hk hlen (Kd.C_below hr0 hwV) hc0 (Kd.C_below hr1 hwV) hc1 (Kd.C_below hr2 hwV) hc2)).mono ?_⟩
          rw [HC.out]
          rintro e V5 ⟨lb5, A5, c5, rfl, hl5, hk5, hb5⟩
          gi_wp2
          have d8 : listed.getD 8 false = false := by
            cases q : listed.getD 8 false
            · rfl
            · have := hc 8 _ rfl q { on := 4, ground := .data } (by simp) rfl
              rw [hl0] at this; cases this
          have hs8 : ∀ v u, selOr listed 8 v u = u := fun v u => by unfold selOr; rw [d8, if_neg (by decide)]
          refine ⟨lb5, A5, c5, ?_, q1.trans (hb5.mono q1.size), fun _ => ⟨hl5, hk5⟩, by rw [getD_other hlt' (by decide)]; exact q9⟩
          simp (disch := decide) only [selOr_same hlt', selOr_other hlt', selOr_on d1, selOr_on d2, selOr_on d3]
        · refine wpOpIn_of rfl rfl ?_
          have ctt : V.cell? ⟨Bt, 0, none⟩ = some (.slice At t.length ct) := (blk_cell (keep_below hwV (blk_lt htB) htB) 0).trans rfl
          clear hr hl0
          gi_wp2
          refine ⟨lb, A, c, ?_, q1, by rw [getD_other hlt' (by decide)]; exact q2, by rw [getD_other hlt' (by decide)]; exact q9⟩
          simp (disch := decide) only [selOr_same hlt', selOr_other hlt']
        · refine wpOpIn_of rfl rfl ?_
          have ck : V.cell? ⟨Bk, 0, none⟩ = some (.int .i64 (k : Int)) := (blk_cell (keep_below hwV (blk_lt hkB) hkB) 0).trans rfl
          clear hr hl0
          gi_wp2
          refine ⟨lb, A, c, ?_, q1, by rw [getD_other hlt' (by decide)]; exact q2, by rw [getD_other hlt' (by decide)]; exact q9⟩
          simp (disch := decide) only [selOr_same hlt', selOr_other hlt']
        · refine wpOpIn_of rfl rfl ?_
          clear hr hl0
          gi_wp2
          refine ⟨lb, A, c, ?_, q1, by rw [getD_other hlt' (by decide)]; exact q2, by rw [getD_other hlt' (by decide)]; exact q9⟩
          simp (disch := decide) only [selOr_same hlt', selOr_other hlt']
        · refine wpOpIn_of rfl rfl ?_
          have d4 : listed.getD 4 false = true := ready_after hr rfl { on := 4, ground := .data } (by simp) rfl
          have d5 : listed.getD 5 false = true := ready_after hr rfl { on := 5, ground := .data } (by simp) rfl
          have d6 : listed.getD 6 false = true := ready_after hr rfl { on := 6, ground := .data } (by simp) rfl
          have d7 : listed.getD 7 false = true := ready_after hr rfl { on := 7, ground := .data } (by simp) rfl
          simp only [selOr_on d4, selOr_on d5, selOr_on d6, selOr_on d7]
          clear hr hl0
          gi_wp2
          obtain ⟨ql, qk⟩ := q2 d4
          refine ⟨trivial, rfl, (worst_in 72 lb _ ct c 3 At A t _ (k : Int) x V ql htl (Kd.C_below hrt hwV) rfl qk).mono ?_⟩
          rw [HX.out]
          rintro e V5 ⟨rfl, hb5⟩
          dsimp only [effC]
          gi_wp2
          refine ⟨lb, A, c, ?_, q1.trans (hb5.mono q1.size), fun _ => ⟨ql.below hb5, Kd.C_below qk hb5⟩, by rw [getD_other hlt' (by decide)]; exact q9⟩
          simp (disch := decide) only [selOr_same hlt', selOr_other hlt', selOr_on d4, selOr_on d5, selOr_on d6, selOr_on d7]
        · have := ready_after hr rfl { on := 9, ground := .data } (by simp) rfl
          rw [q9] at this; cases this
      case stop2 =>
        rintro listed a V fuel hs hc ⟨lb, A, c, rfl, q1, q2, q9⟩ hr hfuel
        have d0 : listed.getD 0 false = true := ready_after hr rfl { on := 0, ground := .data } (by simp) rfl
        have d8 : listed.getD 8 false = true := ready_after hr rfl { on := 8, ground := .data } (by simp) rfl
        have d4 : listed.getD 4 false = true := hc 8 _ rfl d8 { on := 4, ground := .data } (by simp) rfl
        have d5 : listed.getD 5 false = true := hc 8 _ rfl d8 { on := 5, ground := .data } (by simp) rfl
        have d6 : listed.getD 6 false = true := hc 8 _ rfl d8 { on := 6, ground := .data } (by simp) rfl
        have d7 : listed.getD 7 false = true := hc 8 _ rfl d8 { on := 7, ground := .data } (by simp) rfl
        have d1 : listed.getD 1 false = true := hc 4 _ rfl d4 { on := 1, ground := .data } (by simp) rfl
        have d2 : listed.getD 2 false = true := hc 4 _ rfl d4 { on := 2, ground := .data } (by simp) rfl
        have d3 : listed.getD 3 false = true := hc 4 _ rfl d4 { on := 3, ground := .data } (by simp) rfl
        have d10 : listed.getD 10 false = false := by
          cases h : listed.getD 10 false
          · rfl
          · have := hc 10 _ rfl h { on := 9, ground := .data } (by simp) rfl
            rw [q9] at this; cases this
        have hl := arr11 (l := listed) (by simpa using hs)
        rw [d0, d1, d2, d3, d4, d5, d6, d7, d8, q9, d10] at hl
        subst hl
        have hJV := hJ _ _ _ hJs (q1.mono hsz)
        have hwV : Below w0.heap.size w0 V := hnx.trans (q1.mono hnx.size)
        obtain ⟨fn, tmps, assign, body, hy, hR⟩ := hY _ X V hJV (by rw [HP.out]; exact List.take_prefix _ _)
        refine wpOpIn_of rfl rfl ?_
        simp only [selOr_on d0, selOr_on d1, selOr_on d2, selOr_on d3, selOr_on d4, selOr_on d5, selOr_on d6, selOr_on d7, selOr_on d8]
        dsimp only [effV] at hy
        gi_wp2
        refine ⟨rfl, hR.mono ?_⟩
        rw [HP.out]
        rintro e V5 (⟨rfl, hJ5, hm5⟩ | ⟨rfl, hJ5, hm5⟩)
        all_goals
          obtain ⟨fuel', rfl⟩ : ∃ f, fuel = f + 1 := ⟨fuel - 1, by simp at hfuel; omega⟩
          refine wpAnyIn_ready (rs := [10]) (by kernel_rfl) (by simp) (AllReadyIn.cons rfl (fun K hK => ?_) AllReadyIn.nil)
          gi_wp2
          refine wpAnyIn_done (by kernel_rfl) ?_ _
          gi_wp2
        · have hzw := hW.size
          have hzq := q1.size
          refine ⟨⟨j + 1, by omega, by omega, by simp, by simpa using hJ5, hwV.trans (hm5.below (fun k h => by rcases h with h | h; exact h.elim; omega) hwV.size), by have := hm5.size; omega⟩, by simp [intOf]; omega⟩
        · refine bodyPost_ret (results_none rfl _ _ _) rfl ?_
          rw [HC.out]
          exact ⟨⟨_, rfl⟩, .inr ⟨_, List.take_prefix _ _, hJ5⟩⟩
      case fin =>
        rintro listed a V hs ⟨lb, A, c, rfl, q1, q2, q9⟩ hr
        exact absurd hr (ready_ne hs (by kernel_rfl) 9 (by simp) q9)
    · gi_wp2
      go_end0
      have e : j = 16 := by omega
      subst e
      exact ⟨⟨_, rfl⟩, .inl (by rw [List.take_of_length_le (by rw [checkedL_len]; omega)] at hJs; exact hJs)⟩
end Go.Proofs.Ytiklpefckadgdaa.P
namespace Go.Proofs.Ytiklpefckadgdaa.P
open Go.RowKit Go.Proofs.YtiklpefckadgdaaW.PrintWords Go.Proofs.YtiklpefckadgdaaW.PrintLast Go.Proofs.YtiklpefckadgdaaW.PrintMore
theorem effS_le60 {f : Int → Int} {s : Int} {t : List S35} (hf : ∀ a, 0 ≤ f a ∧ f a ≤ 17179869184) (h : errT t = 0) : 0 ≤ effS f s t ∧ effS f s t ≤ 1152921504606846976 := by
  have h1 := effS_bd hf (s := s) (okForces h)
  have h2 := (errT_zero h).2.1
  generalize effS f s t = E at *
  clear h
  omega
theorem place_bd {y : S35} {k : Int} (hy : OkForce y) (hk : 0 ≤ k ∧ k ≤ 1179648) : wrap64 (k + y.f0) = k + y.f0 ∧ 0 ≤ k + y.f0 ∧ k + y.f0 ≤ 1441792 := by
  have := hy.1
  rw [w64 (by omega) (by omega)]; omega
theorem momentWorst_bd {l m s : List Int} {a b c : Int} {t : List S35} {k : Nat} {L x : Int} (h1 : errB l m s a b c = 0) (h2 : errT t = 0) (hL : 0 ≤ L ∧ L ≤ 131072) (hx : 0 ≤ x ∧ x ≤ L) :
    ∃ p, (0 ≤ p ∧ p ≤ 1441792) ∧ momentWorst l t k L x = ⟨effS (fun y => momentI L x (y - startW l k)) p t, (k : Int), x, p⟩ := by
  have hst := startW_bd h1 k
  have hne : t ≠ [] := by rintro rfl; have := (errT_zero h2).1; simp at this
  obtain ⟨⟨p, hp, e⟩, _⟩ := worst_val (momentW (startW l k) L x) t [startW l k, wrap64 (startW l k + x), wrap64 (startW l k + L)] (k : Int) x (breaks_ne hne)
  obtain ⟨y, hy, q, hq, rfl⟩ := mem_breaks.1 hp
  have hq1 : 0 ≤ q ∧ q ≤ 1179648 := by
    rw [w64 (x := startW l k + x) (by omega) (by omega), w64 (x := startW l k + L) (by omega) (by omega)] at hq
    simp only [List.mem_cons, List.not_mem_nil, or_false] at hq
    omega
  obtain ⟨e1, e2⟩ := place_bd (okForces h2 y hy) hq1
  refine ⟨wrap64 (q + y.f0), by rw [e1]; exact e2, ?_⟩
  unfold momentWorst
  rw [e, effW_moment (by omega) hL hx (by rw [e1]; omega) h2]
theorem endWorst_bd {l m s : List Int} {a b c : Int} {t : List S35} {k : Nat} {L point : Int} {right : Bool} (h1 : errB l m s a b c = 0) (h2 : errT t = 0) (hL : 0 ≤ L ∧ L ≤ 131072) :
    ∃ p, (0 ≤ p ∧ p ≤ 1441792) ∧ endWorst l t k L right point = ⟨effS (fun y => endI L right (y - startW l k)) p t, (k : Int), point, p⟩ := by
  have hst := startW_bd h1 k
  have hne : t ≠ [] := by rintro rfl; have := (errT_zero h2).1; simp at this
  obtain ⟨⟨p, hp, e⟩, _⟩ := worst_val (endW (startW l k) L right) t [startW l k, wrap64 (startW l k + L)] (k : Int) point (breaks_ne hne)
  obtain ⟨y, hy, q, hq, rfl⟩ := mem_breaks.1 hp
  have hq1 : 0 ≤ q ∧ q ≤ 1179648 := by
    rw [w64 (x := startW l k + L) (by omega) (by omega)] at hq
    simp only [List.mem_cons, List.not_mem_nil, or_false] at hq
    omega
  obtain ⟨e1, e2⟩ := place_bd (okForces h2 y hy) hq1
  refine ⟨wrap64 (q + y.f0), by rw [e1]; exact e2, ?_⟩
  unfold endWorst
  rw [e, effW_end (by omega) hL (by rw [e1]; omega) h2]
def restV (lanes traffic : Int) (tr : Bool) : Int := if tr = true then (lanes - 1) * traffic else 0
def failM (dyn rest L M : Int) (e : S29) : Bool := decide (shareZ (1000 + dyn) e.f0 (1000 * L) + upI (rest * e.f2 * (L - e.f2)) 2000 > 1000 * M)
def failE (dyn rest L S : Int) (e : S29) : Bool := decide (shareZ (1000 + dyn) e.f0 (1000 * L) + upI (rest * L) 2000 > S)
def spanBad (l0 l1 l2 : List Int) (dyn rest : Int) (t : List S35) (k : Nat) : Option S29 :=
  match (checkedL l0 t k (rd l0 (k : Int))).find? (failM dyn rest (rd l0 (k : Int)) (rd l1 (k : Int))) with
  | some e => some e
  | none => if failE dyn rest (rd l0 (k : Int)) (rd l2 (k : Int)) (endWorst l0 t k (rd l0 (k : Int)) false (-1)) = true then some (endWorst l0 t k (rd l0 (k : Int)) false (-1)) else
    if failE dyn rest (rd l0 (k : Int)) (rd l2 (k : Int)) (endWorst l0 t k (rd l0 (k : Int)) true (-2)) = true then some (endWorst l0 t k (rd l0 (k : Int)) true (-2)) else none
def bearsV (l0 l1 l2 : List Int) (dyn lanes traffic : Int) (t : List S35) (tr : Bool) : Option S29 := (List.range l0.length).findSome? (spanBad l0 l1 l2 dyn (restV lanes traffic tr) t)
def bearsR (o : Option S29) : S29 × Bool := match o with
  | some e => (e, true)
  | none => (z29, false)
theorem restV_bd {l m s : List Int} {a b c : Int} (h : errB l m s a b c = 0) (tr : Bool) : 0 ≤ restV b c tr ∧ restV b c tr ≤ 12288 := by
  obtain ⟨_, _, _, _, _, h1, h2, _⟩ := errB_zero h
  unfold restV
  split
  · have g1 := Int.mul_nonneg (show 0 ≤ b - 1 by omega) h2.1
    have g2 := Int.mul_le_mul (show b - 1 ≤ 3 by omega) h2.2 h2.1 (by decide)
    omega
  · decide
theorem share_fit {dyn v L : Int} (hd : 0 ≤ dyn ∧ dyn ≤ 1000) (hv : 0 ≤ v ∧ v ≤ 1152921504606846976) (hL : 100 ≤ L ∧ L ≤ 131072) :
    bridge_share.f (1000 + dyn) v (1000 * L) = some (shareZ (1000 + dyn) v (1000 * L)) ∧ 0 ≤ shareZ (1000 + dyn) v (1000 * L) ∧ shareZ (1000 + dyn) v (1000 * L) ≤ 23058430092136941 := by
  have m0 : 0 ≤ (1000 + dyn) * v := Int.mul_nonneg (by omega) hv.1
  have m1 : (1000 + dyn) * v ≤ 2000 * 1152921504606846976 := Int.mul_le_mul (by omega) hv.2 hv.1 (by decide)
  have q0 : 0 ≤ (1000 + dyn) * v / (1000 * L) := Int.ediv_nonneg m0 (by omega)
  have q1 : (1000 + dyn) * v / (1000 * L) < 23058430092136940 := by
    refine Int.ediv_lt_of_lt_mul (by omega) ?_
    have := Int.mul_le_mul_of_nonneg_left (show 100000 ≤ 1000 * L by omega) (show (0 : Int) ≤ 23058430092136940 by decide)
    omega
  refine ⟨?_, ?_⟩
  · unfold bridge_share.f shareZ
    rw [if_pos ⟨by omega, hv.1, by omega, by omega, by omega, by omega, by omega⟩]
  · unfold shareZ
    split <;> omega
end Go.Proofs.Ytiklpefckadgdaa.P
namespace Go.Proofs.Ytiklpefckadgdaa.O
open Go.RowKit Go.Shelf
def Coll (B : Nat) : Nat → List Deferred → World → Prop
  | _, [], _ => True
  | hi, d :: ds, W => ∃ D, B ≤ D ∧ D < hi ∧ d = { target := .collected D, args := #[] } ∧ W.heap[D]? = some (.deferred (some [])) ∧ Coll B D ds W
theorem Coll.below {B : Nat} : ∀ {ds : List Deferred} {hi X : Nat} {W W' : World}, Coll B hi ds W → Below X W W' → hi ≤ X → Coll B hi ds W'
  | [], _, _, _, _, _, _, _ => trivial
  | d :: ds, hi, X, W, W', ⟨D, h1, h2, h3, h4, h5⟩, hb, hX => ⟨D, h1, h2, h3, (hb.block D (by omega)).trans h4, h5.below hb (by omega)⟩
theorem Coll.mono {B : Nat} {ds : List Deferred} {hi hi' : Nat} {W : World} (h : Coll B hi ds W) (hh : hi ≤ hi') : Coll B hi' ds W := by
  cases ds with
  | nil => trivial
  | cons d ds => obtain ⟨D, h1, h2, h3⟩ := h; exact ⟨D, h1, by omega, h3⟩
theorem Coll.push {B : Nat} {ds : List Deferred} {hi D : Nat} {W : World} (h : Coll B hi ds W) (hB : B ≤ D) (hD : hi ≤ D) (hW : W.heap[D]? = some (.deferred (some []))) : Coll B (D + 1) ({ target := .collected D, args := #[] } :: ds) W :=
  ⟨D, hB, by omega, rfl, hW, h.mono hD⟩
theorem Coll.same {B : Nat} : ∀ {ds : List Deferred} {hi : Nat} {W W' : World}, Coll B hi ds W → (∀ k, B ≤ k → k < hi → W'.heap[k]? = W.heap[k]?) → Coll B hi ds W'
  | [], _, _, _, _, _ => trivial
  | d :: ds, hi, W, W', ⟨D, h1, h2, h3, h4, h5⟩, hk => ⟨D, h1, h2, h3, (hk D h1 h2).trans h4, h5.same fun k a b => hk k a (by omega)⟩
theorem leaves_coll {P : Program} {F : Fence} {n B : Nat} {fn : Func} {tmps : Array Value} {R : Ending → World → Prop} : ∀ (ds : List Deferred) (hi : Nat) (W : World), Coll B hi ds W → (∀ W', Below B W W' → LeavesInM F n P fn tmps R [] .returning W') → LeavesInM F n P fn tmps R ds .returning W
  | [], _, W, _, h => h W (Below.refl _ _)
  | d :: ds, hi, W, ⟨D, h1, h2, h3, h4, h5⟩, h => by
    subst h3
    refine ⟨by simp, .inl ⟨_, _, rfl, run_takeDeferred h4, ?_⟩⟩
    refine leaves_coll ds D _ (h5.same fun k _ hk => World.putObj_heap_other (by omega)) fun W' hW' => h W' ((below_putObj _ _ h1).trans hW')
end Go.Proofs.Ytiklpefckadgdaa.O
namespace Go.Proofs.Ytiklpefckadgdaa.P
open Go.RowKit Go.Shelf Go.Proofs.Ytiklpefckadgdaa.O Go.Proofs.YtiklpefckadgdaaW.PrintWords Go.Proofs.YtiklpefckadgdaaW.PrintLast Go.Proofs.YtiklpefckadgdaaW.PrintMore
attribute [local go_sem] Oper.semAt_some
set_option linter.unusedVariables false
set_option maxHeartbeats 1000000 in
theorem checked_make (v1 v2 v3 v4 v5 v6 : Value) (A1 : Option Addr) (n1 c1 : Nat) (k : Int) (w : World) :
    CallsIn Fence.wide 0 Try.prog 67 #[.agg #[v1, v2, v3, v4, v5, v6], .slice A1 n1 c1, .int .i64 k] w fun e w' => e = .returned (.func (.func 85) #[] #[.pointer (some ⟨w.heap.size, 0, none⟩), .pointer (some ⟨w.heap.size + 1 + 1, 0, none⟩), .pointer (some ⟨w.heap.size + 1, 0, none⟩)]) ∧
      w' = ((w.alloc (.cells #[v1, v2, v3, v4, v5, v6] 24 (0, 0))).alloc (.cells #[.slice A1 n1 c1] 25 (0, 0))).alloc (.cells #[.int .i64 k] 3 (0, 0)) := by
  have hu24 := Try.underlying24
  refine callsIn_of_wp Try.func67 rfl trivial ?_ rfl
  simp only [Try.ntmps67, List.size_toArray, List.length_cons, List.length_nil, Nat.reduceAdd, Nat.reduceSub, Array.replicate_succ, Array.replicate_zero, List.push_toArray, List.append_toArray, List.nil_append, List.cons_append]
  gi_wp2
  go_ret
  exact ⟨rfl, rfl⟩
theorem find_first {α : Type} {p : α → Bool} {L pre : List α} {x : α} (h : (pre ++ [x]) <+: L) (h1 : ∀ y ∈ pre, p y = false) (h2 : p x = true) : L.find? p = some x := by
  obtain ⟨t, rfl⟩ := h
  rw [List.append_assoc, List.find?_append]
  have : pre.find? p = none := List.find?_eq_none.2 fun y hy => by rw [h1 y hy]; decide
  rw [this]
  simp [h2]
theorem spansOk_ms : ∀ {l m s : List Int}, spansOk l m s = true → ∀ (i : Nat), i < l.length → (1 ≤ rd m (i : Int) ∧ rd m (i : Int) ≤ 1073741824) ∧ (1 ≤ rd s (i : Int) ∧ rd s (i : Int) ≤ 1073741824)
  | [], _, _, _, i, h => by simp at h
  | x :: r, y :: ys, z :: zs, hk, i, h => by
    simp only [spansOk, Bool.and_eq_true, inR_iff] at hk
    cases i with
    | zero => exact ⟨hk.2.1, hk.2.2.1⟩
    | succ i =>
      have := spansOk_ms hk.2.2.2 i (by simpa using h)
      simpa [rd] using this
  | _ :: _, [], _, hk, _, _ => by simp [spansOk] at hk
  | _ :: _, _ :: _, [], hk, _, _ => by simp [spansOk] at hk
theorem bearsV_at {l0 l1 l2 : List Int} {a3 a4 a5 : Int} {t : List S35} {tr : Bool} {k : Nat} {x : S29} (hk : k < l0.length) (h : ∀ i, i < k → spanBad l0 l1 l2 a3 (restV a4 a5 tr) t i = none) (hx : spanBad l0 l1 l2 a3 (restV a4 a5 tr) t k = some x) : bearsV l0 l1 l2 a3 a4 a5 t tr = some x := by
  unfold bearsV
  have e : List.range l0.length = List.range k ++ k :: (List.range (l0.length - k - 1)).map (· + (k + 1)) := by
    have : l0.length = k + (1 + (l0.length - k - 1)) := by omega
    conv => lhs; rw [this, List.range_add]
    congr 1
    rw [show 1 + (l0.length - k - 1) = (l0.length - k - 1) + 1 by omega, List.range_succ_eq_map]
    simp [List.map_map, Function.comp_def]
    intro a _; omega
  rw [e, List.findSome?_append]
  have : (List.range k).findSome? (spanBad l0 l1 l2 a3 (restV a4 a5 tr) t) = none := List.findSome?_eq_none_iff.2 fun i hi => h i (List.mem_range.1 hi)
  rw [this]
  simp [hx]
theorem bearsV_none {l0 l1 l2 : List Int} {a3 a4 a5 : Int} {t : List S35} {tr : Bool} (h : ∀ i, i < l0.length → spanBad l0 l1 l2 a3 (restV a4 a5 tr) t i = none) : bearsV l0 l1 l2 a3 a4 a5 t tr = none :=
  List.findSome?_eq_none_iff.2 fun i hi => h i (List.mem_range.1 hi)
theorem results_eb {fn : Func} {p p' : Tmp} (h : fn.results = #[.cell p 29, .cell p' 4]) (tmps : Array Value) (w : World) (g : Nat) (cs : Array Value) (g' : Nat) (v : Value)
    (hp : tmps.getD p undef = .pointer (some ⟨g, 0, none⟩)) (hp' : tmps.getD p' undef = .pointer (some ⟨g', 0, none⟩)) (hg : w.heap[g]? = some (.cells cs 29 (0, 0))) (hc : w.cell? ⟨g', 0, none⟩ = some v) (hs : cs.size = 4) :
    (results fn tmps).run Try.prog w = .ok (.tuple #[.agg cs, v]) w := by
  have hu29 := Try.underlying29
  have h1 : tmps[p]?.getD undef = .pointer (some ⟨g, 0, none⟩) := by simpa using hp
  have h2 : tmps[p']?.getD undef = .pointer (some ⟨g', 0, none⟩) := by simpa using hp'
  have hi : (Try.prog.info? 29).map (·.size) = some cs.size := by rw [hs]; kernel_rfl
  have hb : (isAgg 4).run Try.prog w = .ok false w := by kernel_rfl
  have hl : (loadVar 4 ⟨g', 0, none⟩).run Try.prog w = .ok v w := by
    unfold loadVar
    simp [Sem.run_bind, hb, Result.andThen, go_sem, hc]
  simp [results, h, h1, h2, asAddr, run_loadVar_row w g 29 29 cs (0, 0) _ hg hu29 rfl hi, hl]
structure BInv (B : Nat) (w : World) (bg : Array Value) (rest : Int) (hi : Nat) (ds : List Deferred) (W : World) : Prop where
  below : Below B w W
  size : B + 4 ≤ hi ∧ hi ≤ W.heap.size
  hb : W.heap[B]? = some (.cells bg 24 (0, 0))
  he : W.heap[B + 1]? = some (.cells (effC z29) 29 (0, 0))
  hf : W.heap[B + 1 + 1]? = some (.cells #[.bool false] 4 (0, 0))
  hr : W.heap[B + 1 + 1 + 1]? = some (.cells #[.int .i64 rest] 2 (0, 0))
  coll : Coll (B + 4) hi ds W
theorem BInv.step {B : Nat} {w : World} {bg : Array Value} {rest : Int} {hi X : Nat} {ds : List Deferred} {W W' : World} (h : BInv B w bg rest hi ds W) (hb : Below X W W') (hX : hi ≤ X) : BInv B w bg rest hi ds W' := by
  have h1 := h.size
  have h2 := hb.size
  exact ⟨h.below.trans (hb.mono (by omega)), by omega, keep_below hb (by omega) h.hb, keep_below hb (by omega) h.he, keep_below hb (by omega) h.hf, keep_below hb (by omega) h.hr, h.coll.below hb hX⟩
theorem BInv.up {B : Nat} {w : World} {bg : Array Value} {rest : Int} {hi : Nat} {ds : List Deferred} {W : World} (h : BInv B w bg rest hi ds W) : BInv B w bg rest W.heap.size ds W :=
  ⟨h.below, ⟨by have := h.size; omega, Nat.le_refl _⟩, h.hb, h.he, h.hf, h.hr, h.coll.mono h.size.2⟩
structure BEnd (B : Nat) (w : World) (hi : Nat) (ds : List Deferred) (x : S29) (W : World) : Prop where
  below : Below B w W
  size : B + 4 ≤ hi ∧ hi ≤ W.heap.size
  he : W.heap[B + 1]? = some (.cells (effC x) 29 (0, 0))
  hf : W.heap[B + 1 + 1]? = some (.cells #[.bool true] 4 (0, 0))
  coll : Coll (B + 4) hi ds W
theorem BEnd.step {B : Nat} {w : World} {hi X : Nat} {ds : List Deferred} {x : S29} {W W' : World} (h : BEnd B w hi ds x W) (hb : Below X W W') (hX : hi ≤ X) : BEnd B w hi ds x W' := by
  have h1 := h.size
  have h2 := hb.size
  exact ⟨h.below.trans (hb.mono (by omega)), by omega, keep_below hb (by omega) h.he, keep_below hb (by omega) h.hf, h.coll.below hb hX⟩
theorem bear_store {B hi : Nat} {w : World} {bg : Array Value} {rest : Int} {ds : List Deferred} {V V2 : World} {T : Nat → Prop} (x0 x1 x2 x3 : Int) (J1 : BInv B w bg rest hi ds V2) (hV : Below V.heap.size V V2) (t1 : T (B + 1)) (t2 : T (B + 1 + 1)) :
    Turns T V (((((V2.setCell ⟨B + 1, 0, none⟩ (.int .i64 x0)).setCell ⟨B + 1, 1, none⟩ (.int .i64 x1)).setCell ⟨B + 1, 2, none⟩ (.int .i64 x2)).setCell ⟨B + 1, 3, none⟩ (.int .i64 x3)).setCell ⟨B + 1 + 1, 0, none⟩ (.bool true)) ∧
    BEnd B w hi ds ⟨x0, x1, x2, x3⟩ (((((V2.setCell ⟨B + 1, 0, none⟩ (.int .i64 x0)).setCell ⟨B + 1, 1, none⟩ (.int .i64 x1)).setCell ⟨B + 1, 2, none⟩ (.int .i64 x2)).setCell ⟨B + 1, 3, none⟩ (.int .i64 x3)).setCell ⟨B + 1 + 1, 0, none⟩ (.bool true)) := by
  have n1 : B + 1 ≠ B + 1 + 1 := by omega
  show Turns T V ((put4 V2 (B + 1) ⟨x0, x1, x2, x3⟩).setCell ⟨B + 1 + 1, 0, none⟩ (.bool true)) ∧ BEnd B w hi ds ⟨x0, x1, x2, x3⟩ ((put4 V2 (B + 1) ⟨x0, x1, x2, x3⟩).setCell ⟨B + 1 + 1, 0, none⟩ (.bool true))
  have hbe : Below (B + 1) V2 ((put4 V2 (B + 1) ⟨x0, x1, x2, x3⟩).setCell ⟨B + 1 + 1, 0, none⟩ (.bool true)) := (put4_below (Nat.le_refl _)).setCell (p := ⟨B + 1 + 1, 0, none⟩) (by simp) _
  have q5 : (put4 V2 (B + 1) ⟨x0, x1, x2, x3⟩).heap[B + 1 + 1]? = some (.cells #[.bool false] 4 (0, 0)) := by rw [put4_far (by omega)]; exact J1.hf
  have far : ∀ q, B + 1 + 1 < q → ((put4 V2 (B + 1) ⟨x0, x1, x2, x3⟩).setCell ⟨B + 1 + 1, 0, none⟩ (.bool true)).heap[q]? = V2.heap[q]? := fun q hq => by
    rw [Below.heap_setCell _ _ _ _ (by simp; omega), put4_far (by omega)]
  refine ⟨((Turns.of_below hV).trans (put4_turns t1)).trans (Turns.setCell _ ⟨B + 1 + 1, 0, none⟩ _ t2), J1.below.trans (hbe.mono (by omega)), ⟨J1.size.1, Nat.le_trans J1.size.2 hbe.size⟩, ?_, ?_, J1.coll.same fun q hq _ => far q (by omega)⟩
  · rw [Below.heap_setCell _ _ _ _ (by simp)]; exact put4_blk _ J1.he
  · exact blk_set q5 0 (.bool true)
theorem bear_none {B hi : Nat} {w : World} {bg : Array Value} {rest : Int} {ds : List Deferred} {V2 : World} (J1 : BInv B w bg rest hi ds V2) :
    BInv B w bg rest hi ds (((((V2.setCell ⟨B + 1, 0, none⟩ (.int .i64 0)).setCell ⟨B + 1, 1, none⟩ (.int .i64 0)).setCell ⟨B + 1, 2, none⟩ (.int .i64 0)).setCell ⟨B + 1, 3, none⟩ (.int .i64 0)).setCell ⟨B + 1 + 1, 0, none⟩ (.bool false)) := by
  show BInv B w bg rest hi ds ((put4 V2 (B + 1) z29).setCell ⟨B + 1 + 1, 0, none⟩ (.bool false))
  have hbe : Below (B + 1) V2 ((put4 V2 (B + 1) z29).setCell ⟨B + 1 + 1, 0, none⟩ (.bool false)) := (put4_below (Nat.le_refl _)).setCell (p := ⟨B + 1 + 1, 0, none⟩) (by simp) _
  have q5 : (put4 V2 (B + 1) z29).heap[B + 1 + 1]? = some (.cells #[.bool false] 4 (0, 0)) := by rw [put4_far (by omega)]; exact J1.hf
  have far : ∀ q, q ≠ B + 1 → q ≠ B + 1 + 1 → ((put4 V2 (B + 1) z29).setCell ⟨B + 1 + 1, 0, none⟩ (.bool false)).heap[q]? = V2.heap[q]? := fun q h1 h2 => by
    rw [Below.heap_setCell _ _ _ _ (by simpa using h2), put4_far h1]
  refine ⟨J1.below.trans (hbe.mono (by omega)), ⟨J1.size.1, Nat.le_trans J1.size.2 hbe.size⟩, ?_, ?_, ?_, ?_, J1.coll.same fun q hq _ => far q (by omega) (by omega)⟩
  · rw [far _ (by omega) (by omega)]; exact J1.hb
  · rw [Below.heap_setCell _ _ _ _ (by simp)]; exact put4_blk _ J1.he
  · exact blk_set q5 0 (.bool false)
  · rw [far _ (by omega) (by omega)]; exact J1.hr
set_option maxRecDepth 100000 in
set_option maxHeartbeats 8000000 in
theorem bears_in (A0 A1 A2 At : Option Addr) (c0 c1 c2 ct : Nat) (l0 l1 l2 : List Int) (a3 a4 a5 : Int) (t : List S35) (tr : Bool) (w : World) (e1 : errB l0 l1 l2 a3 a4 a5 = 0) (e2 : errT t = 0)
    (hr0 : Kd.C (Kd.int .i64) w A0 l0.length l0) (hc0 : l0.length ≤ c0) (hr1 : Kd.C (Kd.int .i64) w A1 l1.length l1) (hc1 : l1.length ≤ c1) (hr2 : Kd.C (Kd.int .i64) w A2 l2.length l2) (hc2 : l2.length ≤ c2) (hrt : Kd.C k35 w At t.length t) :
    CallsIn Fence.wide 0 Try.prog 62 #[.agg #[.slice A0 l0.length c0, .slice A1 l1.length c1, .slice A2 l2.length c2, .int .i64 a3, .int .i64 a4, .int .i64 a5], .slice At t.length ct, .bool tr] w fun e W' =>
      e = .returned (.tuple #[.agg (effC (bearsR (bearsV l0 l1 l2 a3 a4 a5 t tr)).1), .bool (bearsR (bearsV l0 l1 l2 a3 a4 a5 t tr)).2]) ∧ Below w.heap.size w W' := by
  have hu24 := Try.underlying24
  have hu29 := Try.underlying29
  have wt : wrap64 (wrap64 (a4 - 1) * a5) = restV a4 a5 true := by
    have g := errB_zero e1
    have r := restV_bd e1 true
    unfold restV at r ⊢
    rw [if_pos rfl] at r ⊢
    rw [w64 (x := a4 - 1) (by omega) (by omega), w64 (by omega) (by omega)]
  have E1 := Aside0.mk e1
  have E2 := Aside0.mk e2
  have HLn := Aside0.mk (show l0.length ≤ 6 ∧ l1.length = l0.length ∧ l2.length = l0.length from ⟨(errB_zero e1).2.1, (errB_zero e1).2.2.1, (errB_zero e1).2.2.2.1⟩)
  clear e1 e2
  obtain ⟨B, hB⟩ : ∃ B, w.heap.size = B := ⟨_, rfl⟩
  refine callsIn_of_wp_marks Try.func62 rfl trivial ?_ rfl
  simp only [Try.ntmps62, List.size_toArray, List.length_cons, List.length_nil, Nat.reduceAdd, Nat.reduceSub, Array.replicate_succ, Array.replicate_zero, List.push_toArray, List.append_toArray, List.nil_append, List.cons_append]
  gi_upto_if 15 with (fail)
  gi_cut [] from 16 (fun wc => BInv B w #[.slice A0 l0.length c0, .slice A1 l1.length c1, .slice A2 l2.length c2, .int .i64 a3, .int .i64 a4, .int .i64 a5] (restV a4 a5 tr) wc.heap.size [] wc)
  case first =>
    have mk : ∀ r : Int, BInv B w #[.slice A0 l0.length c0, .slice A1 l1.length c1, .slice A2 l2.length c2, .int .i64 a3, .int .i64 a4, .int .i64 a5] r (w.heap.size + 4) [] ((((w.alloc (.cells #[.slice A0 l0.length c0, .slice A1 l1.length c1, .slice A2 l2.length c2, .int .i64 a3, .int .i64 a4, .int .i64 a5] 24 (0, 0))).alloc (.cells #[.int .i64 0, .int .i64 0, .int .i64 0, .int .i64 0] 29 (0, 0))).alloc (.cells #[.bool false] 4 (0, 0))).alloc (.cells #[.int .i64 r] 2 (0, 0))) := by
      intro r
      subst hB
      refine ⟨((((Below.refl _ _).alloc (Nat.le_refl _) _).alloc (by simp) _).alloc (by simp; omega) _).alloc (by simp; omega) _, by simp, blk_alloc (blk_alloc (blk_alloc (blk_new _ _) _) _) _, ?_, ?_, ?_, trivial⟩
      · refine blk_alloc (blk_alloc ?_ _) _
        have := blk_new (w.alloc (.cells #[.slice A0 l0.length c0, .slice A1 l1.length c1, .slice A2 l2.length c2, .int .i64 a3, .int .i64 a4, .int .i64 a5] 24 (0, 0))) (.cells (effC z29) 29 (0, 0))
        rwa [World.size_alloc] at this
      · refine blk_alloc ?_ _
        have := blk_new ((w.alloc (.cells #[.slice A0 l0.length c0, .slice A1 l1.length c1, .slice A2 l2.length c2, .int .i64 a3, .int .i64 a4, .int .i64 a5] 24 (0, 0))).alloc (.cells (effC z29) 29 (0, 0))) (.cells #[.bool false] 4 (0, 0))
        rwa [World.size_alloc, World.size_alloc] at this
      · have := blk_new (((w.alloc (.cells #[.slice A0 l0.length c0, .slice A1 l1.length c1, .slice A2 l2.length c2, .int .i64 a3, .int .i64 a4, .int .i64 a5] 24 (0, 0))).alloc (.cells (effC z29) 29 (0, 0))).alloc (.cells #[.bool false] 4 (0, 0))) (.cells #[.int .i64 r] 2 (0, 0))
        rwa [World.size_alloc, World.size_alloc, World.size_alloc] at this
    cases tr with
    | false =>
      have mk := mk 0
      clear wt
      gi_wp2
      gi_meet
      case rel => rw [show restV a4 a5 false = 0 by unfold restV; rw [if_neg (by decide)]]; exact mk.up
    | true =>
      have mk := mk (restV a4 a5 true)
      gi_wp2
      gi_meet
      case rel => exact mk.up
  case rest =>
    clear wt
    obtain ⟨b0, b1, b2, b3, b4, b5⟩ := cells6 hcut.hb
    gi_wp2
    clear b0 b1 b2 b3 b4 b5
    refine wpIn_loop (fun a W => ∃ (k : Nat) (ds : List Deferred) (u9 u10 u11 u12 u13 u14 u26 u27 u28 u29 u30 u31 u32 u33 u34 u35 u36 u37 u38 u39 u40 u41 u42 u43 u44 u45 u46 u47 u48 u49 u50 u51 u52 u53 u54 u55 u56 u57 u58 u59 u60 u61 u62 u63 u64 u65 u66 u67 u68 u69 u70 u71 u72 u73 u74 u75 u76 u77 u78 u79 u80 u81 u82 u83 u84 u85 u86 u87 u88 u89 u90 u91 u92 u93 u94 u95 u96 u97 : Value), a = { tmps := (.agg #[.slice A0 l0.length c0, .slice A1 l1.length c1, .slice A2 l2.length c2, .int .i64 a3, .int .i64 a4, .int .i64 a5] :: .slice At t.length ct :: .bool tr :: .pointer (some ⟨B, 0, none⟩) :: undef :: undef :: .pointer (some ⟨B + 1, 0, none⟩) :: .pointer (some ⟨B + 1 + 1, 0, none⟩) :: .pointer (some ⟨B + 1 + 1 + 1, 0, none⟩) :: u9 :: u10 :: u11 :: u12 :: u13 :: u14 :: .bool tr :: u16 :: u17 :: u18 :: u19 :: u20 :: u21 :: .pointer (some ⟨B, 0, none⟩) :: .slice A0 l0.length c0 :: .int .i64 (l0.length : Int) :: .int .i64 (k : Int) :: u26 :: u27 :: u28 :: u29 :: u30 :: u31 :: u32 :: u33 :: u34 :: u35 :: u36 :: u37 :: u38 :: u39 :: u40 :: u41 :: u42 :: u43 :: u44 :: u45 :: u46 :: u47 :: u48 :: u49 :: u50 :: u51 :: u52 :: u53 :: u54 :: u55 :: u56 :: u57 :: u58 :: u59 :: u60 :: u61 :: u62 :: u63 :: u64 :: u65 :: u66 :: u67 :: u68 :: u69 :: u70 :: u71 :: u72 :: u73 :: u74 :: u75 :: u76 :: u77 :: u78 :: u79 :: u80 :: u81 :: u82 :: u83 :: u84 :: u85 :: u86 :: u87 :: u88 :: u89 :: u90 :: u91 :: u92 :: u93 :: u94 :: u95 :: u96 :: u97 :: u98 :: []).toArray, defers := ds } ∧ k ≤ l0.length ∧ (∀ i, i < k → spanBad l0 l1 l2 a3 (restV a4 a5 tr) t i = none) ∧ BInv B w #[.slice A0 l0.length c0, .slice A1 l1.length c1, .slice A2 l2.length c2, .int .i64 a3, .int .i64 a4, .int .i64 a5] (restV a4 a5 tr) W.heap.size ds W)
      (fun a _ => l0.length - (intOf (a.tmps.getD 25 undef)).toNat) ⟨0, [], _, _, _, _, _, _, _, _, _, _, _, _, _, _, _, _, _, _, _, _, _, _, _, _, _, _, _, _, _, _, _, _, _, _, _, _, _, _, _, _, _, _, _, _, _, _, _, _, _, _, _, _, _, _, _, _, _, _, _, _, _, _, _, _, _, _, _, _, _, _, _, _, _, _, _, _, _, _,  rfl, Nat.zero_le _, fun i h => absurd h (by omega), hcut⟩ ?_
    intro _ W hI
    obtain ⟨k, hI⟩ := hI
    obtain ⟨ds, hI⟩ := hI
    obtain ⟨u9, hI⟩ := hI
    obtain ⟨u10, hI⟩ := hI
    obtain ⟨u11, hI⟩ := hI
    obtain ⟨u12, hI⟩ := hI
    obtain ⟨u13, hI⟩ := hI
    obtain ⟨u14, hI⟩ := hI
    obtain ⟨u26, hI⟩ := hI
    obtain ⟨u27, hI⟩ := hI
    obtain ⟨u28, hI⟩ := hI
    obtain ⟨u29, hI⟩ := hI
    obtain ⟨u30, hI⟩ := hI
    obtain ⟨u31, hI⟩ := hI
    obtain ⟨u32, hI⟩ := hI
    obtain ⟨u33, hI⟩ := hI
    obtain ⟨u34, hI⟩ := hI
    obtain ⟨u35, hI⟩ := hI
    obtain ⟨u36, hI⟩ := hI
    obtain ⟨u37, hI⟩ := hI
    obtain ⟨u38, hI⟩ := hI
    obtain ⟨u39, hI⟩ := hI
    obtain ⟨u40, hI⟩ := hI
    obtain ⟨u41, hI⟩ := hI
    obtain ⟨u42, hI⟩ := hI
    obtain ⟨u43, hI⟩ := hI
    obtain ⟨u44, hI⟩ := hI
    obtain ⟨u45, hI⟩ := hI
    obtain ⟨u46, hI⟩ := hI
    obtain ⟨u47, hI⟩ := hI
    obtain ⟨u48, hI⟩ := hI
    obtain ⟨u49, hI⟩ := hI
    obtain ⟨u50, hI⟩ := hI
    obtain ⟨u51, hI⟩ := hI
    obtain ⟨u52, hI⟩ := hI
    obtain ⟨u53, hI⟩ := hI
    obtain ⟨u54, hI⟩ := hI
    obtain ⟨u55, hI⟩ := hI
    obtain ⟨u56, hI⟩ := hI
    obtain ⟨u57, hI⟩ := hI
    obtain ⟨u58, hI⟩ := hI
    obtain ⟨u59, hI⟩ := hI
    obtain ⟨u60, hI⟩ := hI
    obtain ⟨u61, hI⟩ := hI
    obtain ⟨u62, hI⟩ := hI
    obtain ⟨u63, hI⟩ := hI
    obtain ⟨u64, hI⟩ := hI
    obtain ⟨u65, hI⟩ := hI
    obtain ⟨u66, hI⟩ := hI
    obtain ⟨u67, hI⟩ := hI
    obtain ⟨u68, hI⟩ := hI
    obtain ⟨u69, hI⟩ := hI
    obtain ⟨u70, hI⟩ := hI
    obtain ⟨u71, hI⟩ := hI
    obtain ⟨u72, hI⟩ := hI
    obtain ⟨u73, hI⟩ := hI
    obtain ⟨u74, hI⟩ := hI
    obtain ⟨u75, hI⟩ := hI
    obtain ⟨u76, hI⟩ := hI
    obtain ⟨u77, hI⟩ := hI
    obtain ⟨u78, hI⟩ := hI
    obtain ⟨u79, hI⟩ := hI
    obtain ⟨u80, hI⟩ := hI
    obtain ⟨u81, hI⟩ := hI
    obtain ⟨u82, hI⟩ := hI
    obtain ⟨u83, hI⟩ := hI
    obtain ⟨u84, hI⟩ := hI
    obtain ⟨u85, hI⟩ := hI
    obtain ⟨u86, hI⟩ := hI
    obtain ⟨u87, hI⟩ := hI
    obtain ⟨u88, hI⟩ := hI
    obtain ⟨u89, hI⟩ := hI
    obtain ⟨u90, hI⟩ := hI
    obtain ⟨u91, hI⟩ := hI
    obtain ⟨u92, hI⟩ := hI
    obtain ⟨u93, hI⟩ := hI
    obtain ⟨u94, hI⟩ := hI
    obtain ⟨u95, hI⟩ := hI
    obtain ⟨u96, hI⟩ := hI
    obtain ⟨u97, hI⟩ := hI
    obtain ⟨ha, hk, hnone, I⟩ := hI
    subst ha
    dsimp only
    by_cases hlt : k < l0.length
    · have hL := spansOk_get (errB_zero E1.out).2.2.2.2.2.2.2 k hlt
      obtain ⟨ad, rfl, hx0⟩ := Kd.at_int hr0 (k : Int) (by omega) (by omega)
      rw [rd_get l0 k hlt, Int.toNat_natCast] at hx0
      obtain ⟨ad1, rfl, hm0⟩ := Kd.at_int hr1 (k : Int) (by omega) (by have := HLn.out; omega)
      obtain ⟨ad2, rfl, hs0⟩ := Kd.at_int hr2 (k : Int) (by omega) (by have := HLn.out; omega)
      rw [Int.toNat_natCast] at hm0 hs0
      have HM0 := Aside0.mk hm0
      have HS0 := Aside0.mk hs0
      clear hm0 hs0
      have hIs := I.size
      have HL := Aside0.mk hL
      clear hL
      replace hx0 := ((hB ▸ I.below : Below w.heap.size w W).cell (World.block_lt_of_cell? w _ hx0)).trans hx0
      obtain ⟨W1, hW1⟩ : ∃ W1, (W.alloc (.cells #[.int .i64 (k : Int)] 3 (0, 0))).alloc (.cells #[.int .i64 l0[k]] 2 (0, 0)) = W1 := ⟨_, rfl⟩
      have hb1 : Below W.heap.size W W1 := by rw [← hW1]; exact ((Below.refl _ _).alloc (Nat.le_refl _) _).alloc (by simp) _
      have I1 := I.step hb1 (Nat.le_refl _)
      have k1 : W1.heap[W.heap.size]? = some (.cells #[.int .i64 (k : Int)] 3 (0, 0)) := by rw [← hW1]; exact blk_alloc (blk_new _ _) _
      have k2 : W1.heap[W.heap.size + 1]? = some (.cells #[.int .i64 l0[k]] 2 (0, 0)) := by
        rw [← hW1]; have := blk_new (W.alloc (.cells #[.int .i64 (k : Int)] 3 (0, 0))) (.cells #[.int .i64 l0[k]] 2 (0, 0)); rwa [World.size_alloc] at this
      obtain ⟨b0, b1, b2, b3, b4, b5⟩ := cells6 I1.hb
      have ck : W1.cell? ⟨W.heap.size, 0, none⟩ = some (.int .i64 (k : Int)) := (blk_cell k1 0).trans rfl
      gi_wp2
      refine ⟨trivial, rfl, (checked_make _ _ _ _ _ _ _ _ _ _ _).mono ?_⟩
      rintro e W2 ⟨rfl, hW2⟩
      have hb2 : Below W1.heap.size W1 W2 := by rw [hW2]; exact (((Below.refl _ _).alloc (Nat.le_refl _) _).alloc (by simp) _).alloc (by simp; omega) _
      have s1 : W1.heap.size = W.heap.size + 2 := by rw [← hW1]; simp
      have s2 : W2.heap.size = W.heap.size + 5 := by rw [hW2]; simp; omega
      have p1 : W2.heap[W1.heap.size]? = some (.cells #[.slice (some ad) l0.length c0, .slice (some ad1) l1.length c1, .slice (some ad2) l2.length c2, .int .i64 a3, .int .i64 a4, .int .i64 a5] 24 (0, 0)) := by rw [hW2]; exact blk_alloc (blk_alloc (blk_new _ _) _) _
      have p2 : W2.heap[W1.heap.size + 1]? = some (.cells #[.slice At t.length ct] 25 (0, 0)) := by
        rw [hW2]; refine blk_alloc ?_ _; have := blk_new (W1.alloc (.cells #[.slice (some ad) l0.length c0, .slice (some ad1) l1.length c1, .slice (some ad2) l2.length c2, .int .i64 a3, .int .i64 a4, .int .i64 a5] 24 (0, 0))) (.cells #[.slice At t.length ct] 25 (0, 0)); rwa [World.size_alloc] at this
      have p3 : W2.heap[W1.heap.size + 1 + 1]? = some (.cells #[.int .i64 (k : Int)] 3 (0, 0)) := by
        rw [hW2]; have := blk_new ((W1.alloc (.cells #[.slice (some ad) l0.length c0, .slice (some ad1) l1.length c1, .slice (some ad2) l2.length c2, .int .i64 a3, .int .i64 a4, .int .i64 a5] 24 (0, 0))).alloc (.cells #[.slice At t.length ct] 25 (0, 0))) (.cells #[.int .i64 (k : Int)] 3 (0, 0)); rwa [World.size_alloc, World.size_alloc] at this
      have I2 := I1.step hb2 (by omega)
      have k1' := keep_below hb2 (by omega) k1
      have k2' := keep_below hb2 (by omega) k2
      have hbw2 : Below w.heap.size w W2 := hB ▸ I2.below
      clear b0 b1 b2 b3 b4 b5 ck hx0 hW1 hW2
      rw [s1] at p1 p2 p3
      rw [s1]
      have hs2a : W.heap.size + 5 ≤ W2.heap.size := by omega
      clear s1 s2
      gi_wp2
      refine wpIn_rangeFunc_P (gf := 85) (lb := #[.pointer (some ⟨W.heap.size + 2, 0, none⟩), .pointer (some ⟨W.heap.size + 2 + 1 + 1, 0, none⟩), .pointer (some ⟨W.heap.size + 2 + 1, 0, none⟩)]) rfl (enters_of Try.func85 (by kernel_rfl) rfl) (encs := effV) (L := checkedL l0 t k l0[k]) (T := fun _ => False) (T2 := fun q => q = B + 1 ∨ q = B + 1 + 1) (w0 := W2)
        (checked_seqp _ (W.heap.size + 2) (W.heap.size + 2 + 1 + 1) (W.heap.size + 2 + 1) c0 c1 c2 ct (some ad) (some ad1) (some ad2) At l0 l1 l2 a3 a4 a5 k t W2 hlt (by have := HLn.out; omega) (by have := (errT_zero E2.out).2.1; omega) (by have := HL.out; omega) p1 p3 p2 (Kd.C_below hr0 hbw2) hc0 (Kd.C_below hr1 hbw2) hc1 (Kd.C_below hr2 hbw2) hc2 (Kd.C_below hrt hbw2))
        (fun _ h => h.elim) (fun q h => by rcases h with h | h <;> omega) (Below.refl _ _) (fun _ => rfl)
        (fun pre V => BInv B w #[.slice (some ad) l0.length c0, .slice (some ad1) l1.length c1, .slice (some ad2) l2.length c2, .int .i64 a3, .int .i64 a4, .int .i64 a5] (restV a4 a5 tr) W.heap.size ds V ∧ V.heap[W.heap.size]? = some (.cells #[.int .i64 (k : Int)] 3 (0, 0)) ∧ V.heap[W.heap.size + 1]? = some (.cells #[.int .i64 l0[k]] 2 (0, 0)) ∧ ∀ x ∈ pre, failM a3 (restV a4 a5 tr) l0[k] (rd l1 (k : Int)) x = false)
        (fun pre V => ∃ x, (checkedL l0 t k l0[k]).find? (failM a3 (restV a4 a5 tr) l0[k] (rd l1 (k : Int))) = some x ∧ BEnd B w W.heap.size ds x V)
        ?hI ?hIx ⟨I2, k1', k2', fun x hx => by simp at hx⟩
        (fun x a' V => ∃ Bx, W2.heap.size ≤ Bx ∧ V.heap[Bx]? = some (.cells (effC x) 29 (0, 0)) ∧ a' = { tmps := (.agg #[.slice (some ad) l0.length c0, .slice (some ad1) l1.length c1, .slice (some ad2) l2.length c2, .int .i64 a3, .int .i64 a4, .int .i64 a5] :: .slice At t.length ct :: .bool tr :: .pointer (some ⟨B, 0, none⟩) :: undef :: undef :: .pointer (some ⟨B + 1, 0, none⟩) :: .pointer (some ⟨B + 1 + 1, 0, none⟩) :: .pointer (some ⟨B + 1 + 1 + 1, 0, none⟩) :: .pointer (some ⟨W.heap.size, 0, none⟩) :: .pointer (some ⟨W.heap.size + 1, 0, none⟩) :: .pointer (some ⟨Bx, 0, none⟩) :: u12 :: u13 :: u14 :: .bool tr :: u16 :: u17 :: u18 :: u19 :: u20 :: u21 :: .pointer (some ⟨B, 0, none⟩) :: .slice (some ad) l0.length c0 :: .int .i64 (l0.length : Int) :: .int .i64 (k : Int) :: .bool true :: .int .i64 (k : Int) :: .pointer (some (ad.add k)) :: .int .i64 l0[k] :: .agg #[.slice (some ad) l0.length c0, .slice (some ad1) l1.length c1, .slice (some ad2) l2.length c2, .int .i64 a3, .int .i64 a4, .int .i64 a5] :: .slice At t.length ct :: .int .i64 (k : Int) :: .func (.func 85) #[] #[.pointer (some ⟨W.heap.size + 2, 0, none⟩), .pointer (some ⟨W.heap.size + 2 + 1 + 1, 0, none⟩), .pointer (some ⟨W.heap.size + 2 + 1, 0, none⟩)] :: .agg #[.int .i64 x.f0, .int .i64 x.f1, .int .i64 x.f2, .int .i64 x.f3] :: u35 :: u36 :: u37 :: u38 :: u39 :: u40 :: u41 :: u42 :: u43 :: u44 :: u45 :: u46 :: u47 :: u48 :: u49 :: u50 :: u51 :: u52 :: u53 :: u54 :: u55 :: u56 :: u57 :: u58 :: u59 :: u60 :: u61 :: u62 :: u63 :: u64 :: u65 :: u66 :: u67 :: u68 :: u69 :: u70 :: u71 :: u72 :: u73 :: u74 :: u75 :: u76 :: u77 :: u78 :: u79 :: u80 :: u81 :: u82 :: u83 :: u84 :: u85 :: u86 :: u87 :: u88 :: u89 :: u90 :: u91 :: u92 :: u93 :: u94 :: u95 :: u96 :: u97 :: u98 :: []).toArray, defers := [] })
        ?hAx ?assign ?body ?done ?stop
      case hI =>
        rintro s A V ⟨g1, g2, g3, g4⟩ hb
        exact ⟨g1.step hb (by omega), keep_below hb (by omega) g2, keep_below hb (by omega) g3, g4⟩
      case hIx =>
        rintro s A V ⟨x, g1, g2⟩ hb
        exact ⟨x, g1, g2.step hb (by omega)⟩
      case hAx =>
        rintro x a' V r o ⟨Bx, hBx, hx, rfl⟩ hr
        exact ⟨Bx, hBx, (World.putObj_heap_other (fun e => by subst e; rw [hx] at hr; cases hr)).trans hx, rfl⟩
      case assign =>
        rintro l' pre x V K ⟨g1, g2, g3, g4⟩ hpre hz hK
        dsimp only [effV]
        gi_wp2
        exact hK _ _ ((Below.refl _ _).alloc (Nat.le_refl _) _) ⟨V.heap.size, hz, blk_new _ _, rfl⟩
      case body =>
        rintro l' pre x a' V ⟨g1, g2, g3, g4⟩ hpre hz ⟨Bx, hBx, hx, rfl⟩
        have hmem : x ∈ checkedL l0 t k l0[k] := hpre.subset (by simp)
        have hLo := HL.out
        obtain ⟨n, hn, hxe⟩ : ∃ n : Nat, n < 15 ∧ momentWorst l0 t k l0[k] (l0[k] * ((n + 1 : Nat) : Int) / 16) = x := by
          simp only [checkedL, List.mem_map, List.mem_range] at hmem
          exact hmem
        have hpt : 0 ≤ l0[k] * ((n + 1 : Nat) : Int) / 16 ∧ l0[k] * ((n + 1 : Nat) : Int) / 16 ≤ l0[k] := by
          have z1 : 0 ≤ l0[k] * ((n + 1 : Nat) : Int) := Int.mul_nonneg (by omega) (by omega)
          have z2 : l0[k] * ((n + 1 : Nat) : Int) ≤ l0[k] * 16 := Int.mul_le_mul_of_nonneg_left (by omega) (by omega)
          omega
        obtain ⟨pl, _, hme⟩ := momentWorst_bd (k := k) (x := l0[k] * ((n + 1 : Nat) : Int) / 16) E1.out E2.out (show 0 ≤ l0[k] ∧ l0[k] ≤ 131072 by omega) hpt
        rw [hxe] at hme
        have v60 := effS_le60 (f := fun y => momentI l0[k] (l0[k] * ((n + 1 : Nat) : Int) / 16) (y - startW l0 k)) (s := pl) (fun a => momentI_bd (by omega) hpt _) E2.out
        have hf0 : 0 ≤ x.f0 ∧ x.f0 ≤ 1152921504606846976 := by rw [hme]; exact v60
        have hf2 : 0 ≤ x.f2 ∧ x.f2 ≤ l0[k] := by rw [hme]; exact hpt
        have hrest := restV_bd E1.out tr
        have hdyn := (errB_zero E1.out).2.2.2.2.1
        have hsp := (errB_zero E1.out).2.2.2.2.2.2.2
        have hMb : 1 ≤ rd l1 (k : Int) ∧ rd l1 (k : Int) ≤ 1073741824 := (spansOk_ms hsp k hlt).1
        clear v60 hme hxe hpt hn hsp hmem
        obtain ⟨x0, x1, x2, x3⟩ := x
        simp only at hf0 hf2
        obtain ⟨fs1, fs2, fs3⟩ := share_fit hdyn hf0 hLo
        have mp0 : 0 ≤ restV a4 a5 tr * x2 := Int.mul_nonneg hrest.1 hf2.1
        have mp1 : restV a4 a5 tr * x2 ≤ 12288 * 131072 := Int.mul_le_mul hrest.2 (by omega) hf2.1 (by decide)
        have mq0 : 0 ≤ restV a4 a5 tr * x2 * (l0[k] - x2) := Int.mul_nonneg mp0 (by omega)
        have mq1 : restV a4 a5 tr * x2 * (l0[k] - x2) ≤ 12288 * 131072 * 131072 := Int.mul_le_mul mp1 (by omega) (by omega) (by decide)
        have fu := up_eq (n := restV a4 a5 tr * x2 * (l0[k] - x2)) (d := 2000) mq0 (by omega) (by decide) (by decide)
        have fu1 := upI_nonneg (n := restV a4 a5 tr * x2 * (l0[k] - x2)) (d := 2000) mq0 (by decide)
        have fu2 := upI_le (n := restV a4 a5 tr * x2 * (l0[k] - x2)) (d := 2000) mq0 (by decide)
        have hfail : failM a3 (restV a4 a5 tr) l0[k] (rd l1 (k : Int)) ⟨x0, x1, x2, x3⟩ = decide (shareZ (1000 + a3) x0 (1000 * l0[k]) + upI (restV a4 a5 tr * x2 * (l0[k] - x2)) 2000 > 1000 * rd l1 (k : Int)) := rfl
        obtain ⟨rs, hrs⟩ : ∃ r, restV a4 a5 tr = r := ⟨_, rfl⟩
        obtain ⟨L, hLk⟩ : ∃ L, l0[k] = L := ⟨_, rfl⟩
        obtain ⟨M, hMk⟩ : ∃ M, rd l1 (k : Int) = M := ⟨_, rfl⟩
        rw [hrs] at fu fu1 fu2 hfail mq0 mq1 mp0 mp1
        rw [hLk] at fu fu1 fu2 hfail mq0 mq1
        rw [hLk] at fs1 fs2 fs3 hf2 hLo
        rw [hMk] at hfail hMb
        obtain ⟨S, hS⟩ : ∃ S, shareZ (1000 + a3) x0 (1000 * L) = S := ⟨_, rfl⟩
        obtain ⟨U, hU⟩ : ∃ U, upI (rs * x2 * (L - x2)) 2000 = U := ⟨_, rfl⟩
        rw [hS] at fs1 fs2 fs3 hfail
        rw [hU] at fu fu1 fu2 hfail
        rw [hrs] at hrest
        have FS := Aside0.mk fs1
        have FU := Aside0.mk fu
        have FF := Aside0.mk hfail
        have G1 := Aside0.mk g1
        have RS := Aside0.mk hrs
        have LK := Aside0.mk hLk
        have MK := Aside0.mk hMk
        -- the cells
        obtain ⟨b0, b1, b2, b3, b4, b5⟩ := cells6 g1.hb
        have ck : V.cell? ⟨W.heap.size, 0, none⟩ = some (.int .i64 (k : Int)) := (blk_cell g2 0).trans rfl
        have cL : V.cell? ⟨W.heap.size + 1, 0, none⟩ = some (.int .i64 L) := by rw [← hLk]; exact (blk_cell g3 0).trans rfl
        have cr : V.cell? ⟨B + 1 + 1 + 1, 0, none⟩ = some (.int .i64 rs) := by rw [← hrs]; exact (blk_cell g1.hr 0).trans rfl
        have cM := ((hB ▸ g1.below : Below w.heap.size w V).cell (World.block_lt_of_cell? w _ HM0.out)).trans HM0.out
        rw [hMk] at cM
        obtain ⟨⟨y0, y1, y2, y3⟩, _⟩ := cells4 hx
        have w1 : IntKind.i64.wrap (1000 + a3) = 1000 + a3 := by rw [i64_w]; exact w64 (by omega) (by omega)
        have w2 : IntKind.i64.wrap (1000 * L) = 1000 * L := by rw [i64_w]; exact w64 (by omega) (by omega)
        have w3 : IntKind.i64.wrap (rs * x2) = rs * x2 := by rw [i64_w]; exact w64 (by omega) (by omega)
        have w4 : IntKind.i64.wrap (L - x2) = L - x2 := by rw [i64_w]; exact w64 (by omega) (by omega)
        have w5 : IntKind.i64.wrap (rs * x2 * (L - x2)) = rs * x2 * (L - x2) := by rw [i64_w]; exact w64 (by omega) (by omega)
        have w6 : IntKind.i64.wrap (S + U) = S + U := by rw [i64_w]; exact w64 (by omega) (by omega)
        have w7 : IntKind.i64.wrap (1000 * M) = 1000 * M := by rw [i64_w]; exact w64 (by omega) (by omega)
        have KX := Aside0.mk hx
        have G2 := Aside0.mk g2
        have G3 := Aside0.mk g3
        have G4 := Aside0.mk g4
        have HP := Aside0.mk hpre
        clear g1 g2 g3 g4 hpre hx hrs hLk hMk fs1 fs2 fs3 fu fu1 fu2 hfail mp0 mp1 mq0 mq1 hS hU hf0 hf2 hLo hrest hMb hdyn
        have hkl : k < l1.length := by have := HLn.out; omega
        dsimp only [effC]
        gi_wp2
        refine wpIn_region_any (by kernel_rfl) ?_
        change wpAnyIn _ _ _ _ _ _ _ _ _ (World.drew V)
        refine wpAnyIn_inv (fun listed a V' => a = { tmps := (.agg #[.slice (some ad) l0.length c0, .slice (some ad1) l1.length c1, .slice (some ad2) l2.length c2, .int .i64 a3, .int .i64 a4, .int .i64 a5] :: .slice At t.length ct :: .bool tr :: .pointer (some ⟨B, 0, none⟩) :: undef :: undef :: .pointer (some ⟨B + 1, 0, none⟩) :: .pointer (some ⟨B + 1 + 1, 0, none⟩) :: .pointer (some ⟨B + 1 + 1 + 1, 0, none⟩) :: .pointer (some ⟨W.heap.size, 0, none⟩) :: .pointer (some ⟨W.heap.size + 1, 0, none⟩) :: .pointer (some ⟨Bx, 0, none⟩) :: u12 :: u13 :: u14 :: .bool tr :: u16 :: u17 :: u18 :: u19 :: u20 :: u21 :: .pointer (some ⟨B, 0, none⟩) :: .slice (some ad) l0.length c0 :: .int .i64 (l0.length : Int) :: .int .i64 (k : Int) :: .bool true :: .int .i64 (k : Int) :: .pointer (some (ad.add k)) :: .int .i64 l0[k] :: .agg #[.slice (some ad) l0.length c0, .slice (some ad1) l1.length c1, .slice (some ad2) l2.length c2, .int .i64 a3, .int .i64 a4, .int .i64 a5] :: .slice At t.length ct :: .int .i64 (k : Int) :: .func (.func 85) #[] #[.pointer (some ⟨W.heap.size + 2, 0, none⟩), .pointer (some ⟨W.heap.size + 2 + 1 + 1, 0, none⟩), .pointer (some ⟨W.heap.size + 2 + 1, 0, none⟩)] :: .agg #[.int .i64 x0, .int .i64 x1, .int .i64 x2, .int .i64 x3] :: selOr listed 0 (.pointer (some ⟨B, 3, none⟩)) u35 :: selOr listed 1 (.int .i64 a3) u36 :: selOr listed 2 (.int .i64 (1000 + a3)) u37 :: selOr listed 3 (.pointer (some ⟨Bx, 0, none⟩)) u38 :: selOr listed 4 (.int .i64 x0) u39 :: selOr listed 5 (.int .i64 L) u40 :: selOr listed 6 (.int .i64 (1000 * L)) u41 :: selOr listed 7 (.int .i64 S) u42 :: selOr listed 8 (.int .i64 rs) u43 :: selOr listed 9 (.pointer (some ⟨Bx, 2, none⟩)) u44 :: selOr listed 10 (.int .i64 x2) u45 :: selOr listed 11 (.int .i64 (rs * x2)) u46 :: selOr listed 12 (.int .i64 L) u47 :: selOr listed 13 (.pointer (some ⟨Bx, 2, none⟩)) u48 :: selOr listed 14 (.int .i64 x2) u49 :: selOr listed 15 (.int .i64 (L - x2)) u50 :: selOr listed 16 (.int .i64 (rs * x2 * (L - x2))) u51 :: selOr listed 17 (.int .i64 U) u52 :: selOr listed 18 (.int .i64 (S + U)) u53 :: selOr listed 19 (.pointer (some ⟨B, 1, none⟩)) u54 :: selOr listed 20 (.slice (some ad1) l1.length c1) u55 :: selOr listed 21 (.int .i64 (k : Int)) u56 :: selOr listed 22 (.pointer (some (ad1.add k))) u57 :: selOr listed 23 (.int .i64 M) u58 :: selOr listed 24 (.int .i64 (1000 * M)) u59 :: selOr listed 25 (.bool (decide (1000 * M < S + U))) u60 :: u61 :: u62 :: u63 :: u64 :: u65 :: u66 :: u67 :: u68 :: u69 :: u70 :: u71 :: u72 :: u73 :: u74 :: u75 :: u76 :: u77 :: u78 :: u79 :: u80 :: u81 :: u82 :: u83 :: u84 :: u85 :: u86 :: u87 :: u88 :: u89 :: u90 :: u91 :: u92 :: u93 :: u94 :: u95 :: u96 :: u97 :: u98 :: []).toArray, defers := [] } ∧ ∃ m, V' = World.drewN V m)
          33 ?stepq ?stopq ?finq 26 _ _ _ (by simp) (closed_none _) ⟨by simp [selOr], 1, rfl⟩ (by simp)
        case stopq =>
          intro listed a V' fuel hs hc hi hr
          have := (ready_lt hr).1
          simp at hs
          omega
        case stepq =>
          rintro listed a V' i hs hc ⟨rfl, m, rfl⟩ hr hne K hK
          obtain ⟨hlt', hl0⟩ := ready_lt hr
          have hi : i = 0 ∨ i = 1 ∨ i = 2 ∨ i = 3 ∨ i = 4 ∨ i = 5 ∨ i = 6 ∨ i = 7 ∨ i = 8 ∨ i = 9 ∨ i = 10 ∨ i = 11 ∨ i = 12 ∨ i = 13 ∨ i = 14 ∨ i = 15 ∨ i = 16 ∨ i = 17 ∨ i = 18 ∨ i = 19 ∨ i = 20 ∨ i = 21 ∨ i = 22 ∨ i = 23 ∨ i = 24 ∨ i = 25 := by simp at hs; omega
          rcases hi with rfl | rfl | rfl | rfl | rfl | rfl | rfl | rfl | rfl | rfl | rfl | rfl | rfl | rfl | rfl | rfl | rfl | rfl | rfl | rfl | rfl | rfl | rfl | rfl | rfl | rfl
          · refine wpOpIn_of rfl rfl ?_
            clear hr hl0
            gi_wp2
            refine ⟨?_, m, rfl⟩
            simp (disch := decide) only [selOr_same hlt', selOr_other hlt']
          · refine wpOpIn_of rfl rfl ?_
            have d0 : listed.getD 0 false = true := ready_after hr rfl { on := 0, ground := .data } (by simp) rfl
            simp only [selOr_on d0]
            clear hr hl0
            gi_wp2
            refine ⟨?_, m, rfl⟩
            simp (disch := decide) only [selOr_same hlt', selOr_other hlt', selOr_on d0]
          · refine wpOpIn_of rfl rfl ?_
            have d1 : listed.getD 1 false = true := ready_after hr rfl { on := 1, ground := .data } (by simp) rfl
            simp only [selOr_on d1]
            clear hr hl0
            gi_wp2
            refine ⟨?_, m, rfl⟩
            simp (disch := decide) only [selOr_same hlt', selOr_other hlt', selOr_on d1]
          · refine wpOpIn_of rfl rfl ?_
            clear hr hl0
            gi_wp2
            refine ⟨?_, m, rfl⟩
            simp (disch := decide) only [selOr_same hlt', selOr_other hlt']
          · refine wpOpIn_of rfl rfl ?_
            have d3 : listed.getD 3 false = true := ready_after hr rfl { on := 3, ground := .data } (by simp) rfl
            simp only [selOr_on d3]
            clear hr hl0
            gi_wp2
            refine ⟨?_, m, rfl⟩
            simp (disch := decide) only [selOr_same hlt', selOr_other hlt', selOr_on d3]
          · refine wpOpIn_of rfl rfl ?_
            clear hr hl0
            gi_wp2
            refine ⟨?_, m, rfl⟩
            simp (disch := decide) only [selOr_same hlt', selOr_other hlt']
          · refine wpOpIn_of rfl rfl ?_
            have d5 : listed.getD 5 false = true := ready_after hr rfl { on := 5, ground := .data } (by simp) rfl
            simp only [selOr_on d5]
            clear hr hl0
            gi_wp2
            refine ⟨?_, m, rfl⟩
            simp (disch := decide) only [selOr_same hlt', selOr_other hlt', selOr_on d5]
          · refine wpOpIn_of rfl rfl ?_
            have d2 : listed.getD 2 false = true := ready_after hr rfl { on := 2, ground := .data } (by simp) rfl
            have d4 : listed.getD 4 false = true := ready_after hr rfl { on := 4, ground := .data } (by simp) rfl
            have d6 : listed.getD 6 false = true := ready_after hr rfl { on := 6, ground := .data } (by simp) rfl
            simp only [selOr_on d2, selOr_on d4, selOr_on d6]
            clear hr hl0
            gi_wp2
            refine ⟨trivial, rfl, (CallsIn.inRound l' (callsIn_w (bridge_share.calls _ _ _ _ _ FS.out))).mono ?_⟩
            rintro e V5 ⟨rfl, ⟨nd, rfl⟩⟩
            gi_wp2
            refine ⟨?_, m + nd, rfl⟩
            simp (disch := decide) only [selOr_same hlt', selOr_other hlt', selOr_on d2, selOr_on d4, selOr_on d6]
          · refine wpOpIn_of rfl rfl ?_
            clear hr hl0
            gi_wp2
            refine ⟨?_, m, rfl⟩
            simp (disch := decide) only [selOr_same hlt', selOr_other hlt']
          · refine wpOpIn_of rfl rfl ?_
            clear hr hl0
            gi_wp2
            refine ⟨?_, m, rfl⟩
            simp (disch := decide) only [selOr_same hlt', selOr_other hlt']
          · refine wpOpIn_of rfl rfl ?_
            have d9 : listed.getD 9 false = true := ready_after hr rfl { on := 9, ground := .data } (by simp) rfl
            simp only [selOr_on d9]
            clear hr hl0
            gi_wp2
            refine ⟨?_, m, rfl⟩
            simp (disch := decide) only [selOr_same hlt', selOr_other hlt', selOr_on d9]
          · refine wpOpIn_of rfl rfl ?_
            have d8 : listed.getD 8 false = true := ready_after hr rfl { on := 8, ground := .data } (by simp) rfl
            have d10 : listed.getD 10 false = true := ready_after hr rfl { on := 10, ground := .data } (by simp) rfl
            simp only [selOr_on d8, selOr_on d10]
            clear hr hl0
            gi_wp2
            refine ⟨?_, m, rfl⟩
            simp (disch := decide) only [selOr_same hlt', selOr_other hlt', selOr_on d8, selOr_on d10]
          · refine wpOpIn_of rfl rfl ?_
            clear hr hl0
            gi_wp2
            refine ⟨?_, m, rfl⟩
            simp (disch := decide) only [selOr_same hlt', selOr_other hlt']
          · refine wpOpIn_of rfl rfl ?_
            clear hr hl0
            gi_wp2
            refine ⟨?_, m, rfl⟩
            simp (disch := decide) only [selOr_same hlt', selOr_other hlt']
          · refine wpOpIn_of rfl rfl ?_
            have d13 : listed.getD 13 false = true := ready_after hr rfl { on := 13, ground := .data } (by simp) rfl
            simp only [selOr_on d13]
            clear hr hl0
            gi_wp2
            refine ⟨?_, m, rfl⟩
            simp (disch := decide) only [selOr_same hlt', selOr_other hlt', selOr_on d13]
          · refine wpOpIn_of rfl rfl ?_
            have d12 : listed.getD 12 false = true := ready_after hr rfl { on := 12, ground := .data } (by simp) rfl
            have d14 : listed.getD 14 false = true := ready_after hr rfl { on := 14, ground := .data } (by simp) rfl
            simp only [selOr_on d12, selOr_on d14]
            clear hr hl0
            gi_wp2
            refine ⟨?_, m, rfl⟩
            simp (disch := decide) only [selOr_same hlt', selOr_other hlt', selOr_on d12, selOr_on d14]
          · refine wpOpIn_of rfl rfl ?_
            have d11 : listed.getD 11 false = true := ready_after hr rfl { on := 11, ground := .data } (by simp) rfl
            have d15 : listed.getD 15 false = true := ready_after hr rfl { on := 15, ground := .data } (by simp) rfl
            simp only [selOr_on d11, selOr_on d15]
            clear hr hl0
            gi_wp2
            refine ⟨?_, m, rfl⟩
            simp (disch := decide) only [selOr_same hlt', selOr_other hlt', selOr_on d11, selOr_on d15]
          · refine wpOpIn_of rfl rfl ?_
            have d16 : listed.getD 16 false = true := ready_after hr rfl { on := 16, ground := .data } (by simp) rfl
            simp only [selOr_on d16]
            clear hr hl0
            gi_wp2
            refine ⟨trivial, rfl, (CallsIn.inRound l' (callsIn_w (bridge_up.calls _ _ _ _ FU.out))).mono ?_⟩
            rintro e V5 ⟨rfl, ⟨nd, rfl⟩⟩
            gi_wp2
            refine ⟨?_, m + nd, rfl⟩
            simp (disch := decide) only [selOr_same hlt', selOr_other hlt', selOr_on d16]
          · refine wpOpIn_of rfl rfl ?_
            have d7 : listed.getD 7 false = true := ready_after hr rfl { on := 7, ground := .data } (by simp) rfl
            have d17 : listed.getD 17 false = true := ready_after hr rfl { on := 17, ground := .data } (by simp) rfl
            simp only [selOr_on d7, selOr_on d17]
            clear hr hl0
            gi_wp2
            refine ⟨?_, m, rfl⟩
            simp (disch := decide) only [selOr_same hlt', selOr_other hlt', selOr_on d7, selOr_on d17]
          · refine wpOpIn_of rfl rfl ?_
            clear hr hl0
            gi_wp2
            refine ⟨?_, m, rfl⟩
            simp (disch := decide) only [selOr_same hlt', selOr_other hlt']
          · refine wpOpIn_of rfl rfl ?_
            have d19 : listed.getD 19 false = true := ready_after hr rfl { on := 19, ground := .data } (by simp) rfl
            simp only [selOr_on d19]
            clear hr hl0
            gi_wp2
            refine ⟨?_, m, rfl⟩
            simp (disch := decide) only [selOr_same hlt', selOr_other hlt', selOr_on d19]
          · refine wpOpIn_of rfl rfl ?_
            clear hr hl0
            gi_wp2
            refine ⟨?_, m, rfl⟩
            simp (disch := decide) only [selOr_same hlt', selOr_other hlt']
          · refine wpOpIn_of rfl rfl ?_
            have d20 : listed.getD 20 false = true := ready_after hr rfl { on := 20, ground := .data } (by simp) rfl
            have d21 : listed.getD 21 false = true := ready_after hr rfl { on := 21, ground := .data } (by simp) rfl
            simp only [selOr_on d20, selOr_on d21]
            clear hr hl0
            gi_wp2
            refine ⟨?_, m, rfl⟩
            simp (disch := decide) only [selOr_same hlt', selOr_other hlt', selOr_on d20, selOr_on d21]
          · refine wpOpIn_of rfl rfl ?_
            have d22 : listed.getD 22 false = true := ready_after hr rfl { on := 22, ground := .data } (by simp) rfl
            simp only [selOr_on d22]
            clear hr hl0
            gi_wp2
            refine ⟨?_, m, rfl⟩
            simp (disch := decide) only [selOr_same hlt', selOr_other hlt', selOr_on d22]
          · refine wpOpIn_of rfl rfl ?_
            have d23 : listed.getD 23 false = true := ready_after hr rfl { on := 23, ground := .data } (by simp) rfl
            simp only [selOr_on d23]
            clear hr hl0
            gi_wp2
            refine ⟨?_, m, rfl⟩
            simp (disch := decide) only [selOr_same hlt', selOr_other hlt', selOr_on d23]
          · refine wpOpIn_of rfl rfl ?_
            have d18 : listed.getD 18 false = true := ready_after hr rfl { on := 18, ground := .data } (by simp) rfl
            have d24 : listed.getD 24 false = true := ready_after hr rfl { on := 24, ground := .data } (by simp) rfl
            simp only [selOr_on d18, selOr_on d24]
            clear hr hl0
            gi_wp2
            refine ⟨?_, m, rfl⟩
            simp (disch := decide) only [selOr_same hlt', selOr_other hlt', selOr_on d18, selOr_on d24]
        case finq =>
          rintro listed a V' hs ⟨rfl, m, rfl⟩ hr
          have all : ∀ j, j < 26 → listed.getD j false = true := fun j hj => by
            cases q : listed.getD j false
            · exact absurd hr (ready_ne hs (by kernel_rfl) j (by simpa using hj) q)
            · rfl
          simp only [selOr_on (all 0 (by decide)), selOr_on (all 1 (by decide)), selOr_on (all 2 (by decide)), selOr_on (all 3 (by decide)), selOr_on (all 4 (by decide)), selOr_on (all 5 (by decide)), selOr_on (all 6 (by decide)), selOr_on (all 7 (by decide)), selOr_on (all 8 (by decide)), selOr_on (all 9 (by decide)), selOr_on (all 10 (by decide)), selOr_on (all 11 (by decide)), selOr_on (all 12 (by decide)), selOr_on (all 13 (by decide)), selOr_on (all 14 (by decide)), selOr_on (all 15 (by decide)), selOr_on (all 16 (by decide)), selOr_on (all 17 (by decide)), selOr_on (all 18 (by decide)), selOr_on (all 19 (by decide)), selOr_on (all 20 (by decide)), selOr_on (all 21 (by decide)), selOr_on (all 22 (by decide)), selOr_on (all 23 (by decide)), selOr_on (all 24 (by decide)), selOr_on (all 25 (by decide))]
          clear all hr hs
          clear b0 b1 b2 b3 b4 b5 ck cL cr cM w1 w2 w3 w4 w5 w6 w7 y0 y1 y2 y3
          have hbm : Below V.heap.size V (World.drewN V m) := pw_below_drewN (Below.refl _ _) m
          obtain ⟨V2, hV2⟩ : ∃ V2, World.drewN V m = V2 := ⟨_, rfl⟩
          rw [hV2] at hbm ⊢
          clear hV2
          have hzV := G1.out.size
          have J1 := G1.out.step hbm (by omega)
          have hVz := hbm.size
          have HBM := Aside0.mk hbm
          have HVZ := Aside0.mk hVz
          clear hbm hzV hVz
          by_cases hd : 1000 * M < S + U
          · have d1 : decide (1000 * M < S + U) = true := decide_eq_true hd
            have hfl := FF.out
            rw [decide_eq_true (show S + U > 1000 * M from hd)] at hfl
            rw [← RS.out, ← LK.out, ← MK.out] at hfl
            have HF2 := Aside0.mk hfl
            rw [d1]
            clear hd hfl
            obtain ⟨⟨o0, o1, o2, o3⟩, f0, f1, f2, f3⟩ := cells4 J1.he
            obtain ⟨⟨y0, y1, y2, y3⟩, _⟩ := cells4 (keep_below HBM.out (blk_lt KX.out) KX.out)
            have fb := blk_frozen J1.hf 0
            have cb : V2.cell? ⟨B + 1 + 1, 0, none⟩ = some (.bool false) := (blk_cell J1.hf 0).trans rfl
            gi_wp2
            dsimp only [postP]
            have HE := bear_store x0 x1 x2 x3 (T := Tor (fun q => q = B + 1 ∨ q = B + 1 + 1) W2.heap.size W2.heap.size) J1 HBM.out (.inl (.inl rfl)) (.inl (.inr rfl))
            exact ⟨HE.1, _, find_first HP.out G4.out HF2.out, HE.2⟩
          · have d1 : decide (1000 * M < S + U) = false := decide_eq_false hd
            have hfl := FF.out
            rw [decide_eq_false (show ¬ S + U > 1000 * M from hd)] at hfl
            rw [← RS.out, ← LK.out, ← MK.out] at hfl
            have HF2 := Aside0.mk hfl
            rw [d1]
            clear hd hfl
            gi_wp2
            dsimp only [postP]
            refine ⟨?_, J1, ?_, ?_, ?_⟩
            · exact Turns.of_below HBM.out
            · exact keep_below HBM.out (blk_lt G2.out) G2.out
            · exact keep_below HBM.out (blk_lt G3.out) G3.out
            · intro y hy
              rcases List.mem_append.1 hy with g | g
              · exact G4.out y g
              · rw [List.mem_singleton.1 g]; exact HF2.out
      case stop =>
        rintro D pre V hD hpre ⟨x, hfx, hE⟩ hK
        have hbv : bearsV l0 l1 l2 a3 a4 a5 t tr = some x := bearsV_at hlt hnone (by unfold spanBad; rw [rd_get l0 k hlt, hfx])
        have hDs : W.heap.size ≤ D := by omega
        have hE4 := hE.size
        have HBV := Aside0.mk hbv
        have HE := Aside0.mk hE
        have HDK := Aside0.mk hK
        clear hbv hE hfx hK
        gi_wp2
        refine leaves_coll (B := B + 4) _ (D + 1) _ (HE.out.coll.push (by omega) hDs HDK.out) fun W' hW' => ?_
        refine ⟨_, results_eb rfl _ _ (B + 1) (effC x) (B + 1 + 1) (.bool true) rfl rfl ((hW'.block _ (by omega)).trans HE.out.he) ((blk_cell ((hW'.block _ (by omega)).trans HE.out.hf) 0).trans rfl) rfl, ?_⟩
        exact ⟨by rw [HBV.out]; rfl, hB ▸ HE.out.below.trans (hW'.mono (by omega))⟩
      case done =>
        rintro D V hD ⟨g1, g2, g3, g4⟩ hK
        have hDV : D < V.heap.size := (Array.getElem?_eq_some_iff.1 hK).1
        have J0 : BInv B w #[.slice (some ad) l0.length c0, .slice (some ad1) l1.length c1, .slice (some ad2) l2.length c2, .int .i64 a3, .int .i64 a4, .int .i64 a5] (restV a4 a5 tr) (D + 1) ({ target := .collected D, args := #[] } :: ds) V := ⟨g1.below, ⟨by have := g1.size; omega, by omega⟩, g1.hb, g1.he, g1.hf, g1.hr, g1.coll.push (by omega) (by omega) hK⟩
        have NF := Aside0.mk (show (checkedL l0 t k l0[k]).find? (failM a3 (restV a4 a5 tr) l0[k] (rd l1 (k : Int))) = none from List.find?_eq_none.2 fun x hx => by rw [g4 x hx]; decide)
        have hDW : W.heap.size + 5 ≤ D := by omega
        clear hK g1 g4 hDV
        gi_wp2
        gi_loopw [63] (fun v V' => ∃ j : Nat, j ≤ 2 ∧ v = .int .i64 (j : Int) ∧ ((1 ≤ j → failE a3 (restV a4 a5 tr) l0[k] (rd l2 (k : Int)) (endWorst l0 t k l0[k] false (-1)) = false) ∧ (2 ≤ j → failE a3 (restV a4 a5 tr) l0[k] (rd l2 (k : Int)) (endWorst l0 t k l0[k] true (-2)) = false)) ∧
          BInv B w #[.slice (some ad) l0.length c0, .slice (some ad1) l1.length c1, .slice (some ad2) l2.length c2, .int .i64 a3, .int .i64 a4, .int .i64 a5] (restV a4 a5 tr) (D + 1) ({ target := .collected D, args := #[] } :: ds) V' ∧ V'.heap[W.heap.size]? = some (.cells #[.int .i64 (k : Int)] 3 (0, 0)) ∧ V'.heap[W.heap.size + 1]? = some (.cells #[.int .i64 l0[k]] 2 (0, 0))) (fun v _ => 2 - (intOf v).toNat)
        case atStart => exact ⟨0, by omega, rfl, ⟨fun h => absurd h (by omega), fun h => absurd h (by omega)⟩, J0, g2, g3⟩
        case round =>
          clear g2 g3 J0
          rename World => V1
          obtain ⟨j, hj, rfl, hok, g1, g2, g3⟩ := hrel
          by_cases hj2 : j < 2
          · obtain ⟨r, pt, hr, hpt⟩ : ∃ (r : Bool) (pt : Int), ((j = 0 ∧ r = false) ∨ (j = 1 ∧ r = true)) ∧ pt = -1 - (j : Int) := by
              rcases (show j = 0 ∨ j = 1 by omega) with h | h
              · exact ⟨false, _, .inl ⟨h, rfl⟩, rfl⟩
              · exact ⟨true, _, .inr ⟨h, rfl⟩, rfl⟩
            have hidx : ∀ w, (Instr.index 107 (.agg #[.bool false, .bool true]) (.int .i64 (j : Int))).run Try.prog w = .ok (.bool r) w := by
              rcases hr with ⟨rfl, rfl⟩ | ⟨rfl, rfl⟩
              · intro w; kernel_rfl
              · intro w; kernel_rfl
            have HR := Aside0.mk hr
            have HO := Aside0.mk hok
            have G1 := Aside0.mk g1
            have G2 := Aside0.mk g2
            have G3 := Aside0.mk g3
            have hz1 := g1.size
            have HZ := Aside0.mk hz1
            clear hr hok g1 g2 g3 hz1
            have wpt : IntKind.i64.wrap (-1 - (j : Int)) = pt := by rw [i64_w, hpt]; exact w64 (by omega) (by omega)
            have HPT := Aside0.mk hpt
            clear hpt
            gi_wp2
            obtain ⟨X, hX⟩ : ∃ X, endWorst l0 t k l0[k] r pt = X := ⟨_, rfl⟩
            have HX := Aside0.mk hX
            unfold endWorst at hX
            have HXu := Aside0.mk hX
            clear hX wpt hidx
            refine wpIn_region_any (by kernel_rfl) ?_
            change wpAnyIn _ _ _ _ _ _ _ _ _ (World.drew V1)
            refine wpAnyIn_inv (fun listed a V' => ∃ lb A c B14, a = { tmps := (.agg #[.slice (some ad) l0.length c0, .slice (some ad1) l1.length c1, .slice (some ad2) l2.length c2, .int .i64 a3, .int .i64 a4, .int .i64 a5] :: .slice At t.length ct :: .bool tr :: .pointer (some ⟨B, 0, none⟩) :: undef :: undef :: .pointer (some ⟨B + 1, 0, none⟩) :: .pointer (some ⟨B + 1 + 1, 0, none⟩) :: .pointer (some ⟨B + 1 + 1 + 1, 0, none⟩) :: .pointer (some ⟨W.heap.size, 0, none⟩) :: .pointer (some ⟨W.heap.size + 1, 0, none⟩) :: u11 :: .int .i64 (j : Int) :: .bool r :: selOr listed 9 (.pointer (some ⟨B14, 0, none⟩)) u14 :: .bool tr :: u16 :: u17 :: u18 :: u19 :: u20 :: u21 :: .pointer (some ⟨B, 0, none⟩) :: .slice (some ad) l0.length c0 :: .int .i64 (l0.length : Int) :: .int .i64 (k : Int) :: .bool true :: .int .i64 (k : Int) :: .pointer (some (ad.add k)) :: .int .i64 l0[k] :: .agg #[.slice (some ad) l0.length c0, .slice (some ad1) l1.length c1, .slice (some ad2) l2.length c2, .int .i64 a3, .int .i64 a4, .int .i64 a5] :: .slice At t.length ct :: .int .i64 (k : Int) :: .func (.func 85) #[] #[.pointer (some ⟨W.heap.size + 2, 0, none⟩), .pointer (some ⟨W.heap.size + 2 + 1 + 1, 0, none⟩), .pointer (some ⟨W.heap.size + 2 + 1, 0, none⟩)] :: u34 :: u35 :: u36 :: u37 :: u38 :: u39 :: u40 :: u41 :: u42 :: u43 :: u44 :: u45 :: u46 :: u47 :: u48 :: u49 :: u50 :: u51 :: u52 :: u53 :: u54 :: u55 :: u56 :: u57 :: u58 :: u59 :: u60 :: u61 :: .agg #[.bool false, .bool true] :: .int .i64 (j : Int) :: .bool true :: .int .i64 (j : Int) :: .bool r :: selOr listed 0 (.agg #[.slice (some ad) l0.length c0, .slice (some ad1) l1.length c1, .slice (some ad2) l2.length c2, .int .i64 a3, .int .i64 a4, .int .i64 a5]) u67 :: selOr listed 1 (.int .i64 (k : Int)) u68 :: selOr listed 2 (.bool r) u69 :: selOr listed 3 (.agg #[.func (.func 78) #[] lb, .slice A 2 c]) u70 :: selOr listed 4 (.slice At t.length ct) u71 :: selOr listed 5 (.int .i64 (k : Int)) u72 :: selOr listed 6 (.int .i64 (j : Int)) u73 :: selOr listed 7 (.int .i64 pt) u74 :: selOr listed 8 (.agg #[.int .i64 X.f0, .int .i64 X.f1, .int .i64 X.f2, .int .i64 X.f3]) u75 :: u76 :: u77 :: u78 :: u79 :: u80 :: u81 :: u82 :: u83 :: u84 :: u85 :: u86 :: u87 :: u88 :: u89 :: u90 :: u91 :: u92 :: u93 :: u94 :: u95 :: u96 :: u97 :: u98 :: []).toArray, defers := { target := .collected D, args := #[] } :: ds } ∧ Below V1.heap.size V1 V' ∧ (listed.getD 3 false = true → LineFn 78 lb (endW (startW l0 k) l0[k] r) V' ∧ Kd.C (Kd.int .i64) V' A 2 [startW l0 k, wrap64 (startW l0 k + l0[k])]) ∧ (listed.getD 9 false = true → V1.heap.size ≤ B14 ∧ V'.heap[B14]? = some (.cells (effC z29) 29 (0, 0))) ∧ listed.getD 10 false = false)
              10 ?stepe ?stope ?fine 11 _ _ _ (by simp) (closed_none _) ⟨#[], none, 0, 0, by simp [selOr]; omega, (Below.refl _ _).drew, by simp, by simp, by simp⟩ (by simp)
            case stepe =>
              rintro listed a V' i hs hc ⟨lb, A, c, B14, rfl, q1, q2, q3, q9⟩ hr hne K hK
              obtain ⟨hlt', hl0⟩ := ready_lt hr
              have hwV : Below w.heap.size w V' := hB ▸ G1.out.below.trans (q1.mono (by have := HZ.out; omega))
              have J := G1.out.step q1 HZ.out.2
              have hi : i = 0 ∨ i = 1 ∨ i = 2 ∨ i = 3 ∨ i = 4 ∨ i = 5 ∨ i = 6 ∨ i = 7 ∨ i = 8 ∨ i = 9 := by simp at hs; omega
              rcases hi with rfl | rfl | rfl | rfl | rfl | rfl | rfl | rfl | rfl | rfl
              · refine wpOpIn_of rfl rfl ?_
                obtain ⟨b0, b1, b2, b3, b4, b5⟩ := cells6 J.hb
                clear hr hl0
                gi_wp2
                refine ⟨lb, A, c, B14, ?_, q1, by rw [getD_other hlt' (by decide)]; exact q2, by rw [getD_other hlt' (by decide)]; exact q3, by rw [getD_other hlt' (by decide)]; exact q9⟩
                simp (disch := decide) only [selOr_same hlt', selOr_other hlt']
              · refine wpOpIn_of rfl rfl ?_
                have ck : V'.cell? ⟨W.heap.size, 0, none⟩ = some (.int .i64 (k : Int)) := (blk_cell (keep_below q1 (blk_lt G2.out) G2.out) 0).trans rfl
                clear hr hl0
                gi_wp2
                refine ⟨lb, A, c, B14, ?_, q1, by rw [getD_other hlt' (by decide)]; exact q2, by rw [getD_other hlt' (by decide)]; exact q3, by rw [getD_other hlt' (by decide)]; exact q9⟩
                simp (disch := decide) only [selOr_same hlt', selOr_other hlt']
              · refine wpOpIn_of rfl rfl ?_
                clear hr hl0
                gi_wp2
                refine ⟨lb, A, c, B14, ?_, q1, by rw [getD_other hlt' (by decide)]; exact q2, by rw [getD_other hlt' (by decide)]; exact q3, by rw [getD_other hlt' (by decide)]; exact q9⟩
                simp (disch := decide) only [selOr_same hlt', selOr_other hlt']
              · refine wpOpIn_of rfl rfl ?_
                have d0 : listed.getD 0 false = true := ready_after hr rfl { on := 0, ground := .data } (by simp) rfl
                have d1 : listed.getD 1 false = true := ready_after hr rfl { on := 1, ground := .data } (by simp) rfl
                have d2 : listed.getD 2 false = true := ready_after hr rfl { on := 2, ground := .data } (by simp) rfl
                simp only [selOr_on d0, selOr_on d1, selOr_on d2]
                clear hr
                gi_wp2
                refine ⟨trivial, rfl, (callsIn_w (end_calls (some ad) (some ad1) (some ad2) c0 c1 c2 l0 l1 l2 a3 a4 a5 k r V' hlt (by have := HLn.out; omega) (Kd.C_below hr0 hwV) hc0 (Kd.C_below hr1 hwV) hc1 (Kd.C_below hr2 hwV) hc2)).mono ?_⟩
                rintro e V5 ⟨lb5, A5, c5, rfl, hl5, hk5, hb5⟩
                gi_wp2
                have d8 : listed.getD 8 false = false := by
                    cases q : listed.getD 8 false
                    · rfl
                    · have := hc 8 _ rfl q { on := 3, ground := .data } (by simp) rfl
                      rw [hl0] at this; cases this
                refine ⟨lb5, A5, c5, B14, ?_, q1.trans (hb5.mono q1.size), fun _ => ⟨hl5, hk5⟩, fun h9 => ?_, by rw [getD_other hlt' (by decide)]; exact q9⟩
                · simp (disch := decide) only [selOr_same hlt', selOr_other hlt', selOr_on d0, selOr_on d1, selOr_on d2]
                · rw [getD_other hlt' (by decide)] at h9; exact ⟨(q3 h9).1, keep_below hb5 (blk_lt (q3 h9).2) (q3 h9).2⟩
              · refine wpOpIn_of rfl rfl ?_
                clear hr hl0
                gi_wp2
                refine ⟨lb, A, c, B14, ?_, q1, by rw [getD_other hlt' (by decide)]; exact q2, by rw [getD_other hlt' (by decide)]; exact q3, by rw [getD_other hlt' (by decide)]; exact q9⟩
                simp (disch := decide) only [selOr_same hlt', selOr_other hlt']
              · refine wpOpIn_of rfl rfl ?_
                have ck : V'.cell? ⟨W.heap.size, 0, none⟩ = some (.int .i64 (k : Int)) := (blk_cell (keep_below q1 (blk_lt G2.out) G2.out) 0).trans rfl
                clear hr hl0
                gi_wp2
                refine ⟨lb, A, c, B14, ?_, q1, by rw [getD_other hlt' (by decide)]; exact q2, by rw [getD_other hlt' (by decide)]; exact q3, by rw [getD_other hlt' (by decide)]; exact q9⟩
                simp (disch := decide) only [selOr_same hlt', selOr_other hlt']
              · refine wpOpIn_of rfl rfl ?_
                clear hr hl0
                gi_wp2
                refine ⟨lb, A, c, B14, ?_, q1, by rw [getD_other hlt' (by decide)]; exact q2, by rw [getD_other hlt' (by decide)]; exact q3, by rw [getD_other hlt' (by decide)]; exact q9⟩
                simp (disch := decide) only [selOr_same hlt', selOr_other hlt']
              · refine wpOpIn_of rfl rfl ?_
                have wpt : IntKind.i64.wrap (-1 - (j : Int)) = pt := by rw [i64_w, HPT.out]; exact w64 (by omega) (by omega)
                have d6 : listed.getD 6 false = true := ready_after hr rfl { on := 6, ground := .data } (by simp) rfl
                simp only [selOr_on d6]
                clear hr hl0
                gi_wp2
                refine ⟨lb, A, c, B14, ?_, q1, by rw [getD_other hlt' (by decide)]; exact q2, by rw [getD_other hlt' (by decide)]; exact q3, by rw [getD_other hlt' (by decide)]; exact q9⟩
                simp (disch := decide) only [selOr_same hlt', selOr_other hlt', selOr_on d6]
              · refine wpOpIn_of rfl rfl ?_
                have d3 : listed.getD 3 false = true := ready_after hr rfl { on := 3, ground := .data } (by simp) rfl
                have d4 : listed.getD 4 false = true := ready_after hr rfl { on := 4, ground := .data } (by simp) rfl
                have d5 : listed.getD 5 false = true := ready_after hr rfl { on := 5, ground := .data } (by simp) rfl
                have d7 : listed.getD 7 false = true := ready_after hr rfl { on := 7, ground := .data } (by simp) rfl
                simp only [selOr_on d3, selOr_on d4, selOr_on d5, selOr_on d7]
                clear hr hl0
                gi_wp2
                obtain ⟨ql, qk⟩ := q2 d3
                refine ⟨trivial, rfl, (worst_in 78 lb _ ct c 2 At A t _ (k : Int) pt V' ql (by have := (errT_zero E2.out).2.1; omega) (Kd.C_below hrt hwV) rfl qk).mono ?_⟩
                rw [HXu.out]
                rintro e V5 ⟨rfl, hb5⟩
                dsimp only [effC]
                gi_wp2
                refine ⟨lb, A, c, B14, ?_, q1.trans (hb5.mono q1.size), fun _ => ⟨ql.below hb5, Kd.C_below qk hb5⟩, fun h9 => ?_, by rw [getD_other hlt' (by decide)]; exact q9⟩
                · simp (disch := decide) only [selOr_same hlt', selOr_other hlt', selOr_on d3, selOr_on d4, selOr_on d5, selOr_on d7]
                · rw [getD_other hlt' (by decide)] at h9; exact ⟨(q3 h9).1, keep_below hb5 (blk_lt (q3 h9).2) (q3 h9).2⟩
              · refine wpOpIn_of rfl rfl ?_
                clear hr
                gi_wp2
                have hba : Below V'.heap.size V' (V'.alloc (.cells (effC z29) 29 (0, 0))) := (Below.refl _ _).alloc (Nat.le_refl _) _
                refine ⟨lb, A, c, V'.heap.size, ?_, q1.trans (hba.mono q1.size), fun h3 => ?_, fun _ => ⟨q1.size, blk_new _ _⟩, by rw [getD_other hlt' (by decide)]; exact q9⟩
                · simp (disch := decide) only [selOr_same hlt', selOr_other hlt']
                · rw [getD_other hlt' (by decide)] at h3; exact ⟨(q2 h3).1.below hba, Kd.C_below (q2 h3).2 hba⟩
            case fine =>
              rintro listed a V' hs ⟨lb, A, c, B14, rfl, q1, q2, q3, q9⟩ hr
              exact absurd hr (ready_ne hs (by kernel_rfl) 10 (by simp) q9)
            case stope =>
            rintro listed a V' fuel hs hc ⟨lb, A, c, B14, rfl, q1, q2, q3, q9⟩ hr hfuel
            have d8 : listed.getD 8 false = true := ready_after hr rfl { on := 8, ground := .data } (by simp) rfl
            have d9 : listed.getD 9 false = true := ready_after hr rfl { on := 9, ground := .data } (by simp) rfl
            have d3 : listed.getD 3 false = true := hc 8 _ rfl d8 { on := 3, ground := .data } (by simp) rfl
            have d4 : listed.getD 4 false = true := hc 8 _ rfl d8 { on := 4, ground := .data } (by simp) rfl
            have d5 : listed.getD 5 false = true := hc 8 _ rfl d8 { on := 5, ground := .data } (by simp) rfl
            have d7 : listed.getD 7 false = true := hc 8 _ rfl d8 { on := 7, ground := .data } (by simp) rfl
            have d0 : listed.getD 0 false = true := hc 3 _ rfl d3 { on := 0, ground := .data } (by simp) rfl
            have d1 : listed.getD 1 false = true := hc 3 _ rfl d3 { on := 1, ground := .data } (by simp) rfl
            have d2 : listed.getD 2 false = true := hc 3 _ rfl d3 { on := 2, ground := .data } (by simp) rfl
            have d6 : listed.getD 6 false = true := hc 7 _ rfl d7 { on := 6, ground := .data } (by simp) rfl
            have q14 := q3 d9
            have hl := arr11 (l := listed) (by simpa using hs)
            rw [d0, d1, d2, d3, d4, d5, d6, d7, d8, d9, q9] at hl
            simp only [selOr_on d0, selOr_on d1, selOr_on d2, selOr_on d3, selOr_on d4, selOr_on d5, selOr_on d6, selOr_on d7, selOr_on d8, selOr_on d9]
            subst hl
            refine wpOpIn_of rfl rfl ?_
            obtain ⟨⟨o0, o1, o2, o3⟩, f0, f1, f2, f3⟩ := cells4 q14.2
            gi_wp2
            clear o0 o1 o2 o3 f0 f1 f2 f3
            refine wpAnyIn_done (by kernel_rfl) ?_ _
            gi_wp2
            -- the second region, behind the first one
            obtain ⟨V3, hV3⟩ : ∃ V3, put4 V' B14 X = V3 := ⟨_, rfl⟩
            have h14 : V3.heap[B14]? = some (.cells (effC X) 29 (0, 0)) := by rw [← hV3]; exact put4_blk X q14.2
            have hbV : Below V1.heap.size V1 V3 := by rw [← hV3]; exact q1.trans (put4_below q14.1)
            have J3 := G1.out.step hbV HZ.out.2
            have k13 := keep_below hbV (blk_lt G2.out) G2.out
            have k23 := keep_below hbV (blk_lt G3.out) G3.out
            unfold put4 at hV3
            rw [hV3]
            clear hV3 q14 q1 q2 hs hc hr hfuel d0 d1 d2 d3 d4 d5 d6 d7 d8 d9
            have hLo := HL.out
            have hX0 : 0 ≤ X.f0 ∧ X.f0 ≤ 1152921504606846976 := by
              obtain ⟨pl, _, hme⟩ := endWorst_bd (k := k) (L := l0[k]) (point := pt) (right := r) E1.out E2.out (show 0 ≤ l0[k] ∧ l0[k] ≤ 131072 by omega)
              rw [HX.out] at hme
              rw [hme]
              exact effS_le60 (fun a => endI_bd (by omega) _) E2.out
            have hrest := restV_bd E1.out tr
            have hdyn := (errB_zero E1.out).2.2.2.2.1
            have hMb := (spansOk_ms (errB_zero E1.out).2.2.2.2.2.2.2 k hlt).2
            obtain ⟨fs1, fs2, fs3⟩ := share_fit hdyn hX0 hLo
            have mp0 : 0 ≤ restV a4 a5 tr * l0[k] := Int.mul_nonneg hrest.1 (by omega)
            have mp1 : restV a4 a5 tr * l0[k] ≤ 12288 * 131072 := Int.mul_le_mul hrest.2 (by omega) (by omega) (by decide)
            have fu := up_eq (n := restV a4 a5 tr * l0[k]) (d := 2000) mp0 (by omega) (by decide) (by decide)
            have fu1 := upI_nonneg (n := restV a4 a5 tr * l0[k]) (d := 2000) mp0 (by decide)
            have fu2 := upI_le (n := restV a4 a5 tr * l0[k]) (d := 2000) mp0 (by decide)
            have hfail : failE a3 (restV a4 a5 tr) l0[k] (rd l2 (k : Int)) X = decide (shareZ (1000 + a3) X.f0 (1000 * l0[k]) + upI (restV a4 a5 tr * l0[k]) 2000 > rd l2 (k : Int)) := rfl
            obtain ⟨rs, hrs⟩ : ∃ r, restV a4 a5 tr = r := ⟨_, rfl⟩
            obtain ⟨L, hLk⟩ : ∃ L, l0[k] = L := ⟨_, rfl⟩
            obtain ⟨M, hMk⟩ : ∃ M, rd l2 (k : Int) = M := ⟨_, rfl⟩
            rw [hrs] at fu fu1 fu2 hfail mp0 mp1 hrest
            rw [hLk] at fs1 fs2 fs3 fu fu1 fu2 hfail mp0 mp1 hLo
            rw [hMk] at hfail hMb
            obtain ⟨S, hS⟩ : ∃ S, shareZ (1000 + a3) X.f0 (1000 * L) = S := ⟨_, rfl⟩
            obtain ⟨U, hU⟩ : ∃ U, upI (rs * L) 2000 = U := ⟨_, rfl⟩
            rw [hS] at fs1 fs2 fs3 hfail
            rw [hU] at fu fu1 fu2 hfail
            have FS := Aside0.mk fs1
            have FU := Aside0.mk fu
            have FF := Aside0.mk hfail
            have RS := Aside0.mk hrs
            have LK := Aside0.mk hLk
            have MK := Aside0.mk hMk
            obtain ⟨b0, b1, b2, b3, b4, b5⟩ := cells6 J3.hb
            have ck : V3.cell? ⟨W.heap.size, 0, none⟩ = some (.int .i64 (k : Int)) := (blk_cell k13 0).trans rfl
            have cL : V3.cell? ⟨W.heap.size + 1, 0, none⟩ = some (.int .i64 L) := by rw [← hLk]; exact (blk_cell k23 0).trans rfl
            have cr : V3.cell? ⟨B + 1 + 1 + 1, 0, none⟩ = some (.int .i64 rs) := by rw [← hrs]; exact (blk_cell J3.hr 0).trans rfl
            have cM := ((hB ▸ J3.below : Below w.heap.size w V3).cell (World.block_lt_of_cell? w _ HS0.out)).trans HS0.out
            rw [hMk] at cM
            obtain ⟨⟨y0, y1, y2, y3⟩, _⟩ := cells4 h14
            have w1 : IntKind.i64.wrap (1000 + a3) = 1000 + a3 := by rw [i64_w]; exact w64 (by omega) (by omega)
            have w2 : IntKind.i64.wrap (1000 * L) = 1000 * L := by rw [i64_w]; exact w64 (by omega) (by omega)
            have w3 : IntKind.i64.wrap (rs * L) = rs * L := by rw [i64_w]; exact w64 (by omega) (by omega)
            have w6 : IntKind.i64.wrap (S + U) = S + U := by rw [i64_w]; exact w64 (by omega) (by omega)
            have hkl : k < l2.length := by have := HLn.out; omega
            have HBV := Aside0.mk hbV
            have K14 := Aside0.mk h14
            have K13 := Aside0.mk k13
            have K23 := Aside0.mk k23
            have J3A := Aside0.mk J3
            clear hrs hLk hMk fs1 fs2 fs3 fu fu1 fu2 hfail mp0 mp1 hS hU hX0 hLo hrest hMb hdyn hbV h14 k13 k23 J3
            refine wpIn_region_any (by kernel_rfl) ?_
            change wpAnyIn _ _ _ _ _ _ _ _ _ (World.drew V3)
            refine wpAnyIn_inv (fun listed a V' => a = { tmps := (.agg #[.slice (some ad) l0.length c0, .slice (some ad1) l1.length c1, .slice (some ad2) l2.length c2, .int .i64 a3, .int .i64 a4, .int .i64 a5] :: .slice At t.length ct :: .bool tr :: .pointer (some ⟨B, 0, none⟩) :: undef :: undef :: .pointer (some ⟨B + 1, 0, none⟩) :: .pointer (some ⟨B + 1 + 1, 0, none⟩) :: .pointer (some ⟨B + 1 + 1 + 1, 0, none⟩) :: .pointer (some ⟨W.heap.size, 0, none⟩) :: .pointer (some ⟨W.heap.size + 1, 0, none⟩) :: u11 :: .int .i64 (j : Int) :: .bool r :: .pointer (some ⟨B14, 0, none⟩) :: .bool tr :: u16 :: u17 :: u18 :: u19 :: u20 :: u21 :: .pointer (some ⟨B, 0, none⟩) :: .slice (some ad) l0.length c0 :: .int .i64 (l0.length : Int) :: .int .i64 (k : Int) :: .bool true :: .int .i64 (k : Int) :: .pointer (some (ad.add k)) :: .int .i64 l0[k] :: .agg #[.slice (some ad) l0.length c0, .slice (some ad1) l1.length c1, .slice (some ad2) l2.length c2, .int .i64 a3, .int .i64 a4, .int .i64 a5] :: .slice At t.length ct :: .int .i64 (k : Int) :: .func (.func 85) #[] #[.pointer (some ⟨W.heap.size + 2, 0, none⟩), .pointer (some ⟨W.heap.size + 2 + 1 + 1, 0, none⟩), .pointer (some ⟨W.heap.size + 2 + 1, 0, none⟩)] :: u34 :: u35 :: u36 :: u37 :: u38 :: u39 :: u40 :: u41 :: u42 :: u43 :: u44 :: u45 :: u46 :: u47 :: u48 :: u49 :: u50 :: u51 :: u52 :: u53 :: u54 :: u55 :: u56 :: u57 :: u58 :: u59 :: u60 :: u61 :: .agg #[.bool false, .bool true] :: .int .i64 (j : Int) :: .bool true :: .int .i64 (j : Int) :: .bool r :: .agg #[.slice (some ad) l0.length c0, .slice (some ad1) l1.length c1, .slice (some ad2) l2.length c2, .int .i64 a3, .int .i64 a4, .int .i64 a5] :: .int .i64 (k : Int) :: .bool r :: .agg #[.func (.func 78) #[] lb, .slice A 2 c] :: .slice At t.length ct :: .int .i64 (k : Int) :: .int .i64 (j : Int) :: .int .i64 pt :: .agg #[.int .i64 X.f0, .int .i64 X.f1, .int .i64 X.f2, .int .i64 X.f3] :: selOr listed 0 (.pointer (some ⟨B, 3, none⟩)) u76 :: selOr listed 1 (.int .i64 a3) u77 :: selOr listed 2 (.int .i64 (1000 + a3)) u78 :: selOr listed 3 (.pointer (some ⟨B14, 0, none⟩)) u79 :: selOr listed 4 (.int .i64 X.f0) u80 :: selOr listed 5 (.int .i64 L) u81 :: selOr listed 6 (.int .i64 (1000 * L)) u82 :: selOr listed 7 (.int .i64 S) u83 :: selOr listed 8 (.int .i64 rs) u84 :: selOr listed 9 (.int .i64 L) u85 :: selOr listed 10 (.int .i64 (rs * L)) u86 :: selOr listed 11 (.int .i64 U) u87 :: selOr listed 12 (.int .i64 (S + U)) u88 :: selOr listed 13 (.pointer (some ⟨B, 2, none⟩)) u89 :: selOr listed 14 (.slice (some ad2) l2.length c2) u90 :: selOr listed 15 (.int .i64 (k : Int)) u91 :: selOr listed 16 (.pointer (some (ad2.add k))) u92 :: selOr listed 17 (.int .i64 M) u93 :: selOr listed 18 (.bool (decide (M < S + U))) u94 :: u95 :: u96 :: u97 :: u98 :: []).toArray, defers := { target := .collected D, args := #[] } :: ds } ∧ ∃ m, V' = World.drewN V3 m)
              26 ?stepq ?stopq ?finq 19 _ _ _ (by simp) (closed_none _) ⟨by simp [selOr], 1, rfl⟩ (by simp)
            case stopq =>
              intro listed a V' fuel hs hc hi hr
              have := (ready_lt hr).1
              simp at hs
              omega
            case stepq =>
              rintro listed a V' i hs hc ⟨rfl, m, rfl⟩ hr hne K hK
              obtain ⟨hlt', hl0⟩ := ready_lt hr
              have hi : i = 0 ∨ i = 1 ∨ i = 2 ∨ i = 3 ∨ i = 4 ∨ i = 5 ∨ i = 6 ∨ i = 7 ∨ i = 8 ∨ i = 9 ∨ i = 10 ∨ i = 11 ∨ i = 12 ∨ i = 13 ∨ i = 14 ∨ i = 15 ∨ i = 16 ∨ i = 17 ∨ i = 18 := by simp at hs; omega
              rcases hi with rfl | rfl | rfl | rfl | rfl | rfl | rfl | rfl | rfl | rfl | rfl | rfl | rfl | rfl | rfl | rfl | rfl | rfl | rfl
              · refine wpOpIn_of rfl rfl ?_
                clear hr hl0
                gi_wp2
                refine ⟨?_, m, rfl⟩
                simp (disch := decide) only [selOr_same hlt', selOr_other hlt']
              · refine wpOpIn_of rfl rfl ?_
                have d0 : listed.getD 0 false = true := ready_after hr rfl { on := 0, ground := .data } (by simp) rfl
                simp only [selOr_on d0]
                clear hr hl0
                gi_wp2
                refine ⟨?_, m, rfl⟩
                simp (disch := decide) only [selOr_same hlt', selOr_other hlt', selOr_on d0]
              · refine wpOpIn_of rfl rfl ?_
                have d1 : listed.getD 1 false = true := ready_after hr rfl { on := 1, ground := .data } (by simp) rfl
                simp only [selOr_on d1]
                clear hr hl0
                gi_wp2
                refine ⟨?_, m, rfl⟩
                simp (disch := decide) only [selOr_same hlt', selOr_other hlt', selOr_on d1]
              · refine wpOpIn_of rfl rfl ?_
                clear hr hl0
                gi_wp2
                refine ⟨?_, m, rfl⟩
                simp (disch := decide) only [selOr_same hlt', selOr_other hlt']
              · refine wpOpIn_of rfl rfl ?_
                have d3 : listed.getD 3 false = true := ready_after hr rfl { on := 3, ground := .data } (by simp) rfl
                simp only [selOr_on d3]
                clear hr hl0
                gi_wp2
                refine ⟨?_, m, rfl⟩
                simp (disch := decide) only [selOr_same hlt', selOr_other hlt', selOr_on d3]
              · refine wpOpIn_of rfl rfl ?_
                clear hr hl0
                gi_wp2
                refine ⟨?_, m, rfl⟩
                simp (disch := decide) only [selOr_same hlt', selOr_other hlt']
              · refine wpOpIn_of rfl rfl ?_
                have d5 : listed.getD 5 false = true := ready_after hr rfl { on := 5, ground := .data } (by simp) rfl
                simp only [selOr_on d5]
                clear hr hl0
                gi_wp2
                refine ⟨?_, m, rfl⟩
                simp (disch := decide) only [selOr_same hlt', selOr_other hlt', selOr_on d5]
              · refine wpOpIn_of rfl rfl ?_
                have d2 : listed.getD 2 false = true := ready_after hr rfl { on := 2, ground := .data } (by simp) rfl
                have d4 : listed.getD 4 false = true := ready_after hr rfl { on := 4, ground := .data } (by simp) rfl
                have d6 : listed.getD 6 false = true := ready_after hr rfl { on := 6, ground := .data } (by simp) rfl
                simp only [selOr_on d2, selOr_on d4, selOr_on d6]
                clear hr hl0
                gi_wp2
                refine ⟨trivial, rfl, (callsIn_w (bridge_share.calls _ _ _ _ _ FS.out)).mono ?_⟩
                rintro e V5 ⟨rfl, ⟨nd, rfl⟩⟩
                gi_wp2
                refine ⟨?_, m + nd, rfl⟩
                simp (disch := decide) only [selOr_same hlt', selOr_other hlt', selOr_on d2, selOr_on d4, selOr_on d6]
              · refine wpOpIn_of rfl rfl ?_
                clear hr hl0
                gi_wp2
                refine ⟨?_, m, rfl⟩
                simp (disch := decide) only [selOr_same hlt', selOr_other hlt']
              · refine wpOpIn_of rfl rfl ?_
                clear hr hl0
                gi_wp2
                refine ⟨?_, m, rfl⟩
                simp (disch := decide) only [selOr_same hlt', selOr_other hlt']
              · refine wpOpIn_of rfl rfl ?_
                have d8 : listed.getD 8 false = true := ready_after hr rfl { on := 8, ground := .data } (by simp) rfl
                have d9 : listed.getD 9 false = true := ready_after hr rfl { on := 9, ground := .data } (by simp) rfl
                simp only [selOr_on d8, selOr_on d9]
                clear hr hl0
                gi_wp2
                refine ⟨?_, m, rfl⟩
                simp (disch := decide) only [selOr_same hlt', selOr_other hlt', selOr_on d8, selOr_on d9]
              · refine wpOpIn_of rfl rfl ?_
                have d10 : listed.getD 10 false = true := ready_after hr rfl { on := 10, ground := .data } (by simp) rfl
                simp only [selOr_on d10]
                clear hr hl0
                gi_wp2
                refine ⟨trivial, rfl, (callsIn_w (bridge_up.calls _ _ _ _ FU.out)).mono ?_⟩
                rintro e V5 ⟨rfl, ⟨nd, rfl⟩⟩
                gi_wp2
                refine ⟨?_, m + nd, rfl⟩
                simp (disch := decide) only [selOr_same hlt', selOr_other hlt', selOr_on d10]
              · refine wpOpIn_of rfl rfl ?_
                have d7 : listed.getD 7 false = true := ready_after hr rfl { on := 7, ground := .data } (by simp) rfl
                have d11 : listed.getD 11 false = true := ready_after hr rfl { on := 11, ground := .data } (by simp) rfl
                simp only [selOr_on d7, selOr_on d11]
                clear hr hl0
                gi_wp2
                refine ⟨?_, m, rfl⟩
                simp (disch := decide) only [selOr_same hlt', selOr_other hlt', selOr_on d7, selOr_on d11]
              · refine wpOpIn_of rfl rfl ?_
                clear hr hl0
                gi_wp2
                refine ⟨?_, m, rfl⟩
                simp (disch := decide) only [selOr_same hlt', selOr_other hlt']
              · refine wpOpIn_of rfl rfl ?_
                have d13 : listed.getD 13 false = true := ready_after hr rfl { on := 13, ground := .data } (by simp) rfl
                simp only [selOr_on d13]
                clear hr hl0
                gi_wp2
                refine ⟨?_, m, rfl⟩
                simp (disch := decide) only [selOr_same hlt', selOr_other hlt', selOr_on d13]
              · refine wpOpIn_of rfl rfl ?_
                clear hr hl0
                gi_wp2
                refine ⟨?_, m, rfl⟩
                simp (disch := decide) only [selOr_same hlt', selOr_other hlt']
              · refine wpOpIn_of rfl rfl ?_
                have d14 : listed.getD 14 false = true := ready_after hr rfl { on := 14, ground := .data } (by simp) rfl
                have d15 : listed.getD 15 false = true := ready_after hr rfl { on := 15, ground := .data } (by simp) rfl
                simp only [selOr_on d14, selOr_on d15]
                clear hr hl0
                gi_wp2
                refine ⟨?_, m, rfl⟩
                simp (disch := decide) only [selOr_same hlt', selOr_other hlt', selOr_on d14, selOr_on d15]
              · refine wpOpIn_of rfl rfl ?_
                have d16 : listed.getD 16 false = true := ready_after hr rfl { on := 16, ground := .data } (by simp) rfl
                simp only [selOr_on d16]
                clear hr hl0
                gi_wp2
                refine ⟨?_, m, rfl⟩
                simp (disch := decide) only [selOr_same hlt', selOr_other hlt', selOr_on d16]
              · refine wpOpIn_of rfl rfl ?_
                have d12 : listed.getD 12 false = true := ready_after hr rfl { on := 12, ground := .data } (by simp) rfl
                have d17 : listed.getD 17 false = true := ready_after hr rfl { on := 17, ground := .data } (by simp) rfl
                simp only [selOr_on d12, selOr_on d17]
                clear hr hl0
                gi_wp2
                refine ⟨?_, m, rfl⟩
                simp (disch := decide) only [selOr_same hlt', selOr_other hlt', selOr_on d12, selOr_on d17]
            case finq =>
              rintro listed a V' hs ⟨rfl, m, rfl⟩ hr
              have all : ∀ j, j < 19 → listed.getD j false = true := fun j hj => by
                cases q : listed.getD j false
                · exact absurd hr (ready_ne hs (by kernel_rfl) j (by simpa using hj) q)
                · rfl
              simp only [selOr_on (all 0 (by decide)), selOr_on (all 1 (by decide)), selOr_on (all 2 (by decide)), selOr_on (all 3 (by decide)), selOr_on (all 4 (by decide)), selOr_on (all 5 (by decide)), selOr_on (all 6 (by decide)), selOr_on (all 7 (by decide)), selOr_on (all 8 (by decide)), selOr_on (all 9 (by decide)), selOr_on (all 10 (by decide)), selOr_on (all 11 (by decide)), selOr_on (all 12 (by decide)), selOr_on (all 13 (by decide)), selOr_on (all 14 (by decide)), selOr_on (all 15 (by decide)), selOr_on (all 16 (by decide)), selOr_on (all 17 (by decide)), selOr_on (all 18 (by decide))]
              clear all hr hs
              clear b0 b1 b2 b3 b4 b5 ck cL cr cM w1 w2 w3 w6 y0 y1 y2 y3
              have hbm : Below V3.heap.size V3 (World.drewN V3 m) := pw_below_drewN (Below.refl _ _) m
              obtain ⟨V4, hV4⟩ : ∃ V4, World.drewN V3 m = V4 := ⟨_, rfl⟩
              rw [hV4] at hbm ⊢
              clear hV4
              have J4 := J3A.out.step hbm J3A.out.size.2
              have HBM := Aside0.mk hbm
              clear hbm
              by_cases hd : M < S + U
              · have d1 : decide (M < S + U) = true := decide_eq_true hd
                have hfl := FF.out
                rw [decide_eq_true (show S + U > M from hd)] at hfl
                rw [← RS.out, ← LK.out, ← MK.out] at hfl
                have hbv : bearsV l0 l1 l2 a3 a4 a5 t tr = some X := by
                  refine bearsV_at hlt hnone ?_
                  unfold spanBad
                  rw [rd_get l0 k hlt, NF.out]
                  rcases HR.out with ⟨rfl, rfl⟩ | ⟨rfl, rfl⟩
                  · have e := HX.out
                    rw [show pt = -1 by have := HPT.out; omega] at e
                    rw [e, if_pos hfl]
                  · have e := HX.out
                    rw [show pt = -2 by have := HPT.out; omega] at e
                    rw [HO.out.1 (by omega), if_neg (by decide), e, if_pos hfl]
                have HBR := Aside0.mk hbv
                first | rw [d1] | skip
                clear hd hfl hbv
                obtain ⟨⟨o0, o1, o2, o3⟩, f0, f1, f2, f3⟩ := cells4 J4.he
                obtain ⟨⟨y0, y1, y2, y3⟩, _⟩ := cells4 (keep_below HBM.out (blk_lt K14.out) K14.out)
                have fb := blk_frozen J4.hf 0
                have cb : V4.cell? ⟨B + 1 + 1, 0, none⟩ = some (.bool false) := (blk_cell J4.hf 0).trans rfl
                gi_wp2
                have HE := (bear_store X.f0 X.f1 X.f2 X.f3 (T := fun _ => True) J4 HBM.out trivial trivial).2
                have hEs := HE.size
                refine leaves_coll (B := B + 4) _ (D + 1) _ HE.coll fun W' hW' => ?_
                refine ⟨_, results_eb rfl _ _ (B + 1) (effC X) (B + 1 + 1) (.bool true) rfl rfl ((hW'.block _ (by omega)).trans HE.he) ((blk_cell ((hW'.block _ (by omega)).trans HE.hf) 0).trans rfl) rfl, ?_⟩
                exact ⟨by rw [HBR.out]; rfl, hB ▸ HE.below.trans (hW'.mono (by omega))⟩
              · have d1 : decide (M < S + U) = false := decide_eq_false hd
                have hfl := FF.out
                rw [decide_eq_false (show ¬ S + U > M from hd)] at hfl
                rw [← RS.out, ← LK.out, ← MK.out] at hfl
                have HF := Aside0.mk hfl
                first | rw [d1] | skip
                clear hd hfl
                gi_wp2
                refine ⟨⟨j + 1, by omega, by simp, ⟨fun _ => ?_, fun _ => ?_⟩, J4, keep_below HBM.out (blk_lt K13.out) K13.out, keep_below HBM.out (blk_lt K23.out) K23.out⟩, by simp [intOf]; omega⟩
                · rcases HR.out with ⟨rfl, rfl⟩ | ⟨rfl, rfl⟩
                  · have e := HX.out
                    rw [show pt = -1 by have := HPT.out; omega] at e
                    rw [e]; exact HF.out
                  · exact HO.out.1 (by omega)
                · rcases HR.out with ⟨rfl, rfl⟩ | ⟨rfl, rfl⟩
                  · omega
                  · have e := HX.out
                    rw [show pt = -2 by have := HPT.out; omega] at e
                    rw [e]; exact HF.out
          · have e : j = 2 := by omega
            subst e
            have hsb : spanBad l0 l1 l2 a3 (restV a4 a5 tr) t k = none := by
              unfold spanBad
              rw [rd_get l0 k hlt, NF.out, hok.1 (by omega), hok.2 (by omega)]
              rfl
            have HSB := Aside0.mk hsb
            have HN := Aside0.mk hnone
            have G1 := Aside0.mk g1
            clear hsb hok g1 g2 g3
            have hk1 : wrap64 ((k : Int) + 1) = ((k + 1 : Nat) : Int) := by rw [w64 (by have := HLn.out; omega) (by have := HLn.out; omega)]; rfl
            gi_wp2
            first | rw [hk1] | skip
            clear hk1
            have hle : k + 1 ≤ l0.length := hlt
            have hlr : (k : Int) + 1 ≤ (l0.length : Int) := by exact_mod_cast hle
            refine ⟨⟨k + 1, { target := .collected D, args := #[] } :: ds, _, _, _, _, _, _, _, _, _, _, _, _, _, _, _, _, _, _, _, _, _, _, _, _, _, _, _, _, _, _, _, _, _, _, _, _, _, _, _, _, _, _, _, _, _, _, _, _, _, _, _, _, _, _, _, _, _, _, _, _, _, _, _, _, _, _, _, _, _, _, _, _, _, _, _, _, _, _,  rfl, hle, fun i hi => ?_, G1.out.up⟩, by simp [intOf]; omega⟩
            by_cases e : i = k
            · subst e; exact HSB.out
            · exact HN.out i (Nat.lt_of_le_of_ne (Nat.le_of_lt_succ hi) e)
    · have hbv : bearsV l0 l1 l2 a3 a4 a5 t tr = none := bearsV_none fun i hi => hnone i (by omega)
      have HBR := Aside0.mk hbv
      clear hbv
      obtain ⟨⟨o0, o1, o2, o3⟩, f0, f1, f2, f3⟩ := cells4 I.he
      have fb := blk_frozen I.hf 0
      have cb : W.cell? ⟨B + 1 + 1, 0, none⟩ = some (.bool false) := (blk_cell I.hf 0).trans rfl
      gi_wp2
      have HE := bear_none I
      have hEs := HE.size
      refine leaves_coll (B := B + 4) _ W.heap.size _ HE.coll fun W' hW' => ?_
      refine ⟨_, results_eb rfl _ _ (B + 1) (effC z29) (B + 1 + 1) (.bool false) rfl rfl ((hW'.block _ (by omega)).trans HE.he) ((blk_cell ((hW'.block _ (by omega)).trans HE.hf) 0).trans rfl) rfl, ?_⟩
      exact ⟨by rw [HBR.out]; rfl, hB ▸ HE.below.trans (hW'.mono (by omega))⟩
end Go.Proofs.Ytiklpefckadgdaa.P
namespace Go.Proofs.Ytiklpefckadgdaa.P
open Go.RowKit Go.Proofs.YtiklpefckadgdaaW.PrintWords Go.Proofs.YtiklpefckadgdaaW.PrintLast Go.Proofs.YtiklpefckadgdaaW.PrintMore
set_option linter.unusedVariables false
def bridge_bears.f (l0_0 : List Int) (l0_1 : List Int) (l0_2 : List Int) (a0_3 : Int) (a0_4 : Int) (a0_5 : Int) (l1 : List (S35)) (a2 : Bool) : Option (Int × Int × Int × Int × Bool) :=
  if errB l0_0 l0_1 l0_2 a0_3 a0_4 a0_5 = 0 ∧ errT l1 = 0 then some ((bearsR (bearsV l0_0 l0_1 l0_2 a0_3 a0_4 a0_5 l1 a2)).1.f0, (bearsR (bearsV l0_0 l0_1 l0_2 a0_3 a0_4 a0_5 l1 a2)).1.f1, (bearsR (bearsV l0_0 l0_1 l0_2 a0_3 a0_4 a0_5 l1 a2)).1.f2, (bearsR (bearsV l0_0 l0_1 l0_2 a0_3 a0_4 a0_5 l1 a2)).1.f3, (bearsR (bearsV l0_0 l0_1 l0_2 a0_3 a0_4 a0_5 l1 a2)).2) else none
theorem bridge_bears.calls (A0_0 : Option Addr) (c0_0 : Nat) (l0_0 : List Int) (A0_1 : Option Addr) (c0_1 : Nat) (l0_1 : List Int) (A0_2 : Option Addr) (c0_2 : Nat) (l0_2 : List Int) (a0_3 : Int) (a0_4 : Int) (a0_5 : Int) (A1 : Option Addr) (c1 : Nat) (l1 : List (S35)) (a2 : Bool) (r1 : Int) (r2 : Int) (r3 : Int) (r4 : Int) (r5 : Bool) (w : World) (hr0_0 : Kd.C (Kd.int .i64) w A0_0 l0_0.length l0_0) (hc0_0 : l0_0.length ≤ c0_0) (hr0_1 : Kd.C (Kd.int .i64) w A0_1 l0_1.length l0_1) (hc0_1 : l0_1.length ≤ c0_1) (hr0_2 : Kd.C (Kd.int .i64) w A0_2 l0_2.length l0_2) (hc0_2 : l0_2.length ≤ c0_2) (hr1 : Kd.C k35 w A1 l1.length l1) (hc1 : l1.length ≤ c1) (h : bridge_bears.f l0_0 l0_1 l0_2 a0_3 a0_4 a0_5 l1 a2 = some (r1, r2, r3, r4, r5)) :
    Calls Try.prog 62 #[.agg #[.slice A0_0 l0_0.length c0_0, .slice A0_1 l0_1.length c0_1, .slice A0_2 l0_2.length c0_2, .int .i64 a0_3, .int .i64 a0_4, .int .i64 a0_5], .slice A1 l1.length c1, .bool a2] w fun e w' => e = .returned (.tuple #[.agg #[.int .i64 r1, .int .i64 r2, .int .i64 r3, .int .i64 r4], .bool r5]) ∧ Below w.heap.size w w' := by
  unfold bridge_bears.f at h
  split at h
  case isFalse => exact absurd h (by simp)
  rename_i hg
  have h' := Option.some.inj h
  simp only [Prod.mk.injEq] at h'
  obtain ⟨q1, q2, q3, q4, q5⟩ := h'
  refine ((callsIn_wide (n := 0)).1 (bears_in A0_0 A0_1 A0_2 A1 c0_0 c0_1 c0_2 c1 l0_0 l0_1 l0_2 a0_3 a0_4 a0_5 l1 a2 w hg.1 hg.2 hr0_0 hc0_0 hr0_1 hc0_1 hr0_2 hc0_2 hr1)).mono ?_
  rintro e w' ⟨he, hb⟩
  refine ⟨?_, hb⟩
  rw [he, ← q1, ← q2, ← q3, ← q4, ← q5]
  rfl
end Go.Proofs.Ytiklpefckadgdaa.P
noncomputable section
namespace Go.Proofs.Ytiklpefckadgdaa.P
open Go.RowKit Go.Proofs.YtiklpefckadgdaaW.PrintWords Go.Proofs.YtiklpefckadgdaaW.PrintLast Go.Proofs.YtiklpefckadgdaaW.PrintMore
attribute [local go_sem] max2_int min2_int max_two min_two max_three min_three max_four min_four   -- for this text's walks alone
set_option linter.unusedVariables false
set_option linter.unusedSimpArgs false
def gooseneckref06_within.f (a0 : Int) (a1 : Int) (a2 : Int) : Option (Bool) := if a0 ≥ a1 then (some (decide (a0 ≤ a2))) else (some false)
set_option maxHeartbeats 8000000 in
set_option maxRecDepth 100000 in
theorem gooseneckref06_within.calls (a0 : Int) (a1 : Int) (a2 : Int) (r : Bool) (w : World) (h : gooseneckref06_within.f a0 a1 a2 = some r) :
    Calls Try.prog 57 #[.int .i64 a0, .int .i64 a1, .int .i64 a2] w fun e w' => e = .returned (.bool r) ∧ Drawn0 w w' := by
  have H : (if a0 ≥ a1 then (some (decide (a0 ≤ a2))) else (some false)) = some r := h
  clear h
  by_cases c4 : a0 ≥ a1
  · rw [if_pos c4] at H
    have c4b0 : decide (a1 ≤ a0) = true := decide_eq_true c4
    clear c4
    obtain rfl := Option.some.inj H
    go_enter Try.func57, Try.ntmps57
    go_wp2
    go_ret
    exact ⟨by first | rfl | (simp; done) | (simp [*]; done), by repeat (first | exact Drawn0.refl _ | apply Drawn0.step)⟩
  · rw [if_neg c4] at H
    have c4b0 : decide (a1 ≤ a0) = false := decide_eq_false c4
    clear c4
    obtain rfl := Option.some.inj H
    go_enter Try.func57, Try.ntmps57
    go_wp2
    go_ret
    exact ⟨by first | rfl | (simp; done) | (simp [*]; done), by repeat (first | exact Drawn0.refl _ | apply Drawn0.step)⟩
end Go.Proofs.Ytiklpefckadgdaa.P
namespace Go.Proofs.Ytiklpefckadgdaa.P
open Go.RowKit Go.Proofs.YtiklpefckadgdaaW.PrintWords Go.Proofs.YtiklpefckadgdaaW.PrintLast Go.Proofs.YtiklpefckadgdaaW.PrintMore
set_option linter.unusedVariables false
set_option linter.unusedSimpArgs false
def inRc (x lo hi : Int) : Bool := decide (lo ≤ x) && decide (x ≤ hi)
theorem within_c (x lo hi : Int) : gooseneckref06_within.f x lo hi = some (inRc x lo hi) := by
  unfold gooseneckref06_within.f inRc; split <;> rename_i h
  · have : lo ≤ x := h
    simp [this]
  · have : ¬ lo ≤ x := h
    simp [this]
def ctBad (l : List S35) (i : Nat) : Bool :=
  (decide (i = 0) && decide ((rd_T35 l (i : Int)).f0 ≠ 0)) || (decide (0 < i) && decide ((rd_T35 l (i : Int)).f0 < (rd_T35 l ((i : Int) - 1)).f0)) || !inRc (rd_T35 l (i : Int)).f0 0 262144 || !inRc (rd_T35 l (i : Int)).f1 0 1048576
def gooseneckref06_CheckTrain.f (l0 : List S35) : Option Int := some (if l0.length < 1 ∨ 64 < l0.length then 6 else if (List.range l0.length).any (ctBad l0) then 2 else 0)
theorem within_q {x lo hi : Int} {b : Bool} (h : inRc x lo hi = b) (w : World) (n : Nat) : Calls Try.prog 57 #[.int .i64 x, .int .i64 lo, .int .i64 hi] (w.drewN n) fun e w'' => e = .returned (.bool b) ∧ ∃ m, w'' = w.drewN m := by
  refine Calls.quiet_of ?_
  refine (gooseneckref06_within.calls x lo hi b _ (by rw [within_c, h])).mono ?_
  rintro e w' ⟨rfl, ⟨nd, rfl⟩⟩
  exact ⟨rfl, nd, rfl⟩
theorem any_bad {l : List S35} {i : Nat} (hi : i < l.length) (h : ctBad l i = true) : (List.range l.length).any (ctBad l) = true := List.any_eq_true.2 ⟨i, List.mem_range.2 hi, h⟩
theorem none_bad {l : List S35} (h : ∀ j, j < l.length → ctBad l j = false) : (List.range l.length).any (ctBad l) = false := by
  rw [List.any_eq_false]
  intro j hj
  rw [h j (List.mem_range.1 hj)]; decide
theorem ctBad_eq {l : List S35} {i x p y : Int} (h0 : 0 ≤ i) (hx : (rd_T35 l i).f0 = x) (hp : (rd_T35 l i).f1 = p) (hy : (rd_T35 l (i - 1)).f0 = y) :
    ctBad l i.toNat = ((decide (i = 0) && decide (x ≠ 0)) || (decide (0 < i) && decide (x < y)) || !inRc x 0 262144 || !inRc p 0 1048576) := by
  have e : (i.toNat : Int) = i := by omega
  unfold ctBad
  rw [e, hx, hp, hy]
  have e1 : decide (i.toNat = 0) = decide (i = 0) := by rw [decide_eq_decide]; omega
  have e2 : decide (0 < i.toNat) = decide (0 < i) := by rw [decide_eq_decide]; omega
  rw [e1, e2]
set_option maxHeartbeats 3000000 in
set_option maxRecDepth 100000 in
theorem gooseneckref06_CheckTrain.calls (A0 : Option Addr) (c0 : Nat) (l0 : List (S35)) (r : Int) (w : World) (hr0 : Kd.C k35 w A0 l0.length l0) (hc0 : l0.length ≤ c0) (h : gooseneckref06_CheckTrain.f l0 = some r) :
    Calls Try.prog 56 #[.slice A0 l0.length c0] w fun e w' => e = .returned (.int .i64 r) ∧ Below w.heap.size w w' := by
  have HR0 := Aside0.mk hr0
  have HC0 := Aside0.mk hc0
  clear hr0 hc0
  have HB := Aside0.mk (Below.refl w.heap.size w)
  have H : (if l0.length < 1 ∨ 64 < l0.length then 6 else if (List.range l0.length).any (ctBad l0) then 2 else 0) = r := by simpa [gooseneckref06_CheckTrain.f] using h
  clear h
  by_cases c1 : l0.length < 1
  · rw [if_pos (.inl c1)] at H
    subst H
    have c3b0 : decide ((l0.length : Int) < 1) = true := decide_eq_true (by omega)
    have c3b1 : decide (l0.length < 1) = true := decide_eq_true (by omega)
    clear c1
    go_enter Try.func56, Try.ntmps56
    go_wp2
    go_ret
    exact ⟨rfl, by repeat (first | exact HB.out | apply below_alloc | apply pw_below_drewN | apply below_drew1)⟩
  · have c3b0 : decide ((l0.length : Int) < 1) = false := decide_eq_false (by omega)
    have c3b1 : decide (l0.length < 1) = false := decide_eq_false (by omega)
    by_cases c2 : 64 < l0.length
    · rw [if_pos (.inr c2)] at H
      subst H
      have c4b0 : decide (64 < (l0.length : Int)) = true := decide_eq_true (by omega)
      have c4b1 : decide (64 < l0.length) = true := decide_eq_true (by omega)
      clear c1 c2
      go_enter Try.func56, Try.ntmps56
      go_wp2
      go_ret
      exact ⟨rfl, by repeat (first | exact HB.out | apply below_alloc | apply pw_below_drewN | apply below_drew1)⟩
    · rw [if_neg (by omega)] at H
      have c4b0 : decide (64 < (l0.length : Int)) = false := decide_eq_false (by omega)
      have c4b1 : decide (64 < l0.length) = false := decide_eq_false (by omega)
      have H' := Aside0.mk H
      have HL := Aside0.mk (show l0.length ≤ 64 by omega)
      clear H c1 c2
      go_enter Try.func56, Try.ntmps56
      go_wp2
      go_loopg [3] l0.length (fun kq v3 w' => ∃ i : Int, v3 = .int .i64 i ∧ Aside0 (0 ≤ i ∧ i + kq = l0.length) ∧ Aside0 (∀ j, j < i.toNat → ctBad l0 j = false) ∧ Aside0 (Below w.heap.size w w'))
      case atStart => exact ⟨0, rfl, ⟨by omega, by omega⟩, ⟨fun j hj => absurd hj (Nat.not_lt_zero j)⟩, ⟨by repeat (first | exact HB.out | apply below_alloc | apply pw_below_drewN | apply below_drew1)⟩⟩
      case round =>
        clear c3b0 c3b1 c4b0 c4b1 HB
        obtain ⟨i, rfl, HK, HA, HB⟩ := hrel
        by_cases c5 : i < (l0.length : Int)
        · skip
          have hi0 := HK.out.1
          have clt : decide (i < (l0.length : Int)) = true := decide_eq_true c5
          obtain ⟨x, hx⟩ : ∃ x, (rd_T35 l0 i).f0 = x := ⟨_, rfl⟩
          obtain ⟨p, hp⟩ : ∃ p, (rd_T35 l0 i).f1 = p := ⟨_, rfl⟩
          obtain ⟨y, hy⟩ : ∃ y, (rd_T35 l0 (i - 1)).f0 = y := ⟨_, rfl⟩
          have BAD := Aside0.mk (ctBad_eq hi0 hx hp hy)
          obtain ⟨b1, hb1⟩ : ∃ b, inRc x 0 262144 = b := ⟨_, rfl⟩
          obtain ⟨b2, hb2⟩ : ∃ b, inRc p 0 1048576 = b := ⟨_, rfl⟩
          have W1 := Aside0.mk hb1
          have W2 := Aside0.mk hb2
          rw [hb1, hb2] at BAD
          clear hb1 hb2
          obtain ⟨ad, e1, hx0, hx1⟩ := at_T35 HR0.out i hi0 c5
          cases e1
          rw [hx] at hx0; rw [hp] at hx1
          have HW0 := Aside0.mk hx0
          have HW1 := Aside0.mk hx1
          replace hx0 := (HB.out.cell (World.block_lt_of_cell? w _ hx0)).trans hx0
          replace hx1 := (HB.out.cell (World.block_lt_of_cell? w _ hx1)).trans hx1
          have q1 := eq_true hi0
          have q2 := eq_true c5
          by_cases c6 : i = 0
          · have k1 : (i == 0) = true := beq_iff_eq.mpr c6
            have k2 : decide (0 < i) = false := decide_eq_false (by omega)
            have k3 : decide (i = 0) = true := decide_eq_true c6
            clear c6
            by_cases c7 : x = 0
            · have k4 : (x != 0) = false := bne_eq_false_iff_eq.mpr c7
              have k5 : decide (x ≠ 0) = false := decide_eq_false (fun g => g c7)
              have k6 : decide (x = 0) = true := decide_eq_true c7
              clear c7
              cases b1 with
              | false =>
                have H := H'.out
                rw [if_pos (any_bad (i := i.toNat) (by omega) (by rw [BAD.out]; simp [*]))] at H
                subst H
                clear H' BAD
                clear hx hp hy c5
                go_wp2
                go_quiet ((go_at_call 57; exact within_q (by first | with_reducible exact W1.out | with_reducible exact W2.out) _ _))
                go_wp2
                go_ret
                exact ⟨rfl, by repeat (first | exact HB.out | apply below_alloc | apply pw_below_drewN | apply below_drew1)⟩
              | true =>
                cases b2 with
                | false =>
                  have H := H'.out
                  rw [if_pos (any_bad (i := i.toNat) (by omega) (by rw [BAD.out]; simp [*]))] at H
                  subst H
                  clear H' BAD
                  clear hx hp hy c5
                  go_wp2
                  go_quiet ((go_at_call 57; exact within_q (by first | with_reducible exact W1.out | with_reducible exact W2.out) _ _))
                  go_wp2
                  go_ret
                  exact ⟨rfl, by repeat (first | exact HB.out | apply below_alloc | apply pw_below_drewN | apply below_drew1)⟩
                | true =>
                  have G : ctBad l0 i.toNat = false := by rw [BAD.out]; simp [*]
                  have HN := Aside0.mk G
                  have HI := Aside0.mk c5
                  clear G BAD
                  clear hx hp hy c5
                  go_wp2
                  go_quiet ((go_at_call 57; exact within_q (by first | with_reducible exact W1.out | with_reducible exact W2.out) _ _))
                  go_wp2
                  go_roundg (gk - 1)
                  case measure => have := HK.out; have := HI.out; omega
                  case rel => exact ⟨i + 1, by rw [show wrap64 (i + 1) = i + 1 by have := HK.out; have := HL.out; unfold wrap64; omega], ⟨by have := HK.out; have := HI.out; omega⟩, ⟨fun j hj => by
                by_cases e : j = i.toNat
                · subst e; exact HN.out
                · exact HA.out j (by have := HK.out; omega)⟩, ⟨by repeat (first | exact HB.out | apply below_alloc | apply pw_below_drewN | apply below_drew1)⟩⟩
            · have k4 : (x != 0) = true := bne_iff_ne.mpr c7
              have k5 : decide (x ≠ 0) = true := decide_eq_true c7
              have k6 : decide (x = 0) = false := decide_eq_false c7
              clear c7
              have H := H'.out
              rw [if_pos (any_bad (i := i.toNat) (by omega) (by rw [BAD.out]; simp [*]))] at H
              subst H
              clear H' BAD
              clear hx hp hy c5
              go_wp2
              go_quiet ((go_at_call 57; exact within_q (by first | with_reducible exact W1.out | with_reducible exact W2.out) _ _))
              go_wp2
              go_ret
              exact ⟨rfl, by repeat (first | exact HB.out | apply below_alloc | apply pw_below_drewN | apply below_drew1)⟩
          · have k1 : (i == 0) = false := beq_eq_false_iff_ne.mpr c6
            have k2 : decide (0 < i) = true := decide_eq_true (by omega)
            have k3 : decide (i = 0) = false := decide_eq_false c6
            obtain ⟨kp, hkp⟩ : ∃ kp : Int, i - 1 = kp := ⟨_, rfl⟩
            rw [hkp] at hy
            have hkw : IntKind.i64.wrap (i - 1) = kp := by rw [i64_w, ← hkp]; have := HK.out; have := HL.out; unfold wrap64; omega
            have hk0 : 0 ≤ kp := by omega
            have hk1 : kp < (l0.length : Int) := by omega
            obtain ⟨ad2, e2, hy0, hy1⟩ := at_T35 HR0.out kp hk0 hk1
            obtain rfl : ad = ad2 := by injection e2
            rw [hy] at hy0
            replace hy0 := (HB.out.cell (World.block_lt_of_cell? w _ hy0)).trans hy0
            replace hy1 := (HB.out.cell (World.block_lt_of_cell? w _ hy1)).trans hy1
            have q3 := eq_true hk0
            have q4 := eq_true hk1
            clear hkp c6 e2
            by_cases c7 : x < y
            · have k4 : decide (x < y) = true := decide_eq_true c7
              clear c7
              have H := H'.out
              rw [if_pos (any_bad (i := i.toNat) (by omega) (by rw [BAD.out]; simp [*]))] at H
              subst H
              clear H' BAD
              clear hx hp hy c5
              go_wp2
              go_quiet ((go_at_call 57; exact within_q (by first | with_reducible exact W1.out | with_reducible exact W2.out) _ _))
              go_wp2
              go_ret
              exact ⟨rfl, by repeat (first | exact HB.out | apply below_alloc | apply pw_below_drewN | apply below_drew1)⟩
            · have k4 : decide (x < y) = false := decide_eq_false c7
              clear c7
              cases b1 with
              | false =>
                have H := H'.out
                rw [if_pos (any_bad (i := i.toNat) (by omega) (by rw [BAD.out]; simp [*]))] at H
                subst H
                clear H' BAD
                clear hx hp hy c5
                go_wp2
                go_quiet ((go_at_call 57; exact within_q (by first | with_reducible exact W1.out | with_reducible exact W2.out) _ _))
                go_wp2
                go_ret
                exact ⟨rfl, by repeat (first | exact HB.out | apply below_alloc | apply pw_below_drewN | apply below_drew1)⟩
              | true =>
                cases b2 with
                | false =>
                  have H := H'.out
                  rw [if_pos (any_bad (i := i.toNat) (by omega) (by rw [BAD.out]; simp [*]))] at H
                  subst H
                  clear H' BAD
                  clear hx hp hy c5
                  go_wp2
                  go_quiet ((go_at_call 57; exact within_q (by first | with_reducible exact W1.out | with_reducible exact W2.out) _ _))
                  go_wp2
                  go_ret
                  exact ⟨rfl, by repeat (first | exact HB.out | apply below_alloc | apply pw_below_drewN | apply below_drew1)⟩
                | true =>
                  have G : ctBad l0 i.toNat = false := by rw [BAD.out]; simp [*]
                  have HN := Aside0.mk G
                  have HI := Aside0.mk c5
                  clear G BAD
                  clear hx hp hy c5
                  go_wp2
                  go_quiet ((go_at_call 57; exact within_q (by first | with_reducible exact W1.out | with_reducible exact W2.out) _ _))
                  go_wp2
                  go_roundg (gk - 1)
                  case measure => have := HK.out; have := HI.out; omega
                  case rel => exact ⟨i + 1, by rw [show wrap64 (i + 1) = i + 1 by have := HK.out; have := HL.out; unfold wrap64; omega], ⟨by have := HK.out; have := HI.out; omega⟩, ⟨fun j hj => by
                by_cases e : j = i.toNat
                · subst e; exact HN.out
                · exact HA.out j (by have := HK.out; omega)⟩, ⟨by repeat (first | exact HB.out | apply below_alloc | apply pw_below_drewN | apply below_drew1)⟩⟩
        · have clt : decide (i < (l0.length : Int)) = false := decide_eq_false c5
          have H := H'.out
          rw [if_neg (by rw [none_bad (fun j hj => HA.out j (by have := HK.out; omega))]; decide)] at H
          subst H
          clear H' c5
          go_wp2
          go_ret
          exact ⟨rfl, by repeat (first | exact HB.out | apply below_alloc | apply pw_below_drewN | apply below_drew1)⟩
end Go.Proofs.Ytiklpefckadgdaa.P
noncomputable section
namespace Go.Proofs.Ytiklpefckadgdaa.P
open Go.RowKit Go.Proofs.YtiklpefckadgdaaW.PrintWords Go.Proofs.YtiklpefckadgdaaW.PrintLast Go.Proofs.YtiklpefckadgdaaW.PrintMore
attribute [local go_sem] max2_int min2_int max_two min_two max_three min_three max_four min_four   -- for this text's walks alone
set_option linter.unusedVariables false
set_option linter.unusedSimpArgs false
def gooseneckref06_CheckPavement.f (a0_0 : Int) (a0_1 : Int) (a0_2 : Int) : Option (Int) := (gooseneckref06_within.f a0_0 1 1048576).bind fun t102 => (if t102 = true then ((gooseneckref06_within.f a0_1 1 1048576).bind fun t103 => (if t103 = true then (if a0_2 < 1 then (some 2) else (if a0_2 > 6 then (some 2) else (some 0))) else (some 2))) else (some 2))
set_option maxHeartbeats 8000000 in
set_option maxRecDepth 100000 in
theorem gooseneckref06_CheckPavement.calls (a0_0 : Int) (a0_1 : Int) (a0_2 : Int) (r : Int) (w : World) (h : gooseneckref06_CheckPavement.f a0_0 a0_1 a0_2 = some r) :
    Calls Try.prog 25 #[.agg #[.int .i64 a0_0, .int .i64 a0_1, .int .i64 a0_2]] w fun e w' => e = .returned (.int .i64 r) ∧ Below w.heap.size w w' := by
  have hu43 := Try.underlying43
  have HB := Aside0.mk (Below.refl w.heap.size w)
  have H : ((gooseneckref06_within.f a0_0 1 1048576).bind fun t102 => (if t102 = true then ((gooseneckref06_within.f a0_1 1 1048576).bind fun t103 => (if t103 = true then (if a0_2 < 1 then (some 2) else (if a0_2 > 6 then (some 2) else (some 0))) else (some 2))) else (some 2))) = some r := h
  clear h
  replace H := Option.bind_eq_some_iff.mp H
  obtain ⟨t102, A20, H⟩ := H
  replace H : (if t102 = true then ((gooseneckref06_within.f a0_1 1 1048576).bind fun t103 => (if t103 = true then (if a0_2 < 1 then (some 2) else (if a0_2 > 6 then (some 2) else (some 0))) else (some 2))) else (some 2)) = some r := H
  have A2 := Aside0.mk A20
  clear A20
  by_cases c3 : t102 = true
  · subst c3
    have H1 : ((gooseneckref06_within.f a0_1 1 1048576).bind fun t103 => (if t103 = true then (if a0_2 < 1 then (some 2) else (if a0_2 > 6 then (some 2) else (some 0))) else (some 2))) = some r := by rw [if_pos rfl] at H; exact H
    clear H
    have H := H1
    clear H1
    replace H := Option.bind_eq_some_iff.mp H
    obtain ⟨t103, A40, H⟩ := H
    replace H : (if t103 = true then (if a0_2 < 1 then (some 2) else (if a0_2 > 6 then (some 2) else (some 0))) else (some 2)) = some r := H
    have A4 := Aside0.mk A40
    clear A40
    by_cases c5 : t103 = true
    · subst c5
      have H1 : (if a0_2 < 1 then (some 2) else (if a0_2 > 6 then (some 2) else (some 0))) = some r := by rw [if_pos rfl] at H; exact H
      clear H
      have H := H1
      clear H1
      by_cases c6 : a0_2 < 1
      · rw [if_pos c6] at H
        have c6b0 : decide (a0_2 < 1) = true := decide_eq_true c6
        clear c6
        obtain rfl := Option.some.inj H
        go_enter Try.func25, Try.ntmps25
        go_wp2_with (first | ((with_reducible refine gate_dst (N := 1) rfl ?_); refine box_event ?hg (N := 1) ?hd (cs := #[.int .i64 a0_0, .int .i64 a0_1, .int .i64 a0_2]) (t := 43) ?hr ?_; (case hd => rfl); (case hg => rfl); (case hr => first | (go_simp; done) | (go_simp; rfl)); intro gb101 hg w7 hbox hb; have n0_ := Aside0.mk (below_step (by repeat (first | (with_reducible first | exact HB.out | apply below_alloc | apply pw_below_drewN | apply below_drew1) | exact HB.out)) hb); have n1_ := Aside0.mk (hbox); have n2_ := Aside0.mk ((by rw [hg]; exact (below_size (by repeat (first | (with_reducible first | exact HB.out | apply below_alloc | apply pw_below_drewN | apply below_drew1) | exact HB.out))) : w.heap.size ≤ gb101)); have n3_ := Aside0.mk ((by rw [hg]; exact (below_size (by repeat (first | (with_reducible first | exact HB.out | apply below_alloc | apply pw_below_drewN | apply below_drew1) | exact HB.out))) : w.heap.size ≤ gb101)); clear HB; have HB := n0_; have BK101 := n1_; have GW101 := n2_; have GE101 := n3_; clear n0_ n1_ n2_ n3_; clear hb hbox hg; have hcz8_0 : w7.cell? ⟨gb101, 0, none⟩ = some (.int .i64 a0_0) := (blk_cell BK101.out 0).trans rfl; have hcz8_1 : w7.cell? ⟨gb101, 1, none⟩ = some (.int .i64 a0_1) := (blk_cell BK101.out 1).trans rfl; have hcz8_2 : w7.cell? ⟨gb101, 2, none⟩ = some (.int .i64 a0_2) := (blk_cell BK101.out 2).trans rfl; have hfz8_0 := blk_frozen BK101.out 0; have hfz8_1 := blk_frozen BK101.out 1; have hfz8_2 := blk_frozen BK101.out 2) | ((with_reducible refine gate_callee (f := 57) rfl ?_); refine goesL_ (some 5) rfl rfl Try.func57 (by kernel_rfl) rfl #[.int .i64 a0_0, .int .i64 1, .int .i64 1048576] rfl (by (try simp only [List.map_toArray, List.map_cons, List.map_nil]); first | done | rfl | (simp only [List.length_drop, List.length_take]; rfl)) ?_; (with_reducible refine (gooseneckref06_within.calls a0_0 1 1048576 true _ A2.out).mono ?_); rintro e w' ⟨rfl, ⟨nd, rfl⟩⟩; refine ⟨_, rfl, ?_⟩) | (go_at_call 57; (with_reducible refine (gooseneckref06_within.calls a0_1 1 1048576 true _ A4.out).mono ?_); rintro e w' ⟨rfl, ⟨nd, rfl⟩⟩))
        go_ret
        exact ⟨by first | rfl | (simp [errW_none, errW_some] <;> rfl) | (simp [*, errW_none, errW_some] <;> rfl), by repeat (first | (with_reducible first | exact HB.out | apply below_alloc | apply pw_below_drewN | apply below_drew1 | refine below_set ?_ GE101.out) | exact HB.out)⟩
      · rw [if_neg c6] at H
        have c6b0 : decide (a0_2 < 1) = false := decide_eq_false c6
        clear c6
        by_cases c9 : a0_2 > 6
        · rw [if_pos c9] at H
          have c9b0 : decide (6 < a0_2) = true := decide_eq_true c9
          clear c9
          obtain rfl := Option.some.inj H
          go_enter Try.func25, Try.ntmps25
          go_wp2_with (first | ((with_reducible refine gate_dst (N := 1) rfl ?_); refine box_event ?hg (N := 1) ?hd (cs := #[.int .i64 a0_0, .int .i64 a0_1, .int .i64 a0_2]) (t := 43) ?hr ?_; (case hd => rfl); (case hg => rfl); (case hr => first | (go_simp; done) | (go_simp; rfl)); intro gb101 hg w10 hbox hb; have n0_ := Aside0.mk (below_step (by repeat (first | (with_reducible first | exact HB.out | apply below_alloc | apply pw_below_drewN | apply below_drew1) | exact HB.out)) hb); have n1_ := Aside0.mk (hbox); have n2_ := Aside0.mk ((by rw [hg]; exact (below_size (by repeat (first | (with_reducible first | exact HB.out | apply below_alloc | apply pw_below_drewN | apply below_drew1) | exact HB.out))) : w.heap.size ≤ gb101)); have n3_ := Aside0.mk ((by rw [hg]; exact (below_size (by repeat (first | (with_reducible first | exact HB.out | apply below_alloc | apply pw_below_drewN | apply below_drew1) | exact HB.out))) : w.heap.size ≤ gb101)); clear HB; have HB := n0_; have BK101 := n1_; have GW101 := n2_; have GE101 := n3_; clear n0_ n1_ n2_ n3_; clear hb hbox hg; have hcz11_0 : w10.cell? ⟨gb101, 0, none⟩ = some (.int .i64 a0_0) := (blk_cell BK101.out 0).trans rfl; have hcz11_1 : w10.cell? ⟨gb101, 1, none⟩ = some (.int .i64 a0_1) := (blk_cell BK101.out 1).trans rfl; have hcz11_2 : w10.cell? ⟨gb101, 2, none⟩ = some (.int .i64 a0_2) := (blk_cell BK101.out 2).trans rfl; have hfz11_0 := blk_frozen BK101.out 0; have hfz11_1 := blk_frozen BK101.out 1; have hfz11_2 := blk_frozen BK101.out 2) | ((with_reducible refine gate_callee (f := 57) rfl ?_); refine goesL_ (some 5) rfl rfl Try.func57 (by kernel_rfl) rfl #[.int .i64 a0_0, .int .i64 1, .int .i64 1048576] rfl (by (try simp only [List.map_toArray, List.map_cons, List.map_nil]); first | done | rfl | (simp only [List.length_drop, List.length_take]; rfl)) ?_; (with_reducible refine (gooseneckref06_within.calls a0_0 1 1048576 true _ A2.out).mono ?_); rintro e w' ⟨rfl, ⟨nd, rfl⟩⟩; refine ⟨_, rfl, ?_⟩) | (go_at_call 57; (with_reducible refine (gooseneckref06_within.calls a0_1 1 1048576 true _ A4.out).mono ?_); rintro e w' ⟨rfl, ⟨nd, rfl⟩⟩))
          go_ret
          exact ⟨by first | rfl | (simp [errW_none, errW_some] <;> rfl) | (simp [*, errW_none, errW_some] <;> rfl), by repeat (first | (with_reducible first | exact HB.out | apply below_alloc | apply pw_below_drewN | apply below_drew1 | refine below_set ?_ GE101.out) | exact HB.out)⟩
        · rw [if_neg c9] at H
          have c9b0 : decide (6 < a0_2) = false := decide_eq_false c9
          clear c9
          obtain rfl := Option.some.inj H
          go_enter Try.func25, Try.ntmps25
          go_wp2_with (first | ((with_reducible refine gate_dst (N := 1) rfl ?_); refine box_event ?hg (N := 1) ?hd (cs := #[.int .i64 a0_0, .int .i64 a0_1, .int .i64 a0_2]) (t := 43) ?hr ?_; (case hd => rfl); (case hg => rfl); (case hr => first | (go_simp; done) | (go_simp; rfl)); intro gb101 hg w12 hbox hb; have n0_ := Aside0.mk (below_step (by repeat (first | (with_reducible first | exact HB.out | apply below_alloc | apply pw_below_drewN | apply below_drew1) | exact HB.out)) hb); have n1_ := Aside0.mk (hbox); have n2_ := Aside0.mk ((by rw [hg]; exact (below_size (by repeat (first | (with_reducible first | exact HB.out | apply below_alloc | apply pw_below_drewN | apply below_drew1) | exact HB.out))) : w.heap.size ≤ gb101)); have n3_ := Aside0.mk ((by rw [hg]; exact (below_size (by repeat (first | (with_reducible first | exact HB.out | apply below_alloc | apply pw_below_drewN | apply below_drew1) | exact HB.out))) : w.heap.size ≤ gb101)); clear HB; have HB := n0_; have BK101 := n1_; have GW101 := n2_; have GE101 := n3_; clear n0_ n1_ n2_ n3_; clear hb hbox hg; have hcz13_0 : w12.cell? ⟨gb101, 0, none⟩ = some (.int .i64 a0_0) := (blk_cell BK101.out 0).trans rfl; have hcz13_1 : w12.cell? ⟨gb101, 1, none⟩ = some (.int .i64 a0_1) := (blk_cell BK101.out 1).trans rfl; have hcz13_2 : w12.cell? ⟨gb101, 2, none⟩ = some (.int .i64 a0_2) := (blk_cell BK101.out 2).trans rfl; have hfz13_0 := blk_frozen BK101.out 0; have hfz13_1 := blk_frozen BK101.out 1; have hfz13_2 := blk_frozen BK101.out 2) | ((with_reducible refine gate_callee (f := 57) rfl ?_); refine goesL_ (some 5) rfl rfl Try.func57 (by kernel_rfl) rfl #[.int .i64 a0_0, .int .i64 1, .int .i64 1048576] rfl (by (try simp only [List.map_toArray, List.map_cons, List.map_nil]); first | done | rfl | (simp only [List.length_drop, List.length_take]; rfl)) ?_; (with_reducible refine (gooseneckref06_within.calls a0_0 1 1048576 true _ A2.out).mono ?_); rintro e w' ⟨rfl, ⟨nd, rfl⟩⟩; refine ⟨_, rfl, ?_⟩) | (go_at_call 57; (with_reducible refine (gooseneckref06_within.calls a0_1 1 1048576 true _ A4.out).mono ?_); rintro e w' ⟨rfl, ⟨nd, rfl⟩⟩))
          go_ret
          exact ⟨by first | rfl | (simp [errW_none, errW_some] <;> rfl) | (simp [*, errW_none, errW_some] <;> rfl), by repeat (first | (with_reducible first | exact HB.out | apply below_alloc | apply pw_below_drewN | apply below_drew1 | refine below_set ?_ GE101.out) | exact HB.out)⟩
    · replace c5 := Bool.eq_false_iff.mpr c5
      subst c5
      have H1 : (some 2) = some r := by rw [if_neg (show ¬ (false = true) by decide)] at H; exact H
      clear H
      have H := H1
      clear H1
      obtain rfl := Option.some.inj H
      go_enter Try.func25, Try.ntmps25
      go_wp2_with (first | ((with_reducible refine gate_dst (N := 1) rfl ?_); refine box_event ?hg (N := 1) ?hd (cs := #[.int .i64 a0_0, .int .i64 a0_1, .int .i64 a0_2]) (t := 43) ?hr ?_; (case hd => rfl); (case hg => rfl); (case hr => first | (go_simp; done) | (go_simp; rfl)); intro gb101 hg w14 hbox hb; have n0_ := Aside0.mk (below_step (by repeat (first | (with_reducible first | exact HB.out | apply below_alloc | apply pw_below_drewN | apply below_drew1) | exact HB.out)) hb); have n1_ := Aside0.mk (hbox); have n2_ := Aside0.mk ((by rw [hg]; exact (below_size (by repeat (first | (with_reducible first | exact HB.out | apply below_alloc | apply pw_below_drewN | apply below_drew1) | exact HB.out))) : w.heap.size ≤ gb101)); have n3_ := Aside0.mk ((by rw [hg]; exact (below_size (by repeat (first | (with_reducible first | exact HB.out | apply below_alloc | apply pw_below_drewN | apply below_drew1) | exact HB.out))) : w.heap.size ≤ gb101)); clear HB; have HB := n0_; have BK101 := n1_; have GW101 := n2_; have GE101 := n3_; clear n0_ n1_ n2_ n3_; clear hb hbox hg; have hcz15_0 : w14.cell? ⟨gb101, 0, none⟩ = some (.int .i64 a0_0) := (blk_cell BK101.out 0).trans rfl; have hcz15_1 : w14.cell? ⟨gb101, 1, none⟩ = some (.int .i64 a0_1) := (blk_cell BK101.out 1).trans rfl; have hcz15_2 : w14.cell? ⟨gb101, 2, none⟩ = some (.int .i64 a0_2) := (blk_cell BK101.out 2).trans rfl; have hfz15_0 := blk_frozen BK101.out 0; have hfz15_1 := blk_frozen BK101.out 1; have hfz15_2 := blk_frozen BK101.out 2) | ((with_reducible refine gate_callee (f := 57) rfl ?_); refine goesL_ (some 5) rfl rfl Try.func57 (by kernel_rfl) rfl #[.int .i64 a0_0, .int .i64 1, .int .i64 1048576] rfl (by (try simp only [List.map_toArray, List.map_cons, List.map_nil]); first | done | rfl | (simp only [List.length_drop, List.length_take]; rfl)) ?_; (with_reducible refine (gooseneckref06_within.calls a0_0 1 1048576 true _ A2.out).mono ?_); rintro e w' ⟨rfl, ⟨nd, rfl⟩⟩; refine ⟨_, rfl, ?_⟩) | (go_at_call 57; (with_reducible refine (gooseneckref06_within.calls a0_1 1 1048576 false _ A4.out).mono ?_); rintro e w' ⟨rfl, ⟨nd, rfl⟩⟩))
      go_ret
      exact ⟨by first | rfl | (simp [errW_none, errW_some] <;> rfl) | (simp [*, errW_none, errW_some] <;> rfl), by repeat (first | (with_reducible first | exact HB.out | apply below_alloc | apply pw_below_drewN | apply below_drew1 | refine below_set ?_ GE101.out) | exact HB.out)⟩
  · replace c3 := Bool.eq_false_iff.mpr c3
    subst c3
    have H1 : (some 2) = some r := by rw [if_neg (show ¬ (false = true) by decide)] at H; exact H
    clear H
    have H := H1
    clear H1
    obtain rfl := Option.some.inj H
    go_enter Try.func25, Try.ntmps25
    go_wp2_with (first | ((with_reducible refine gate_dst (N := 1) rfl ?_); refine box_event ?hg (N := 1) ?hd (cs := #[.int .i64 a0_0, .int .i64 a0_1, .int .i64 a0_2]) (t := 43) ?hr ?_; (case hd => rfl); (case hg => rfl); (case hr => first | (go_simp; done) | (go_simp; rfl)); intro gb101 hg w16 hbox hb; have n0_ := Aside0.mk (below_step (by repeat (first | (with_reducible first | exact HB.out | apply below_alloc | apply pw_below_drewN | apply below_drew1) | exact HB.out)) hb); have n1_ := Aside0.mk (hbox); have n2_ := Aside0.mk ((by rw [hg]; exact (below_size (by repeat (first | (with_reducible first | exact HB.out | apply below_alloc | apply pw_below_drewN | apply below_drew1) | exact HB.out))) : w.heap.size ≤ gb101)); have n3_ := Aside0.mk ((by rw [hg]; exact (below_size (by repeat (first | (with_reducible first | exact HB.out | apply below_alloc | apply pw_below_drewN | apply below_drew1) | exact HB.out))) : w.heap.size ≤ gb101)); clear HB; have HB := n0_; have BK101 := n1_; have GW101 := n2_; have GE101 := n3_; clear n0_ n1_ n2_ n3_; clear hb hbox hg; have hcz17_0 : w16.cell? ⟨gb101, 0, none⟩ = some (.int .i64 a0_0) := (blk_cell BK101.out 0).trans rfl; have hcz17_1 : w16.cell? ⟨gb101, 1, none⟩ = some (.int .i64 a0_1) := (blk_cell BK101.out 1).trans rfl; have hcz17_2 : w16.cell? ⟨gb101, 2, none⟩ = some (.int .i64 a0_2) := (blk_cell BK101.out 2).trans rfl; have hfz17_0 := blk_frozen BK101.out 0; have hfz17_1 := blk_frozen BK101.out 1; have hfz17_2 := blk_frozen BK101.out 2) | ((with_reducible refine gate_callee (f := 57) rfl ?_); refine goesL_ (some 5) rfl rfl Try.func57 (by kernel_rfl) rfl #[.int .i64 a0_0, .int .i64 1, .int .i64 1048576] rfl (by (try simp only [List.map_toArray, List.map_cons, List.map_nil]); first | done | rfl | (simp only [List.length_drop, List.length_take]; rfl)) ?_; (with_reducible refine (gooseneckref06_within.calls a0_0 1 1048576 false _ A2.out).mono ?_); rintro e w' ⟨rfl, ⟨nd, rfl⟩⟩; refine ⟨_, rfl, ?_⟩))
    go_ret
    exact ⟨by first | rfl | (simp [errW_none, errW_some] <;> rfl) | (simp [*, errW_none, errW_some] <;> rfl), by repeat (first | (with_reducible first | exact HB.out | apply below_alloc | apply pw_below_drewN | apply below_drew1 | refine below_set ?_ GE101.out) | exact HB.out)⟩
end Go.Proofs.Ytiklpefckadgdaa.P
noncomputable section
namespace Go.Proofs.Ytiklpefckadgdaa.P
open Go.RowKit Go.Proofs.YtiklpefckadgdaaW.PrintWords Go.Proofs.YtiklpefckadgdaaW.PrintLast Go.Proofs.YtiklpefckadgdaaW.PrintMore
attribute [local go_sem] max2_int min2_int max_two min_two max_three min_three max_four min_four   -- for this text's walks alone
set_option linter.unusedVariables false
set_option linter.unusedSimpArgs false
def gooseneckref06_up.f (a0 : Int) (a1 : Int) : Option (Int) := if a1 = 0 then (none) else (some (wrap64 (Int.tdiv (wrap64 ((wrap64 (a0 + a1)) - 1)) a1)))
set_option maxHeartbeats 8000000 in
set_option maxRecDepth 100000 in
theorem gooseneckref06_up.calls (a0 : Int) (a1 : Int) (r : Int) (w : World) (h : gooseneckref06_up.f a0 a1 = some r) :
    Calls Try.prog 58 #[.int .i64 a0, .int .i64 a1] w fun e w' => e = .returned (.int .i64 r) ∧ Drawn0 w w' := by
  have H : (if a1 = 0 then (none) else (some (wrap64 (Int.tdiv (wrap64 ((wrap64 (a0 + a1)) - 1)) a1)))) = some r := h
  clear h
  by_cases c3 : a1 = 0
  · rw [if_pos c3] at H
    exact absurd H (by simp)
  · rw [if_neg c3] at H
    have c3b0 : (a1 == 0) = false := beq_eq_false_iff_ne.mpr c3
    have c3b1 : (a1 != 0) = true := bne_iff_ne.mpr c3
    obtain rfl := Option.some.inj H
    go_enter Try.func58, Try.ntmps58
    go_wp2
    go_ret
    exact ⟨by first | rfl | (simp; done) | (simp [*]; done), by repeat (first | exact Drawn0.refl _ | apply Drawn0.step)⟩
end Go.Proofs.Ytiklpefckadgdaa.P
noncomputable section
namespace Go.Proofs.Ytiklpefckadgdaa.P
open Go.RowKit Go.Proofs.YtiklpefckadgdaaW.PrintWords Go.Proofs.YtiklpefckadgdaaW.PrintLast Go.Proofs.YtiklpefckadgdaaW.PrintMore
attribute [local go_sem] max2_int min2_int max_two min_two max_three min_three max_four min_four   -- for this text's walks alone
set_option linter.unusedVariables false
set_option linter.unusedSimpArgs false
def gooseneckref02_Floor.f (a0 : Int) (a1 : Int) : Option (Int) := if a1 = 0 then (none) else (if (Int.tmod a0 a1) < 0 then (some (wrap64 ((wrap64 (Int.tdiv a0 a1)) - 1))) else (some (wrap64 (Int.tdiv a0 a1))))
set_option maxHeartbeats 8000000 in
set_option maxRecDepth 100000 in
theorem gooseneckref02_Floor.calls (a0 : Int) (a1 : Int) (r : Int) (w : World) (h : gooseneckref02_Floor.f a0 a1 = some r) :
    Calls Try.prog 93 #[.int .i64 a0, .int .i64 a1] w fun e w' => e = .returned (.int .i64 r) ∧ Drawn0 w w' := by
  have H : (if a1 = 0 then (none) else (if (Int.tmod a0 a1) < 0 then (some (wrap64 ((wrap64 (Int.tdiv a0 a1)) - 1))) else (some (wrap64 (Int.tdiv a0 a1))))) = some r := h
  clear h
  by_cases c3 : a1 = 0
  · rw [if_pos c3] at H
    exact absurd H (by simp)
  · rw [if_neg c3] at H
    have c3b0 : (a1 == 0) = false := beq_eq_false_iff_ne.mpr c3
    have c3b1 : (a1 != 0) = true := bne_iff_ne.mpr c3
    by_cases c4 : (Int.tmod a0 a1) < 0
    · rw [if_pos c4] at H
      have c4b0 : decide ((Int.tmod a0 a1) < 0) = true := decide_eq_true c4
      clear c4
      obtain rfl := Option.some.inj H
      go_enter Try.func93, Try.ntmps93
      go_wp2
      go_ret
      exact ⟨by first | rfl | (simp; done) | (simp [*]; done), by repeat (first | exact Drawn0.refl _ | apply Drawn0.step)⟩
    · rw [if_neg c4] at H
      have c4b0 : decide ((Int.tmod a0 a1) < 0) = false := decide_eq_false c4
      clear c4
      obtain rfl := Option.some.inj H
      go_enter Try.func93, Try.ntmps93
      go_wp2
      go_ret
      exact ⟨by first | rfl | (simp; done) | (simp [*]; done), by repeat (first | exact Drawn0.refl _ | apply Drawn0.step)⟩
end Go.Proofs.Ytiklpefckadgdaa.P
noncomputable section
namespace Go.Proofs.Ytiklpefckadgdaa.P
open Go.RowKit Go.Proofs.YtiklpefckadgdaaW.PrintWords Go.Proofs.YtiklpefckadgdaaW.PrintLast Go.Proofs.YtiklpefckadgdaaW.PrintMore
attribute [local go_sem] max2_int min2_int max_two min_two max_three min_three max_four min_four   -- for this text's walks alone
set_option linter.unusedVariables false
set_option linter.unusedSimpArgs false
mutual
def gooseneckref04_Down.l0 : Nat → Int → Int → Int → Int → Int → Int → Int → Option (Int)
  | 0, _, _, _, _, _, _, _ => none
  | k + 1, x0, x2, x7, x8, x9, x10, x11 => if x11 ≥ 0 then (if 0 ≤ (IntKind.u64.wrap (x11)) then (if (Int.tmod (shr .i64 x0 (IntKind.u64.wrap (x11))) 2) = 1 then (gooseneckref04_Down.j1 k x0 x2 x7 x8 (wrap64 (2 * x9)) (wrap64 ((wrap64 (2 * x10)) + x8)) x11) else (gooseneckref04_Down.j1 k x0 x2 x7 x8 (wrap64 (2 * x9)) (wrap64 (2 * x10)) x11)) else (none)) else (some (wrap64 ((wrap64 (x7 * x0)) + x9)))
def gooseneckref04_Down.j1 : Nat → Int → Int → Int → Int → Int → Int → Int → Option (Int)
  | 0, _, _, _, _, _, _, _ => none
  | k + 1, x0, x2, x7, x8, x9, x10, x11 => gooseneckref04_Down.l1 k x0 x2 x7 x8 x9 x10 x11
def gooseneckref04_Down.l1 : Nat → Int → Int → Int → Int → Int → Int → Int → Option (Int)
  | 0, _, _, _, _, _, _, _ => none
  | k + 1, x0, x2, x7, x8, x9, x10, x11 => if x10 ≥ x2 then (gooseneckref04_Down.l1 k x0 x2 x7 x8 (wrap64 (x9 + 1)) (wrap64 (x10 - x2)) x11) else (gooseneckref04_Down.l0 k x0 x2 x7 x8 x9 x10 (wrap64 (x11 - 1)))
end
def gooseneckref04_Down.f (k : Nat) (a0 : Int) (a1 : Int) (a2 : Int) : Option (Int) := (gooseneckref02_Floor.f a1 a2).bind fun t101 => (gooseneckref04_Down.l0 k a0 a2 t101 (wrap64 (a1 - (wrap64 (t101 * a2)))) 0 0 30)
theorem gooseneckref04_Down.mono_l : ∀ k, (∀ y0 y1 y2 y3 y4 y5 y6, LeO (gooseneckref04_Down.l0 k y0 y1 y2 y3 y4 y5 y6) (gooseneckref04_Down.l0 (k + 1) y0 y1 y2 y3 y4 y5 y6)) ∧ (∀ y0 y1 y2 y3 y4 y5 y6, LeO (gooseneckref04_Down.j1 k y0 y1 y2 y3 y4 y5 y6) (gooseneckref04_Down.j1 (k + 1) y0 y1 y2 y3 y4 y5 y6)) ∧ (∀ y0 y1 y2 y3 y4 y5 y6, LeO (gooseneckref04_Down.l1 k y0 y1 y2 y3 y4 y5 y6) (gooseneckref04_Down.l1 (k + 1) y0 y1 y2 y3 y4 y5 y6))
  | 0 => ⟨fun _ _ _ _ _ _ _ r h => by simp [gooseneckref04_Down.l0] at h, fun _ _ _ _ _ _ _ r h => by simp [gooseneckref04_Down.j1] at h, fun _ _ _ _ _ _ _ r h => by simp [gooseneckref04_Down.l1] at h⟩
  | k + 1 => by
    obtain ⟨ih0, ih1, ih2⟩ := gooseneckref04_Down.mono_l k
    refine ⟨?_, ?_, ?_⟩
    · intro y0 y1 y2 y3 y4 y5 y6
      unfold gooseneckref04_Down.l0
      repeat' first
      | (with_reducible exact ih0 _ _ _ _ _ _ _)
      | (with_reducible exact ih1 _ _ _ _ _ _ _)
      | (with_reducible exact ih2 _ _ _ _ _ _ _)
      | (with_reducible exact LeO.refl _)
      | (with_reducible exact LeO.none _)
      | (with_reducible refine LeO.ite ?_ ?_)
      | (with_reducible refine LeO.bind ?_ (fun _ => ?_))
      | exact ih0 _ _ _ _ _ _ _
      | exact ih1 _ _ _ _ _ _ _
      | exact ih2 _ _ _ _ _ _ _
      | exact LeO.none _
      | refine LeO.ite ?_ ?_
      | refine LeO.bind ?_ (fun _ => ?_)
    · intro y0 y1 y2 y3 y4 y5 y6
      unfold gooseneckref04_Down.j1
      repeat' first
      | (with_reducible exact ih0 _ _ _ _ _ _ _)
      | (with_reducible exact ih1 _ _ _ _ _ _ _)
      | (with_reducible exact ih2 _ _ _ _ _ _ _)
      | (with_reducible exact LeO.refl _)
      | (with_reducible exact LeO.none _)
      | (with_reducible refine LeO.ite ?_ ?_)
      | (with_reducible refine LeO.bind ?_ (fun _ => ?_))
      | exact ih0 _ _ _ _ _ _ _
      | exact ih1 _ _ _ _ _ _ _
      | exact ih2 _ _ _ _ _ _ _
      | exact LeO.none _
      | refine LeO.ite ?_ ?_
      | refine LeO.bind ?_ (fun _ => ?_)
    · intro y0 y1 y2 y3 y4 y5 y6
      unfold gooseneckref04_Down.l1
      repeat' first
      | (with_reducible exact ih0 _ _ _ _ _ _ _)
      | (with_reducible exact ih1 _ _ _ _ _ _ _)
      | (with_reducible exact ih2 _ _ _ _ _ _ _)
      | (with_reducible exact LeO.refl _)
      | (with_reducible exact LeO.none _)
      | (with_reducible refine LeO.ite ?_ ?_)
      | (with_reducible refine LeO.bind ?_ (fun _ => ?_))
      | exact ih0 _ _ _ _ _ _ _
      | exact ih1 _ _ _ _ _ _ _
      | exact ih2 _ _ _ _ _ _ _
      | exact LeO.none _
      | refine LeO.ite ?_ ?_
      | refine LeO.bind ?_ (fun _ => ?_)
theorem gooseneckref04_Down.mono : ∀ a0 a1 a2 k, LeO (gooseneckref04_Down.f k a0 a1 a2) (gooseneckref04_Down.f (k + 1) a0 a1 a2) := by
  intro a0 a1 a2 k
  obtain ⟨ih0, ih1, ih2⟩ := gooseneckref04_Down.mono_l k
  unfold gooseneckref04_Down.f
  repeat' first
      | (with_reducible exact ih0 _ _ _ _ _ _ _)
      | (with_reducible exact ih1 _ _ _ _ _ _ _)
      | (with_reducible exact ih2 _ _ _ _ _ _ _)
      | (with_reducible exact LeO.refl _)
      | (with_reducible exact LeO.none _)
      | (with_reducible refine LeO.ite ?_ ?_)
      | (with_reducible refine LeO.bind ?_ (fun _ => ?_))
      | exact ih0 _ _ _ _ _ _ _
      | exact ih1 _ _ _ _ _ _ _
      | exact ih2 _ _ _ _ _ _ _
      | exact LeO.none _
      | refine LeO.ite ?_ ?_
      | refine LeO.bind ?_ (fun _ => ?_)
set_option maxHeartbeats 8000000 in
set_option maxRecDepth 100000 in
theorem gooseneckref04_Down.calls (k : Nat) (a0 : Int) (a1 : Int) (a2 : Int) (r : Int) (w : World) (h : gooseneckref04_Down.f k a0 a1 a2 = some r) :
    Calls Try.prog 83 #[.int .i64 a0, .int .i64 a1, .int .i64 a2] w fun e w' => e = .returned (.int .i64 r) ∧ Drawn0 w w' := by
  have H : ((gooseneckref02_Floor.f a1 a2).bind fun t101 => (gooseneckref04_Down.l0 k a0 a2 t101 (wrap64 (a1 - (wrap64 (t101 * a2)))) 0 0 30)) = some r := h
  clear h
  replace H := Option.bind_eq_some_iff.mp H
  obtain ⟨t101, A40, H⟩ := H
  replace H : (gooseneckref04_Down.l0 k a0 a2 t101 (wrap64 (a1 - (wrap64 (t101 * a2)))) 0 0 30) = some r := H
  have A4 := Aside0.mk A40
  clear A40
  have H' := Aside0.mk H
  clear H
  go_enter Try.func83, Try.ntmps83
  go_wp2_with (first | ((with_reducible refine gate_callee (f := 93) rfl ?_); refine goesL_ (some 14) rfl rfl Try.func93 (by kernel_rfl) rfl #[.int .i64 a1, .int .i64 a2] rfl (by (try simp only [List.map_toArray, List.map_cons, List.map_nil]); first | done | rfl | (simp only [List.length_drop, List.length_take]; rfl)) ?_; (with_reducible refine (gooseneckref02_Floor.calls a1 a2 t101 _ A4.out).mono ?_); rintro e w' ⟨rfl, ⟨nd, rfl⟩⟩; refine ⟨_, rfl, ?_⟩))
  go_loopg [9, 10, 11] k (fun kq v9 v10 v11 w' => ∃ (x9_1 : Int) (x10_1 : Int) (x11_1 : Int), v9 = .int .i64 x9_1 ∧ v10 = .int .i64 x10_1 ∧ v11 = .int .i64 x11_1 ∧ Aside0 (gooseneckref04_Down.l0 kq a0 a2 t101 (wrap64 (a1 - (wrap64 (t101 * a2)))) x9_1 x10_1 x11_1 = some r) ∧ Aside0 (kq ≤ k) ∧ Drawn0 w w')
  case atStart => exact ⟨(0), (0), (30), (by first | rfl | (simp; done) | (simp [*]; done)), (by first | rfl | (simp; done) | (simp [*]; done)), (by first | rfl | (simp; done) | (simp [*]; done)), H', ⟨Nat.le_refl _⟩, by repeat (first | exact Drawn0.refl _ | apply Drawn0.step)⟩
  case round =>
    clear H'
    try clear p2
    obtain ⟨x9_1, x10_1, x11_1, rfl, rfl, rfl, HA, HK1, ⟨m1, rfl⟩⟩ := hrel
    cases gk with
    | zero => exact absurd HA.out (by simp [gooseneckref04_Down.l0])
    | succ k1 =>
      have H := HA.out
      clear HA
      simp only [gooseneckref04_Down.l0] at H
      by_cases c5 : x11_1 ≥ 0
      · rw [if_pos c5] at H
        have c5b0 : decide (0 ≤ x11_1) = true := decide_eq_true c5
        clear c5
        obtain ⟨ji6, hji6⟩ : ∃ j_ : Int, (IntKind.u64.wrap (x11_1)) = j_ := ⟨_, rfl⟩
        replace H : (if 0 ≤ (ji6) then (if (Int.tmod (shr .i64 a0 (ji6)) 2) = 1 then (gooseneckref04_Down.j1 k1 a0 a2 t101 (wrap64 (a1 - (wrap64 (t101 * a2)))) (wrap64 (2 * x9_1)) (wrap64 ((wrap64 (2 * x10_1)) + (wrap64 (a1 - (wrap64 (t101 * a2)))))) x11_1) else (gooseneckref04_Down.j1 k1 a0 a2 t101 (wrap64 (a1 - (wrap64 (t101 * a2)))) (wrap64 (2 * x9_1)) (wrap64 (2 * x10_1)) x11_1)) else (none)) = some r := by first | (rw [hji6] at H; exact H) | (simp only [hji6] at H ⊢; exact H)
        by_cases c7 : 0 ≤ (ji6)
        · rw [if_pos c7] at H
          have c7b0 := eq_true c7
          have c7b1 : decide (0 ≤ (ji6)) = true := decide_eq_true c7
          clear c7
          obtain ⟨ji8, hji8⟩ : ∃ j_ : Int, (shr .i64 a0 (ji6)) = j_ := ⟨_, rfl⟩
          replace H : (if (Int.tmod (ji8) 2) = 1 then (gooseneckref04_Down.j1 k1 a0 a2 t101 (wrap64 (a1 - (wrap64 (t101 * a2)))) (wrap64 (2 * x9_1)) (wrap64 ((wrap64 (2 * x10_1)) + (wrap64 (a1 - (wrap64 (t101 * a2)))))) x11_1) else (gooseneckref04_Down.j1 k1 a0 a2 t101 (wrap64 (a1 - (wrap64 (t101 * a2)))) (wrap64 (2 * x9_1)) (wrap64 (2 * x10_1)) x11_1)) = some r := by first | (rw [hji8] at H; exact H) | (simp only [hji8] at H ⊢; exact H)
          have hji8_ : (a0 / 2 ^ min (ji6).toNat 64) = ji8 := hji8
          have hji8z : (ji6) ≤ 64 → (a0 / 2 ^ (ji6).toNat) = ji8 := shr_small hji8
          have HC9 := Aside0.mk H
          clear H
          go_upto_if 33 with (fail)
          go_cut [10] (fun v10 wc => ∃ (kq : Nat) (x10_8 : Int), v10 = .int .i64 x10_8 ∧ Aside0 (gooseneckref04_Down.j1 kq a0 a2 t101 (wrap64 (a1 - (wrap64 (t101 * a2)))) (wrap64 (2 * x9_1)) x10_8 x11_1 = some r) ∧ Aside0 (kq ≤ k1) ∧ Drawn0 w wc)
          case first =>
            have H := HC9.out
            clear HC9
            by_cases c10 : (Int.tmod (ji8) 2) = 1
            · rw [if_pos c10] at H
              have c10b0 : ((Int.tmod (ji8) 2) == 1) = true := beq_iff_eq.mpr c10
              have c10b1 : ((Int.tmod (ji8) 2) != 1) = false := bne_eq_false_iff_eq.mpr c10
              clear c10
              (first | rw [c10b0] | (simp only [i64_w, i32_w]; rw [c10b0]) | skip)
              have H' := Aside0.mk H
              clear H
              go_wp2
              go_meet
              case rel => exact ⟨_, (wrap64 ((wrap64 (2 * x10_1)) + (wrap64 (a1 - (wrap64 (t101 * a2)))))), (by first | rfl | (simp; done) | (simp [*]; done)), H', ⟨by have := HK1.out; first | omega | exact Nat.le_refl _⟩, by repeat (first | exact Drawn0.refl _ | apply Drawn0.step)⟩
            · rw [if_neg c10] at H
              have c10b0 : ((Int.tmod (ji8) 2) == 1) = false := beq_eq_false_iff_ne.mpr c10
              have c10b1 : ((Int.tmod (ji8) 2) != 1) = true := bne_iff_ne.mpr c10
              (first | rw [c10b0] | (simp only [i64_w, i32_w]; rw [c10b0]) | skip)
              have H' := Aside0.mk H
              clear H
              go_wp2
              go_meet
              case rel => exact ⟨_, (wrap64 (2 * x10_1)), (by first | rfl | (simp; done) | (simp [*]; done)), H', ⟨by have := HK1.out; first | omega | exact Nat.le_refl _⟩, by repeat (first | exact Drawn0.refl _ | apply Drawn0.step)⟩
          case rest =>
            clear HC9
            try clear c1
            try clear p2
            try clear c5
            try clear c5b0
            try clear p6
            try clear c7
            try clear c7b0
            try clear c7b1
            try clear c8
            try clear c9
            try clear c10
            try clear c10b0
            try clear c10b1
            try clear p2
            obtain ⟨kq, x10_8, rfl, HA, HJ8, ⟨mc8, rfl⟩⟩ := hcut
            cases kq with
            | zero => exact absurd HA.out (by simp [gooseneckref04_Down.j1])
            | succ kj8 =>
              have H := HA.out
              clear HA
              simp only [gooseneckref04_Down.j1] at H
              have H' := Aside0.mk H
              clear H
              go_wp2
              go_loopg [9, 10] kj8 (fun kq v9 v10 w' => ∃ (x9_3 : Int) (x10_3 : Int), v9 = .int .i64 x9_3 ∧ v10 = .int .i64 x10_3 ∧ Aside0 (gooseneckref04_Down.l1 kq a0 a2 t101 (wrap64 (a1 - (wrap64 (t101 * a2)))) x9_3 x10_3 x11_1 = some r) ∧ Aside0 (kq ≤ kj8) ∧ Drawn0 w w')
              case atStart => exact ⟨((wrap64 (2 * x9_1))), (x10_8), (by first | rfl | (simp; done) | (simp [*]; done)), (by first | rfl | (simp; done) | (simp [*]; done)), H', ⟨Nat.le_refl _⟩, by repeat (first | exact Drawn0.refl _ | apply Drawn0.step)⟩
              case round =>
                clear H'
                try clear c1
                try clear p2
                try clear c5
                try clear c5b0
                try clear p6
                try clear c7
                try clear c7b0
                try clear c7b1
                try clear c8
                try clear c9
                try clear c10
                try clear c10b0
                try clear c10b1
                try clear p2
                try clear p6
                obtain ⟨x9_3, x10_3, rfl, rfl, HA, HK3, ⟨m3, rfl⟩⟩ := hrel
                cases gk with
                | zero => exact absurd HA.out (by simp [gooseneckref04_Down.l1])
                | succ k3 =>
                  have H := HA.out
                  clear HA
                  simp only [gooseneckref04_Down.l1] at H
                  by_cases c11 : x10_3 ≥ a2
                  · rw [if_pos c11] at H
                    have c11b0 : decide (a2 ≤ x10_3) = true := decide_eq_true c11
                    clear c11
                    have H' := Aside0.mk H
                    clear H
                    go_wp2
                    go_roundg k3
                    case measure => have := HK1.out; have := HJ8.out; have := HK3.out; omega
                    case rel => exact ⟨(wrap64 (x9_3 + 1)), (wrap64 (x10_3 - a2)), (by first | rfl | (simp; done) | (simp [*]; done)), (by first | rfl | (simp; done) | (simp [*]; done)), H', ⟨by have := HK1.out; have := HJ8.out; have := HK3.out; omega⟩, by repeat (first | exact Drawn0.refl _ | apply Drawn0.step)⟩
                  · rw [if_neg c11] at H
                    have c11b0 : decide (a2 ≤ x10_3) = false := decide_eq_false c11
                    clear c11
                    have H' := Aside0.mk H
                    clear H
                    go_wp2
                    go_roundg k3
                    case measure => have := HK1.out; have := HJ8.out; have := HK3.out; omega
                    case rel => exact ⟨(x9_3), (x10_3), (wrap64 (x11_1 - 1)), (by first | rfl | (simp; done) | (simp [*]; done)), (by first | rfl | (simp; done) | (simp [*]; done)), (by first | rfl | (simp; done) | (simp [*]; done)), H', ⟨by have := HK1.out; have := HJ8.out; have := HK3.out; omega⟩, by repeat (first | exact Drawn0.refl _ | apply Drawn0.step)⟩
        · rw [if_neg c7] at H
          exact absurd H (by simp)
      · rw [if_neg c5] at H
        have c5b0 : decide (0 ≤ x11_1) = false := decide_eq_false c5
        clear c5
        obtain rfl := Option.some.inj H
        go_wp2
        go_ret
        exact ⟨by first | rfl | (simp; done) | (simp [*]; done), by repeat (first | exact Drawn0.refl _ | apply Drawn0.step)⟩
end Go.Proofs.Ytiklpefckadgdaa.P
