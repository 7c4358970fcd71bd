/- The law BridgeGround answers true at every input and leaves its arguments as they were; no condition. Part 4 of 4: the row. -/
import Derived.Test.YtiklpefckadgdaaCBridgeGround0
import Derived.Test.YtiklpefckadgdaaCBridgeGround2
import Derived.Test.YtiklpefckadgdaaCBridgeGround1
import Derived.ChangeArms
import Derived.ChangeSame
import Derived.Deep.Slices
import Derived.WideShapes
import Derived.KernelRfl
import Derived.Test.YtiklpefckadgdaaRows
import Derived.WalkKit
import Derived.ProofKit
import Derived.OpenShut
import Derived.ShutString
import Derived.ChangeOld
import Derived.Below
import Derived.SizedLaws
import Derived.Carry
import Derived.Lib.SmallJoins
noncomputable section
namespace Go.Proofs.Ytiklpefckadgdaa.P
open Go.RowKit Go.Proofs.YtiklpefckadgdaaW.PrintWords Go.Proofs.YtiklpefckadgdaaW.PrintLast Go.Proofs.YtiklpefckadgdaaW.PrintMore
attribute [local go_sem] max2_int min2_int max_two min_two max_three min_three max_four min_four   -- for this text's walks alone
set_option linter.unusedVariables false
set_option linter.unusedSimpArgs false
def gooseneckref06_Left.l0 : Nat → Int → Int → Int → Int → Int → Int → Int → Option (Int × Int)
  | 0, _, _, _, _, _, _, _ => none
  | k + 1, x2, x8, x10, x11, x102000, x102001, x102002 => if x10 < x11 then ((gooseneckref06_damage.f k x102000 x102001 x102002 x8 (wrap64 (Int.tdiv (wrap64 ((wrap64 (x10 + x11)) + 1)) 2))).bind fun t108 => (if (wrap64 (x2 + t108)) > 1000000 then (gooseneckref06_Left.l0 k x2 x8 x10 (wrap64 ((wrap64 (Int.tdiv (wrap64 ((wrap64 (x10 + x11)) + 1)) 2)) - 1)) x102000 x102001 x102002) else (gooseneckref06_Left.l0 k x2 x8 (wrap64 (Int.tdiv (wrap64 ((wrap64 (x10 + x11)) + 1)) 2)) x11 x102000 x102001 x102002))) else (some (x10, 0))
def gooseneckref06_Left.f (k : Nat) (a0_0 : Int) (a0_1 : Int) (a0_2 : Int) (l1 : List (S35)) (a2 : Int) : Option (Int × Int) := (gooseneckref06_CheckPavement.f a0_0 a0_1 a0_2).bind fun t102 => (if t102 = 0 then ((gooseneckref06_CheckTrain.f l1).bind fun t103 => (if t103 = 0 then ((gooseneckref06_within.f a2 0 1000000).bind fun t105 => (if t105 = true then ((gooseneckref06_wear.f k a0_0 a0_1 a0_2 l1).bind fun bt106 => (if bt106.2 = true then (if bt106.1 = 0 then (some (0, 5)) else (gooseneckref06_Left.l0 k a2 bt106.1 0 1048576 a0_0 a0_1 a0_2)) else (some (0, 4)))) else (some (0, 3)))) else ((gooseneckref06_CheckTrain.f l1).bind fun t104 => (some (0, t104))))) else (some (0, 2)))
theorem gooseneckref06_Left.mono_l : ∀ k, (∀ y0 y1 y2 y3 y4 y5 y6, LeO (gooseneckref06_Left.l0 k y0 y1 y2 y3 y4 y5 y6) (gooseneckref06_Left.l0 (k + 1) y0 y1 y2 y3 y4 y5 y6))
  | 0 => fun _ _ _ _ _ _ _ r h => by simp [gooseneckref06_Left.l0] at h
  | k + 1 => by
    have ih0 := gooseneckref06_Left.mono_l k
    · intro y0 y1 y2 y3 y4 y5 y6
      unfold gooseneckref06_Left.l0
      repeat' first
      | (with_reducible exact ih0 _ _ _ _ _ _ _)
      | (with_reducible exact gooseneckref06_damage.mono _ _ _ _ _ _)
      | (with_reducible exact gooseneckref06_wear.mono _ _ _ _ _)
      | (with_reducible exact LeO.refl _)
      | (with_reducible exact LeO.none _)
      | (with_reducible refine LeO.ite ?_ ?_)
      | (with_reducible refine LeO.bind ?_ (fun _ => ?_))
      | exact ih0 _ _ _ _ _ _ _
      | exact gooseneckref06_damage.mono _ _ _ _ _ _
      | exact gooseneckref06_wear.mono _ _ _ _ _
      | exact LeO.none _
      | refine LeO.ite ?_ ?_
      | refine LeO.bind ?_ (fun _ => ?_)
theorem gooseneckref06_Left.mono : ∀ a0 a1 a2 a3 a4 k, LeO (gooseneckref06_Left.f k a0 a1 a2 a3 a4) (gooseneckref06_Left.f (k + 1) a0 a1 a2 a3 a4) := by
  intro a0 a1 a2 a3 a4 k
  have ih0 := gooseneckref06_Left.mono_l k
  unfold gooseneckref06_Left.f
  repeat' first
      | (with_reducible exact ih0 _ _ _ _ _ _ _)
      | (with_reducible exact gooseneckref06_damage.mono _ _ _ _ _ _)
      | (with_reducible exact gooseneckref06_wear.mono _ _ _ _ _)
      | (with_reducible exact LeO.refl _)
      | (with_reducible exact LeO.none _)
      | (with_reducible refine LeO.ite ?_ ?_)
      | (with_reducible refine LeO.bind ?_ (fun _ => ?_))
      | exact ih0 _ _ _ _ _ _ _
      | exact gooseneckref06_damage.mono _ _ _ _ _ _
      | exact gooseneckref06_wear.mono _ _ _ _ _
      | exact LeO.none _
      | refine LeO.ite ?_ ?_
      | refine LeO.bind ?_ (fun _ => ?_)
set_option maxHeartbeats 8000000 in
set_option maxRecDepth 100000 in
theorem gooseneckref06_Left.calls (k : Nat) (a0_0 : Int) (a0_1 : Int) (a0_2 : Int) (A1 : Option Addr) (c1 : Nat) (l1 : List (S35)) (a2 : Int) (r1 : Int) (r2 : Int) (w : World) (hr1 : Kd.C k35 w A1 l1.length l1) (hc1 : l1.length ≤ c1) (h : gooseneckref06_Left.f k a0_0 a0_1 a0_2 l1 a2 = some (r1, r2)) :
    Calls Try.prog 23 #[.agg #[.int .i64 a0_0, .int .i64 a0_1, .int .i64 a0_2], .slice A1 l1.length c1, .int .i64 a2] w fun e w' => e = .returned (.tuple #[.int .i64 r1, .int .i64 r2]) ∧ Below w.heap.size w w' := by
  have hu43 := Try.underlying43
  have HR1 := Aside0.mk hr1
  have HC1 := Aside0.mk hc1
  clear hr1 hc1
  have HB := Aside0.mk (Below.refl w.heap.size w)
  have H : ((gooseneckref06_CheckPavement.f a0_0 a0_1 a0_2).bind fun t102 => (if t102 = 0 then ((gooseneckref06_CheckTrain.f l1).bind fun t103 => (if t103 = 0 then ((gooseneckref06_within.f a2 0 1000000).bind fun t105 => (if t105 = true then ((gooseneckref06_wear.f k a0_0 a0_1 a0_2 l1).bind fun bt106 => (if bt106.2 = true then (if bt106.1 = 0 then (some (0, 5)) else (gooseneckref06_Left.l0 k a2 bt106.1 0 1048576 a0_0 a0_1 a0_2)) else (some (0, 4)))) else (some (0, 3)))) else ((gooseneckref06_CheckTrain.f l1).bind fun t104 => (some (0, t104))))) else (some (0, 2)))) = some (r1, r2) := h
  clear h
  replace H := Option.bind_eq_some_iff.mp H
  obtain ⟨t102, A40, H⟩ := H
  replace H : (if t102 = 0 then ((gooseneckref06_CheckTrain.f l1).bind fun t103 => (if t103 = 0 then ((gooseneckref06_within.f a2 0 1000000).bind fun t105 => (if t105 = true then ((gooseneckref06_wear.f k a0_0 a0_1 a0_2 l1).bind fun bt106 => (if bt106.2 = true then (if bt106.1 = 0 then (some (0, 5)) else (gooseneckref06_Left.l0 k a2 bt106.1 0 1048576 a0_0 a0_1 a0_2)) else (some (0, 4)))) else (some (0, 3)))) else ((gooseneckref06_CheckTrain.f l1).bind fun t104 => (some (0, t104))))) else (some (0, 2))) = some (r1, r2) := H
  have A4 := Aside0.mk A40
  clear A40
  by_cases c5 : t102 = 0
  · rw [if_pos c5] at H
    have c5b0 : (t102 == 0) = true := beq_iff_eq.mpr c5
    have c5b1 : (t102 != 0) = false := bne_eq_false_iff_eq.mpr c5
    clear c5
    replace H := Option.bind_eq_some_iff.mp H
    obtain ⟨t103, A60, H⟩ := H
    replace H : (if t103 = 0 then ((gooseneckref06_within.f a2 0 1000000).bind fun t105 => (if t105 = true then ((gooseneckref06_wear.f k a0_0 a0_1 a0_2 l1).bind fun bt106 => (if bt106.2 = true then (if bt106.1 = 0 then (some (0, 5)) else (gooseneckref06_Left.l0 k a2 bt106.1 0 1048576 a0_0 a0_1 a0_2)) else (some (0, 4)))) else (some (0, 3)))) else ((gooseneckref06_CheckTrain.f l1).bind fun t104 => (some (0, t104)))) = some (r1, r2) := H
    have A6 := Aside0.mk A60
    clear A60
    by_cases c7 : t103 = 0
    · rw [if_pos c7] at H
      have c7b0 : (t103 == 0) = true := beq_iff_eq.mpr c7
      have c7b1 : (t103 != 0) = false := bne_eq_false_iff_eq.mpr c7
      clear c7
      replace H := Option.bind_eq_some_iff.mp H
      obtain ⟨t105, A80, H⟩ := H
      replace H : (if t105 = true then ((gooseneckref06_wear.f k a0_0 a0_1 a0_2 l1).bind fun bt106 => (if bt106.2 = true then (if bt106.1 = 0 then (some (0, 5)) else (gooseneckref06_Left.l0 k a2 bt106.1 0 1048576 a0_0 a0_1 a0_2)) else (some (0, 4)))) else (some (0, 3))) = some (r1, r2) := H
      have A8 := Aside0.mk A80
      clear A80
      by_cases c9 : t105 = true
      · subst c9
        have H1 : ((gooseneckref06_wear.f k a0_0 a0_1 a0_2 l1).bind fun bt106 => (if bt106.2 = true then (if bt106.1 = 0 then (some (0, 5)) else (gooseneckref06_Left.l0 k a2 bt106.1 0 1048576 a0_0 a0_1 a0_2)) else (some (0, 4)))) = some (r1, r2) := by rw [if_pos rfl] at H; exact H
        clear H
        have H := H1
        clear H1
        replace H := Option.bind_eq_some_iff.mp H
        obtain ⟨⟨t106, t107⟩, A100, H⟩ := H
        replace H : (if t107 = true then (if t106 = 0 then (some (0, 5)) else (gooseneckref06_Left.l0 k a2 t106 0 1048576 a0_0 a0_1 a0_2)) else (some (0, 4))) = some (r1, r2) := H
        have A10 := Aside0.mk A100
        clear A100
        by_cases c11 : t107 = true
        · subst c11
          have H1 : (if t106 = 0 then (some (0, 5)) else (gooseneckref06_Left.l0 k a2 t106 0 1048576 a0_0 a0_1 a0_2)) = some (r1, r2) := by rw [if_pos rfl] at H; exact H
          clear H
          have H := H1
          clear H1
          by_cases c12 : t106 = 0
          · rw [if_pos c12] at H
            have c12b0 : (t106 == 0) = true := beq_iff_eq.mpr c12
            have c12b1 : (t106 != 0) = false := bne_eq_false_iff_eq.mpr c12
            clear c12
            simp only [Option.some.injEq, Prod.mk.injEq] at H
            obtain ⟨rfl, rfl⟩ := H
            go_enter Try.func23, Try.ntmps23
            go_wp2_with (first | ((with_reducible refine gate_dst (N := 3) rfl ?_); refine box_event ?hg (N := 3) ?hd (cs := #[.int .i64 a0_0, .int .i64 a0_1, .int .i64 a0_2]) (t := 43) ?hr ?_; (case hd => rfl); (case hg => rfl); (case hr => first | (go_simp; done) | (go_simp; rfl)); intro gb101 hg w13 hbox hb; have n0_ := Aside0.mk (below_step (by repeat (first | (with_reducible first | exact HB.out | apply below_alloc | apply pw_below_drewN | apply below_drew1) | exact HB.out)) hb); have n1_ := Aside0.mk (hbox); have n2_ := Aside0.mk ((by rw [hg]; exact (below_size (by repeat (first | (with_reducible first | exact HB.out | apply below_alloc | apply pw_below_drewN | apply below_drew1) | exact HB.out))) : w.heap.size ≤ gb101)); have n3_ := Aside0.mk ((by rw [hg]; exact (below_size (by repeat (first | (with_reducible first | exact HB.out | apply below_alloc | apply pw_below_drewN | apply below_drew1) | exact HB.out))) : w.heap.size ≤ gb101)); clear HB; have HB := n0_; have BK101 := n1_; have GW101 := n2_; have GE101 := n3_; clear n0_ n1_ n2_ n3_; clear hb hbox hg; have hcz14_0 : w13.cell? ⟨gb101, 0, none⟩ = some (.int .i64 a0_0) := (blk_cell BK101.out 0).trans rfl; have hcz14_1 : w13.cell? ⟨gb101, 1, none⟩ = some (.int .i64 a0_1) := (blk_cell BK101.out 1).trans rfl; have hcz14_2 : w13.cell? ⟨gb101, 2, none⟩ = some (.int .i64 a0_2) := (blk_cell BK101.out 2).trans rfl; have hfz14_0 := blk_frozen BK101.out 0; have hfz14_1 := blk_frozen BK101.out 1; have hfz14_2 := blk_frozen BK101.out 2) | ((with_reducible refine gate_callee (f := 25) rfl ?_); refine goesL_ (some 14) rfl rfl Try.func25 (by kernel_rfl) rfl #[.agg #[.int .i64 a0_0, .int .i64 a0_1, .int .i64 a0_2]] rfl (by (try simp only [List.map_toArray, List.map_cons, List.map_nil]); first | done | rfl | (simp only [List.length_drop, List.length_take]; rfl)) ?_; (with_reducible refine (gooseneckref06_CheckPavement.calls a0_0 a0_1 a0_2 t102 _ A4.out).mono ?_); rintro e w15 ⟨rfl, hb⟩; refine ⟨_, rfl, ?_⟩; have n0_ := Aside0.mk (blk_below (g := gb101) (o := .cells #[.int .i64 a0_0, .int .i64 a0_1, .int .i64 a0_2] 43 (0, 0)) (by (with_reducible repeat (first | refine blk_drewN ?_ _ | refine blk_drew ?_ | refine blk_alloc ?_ _)); exact BK101.out) hb); have n1_ := Aside0.mk (below_step (by repeat (first | (with_reducible first | exact HB.out | apply below_alloc | apply pw_below_drewN | apply below_drew1 | refine below_set ?_ GE101.out) | exact HB.out)) hb); clear BK101; clear HB; have BK101 := n0_; have HB := n1_; clear n0_ n1_; (try clear hb); (try clear hb2); (try clear hk); (try clear hi)) | ((with_reducible refine gate_callee (f := 56) rfl ?_); refine goesL_ (some 17) rfl rfl Try.func56 (by kernel_rfl) rfl #[.slice A1 l1.length c1] rfl (by (try simp only [List.map_toArray, List.map_cons, List.map_nil]); first | done | rfl | (simp only [List.length_drop, List.length_take]; rfl)) ?_; (with_reducible refine (gooseneckref06_CheckTrain.calls _ _ l1 t103 _ ?side1 ?side2 A6.out).mono ?_); (case side1 => repeat (first | exact (Kd.C_below HR1.out HB.out) | (with_reducible refine Kd.C_alloc ?_ _) | (with_reducible refine Kd.C_drewN ?_ _) | (with_reducible refine Kd.C_drew ?_))); (case side2 => exact HC1.out); rintro e w16 ⟨rfl, hb⟩; refine ⟨_, rfl, ?_⟩; have n0_ := Aside0.mk (blk_below (g := gb101) (o := .cells #[.int .i64 a0_0, .int .i64 a0_1, .int .i64 a0_2] 43 (0, 0)) (by (with_reducible repeat (first | refine blk_drewN ?_ _ | refine blk_drew ?_ | refine blk_alloc ?_ _)); exact BK101.out) hb); have n1_ := Aside0.mk (below_step (by repeat (first | (with_reducible first | exact HB.out | apply below_alloc | apply pw_below_drewN | apply below_drew1 | refine below_set ?_ GE101.out) | exact HB.out)) hb); clear BK101; clear HB; have BK101 := n0_; have HB := n1_; clear n0_ n1_; (try clear hb); (try clear hb2); (try clear hk); (try clear hi)) | ((with_reducible refine gate_callee (f := 57) rfl ?_); refine goesL_ (some 22) rfl rfl Try.func57 (by kernel_rfl) rfl #[.int .i64 a2, .int .i64 0, .int .i64 1000000] rfl (by (try simp only [List.map_toArray, List.map_cons, List.map_nil]); first | done | rfl | (simp only [List.length_drop, List.length_take]; rfl)) ?_; (with_reducible refine (gooseneckref06_within.calls a2 0 1000000 true _ A8.out).mono ?_); rintro e w' ⟨rfl, ⟨nd, rfl⟩⟩; refine ⟨_, rfl, ?_⟩; have hcz17_0 : w16.cell? ⟨gb101, 0, none⟩ = some (.int .i64 a0_0) := (blk_cell BK101.out 0).trans rfl; have hcz17_1 : w16.cell? ⟨gb101, 1, none⟩ = some (.int .i64 a0_1) := (blk_cell BK101.out 1).trans rfl; have hcz17_2 : w16.cell? ⟨gb101, 2, none⟩ = some (.int .i64 a0_2) := (blk_cell BK101.out 2).trans rfl; have hfz17_0 := blk_frozen BK101.out 0; have hfz17_1 := blk_frozen BK101.out 1; have hfz17_2 := blk_frozen BK101.out 2) | ((with_reducible refine gate_callee (f := 59) rfl ?_); refine goesL_ (some 27) rfl rfl Try.func59 (by kernel_rfl) rfl #[.agg #[.int .i64 a0_0, .int .i64 a0_1, .int .i64 a0_2], .slice A1 l1.length c1] rfl (by (try simp only [List.map_toArray, List.map_cons, List.map_nil]); first | done | rfl | (simp only [List.length_drop, List.length_take]; rfl)) ?_; (with_reducible refine (gooseneckref06_wear.calls k a0_0 a0_1 a0_2 _ _ l1 t106 true _ ?side1 ?side2 A10.out).mono ?_); (case side1 => repeat (first | exact (Kd.C_below HR1.out (by repeat (first | (with_reducible first | exact HB.out | apply below_alloc | apply pw_below_drewN | apply below_drew1 | refine below_set ?_ GE101.out) | exact HB.out))) | (with_reducible refine Kd.C_alloc ?_ _) | (with_reducible refine Kd.C_drewN ?_ _) | (with_reducible refine Kd.C_drew ?_))); (case side2 => exact HC1.out); rintro e w18 ⟨rfl, hb⟩; refine ⟨_, rfl, ?_⟩; have n0_ := Aside0.mk (blk_below (g := gb101) (o := .cells #[.int .i64 a0_0, .int .i64 a0_1, .int .i64 a0_2] 43 (0, 0)) (by (with_reducible repeat (first | refine blk_drewN ?_ _ | refine blk_drew ?_ | refine blk_alloc ?_ _)); exact BK101.out) hb); have n1_ := Aside0.mk (below_step (by repeat (first | (with_reducible first | exact HB.out | apply below_alloc | apply pw_below_drewN | apply below_drew1 | refine below_set ?_ GE101.out) | exact HB.out)) hb); clear BK101; clear HB; have BK101 := n0_; have HB := n1_; clear n0_ n1_; (try clear hb); (try clear hb2); (try clear hk); (try clear hi)))
            go_ret2
            exact ⟨by first | rfl | (simp [errW_none, errW_some] <;> rfl) | (simp [*, errW_none, errW_some] <;> rfl), by repeat (first | (with_reducible first | exact HB.out | apply below_alloc | apply pw_below_drewN | apply below_drew1 | refine below_set ?_ GE101.out) | exact HB.out)⟩
          · rw [if_neg c12] at H
            have c12b0 : (t106 == 0) = false := beq_eq_false_iff_ne.mpr c12
            have c12b1 : (t106 != 0) = true := bne_iff_ne.mpr c12
            have H' := Aside0.mk H
            clear H
            go_enter Try.func23, Try.ntmps23
            go_wp2_with (first | ((with_reducible refine gate_dst (N := 3) rfl ?_); refine box_event ?hg (N := 3) ?hd (cs := #[.int .i64 a0_0, .int .i64 a0_1, .int .i64 a0_2]) (t := 43) ?hr ?_; (case hd => rfl); (case hg => rfl); (case hr => first | (go_simp; done) | (go_simp; rfl)); intro gb101 hg w19 hbox hb; have n0_ := Aside0.mk (below_step (by repeat (first | (with_reducible first | exact HB.out | apply below_alloc | apply pw_below_drewN | apply below_drew1) | exact HB.out)) hb); have n1_ := Aside0.mk (hbox); have n2_ := Aside0.mk ((by rw [hg]; exact (below_size (by repeat (first | (with_reducible first | exact HB.out | apply below_alloc | apply pw_below_drewN | apply below_drew1) | exact HB.out))) : w.heap.size ≤ gb101)); have n3_ := Aside0.mk ((by rw [hg]; exact (below_size (by repeat (first | (with_reducible first | exact HB.out | apply below_alloc | apply pw_below_drewN | apply below_drew1) | exact HB.out))) : w.heap.size ≤ gb101)); clear HB; have HB := n0_; have BK101 := n1_; have GW101 := n2_; have GE101 := n3_; clear n0_ n1_ n2_ n3_; clear hb hbox hg; have hcz20_0 : w19.cell? ⟨gb101, 0, none⟩ = some (.int .i64 a0_0) := (blk_cell BK101.out 0).trans rfl; have hcz20_1 : w19.cell? ⟨gb101, 1, none⟩ = some (.int .i64 a0_1) := (blk_cell BK101.out 1).trans rfl; have hcz20_2 : w19.cell? ⟨gb101, 2, none⟩ = some (.int .i64 a0_2) := (blk_cell BK101.out 2).trans rfl; have hfz20_0 := blk_frozen BK101.out 0; have hfz20_1 := blk_frozen BK101.out 1; have hfz20_2 := blk_frozen BK101.out 2) | ((with_reducible refine gate_callee (f := 25) rfl ?_); refine goesL_ (some 14) rfl rfl Try.func25 (by kernel_rfl) rfl #[.agg #[.int .i64 a0_0, .int .i64 a0_1, .int .i64 a0_2]] rfl (by (try simp only [List.map_toArray, List.map_cons, List.map_nil]); first | done | rfl | (simp only [List.length_drop, List.length_take]; rfl)) ?_; (with_reducible refine (gooseneckref06_CheckPavement.calls a0_0 a0_1 a0_2 t102 _ A4.out).mono ?_); rintro e w21 ⟨rfl, hb⟩; refine ⟨_, rfl, ?_⟩; have n0_ := Aside0.mk (blk_below (g := gb101) (o := .cells #[.int .i64 a0_0, .int .i64 a0_1, .int .i64 a0_2] 43 (0, 0)) (by (with_reducible repeat (first | refine blk_drewN ?_ _ | refine blk_drew ?_ | refine blk_alloc ?_ _)); exact BK101.out) hb); have n1_ := Aside0.mk (below_step (by repeat (first | (with_reducible first | exact HB.out | apply below_alloc | apply pw_below_drewN | apply below_drew1 | refine below_set ?_ GE101.out) | exact HB.out)) hb); clear BK101; clear HB; have BK101 := n0_; have HB := n1_; clear n0_ n1_; (try clear hb); (try clear hb2); (try clear hk); (try clear hi)) | ((with_reducible refine gate_callee (f := 56) rfl ?_); refine goesL_ (some 17) rfl rfl Try.func56 (by kernel_rfl) rfl #[.slice A1 l1.length c1] rfl (by (try simp only [List.map_toArray, List.map_cons, List.map_nil]); first | done | rfl | (simp only [List.length_drop, List.length_take]; rfl)) ?_; (with_reducible refine (gooseneckref06_CheckTrain.calls _ _ l1 t103 _ ?side1 ?side2 A6.out).mono ?_); (case side1 => repeat (first | exact (Kd.C_below HR1.out HB.out) | (with_reducible refine Kd.C_alloc ?_ _) | (with_reducible refine Kd.C_drewN ?_ _) | (with_reducible refine Kd.C_drew ?_))); (case side2 => exact HC1.out); rintro e w22 ⟨rfl, hb⟩; refine ⟨_, rfl, ?_⟩; have n0_ := Aside0.mk (blk_below (g := gb101) (o := .cells #[.int .i64 a0_0, .int .i64 a0_1, .int .i64 a0_2] 43 (0, 0)) (by (with_reducible repeat (first | refine blk_drewN ?_ _ | refine blk_drew ?_ | refine blk_alloc ?_ _)); exact BK101.out) hb); have n1_ := Aside0.mk (below_step (by repeat (first | (with_reducible first | exact HB.out | apply below_alloc | apply pw_below_drewN | apply below_drew1 | refine below_set ?_ GE101.out) | exact HB.out)) hb); clear BK101; clear HB; have BK101 := n0_; have HB := n1_; clear n0_ n1_; (try clear hb); (try clear hb2); (try clear hk); (try clear hi)) | ((with_reducible refine gate_callee (f := 57) rfl ?_); refine goesL_ (some 22) rfl rfl Try.func57 (by kernel_rfl) rfl #[.int .i64 a2, .int .i64 0, .int .i64 1000000] rfl (by (try simp only [List.map_toArray, List.map_cons, List.map_nil]); first | done | rfl | (simp only [List.length_drop, List.length_take]; rfl)) ?_; (with_reducible refine (gooseneckref06_within.calls a2 0 1000000 true _ A8.out).mono ?_); rintro e w' ⟨rfl, ⟨nd, rfl⟩⟩; refine ⟨_, rfl, ?_⟩; have hcz23_0 : w22.cell? ⟨gb101, 0, none⟩ = some (.int .i64 a0_0) := (blk_cell BK101.out 0).trans rfl; have hcz23_1 : w22.cell? ⟨gb101, 1, none⟩ = some (.int .i64 a0_1) := (blk_cell BK101.out 1).trans rfl; have hcz23_2 : w22.cell? ⟨gb101, 2, none⟩ = some (.int .i64 a0_2) := (blk_cell BK101.out 2).trans rfl; have hfz23_0 := blk_frozen BK101.out 0; have hfz23_1 := blk_frozen BK101.out 1; have hfz23_2 := blk_frozen BK101.out 2) | ((with_reducible refine gate_callee (f := 59) rfl ?_); refine goesL_ (some 27) rfl rfl Try.func59 (by kernel_rfl) rfl #[.agg #[.int .i64 a0_0, .int .i64 a0_1, .int .i64 a0_2], .slice A1 l1.length c1] rfl (by (try simp only [List.map_toArray, List.map_cons, List.map_nil]); first | done | rfl | (simp only [List.length_drop, List.length_take]; rfl)) ?_; (with_reducible refine (gooseneckref06_wear.calls k a0_0 a0_1 a0_2 _ _ l1 t106 true _ ?side1 ?side2 A10.out).mono ?_); (case side1 => repeat (first | exact (Kd.C_below HR1.out (by repeat (first | (with_reducible first | exact HB.out | apply below_alloc | apply pw_below_drewN | apply below_drew1 | refine below_set ?_ GE101.out) | exact HB.out))) | (with_reducible refine Kd.C_alloc ?_ _) | (with_reducible refine Kd.C_drewN ?_ _) | (with_reducible refine Kd.C_drew ?_))); (case side2 => exact HC1.out); rintro e w24 ⟨rfl, hb⟩; refine ⟨_, rfl, ?_⟩; have n0_ := Aside0.mk (blk_below (g := gb101) (o := .cells #[.int .i64 a0_0, .int .i64 a0_1, .int .i64 a0_2] 43 (0, 0)) (by (with_reducible repeat (first | refine blk_drewN ?_ _ | refine blk_drew ?_ | refine blk_alloc ?_ _)); exact BK101.out) hb); have n1_ := Aside0.mk (below_step (by repeat (first | (with_reducible first | exact HB.out | apply below_alloc | apply pw_below_drewN | apply below_drew1 | refine below_set ?_ GE101.out) | exact HB.out)) hb); clear BK101; clear HB; have BK101 := n0_; have HB := n1_; clear n0_ n1_; (try clear hb); (try clear hb2); (try clear hk); (try clear hi)))
            go_loopg [10, 11] k (fun kq v10 v11 w' => ∃ (x10_1 : Int) (x11_1 : Int), v10 = .int .i64 x10_1 ∧ v11 = .int .i64 x11_1 ∧ Aside0 (gooseneckref06_Left.l0 kq a2 t106 x10_1 x11_1 a0_0 a0_1 a0_2 = some (r1, r2)) ∧ Aside0 (kq ≤ k) ∧ Aside0 (w'.heap[gb101]? = some (.cells #[.int .i64 a0_0, .int .i64 a0_1, .int .i64 a0_2] 43 (0, 0))) ∧ Aside0 (Below w.heap.size w w'))
            case atStart => exact ⟨(0), (1048576), (by first | rfl | (simp; done) | (simp [*]; done)), (by first | rfl | (simp; done) | (simp [*]; done)), H', ⟨Nat.le_refl _⟩, ⟨by (with_reducible repeat (first | refine blk_drewN ?_ _ | refine blk_drew ?_ | refine blk_alloc ?_ _)); exact BK101.out⟩, ⟨by repeat (first | (with_reducible first | exact HB.out | apply below_alloc | apply pw_below_drewN | apply below_drew1 | refine below_set ?_ GE101.out) | exact HB.out)⟩⟩
            case round =>
              clear H'
              try clear c1
              try clear c2
              try clear p2
              try clear c5
              try clear c5b0
              try clear c5b1
              try clear c7
              try clear c7b0
              try clear c7b1
              try clear c9
              try clear c11
              try clear c12
              try clear c12b0
              try clear c12b1
              try clear c23
              try clear hcz14_0
              try clear hcz14_1
              try clear hcz14_2
              try clear hcz17_0
              try clear hcz17_1
              try clear hcz17_2
              try clear hcz20_0
              try clear hcz20_1
              try clear hcz20_2
              try clear hcz23_0
              try clear hcz23_1
              try clear hcz23_2
              try clear hfz14_0
              try clear hfz14_1
              try clear hfz14_2
              try clear hfz17_0
              try clear hfz17_1
              try clear hfz17_2
              try clear hfz20_0
              try clear hfz20_1
              try clear hfz20_2
              try clear hfz23_0
              try clear hfz23_1
              try clear hfz23_2
              obtain ⟨x10_1, x11_1, rfl, rfl, HA, HK1, BK101, HB⟩ := hrel
              cases gk with
              | zero => exact absurd HA.out (by simp [gooseneckref06_Left.l0])
              | succ k1 =>
                have H := HA.out
                clear HA
                simp only [gooseneckref06_Left.l0] at H
                by_cases c25 : x10_1 < x11_1
                · rw [if_pos c25] at H
                  have c25b0 : decide (x10_1 < x11_1) = true := decide_eq_true c25
                  clear c25
                  replace H := Option.bind_eq_some_iff.mp H
                  obtain ⟨t108, A260, H⟩ := H
                  replace H : (if (wrap64 (a2 + t108)) > 1000000 then (gooseneckref06_Left.l0 k1 a2 t106 x10_1 (wrap64 ((wrap64 (Int.tdiv (wrap64 ((wrap64 (x10_1 + x11_1)) + 1)) 2)) - 1)) a0_0 a0_1 a0_2) else (gooseneckref06_Left.l0 k1 a2 t106 (wrap64 (Int.tdiv (wrap64 ((wrap64 (x10_1 + x11_1)) + 1)) 2)) x11_1 a0_0 a0_1 a0_2)) = some (r1, r2) := H
                  have A26 := Aside0.mk A260
                  clear A260
                  by_cases c27 : (wrap64 (a2 + t108)) > 1000000
                  · rw [if_pos c27] at H
                    have c27b0 : decide (1000000 < (wrap64 (a2 + t108))) = true := decide_eq_true c27
                    clear c27
                    have H' := Aside0.mk H
                    clear H
                    have hcz28_0 : wr.cell? ⟨gb101, 0, none⟩ = some (.int .i64 a0_0) := (blk_cell BK101.out 0).trans rfl
                    have hcz28_1 : wr.cell? ⟨gb101, 1, none⟩ = some (.int .i64 a0_1) := (blk_cell BK101.out 1).trans rfl
                    have hcz28_2 : wr.cell? ⟨gb101, 2, none⟩ = some (.int .i64 a0_2) := (blk_cell BK101.out 2).trans rfl
                    have hfz28_0 := blk_frozen BK101.out 0
                    have hfz28_1 := blk_frozen BK101.out 1
                    have hfz28_2 := blk_frozen BK101.out 2
                    go_wp2_with (first | ((with_reducible refine gate_callee (f := 60) rfl ?_); refine goesL_ (some 46) rfl rfl Try.func60 (by kernel_rfl) rfl #[.agg #[.int .i64 a0_0, .int .i64 a0_1, .int .i64 a0_2], .int .i64 t106, .int .i64 (wrap64 (Int.tdiv (wrap64 ((wrap64 (x10_1 + x11_1)) + 1)) 2))] rfl (by (try simp only [List.map_toArray, List.map_cons, List.map_nil]); first | done | rfl | (simp only [List.length_drop, List.length_take]; rfl)) ?_; (with_reducible refine (gooseneckref06_damage.calls k1 a0_0 a0_1 a0_2 t106 (wrap64 (Int.tdiv (wrap64 ((wrap64 (x10_1 + x11_1)) + 1)) 2)) t108 _ A26.out).mono ?_); rintro e w29 ⟨rfl, hb⟩; refine ⟨_, rfl, ?_⟩; have n0_ := Aside0.mk (blk_below (g := gb101) (o := .cells #[.int .i64 a0_0, .int .i64 a0_1, .int .i64 a0_2] 43 (0, 0)) (by (with_reducible repeat (first | refine blk_drewN ?_ _ | refine blk_drew ?_ | refine blk_alloc ?_ _)); exact BK101.out) hb); have n1_ := Aside0.mk (below_step (by repeat (first | (with_reducible first | exact HB.out | apply below_alloc | apply pw_below_drewN | apply below_drew1 | refine below_set ?_ GE101.out) | exact HB.out)) hb); clear BK101; clear HB; have BK101 := n0_; have HB := n1_; clear n0_ n1_; (try clear hb); (try clear hb2); (try clear hk); (try clear hi)))
                    go_roundg k1
                    case measure => have := HK1.out; omega
                    case rel => exact ⟨(x10_1), (wrap64 ((wrap64 (Int.tdiv (wrap64 ((wrap64 (x10_1 + x11_1)) + 1)) 2)) - 1)), (by first | rfl | (simp; done) | (simp [*]; done)), (by first | rfl | (simp; done) | (simp [*]; done)), H', ⟨by have := HK1.out; omega⟩, ⟨by (with_reducible repeat (first | refine blk_drewN ?_ _ | refine blk_drew ?_ | refine blk_alloc ?_ _)); exact BK101.out⟩, ⟨by repeat (first | (with_reducible first | exact HB.out | apply below_alloc | apply pw_below_drewN | apply below_drew1 | refine below_set ?_ GE101.out) | exact HB.out)⟩⟩
                  · rw [if_neg c27] at H
                    have c27b0 : decide (1000000 < (wrap64 (a2 + t108))) = false := decide_eq_false c27
                    clear c27
                    have H' := Aside0.mk H
                    clear H
                    have hcz30_0 : wr.cell? ⟨gb101, 0, none⟩ = some (.int .i64 a0_0) := (blk_cell BK101.out 0).trans rfl
                    have hcz30_1 : wr.cell? ⟨gb101, 1, none⟩ = some (.int .i64 a0_1) := (blk_cell BK101.out 1).trans rfl
                    have hcz30_2 : wr.cell? ⟨gb101, 2, none⟩ = some (.int .i64 a0_2) := (blk_cell BK101.out 2).trans rfl
                    have hfz30_0 := blk_frozen BK101.out 0
                    have hfz30_1 := blk_frozen BK101.out 1
                    have hfz30_2 := blk_frozen BK101.out 2
                    go_wp2_with (first | ((with_reducible refine gate_callee (f := 60) rfl ?_); refine goesL_ (some 46) rfl rfl Try.func60 (by kernel_rfl) rfl #[.agg #[.int .i64 a0_0, .int .i64 a0_1, .int .i64 a0_2], .int .i64 t106, .int .i64 (wrap64 (Int.tdiv (wrap64 ((wrap64 (x10_1 + x11_1)) + 1)) 2))] rfl (by (try simp only [List.map_toArray, List.map_cons, List.map_nil]); first | done | rfl | (simp only [List.length_drop, List.length_take]; rfl)) ?_; (with_reducible refine (gooseneckref06_damage.calls k1 a0_0 a0_1 a0_2 t106 (wrap64 (Int.tdiv (wrap64 ((wrap64 (x10_1 + x11_1)) + 1)) 2)) t108 _ A26.out).mono ?_); rintro e w31 ⟨rfl, hb⟩; refine ⟨_, rfl, ?_⟩; have n0_ := Aside0.mk (blk_below (g := gb101) (o := .cells #[.int .i64 a0_0, .int .i64 a0_1, .int .i64 a0_2] 43 (0, 0)) (by (with_reducible repeat (first | refine blk_drewN ?_ _ | refine blk_drew ?_ | refine blk_alloc ?_ _)); exact BK101.out) hb); have n1_ := Aside0.mk (below_step (by repeat (first | (with_reducible first | exact HB.out | apply below_alloc | apply pw_below_drewN | apply below_drew1 | refine below_set ?_ GE101.out) | exact HB.out)) hb); clear BK101; clear HB; have BK101 := n0_; have HB := n1_; clear n0_ n1_; (try clear hb); (try clear hb2); (try clear hk); (try clear hi)))
                    go_roundg k1
                    case measure => have := HK1.out; omega
                    case rel => exact ⟨(wrap64 (Int.tdiv (wrap64 ((wrap64 (x10_1 + x11_1)) + 1)) 2)), (x11_1), (by first | rfl | (simp; done) | (simp [*]; done)), (by first | rfl | (simp; done) | (simp [*]; done)), H', ⟨by have := HK1.out; omega⟩, ⟨by (with_reducible repeat (first | refine blk_drewN ?_ _ | refine blk_drew ?_ | refine blk_alloc ?_ _)); exact BK101.out⟩, ⟨by repeat (first | (with_reducible first | exact HB.out | apply below_alloc | apply pw_below_drewN | apply below_drew1 | refine below_set ?_ GE101.out) | exact HB.out)⟩⟩
                · rw [if_neg c25] at H
                  have c25b0 : decide (x10_1 < x11_1) = false := decide_eq_false c25
                  clear c25
                  simp only [Option.some.injEq, Prod.mk.injEq] at H
                  obtain ⟨rfl, rfl⟩ := H
                  go_wp2
                  go_ret2
                  exact ⟨by first | rfl | (simp [errW_none, errW_some] <;> rfl) | (simp [*, errW_none, errW_some] <;> rfl), by repeat (first | (with_reducible first | exact HB.out | apply below_alloc | apply pw_below_drewN | apply below_drew1 | refine below_set ?_ GE101.out) | exact HB.out)⟩
        · replace c11 := Bool.eq_false_iff.mpr c11
          subst c11
          have H1 : (some (0, 4)) = some (r1, r2) := by rw [if_neg (show ¬ (false = true) by decide)] at H; exact H
          clear H
          have H := H1
          clear H1
          simp only [Option.some.injEq, Prod.mk.injEq] at H
          obtain ⟨rfl, rfl⟩ := H
          go_enter Try.func23, Try.ntmps23
          go_wp2_with (first | ((with_reducible refine gate_dst (N := 3) rfl ?_); refine box_event ?hg (N := 3) ?hd (cs := #[.int .i64 a0_0, .int .i64 a0_1, .int .i64 a0_2]) (t := 43) ?hr ?_; (case hd => rfl); (case hg => rfl); (case hr => first | (go_simp; done) | (go_simp; rfl)); intro gb101 hg w32 hbox hb; have n0_ := Aside0.mk (below_step (by repeat (first | (with_reducible first | exact HB.out | apply below_alloc | apply pw_below_drewN | apply below_drew1) | exact HB.out)) hb); have n1_ := Aside0.mk (hbox); have n2_ := Aside0.mk ((by rw [hg]; exact (below_size (by repeat (first | (with_reducible first | exact HB.out | apply below_alloc | apply pw_below_drewN | apply below_drew1) | exact HB.out))) : w.heap.size ≤ gb101)); have n3_ := Aside0.mk ((by rw [hg]; exact (below_size (by repeat (first | (with_reducible first | exact HB.out | apply below_alloc | apply pw_below_drewN | apply below_drew1) | exact HB.out))) : w.heap.size ≤ gb101)); clear HB; have HB := n0_; have BK101 := n1_; have GW101 := n2_; have GE101 := n3_; clear n0_ n1_ n2_ n3_; clear hb hbox hg; have hcz33_0 : w32.cell? ⟨gb101, 0, none⟩ = some (.int .i64 a0_0) := (blk_cell BK101.out 0).trans rfl; have hcz33_1 : w32.cell? ⟨gb101, 1, none⟩ = some (.int .i64 a0_1) := (blk_cell BK101.out 1).trans rfl; have hcz33_2 : w32.cell? ⟨gb101, 2, none⟩ = some (.int .i64 a0_2) := (blk_cell BK101.out 2).trans rfl; have hfz33_0 := blk_frozen BK101.out 0; have hfz33_1 := blk_frozen BK101.out 1; have hfz33_2 := blk_frozen BK101.out 2) | ((with_reducible refine gate_callee (f := 25) rfl ?_); refine goesL_ (some 14) rfl rfl Try.func25 (by kernel_rfl) rfl #[.agg #[.int .i64 a0_0, .int .i64 a0_1, .int .i64 a0_2]] rfl (by (try simp only [List.map_toArray, List.map_cons, List.map_nil]); first | done | rfl | (simp only [List.length_drop, List.length_take]; rfl)) ?_; (with_reducible refine (gooseneckref06_CheckPavement.calls a0_0 a0_1 a0_2 t102 _ A4.out).mono ?_); rintro e w34 ⟨rfl, hb⟩; refine ⟨_, rfl, ?_⟩; have n0_ := Aside0.mk (blk_below (g := gb101) (o := .cells #[.int .i64 a0_0, .int .i64 a0_1, .int .i64 a0_2] 43 (0, 0)) (by (with_reducible repeat (first | refine blk_drewN ?_ _ | refine blk_drew ?_ | refine blk_alloc ?_ _)); exact BK101.out) hb); have n1_ := Aside0.mk (below_step (by repeat (first | (with_reducible first | exact HB.out | apply below_alloc | apply pw_below_drewN | apply below_drew1 | refine below_set ?_ GE101.out) | exact HB.out)) hb); clear BK101; clear HB; have BK101 := n0_; have HB := n1_; clear n0_ n1_; (try clear hb); (try clear hb2); (try clear hk); (try clear hi)) | ((with_reducible refine gate_callee (f := 56) rfl ?_); refine goesL_ (some 17) rfl rfl Try.func56 (by kernel_rfl) rfl #[.slice A1 l1.length c1] rfl (by (try simp only [List.map_toArray, List.map_cons, List.map_nil]); first | done | rfl | (simp only [List.length_drop, List.length_take]; rfl)) ?_; (with_reducible refine (gooseneckref06_CheckTrain.calls _ _ l1 t103 _ ?side1 ?side2 A6.out).mono ?_); (case side1 => repeat (first | exact (Kd.C_below HR1.out HB.out) | (with_reducible refine Kd.C_alloc ?_ _) | (with_reducible refine Kd.C_drewN ?_ _) | (with_reducible refine Kd.C_drew ?_))); (case side2 => exact HC1.out); rintro e w35 ⟨rfl, hb⟩; refine ⟨_, rfl, ?_⟩; have n0_ := Aside0.mk (blk_below (g := gb101) (o := .cells #[.int .i64 a0_0, .int .i64 a0_1, .int .i64 a0_2] 43 (0, 0)) (by (with_reducible repeat (first | refine blk_drewN ?_ _ | refine blk_drew ?_ | refine blk_alloc ?_ _)); exact BK101.out) hb); have n1_ := Aside0.mk (below_step (by repeat (first | (with_reducible first | exact HB.out | apply below_alloc | apply pw_below_drewN | apply below_drew1 | refine below_set ?_ GE101.out) | exact HB.out)) hb); clear BK101; clear HB; have BK101 := n0_; have HB := n1_; clear n0_ n1_; (try clear hb); (try clear hb2); (try clear hk); (try clear hi)) | ((with_reducible refine gate_callee (f := 57) rfl ?_); refine goesL_ (some 22) rfl rfl Try.func57 (by kernel_rfl) rfl #[.int .i64 a2, .int .i64 0, .int .i64 1000000] rfl (by (try simp only [List.map_toArray, List.map_cons, List.map_nil]); first | done | rfl | (simp only [List.length_drop, List.length_take]; rfl)) ?_; (with_reducible refine (gooseneckref06_within.calls a2 0 1000000 true _ A8.out).mono ?_); rintro e w' ⟨rfl, ⟨nd, rfl⟩⟩; refine ⟨_, rfl, ?_⟩; have hcz36_0 : w35.cell? ⟨gb101, 0, none⟩ = some (.int .i64 a0_0) := (blk_cell BK101.out 0).trans rfl; have hcz36_1 : w35.cell? ⟨gb101, 1, none⟩ = some (.int .i64 a0_1) := (blk_cell BK101.out 1).trans rfl; have hcz36_2 : w35.cell? ⟨gb101, 2, none⟩ = some (.int .i64 a0_2) := (blk_cell BK101.out 2).trans rfl; have hfz36_0 := blk_frozen BK101.out 0; have hfz36_1 := blk_frozen BK101.out 1; have hfz36_2 := blk_frozen BK101.out 2) | ((with_reducible refine gate_callee (f := 59) rfl ?_); refine goesL_ (some 27) rfl rfl Try.func59 (by kernel_rfl) rfl #[.agg #[.int .i64 a0_0, .int .i64 a0_1, .int .i64 a0_2], .slice A1 l1.length c1] rfl (by (try simp only [List.map_toArray, List.map_cons, List.map_nil]); first | done | rfl | (simp only [List.length_drop, List.length_take]; rfl)) ?_; (with_reducible refine (gooseneckref06_wear.calls k a0_0 a0_1 a0_2 _ _ l1 t106 false _ ?side1 ?side2 A10.out).mono ?_); (case side1 => repeat (first | exact (Kd.C_below HR1.out (by repeat (first | (with_reducible first | exact HB.out | apply below_alloc | apply pw_below_drewN | apply below_drew1 | refine below_set ?_ GE101.out) | exact HB.out))) | (with_reducible refine Kd.C_alloc ?_ _) | (with_reducible refine Kd.C_drewN ?_ _) | (with_reducible refine Kd.C_drew ?_))); (case side2 => exact HC1.out); rintro e w37 ⟨rfl, hb⟩; refine ⟨_, rfl, ?_⟩; have n0_ := Aside0.mk (blk_below (g := gb101) (o := .cells #[.int .i64 a0_0, .int .i64 a0_1, .int .i64 a0_2] 43 (0, 0)) (by (with_reducible repeat (first | refine blk_drewN ?_ _ | refine blk_drew ?_ | refine blk_alloc ?_ _)); exact BK101.out) hb); have n1_ := Aside0.mk (below_step (by repeat (first | (with_reducible first | exact HB.out | apply below_alloc | apply pw_below_drewN | apply below_drew1 | refine below_set ?_ GE101.out) | exact HB.out)) hb); clear BK101; clear HB; have BK101 := n0_; have HB := n1_; clear n0_ n1_; (try clear hb); (try clear hb2); (try clear hk); (try clear hi)))
          go_ret2
          exact ⟨by first | rfl | (simp [errW_none, errW_some] <;> rfl) | (simp [*, errW_none, errW_some] <;> rfl), by repeat (first | (with_reducible first | exact HB.out | apply below_alloc | apply pw_below_drewN | apply below_drew1 | refine below_set ?_ GE101.out) | exact HB.out)⟩
      · replace c9 := Bool.eq_false_iff.mpr c9
        subst c9
        have H1 : (some (0, 3)) = some (r1, r2) := by rw [if_neg (show ¬ (false = true) by decide)] at H; exact H
        clear H
        have H := H1
        clear H1
        simp only [Option.some.injEq, Prod.mk.injEq] at H
        obtain ⟨rfl, rfl⟩ := H
        go_enter Try.func23, Try.ntmps23
        go_wp2_with (first | ((with_reducible refine gate_dst (N := 3) rfl ?_); refine box_event ?hg (N := 3) ?hd (cs := #[.int .i64 a0_0, .int .i64 a0_1, .int .i64 a0_2]) (t := 43) ?hr ?_; (case hd => rfl); (case hg => rfl); (case hr => first | (go_simp; done) | (go_simp; rfl)); intro gb101 hg w38 hbox hb; have n0_ := Aside0.mk (below_step (by repeat (first | (with_reducible first | exact HB.out | apply below_alloc | apply pw_below_drewN | apply below_drew1) | exact HB.out)) hb); have n1_ := Aside0.mk (hbox); have n2_ := Aside0.mk ((by rw [hg]; exact (below_size (by repeat (first | (with_reducible first | exact HB.out | apply below_alloc | apply pw_below_drewN | apply below_drew1) | exact HB.out))) : w.heap.size ≤ gb101)); have n3_ := Aside0.mk ((by rw [hg]; exact (below_size (by repeat (first | (with_reducible first | exact HB.out | apply below_alloc | apply pw_below_drewN | apply below_drew1) | exact HB.out))) : w.heap.size ≤ gb101)); clear HB; have HB := n0_; have BK101 := n1_; have GW101 := n2_; have GE101 := n3_; clear n0_ n1_ n2_ n3_; clear hb hbox hg; have hcz39_0 : w38.cell? ⟨gb101, 0, none⟩ = some (.int .i64 a0_0) := (blk_cell BK101.out 0).trans rfl; have hcz39_1 : w38.cell? ⟨gb101, 1, none⟩ = some (.int .i64 a0_1) := (blk_cell BK101.out 1).trans rfl; have hcz39_2 : w38.cell? ⟨gb101, 2, none⟩ = some (.int .i64 a0_2) := (blk_cell BK101.out 2).trans rfl; have hfz39_0 := blk_frozen BK101.out 0; have hfz39_1 := blk_frozen BK101.out 1; have hfz39_2 := blk_frozen BK101.out 2) | ((with_reducible refine gate_callee (f := 25) rfl ?_); refine goesL_ (some 14) rfl rfl Try.func25 (by kernel_rfl) rfl #[.agg #[.int .i64 a0_0, .int .i64 a0_1, .int .i64 a0_2]] rfl (by (try simp only [List.map_toArray, List.map_cons, List.map_nil]); first | done | rfl | (simp only [List.length_drop, List.length_take]; rfl)) ?_; (with_reducible refine (gooseneckref06_CheckPavement.calls a0_0 a0_1 a0_2 t102 _ A4.out).mono ?_); rintro e w40 ⟨rfl, hb⟩; refine ⟨_, rfl, ?_⟩; have n0_ := Aside0.mk (blk_below (g := gb101) (o := .cells #[.int .i64 a0_0, .int .i64 a0_1, .int .i64 a0_2] 43 (0, 0)) (by (with_reducible repeat (first | refine blk_drewN ?_ _ | refine blk_drew ?_ | refine blk_alloc ?_ _)); exact BK101.out) hb); have n1_ := Aside0.mk (below_step (by repeat (first | (with_reducible first | exact HB.out | apply below_alloc | apply pw_below_drewN | apply below_drew1 | refine below_set ?_ GE101.out) | exact HB.out)) hb); clear BK101; clear HB; have BK101 := n0_; have HB := n1_; clear n0_ n1_; (try clear hb); (try clear hb2); (try clear hk); (try clear hi)) | ((with_reducible refine gate_callee (f := 56) rfl ?_); refine goesL_ (some 17) rfl rfl Try.func56 (by kernel_rfl) rfl #[.slice A1 l1.length c1] rfl (by (try simp only [List.map_toArray, List.map_cons, List.map_nil]); first | done | rfl | (simp only [List.length_drop, List.length_take]; rfl)) ?_; (with_reducible refine (gooseneckref06_CheckTrain.calls _ _ l1 t103 _ ?side1 ?side2 A6.out).mono ?_); (case side1 => repeat (first | exact (Kd.C_below HR1.out HB.out) | (with_reducible refine Kd.C_alloc ?_ _) | (with_reducible refine Kd.C_drewN ?_ _) | (with_reducible refine Kd.C_drew ?_))); (case side2 => exact HC1.out); rintro e w41 ⟨rfl, hb⟩; refine ⟨_, rfl, ?_⟩; have n0_ := Aside0.mk (blk_below (g := gb101) (o := .cells #[.int .i64 a0_0, .int .i64 a0_1, .int .i64 a0_2] 43 (0, 0)) (by (with_reducible repeat (first | refine blk_drewN ?_ _ | refine blk_drew ?_ | refine blk_alloc ?_ _)); exact BK101.out) hb); have n1_ := Aside0.mk (below_step (by repeat (first | (with_reducible first | exact HB.out | apply below_alloc | apply pw_below_drewN | apply below_drew1 | refine below_set ?_ GE101.out) | exact HB.out)) hb); clear BK101; clear HB; have BK101 := n0_; have HB := n1_; clear n0_ n1_; (try clear hb); (try clear hb2); (try clear hk); (try clear hi)) | ((with_reducible refine gate_callee (f := 57) rfl ?_); refine goesL_ (some 22) rfl rfl Try.func57 (by kernel_rfl) rfl #[.int .i64 a2, .int .i64 0, .int .i64 1000000] rfl (by (try simp only [List.map_toArray, List.map_cons, List.map_nil]); first | done | rfl | (simp only [List.length_drop, List.length_take]; rfl)) ?_; (with_reducible refine (gooseneckref06_within.calls a2 0 1000000 false _ A8.out).mono ?_); rintro e w' ⟨rfl, ⟨nd, rfl⟩⟩; refine ⟨_, rfl, ?_⟩))
        go_ret2
        exact ⟨by first | rfl | (simp [errW_none, errW_some] <;> rfl) | (simp [*, errW_none, errW_some] <;> rfl), by repeat (first | (with_reducible first | exact HB.out | apply below_alloc | apply pw_below_drewN | apply below_drew1 | refine below_set ?_ GE101.out) | exact HB.out)⟩
    · rw [if_neg c7] at H
      have c7b0 : (t103 == 0) = false := beq_eq_false_iff_ne.mpr c7
      have c7b1 : (t103 != 0) = true := bne_iff_ne.mpr c7
      replace H := Option.bind_eq_some_iff.mp H
      obtain ⟨t104, A420, H⟩ := H
      replace H : (some (0, t104)) = some (r1, r2) := H
      have A42 := Aside0.mk A420
      clear A420
      simp only [Option.some.injEq, Prod.mk.injEq] at H
      obtain ⟨rfl, rfl⟩ := H
      go_enter Try.func23, Try.ntmps23
      go_wp2_with (first | ((with_reducible refine gate_dst (N := 3) rfl ?_); refine box_event ?hg (N := 3) ?hd (cs := #[.int .i64 a0_0, .int .i64 a0_1, .int .i64 a0_2]) (t := 43) ?hr ?_; (case hd => rfl); (case hg => rfl); (case hr => first | (go_simp; done) | (go_simp; rfl)); intro gb101 hg w43 hbox hb; have n0_ := Aside0.mk (below_step (by repeat (first | (with_reducible first | exact HB.out | apply below_alloc | apply pw_below_drewN | apply below_drew1) | exact HB.out)) hb); have n1_ := Aside0.mk (hbox); have n2_ := Aside0.mk ((by rw [hg]; exact (below_size (by repeat (first | (with_reducible first | exact HB.out | apply below_alloc | apply pw_below_drewN | apply below_drew1) | exact HB.out))) : w.heap.size ≤ gb101)); have n3_ := Aside0.mk ((by rw [hg]; exact (below_size (by repeat (first | (with_reducible first | exact HB.out | apply below_alloc | apply pw_below_drewN | apply below_drew1) | exact HB.out))) : w.heap.size ≤ gb101)); clear HB; have HB := n0_; have BK101 := n1_; have GW101 := n2_; have GE101 := n3_; clear n0_ n1_ n2_ n3_; clear hb hbox hg; have hcz44_0 : w43.cell? ⟨gb101, 0, none⟩ = some (.int .i64 a0_0) := (blk_cell BK101.out 0).trans rfl; have hcz44_1 : w43.cell? ⟨gb101, 1, none⟩ = some (.int .i64 a0_1) := (blk_cell BK101.out 1).trans rfl; have hcz44_2 : w43.cell? ⟨gb101, 2, none⟩ = some (.int .i64 a0_2) := (blk_cell BK101.out 2).trans rfl; have hfz44_0 := blk_frozen BK101.out 0; have hfz44_1 := blk_frozen BK101.out 1; have hfz44_2 := blk_frozen BK101.out 2) | ((with_reducible refine gate_callee (f := 25) rfl ?_); refine goesL_ (some 14) rfl rfl Try.func25 (by kernel_rfl) rfl #[.agg #[.int .i64 a0_0, .int .i64 a0_1, .int .i64 a0_2]] rfl (by (try simp only [List.map_toArray, List.map_cons, List.map_nil]); first | done | rfl | (simp only [List.length_drop, List.length_take]; rfl)) ?_; (with_reducible refine (gooseneckref06_CheckPavement.calls a0_0 a0_1 a0_2 t102 _ A4.out).mono ?_); rintro e w45 ⟨rfl, hb⟩; refine ⟨_, rfl, ?_⟩; have n0_ := Aside0.mk (blk_below (g := gb101) (o := .cells #[.int .i64 a0_0, .int .i64 a0_1, .int .i64 a0_2] 43 (0, 0)) (by (with_reducible repeat (first | refine blk_drewN ?_ _ | refine blk_drew ?_ | refine blk_alloc ?_ _)); exact BK101.out) hb); have n1_ := Aside0.mk (below_step (by repeat (first | (with_reducible first | exact HB.out | apply below_alloc | apply pw_below_drewN | apply below_drew1 | refine below_set ?_ GE101.out) | exact HB.out)) hb); clear BK101; clear HB; have BK101 := n0_; have HB := n1_; clear n0_ n1_; (try clear hb); (try clear hb2); (try clear hk); (try clear hi)) | ((with_reducible refine gate_callee (f := 56) rfl ?_); refine goesL_ (some 17) rfl rfl Try.func56 (by kernel_rfl) rfl #[.slice A1 l1.length c1] rfl (by (try simp only [List.map_toArray, List.map_cons, List.map_nil]); first | done | rfl | (simp only [List.length_drop, List.length_take]; rfl)) ?_; (with_reducible refine (gooseneckref06_CheckTrain.calls _ _ l1 t103 _ ?side1 ?side2 A6.out).mono ?_); (case side1 => repeat (first | exact (Kd.C_below HR1.out HB.out) | (with_reducible refine Kd.C_alloc ?_ _) | (with_reducible refine Kd.C_drewN ?_ _) | (with_reducible refine Kd.C_drew ?_))); (case side2 => exact HC1.out); rintro e w46 ⟨rfl, hb⟩; refine ⟨_, rfl, ?_⟩; have n0_ := Aside0.mk (blk_below (g := gb101) (o := .cells #[.int .i64 a0_0, .int .i64 a0_1, .int .i64 a0_2] 43 (0, 0)) (by (with_reducible repeat (first | refine blk_drewN ?_ _ | refine blk_drew ?_ | refine blk_alloc ?_ _)); exact BK101.out) hb); have n1_ := Aside0.mk (below_step (by repeat (first | (with_reducible first | exact HB.out | apply below_alloc | apply pw_below_drewN | apply below_drew1 | refine below_set ?_ GE101.out) | exact HB.out)) hb); clear BK101; clear HB; have BK101 := n0_; have HB := n1_; clear n0_ n1_; (try clear hb); (try clear hb2); (try clear hk); (try clear hi)) | ((with_reducible refine gate_callee (f := 56) rfl ?_); refine goesL_ (some 20) rfl rfl Try.func56 (by kernel_rfl) rfl #[.slice A1 l1.length c1] rfl (by (try simp only [List.map_toArray, List.map_cons, List.map_nil]); first | done | rfl | (simp only [List.length_drop, List.length_take]; rfl)) ?_; (with_reducible refine (gooseneckref06_CheckTrain.calls _ _ l1 t104 _ ?side1 ?side2 A42.out).mono ?_); (case side1 => repeat (first | exact (Kd.C_below HR1.out HB.out) | (with_reducible refine Kd.C_alloc ?_ _) | (with_reducible refine Kd.C_drewN ?_ _) | (with_reducible refine Kd.C_drew ?_))); (case side2 => exact HC1.out); rintro e w47 ⟨rfl, hb⟩; refine ⟨_, rfl, ?_⟩; have n0_ := Aside0.mk (blk_below (g := gb101) (o := .cells #[.int .i64 a0_0, .int .i64 a0_1, .int .i64 a0_2] 43 (0, 0)) (by (with_reducible repeat (first | refine blk_drewN ?_ _ | refine blk_drew ?_ | refine blk_alloc ?_ _)); exact BK101.out) hb); have n1_ := Aside0.mk (below_step (by repeat (first | (with_reducible first | exact HB.out | apply below_alloc | apply pw_below_drewN | apply below_drew1 | refine below_set ?_ GE101.out) | exact HB.out)) hb); clear BK101; clear HB; have BK101 := n0_; have HB := n1_; clear n0_ n1_; (try clear hb); (try clear hb2); (try clear hk); (try clear hi)))
      go_ret2
      exact ⟨by first | rfl | (simp [errW_none, errW_some] <;> rfl) | (simp [*, errW_none, errW_some] <;> rfl), by repeat (first | (with_reducible first | exact HB.out | apply below_alloc | apply pw_below_drewN | apply below_drew1 | refine below_set ?_ GE101.out) | exact HB.out)⟩
  · rw [if_neg c5] at H
    have c5b0 : (t102 == 0) = false := beq_eq_false_iff_ne.mpr c5
    have c5b1 : (t102 != 0) = true := bne_iff_ne.mpr c5
    simp only [Option.some.injEq, Prod.mk.injEq] at H
    obtain ⟨rfl, rfl⟩ := H
    go_enter Try.func23, Try.ntmps23
    go_wp2_with (first | ((with_reducible refine gate_dst (N := 3) rfl ?_); refine box_event ?hg (N := 3) ?hd (cs := #[.int .i64 a0_0, .int .i64 a0_1, .int .i64 a0_2]) (t := 43) ?hr ?_; (case hd => rfl); (case hg => rfl); (case hr => first | (go_simp; done) | (go_simp; rfl)); intro gb101 hg w48 hbox hb; have n0_ := Aside0.mk (below_step (by repeat (first | (with_reducible first | exact HB.out | apply below_alloc | apply pw_below_drewN | apply below_drew1) | exact HB.out)) hb); have n1_ := Aside0.mk (hbox); have n2_ := Aside0.mk ((by rw [hg]; exact (below_size (by repeat (first | (with_reducible first | exact HB.out | apply below_alloc | apply pw_below_drewN | apply below_drew1) | exact HB.out))) : w.heap.size ≤ gb101)); have n3_ := Aside0.mk ((by rw [hg]; exact (below_size (by repeat (first | (with_reducible first | exact HB.out | apply below_alloc | apply pw_below_drewN | apply below_drew1) | exact HB.out))) : w.heap.size ≤ gb101)); clear HB; have HB := n0_; have BK101 := n1_; have GW101 := n2_; have GE101 := n3_; clear n0_ n1_ n2_ n3_; clear hb hbox hg; have hcz49_0 : w48.cell? ⟨gb101, 0, none⟩ = some (.int .i64 a0_0) := (blk_cell BK101.out 0).trans rfl; have hcz49_1 : w48.cell? ⟨gb101, 1, none⟩ = some (.int .i64 a0_1) := (blk_cell BK101.out 1).trans rfl; have hcz49_2 : w48.cell? ⟨gb101, 2, none⟩ = some (.int .i64 a0_2) := (blk_cell BK101.out 2).trans rfl; have hfz49_0 := blk_frozen BK101.out 0; have hfz49_1 := blk_frozen BK101.out 1; have hfz49_2 := blk_frozen BK101.out 2) | ((with_reducible refine gate_callee (f := 25) rfl ?_); refine goesL_ (some 14) rfl rfl Try.func25 (by kernel_rfl) rfl #[.agg #[.int .i64 a0_0, .int .i64 a0_1, .int .i64 a0_2]] rfl (by (try simp only [List.map_toArray, List.map_cons, List.map_nil]); first | done | rfl | (simp only [List.length_drop, List.length_take]; rfl)) ?_; (with_reducible refine (gooseneckref06_CheckPavement.calls a0_0 a0_1 a0_2 t102 _ A4.out).mono ?_); rintro e w50 ⟨rfl, hb⟩; refine ⟨_, rfl, ?_⟩; have n0_ := Aside0.mk (blk_below (g := gb101) (o := .cells #[.int .i64 a0_0, .int .i64 a0_1, .int .i64 a0_2] 43 (0, 0)) (by (with_reducible repeat (first | refine blk_drewN ?_ _ | refine blk_drew ?_ | refine blk_alloc ?_ _)); exact BK101.out) hb); have n1_ := Aside0.mk (below_step (by repeat (first | (with_reducible first | exact HB.out | apply below_alloc | apply pw_below_drewN | apply below_drew1 | refine below_set ?_ GE101.out) | exact HB.out)) hb); clear BK101; clear HB; have BK101 := n0_; have HB := n1_; clear n0_ n1_; (try clear hb); (try clear hb2); (try clear hk); (try clear hi)))
    go_ret2
    exact ⟨by first | rfl | (simp [errW_none, errW_some] <;> rfl) | (simp [*, errW_none, errW_some] <;> rfl), by repeat (first | (with_reducible first | exact HB.out | apply below_alloc | apply pw_below_drewN | apply below_drew1 | refine below_set ?_ GE101.out) | exact HB.out)⟩
end Go.Proofs.Ytiklpefckadgdaa.P
noncomputable section
namespace Go.Proofs.Ytiklpefckadgdaa.P
open Go.RowKit Go.Proofs.YtiklpefckadgdaaW.PrintWords Go.Proofs.YtiklpefckadgdaaW.PrintLast Go.Proofs.YtiklpefckadgdaaW.PrintMore
attribute [local go_sem] max2_int min2_int max_two min_two max_three min_three max_four min_four   -- for this text's walks alone
set_option linter.unusedVariables false
set_option linter.unusedSimpArgs false
def goosenecklaw06_BridgeGround.f (k : Nat) (l0 : List (S35)) (a1 : Int) (a2 : Int) (a3_0 : Int) (a3_1 : Int) (a3_2 : Int) (a4 : Int) (a5 : Int) : Option (Bool) := if (l0.length : Int) > 70 then ((goosenecklaw06_known.f k).bind fun t102 => (some t102)) else ((bridge_Pressure.f k l0 a1 a2).bind fun bt103 => ((gooseneckref06_Pressure.f k l0 a1 a2).bind fun bt105 => ((bridge_Damage.f k a3_0 a3_1 a3_2 l0 a4).bind fun bt107 => ((gooseneckref06_Damage.f k a3_0 a3_1 a3_2 l0 a4).bind fun bt109 => ((bridge_Left.f a3_0 a3_1 a3_2 l0 a5).bind fun bt111 => ((gooseneckref06_Left.f k a3_0 a3_1 a3_2 l0 a5).bind fun bt113 => ((bridge_CheckPavement.f a3_0 a3_1 a3_2).bind fun t115 => ((gooseneckref06_CheckPavement.f a3_0 a3_1 a3_2).bind fun t116 => (if t115 = t116 then (if bt103.1 = bt105.1 then (if bt107.1 = bt109.1 then (if bt111.1 = bt113.1 then (if bt103.2 = bt105.2 then (if bt107.2 = bt109.2 then (if bt111.2 = bt113.2 then ((goosenecklaw06_known.f k).bind fun t117 => (some t117)) else (some false)) else (some false)) else (some false)) else (some false)) else (some false)) else (some false)) else (some false))))))))))
theorem goosenecklaw06_BridgeGround.mono : ∀ a0 a1 a2 a3 a4 a5 a6 a7 k, LeO (goosenecklaw06_BridgeGround.f k a0 a1 a2 a3 a4 a5 a6 a7) (goosenecklaw06_BridgeGround.f (k + 1) a0 a1 a2 a3 a4 a5 a6 a7) := by
  intro a0 a1 a2 a3 a4 a5 a6 a7 k
  unfold goosenecklaw06_BridgeGround.f
  repeat' first
      | (with_reducible exact bridge_Damage.mono _ _ _ _ _ _)
      | (with_reducible exact bridge_Pressure.mono _ _ _ _)
      | (with_reducible exact goosenecklaw06_known.mono _)
      | (with_reducible exact gooseneckref06_Damage.mono _ _ _ _ _ _)
      | (with_reducible exact gooseneckref06_Left.mono _ _ _ _ _ _)
      | (with_reducible exact gooseneckref06_Pressure.mono _ _ _ _)
      | (with_reducible exact LeO.refl _)
      | (with_reducible exact LeO.none _)
      | (with_reducible refine LeO.ite ?_ ?_)
      | (with_reducible refine LeO.bind ?_ (fun _ => ?_))
      | exact bridge_Damage.mono _ _ _ _ _ _
      | exact bridge_Pressure.mono _ _ _ _
      | exact goosenecklaw06_known.mono _
      | exact gooseneckref06_Damage.mono _ _ _ _ _ _
      | exact gooseneckref06_Left.mono _ _ _ _ _ _
      | exact gooseneckref06_Pressure.mono _ _ _ _
      | exact LeO.none _
      | refine LeO.ite ?_ ?_
      | refine LeO.bind ?_ (fun _ => ?_)
def goosenecklaw06_BridgeGround.T9 : Bool × List (List Nat × List Nat) := (true, [([], []), ([0], [0]), ([], []), ([2, 1], [2]), ([1, 3], [1, 3]), ([4, 3], [4]), ([5], [5]), ([5], [5]), ([6, 7, 5], [5, 6, 7]), ([5, 8], [5, 8]), ([9, 5], [9]), ([10], [10]), ([10], [10]), ([11, 12, 10], [10, 11, 12]), ([10, 13], [10, 13]), ([14, 10], [14]), ([15], [15]), ([15], [15]), ([16, 17, 15], [15, 16, 17]), ([15, 18], [15, 18]), ([19, 15], [19]), ([20], [20]), ([20], [20]), ([21, 22, 20], [20, 21, 22]), ([20, 23], [20, 23]), ([24, 20], [24]), ([25], [25]), ([25], [25]), ([26, 27, 25], [25, 26, 27]), ([25, 28], [25, 28]), ([29, 25], [29]), ([30], [30]), ([30], [30]), ([31, 32, 30], [30, 31, 32]), ([30, 33], [30, 33]), ([34, 30], [34]), ([35, 35], [35]), ([35, 36], [35, 36]), ([37, 36, 0, 1, 2, 3, 4, 5, 6, 7, 8, 9, 10, 11, 12, 13, 14, 15, 16, 17, 18, 19, 20, 21, 22, 23, 24, 25, 26, 27, 28, 29, 30, 31, 32, 33, 34, 35, 36, 37], [37])])
def goosenecklaw06_BridgeGround.B9 : List Nat := [0, 1, 0, 7, 15, 31, 63, 63, 255, 511, 1023, 2047, 2047, 8191, 16383, 32767, 65535, 65535, 262143, 524287, 1048575, 2097151, 2097151, 8388607, 16777215, 33554431, 67108863, 67108863, 268435455, 536870911, 1073741823, 2147483647, 2147483647, 8589934591, 17179869183, 34359738367, 68719476735, 137438953471, 274877906943]
theorem goosenecklaw06_BridgeGround.tab9 : rtab .any (opsOf Try.f6 9) = goosenecklaw06_BridgeGround.T9 := by kernel_rfl
theorem goosenecklaw06_BridgeGround.bits9 : waitsOk goosenecklaw06_BridgeGround.T9.2 goosenecklaw06_BridgeGround.B9 = true := by kernel_rfl
set_option maxHeartbeats 8000000 in
set_option maxRecDepth 100000 in
theorem goosenecklaw06_BridgeGround.calls (k : Nat) (A0 : Option Addr) (c0 : Nat) (l0 : List (S35)) (a1 : Int) (a2 : Int) (a3_0 : Int) (a3_1 : Int) (a3_2 : Int) (a4 : Int) (a5 : Int) (r : Bool) (w : World) (hr0 : Kd.C k35 w A0 l0.length l0) (hc0 : l0.length ≤ c0) (hr_ : Aside0 (r = true)) (h : goosenecklaw06_BridgeGround.f k l0 a1 a2 a3_0 a3_1 a3_2 a4 a5 = some r) :
    Calls Try.prog 6 #[.slice A0 l0.length c0, .int .i64 a1, .int .i64 a2, .agg #[.int .i64 a3_0, .int .i64 a3_1, .int .i64 a3_2], .int .i64 a4, .int .i64 a5] w fun e w' => e = .returned (.bool r) ∧ Below w.heap.size w w' := by
  have hu43 := Try.underlying43
  have HR0 := Aside0.mk hr0
  have HC0 := Aside0.mk hc0
  clear hr0 hc0
  have HB := Aside0.mk (Below.refl w.heap.size w)
  have H : (if (l0.length : Int) > 70 then ((goosenecklaw06_known.f k).bind fun t102 => (some t102)) else ((bridge_Pressure.f k l0 a1 a2).bind fun bt103 => ((gooseneckref06_Pressure.f k l0 a1 a2).bind fun bt105 => ((bridge_Damage.f k a3_0 a3_1 a3_2 l0 a4).bind fun bt107 => ((gooseneckref06_Damage.f k a3_0 a3_1 a3_2 l0 a4).bind fun bt109 => ((bridge_Left.f a3_0 a3_1 a3_2 l0 a5).bind fun bt111 => ((gooseneckref06_Left.f k a3_0 a3_1 a3_2 l0 a5).bind fun bt113 => ((bridge_CheckPavement.f a3_0 a3_1 a3_2).bind fun t115 => ((gooseneckref06_CheckPavement.f a3_0 a3_1 a3_2).bind fun t116 => (if t115 = t116 then (if bt103.1 = bt105.1 then (if bt107.1 = bt109.1 then (if bt111.1 = bt113.1 then (if bt103.2 = bt105.2 then (if bt107.2 = bt109.2 then (if bt111.2 = bt113.2 then ((goosenecklaw06_known.f k).bind fun t117 => (some t117)) else (some false)) else (some false)) else (some false)) else (some false)) else (some false)) else (some false)) else (some false))))))))))) = some r := h
  clear h
  by_cases c7 : (l0.length : Int) > 70
  · rw [if_pos c7] at H
    have c7b0 : decide (70 < (l0.length : Int)) = true := decide_eq_true c7
    have c7b1 : decide (70 < l0.length) = true := decide_eq_true (by omega)
    clear c7
    replace H := Option.bind_eq_some_iff.mp H
    obtain ⟨t102, A80, H⟩ := H
    replace H : (some t102) = some r := H
    have A8 := Aside0.mk A80
    clear A80
    obtain rfl := Option.some.inj H
    go_enter Try.func6, Try.ntmps6
    go_wp2_with (first | ((with_reducible refine gate_dst (N := 9) rfl ?_); refine box_event ?hg (N := 9) ?hd (cs := #[.int .i64 a3_0, .int .i64 a3_1, .int .i64 a3_2]) (t := 43) ?hr ?_; (case hd => rfl); (case hg => rfl); (case hr => first | (go_simp; done) | (go_simp; rfl)); intro gb101 hg w9 hbox hb; have n0_ := Aside0.mk (below_step (by repeat (first | (with_reducible first | exact HB.out | apply below_alloc | apply pw_below_drewN | apply below_drew1) | exact HB.out)) hb); have n1_ := Aside0.mk (hbox); have n2_ := Aside0.mk ((by rw [hg]; exact (below_size (by repeat (first | (with_reducible first | exact HB.out | apply below_alloc | apply pw_below_drewN | apply below_drew1) | exact HB.out))) : w.heap.size ≤ gb101)); have n3_ := Aside0.mk ((by rw [hg]; exact (below_size (by repeat (first | (with_reducible first | exact HB.out | apply below_alloc | apply pw_below_drewN | apply below_drew1) | exact HB.out))) : w.heap.size ≤ gb101)); clear HB; have HB := n0_; have BK101 := n1_; have GW101 := n2_; have GE101 := n3_; clear n0_ n1_ n2_ n3_; clear hb hbox hg) | ((with_reducible refine gate_callee (f := 12) rfl ?_); refine goesL_ (some 28) rfl rfl Try.func12 (by kernel_rfl) rfl #[] rfl (by (try simp only [List.map_toArray, List.map_cons, List.map_nil]); first | done | rfl | (simp only [List.length_drop, List.length_take]; rfl)) ?_; (with_reducible refine (goosenecklaw06_known.calls k  t102 _ A8.out).mono ?_); rintro e w10 ⟨rfl, hb⟩; refine ⟨_, rfl, ?_⟩; have n0_ := Aside0.mk (blk_below (g := gb101) (o := .cells #[.int .i64 a3_0, .int .i64 a3_1, .int .i64 a3_2] 43 (0, 0)) (by (with_reducible repeat (first | refine blk_drewN ?_ _ | refine blk_drew ?_ | refine blk_alloc ?_ _)); exact BK101.out) hb); have n1_ := Aside0.mk (below_step (by repeat (first | (with_reducible first | exact HB.out | apply below_alloc | apply pw_below_drewN | apply below_drew1 | refine below_set ?_ GE101.out) | exact HB.out)) hb); clear BK101; clear HB; have BK101 := n0_; have HB := n1_; clear n0_ n1_; (try clear hb); (try clear hb2); (try clear hk); (try clear hi)))
    go_ret
    exact ⟨by first | rfl | (simp [errW_none, errW_some] <;> rfl) | (simp [*, errW_none, errW_some] <;> rfl), by repeat (first | (with_reducible first | exact HB.out | apply below_alloc | apply pw_below_drewN | apply below_drew1 | refine below_set ?_ GE101.out) | exact HB.out)⟩
  · rw [if_neg c7] at H
    have c7b0 : decide (70 < (l0.length : Int)) = false := decide_eq_false c7
    have c7b1 : decide (70 < l0.length) = false := decide_eq_false (by omega)
    clear c7
    replace H := Option.bind_eq_some_iff.mp H
    obtain ⟨⟨t103, t104⟩, A110, H⟩ := H
    replace H : ((gooseneckref06_Pressure.f k l0 a1 a2).bind fun bt105 => ((bridge_Damage.f k a3_0 a3_1 a3_2 l0 a4).bind fun bt107 => ((gooseneckref06_Damage.f k a3_0 a3_1 a3_2 l0 a4).bind fun bt109 => ((bridge_Left.f a3_0 a3_1 a3_2 l0 a5).bind fun bt111 => ((gooseneckref06_Left.f k a3_0 a3_1 a3_2 l0 a5).bind fun bt113 => ((bridge_CheckPavement.f a3_0 a3_1 a3_2).bind fun t115 => ((gooseneckref06_CheckPavement.f a3_0 a3_1 a3_2).bind fun t116 => (if t115 = t116 then (if t103 = bt105.1 then (if bt107.1 = bt109.1 then (if bt111.1 = bt113.1 then (if t104 = bt105.2 then (if bt107.2 = bt109.2 then (if bt111.2 = bt113.2 then ((goosenecklaw06_known.f k).bind fun t117 => (some t117)) else (some false)) else (some false)) else (some false)) else (some false)) else (some false)) else (some false)) else (some false))))))))) = some r := H
    have A11 := Aside0.mk A110
    clear A110
    replace H := Option.bind_eq_some_iff.mp H
    obtain ⟨⟨t105, t106⟩, A120, H⟩ := H
    replace H : ((bridge_Damage.f k a3_0 a3_1 a3_2 l0 a4).bind fun bt107 => ((gooseneckref06_Damage.f k a3_0 a3_1 a3_2 l0 a4).bind fun bt109 => ((bridge_Left.f a3_0 a3_1 a3_2 l0 a5).bind fun bt111 => ((gooseneckref06_Left.f k a3_0 a3_1 a3_2 l0 a5).bind fun bt113 => ((bridge_CheckPavement.f a3_0 a3_1 a3_2).bind fun t115 => ((gooseneckref06_CheckPavement.f a3_0 a3_1 a3_2).bind fun t116 => (if t115 = t116 then (if t103 = t105 then (if bt107.1 = bt109.1 then (if bt111.1 = bt113.1 then (if t104 = t106 then (if bt107.2 = bt109.2 then (if bt111.2 = bt113.2 then ((goosenecklaw06_known.f k).bind fun t117 => (some t117)) else (some false)) else (some false)) else (some false)) else (some false)) else (some false)) else (some false)) else (some false)))))))) = some r := H
    have A12 := Aside0.mk A120
    clear A120
    replace H := Option.bind_eq_some_iff.mp H
    obtain ⟨⟨t107, t108⟩, A130, H⟩ := H
    replace H : ((gooseneckref06_Damage.f k a3_0 a3_1 a3_2 l0 a4).bind fun bt109 => ((bridge_Left.f a3_0 a3_1 a3_2 l0 a5).bind fun bt111 => ((gooseneckref06_Left.f k a3_0 a3_1 a3_2 l0 a5).bind fun bt113 => ((bridge_CheckPavement.f a3_0 a3_1 a3_2).bind fun t115 => ((gooseneckref06_CheckPavement.f a3_0 a3_1 a3_2).bind fun t116 => (if t115 = t116 then (if t103 = t105 then (if t107 = bt109.1 then (if bt111.1 = bt113.1 then (if t104 = t106 then (if t108 = bt109.2 then (if bt111.2 = bt113.2 then ((goosenecklaw06_known.f k).bind fun t117 => (some t117)) else (some false)) else (some false)) else (some false)) else (some false)) else (some false)) else (some false)) else (some false))))))) = some r := H
    have A13 := Aside0.mk A130
    clear A130
    replace H := Option.bind_eq_some_iff.mp H
    obtain ⟨⟨t109, t110⟩, A140, H⟩ := H
    replace H : ((bridge_Left.f a3_0 a3_1 a3_2 l0 a5).bind fun bt111 => ((gooseneckref06_Left.f k a3_0 a3_1 a3_2 l0 a5).bind fun bt113 => ((bridge_CheckPavement.f a3_0 a3_1 a3_2).bind fun t115 => ((gooseneckref06_CheckPavement.f a3_0 a3_1 a3_2).bind fun t116 => (if t115 = t116 then (if t103 = t105 then (if t107 = t109 then (if bt111.1 = bt113.1 then (if t104 = t106 then (if t108 = t110 then (if bt111.2 = bt113.2 then ((goosenecklaw06_known.f k).bind fun t117 => (some t117)) else (some false)) else (some false)) else (some false)) else (some false)) else (some false)) else (some false)) else (some false)))))) = some r := H
    have A14 := Aside0.mk A140
    clear A140
    replace H := Option.bind_eq_some_iff.mp H
    obtain ⟨⟨t111, t112⟩, A150, H⟩ := H
    replace H : ((gooseneckref06_Left.f k a3_0 a3_1 a3_2 l0 a5).bind fun bt113 => ((bridge_CheckPavement.f a3_0 a3_1 a3_2).bind fun t115 => ((gooseneckref06_CheckPavement.f a3_0 a3_1 a3_2).bind fun t116 => (if t115 = t116 then (if t103 = t105 then (if t107 = t109 then (if t111 = bt113.1 then (if t104 = t106 then (if t108 = t110 then (if t112 = bt113.2 then ((goosenecklaw06_known.f k).bind fun t117 => (some t117)) else (some false)) else (some false)) else (some false)) else (some false)) else (some false)) else (some false)) else (some false))))) = some r := H
    have A15 := Aside0.mk A150
    clear A150
    replace H := Option.bind_eq_some_iff.mp H
    obtain ⟨⟨t113, t114⟩, A160, H⟩ := H
    replace H : ((bridge_CheckPavement.f a3_0 a3_1 a3_2).bind fun t115 => ((gooseneckref06_CheckPavement.f a3_0 a3_1 a3_2).bind fun t116 => (if t115 = t116 then (if t103 = t105 then (if t107 = t109 then (if t111 = t113 then (if t104 = t106 then (if t108 = t110 then (if t112 = t114 then ((goosenecklaw06_known.f k).bind fun t117 => (some t117)) else (some false)) else (some false)) else (some false)) else (some false)) else (some false)) else (some false)) else (some false)))) = some r := H
    have A16 := Aside0.mk A160
    clear A160
    replace H := Option.bind_eq_some_iff.mp H
    obtain ⟨t115, A170, H⟩ := H
    replace H : ((gooseneckref06_CheckPavement.f a3_0 a3_1 a3_2).bind fun t116 => (if t115 = t116 then (if t103 = t105 then (if t107 = t109 then (if t111 = t113 then (if t104 = t106 then (if t108 = t110 then (if t112 = t114 then ((goosenecklaw06_known.f k).bind fun t117 => (some t117)) else (some false)) else (some false)) else (some false)) else (some false)) else (some false)) else (some false)) else (some false))) = some r := H
    have A17 := Aside0.mk A170
    clear A170
    replace H := Option.bind_eq_some_iff.mp H
    obtain ⟨t116, A180, H⟩ := H
    replace H : (if t115 = t116 then (if t103 = t105 then (if t107 = t109 then (if t111 = t113 then (if t104 = t106 then (if t108 = t110 then (if t112 = t114 then ((goosenecklaw06_known.f k).bind fun t117 => (some t117)) else (some false)) else (some false)) else (some false)) else (some false)) else (some false)) else (some false)) else (some false)) = some r := H
    have A18 := Aside0.mk A180
    clear A180
    by_cases c19 : t115 = t116
    · rw [if_pos c19] at H
      have c19b0 : (t115 == t116) = true := beq_iff_eq.mpr c19
      have c19b1 : (t115 != t116) = false := bne_eq_false_iff_eq.mpr c19
      clear c19
      by_cases c20 : t103 = t105
      · rw [if_pos c20] at H
        have c20b0 : (t103 == t105) = true := beq_iff_eq.mpr c20
        have c20b1 : (t103 != t105) = false := bne_eq_false_iff_eq.mpr c20
        clear c20
        by_cases c21 : t107 = t109
        · rw [if_pos c21] at H
          have c21b0 : (t107 == t109) = true := beq_iff_eq.mpr c21
          have c21b1 : (t107 != t109) = false := bne_eq_false_iff_eq.mpr c21
          clear c21
          by_cases c22 : t111 = t113
          · rw [if_pos c22] at H
            have c22b0 : (t111 == t113) = true := beq_iff_eq.mpr c22
            have c22b1 : (t111 != t113) = false := bne_eq_false_iff_eq.mpr c22
            clear c22
            by_cases c23 : t104 = t106
            · rw [if_pos c23] at H
              have c23b0 : (t104 == t106) = true := beq_iff_eq.mpr c23
              have c23b1 : (t104 != t106) = false := bne_eq_false_iff_eq.mpr c23
              clear c23
              by_cases c24 : t108 = t110
              · rw [if_pos c24] at H
                have c24b0 : (t108 == t110) = true := beq_iff_eq.mpr c24
                have c24b1 : (t108 != t110) = false := bne_eq_false_iff_eq.mpr c24
                clear c24
                by_cases c25 : t112 = t114
                · rw [if_pos c25] at H
                  have c25b0 : (t112 == t114) = true := beq_iff_eq.mpr c25
                  have c25b1 : (t112 != t114) = false := bne_eq_false_iff_eq.mpr c25
                  clear c25
                  replace H := Option.bind_eq_some_iff.mp H
                  obtain ⟨t117, A260, H⟩ := H
                  replace H : (some t117) = some r := H
                  have A26 := Aside0.mk A260
                  clear A260
                  obtain rfl := Option.some.inj H
                  go_enter Try.func6, Try.ntmps6
                  try go_wp2_with (first | ((with_reducible refine gate_dst (N := 9) rfl ?_); refine box_event ?hg (N := 9) ?hd (cs := #[.int .i64 a3_0, .int .i64 a3_1, .int .i64 a3_2]) (t := 43) ?hr ?_; (case hd => rfl); (case hg => rfl); (case hr => first | (go_simp; done) | (go_simp; rfl)); intro gb101 hg w27 hbox hb; have n0_ := Aside0.mk (below_step (by repeat (first | (with_reducible first | exact HB.out | apply below_alloc | apply pw_below_drewN | apply below_drew1) | exact HB.out)) hb); have n1_ := Aside0.mk (hbox); have n2_ := Aside0.mk ((by rw [hg]; exact (below_size (by repeat (first | (with_reducible first | exact HB.out | apply below_alloc | apply pw_below_drewN | apply below_drew1) | exact HB.out))) : w.heap.size ≤ gb101)); have n3_ := Aside0.mk ((by rw [hg]; exact (below_size (by repeat (first | (with_reducible first | exact HB.out | apply below_alloc | apply pw_below_drewN | apply below_drew1) | exact HB.out))) : w.heap.size ≤ gb101)); clear HB; have HB := n0_; have BK101 := n1_; have GW101 := n2_; have GE101 := n3_; clear n0_ n1_ n2_ n3_; clear hb hbox hg) | ((with_reducible refine gate_callee (f := 20) rfl ?_); refine goesL_ (some 33) rfl rfl Try.func20 (by kernel_rfl) rfl #[.slice A0 l0.length c0, .int .i64 a1, .int .i64 a2] rfl (by (try simp only [List.map_toArray, List.map_cons, List.map_nil]); first | done | rfl | (simp only [List.length_drop, List.length_take]; rfl)) ?_; (with_reducible refine (bridge_Pressure.calls k _ _ l0 a1 a2 t103 t104 _ ?side1 ?side2 A11.out).mono ?_); (case side1 => repeat (first | exact (Kd.C_below HR0.out HB.out) | (with_reducible refine Kd.C_alloc ?_ _) | (with_reducible refine Kd.C_drewN ?_ _) | (with_reducible refine Kd.C_drew ?_))); (case side2 => exact HC0.out); rintro e w28 ⟨rfl, hb⟩; refine ⟨_, rfl, ?_⟩; have n0_ := Aside0.mk (blk_below (g := gb101) (o := .cells #[.int .i64 a3_0, .int .i64 a3_1, .int .i64 a3_2] 43 (0, 0)) (by (with_reducible repeat (first | refine blk_drewN ?_ _ | refine blk_drew ?_ | refine blk_alloc ?_ _)); exact BK101.out) hb); have n1_ := Aside0.mk (below_step (by repeat (first | (with_reducible first | exact HB.out | apply below_alloc | apply pw_below_drewN | apply below_drew1 | refine below_set ?_ GE101.out) | exact HB.out)) hb); clear BK101; clear HB; have BK101 := n0_; have HB := n1_; clear n0_ n1_; (try clear hb); (try clear hb2); (try clear hk); (try clear hi)) | ((with_reducible refine gate_callee (f := 21) rfl ?_); refine goesL_ (some 40) rfl rfl Try.func21 (by kernel_rfl) rfl #[.slice A0 l0.length c0, .int .i64 a1, .int .i64 a2] rfl (by (try simp only [List.map_toArray, List.map_cons, List.map_nil]); first | done | rfl | (simp only [List.length_drop, List.length_take]; rfl)) ?_; (with_reducible refine (gooseneckref06_Pressure.calls k _ _ l0 a1 a2 t105 t106 _ ?side1 ?side2 A12.out).mono ?_); (case side1 => repeat (first | exact (Kd.C_below HR0.out HB.out) | (with_reducible refine Kd.C_alloc ?_ _) | (with_reducible refine Kd.C_drewN ?_ _) | (with_reducible refine Kd.C_drew ?_))); (case side2 => exact HC0.out); rintro e w29 ⟨rfl, hb⟩; refine ⟨_, rfl, ?_⟩; have n0_ := Aside0.mk (blk_below (g := gb101) (o := .cells #[.int .i64 a3_0, .int .i64 a3_1, .int .i64 a3_2] 43 (0, 0)) (by (with_reducible repeat (first | refine blk_drewN ?_ _ | refine blk_drew ?_ | refine blk_alloc ?_ _)); exact BK101.out) hb); have n1_ := Aside0.mk (below_step (by repeat (first | (with_reducible first | exact HB.out | apply below_alloc | apply pw_below_drewN | apply below_drew1 | refine below_set ?_ GE101.out) | exact HB.out)) hb); clear BK101; clear HB; have BK101 := n0_; have HB := n1_; clear n0_ n1_; (try clear hb); (try clear hb2); (try clear hk); (try clear hi); have hcz30_0 : w29.cell? ⟨gb101, 0, none⟩ = some (.int .i64 a3_0) := (blk_cell BK101.out 0).trans rfl; have hcz30_1 : w29.cell? ⟨gb101, 1, none⟩ = some (.int .i64 a3_1) := (blk_cell BK101.out 1).trans rfl; have hcz30_2 : w29.cell? ⟨gb101, 2, none⟩ = some (.int .i64 a3_2) := (blk_cell BK101.out 2).trans rfl; have hfz30_0 := blk_frozen BK101.out 0; have hfz30_1 := blk_frozen BK101.out 1; have hfz30_2 := blk_frozen BK101.out 2) | ((with_reducible refine gate_callee (f := 18) rfl ?_); refine goesL_ (some 47) rfl rfl Try.func18 (by kernel_rfl) rfl #[.agg #[.int .i64 a3_0, .int .i64 a3_1, .int .i64 a3_2], .slice A0 l0.length c0, .int .i64 a4] rfl (by (try simp only [List.map_toArray, List.map_cons, List.map_nil]); first | done | rfl | (simp only [List.length_drop, List.length_take]; rfl)) ?_; (with_reducible refine (bridge_Damage.calls k a3_0 a3_1 a3_2 _ _ l0 a4 t107 t108 _ ?side1 ?side2 A13.out).mono ?_); (case side1 => repeat (first | exact (Kd.C_below HR0.out HB.out) | (with_reducible refine Kd.C_alloc ?_ _) | (with_reducible refine Kd.C_drewN ?_ _) | (with_reducible refine Kd.C_drew ?_))); (case side2 => exact HC0.out); rintro e w31 ⟨rfl, hb⟩; refine ⟨_, rfl, ?_⟩; have n0_ := Aside0.mk (blk_below (g := gb101) (o := .cells #[.int .i64 a3_0, .int .i64 a3_1, .int .i64 a3_2] 43 (0, 0)) (by (with_reducible repeat (first | refine blk_drewN ?_ _ | refine blk_drew ?_ | refine blk_alloc ?_ _)); exact BK101.out) hb); have n1_ := Aside0.mk (below_step (by repeat (first | (with_reducible first | exact HB.out | apply below_alloc | apply pw_below_drewN | apply below_drew1 | refine below_set ?_ GE101.out) | exact HB.out)) hb); clear BK101; clear HB; have BK101 := n0_; have HB := n1_; clear n0_ n1_; (try clear hb); (try clear hb2); (try clear hk); (try clear hi); have hcz32_0 : w31.cell? ⟨gb101, 0, none⟩ = some (.int .i64 a3_0) := (blk_cell BK101.out 0).trans rfl; have hcz32_1 : w31.cell? ⟨gb101, 1, none⟩ = some (.int .i64 a3_1) := (blk_cell BK101.out 1).trans rfl; have hcz32_2 : w31.cell? ⟨gb101, 2, none⟩ = some (.int .i64 a3_2) := (blk_cell BK101.out 2).trans rfl; have hfz32_0 := blk_frozen BK101.out 0; have hfz32_1 := blk_frozen BK101.out 1; have hfz32_2 := blk_frozen BK101.out 2) | ((with_reducible refine gate_callee (f := 22) rfl ?_); refine goesL_ (some 54) rfl rfl Try.func22 (by kernel_rfl) rfl #[.agg #[.int .i64 a3_0, .int .i64 a3_1, .int .i64 a3_2], .slice A0 l0.length c0, .int .i64 a4] rfl (by (try simp only [List.map_toArray, List.map_cons, List.map_nil]); first | done | rfl | (simp only [List.length_drop, List.length_take]; rfl)) ?_; (with_reducible refine (gooseneckref06_Damage.calls k a3_0 a3_1 a3_2 _ _ l0 a4 t109 t110 _ ?side1 ?side2 A14.out).mono ?_); (case side1 => repeat (first | exact (Kd.C_below HR0.out HB.out) | (with_reducible refine Kd.C_alloc ?_ _) | (with_reducible refine Kd.C_drewN ?_ _) | (with_reducible refine Kd.C_drew ?_))); (case side2 => exact HC0.out); rintro e w33 ⟨rfl, hb⟩; refine ⟨_, rfl, ?_⟩; have n0_ := Aside0.mk (blk_below (g := gb101) (o := .cells #[.int .i64 a3_0, .int .i64 a3_1, .int .i64 a3_2] 43 (0, 0)) (by (with_reducible repeat (first | refine blk_drewN ?_ _ | refine blk_drew ?_ | refine blk_alloc ?_ _)); exact BK101.out) hb); have n1_ := Aside0.mk (below_step (by repeat (first | (with_reducible first | exact HB.out | apply below_alloc | apply pw_below_drewN | apply below_drew1 | refine below_set ?_ GE101.out) | exact HB.out)) hb); clear BK101; clear HB; have BK101 := n0_; have HB := n1_; clear n0_ n1_; (try clear hb); (try clear hb2); (try clear hk); (try clear hi); have hcz34_0 : w33.cell? ⟨gb101, 0, none⟩ = some (.int .i64 a3_0) := (blk_cell BK101.out 0).trans rfl; have hcz34_1 : w33.cell? ⟨gb101, 1, none⟩ = some (.int .i64 a3_1) := (blk_cell BK101.out 1).trans rfl; have hcz34_2 : w33.cell? ⟨gb101, 2, none⟩ = some (.int .i64 a3_2) := (blk_cell BK101.out 2).trans rfl; have hfz34_0 := blk_frozen BK101.out 0; have hfz34_1 := blk_frozen BK101.out 1; have hfz34_2 := blk_frozen BK101.out 2) | ((with_reducible refine gate_callee (f := 19) rfl ?_); refine goesL_ (some 61) rfl rfl Try.func19 (by kernel_rfl) rfl #[.agg #[.int .i64 a3_0, .int .i64 a3_1, .int .i64 a3_2], .slice A0 l0.length c0, .int .i64 a5] rfl (by (try simp only [List.map_toArray, List.map_cons, List.map_nil]); first | done | rfl | (simp only [List.length_drop, List.length_take]; rfl)) ?_; (with_reducible refine (bridge_Left.calls a3_0 a3_1 a3_2 _ _ l0 a5 t111 t112 _ ?side1 ?side2 A15.out).mono ?_); (case side1 => repeat (first | exact (Kd.C_below HR0.out HB.out) | (with_reducible refine Kd.C_alloc ?_ _) | (with_reducible refine Kd.C_drewN ?_ _) | (with_reducible refine Kd.C_drew ?_))); (case side2 => exact HC0.out); rintro e w35 ⟨rfl, hb⟩; refine ⟨_, rfl, ?_⟩; have n0_ := Aside0.mk (blk_below (g := gb101) (o := .cells #[.int .i64 a3_0, .int .i64 a3_1, .int .i64 a3_2] 43 (0, 0)) (by (with_reducible repeat (first | refine blk_drewN ?_ _ | refine blk_drew ?_ | refine blk_alloc ?_ _)); exact BK101.out) hb); have n1_ := Aside0.mk (below_step (by repeat (first | (with_reducible first | exact HB.out | apply below_alloc | apply pw_below_drewN | apply below_drew1 | refine below_set ?_ GE101.out) | exact HB.out)) hb); clear BK101; clear HB; have BK101 := n0_; have HB := n1_; clear n0_ n1_; (try clear hb); (try clear hb2); (try clear hk); (try clear hi); have hcz36_0 : w35.cell? ⟨gb101, 0, none⟩ = some (.int .i64 a3_0) := (blk_cell BK101.out 0).trans rfl; have hcz36_1 : w35.cell? ⟨gb101, 1, none⟩ = some (.int .i64 a3_1) := (blk_cell BK101.out 1).trans rfl; have hcz36_2 : w35.cell? ⟨gb101, 2, none⟩ = some (.int .i64 a3_2) := (blk_cell BK101.out 2).trans rfl; have hfz36_0 := blk_frozen BK101.out 0; have hfz36_1 := blk_frozen BK101.out 1; have hfz36_2 := blk_frozen BK101.out 2) | ((with_reducible refine gate_callee (f := 23) rfl ?_); refine goesL_ (some 68) rfl rfl Try.func23 (by kernel_rfl) rfl #[.agg #[.int .i64 a3_0, .int .i64 a3_1, .int .i64 a3_2], .slice A0 l0.length c0, .int .i64 a5] rfl (by (try simp only [List.map_toArray, List.map_cons, List.map_nil]); first | done | rfl | (simp only [List.length_drop, List.length_take]; rfl)) ?_; (with_reducible refine (gooseneckref06_Left.calls k a3_0 a3_1 a3_2 _ _ l0 a5 t113 t114 _ ?side1 ?side2 A16.out).mono ?_); (case side1 => repeat (first | exact (Kd.C_below HR0.out HB.out) | (with_reducible refine Kd.C_alloc ?_ _) | (with_reducible refine Kd.C_drewN ?_ _) | (with_reducible refine Kd.C_drew ?_))); (case side2 => exact HC0.out); rintro e w37 ⟨rfl, hb⟩; refine ⟨_, rfl, ?_⟩; have n0_ := Aside0.mk (blk_below (g := gb101) (o := .cells #[.int .i64 a3_0, .int .i64 a3_1, .int .i64 a3_2] 43 (0, 0)) (by (with_reducible repeat (first | refine blk_drewN ?_ _ | refine blk_drew ?_ | refine blk_alloc ?_ _)); exact BK101.out) hb); have n1_ := Aside0.mk (below_step (by repeat (first | (with_reducible first | exact HB.out | apply below_alloc | apply pw_below_drewN | apply below_drew1 | refine below_set ?_ GE101.out) | exact HB.out)) hb); clear BK101; clear HB; have BK101 := n0_; have HB := n1_; clear n0_ n1_; (try clear hb); (try clear hb2); (try clear hk); (try clear hi)))
                  have n0_ := Aside0.mk (blk_drew BK101.out)
                  have n1_ := Aside0.mk (below_drew1 HB.out)
                  clear BK101
                  clear HB
                  have BK101 := n0_
                  have HB := n1_
                  clear n0_ n1_
                  refine start_ (n := 39) (S := fun w' => w'.cell? ⟨gb101, 0, none⟩ = some (.int .i64 a3_0) ∧ w'.cell? ⟨gb101, 1, none⟩ = some (.int .i64 a3_1) ∧ w'.cell? ⟨gb101, 2, none⟩ = some (.int .i64 a3_2)) (ds := []) #[false, false, false, false, false, false, false, false, false, false, false, false, false, false, false, false, false, false, false, false, false, false, false, false, false, false, false, false, false, false, false, false, false, false, false, false, false, false, false] (by kernel_rfl) rfl rfl ⟨(blk_cell BK101.out 0).trans rfl, (blk_cell BK101.out 1).trans rfl, (blk_cell BK101.out 2).trans rfl⟩ (fun hHeld => ?_); refine with_tabW goosenecklaw06_BridgeGround.tab9 goosenecklaw06_BridgeGround.bits9 (fun HT_ HW_ => ?_)
                  generalize w37.drew = w38 at BK101 HB hHeld ⊢
                  refine take_ (i := 0) (N := some 71) (v := ?_) (a' := ?_) #[true, false, false, false, false, false, false, false, false, false, false, false, false, false, false, false, false, false, false, false, false, false, false, false, false, false, false, false, false, false, false, false, false, false, false, false, false, false, false] rfl rfl (take_ofW HT_.out HW_.out (by kernel_rfl)) (fun _ _ _ h => h) (Or.inl ⟨by rfl, ?_⟩) hHeld ?_ ?_
                  rotate_left
                  · rintro w' ⟨s0, s1, s2⟩
                    go_simp
                    with_reducible rfl
                  rotate_left
                  · simp only [Act.put, List.setIfInBounds_toArray, List.set_cons_zero, List.set_cons_succ, i64_w, i32_w]
                    rfl
                  refine take_ (i := 2) (N := some 73) (v := ?_) (a' := ?_) #[true, false, true, false, false, false, false, false, false, false, false, false, false, false, false, false, false, false, false, false, false, false, false, false, false, false, false, false, false, false, false, false, false, false, false, false, false, false, false] rfl rfl (take_ofW HT_.out HW_.out (by kernel_rfl)) (fun _ _ _ h => h) (Or.inl ⟨by rfl, ?_⟩) hHeld ?_ ?_
                  rotate_left
                  · rintro w' ⟨s0, s1, s2⟩
                    go_simp
                    with_reducible rfl
                  rotate_left
                  · simp only [Act.put, List.setIfInBounds_toArray, List.set_cons_zero, List.set_cons_succ, i64_w, i32_w]
                    rfl
                  refine one_ (i := 1) (N := some 72) #[true, true, true, false, false, false, false, false, false, false, false, false, false, false, false, false, false, false, false, false, false, false, false, false, false, false, false, false, false, false, false, false, false, false, false, false, false, false, false] rfl rfl (one_of HT_.out (by kernel_rfl)) (by decide) (fun K hK => ?_)
                  refine goes_ Try.func24 (by kernel_rfl) rfl #[.agg #[.int .i64 a3_0, .int .i64 a3_1, .int .i64 a3_2]] (by rfl) rfl rfl (by (try simp only [List.map_toArray, List.map_cons, List.map_nil]); first | done | rfl | (simp only [List.length_drop, List.length_take]; rfl)) ?_
                  with_reducible refine (bridge_CheckPavement.calls a3_0 a3_1 a3_2 t115 _ A17.out).mono ?_
                  rintro e w39 ⟨rfl, hb⟩
                  refine ⟨_, rfl, ?_⟩
                  have n0_ := Aside0.mk (blk_below (g := gb101) (o := .cells #[.int .i64 a3_0, .int .i64 a3_1, .int .i64 a3_2] 43 (0, 0)) (by (with_reducible repeat (first | refine blk_drewN ?_ _ | refine blk_drew ?_ | refine blk_alloc ?_ _)); exact BK101.out) hb)
                  have n1_ := Aside0.mk (below_step (by repeat (first | (with_reducible first | exact HB.out | apply below_alloc | apply pw_below_drewN | apply below_drew1 | refine below_set ?_ GE101.out) | exact HB.out)) hb)
                  clear BK101
                  clear HB
                  have BK101 := n0_
                  have HB := n1_
                  clear n0_ n1_
                  (try clear hb)
                  (try clear hb2)
                  (try clear hk)
                  (try clear hi)
                  refine hK.out _ _ ⟨(blk_cell BK101.out 0).trans rfl, (blk_cell BK101.out 1).trans rfl, (blk_cell BK101.out 2).trans rfl⟩ (fun hHeld => ?_)
                  clear hK K
                  refine norm_ (a' := ?_) ?_ ?_
                  rotate_left
                  · show Act.put _ (some 72) _ = _
                    simp only [Act.put, List.setIfInBounds_toArray, List.set_cons_zero, List.set_cons_succ, i64_w, i32_w]
                    rfl
                  refine one_ (i := 3) (N := some 74) #[true, true, true, true, false, false, false, false, false, false, false, false, false, false, false, false, false, false, false, false, false, false, false, false, false, false, false, false, false, false, false, false, false, false, false, false, false, false, false] rfl rfl (one_of HT_.out (by kernel_rfl)) (by decide) (fun K hK => ?_)
                  refine goes_ Try.func25 (by kernel_rfl) rfl #[.agg #[.int .i64 a3_0, .int .i64 a3_1, .int .i64 a3_2]] (by rfl) rfl rfl (by (try simp only [List.map_toArray, List.map_cons, List.map_nil]); first | done | rfl | (simp only [List.length_drop, List.length_take]; rfl)) ?_
                  with_reducible refine (gooseneckref06_CheckPavement.calls a3_0 a3_1 a3_2 t116 _ A18.out).mono ?_
                  rintro e w40 ⟨rfl, hb⟩
                  refine ⟨_, rfl, ?_⟩
                  have n0_ := Aside0.mk (blk_below (g := gb101) (o := .cells #[.int .i64 a3_0, .int .i64 a3_1, .int .i64 a3_2] 43 (0, 0)) (by (with_reducible repeat (first | refine blk_drewN ?_ _ | refine blk_drew ?_ | refine blk_alloc ?_ _)); exact BK101.out) hb)
                  have n1_ := Aside0.mk (below_step (by repeat (first | (with_reducible first | exact HB.out | apply below_alloc | apply pw_below_drewN | apply below_drew1 | refine below_set ?_ GE101.out) | exact HB.out)) hb)
                  clear BK101
                  clear HB
                  have BK101 := n0_
                  have HB := n1_
                  clear n0_ n1_
                  (try clear hb)
                  (try clear hb2)
                  (try clear hk)
                  (try clear hi)
                  refine hK.out _ _ ⟨(blk_cell BK101.out 0).trans rfl, (blk_cell BK101.out 1).trans rfl, (blk_cell BK101.out 2).trans rfl⟩ (fun hHeld => ?_)
                  clear hK K
                  refine norm_ (a' := ?_) ?_ ?_
                  rotate_left
                  · show Act.put _ (some 74) _ = _
                    simp only [Act.put, List.setIfInBounds_toArray, List.set_cons_zero, List.set_cons_succ, i64_w, i32_w]
                    rfl
                  refine pure_ (i := 4) (N := some 75) (v := ?_) (a' := ?_) #[true, true, true, true, true, false, false, false, false, false, false, false, false, false, false, false, false, false, false, false, false, false, false, false, false, false, false, false, false, false, false, false, false, false, false, false, false, false, false] rfl rfl (any_of HT_.out (by kernel_rfl)) (fun _ _ _ h => h) (Or.inl ⟨by rfl, ?_⟩) ?_ ?_
                  rotate_left
                  · intro w'
                    go_simp
                    with_reducible rfl
                  rotate_left
                  · simp only [Act.put, List.setIfInBounds_toArray, List.set_cons_zero, List.set_cons_succ, i64_w, i32_w]
                    rfl
                  refine pure_ (i := 5) (N := some 76) (v := ?_) (a' := ?_) #[true, true, true, true, true, true, false, false, false, false, false, false, false, false, false, false, false, false, false, false, false, false, false, false, false, false, false, false, false, false, false, false, false, false, false, false, false, false, false] rfl rfl (any_of HT_.out (by kernel_rfl)) (fun _ _ _ h => h) (Or.inl ⟨by rfl, ?_⟩) ?_ ?_
                  rotate_left
                  · intro w'
                    go_simp
                    with_reducible rfl
                  rotate_left
                  · simp only [Act.put, List.setIfInBounds_toArray, List.set_cons_zero, List.set_cons_succ, i64_w, i32_w]
                    rfl
                  refine pure_ (i := 6) (N := some 77) (v := ?_) (a' := ?_) #[true, true, true, true, true, true, true, false, false, false, false, false, false, false, false, false, false, false, false, false, false, false, false, false, false, false, false, false, false, false, false, false, false, false, false, false, false, false, false] rfl rfl (any_of HT_.out (by kernel_rfl)) (fun _ _ _ h => h) (Or.inl ⟨by rfl, ?_⟩) ?_ ?_
                  rotate_left
                  · intro w'
                    go_simp
                    with_reducible rfl
                  rotate_left
                  · simp only [Act.put, List.setIfInBounds_toArray, List.set_cons_zero, List.set_cons_succ, i64_w, i32_w]
                    rfl
                  refine pure_ (i := 7) (N := some 78) (v := ?_) (a' := ?_) #[true, true, true, true, true, true, true, true, false, false, false, false, false, false, false, false, false, false, false, false, false, false, false, false, false, false, false, false, false, false, false, false, false, false, false, false, false, false, false] rfl rfl (any_of HT_.out (by kernel_rfl)) (fun _ _ _ h => h) (Or.inl ⟨by rfl, ?_⟩) ?_ ?_
                  rotate_left
                  · intro w'
                    go_simp
                    with_reducible rfl
                  rotate_left
                  · simp only [Act.put, List.setIfInBounds_toArray, List.set_cons_zero, List.set_cons_succ, i64_w, i32_w]
                    rfl
                  refine pure_ (i := 8) (N := some 79) (v := ?_) (a' := ?_) #[true, true, true, true, true, true, true, true, true, false, false, false, false, false, false, false, false, false, false, false, false, false, false, false, false, false, false, false, false, false, false, false, false, false, false, false, false, false, false] rfl rfl (any_of HT_.out (by kernel_rfl)) (fun _ _ _ h => h) (Or.inl ⟨by rfl, ?_⟩) ?_ ?_
                  rotate_left
                  · intro w'
                    go_simp
                    with_reducible rfl
                  rotate_left
                  · simp only [Act.put, List.setIfInBounds_toArray, List.set_cons_zero, List.set_cons_succ, i64_w, i32_w]
                    rfl
                  refine pure_ (i := 9) (N := some 80) (v := ?_) (a' := ?_) #[true, true, true, true, true, true, true, true, true, true, false, false, false, false, false, false, false, false, false, false, false, false, false, false, false, false, false, false, false, false, false, false, false, false, false, false, false, false, false] rfl rfl (any_of HT_.out (by kernel_rfl)) (fun _ _ _ h => h) (Or.inl ⟨by rfl, ?_⟩) ?_ ?_
                  rotate_left
                  · intro w'
                    go_simp
                    with_reducible rfl
                  rotate_left
                  · simp only [Act.put, List.setIfInBounds_toArray, List.set_cons_zero, List.set_cons_succ, i64_w, i32_w]
                    rfl
                  refine pure_ (i := 10) (N := some 81) (v := ?_) (a' := ?_) #[true, true, true, true, true, true, true, true, true, true, true, false, false, false, false, false, false, false, false, false, false, false, false, false, false, false, false, false, false, false, false, false, false, false, false, false, false, false, false] rfl rfl (any_of HT_.out (by kernel_rfl)) (fun _ _ _ h => h) (Or.inl ⟨by rfl, ?_⟩) ?_ ?_
                  rotate_left
                  · intro w'
                    go_simp
                    with_reducible rfl
                  rotate_left
                  · simp only [Act.put, List.setIfInBounds_toArray, List.set_cons_zero, List.set_cons_succ, i64_w, i32_w]
                    rfl
                  refine pure_ (i := 11) (N := some 82) (v := ?_) (a' := ?_) #[true, true, true, true, true, true, true, true, true, true, true, true, false, false, false, false, false, false, false, false, false, false, false, false, false, false, false, false, false, false, false, false, false, false, false, false, false, false, false] rfl rfl (any_of HT_.out (by kernel_rfl)) (fun _ _ _ h => h) (Or.inl ⟨by rfl, ?_⟩) ?_ ?_
                  rotate_left
                  · intro w'
                    go_simp
                    with_reducible rfl
                  rotate_left
                  · simp only [Act.put, List.setIfInBounds_toArray, List.set_cons_zero, List.set_cons_succ, i64_w, i32_w]
                    rfl
                  refine pure_ (i := 12) (N := some 83) (v := ?_) (a' := ?_) #[true, true, true, true, true, true, true, true, true, true, true, true, true, false, false, false, false, false, false, false, false, false, false, false, false, false, false, false, false, false, false, false, false, false, false, false, false, false, false] rfl rfl (any_of HT_.out (by kernel_rfl)) (fun _ _ _ h => h) (Or.inl ⟨by rfl, ?_⟩) ?_ ?_
                  rotate_left
                  · intro w'
                    go_simp
                    with_reducible rfl
                  rotate_left
                  · simp only [Act.put, List.setIfInBounds_toArray, List.set_cons_zero, List.set_cons_succ, i64_w, i32_w]
                    rfl
                  refine pure_ (i := 13) (N := some 84) (v := ?_) (a' := ?_) #[true, true, true, true, true, true, true, true, true, true, true, true, true, true, false, false, false, false, false, false, false, false, false, false, false, false, false, false, false, false, false, false, false, false, false, false, false, false, false] rfl rfl (any_of HT_.out (by kernel_rfl)) (fun _ _ _ h => h) (Or.inl ⟨by rfl, ?_⟩) ?_ ?_
                  rotate_left
                  · intro w'
                    go_simp
                    with_reducible rfl
                  rotate_left
                  · simp only [Act.put, List.setIfInBounds_toArray, List.set_cons_zero, List.set_cons_succ, i64_w, i32_w]
                    rfl
                  refine pure_ (i := 14) (N := some 85) (v := ?_) (a' := ?_) #[true, true, true, true, true, true, true, true, true, true, true, true, true, true, true, false, false, false, false, false, false, false, false, false, false, false, false, false, false, false, false, false, false, false, false, false, false, false, false] rfl rfl (any_of HT_.out (by kernel_rfl)) (fun _ _ _ h => h) (Or.inl ⟨by rfl, ?_⟩) ?_ ?_
                  rotate_left
                  · intro w'
                    go_simp
                    with_reducible rfl
                  rotate_left
                  · simp only [Act.put, List.setIfInBounds_toArray, List.set_cons_zero, List.set_cons_succ, i64_w, i32_w]
                    rfl
                  refine pure_ (i := 15) (N := some 86) (v := ?_) (a' := ?_) #[true, true, true, true, true, true, true, true, true, true, true, true, true, true, true, true, false, false, false, false, false, false, false, false, false, false, false, false, false, false, false, false, false, false, false, false, false, false, false] rfl rfl (any_of HT_.out (by kernel_rfl)) (fun _ _ _ h => h) (Or.inl ⟨by rfl, ?_⟩) ?_ ?_
                  rotate_left
                  · intro w'
                    go_simp
                    with_reducible rfl
                  rotate_left
                  · simp only [Act.put, List.setIfInBounds_toArray, List.set_cons_zero, List.set_cons_succ, i64_w, i32_w]
                    rfl
                  refine pure_ (i := 16) (N := some 87) (v := ?_) (a' := ?_) #[true, true, true, true, true, true, true, true, true, true, true, true, true, true, true, true, true, false, false, false, false, false, false, false, false, false, false, false, false, false, false, false, false, false, false, false, false, false, false] rfl rfl (any_of HT_.out (by kernel_rfl)) (fun _ _ _ h => h) (Or.inl ⟨by rfl, ?_⟩) ?_ ?_
                  rotate_left
                  · intro w'
                    go_simp
                    with_reducible rfl
                  rotate_left
                  · simp only [Act.put, List.setIfInBounds_toArray, List.set_cons_zero, List.set_cons_succ, i64_w, i32_w]
                    rfl
                  refine pure_ (i := 17) (N := some 88) (v := ?_) (a' := ?_) #[true, true, true, true, true, true, true, true, true, true, true, true, true, true, true, true, true, true, false, false, false, false, false, false, false, false, false, false, false, false, false, false, false, false, false, false, false, false, false] rfl rfl (any_of HT_.out (by kernel_rfl)) (fun _ _ _ h => h) (Or.inl ⟨by rfl, ?_⟩) ?_ ?_
                  rotate_left
                  · intro w'
                    go_simp
                    with_reducible rfl
                  rotate_left
                  · simp only [Act.put, List.setIfInBounds_toArray, List.set_cons_zero, List.set_cons_succ, i64_w, i32_w]
                    rfl
                  refine pure_ (i := 18) (N := some 89) (v := ?_) (a' := ?_) #[true, true, true, true, true, true, true, true, true, true, true, true, true, true, true, true, true, true, true, false, false, false, false, false, false, false, false, false, false, false, false, false, false, false, false, false, false, false, false] rfl rfl (any_of HT_.out (by kernel_rfl)) (fun _ _ _ h => h) (Or.inl ⟨by rfl, ?_⟩) ?_ ?_
                  rotate_left
                  · intro w'
                    go_simp
                    with_reducible rfl
                  rotate_left
                  · simp only [Act.put, List.setIfInBounds_toArray, List.set_cons_zero, List.set_cons_succ, i64_w, i32_w]
                    rfl
                  refine pure_ (i := 19) (N := some 90) (v := ?_) (a' := ?_) #[true, true, true, true, true, true, true, true, true, true, true, true, true, true, true, true, true, true, true, true, false, false, false, false, false, false, false, false, false, false, false, false, false, false, false, false, false, false, false] rfl rfl (any_of HT_.out (by kernel_rfl)) (fun _ _ _ h => h) (Or.inl ⟨by rfl, ?_⟩) ?_ ?_
                  rotate_left
                  · intro w'
                    go_simp
                    with_reducible rfl
                  rotate_left
                  · simp only [Act.put, List.setIfInBounds_toArray, List.set_cons_zero, List.set_cons_succ, i64_w, i32_w]
                    rfl
                  refine pure_ (i := 20) (N := some 91) (v := ?_) (a' := ?_) #[true, true, true, true, true, true, true, true, true, true, true, true, true, true, true, true, true, true, true, true, true, false, false, false, false, false, false, false, false, false, false, false, false, false, false, false, false, false, false] rfl rfl (any_of HT_.out (by kernel_rfl)) (fun _ _ _ h => h) (Or.inl ⟨by rfl, ?_⟩) ?_ ?_
                  rotate_left
                  · intro w'
                    go_simp
                    with_reducible rfl
                  rotate_left
                  · simp only [Act.put, List.setIfInBounds_toArray, List.set_cons_zero, List.set_cons_succ, i64_w, i32_w]
                    rfl
                  refine pure_ (i := 21) (N := some 92) (v := ?_) (a' := ?_) #[true, true, true, true, true, true, true, true, true, true, true, true, true, true, true, true, true, true, true, true, true, true, false, false, false, false, false, false, false, false, false, false, false, false, false, false, false, false, false] rfl rfl (any_of HT_.out (by kernel_rfl)) (fun _ _ _ h => h) (Or.inl ⟨by rfl, ?_⟩) ?_ ?_
                  rotate_left
                  · intro w'
                    go_simp
                    with_reducible rfl
                  rotate_left
                  · simp only [Act.put, List.setIfInBounds_toArray, List.set_cons_zero, List.set_cons_succ, i64_w, i32_w]
                    rfl
                  refine pure_ (i := 22) (N := some 93) (v := ?_) (a' := ?_) #[true, true, true, true, true, true, true, true, true, true, true, true, true, true, true, true, true, true, true, true, true, true, true, false, false, false, false, false, false, false, false, false, false, false, false, false, false, false, false] rfl rfl (any_of HT_.out (by kernel_rfl)) (fun _ _ _ h => h) (Or.inl ⟨by rfl, ?_⟩) ?_ ?_
                  rotate_left
                  · intro w'
                    go_simp
                    with_reducible rfl
                  rotate_left
                  · simp only [Act.put, List.setIfInBounds_toArray, List.set_cons_zero, List.set_cons_succ, i64_w, i32_w]
                    rfl
                  refine pure_ (i := 23) (N := some 94) (v := ?_) (a' := ?_) #[true, true, true, true, true, true, true, true, true, true, true, true, true, true, true, true, true, true, true, true, true, true, true, true, false, false, false, false, false, false, false, false, false, false, false, false, false, false, false] rfl rfl (any_of HT_.out (by kernel_rfl)) (fun _ _ _ h => h) (Or.inl ⟨by rfl, ?_⟩) ?_ ?_
                  rotate_left
                  · intro w'
                    go_simp
                    with_reducible rfl
                  rotate_left
                  · simp only [Act.put, List.setIfInBounds_toArray, List.set_cons_zero, List.set_cons_succ, i64_w, i32_w]
                    rfl
                  refine pure_ (i := 24) (N := some 95) (v := ?_) (a' := ?_) #[true, true, true, true, true, true, true, true, true, true, true, true, true, true, true, true, true, true, true, true, true, true, true, true, true, false, false, false, false, false, false, false, false, false, false, false, false, false, false] rfl rfl (any_of HT_.out (by kernel_rfl)) (fun _ _ _ h => h) (Or.inl ⟨by rfl, ?_⟩) ?_ ?_
                  rotate_left
                  · intro w'
                    go_simp
                    with_reducible rfl
                  rotate_left
                  · simp only [Act.put, List.setIfInBounds_toArray, List.set_cons_zero, List.set_cons_succ, i64_w, i32_w]
                    rfl
                  refine pure_ (i := 25) (N := some 96) (v := ?_) (a' := ?_) #[true, true, true, true, true, true, true, true, true, true, true, true, true, true, true, true, true, true, true, true, true, true, true, true, true, true, false, false, false, false, false, false, false, false, false, false, false, false, false] rfl rfl (any_of HT_.out (by kernel_rfl)) (fun _ _ _ h => h) (Or.inl ⟨by rfl, ?_⟩) ?_ ?_
                  rotate_left
                  · intro w'
                    go_simp
                    with_reducible rfl
                  rotate_left
                  · simp only [Act.put, List.setIfInBounds_toArray, List.set_cons_zero, List.set_cons_succ, i64_w, i32_w]
                    rfl
                  refine pure_ (i := 26) (N := some 97) (v := ?_) (a' := ?_) #[true, true, true, true, true, true, true, true, true, true, true, true, true, true, true, true, true, true, true, true, true, true, true, true, true, true, true, false, false, false, false, false, false, false, false, false, false, false, false] rfl rfl (any_of HT_.out (by kernel_rfl)) (fun _ _ _ h => h) (Or.inl ⟨by rfl, ?_⟩) ?_ ?_
                  rotate_left
                  · intro w'
                    go_simp
                    with_reducible rfl
                  rotate_left
                  · simp only [Act.put, List.setIfInBounds_toArray, List.set_cons_zero, List.set_cons_succ, i64_w, i32_w]
                    rfl
                  refine pure_ (i := 27) (N := some 98) (v := ?_) (a' := ?_) #[true, true, true, true, true, true, true, true, true, true, true, true, true, true, true, true, true, true, true, true, true, true, true, true, true, true, true, true, false, false, false, false, false, false, false, false, false, false, false] rfl rfl (any_of HT_.out (by kernel_rfl)) (fun _ _ _ h => h) (Or.inl ⟨by rfl, ?_⟩) ?_ ?_
                  rotate_left
                  · intro w'
                    go_simp
                    with_reducible rfl
                  rotate_left
                  · simp only [Act.put, List.setIfInBounds_toArray, List.set_cons_zero, List.set_cons_succ, i64_w, i32_w]
                    rfl
                  refine pure_ (i := 28) (N := some 99) (v := ?_) (a' := ?_) #[true, true, true, true, true, true, true, true, true, true, true, true, true, true, true, true, true, true, true, true, true, true, true, true, true, true, true, true, true, false, false, false, false, false, false, false, false, false, false] rfl rfl (any_of HT_.out (by kernel_rfl)) (fun _ _ _ h => h) (Or.inl ⟨by rfl, ?_⟩) ?_ ?_
                  rotate_left
                  · intro w'
                    go_simp
                    with_reducible rfl
                  rotate_left
                  · simp only [Act.put, List.setIfInBounds_toArray, List.set_cons_zero, List.set_cons_succ, i64_w, i32_w]
                    rfl
                  refine pure_ (i := 29) (N := some 100) (v := ?_) (a' := ?_) #[true, true, true, true, true, true, true, true, true, true, true, true, true, true, true, true, true, true, true, true, true, true, true, true, true, true, true, true, true, true, false, false, false, false, false, false, false, false, false] rfl rfl (any_of HT_.out (by kernel_rfl)) (fun _ _ _ h => h) (Or.inl ⟨by rfl, ?_⟩) ?_ ?_
                  rotate_left
                  · intro w'
                    go_simp
                    with_reducible rfl
                  rotate_left
                  · simp only [Act.put, List.setIfInBounds_toArray, List.set_cons_zero, List.set_cons_succ, i64_w, i32_w]
                    rfl
                  refine pure_ (i := 30) (N := some 101) (v := ?_) (a' := ?_) #[true, true, true, true, true, true, true, true, true, true, true, true, true, true, true, true, true, true, true, true, true, true, true, true, true, true, true, true, true, true, true, false, false, false, false, false, false, false, false] rfl rfl (any_of HT_.out (by kernel_rfl)) (fun _ _ _ h => h) (Or.inl ⟨by rfl, ?_⟩) ?_ ?_
                  rotate_left
                  · intro w'
                    go_simp
                    with_reducible rfl
                  rotate_left
                  · simp only [Act.put, List.setIfInBounds_toArray, List.set_cons_zero, List.set_cons_succ, i64_w, i32_w]
                    rfl
                  refine pure_ (i := 31) (N := some 102) (v := ?_) (a' := ?_) #[true, true, true, true, true, true, true, true, true, true, true, true, true, true, true, true, true, true, true, true, true, true, true, true, true, true, true, true, true, true, true, true, false, false, false, false, false, false, false] rfl rfl (any_of HT_.out (by kernel_rfl)) (fun _ _ _ h => h) (Or.inl ⟨by rfl, ?_⟩) ?_ ?_
                  rotate_left
                  · intro w'
                    go_simp
                    with_reducible rfl
                  rotate_left
                  · simp only [Act.put, List.setIfInBounds_toArray, List.set_cons_zero, List.set_cons_succ, i64_w, i32_w]
                    rfl
                  refine pure_ (i := 32) (N := some 103) (v := ?_) (a' := ?_) #[true, true, true, true, true, true, true, true, true, true, true, true, true, true, true, true, true, true, true, true, true, true, true, true, true, true, true, true, true, true, true, true, true, false, false, false, false, false, false] rfl rfl (any_of HT_.out (by kernel_rfl)) (fun _ _ _ h => h) (Or.inl ⟨by rfl, ?_⟩) ?_ ?_
                  rotate_left
                  · intro w'
                    go_simp
                    with_reducible rfl
                  rotate_left
                  · simp only [Act.put, List.setIfInBounds_toArray, List.set_cons_zero, List.set_cons_succ, i64_w, i32_w]
                    rfl
                  refine pure_ (i := 33) (N := some 104) (v := ?_) (a' := ?_) #[true, true, true, true, true, true, true, true, true, true, true, true, true, true, true, true, true, true, true, true, true, true, true, true, true, true, true, true, true, true, true, true, true, true, false, false, false, false, false] rfl rfl (any_of HT_.out (by kernel_rfl)) (fun _ _ _ h => h) (Or.inl ⟨by rfl, ?_⟩) ?_ ?_
                  rotate_left
                  · intro w'
                    go_simp
                    with_reducible rfl
                  rotate_left
                  · simp only [Act.put, List.setIfInBounds_toArray, List.set_cons_zero, List.set_cons_succ, i64_w, i32_w]
                    rfl
                  refine pure_ (i := 34) (N := some 105) (v := ?_) (a' := ?_) #[true, true, true, true, true, true, true, true, true, true, true, true, true, true, true, true, true, true, true, true, true, true, true, true, true, true, true, true, true, true, true, true, true, true, true, false, false, false, false] rfl rfl (any_of HT_.out (by kernel_rfl)) (fun _ _ _ h => h) (Or.inl ⟨by rfl, ?_⟩) ?_ ?_
                  rotate_left
                  · intro w'
                    go_simp
                    with_reducible rfl
                  rotate_left
                  · simp only [Act.put, List.setIfInBounds_toArray, List.set_cons_zero, List.set_cons_succ, i64_w, i32_w]
                    rfl
                  refine pure_ (i := 35) (N := some 106) (v := ?_) (a' := ?_) #[true, true, true, true, true, true, true, true, true, true, true, true, true, true, true, true, true, true, true, true, true, true, true, true, true, true, true, true, true, true, true, true, true, true, true, true, false, false, false] rfl rfl (any_of HT_.out (by kernel_rfl)) (fun _ _ _ h => h) (Or.inl ⟨by rfl, ?_⟩) ?_ ?_
                  rotate_left
                  · intro w'
                    go_simp
                    with_reducible rfl
                  rotate_left
                  · simp only [Act.put, List.setIfInBounds_toArray, List.set_cons_zero, List.set_cons_succ, i64_w, i32_w]
                    rfl
                  refine one_ (i := 36) (N := some 107) #[true, true, true, true, true, true, true, true, true, true, true, true, true, true, true, true, true, true, true, true, true, true, true, true, true, true, true, true, true, true, true, true, true, true, true, true, true, false, false] rfl rfl (one_of HT_.out (by kernel_rfl)) (by decide) (fun K hK => ?_)
                  refine goes_ Try.func12 (by kernel_rfl) rfl #[] (by rfl) rfl rfl (by (try simp only [List.map_toArray, List.map_cons, List.map_nil]); first | done | rfl | (simp only [List.length_drop, List.length_take]; rfl)) ?_
                  with_reducible refine (goosenecklaw06_known.calls k  t117 _ A26.out).mono ?_
                  rintro e w41 ⟨rfl, hb⟩
                  refine ⟨_, rfl, ?_⟩
                  have n0_ := Aside0.mk (blk_below (g := gb101) (o := .cells #[.int .i64 a3_0, .int .i64 a3_1, .int .i64 a3_2] 43 (0, 0)) (by (with_reducible repeat (first | refine blk_drewN ?_ _ | refine blk_drew ?_ | refine blk_alloc ?_ _)); exact BK101.out) hb)
                  have n1_ := Aside0.mk (below_step (by repeat (first | (with_reducible first | exact HB.out | apply below_alloc | apply pw_below_drewN | apply below_drew1 | refine below_set ?_ GE101.out) | exact HB.out)) hb)
                  clear BK101
                  clear HB
                  have BK101 := n0_
                  have HB := n1_
                  clear n0_ n1_
                  (try clear hb)
                  (try clear hb2)
                  (try clear hk)
                  (try clear hi)
                  refine hK.out _ _ ⟨(blk_cell BK101.out 0).trans rfl, (blk_cell BK101.out 1).trans rfl, (blk_cell BK101.out 2).trans rfl⟩ (fun hHeld => ?_)
                  clear hK K
                  refine norm_ (a' := ?_) ?_ ?_
                  rotate_left
                  · show Act.put _ (some 107) _ = _
                    simp only [Act.put, List.setIfInBounds_toArray, List.set_cons_zero, List.set_cons_succ, i64_w, i32_w]
                    rfl
                  refine pure_ (i := 37) (N := some 108) (v := ?_) (a' := ?_) #[true, true, true, true, true, true, true, true, true, true, true, true, true, true, true, true, true, true, true, true, true, true, true, true, true, true, true, true, true, true, true, true, true, true, true, true, true, true, false] rfl rfl (any_of HT_.out (by kernel_rfl)) (fun _ _ _ h => h) (Or.inl ⟨by rfl, ?_⟩) ?_ ?_
                  rotate_left
                  · intro w'
                    go_simp
                    with_reducible rfl
                  rotate_left
                  · simp only [Act.put, List.setIfInBounds_toArray, List.set_cons_zero, List.set_cons_succ, i64_w, i32_w]
                    rfl
                  refine pure_ (i := 38) (N := some 12) (v := ?_) (a' := ?_) #[true, true, true, true, true, true, true, true, true, true, true, true, true, true, true, true, true, true, true, true, true, true, true, true, true, true, true, true, true, true, true, true, true, true, true, true, true, true, true] rfl rfl (any_of HT_.out (by kernel_rfl)) (fun _ _ _ h => h) (Or.inl ⟨by rfl, ?_⟩) ?_ ?_
                  rotate_left
                  · intro w'
                    go_simp
                    with_reducible rfl
                  rotate_left
                  · simp only [Act.put, List.setIfInBounds_toArray, List.set_cons_zero, List.set_cons_succ, i64_w, i32_w]
                    rfl
                  refine done_ (done_of HT_.out (by kernel_rfl)) ?_
                  try go_wp2
                  go_ret
                  exact ⟨by first | rfl | (simp [errW_none, errW_some] <;> rfl) | (simp [*, errW_none, errW_some] <;> rfl), by repeat (first | (with_reducible first | exact HB.out | apply below_alloc | apply pw_below_drewN | apply below_drew1 | refine below_set ?_ GE101.out) | exact HB.out)⟩
                · rw [if_neg c25] at H
                  have c25b0 : (t112 == t114) = false := beq_eq_false_iff_ne.mpr c25
                  have c25b1 : (t112 != t114) = true := bne_iff_ne.mpr c25
                  rw [hr_.out] at H
                  exact absurd H (by simp)
              · rw [if_neg c24] at H
                have c24b0 : (t108 == t110) = false := beq_eq_false_iff_ne.mpr c24
                have c24b1 : (t108 != t110) = true := bne_iff_ne.mpr c24
                rw [hr_.out] at H
                exact absurd H (by simp)
            · rw [if_neg c23] at H
              have c23b0 : (t104 == t106) = false := beq_eq_false_iff_ne.mpr c23
              have c23b1 : (t104 != t106) = true := bne_iff_ne.mpr c23
              rw [hr_.out] at H
              exact absurd H (by simp)
          · rw [if_neg c22] at H
            have c22b0 : (t111 == t113) = false := beq_eq_false_iff_ne.mpr c22
            have c22b1 : (t111 != t113) = true := bne_iff_ne.mpr c22
            rw [hr_.out] at H
            exact absurd H (by simp)
        · rw [if_neg c21] at H
          have c21b0 : (t107 == t109) = false := beq_eq_false_iff_ne.mpr c21
          have c21b1 : (t107 != t109) = true := bne_iff_ne.mpr c21
          rw [hr_.out] at H
          exact absurd H (by simp)
      · rw [if_neg c20] at H
        have c20b0 : (t103 == t105) = false := beq_eq_false_iff_ne.mpr c20
        have c20b1 : (t103 != t105) = true := bne_iff_ne.mpr c20
        rw [hr_.out] at H
        exact absurd H (by simp)
    · rw [if_neg c19] at H
      have c19b0 : (t115 == t116) = false := beq_eq_false_iff_ne.mpr c19
      have c19b1 : (t115 != t116) = true := bne_iff_ne.mpr c19
      rw [hr_.out] at H
      exact absurd H (by simp)
end Go.Proofs.Ytiklpefckadgdaa.P
namespace Go.Proofs.Ytiklpefckadgdaa.P
open Go.RowKit Go.Deep Go.ChangeShapes Go.WideShapes Go.Proofs.YtiklpefckadgdaaW.PrintWords Go.Proofs.YtiklpefckadgdaaW.PrintLast Go.Proofs.YtiklpefckadgdaaW.PrintMore
def Opens {α : Type} (P : Program) (t : TypeId) (d : Kd α) (wf : α → Prop) : Prop :=
  ∀ (H : Type) (enc : TypeId × Value → H) (w : World) (base : Nat) (spare : Nat → Bool) (held : Bool) (fuel : Nat) (cs : List Value) (x : DataW H × List MemPlace), DataW.trod enc P w base spare held fuel t cs = some x → ∃ a : α, d.K w a cs ∧ wf a
def FieldsOpen {α : Type} (P : Program) (fs : List Field) (off : Nat) (d : Kd α) (wf : α → Prop) : Prop :=
  ∀ (H : Type) (enc : TypeId × Value → H) (w : World) (base : Nat) (spare : Nat → Bool) (held : Bool) (cs : List Value), (∀ f ∈ fs, ∃ n y, DataW.trod enc P w base spare held n f.type ((cs.drop f.offset).take (P.cellsOf f.type)) = some y) → cs.length = off + d.sz → ∃ a : α, d.K w a (cs.drop off) ∧ wf a
theorem Opens.int {P : Program} {t : TypeId} {k : IntKind} (hu : P.underlying t = some (.int k)) : Opens P t (Kd.int k) (fun n => (Lit.int k n).wf = true) := by
  intro H enc w base spare held fuel cs x h
  obtain ⟨n, rfl, _, hw⟩ := DataW.trod_int hu h
  exact ⟨n, rfl, hw⟩
theorem Opens.bool {P : Program} {t : TypeId} (hu : P.underlying t = some .bool) : Opens P t Kd.bool (fun _ => True) := by
  intro H enc w base spare held fuel cs x h
  obtain ⟨n, rfl, _⟩ := DataW.trod_bool hu h
  exact ⟨n, rfl, trivial⟩
theorem FieldsOpen.one {α : Type} {P : Program} {f : Field} {off : Nat} {d : Kd α} {wf : α → Prop} (ho : f.offset = off) (hs : P.cellsOf f.type = d.sz) (h : Opens P f.type d wf) : FieldsOpen P [f] off d wf := by
  intro H enc w base spare held cs hf hl
  obtain ⟨n, y, hy⟩ := hf f (List.mem_singleton.2 rfl)
  rw [ho, hs, List.take_of_length_le (by rw [List.length_drop]; omega)] at hy
  exact h H enc w base spare held n _ y hy
theorem FieldsOpen.cons {α β : Type} {P : Program} {f : Field} {fs : List Field} {off : Nat} {d : Kd α} {d' : Kd β} {wf : α → Prop} {wf' : β → Prop} (ho : f.offset = off) (hs : P.cellsOf f.type = d.sz) (h : Opens P f.type d wf) (h' : FieldsOpen P fs (off + d.sz) d' wf') :
    FieldsOpen P (f :: fs) off (Kd.pair d d') (fun x => wf x.1 ∧ wf' x.2) := by
  intro H enc w base spare held cs hf hl
  have hl' : cs.length = off + (d.sz + d'.sz) := hl
  obtain ⟨n, y, hy⟩ := hf f (List.mem_cons_self ..)
  rw [ho, hs] at hy
  obtain ⟨a, ha, wa⟩ := h H enc w base spare held n _ y hy
  obtain ⟨b, hb, wb⟩ := h' H enc w base spare held cs (fun g hg => hf g (List.mem_cons_of_mem _ hg)) (by omega)
  refine ⟨(a, b), ⟨_, _, ?_, ha, hb⟩, wa, wb⟩
  rw [← List.drop_drop, List.take_append_drop]
theorem Opens.struct {α : Type} {P : Program} {t : TypeId} {fs : Array Field} {d : Kd α} {wf : α → Prop} (hu : P.underlying t = some (.struct fs)) (hs : P.cellsOf t = d.sz) (h : FieldsOpen P fs.toList 0 d wf) : Opens P t d wf := by
  intro H enc w base spare held fuel cs x hx
  obtain ⟨xs, n, _, _, hl, hlen, hf⟩ := DataW.trod_struct hu hx
  have hk := h H enc w base spare held cs (fun f hf' => by
    obtain ⟨i, hi⟩ := List.getElem?_of_mem hf'
    have h1 := hf i f (by simpa using hi)
    have hlt : i < xs.length := by
      have := (List.getElem?_eq_some_iff.1 hi).1
      rw [hlen]; simpa using this
    rw [List.getElem?_eq_getElem hlt] at h1
    exact ⟨n, _, h1⟩) (by rw [hl, hs]; omega)
  simpa using hk
theorem Opens.iso {α β : Type} {P : Program} {t : TypeId} {d : Kd α} {f : β → α} {wf : α → Prop} (g : α → β) (hg : ∀ a, f (g a) = a) (h : Opens P t d wf) : Opens P t (Kd.iso d f) (fun b => wf (f b)) := by
  intro H enc w base spare held fuel cs x hx
  obtain ⟨a, ha, wa⟩ := h H enc w base spare held fuel cs x hx
  exact ⟨g a, by show d.K w (f (g a)) cs; rw [hg]; exact ha, by show wf (f (g a)); rw [hg]; exact wa⟩
theorem Opens.slice {α : Type} {P : Program} {t e : TypeId} {d : Kd α} {wf : α → Prop} (hu : P.underlying t = some (.slice e)) (hs : P.cellsOf e = d.sz) (h : Opens P e d wf) : Opens P t (Kd.slice e d) (fun l => l.length ≤ 9223372036854775807 ∧ ∀ x ∈ l, wf x) := by
  intro H enc w base spare held fuel cs x hx
  rcases open_slice hu hx with ⟨rfl, _⟩ | ⟨a, len, cap, m, n, D, Pl, rfl, hb, hl, hm, hmm, _, hel⟩
  · exact ⟨[], ⟨none, 0, rfl, Nat.le_refl _, rfl, by simp, fun h => absurd h (Nat.lt_irrefl 0)⟩, by simp, fun x hx => by cases hx⟩
  · have hlm : len ≤ m := by rw [hmm]; split <;> omega
    have hmx : cap ≤ 9223372036854775807 := by simpa [maxLen] using hm
    have key : ∀ k, k ≤ len → ∃ xs : List α, xs.length = k ∧ (∀ x ∈ xs, wf x) ∧ ∀ j p, xs[j]? = some p → ∃ c, c.length = d.sz ∧ d.K w p c ∧ ∀ i u, c[i]? = some u → w.cell? (a.add (j * d.sz + i)) = some u := by
      intro k
      induction k with
      | zero => intro _; exact ⟨[], rfl, (fun x hx => by cases hx), fun j p hj => by simp at hj⟩
      | succ k ih =>
        intro hk
        obtain ⟨xs, hxl, hxw, hxs⟩ := ih (by omega)
        obtain ⟨cs', hcs, htr⟩ := hel k (by omega)
        obtain ⟨_, hcl, hcell⟩ := World.cells?_some hcs
        obtain ⟨p, hp, wp⟩ := h H enc w base spare held n cs' _ htr
        refine ⟨xs ++ [p], by simp [hxl], ?_, ?_⟩
        · intro x hx
          rcases List.mem_append.1 hx with hx | hx
          · exact hxw x hx
          · rw [List.mem_singleton.1 hx]; exact wp
        · intro j q hj
          rcases Nat.lt_or_ge j xs.length with hj' | hj'
          · rw [List.getElem?_append_left hj'] at hj
            exact hxs j q hj
          · have hjk : j = k := by
              have := (List.getElem?_eq_some_iff.1 hj).1
              rw [List.length_append, List.length_singleton] at this
              omega
            subst hjk
            rw [List.getElem?_append_right (by omega)] at hj
            have hq : p = q := by simpa [hxl] using hj
            subst hq
            refine ⟨cs', by rw [hcl, hs], hp, fun i u hi => ?_⟩
            have hi' : i < cs'.length := (List.getElem?_eq_some_iff.1 hi).1
            have := hcell i (by omega)
            rw [Deep.add_add, hs] at this
            rw [this, hi]
    obtain ⟨xs, hxl, hxw, hxs⟩ := key len (Nat.le_refl _)
    subst hxl
    exact ⟨xs, ⟨some a, cap, rfl, hl, rfl, by omega, fun _ => ⟨a, rfl, hxs⟩⟩, by omega, hxw⟩
end Go.Proofs.Ytiklpefckadgdaa.P
namespace Go.Proofs.Ytiklpefckadgdaa.P
open Go.RowKit Go.Proofs.YtiklpefckadgdaaW.PrintWords Go.Proofs.YtiklpefckadgdaaW.PrintLast Go.Proofs.YtiklpefckadgdaaW.PrintMore
open Go.Deep Go.ChangeShapes Go.WideShapes
def wfS35 (x : S35) : Prop := (Lit.int .i64 x.f0).wf = true ∧ (Lit.int .i64 x.f1).wf = true
theorem opens35 : Opens Try.prog 35 k35 wfS35 := Opens.iso (fun a => ⟨a.1, a.2⟩) (fun a => rfl) (Opens.struct Try.underlying35 (by kernel_rfl) (FieldsOpen.cons rfl (by kernel_rfl) (Opens.int Try.underlying2) (FieldsOpen.one rfl (by kernel_rfl) (Opens.int Try.underlying2))))
def wfS43 (x : S43) : Prop := (Lit.int .i64 x.f0).wf = true ∧ (Lit.int .i64 x.f1).wf = true ∧ (Lit.int .i64 x.f2).wf = true
theorem opens43 : Opens Try.prog 43 k43 wfS43 := Opens.iso (fun a => ⟨a.1, a.2.1, a.2.2⟩) (fun a => rfl) (Opens.struct Try.underlying43 (by kernel_rfl) (FieldsOpen.cons rfl (by kernel_rfl) (Opens.int Try.underlying2) (FieldsOpen.cons rfl (by kernel_rfl) (Opens.int Try.underlying2) (FieldsOpen.one rfl (by kernel_rfl) (Opens.int Try.underlying3)))))
end Go.Proofs.Ytiklpefckadgdaa.P
noncomputable section
namespace Go.Proofs.Ytiklpefckadgdaa.P
open Go.RowKit Go.Proofs.YtiklpefckadgdaaW.PrintWords Go.Proofs.YtiklpefckadgdaaW.PrintLast Go.Proofs.YtiklpefckadgdaaW.PrintMore
def BridgeGround_Pure : Prop := ∀ (l0 : List (S35)) (a1 : Int) (a2 : Int) (x3 : S43) (a4 : Int) (a5 : Int), (l0.length ≤ 9223372036854775807 ∧ ∀ x_ ∈ l0, wfS35 x_) → ((Lit.int .i64 a1).wf = true) → ((Lit.int .i64 a2).wf = true) → (wfS43 x3) → ((Lit.int .i64 a4).wf = true) → ((Lit.int .i64 a5).wf = true) → ∃ k, goosenecklaw06_BridgeGround.f k l0 a1 a2 x3.f0 x3.f1 x3.f2 a4 a5 = some true
end Go.Proofs.Ytiklpefckadgdaa.P
namespace Go.Proofs.Ytiklpefckadgdaa.P
open Go.RowKit Go.Proofs.YtiklpefckadgdaaW.PrintWords Go.Proofs.YtiklpefckadgdaaW.PrintLast Go.Proofs.YtiklpefckadgdaaW.PrintMore
theorem w64 {x : Int} (h0 : -9223372036854775808 ≤ x) (h1 : x ≤ 9223372036854775807) : wrap64 x = x := by unfold wrap64; omega
def inR (x lo hi : Int) : Bool := decide (lo ≤ x) && decide (x ≤ hi)
theorem inR_iff {x lo hi : Int} : inR x lo hi = true ↔ lo ≤ x ∧ x ≤ hi := by simp [inR]
theorem between_eq (x lo hi : Int) : bridge_between.f x lo hi = some (inR x lo hi) := by
  unfold bridge_between.f inR; split <;> rename_i h
  · have : lo ≤ x := h
    simp [this]
  · have : ¬ lo ≤ x := h
    simp [this]
def trainOk : Int → Bool → List S35 → Bool
  | _, _, [] => true
  | last, first, x :: r => decide (last ≤ x.f0) && (decide (x.f0 ≤ 262144) && ((!first || decide (x.f0 = 0)) && (inR x.f1 0 1048576 && trainOk x.f0 false r)))
def errT (l : List S35) : Int := if (l.length : Int) < 1 ∨ (l.length : Int) > 64 then 6 else if trainOk 0 true l = true then 0 else 2
theorem train_loop (l : List S35) (hl : l.length ≤ 64) (d : Nat) : ∀ (i : Nat) (last : Int), l.length - i = d → i ≤ l.length →
    Ev (fun k => bridge_CheckTrain.l0 k last l (l.length : Int) (i : Int)) (if trainOk last (decide (i = 0)) (l.drop i) = true then 0 else 2) := by
  induction d with
  | zero =>
    intro i last hd hi
    have he : i = l.length := by omega
    subst he
    rw [List.drop_length]
    refine Ev.step (f := fun _ => some 0) (fun k => ?_) (Ev.now _)
    simp only [bridge_CheckTrain.l0]
    rw [if_neg (by omega)]
  | succ d ih =>
    intro i last hd hi
    have hlt : i < l.length := by omega
    rw [List.drop_eq_getElem_cons hlt, trainOk]
    have hrec := ih (i + 1) l[i].f0 (by omega) (by omega)
    rw [show decide (i + 1 = 0) = false by simp] at hrec
    have hw : wrap64 ((i : Int) + 1) = ((i + 1 : Nat) : Int) := by rw [w64 (by omega) (by omega)]; rfl
    have hs : ∀ k, bridge_CheckTrain.l0 (k + 1) last l (l.length : Int) (i : Int) = if l[i].f0 < last then some 2 else if l[i].f0 > 262144 then some 2 else if (i : Int) = 0 then (if l[i].f0 = 0 then (if inR l[i].f1 0 1048576 = true then bridge_CheckTrain.l0 k l[i].f0 l (l.length : Int) ((i + 1 : Nat) : Int) else some 2) else some 2) else (if inR l[i].f1 0 1048576 = true then bridge_CheckTrain.l0 k l[i].f0 l (l.length : Int) ((i + 1 : Nat) : Int) else some 2) := by
      intro k
      simp only [bridge_CheckTrain.l0]
      rw [if_pos (by omega), if_pos (by omega), if_pos (by omega), rd35_get l i hlt, between_eq, hw]
      rfl
    refine Ev.step hs ?_
    by_cases h1 : l[i].f0 < last
    · simp only [if_pos h1]
      rw [if_neg (by simp; omega)]; exact Ev.now _
    · simp only [if_neg h1]
      by_cases h2 : l[i].f0 > 262144
      · simp only [if_pos h2]
        rw [if_neg (by simp; omega)]; exact Ev.now _
      · simp only [if_neg h2]
        have a1 : decide (last ≤ l[i].f0) = true := by simp; omega
        have a2 : decide (l[i].f0 ≤ 262144) = true := by simp; omega
        rw [a1, a2, Bool.true_and, Bool.true_and]
        cases h3 : inR l[i].f1 0 1048576
        · have : ((!decide (i = 0) || decide (l[i].f0 = 0)) && (false && trainOk l[i].f0 false (l.drop (i + 1)))) = false := by simp
          rw [this]
          simp only [Bool.false_eq_true, if_false]
          by_cases h4 : (i : Int) = 0
          · simp only [if_pos h4]
            by_cases h5 : l[i].f0 = 0
            · simp only [if_pos h5, Bool.false_eq_true, if_false]; exact Ev.now _
            · simp only [if_neg h5, Bool.false_eq_true, if_false]; exact Ev.now _
          · simp only [if_neg h4, Bool.false_eq_true, if_false]; exact Ev.now _
        · by_cases h4 : (i : Int) = 0
          · simp only [if_pos h4, if_true]
            by_cases h5 : l[i].f0 = 0
            · simp only [if_pos h5]
              have : ((!decide (i = 0) || decide (l[i].f0 = 0)) && (true && trainOk l[i].f0 false (l.drop (i + 1)))) = trainOk l[i].f0 false (l.drop (i + 1)) := by simp [h5]
              rw [this]; exact hrec
            · simp only [if_neg h5]
              have : ((!decide (i = 0) || decide (l[i].f0 = 0)) && (true && trainOk l[i].f0 false (l.drop (i + 1)))) = false := by simp [h5]; omega
              rw [this]; exact Ev.now _
          · simp only [if_neg h4, if_true]
            have : ((!decide (i = 0) || decide (l[i].f0 = 0)) && (true && trainOk l[i].f0 false (l.drop (i + 1)))) = trainOk l[i].f0 false (l.drop (i + 1)) := by
              have : ¬ i = 0 := by omega
              simp [this]
            rw [this]; exact hrec
theorem checkTrain_ev (l : List S35) : Ev (fun k => bridge_CheckTrain.f k l) (errT l) := by
  unfold bridge_CheckTrain.f errT
  by_cases h1 : (l.length : Int) < 1
  · rw [if_pos (.inl h1)]
    simp only [if_pos h1]
    refine Ev.step (f := fun _ => some 6) (fun k => ?_) (Ev.now _)
    rw [bridge_CheckTrain.j0, if_pos rfl]
  · simp only [if_neg h1]
    by_cases h2 : (l.length : Int) > 64
    · rw [if_pos (.inr h2)]
      refine Ev.step (f := fun _ => some 6) (fun k => ?_) (Ev.now _)
      rw [bridge_CheckTrain.j0, if_pos (by simpa using h2)]
    · rw [if_neg (by omega)]
      refine Ev.step (fun k => ?_) (train_loop l (by omega) l.length 0 0 (by omega) (by omega))
      rw [bridge_CheckTrain.j0, if_neg (by simpa using h2)]
      rfl
theorem errT_zero {l : List S35} (h : errT l = 0) : 1 ≤ l.length ∧ l.length ≤ 64 ∧ trainOk 0 true l = true := by
  unfold errT at h
  split at h
  · cases h
  · split at h
    · exact ⟨by omega, by omega, by assumption⟩
    · cases h
theorem trainOk_all {l : List S35} : ∀ {last : Int} {first : Bool}, trainOk last first l = true → ∀ x ∈ l, last ≤ x.f0 ∧ x.f0 ≤ 262144 ∧ 0 ≤ x.f1 ∧ x.f1 ≤ 1048576 := by
  induction l with
  | nil => intro _ _ _ x hx; cases hx
  | cons y r ih =>
    intro last first h x hx
    simp only [trainOk, Bool.and_eq_true, decide_eq_true_eq, inR_iff] at h
    obtain ⟨h1, h2, _, h3, h4⟩ := h
    rcases List.mem_cons.1 hx with rfl | hx
    · exact ⟨h1, h2, h3⟩
    · have := ih h4 x hx
      omega
theorem or80 (a b : Int) : cmp_Or_80.f 3 [a, b] = some (if a ≠ 0 then a else b) := by
  by_cases h : a = 0
  · subst h
    by_cases h2 : b = 0
    · subst h2; decide +kernel
    · simp [cmp_Or_80.f, cmp_Or_80.l0, h2, rd, wrap64]
  · simp [cmp_Or_80.f, cmp_Or_80.l0, h, rd]
end Go.Proofs.Ytiklpefckadgdaa.P
namespace Go.Proofs.Ytiklpefckadgdaa.P
open Go.RowKit Go.Proofs.YtiklpefckadgdaaW.PrintWords Go.Proofs.YtiklpefckadgdaaW.PrintLast Go.Proofs.YtiklpefckadgdaaW.PrintMore
def upI (n d : Int) : Int := (n + d - 1) / d
theorem up_eq {n d : Int} (hn : 0 ≤ n) (hn1 : n ≤ 4611686018427387904) (hd : 1 ≤ d) (hd1 : d ≤ 1048576) : bridge_up.f n d = some (upI n d) := by
  unfold bridge_up.f upI
  rw [if_neg (by omega), w64 (x := n + d) (by omega) (by omega), w64 (x := n + d - 1) (by omega) (by omega), Int.tdiv_eq_ediv_of_nonneg (by omega)]
  have h0 : 0 ≤ (n + d - 1) / d := Int.ediv_nonneg (by omega) (by omega)
  have h1 : (n + d - 1) / d ≤ n + d - 1 := Int.ediv_le_self _ (by omega)
  rw [w64 (by omega) (by omega)]
theorem upI_nonneg {n d : Int} (hn : 0 ≤ n) (hd : 1 ≤ d) : 0 ≤ upI n d := Int.ediv_nonneg (by omega) (by omega)
theorem upI_le {n d : Int} (hn : 0 ≤ n) (hd : 1 ≤ d) : upI n d ≤ n := by
  unfold upI
  by_cases h : n = 0
  · subst h
    have : (0 + d - 1) / d = 0 := Int.ediv_eq_zero_of_lt (by omega) (by omega)
    omega
  · have h1 : (n + d - 1) / d < n + 1 := by
      refine Int.ediv_lt_of_lt_mul (by omega) ?_
      have : n * 1 ≤ n * d := Int.mul_le_mul_of_nonneg_left hd hn
      rw [Int.add_mul]
      omega
    omega
def errPv (load life power : Int) : Int := if inR load 1 1048576 = true ∧ inR life 1 1048576 = true ∧ 1 ≤ power ∧ power ≤ 6 then 0 else 2
theorem checkPv_eq (a b c : Int) : bridge_CheckPavement.f a b c = some (errPv a b c) := by
  unfold bridge_CheckPavement.f errPv
  rw [between_eq, between_eq]
  simp only [Option.bind_some]
  by_cases h1 : inR a 1 1048576 = true
  · by_cases h2 : inR b 1 1048576 = true
    · simp only [h1, h2, if_true, true_and]
      by_cases h3 : c < 1
      · rw [if_pos h3, if_neg (by omega)]
      · rw [if_neg h3]
        by_cases h4 : c > 6
        · rw [if_pos h4, if_neg (by omega)]
        · rw [if_neg h4, if_pos (by omega)]
    · simp [h1, h2]
  · simp [h1]
theorem errPv_zero {a b c : Int} (h : errPv a b c = 0) : (1 ≤ a ∧ a ≤ 1048576) ∧ (1 ≤ b ∧ b ≤ 1048576) ∧ 1 ≤ c ∧ c ≤ 6 := by
  unfold errPv at h
  split at h
  · rename_i g
    exact ⟨inR_iff.1 g.1, inR_iff.1 g.2.1, g.2.2⟩
  · cases h
def wk (r : Int) : Nat → Int → Int
  | 0, w => w
  | n + 1, w => if w ≤ 1073741824 then wk r n (upI (w * r) 1000) else w
def wA (load power P : Int) : Int := wk (upI (P * 1000) load) (power - 1).toNat (upI (P * 1000) load)
def wearS (load power : Int) : Int → List S35 → Option Int
  | all, [] => some all
  | all, x :: r => if wA load power x.f1 > 1073741824 ∨ all + wA load power x.f1 > 1073741824 then none else wearS load power (all + wA load power x.f1) r
theorem wk_nonneg {r : Int} (hr : 0 ≤ r) : ∀ (n : Nat) (w : Int), 0 ≤ w → 0 ≤ wk r n w
  | 0, w, h => h
  | n + 1, w, h => by
    rw [wk]
    split
    · exact wk_nonneg hr n _ (upI_nonneg (Int.mul_nonneg h hr) (by omega))
    · exact h
theorem wA_nonneg {load power P : Int} (hl : 1 ≤ load) (hP : 0 ≤ P) : 0 ≤ wA load power P := wk_nonneg (upI_nonneg (by omega) hl) _ _ (upI_nonneg (by omega) hl)
theorem wearS_bd {load power : Int} (hl : 1 ≤ load) : ∀ {l : List S35} {all s : Int}, (∀ x ∈ l, 0 ≤ x.f1) → 0 ≤ all → all ≤ 1073741824 → wearS load power all l = some s → all ≤ s ∧ s ≤ 1073741824
  | [], all, s, _, _, h1, h => by cases h; exact ⟨Int.le_refl _, h1⟩
  | x :: r, all, s, hx, h0, h1, h => by
    rw [wearS] at h
    split at h
    · cases h
    · have := wA_nonneg (power := power) hl (hx x (List.mem_cons_self ..))
      have := wearS_bd hl (fun y hy => hx y (List.mem_cons_of_mem _ hy)) (by omega) (by omega) h
      omega
theorem bd_mul {w r : Int} (h0 : 0 ≤ w) (h1 : w ≤ 1125899906842624) (r0 : 0 ≤ r) (r1 : r ≤ 1048576000) (hw : w ≤ 1073741824) : 0 ≤ w * r ∧ w * r ≤ 1125899906842624000 := by
  have := Int.mul_nonneg h0 r0
  have := Int.mul_le_mul hw r1 r0 (by omega)
  omega
theorem wear_loop (load life power : Int) (l : List S35) (hload : 1 ≤ load ∧ load ≤ 1048576) (hpow : 1 ≤ power ∧ power ≤ 6) (hl : l.length ≤ 64) (hf : ∀ x ∈ l, 0 ≤ x.f1 ∧ x.f1 ≤ 1048576) (d : Nat) : ∀ (i : Nat) (all : Int), l.length - i = d → i ≤ l.length → 0 ≤ all → all ≤ 1073741824 →
    Ev (fun k => bridge_wear.l0 k all l (l.length : Int) (i : Int) load life power) (match wearS load power all (l.drop i) with | some s => (s, 0) | none => (0, 4)) := by
  induction d with
  | zero =>
    intro i all hd hi h0 h1
    have he : i = l.length := by omega
    subst he
    rw [List.drop_length, wearS]
    refine Ev.step (f := fun _ => some (all, 0)) (fun k => ?_) (Ev.now _)
    simp only [bridge_wear.l0]
    rw [if_neg (by omega)]
  | succ d ih =>
    intro i all hd hi h0 h1
    have hlt : i < l.length := by omega
    have hx := hf _ (List.getElem_mem hlt)
    rw [List.drop_eq_getElem_cons hlt, wearS]
    have hr0 : 0 ≤ upI (l[i].f1 * 1000) load := upI_nonneg (by omega) hload.1
    have hr1 : upI (l[i].f1 * 1000) load ≤ 1048576000 := Int.le_trans (upI_le (by omega) hload.1) (by omega)
    have hw : wrap64 ((i : Int) + 1) = ((i + 1 : Nat) : Int) := by rw [w64 (by omega) (by omega)]; rfl
    have hinner : ∀ (n : Nat) (w : Int) (q : Int), 0 ≤ w → w ≤ 1125899906842624 → 1 ≤ q → q + n = power → Ev (fun k => bridge_wear.l1 k all (upI (l[i].f1 * 1000) load) w q l (l.length : Int) (i : Int) load life power)
        (match (if wk (upI (l[i].f1 * 1000) load) n w > 1073741824 ∨ all + wk (upI (l[i].f1 * 1000) load) n w > 1073741824 then none else wearS load power (all + wk (upI (l[i].f1 * 1000) load) n w) (l.drop (i + 1))) with | some s => (s, 0) | none => (0, 4)) := by
      intro n
      generalize upI (l[i].f1 * 1000) load = r at hr0 hr1 ⊢
      induction n with
      | zero =>
        intro w q w0 w1 q0 q1
        rw [wk]
        have hs : ∀ k, bridge_wear.l1 (k + 1) all r w q l (l.length : Int) (i : Int) load life power = if w > 1073741824 then some (0, 4) else if all + w > 1073741824 then some (0, 4) else bridge_wear.l0 k (all + w) l (l.length : Int) ((i + 1 : Nat) : Int) load life power := by
          intro k
          rw [bridge_wear.l1, if_neg (by omega), w64 (x := all + w) (by omega) (by omega), hw]
        refine Ev.step hs ?_
        by_cases c1 : w > 1073741824
        · simp only [if_pos c1]
          rw [if_pos (.inl c1)]
          exact Ev.now _
        · simp only [if_neg c1]
          by_cases c2 : all + w > 1073741824
          · simp only [if_pos c2]
            rw [if_pos (.inr c2)]
            exact Ev.now _
          · simp only [if_neg c2]
            rw [if_neg (by omega)]
            exact ih (i + 1) (all + w) (by omega) (by omega) (by omega) (by omega)
      | succ n ihn =>
        intro w q w0 w1 q0 q1
        rw [wk]
        by_cases c : w ≤ 1073741824
        · rw [if_pos c]
          obtain ⟨m0, m1⟩ := bd_mul w0 w1 hr0 hr1 c
          have hu := up_eq (n := w * r) (d := 1000) m0 (by omega) (by omega) (by omega)
          have hu1 : upI (w * r) 1000 ≤ 1125899906842624 := by unfold upI; omega
          refine Ev.step (fun k => ?_) (ihn (upI (w * r) 1000) (q + 1) (upI_nonneg m0 (by omega)) hu1 (by omega) (by omega))
          rw [bridge_wear.l1, if_pos (by omega), if_pos c, w64 (x := w * r) (by omega) (by omega), hu, Option.bind_some, w64 (x := q + 1) (by omega) (by omega)]
        · rw [if_neg c, if_pos (.inl (by omega))]
          refine Ev.step (f := fun _ => some (0, 4)) (fun k => ?_) (Ev.now _)
          rw [bridge_wear.l1, if_pos (by omega), if_neg c, if_pos (by omega)]
    have hu := up_eq (n := l[i].f1 * 1000) (d := load) (by omega) (by omega) hload.1 hload.2
    refine Ev.step (fun k => ?_) (hinner (power - 1).toNat (upI (l[i].f1 * 1000) load) 1 hr0 (by omega) (by omega) (by omega))
    simp only [bridge_wear.l0]
    rw [if_pos (by omega), if_pos (by omega), if_pos (by omega), rd35_get l i hlt, w64 (x := l[i].f1 * 1000) (by omega) (by omega), hu, Option.bind_some]
def wearW (load life power : Int) (l : List S35) : Int × Int :=
  if errPv load life power ≠ 0 then (0, errPv load life power) else if errT l ≠ 0 then (0, errT l) else match wearS load power 0 l with | some s => (s, 0) | none => (0, 4)
theorem wear_ev (load life power : Int) (l : List S35) : Ev (fun k => bridge_wear.f k load life power l) (wearW load life power l) := by
  unfold bridge_wear.f wearW
  rw [checkPv_eq]
  simp only [Option.bind_some]
  refine Ev.bind (checkTrain_ev l) (Ev.bind (Ev.of (fun k => cmp_Or_80.mono _ k) (or80 _ _)) ?_)
  by_cases h1 : errPv load life power = 0
  · rw [if_neg (show ¬ errPv load life power ≠ 0 from fun g => g h1), if_neg (show ¬ errPv load life power ≠ 0 from fun g => g h1)]
    by_cases h2 : errT l = 0
    · rw [if_neg (show ¬ errT l ≠ 0 from fun g => g h2)]
      simp only [if_pos h2]
      have p := errPv_zero h1
      have q := errT_zero h2
      have := wear_loop load life power l p.1 p.2.2 q.2.1 (fun x hx => (trainOk_all q.2.2 x hx).2.2) l.length 0 0 (by omega) (by omega) (by omega) (by omega)
      simpa using this
    · rw [if_pos (show errT l ≠ 0 from h2)]
      simp only [if_neg h2]
      exact Ev.now _
  · rw [if_pos (show errPv load life power ≠ 0 from h1), if_pos (show errPv load life power ≠ 0 from h1)]
    simp only [if_neg h1]
    exact Ev.now _
def damageW (load life power : Int) (l : List S35) (passes : Int) : Int × Int :=
  if (wearW load life power l).2 ≠ 0 ∧ (wearW load life power l).2 ≠ 4 then (0, (wearW load life power l).2) else if inR passes 0 1048576 = true then (if (wearW load life power l).2 = 0 then (shareZ (wearW load life power l).1 (1000 * passes) life, 0) else (0, (wearW load life power l).2)) else (0, 3)
theorem wearW_ok {load life power : Int} {l : List S35} (h : (wearW load life power l).2 = 0) : errPv load life power = 0 ∧ errT l = 0 ∧ wearS load power 0 l = some (wearW load life power l).1 := by
  unfold wearW at h ⊢
  split at h
  · rename_i g; exact absurd h g
  · rename_i g1
    rw [if_neg g1]
    split at h
    · rename_i g; exact absurd h g
    · rename_i g2
      rw [if_neg g2]
      refine ⟨Decidable.not_not.1 g1, Decidable.not_not.1 g2, ?_⟩
      cases hs : wearS load power 0 l with
      | none => rw [hs] at h; cases h
      | some s => rfl
theorem wearW_bd {load life power : Int} {l : List S35} (h : (wearW load life power l).2 = 0) : 0 ≤ (wearW load life power l).1 ∧ (wearW load life power l).1 ≤ 1073741824 := by
  obtain ⟨h1, h2, h3⟩ := wearW_ok h
  exact wearS_bd (errPv_zero h1).1.1 (fun x hx => (trainOk_all (errT_zero h2).2.2 x hx).2.2.1) (by omega) (by omega) h3
theorem share_ok {a p d : Int} (ha : 0 ≤ a ∧ a ≤ 1073741824) (hp : 0 ≤ p ∧ p ≤ 1048577) (hd : 1 ≤ d ∧ d ≤ 1048576) : bridge_share.f a (1000 * p) d = some (shareZ a (1000 * p) d) ∧ 0 ≤ shareZ a (1000 * p) d ∧ shareZ a (1000 * p) d ≤ 1125900980584448001 := by
  have m0 : 0 ≤ a * (1000 * p) := Int.mul_nonneg ha.1 (by omega)
  have m1 : a * (1000 * p) ≤ 1073741824 * 1048577000 := Int.mul_le_mul ha.2 (by omega) (by omega) (by omega)
  have hq : a * (1000 * p) / d ≤ a * (1000 * p) := Int.ediv_le_self _ m0
  have hq0 : 0 ≤ a * (1000 * p) / d := Int.ediv_nonneg m0 (by omega)
  refine ⟨?_, ?_⟩
  · unfold bridge_share.f shareZ
    rw [if_pos ⟨ha.1, by omega, by omega, by omega, by omega, by omega, by omega⟩]
  · unfold shareZ; split <;> omega
theorem damage_ev (load life power : Int) (l : List S35) (passes : Int) : Ev (fun k => bridge_Damage.f k load life power l passes) (damageW load life power l passes) := by
  unfold bridge_Damage.f damageW
  refine Ev.bind (wear_ev load life power l) ?_
  have hj : ∀ b : Bool, ∀ k, bridge_Damage.j0 (k + 1) passes (wearW load life power l).1 (wearW load life power l).2 b load life power = if b = true then some (0, (wearW load life power l).2) else if inR passes 0 1048576 = true then (if (wearW load life power l).2 = 0 then ((bridge_share.f (wearW load life power l).1 (wrap64 (1000 * passes)) life).bind fun t105 => some (t105, 0)) else some (0, (wearW load life power l).2)) else some (0, 3) := by
    intro b k
    rw [bridge_Damage.j0, between_eq, Option.bind_some]
  by_cases h0 : (wearW load life power l).2 = 0
  · rw [if_neg (show ¬ ((wearW load life power l).2 ≠ 0 ∧ (wearW load life power l).2 ≠ 4) from fun g => g.1 h0)]
    simp only [if_pos h0]
    refine Ev.step (hj false) ?_
    simp only [Bool.false_eq_true, if_false, if_pos h0]
    by_cases h1 : inR passes 0 1048576 = true
    · simp only [if_pos h1]
      have hp := inR_iff.1 h1
      have := share_ok (p := passes) (wearW_bd h0) (by omega) (errPv_zero (wearW_ok h0).1).2.1
      rw [w64 (by omega) (by omega), this.1]
      exact Ev.now _
    · simp only [if_neg h1]; exact Ev.now _
  · simp only [if_neg h0]
    refine Ev.step (hj _) ?_
    by_cases h4 : (wearW load life power l).2 = 4
    · rw [if_neg (show ¬ ((wearW load life power l).2 ≠ 0 ∧ (wearW load life power l).2 ≠ 4) from fun g => g.2 h4)]
      have hb : ((wearW load life power l).2 != 4) = false := by simp [h4]
      simp only [hb, Bool.false_eq_true, if_false, if_neg h0]
      by_cases h1 : inR passes 0 1048576 = true
      · simp only [if_pos h1]; exact Ev.now _
      · simp only [if_neg h1]; exact Ev.now _
    · rw [if_pos (show (wearW load life power l).2 ≠ 0 ∧ (wearW load life power l).2 ≠ 4 from ⟨h0, h4⟩)]
      have hb : ((wearW load life power l).2 != 4) = true := by simpa using h4
      simp only [hb, if_true]
      exact Ev.now _
end Go.Proofs.Ytiklpefckadgdaa.P
namespace Go.Proofs.Ytiklpefckadgdaa.P
open Go.RowKit Go.Proofs.YtiklpefckadgdaaW.PrintWords Go.Proofs.YtiklpefckadgdaaW.PrintLast Go.Proofs.YtiklpefckadgdaaW.PrintMore
theorem shareZ_up {a b d : Int} (hab : 0 ≤ a * b) (hd : 1 ≤ d) : shareZ a b d = (a * b + d - 1) / d := by
  unfold shareZ
  generalize a * b = n at *
  have h1 := Int.mul_ediv_add_emod n d
  have h2 := Int.emod_nonneg n (show d ≠ 0 by omega)
  have h3 := Int.emod_lt_of_pos n (show 0 < d by omega)
  generalize n / d = q at *
  generalize n % d = r at *
  by_cases h : 0 < r
  · rw [if_pos h]
    symm
    refine (Int.ediv_eq_iff_of_pos (by omega)).2 ?_
    rw [Int.add_mul, Int.mul_comm q d]
    omega
  · rw [if_neg h]
    symm
    refine (Int.ediv_eq_iff_of_pos (by omega)).2 ?_
    rw [Int.mul_comm q d]
    omega
theorem shareZ_mono {a b p q d : Int} (ha : 0 ≤ a) (hab : a ≤ b) (hp : 0 ≤ p) (hpq : p ≤ q) (hd : 1 ≤ d) : shareZ a (1000 * p) d ≤ shareZ b (1000 * q) d := by
  have h0 : 0 ≤ a * (1000 * p) := Int.mul_nonneg ha (by omega)
  have h1 : a * (1000 * p) ≤ b * (1000 * q) := Int.mul_le_mul hab (by omega) (by omega) (by omega)
  rw [shareZ_up h0 hd, shareZ_up (by omega) hd]
  exact Int.ediv_le_ediv (by omega) (by omega)
theorem srch_spec (p : Int → Bool) : ∀ (f : Nat) (i j : Int), i ≤ j → (j - i).toNat ≤ f → (i ≤ srch p f i j ∧ srch p f i j ≤ j) ∧ (srch p f i j < j → p (srch p f i j) = true) ∧ (i < srch p f i j → p (srch p f i j - 1) = false)
  | 0, i, j, h, hf => by rw [srch]; omega
  | f + 1, i, j, h, hf => by
    rw [srch]
    by_cases c : i < j
    · rw [if_pos c]
      by_cases q : p ((i + j) / 2) = true
      · rw [if_pos q]
        obtain ⟨h1, h2, h3⟩ := srch_spec p f i ((i + j) / 2) (by omega) (by omega)
        refine ⟨by omega, fun _ => ?_, h3⟩
        by_cases e : srch p f i ((i + j) / 2) < (i + j) / 2
        · exact h2 e
        · rw [show srch p f i ((i + j) / 2) = (i + j) / 2 by omega]; exact q
      · rw [if_neg q]
        obtain ⟨h1, h2, h3⟩ := srch_spec p f ((i + j) / 2 + 1) j (by omega) (by omega)
        refine ⟨by omega, h2, fun _ => ?_⟩
        by_cases e : (i + j) / 2 + 1 < srch p f ((i + j) / 2 + 1) j
        · exact h3 e
        · rw [show srch p f ((i + j) / 2 + 1) j - 1 = (i + j) / 2 by omega]; simpa using q
    · rw [if_neg c]; omega
def leftW (load life power : Int) (l : List S35) (done : Int) : Int × Int :=
  if (wearW load life power l).2 ≠ 0 ∧ (wearW load life power l).2 ≠ 4 then (0, (wearW load life power l).2) else if ¬ (0 ≤ done ∧ done ≤ 1000000) then (0, 3) else if (wearW load life power l).2 ≠ 0 then (0, (wearW load life power l).2) else if (wearW load life power l).1 = 0 then (0, 5) else
    (srch (leftP (wearW load life power l).1 life done) 1048576 0 1048576, 0)
theorem left_eq (load life power : Int) (l : List S35) (done : Int) : bridge_Left.f load life power l done = some (leftW load life power l done) := by
  unfold bridge_Left.f leftW
  rw [limO_ev (fun k => bridge_wear.mono _ _ _ _ k) (wear_ev load life power l), Option.bind_some]
  split
  · rfl
  · split
    · rfl
    · split
      · rfl
      · rename_i h0
        split
        · rfl
        · have h := Decidable.not_not.1 h0
          rw [if_pos ⟨wearW_bd h, (errPv_zero (wearW_ok h).1).2.1⟩]
end Go.Proofs.Ytiklpefckadgdaa.P
namespace Go.Proofs.Ytiklpefckadgdaa.P
open Go.RowKit Go.Proofs.YtiklpefckadgdaaW.PrintWords Go.Proofs.YtiklpefckadgdaaW.PrintLast Go.Proofs.YtiklpefckadgdaaW.PrintMore
theorem within_r (x lo hi : Int) : gooseneckref06_within.f x lo hi = some (inR x lo hi) := within_c x lo hi
theorem upR_eq {n d : Int} (hn : 0 ≤ n) (hn1 : n ≤ 4611686018427387904) (hd : 1 ≤ d) (hd1 : d ≤ 2305843009213693952) : gooseneckref06_up.f n d = some (upI n d) := by
  unfold gooseneckref06_up.f upI
  rw [if_neg (by omega), w64 (x := n + d) (by omega) (by omega), w64 (x := n + d - 1) (by omega) (by omega), Int.tdiv_eq_ediv_of_nonneg (by omega)]
  have h0 : 0 ≤ (n + d - 1) / d := Int.ediv_nonneg (by omega) (by omega)
  have h1 : (n + d - 1) / d ≤ n + d - 1 := Int.ediv_le_self _ (by omega)
  rw [w64 (by omega) (by omega)]
theorem upW_eq {n d : Int} (hn : 0 ≤ n) (hn1 : n ≤ 4611686018427387904) (hd : 1 ≤ d) (hd1 : d ≤ 2305843009213693952) : bridge_up.f n d = some (upI n d) := by
  unfold bridge_up.f upI
  rw [if_neg (by omega), w64 (x := n + d) (by omega) (by omega), w64 (x := n + d - 1) (by omega) (by omega), Int.tdiv_eq_ediv_of_nonneg (by omega)]
  have h0 : 0 ≤ (n + d - 1) / d := Int.ediv_nonneg (by omega) (by omega)
  have h1 : (n + d - 1) / d ≤ n + d - 1 := Int.ediv_le_self _ (by omega)
  rw [w64 (by omega) (by omega)]
theorem ctBad_false {l : List S35} {i : Nat} (hi : i < l.length) : ctBad l i = false ↔ (i = 0 → l[i].f0 = 0) ∧ (∀ h : 0 < i, ¬ l[i].f0 < l[i - 1].f0) ∧ (0 ≤ l[i].f0 ∧ l[i].f0 ≤ 262144) ∧ inR l[i].f1 0 1048576 = true := by
  unfold ctBad
  rw [rd35_get l i hi]
  have e : ∀ b, inRc b 0 262144 = inR b 0 262144 := fun _ => rfl
  have e2 : ∀ b, inRc b 0 1048576 = inR b 0 1048576 := fun _ => rfl
  rw [e, e2]
  by_cases h0 : i = 0
  · subst h0
    simp [inR_iff, and_assoc]
  · have hp : rd_T35 l ((i : Int) - 1) = l[i - 1] := by
      have : ((i : Int) - 1) = ((i - 1 : Nat) : Int) := by omega
      rw [this, rd35_get l (i - 1) (by omega)]
    rw [hp]
    have hpos : 0 < i := by omega
    simp [h0, hpos, inR_iff, and_assoc]
theorem ct_drop (l : List S35) (d : Nat) : ∀ i : Nat, l.length - i = d → i ≤ l.length → ∀ (last : Int) (first : Bool), first = decide (i = 0) → (i = 0 → last = 0) → (∀ h : i - 1 < l.length, 0 < i → last = l[i - 1].f0) → 0 ≤ last →
    (trainOk last first (l.drop i) = true ↔ ∀ j, i ≤ j → j < l.length → ctBad l j = false) := by
  induction d with
  | zero =>
    intro i hd hi last first _ _ _ _
    have : i = l.length := by omega
    subst this
    rw [List.drop_length]
    simp [trainOk]
    intro j h1 h2; omega
  | succ d ih =>
    intro i hd hi last first hf h0 hp hl
    have hlt : i < l.length := by omega
    rw [List.drop_eq_getElem_cons hlt, trainOk]
    simp only [Bool.and_eq_true, decide_eq_true_eq, Bool.or_eq_true, Bool.not_eq_true']
    constructor
    · rintro ⟨a1, a2, a3, a4, a5⟩ j h1 h2
      by_cases e : j = i
      · subst e
        rw [ctBad_false hlt]
        refine ⟨fun z => ?_, fun z => ?_, ⟨by omega, a2⟩, a4⟩
        · rcases a3 with a3 | a3
          · rw [hf] at a3; simp [z] at a3
          · exact a3
        · have := hp (by omega) z; omega
      · exact (ih (i + 1) (by omega) (by omega) l[i].f0 false (by simp) (fun h => absurd h (by omega)) (fun _ _ => rfl) (by omega)).1 a5 j (by omega) h2
    · intro h
      have b := (ctBad_false hlt).1 (h i (Nat.le_refl _) hlt)
      refine ⟨?_, b.2.2.1.2, ?_, b.2.2.2, ?_⟩
      · by_cases z : i = 0
        · have := h0 z; have := b.2.2.1.1; omega
        · have h1 := hp (by omega) (by omega); have h2 := b.2.1 (by omega); omega
      · by_cases z : i = 0
        · right; exact b.1 z
        · left; rw [hf]; simp [z]
      · exact (ih (i + 1) (by omega) (by omega) l[i].f0 false (by simp) (fun h => absurd h (by omega)) (fun _ _ => rfl) b.2.2.1.1).2 fun j h1 h2 => h j (by omega) h2
theorem trainR_eq (l : List S35) : gooseneckref06_CheckTrain.f l = some (errT l) := by
  unfold gooseneckref06_CheckTrain.f errT
  congr 1
  by_cases h : l.length < 1 ∨ 64 < l.length
  · rw [if_pos h, if_pos (show (l.length : Int) < 1 ∨ (l.length : Int) > 64 by omega)]
  · rw [if_neg h, if_neg (show ¬ ((l.length : Int) < 1 ∨ (l.length : Int) > 64) by omega)]
    have := ct_drop l l.length 0 rfl (Nat.zero_le _) 0 true (by simp) (fun _ => rfl) (fun _ h => absurd h (by omega)) (Int.le_refl _)
    rw [List.drop_zero] at this
    by_cases ht : trainOk 0 true l = true
    · rw [if_pos ht, none_bad (fun j hj => this.1 ht j (Nat.zero_le _) hj), if_neg (by decide)]
    · rw [if_neg ht]
      have hne : ¬ ∀ j, 0 ≤ j → j < l.length → ctBad l j = false := fun g => ht (this.2 g)
      have hex : ∃ j, j < l.length ∧ ctBad l j = true := by
        refine Classical.byContradiction fun g => hne fun j _ hj => ?_
        cases hb : ctBad l j
        · rfl
        · exact absurd ⟨j, hj, hb⟩ g
      obtain ⟨j, hj, hb⟩ := hex
      rw [if_pos (any_bad hj hb)]
theorem checkPvR_eq (a b c : Int) : gooseneckref06_CheckPavement.f a b c = some (errPv a b c) := by
  rw [← checkPv_eq]
  unfold gooseneckref06_CheckPavement.f bridge_CheckPavement.f
  simp only [within_r, between_eq]
theorem floorR_eq {n d : Int} (hd : 1 ≤ d) (h0 : -4611686018427387904 ≤ n) (h1 : n ≤ 4611686018427387904) : gooseneckref02_Floor.f n d = some (n / d) := by
  unfold gooseneckref02_Floor.f
  rw [if_neg (by omega)]
  have h2 := Int.mul_ediv_add_emod n d
  have h3 := Int.emod_nonneg n (show d ≠ 0 by omega)
  have h4 := Int.emod_lt_of_pos n (show 0 < d by omega)
  have b0 : -4611686018427387904 ≤ n / d := by
    have : -4611686018427387904 * d ≤ n := by
      have := Int.mul_le_mul_of_nonneg_left hd (show (0 : Int) ≤ 4611686018427387904 by decide)
      rw [Int.neg_mul]; omega
    exact Int.le_ediv_of_mul_le (by omega) this
  have b1 : n / d ≤ 4611686018427387904 := by
    rcases Int.le_total 0 n with g | g
    · have := Int.ediv_le_self d g; omega
    · have : n / d ≤ 0 := by
        have := Int.ediv_le_ediv (show 0 < d by omega) g
        simpa using this
      omega
  rw [Int.tdiv_eq_ediv, Int.tmod_eq_emod]
  rcases Int.lt_or_le n 0 with g | g
  · have hz : (d ∣ n) ↔ n % d = 0 := Int.dvd_iff_emod_eq_zero
    by_cases hdv : n % d = 0
    · have : 0 ≤ n ∨ d ∣ n := .inr (hz.2 hdv)
      rw [if_pos this, if_pos this, if_neg (by omega), Int.add_zero, w64 (by omega) (by omega)]
    · have : ¬ (0 ≤ n ∨ d ∣ n) := by rintro (k | k); omega; exact hdv (hz.1 k)
      rw [if_neg this, if_neg this, Int.sign_eq_one_of_pos (by omega)]
      have hs : ((d.natAbs : Nat) : Int) = d := by omega
      rw [if_pos (by omega), w64 (x := n / d + 1) (by omega) (by omega), w64 (by omega) (by omega)]
      congr 1; omega
  · have : 0 ≤ n ∨ d ∣ n := .inl g
    rw [if_pos this, if_pos this, if_neg (by omega), Int.add_zero, w64 (by omega) (by omega)]
theorem two_div (a : Int) (m : Nat) : a / 2 ^ m = 2 * (a / 2 ^ (m + 1)) + (a / 2 ^ m) % 2 := by
  have e : a / 2 ^ (m + 1) = a / 2 ^ m / 2 := by
    rw [Int.pow_succ, Int.ediv_ediv_of_nonneg (Int.le_of_lt (Int.pow_pos (by decide)))]
  rw [e]; omega
theorem down_in {a d w rest v : Int} (hd : 1 ≤ d ∧ d ≤ 1125899906842624) (m : Nat) (hm : m ≤ 30) (n : Nat) : ∀ (q r : Int), 0 ≤ r → r < (n + 1) * d → (n : Int) ≤ 8 → 0 ≤ q → q + n ≤ 17179869184 →
    Ev (fun k => gooseneckref04_Down.l0 k a d w rest (q + r / d) (r % d) ((m : Int) - 1)) v → Ev (fun k => gooseneckref04_Down.l1 k a d w rest q r (m : Int)) v := by
  induction n with
  | zero =>
    intro q r h0 h1 hn q0 q1 h
    have h1' : r < d := by simpa using h1
    rw [Int.ediv_eq_zero_of_lt h0 h1', Int.emod_eq_of_lt h0 h1', Int.add_zero] at h
    refine Ev.step (fun k => ?_) h
    rw [gooseneckref04_Down.l1, if_neg (by omega), w64 (by omega) (by omega)]
  | succ n ih =>
    intro q r h0 h1 hn q0 q1 h
    have hnd : ((n + 1 : Nat) : Int) = (n : Int) + 1 := rfl
    rw [hnd] at h1
    have hb : ((n : Int) + 1 + 1) * d = ((n : Int) + 1) * d + d := by rw [Int.add_mul ((n : Int) + 1) 1 d, Int.one_mul]
    have hmul : ((n : Int) + 1) * d ≤ 9 * d := Int.mul_le_mul_of_nonneg_right (by omega) (by omega)
    by_cases c : r < d
    · rw [Int.ediv_eq_zero_of_lt h0 c, Int.emod_eq_of_lt h0 c, Int.add_zero] at h
      refine Ev.step (fun k => ?_) h
      rw [gooseneckref04_Down.l1, if_neg (by omega), w64 (by omega) (by omega)]
    · have e1 : r / d = (r - d) / d + 1 := by
        have h2 : r / d = ((r - d) + 1 * d) / d := by congr 1; omega
        rw [h2, Int.add_mul_ediv_right _ _ (by omega)]
      have e2 : r % d = (r - d) % d := by
        have h2 : r % d = ((r - d) + 1 * d) % d := by congr 1; omega
        rw [h2, Int.add_mul_emod_self_right]
      refine Ev.step (fun k => ?_) (ih (q + 1) (r - d) (by omega) (by omega) (by omega) (by omega) (by omega) (by rw [show q + 1 + (r - d) / d = q + r / d by omega, ← e2]; exact h))
      rw [gooseneckref04_Down.l1, if_pos (by omega), w64 (x := q + 1) (by omega) (by omega), w64 (x := r - d) (by omega) (by omega)]
theorem down_out {a d w rest : Int} (ha : 0 ≤ a ∧ a < 2147483648) (hd : 1 ≤ d ∧ d ≤ 1125899906842624) (hr : 0 ≤ rest ∧ rest < d) (hw : -2305843009213693952 ≤ w * a ∧ w * a ≤ 2305843009213693952) (n : Nat) : ∀ (q r : Int), n ≤ 31 → 0 ≤ r → r < d → 0 ≤ q → a / 2 ^ n * rest = q * d + r →
    Ev (fun k => gooseneckref04_Down.l0 k a d w rest q r ((n : Int) - 1)) (w * a + a * rest / d) := by
  have qle : ∀ (n : Nat) (q r : Int), 0 ≤ r → a / 2 ^ n * rest = q * d + r → q ≤ a := by
    intro n q r h0 h
    have hp : (0 : Int) < 2 ^ n := Int.pow_pos (by decide)
    have h1 : a / 2 ^ n ≤ a := Int.ediv_le_self _ ha.1
    have h2 : 0 ≤ a / 2 ^ n := Int.ediv_nonneg ha.1 (Int.le_of_lt hp)
    have h3 := Int.mul_le_mul h1 (Int.le_of_lt hr.2) hr.1 ha.1
    have h4 : q * d ≤ a * d := by omega
    exact Int.le_of_mul_le_mul_right h4 (by omega)
  induction n with
  | zero =>
    intro q r hn h0 h1 q0 h
    have e0 : a / 2 ^ 0 = a := by simp
    rw [e0] at h
    have q1 := qle 0 q r h0 (by rw [e0]; exact h)
    have e : a * rest / d = q := (Int.ediv_eq_iff_of_pos (by omega)).2 (by omega)
    rw [e]
    refine Ev.step (f := fun _ => some (w * a + q)) (fun k => ?_) (Ev.now _)
    rw [gooseneckref04_Down.l0, if_neg (by omega), w64 (x := w * a) (by omega) (by omega), w64 (by omega) (by omega)]
  | succ m ih =>
    intro q r hn h0 h1 q0 h
    have q1 := qle (m + 1) q r h0 h
    have hi : ((m + 1 : Nat) : Int) - 1 = (m : Int) := by omega
    rw [hi]
    have hu : IntKind.u64.wrap (m : Int) = (m : Int) := by simp [IntKind.wrap, IntKind.bits, IntKind.signed]; omega
    have hs : shr .i64 a (IntKind.u64.wrap (m : Int)) = a / 2 ^ m := by
      rw [hu]; unfold shr
      have : min (m : Int).toNat IntKind.i64.bits = m := by show min _ 64 = m; omega
      rw [this]
    have hp : (0 : Int) < 2 ^ m := Int.pow_pos (by decide)
    have hnn : 0 ≤ a / 2 ^ m := Int.ediv_nonneg ha.1 (Int.le_of_lt hp)
    have hbit := two_div a m
    have hnn2 : 0 ≤ a / 2 ^ (m + 1) := Int.ediv_nonneg ha.1 (Int.le_of_lt (Int.pow_pos (by decide)))
    generalize a / 2 ^ (m + 1) = A at *
    have step : ∀ b : Int, a / 2 ^ m % 2 = b → 0 ≤ b → b ≤ 1 → Ev (fun k => gooseneckref04_Down.l1 k a d w rest (2 * q) (2 * r + b * rest) (m : Int)) (w * a + a * rest / d) := by
      intro b hb b0 b1
      have hbr0 : 0 ≤ b * rest := Int.mul_nonneg b0 hr.1
      have hbr1 : b * rest ≤ rest := by have := Int.mul_le_mul_of_nonneg_right b1 hr.1; omega
      refine down_in hd m (by omega) 2 (2 * q) (2 * r + b * rest) (by omega) (by omega) (by decide) (by omega) (by omega) ?_
      have hd0 := Int.mul_ediv_add_emod (2 * r + b * rest) d
      have hd1 := Int.emod_nonneg (2 * r + b * rest) (show d ≠ 0 by omega)
      have hd2 := Int.emod_lt_of_pos (2 * r + b * rest) (show 0 < d by omega)
      have hd3 : 0 ≤ (2 * r + b * rest) / d := Int.ediv_nonneg (by omega) (by omega)
      refine ih _ _ (by omega) hd1 hd2 (by omega) ?_
      rw [hbit, hb]
      have e1 : (2 * A + b) * rest = 2 * (A * rest) + b * rest := by grind
      have e2 : (2 * q + (2 * r + b * rest) / d) * d = 2 * (q * d) + d * ((2 * r + b * rest) / d) := by grind
      rw [e1, e2]
      omega
    have hm2 : Int.tmod (a / 2 ^ m) 2 = a / 2 ^ m % 2 := Int.tmod_eq_emod_of_nonneg hnn
    by_cases c : a / 2 ^ m % 2 = 1
    · have := step 1 c (by decide) (by decide)
      rw [Int.one_mul] at this
      refine Ev.step (f := fun k => gooseneckref04_Down.j1 k a d w rest (2 * q) (2 * r + rest) (m : Int)) (fun k => ?_) (Ev.step (fun k => by rw [gooseneckref04_Down.j1]) this)
      rw [gooseneckref04_Down.l0, if_pos (by omega), if_pos (by omega), hs, hm2, if_pos c, w64 (x := 2 * q) (by omega) (by omega), w64 (x := 2 * r) (by omega) (by omega), w64 (by omega) (by omega)]
    · have := step 0 (by omega) (by decide) (by decide)
      rw [Int.zero_mul, Int.add_zero] at this
      refine Ev.step (f := fun k => gooseneckref04_Down.j1 k a d w rest (2 * q) (2 * r) (m : Int)) (fun k => ?_) (Ev.step (fun k => by rw [gooseneckref04_Down.j1]) this)
      rw [gooseneckref04_Down.l0, if_pos (by omega), if_pos (by omega), hs, hm2, if_neg c, w64 (x := 2 * q) (by omega) (by omega), w64 (x := 2 * r) (by omega) (by omega)]
theorem down_ev {a b d : Int} (ha : 0 ≤ a ∧ a < 2147483648) (hd : 1 ≤ d ∧ d ≤ 1125899906842624) (hb : -4611686018427387904 ≤ b ∧ b ≤ 4611686018427387904) (hw : -2305843009213693952 ≤ b / d * a ∧ b / d * a ≤ 2305843009213693952) :
    Ev (fun k => gooseneckref04_Down.f k a b d) (a * b / d) := by
  have h2 := Int.mul_ediv_add_emod b d
  have h3 := Int.emod_nonneg b (show d ≠ 0 by omega)
  have h4 := Int.emod_lt_of_pos b (show 0 < d by omega)
  have hz : a / 2 ^ 31 = 0 := Int.ediv_eq_zero_of_lt ha.1 (by omega)
  have h := down_out (w := b / d) ha hd ⟨h3, h4⟩ hw 31 0 0 (by omega) (by omega) (by omega) (by omega) (by rw [hz, Int.zero_mul, Int.zero_mul]; rfl)
  have e : b / d * a + a * (b % d) / d = a * b / d := by
    have e1 : a * b = a * (b % d) + b / d * a * d := by
      have : a * b = a * (d * (b / d) + b % d) := by rw [h2]
      rw [this]; grind
    rw [e1, Int.add_mul_ediv_right _ _ (by omega), Int.add_comm]
  rw [e] at h
  have hbd : b / d * d = d * (b / d) := Int.mul_comm ..
  refine Ev.congr (fun k => ?_) h
  unfold gooseneckref04_Down.f
  rw [floorR_eq hd.1 hb.1 hb.2, Option.bind_some, w64 (x := b / d * d) (by omega) (by omega), w64 (by omega) (by omega), show b - b / d * d = b % d by omega]
  rfl
theorem neg_div_neg {n d : Int} (hd : 1 ≤ d) : -((-n) / d) = upI n d := by
  unfold upI
  have h2 := Int.mul_ediv_add_emod (n + d - 1) d
  have h3 := Int.emod_nonneg (n + d - 1) (show d ≠ 0 by omega)
  have h4 := Int.emod_lt_of_pos (n + d - 1) (show 0 < d by omega)
  have : (-n) / d = -((n + d - 1) / d) := (Int.ediv_eq_iff_of_pos (by omega)).2 (by rw [Int.neg_mul, Int.mul_comm _ d]; omega)
  omega
theorem upR4_ev {a b d : Int} (ha : 0 ≤ a ∧ a < 2147483648) (hd : 1 ≤ d ∧ d ≤ 1125899906842624) (hb : 0 ≤ b ∧ b ≤ 4611686018427387904) (hw : -2305843009213693952 ≤ (-b) / d * a) (hu : a * b ≤ 4611686018427387904 * d) :
    Ev (fun k => gooseneckref04_Up.f k a b d) (upI (a * b) d) := by
  have hab := Int.mul_nonneg ha.1 hb.1
  have hn : (-b) / d ≤ 0 := by
    have := Int.ediv_le_ediv (show 0 < d by omega) (show -b ≤ 0 by omega)
    simpa using this
  have hw2 : (-b) / d * a ≤ 0 := by
    have := Int.mul_nonneg (show 0 ≤ -((-b) / d) by omega) ha.1
    rw [Int.neg_mul] at this; omega
  have h := down_ev (b := -b) ha hd (by omega) ⟨hw, by omega⟩
  have e : a * -b = -(a * b) := Int.mul_neg ..
  rw [e] at h
  have e2 := neg_div_neg (n := a * b) hd.1
  have hq : -4611686018427387904 ≤ (-(a * b)) / d := Int.le_ediv_of_mul_le (by omega) (by rw [Int.neg_mul]; omega)
  have hq2 : (-(a * b)) / d ≤ 0 := by
    have := Int.ediv_le_ediv (show 0 < d by omega) (show -(a * b) ≤ 0 by omega)
    simpa using this
  unfold gooseneckref04_Up.f
  rw [w64 (x := -b) (by omega) (by omega)]
  refine Ev.bind h ?_
  rw [w64 (by omega) (by omega), e2]
  exact Ev.now _
end Go.Proofs.Ytiklpefckadgdaa.P
namespace Go.Proofs.Ytiklpefckadgdaa.P
open Go.RowKit Go.Proofs.YtiklpefckadgdaaW.PrintWords Go.Proofs.YtiklpefckadgdaaW.PrintLast Go.Proofs.YtiklpefckadgdaaW.PrintMore
theorem wearR_loop (load life power : Int) (l : List S35) (hload : 1 ≤ load ∧ load ≤ 1048576) (hpow : 1 ≤ power ∧ power ≤ 6) (hl : l.length ≤ 64) (hf : ∀ x ∈ l, 0 ≤ x.f1 ∧ x.f1 ≤ 1048576) (d : Nat) : ∀ (i : Nat) (all : Int), l.length - i = d → i ≤ l.length → 0 ≤ all → all ≤ 1073741824 →
    Ev (fun k => gooseneckref06_wear.l0 k l all (i : Int) load life power) (match wearS load power all (l.drop i) with | some s => (s, true) | none => (0, false)) := by
  induction d with
  | zero =>
    intro i all hd hi h0 h1
    have he : i = l.length := by omega
    subst he
    rw [List.drop_length, wearS]
    refine Ev.step (f := fun _ => some (all, true)) (fun k => ?_) (Ev.now _)
    simp only [gooseneckref06_wear.l0]
    rw [if_neg (by omega)]
  | succ d ih =>
    intro i all hd hi h0 h1
    have hlt : i < l.length := by omega
    have hx := hf _ (List.getElem_mem hlt)
    rw [List.drop_eq_getElem_cons hlt, wearS]
    have hr0 : 0 ≤ upI (l[i].f1 * 1000) load := upI_nonneg (by omega) hload.1
    have hr1 : upI (l[i].f1 * 1000) load ≤ 1048576000 := Int.le_trans (upI_le (by omega) hload.1) (by omega)
    have hw : wrap64 ((i : Int) + 1) = ((i + 1 : Nat) : Int) := by rw [w64 (by omega) (by omega)]; rfl
    have hinner : ∀ (n : Nat) (w : Int) (q : Int), 0 ≤ w → w ≤ 1125899906842624 → 1 ≤ q → q + n = power → Ev (fun k => gooseneckref06_wear.l1 k l all (i : Int) (upI (l[i].f1 * 1000) load) w q load life power)
        (match (if wk (upI (l[i].f1 * 1000) load) n w > 1073741824 ∨ all + wk (upI (l[i].f1 * 1000) load) n w > 1073741824 then none else wearS load power (all + wk (upI (l[i].f1 * 1000) load) n w) (l.drop (i + 1))) with | some s => (s, true) | none => (0, false)) := by
      intro n
      generalize upI (l[i].f1 * 1000) load = r at hr0 hr1 ⊢
      induction n with
      | zero =>
        intro w q w0 w1 q0 q1
        rw [wk]
        have hs : ∀ k, gooseneckref06_wear.l1 (k + 1) l all (i : Int) r w q load life power = if w > 1073741824 then some (0, false) else if all + w > 1073741824 then some (0, false) else gooseneckref06_wear.l0 k l (all + w) ((i + 1 : Nat) : Int) load life power := by
          intro k
          rw [gooseneckref06_wear.l1, if_neg (by omega), w64 (x := all + w) (by omega) (by omega), hw]
        refine Ev.step hs ?_
        by_cases c1 : w > 1073741824
        · simp only [if_pos c1]
          rw [if_pos (.inl c1)]
          exact Ev.now _
        · simp only [if_neg c1]
          by_cases c2 : all + w > 1073741824
          · simp only [if_pos c2]
            rw [if_pos (.inr c2)]
            exact Ev.now _
          · simp only [if_neg c2]
            rw [if_neg (by omega)]
            exact ih (i + 1) (all + w) (by omega) (by omega) (by omega) (by omega)
      | succ n ihn =>
        intro w q w0 w1 q0 q1
        rw [wk]
        by_cases c : w ≤ 1073741824
        · rw [if_pos c]
          obtain ⟨m0, m1⟩ := bd_mul w0 w1 hr0 hr1 c
          have hu := upR_eq (n := w * r) (d := 1000) m0 (by omega) (by omega) (by omega)
          have hu1 : upI (w * r) 1000 ≤ 1125899906842624 := by unfold upI; omega
          refine Ev.step (fun k => ?_) (ihn (upI (w * r) 1000) (q + 1) (upI_nonneg m0 (by omega)) hu1 (by omega) (by omega))
          rw [gooseneckref06_wear.l1, if_pos (by omega), if_pos c, w64 (x := w * r) (by omega) (by omega), hu, Option.bind_some, w64 (x := q + 1) (by omega) (by omega)]
        · rw [if_neg c, if_pos (.inl (by omega))]
          refine Ev.step (f := fun _ => some (0, false)) (fun k => ?_) (Ev.now _)
          rw [gooseneckref06_wear.l1, if_pos (by omega), if_neg c, if_pos (by omega)]
    have hu := upR_eq (n := l[i].f1 * 1000) (d := load) (by omega) (by omega) hload.1 (by omega)
    refine Ev.step (fun k => ?_) (hinner (power - 1).toNat (upI (l[i].f1 * 1000) load) 1 hr0 (by omega) (by omega) (by omega))
    simp only [gooseneckref06_wear.l0]
    rw [if_pos (by omega), if_pos (by omega), rd35_get l i hlt, w64 (x := l[i].f1 * 1000) (by omega) (by omega), hu, Option.bind_some]
theorem wearR_ev {load life power : Int} {l : List S35} (h1 : errPv load life power = 0) (h2 : errT l = 0) :
    Ev (fun k => gooseneckref06_wear.f k load life power l) (match wearS load power 0 l with | some s => (s, true) | none => (0, false)) := by
  have p := errPv_zero h1
  have q := errT_zero h2
  have := wearR_loop load life power l p.1 p.2.2 q.2.1 (fun x hx => (trainOk_all q.2.2 x hx).2.2) l.length 0 0 (by omega) (by omega) (by omega) (by omega)
  unfold gooseneckref06_wear.f
  simpa using this
theorem damageR_ev {load life power s p : Int} (hl : 1 ≤ life ∧ life ≤ 1048576) (hs : 0 ≤ s ∧ s ≤ 1073741824) (hp : 0 ≤ p ∧ p ≤ 1048576) :
    Ev (fun k => gooseneckref06_damage.f k load life power s p) (shareZ s (1000 * p) life) := by
  have hm : 0 ≤ s * (1000 * p) := Int.mul_nonneg hs.1 (by omega)
  have hm1 : s * (1000 * p) ≤ 1073741824 * 1048576000 := Int.mul_le_mul hs.2 (by omega) (by omega) (by omega)
  have e : 1000 * p * s = s * (1000 * p) := Int.mul_comm ..
  have hq : -1073741824 ≤ (-s) / life := Int.le_ediv_of_mul_le (by omega) (by
    have := Int.mul_le_mul_of_nonneg_left hl.1 (show (0 : Int) ≤ 1073741824 by decide)
    rw [Int.neg_mul]; omega)
  have hq2 : (-s) / life ≤ 0 := by
    have := Int.ediv_le_ediv (show 0 < life by omega) (show -s ≤ 0 by omega)
    simpa using this
  have hq3 : -1073741824 * 1048576000 ≤ (-s) / life * (1000 * p) := by
    have := Int.mul_le_mul (show -((-s) / life) ≤ 1073741824 by omega) (show 1000 * p ≤ 1048576000 by omega) (by omega) (by omega)
    rw [Int.neg_mul] at this; omega
  have h := upR4_ev (a := 1000 * p) (b := s) (d := life) (by omega) (by omega) (by omega) (by omega) (by rw [e]; have := Int.mul_le_mul_of_nonneg_left hl.1 (show (0 : Int) ≤ 4611686018427387904 by decide); omega)
  unfold gooseneckref06_damage.f
  rw [w64 (x := 1000 * p) (by omega) (by omega)]
  refine Ev.bind h ?_
  rw [e, shareZ_up hm hl.1]
  exact Ev.now _
theorem DamageR_ev (load life power : Int) (l : List S35) (passes : Int) : Ev (fun k => gooseneckref06_Damage.f k load life power l passes) (damageW load life power l passes) := by
  unfold gooseneckref06_Damage.f damageW wearW
  simp only [checkPvR_eq, trainR_eq, within_r, Option.bind_some]
  by_cases h1 : errPv load life power = 0
  · simp only [if_pos h1, if_neg (show ¬ errPv load life power ≠ 0 from fun g => g h1)]
    by_cases h2 : errT l = 0
    · simp only [if_pos h2, if_neg (show ¬ errT l ≠ 0 from fun g => g h2)]
      have hw := wearR_ev h1 h2
      by_cases h3 : inR passes 0 1048576 = true
      · simp only [if_pos h3]
        refine Ev.bind hw ?_
        cases hs : wearS load power 0 l with
        | none =>
          simp only [hs, Bool.false_eq_true, if_false]
          exact Ev.now _
        | some s =>
          have hb := wearS_bd (errPv_zero h1).1.1 (fun x hx => (trainOk_all (errT_zero h2).2.2 x hx).2.2.1) (by omega) (by omega) hs
          simp only [hs, if_true]
          exact Ev.bind (damageR_ev (errPv_zero h1).2.1 hb (inR_iff.1 h3)) (by simpa using Ev.now _)
      · simp only [if_neg h3]
        cases hs : wearS load power 0 l <;> simpa [hs] using Ev.now _
    · simp only [if_neg h2, if_pos (show errT l ≠ 0 from h2)]
      have : errT l = 6 ∨ errT l = 2 := by
        unfold errT at h2 ⊢
        split
        · exact .inl rfl
        · rename_i g
          rw [if_neg g] at h2
          split
          · rename_i g2; rw [if_pos g2] at h2; exact absurd rfl h2
          · exact .inr rfl
      rw [if_pos ⟨h2, by omega⟩]
      exact Ev.now _
  · have e : errPv load life power = 2 := by
      unfold errPv at h1 ⊢
      split
      · rename_i g; rw [if_pos g] at h1; exact absurd rfl h1
      · rfl
    simp only [if_neg h1, if_pos (show errPv load life power ≠ 0 from h1)]
    rw [if_pos ⟨h1, by omega⟩, e]
    exact Ev.now _
theorem errT_cases (l : List S35) : errT l = 0 ∨ errT l = 6 ∨ errT l = 2 := by
  unfold errT
  split
  · exact .inr (.inl rfl)
  · split
    · exact .inl rfl
    · exact .inr (.inr rfl)
theorem leftR_loop {load life power s done T : Int} (hl : 1 ≤ life ∧ life ≤ 1048576) (hs : 0 ≤ s ∧ s ≤ 1073741824) (hd : 0 ≤ done ∧ done ≤ 1000000) (T0 : 0 ≤ T ∧ T ≤ 1048576)
    (t1 : T < 1048576 → done + shareZ s (1000 * (T + 1)) life > 1000000) (t2 : 0 < T → ¬ done + shareZ s (1000 * T) life > 1000000) (n : Nat) : ∀ lo hi : Int, 0 ≤ lo → hi ≤ 1048576 → lo ≤ T → T ≤ hi → hi - lo ≤ n →
    Ev (fun k => gooseneckref06_Left.l0 k done s lo hi load life power) (T, 0) := by
  induction n with
  | zero =>
    intro lo hi h0 h1 h2 h3 h4
    have e : lo = T := by omega
    subst e
    refine Ev.step (f := fun _ => some (lo, 0)) (fun k => ?_) (Ev.now _)
    rw [gooseneckref06_Left.l0, if_neg (by omega)]
  | succ n ih =>
    intro lo hi h0 h1 h2 h3 h4
    by_cases c : lo < hi
    · have em : wrap64 (Int.tdiv (wrap64 (wrap64 (lo + hi) + 1)) 2) = (lo + hi + 1) / 2 := by
        rw [w64 (x := lo + hi) (by omega) (by omega), w64 (x := lo + hi + 1) (by omega) (by omega), Int.tdiv_eq_ediv_of_nonneg (by omega), w64 (by omega) (by omega)]
      obtain ⟨m, hm⟩ : ∃ m, (lo + hi + 1) / 2 = m := ⟨_, rfl⟩
      have hm1 : lo < m ∧ m ≤ hi := by omega
      have hdm := damageR_ev (load := load) (power := power) hl hs (p := m) (by omega)
      have hb := (share_ok (a := s) (p := m) (d := life) hs (by omega) hl).2
      have hstep : ∀ k, gooseneckref06_Left.l0 (k + 1) done s lo hi load life power = (gooseneckref06_damage.f k load life power s m).bind fun t => if wrap64 (done + t) > 1000000 then gooseneckref06_Left.l0 k done s lo (m - 1) load life power else gooseneckref06_Left.l0 k done s m hi load life power := by
        intro k
        rw [gooseneckref06_Left.l0, if_pos c, em, hm, w64 (x := m - 1) (by omega) (by omega)]
      refine Ev.step hstep (Ev.bind hdm ?_)
      rw [w64 (by omega) (by omega)]
      by_cases q : done + shareZ s (1000 * m) life > 1000000
      · simp only [if_pos q]
        refine ih lo (m - 1) h0 (by omega) h2 ?_ (by omega)
        rcases Int.lt_or_le T m with g | g
        · omega
        · have := t2 (by omega)
          have := shareZ_mono (a := s) (b := s) (p := m) (q := T) (d := life) hs.1 (Int.le_refl _) (by omega) g hl.1
          omega
      · simp only [if_neg q]
        refine ih m hi (by omega) h1 ?_ h3 (by omega)
        rcases Int.lt_or_le T m with g | g
        · have := t1 (by omega)
          have := shareZ_mono (a := s) (b := s) (p := T + 1) (q := m) (d := life) hs.1 (Int.le_refl _) (by omega) (by omega) hl.1
          omega
        · exact g
    · have e : lo = T := by omega
      subst e
      refine Ev.step (f := fun _ => some (lo, 0)) (fun k => ?_) (Ev.now _)
      rw [gooseneckref06_Left.l0, if_neg c]
theorem LeftR_ev (load life power : Int) (l : List S35) (done : Int) : Ev (fun k => gooseneckref06_Left.f k load life power l done) (leftW load life power l done) := by
  unfold gooseneckref06_Left.f leftW wearW
  simp only [checkPvR_eq, trainR_eq, within_r, Option.bind_some]
  by_cases h1 : errPv load life power = 0
  · simp only [if_pos h1, if_neg (show ¬ errPv load life power ≠ 0 from fun g => g h1)]
    by_cases h2 : errT l = 0
    · simp only [if_pos h2, if_neg (show ¬ errT l ≠ 0 from fun g => g h2)]
      have hw := wearR_ev h1 h2
      by_cases h3 : inR done 0 1000000 = true
      · have h3' := inR_iff.1 h3
        simp only [if_pos h3]
        refine Ev.bind hw ?_
        cases hs : wearS load power 0 l with
        | none =>
          simp only [hs, Bool.false_eq_true, if_false]
          simp [show ¬ (done < 0) by omega, show done ≤ 1000000 from h3'.2, h3'.1]
          exact Ev.now _
        | some s =>
          have hb := wearS_bd (errPv_zero h1).1.1 (fun x hx => (trainOk_all (errT_zero h2).2.2 x hx).2.2.1) (by omega) (by omega) hs
          simp only [hs, if_true]
          have e0 : ¬ ¬ (0 ≤ done ∧ done ≤ 1000000) := fun g => g h3'
          rw [if_neg (by simp), if_neg e0, if_neg (by simp)]
          by_cases h5 : s = 0
          · simp only [if_pos h5]; exact Ev.now _
          · simp only [if_neg h5]
            obtain ⟨q1, q2, q3⟩ := srch_spec (leftP s life done) 1048576 0 1048576 (by decide) (by decide)
            refine leftR_loop (T := srch (leftP s life done) 1048576 0 1048576) (errPv_zero h1).2.1 hb h3' q1 (fun g => ?_) (fun g => ?_) 1048576 0 1048576 (by omega) (by omega) q1.1 q1.2 (by decide)
            · have := q2 g
              simpa [leftP] using this
            · have := q3 g
              simp only [leftP, decide_eq_false_iff_not] at this
              rw [show srch (leftP s life done) 1048576 0 1048576 - 1 + 1 = srch (leftP s life done) 1048576 0 1048576 by omega] at this
              exact this
      · simp only [if_neg h3]
        have h3' : ¬ (0 ≤ done ∧ done ≤ 1000000) := fun g => h3 (inR_iff.2 g)
        cases hs : wearS load power 0 l with
        | none => simp only; rw [if_neg (by simp), if_pos h3']; exact Ev.now _
        | some s => simp only; rw [if_neg (by simp), if_pos h3']; exact Ev.now _
    · simp only [if_neg h2, if_pos (show errT l ≠ 0 from h2)]
      have := errT_cases l
      rw [if_pos ⟨h2, by omega⟩]
      exact Ev.now _
  · have e : errPv load life power = 2 := by
      unfold errPv at h1 ⊢
      split
      · rename_i g; rw [if_pos g] at h1; exact absurd rfl h1
      · rfl
    simp only [if_neg h1, if_pos (show errPv load life power ≠ 0 from h1)]
    rw [if_pos ⟨h1, by omega⟩, e]
    exact Ev.now _
end Go.Proofs.Ytiklpefckadgdaa.P
namespace Go.Proofs.Ytiklpefckadgdaa.P
open Go.RowKit Go.Proofs.YtiklpefckadgdaaW.PrintWords Go.Proofs.YtiklpefckadgdaaW.PrintLast Go.Proofs.YtiklpefckadgdaaW.PrintMore
def OkForce (x : S35) : Prop := (0 ≤ x.f0 ∧ x.f0 ≤ 262144) ∧ (0 ≤ x.f1 ∧ x.f1 ≤ 1048576)
end Go.Proofs.Ytiklpefckadgdaa.P
namespace Go.Proofs.Ytiklpefckadgdaa.P
open Go.RowKit Go.Proofs.YtiklpefckadgdaaW.PrintWords Go.Proofs.YtiklpefckadgdaaW.PrintLast Go.Proofs.YtiklpefckadgdaaW.PrintMore
theorem okForces {l : List S35} (h : errT l = 0) : ∀ x ∈ l, OkForce x := fun x hx => by
  have := trainOk_all (errT_zero h).2.2 x hx
  exact ⟨⟨this.1, this.2.1⟩, this.2.2⟩
theorem trainOk_iff : ∀ (l : List S35) (last : Int) (first : Bool), trainOk last first l = true ↔ l.Pairwise (fun x y => x.f0 ≤ y.f0) ∧ (∀ x ∈ l, last ≤ x.f0 ∧ x.f0 ≤ 262144 ∧ 0 ≤ x.f1 ∧ x.f1 ≤ 1048576) ∧ (first = true → ∀ y ∈ l.head?, y.f0 = 0)
  | [], last, first => by simp [trainOk]
  | x :: r, last, first => by
    have ih := trainOk_iff r x.f0 false
    simp only [trainOk, Bool.and_eq_true, decide_eq_true_eq, inR_iff, ih, List.pairwise_cons, List.mem_cons, List.head?_cons, Option.mem_def, Option.some.injEq]
    constructor
    · rintro ⟨h1, h2, h3, h4, h5, h6, _⟩
      refine ⟨⟨fun y hy => (h6 y hy).1, h5⟩, ?_, ?_⟩
      · rintro y (rfl | hy)
        · exact ⟨h1, h2, h4⟩
        · have := h6 y hy
          omega
      · rintro rfl y rfl
        simpa using h3
    · rintro ⟨⟨h1, h2⟩, h3, h4⟩
      have hx := h3 x (.inl rfl)
      refine ⟨hx.1, hx.2.1, ?_, hx.2.2, h2, fun y hy => ⟨h1 y hy, (h3 y (.inr hy)).2⟩, by simp⟩
      cases first
      · simp
      · simpa using h4 rfl x rfl
end Go.Proofs.Ytiklpefckadgdaa.P
namespace Go.Proofs.Ytiklpefckadgdaa.P
open Go.RowKit Go.Proofs.YtiklpefckadgdaaW.PrintWords Go.Proofs.YtiklpefckadgdaaW.PrintLast Go.Proofs.YtiklpefckadgdaaW.PrintMore
def ps : List S35 → Nat → Int
  | _, 0 => 0
  | [], _ + 1 => 0
  | x :: r, n + 1 => x.f1 + ps r n
def selS (lo hi : Int) : List S35 → Int
  | [] => 0
  | x :: r => (if inR x.f0 lo hi = true then x.f1 else 0) + selS lo hi r
theorem ps_succ : ∀ (l : List S35) (i : Nat) (h : i < l.length), ps l (i + 1) = ps l i + l[i].f1
  | [], _, h => absurd h (by simp)
  | x :: r, 0, _ => by cases r <;> simp [ps]
  | x :: r, i + 1, h => by
    have := ps_succ r i (by simpa using h)
    rw [ps, this, ps]
    simp only [List.getElem_cons_succ]
    omega
theorem ps_bd : ∀ (l : List S35) (i : Nat), (∀ x ∈ l, 0 ≤ x.f1 ∧ x.f1 ≤ 1048576) → 0 ≤ ps l i ∧ ps l i ≤ l.length * 1048576
  | [], 0, _ => by simp [ps]
  | [], _ + 1, _ => by simp [ps]
  | x :: r, 0, _ => by simp only [ps, List.length_cons]; omega
  | x :: r, i + 1, h => by
    have h1 := ps_bd r i fun y hy => h y (List.mem_cons_of_mem _ hy)
    have h2 := h x (List.mem_cons_self ..)
    simp only [ps, List.length_cons]
    omega
theorem selS_split (lo hi : Int) : ∀ (l : List S35) (a b : Nat), a ≤ b → b ≤ l.length → (∀ (j : Nat) (h : j < l.length), j < a → l[j].f0 < lo) → (∀ (j : Nat) (h : j < l.length), a ≤ j → j < b → lo ≤ l[j].f0 ∧ l[j].f0 ≤ hi) → (∀ (j : Nat) (h : j < l.length), b ≤ j → hi < l[j].f0) →
    selS lo hi l = ps l b - ps l a
  | [], a, b, h1, h2, _, _, _ => by
    have : b = 0 := by simpa using h2
    subst this
    have : a = 0 := by omega
    subst this
    simp [selS, ps]
  | x :: r, 0, 0, _, _, _, _, h5 => by
    have h0 := h5 0 (by simp) (Nat.le_refl _)
    have ih := selS_split lo hi r 0 0 (Nat.le_refl _) (Nat.zero_le _) (fun j _ h => absurd h (by omega)) (fun j _ _ h => absurd h (by omega)) (fun j h _ => by have := h5 (j + 1) (by simpa using h) (by omega); simpa using this)
    have hn : ¬ inR x.f0 lo hi = true := by rw [inR_iff]; simp only [List.getElem_cons_zero] at h0; omega
    rw [selS, if_neg hn, ih]
    cases r <;> simp [ps]
  | x :: r, 0, b + 1, _, h2, _, h4, h5 => by
    have h0 := h4 0 (by simp) (Nat.le_refl _) (by omega)
    have ih := selS_split lo hi r 0 b (Nat.zero_le _) (by simpa using h2) (fun j _ h => absurd h (by omega)) (fun j h _ g => by have := h4 (j + 1) (by simpa using h) (by omega) (by omega); simpa using this) (fun j h g => by have := h5 (j + 1) (by simpa using h) (by omega); simpa using this)
    have hn : inR x.f0 lo hi = true := by rw [inR_iff]; simpa using h0
    rw [selS, if_pos hn, ih]
    cases r <;> cases b <;> simp [ps]
  | x :: r, a + 1, 0, h1, _, _, _, _ => absurd h1 (by omega)
  | x :: r, a + 1, b + 1, h1, h2, h3, h4, h5 => by
    have h0 := h3 0 (by simp) (by omega)
    have ih := selS_split lo hi r a b (by omega) (by simpa using h2) (fun j h g => by have := h3 (j + 1) (by simpa using h) (by omega); simpa using this) (fun j h k g => by have := h4 (j + 1) (by simpa using h) (by omega) (by omega); simpa using this) (fun j h g => by have := h5 (j + 1) (by simpa using h) (by omega); simpa using this)
    have hn : ¬ inR x.f0 lo hi = true := by rw [inR_iff]; simp only [List.getElem_cons_zero] at h0; omega
    rw [selS, if_neg hn, ih, ps, ps]
    omega
theorem selS_bd (lo hi : Int) : ∀ (l : List S35), (∀ x ∈ l, 0 ≤ x.f1 ∧ x.f1 ≤ 1048576) → 0 ≤ selS lo hi l ∧ selS lo hi l ≤ l.length * 1048576
  | [], _ => by simp [selS]
  | x :: r, h => by
    have h1 := selS_bd lo hi r fun y hy => h y (List.mem_cons_of_mem _ hy)
    have h2 := h x (List.mem_cons_self ..)
    simp only [selS, List.length_cons]
    split <;> omega
def SS (l : List S35) (R : Int) (i : Nat) : Int := selS ((rd_T35 l (i : Int)).f0 - R) (rd_T35 l (i : Int)).f0 l
def vr (l : List S35) (R : Int) : Nat → Int
  | 0 => 0
  | n + 1 => mx (vr l R n) (SS l R n)
def lastAt (l : List S35) (i : Nat) : Prop := i + 1 = l.length ∨ (rd_T35 l (i : Int)).f0 < (rd_T35 l ((i : Int) + 1)).f0
instance (l : List S35) (i : Nat) : Decidable (lastAt l i) := by unfold lastAt; infer_instance
def vp (l : List S35) (R : Int) : Nat → Int
  | 0 => 0
  | n + 1 => if lastAt l n then mx (vp l R n) (SS l R n) else vp l R n
theorem rd_succ (l : List S35) (i : Nat) (h : i + 1 < l.length) : rd_T35 l ((i : Int) + 1) = l[i + 1] := by
  have : ((i : Int) + 1) = ((i + 1 : Nat) : Int) := rfl
  rw [this, rd35_get l (i + 1) h]
theorem vr_vp (l : List S35) (R : Int) (hs : l.Pairwise fun x y => x.f0 ≤ y.f0) (n : Nat) : n + 1 ≤ l.length → vr l R (n + 1) = mx (vp l R (n + 1)) (SS l R n) := by
  induction n with
  | zero =>
    intro _
    show mx 0 _ = mx (if lastAt l 0 then mx 0 (SS l R 0) else 0) _
    split
    · unfold mx; (repeat' split) <;> omega
    · rfl
  | succ n ih =>
    intro hn
    have ih := ih (by omega)
    show mx (vr l R (n + 1)) _ = mx (if lastAt l (n + 1) then mx (vp l R (n + 1)) (SS l R (n + 1)) else vp l R (n + 1)) _
    have key : vr l R (n + 1) ≤ mx (vp l R (n + 1)) (SS l R (n + 1)) ∧ vp l R (n + 1) ≤ vr l R (n + 1) := by
      rw [ih]
      by_cases hl : lastAt l n
      · have e : vp l R (n + 1) = mx (vp l R n) (SS l R n) := if_pos hl
        rw [e]
        unfold mx; constructor <;> (repeat' split) <;> omega
      · have e : SS l R n = SS l R (n + 1) := by
          unfold lastAt at hl
          have h1 : ¬ n + 1 = l.length := fun g => hl (.inl g)
          have h2 : ¬ (rd_T35 l (n : Int)).f0 < (rd_T35 l ((n : Int) + 1)).f0 := fun g => hl (.inr g)
          rw [rd_succ l n (by omega), rd35_get l n (by omega)] at h2
          have h3 := List.pairwise_iff_getElem.1 hs n (n + 1) (by omega) (by omega) (by omega)
          have h4 : l[n].f0 = l[n + 1].f0 := by omega
          unfold SS
          rw [rd35_get l n (by omega), show ((n + 1 : Nat) : Int) = (n : Int) + 1 from rfl, rd_succ l n (by omega), h4]
        rw [e]
        unfold mx; constructor <;> (repeat' split) <;> omega
    obtain ⟨k1, k2⟩ := key
    by_cases c : lastAt l (n + 1)
    · rw [if_pos c]; revert k1; unfold mx; (repeat' split) <;> omega
    · rw [if_neg c]; revert k1; unfold mx; (repeat' split) <;> omega
theorem vr_eq_vp (l : List S35) (R : Int) (hs : l.Pairwise fun x y => x.f0 ≤ y.f0) (h : 1 ≤ l.length) : vr l R l.length = vp l R l.length := by
  obtain ⟨n, hn⟩ : ∃ n, l.length = n + 1 := ⟨l.length - 1, by omega⟩
  rw [hn, vr_vp l R hs n (by omega)]
  have e : vp l R (n + 1) = mx (vp l R n) (SS l R n) := if_pos (.inl hn.symm)
  rw [e]
  unfold mx; (repeat' split) <;> omega
theorem SS_bd (l : List S35) (R : Int) (h : ∀ x ∈ l, 0 ≤ x.f1 ∧ x.f1 ≤ 1048576) (i : Nat) : 0 ≤ SS l R i ∧ SS l R i ≤ l.length * 1048576 := selS_bd _ _ l h
theorem vr_bd (l : List S35) (R : Int) (h : ∀ x ∈ l, 0 ≤ x.f1 ∧ x.f1 ≤ 1048576) : ∀ n, 0 ≤ vr l R n ∧ vr l R n ≤ l.length * 1048576
  | 0 => by simp only [vr]; omega
  | n + 1 => by
    have h1 := vr_bd l R h n
    have h2 := SS_bd l R h n
    show 0 ≤ mx _ _ ∧ mx _ _ ≤ _
    unfold mx; split <;> omega
theorem vp_bd (l : List S35) (R : Int) (h : ∀ x ∈ l, 0 ≤ x.f1 ∧ x.f1 ≤ 1048576) : ∀ n, 0 ≤ vp l R n ∧ vp l R n ≤ l.length * 1048576
  | 0 => by simp only [vp]; omega
  | n + 1 => by
    have h1 := vp_bd l R h n
    have h2 := SS_bd l R h n
    show 0 ≤ (if _ then mx _ _ else _) ∧ (if _ then mx _ _ else _) ≤ _
    unfold mx; split
    · split <;> omega
    · omega
def pressV (l : List S35) (cover wide : Int) : Int := upI (vp l (2 * (cover + 150)) l.length * 1000000) (2 * (cover + 150) * (wide + 2 * cover))
theorem press_final {v cover wide : Int} (hc : 0 ≤ cover ∧ cover ≤ 16384) (hw : 100 ≤ wide ∧ wide ≤ 10000) (hv : 0 ≤ v ∧ v ≤ 67108864) :
    bridge_up.f (wrap64 (v * 1000000)) (wrap64 (2 * (cover + 150) * (wrap64 (wide + wrap64 (2 * cover))))) = some (upI (v * 1000000) (2 * (cover + 150) * (wide + 2 * cover))) ∧
    gooseneckref06_up.f (wrap64 (v * 1000000)) (wrap64 (wrap64 (2 * (cover + 150)) * (wrap64 (wide + wrap64 (2 * cover))))) = some (upI (v * 1000000) (2 * (cover + 150) * (wide + 2 * cover))) := by
  have h1 : 1 * 1 ≤ 2 * (cover + 150) * (wide + 2 * cover) := Int.mul_le_mul (by omega) (by omega) (by decide) (by omega)
  have h2 : 2 * (cover + 150) * (wide + 2 * cover) ≤ 33068 * 42768 := Int.mul_le_mul (by omega) (by omega) (by omega) (by decide)
  rw [w64 (x := 2 * cover) (by omega) (by omega), w64 (x := wide + 2 * cover) (by omega) (by omega), w64 (x := v * 1000000) (by omega) (by omega), w64 (x := 2 * (cover + 150)) (by omega) (by omega), w64 (x := 2 * (cover + 150) * (wide + 2 * cover)) (by omega) (by omega)]
  exact ⟨upW_eq (by omega) (by omega) (by omega) (by omega), upR_eq (by omega) (by omega) (by omega) (by omega)⟩
theorem pressR_in {l : List S35} {cover wide most V : Int} {i : Nat} {v : Int × Int} (hc : 0 ≤ cover ∧ cover ≤ 16384) (hl : l.length ≤ 64) (hf : ∀ x ∈ l, OkForce x) (hi : i < l.length) (hb : 0 ≤ V ∧ V ≤ 67108864)
    (h : Ev (fun k => gooseneckref06_Pressure.l0 k l cover wide (cover + 150) (mx most V) ((i : Int) + 1)) v) (n : Nat) : ∀ (j : Nat) (s : Int), l.length - j = n → j ≤ l.length → 0 ≤ s → s + selS (l[i].f0 - 2 * (cover + 150)) l[i].f0 (l.drop j) = V →
    Ev (fun k => gooseneckref06_Pressure.l1 k l cover wide (cover + 150) most (i : Int) s (j : Int)) v := by
  have hx := hf _ (List.getElem_mem hi)
  unfold OkForce at hx
  have e1 : wrap64 (l[i].f0 - wrap64 (2 * (cover + 150))) = l[i].f0 - 2 * (cover + 150) := by rw [w64 (x := 2 * (cover + 150)) (by omega) (by omega), w64 (by omega) (by omega)]
  induction n with
  | zero =>
    intro j s hn hj h0 hs
    have e : j = l.length := by omega
    subst e
    rw [List.drop_length, selS, Int.add_zero] at hs
    subst hs
    refine Ev.step (fun k => ?_) h
    rw [gooseneckref06_Pressure.l1, if_neg (by omega), w64 (by omega) (by omega)]
  | succ n ih =>
    intro j s hn hj h0 hs
    have hlt : j < l.length := by omega
    have hy := hf _ (List.getElem_mem hlt)
    rw [List.drop_eq_getElem_cons hlt, selS] at hs
    have hr := (selS_bd (l[i].f0 - 2 * (cover + 150)) l[i].f0 (l.drop (j + 1)) (fun x hx => (hf x (List.mem_of_mem_drop hx)).2)).1
    have ih := fun s' => ih (j + 1) s' (by omega) (by omega)
    unfold OkForce at hy
    have e2 : wrap64 ((j : Int) + 1) = ((j + 1 : Nat) : Int) := by rw [w64 (by omega) (by omega)]; rfl
    have hst : ∀ k, gooseneckref06_Pressure.l1 (k + 1) l cover wide (cover + 150) most (i : Int) s (j : Int) = if inR l[j].f0 (l[i].f0 - 2 * (cover + 150)) l[i].f0 = true then gooseneckref06_Pressure.l1 k l cover wide (cover + 150) most (i : Int) (wrap64 (s + l[j].f1)) ((j + 1 : Nat) : Int) else gooseneckref06_Pressure.l1 k l cover wide (cover + 150) most (i : Int) s ((j + 1 : Nat) : Int) := by
      intro k
      rw [gooseneckref06_Pressure.l1, if_pos (Int.ofNat_lt.2 hlt), if_pos (Int.natCast_nonneg j), if_pos (Int.natCast_nonneg i), if_pos (Int.ofNat_lt.2 hi), rd35_get l i hi, rd35_get l j hlt, e1, e2, within_r, Option.bind_some]
    refine Ev.step hst ?_
    clear hst e1 e2
    generalize selS (l[i].f0 - 2 * (cover + 150)) l[i].f0 (l.drop (j + 1)) = T at *
    by_cases c : inR l[j].f0 (l[i].f0 - 2 * (cover + 150)) l[i].f0 = true
    · rw [if_pos c] at hs
      simp only [if_pos c]
      rw [w64 (by omega) (by omega)]
      exact ih (s + l[j].f1) (by omega) (by omega)
    · rw [if_neg c] at hs
      simp only [if_neg c]
      exact ih s h0 (by omega)
theorem pressR_out {l : List S35} {cover wide : Int} (hc : 0 ≤ cover ∧ cover ≤ 16384) (hw : 100 ≤ wide ∧ wide ≤ 10000) (hl : l.length ≤ 64) (hf : ∀ x ∈ l, OkForce x) (n : Nat) : ∀ (i : Nat), l.length - i = n → i ≤ l.length →
    Ev (fun k => gooseneckref06_Pressure.l0 k l cover wide (cover + 150) (vr l (2 * (cover + 150)) i) (i : Int)) (upI (vr l (2 * (cover + 150)) l.length * 1000000) (2 * (cover + 150) * (wide + 2 * cover)), 0) := by
  have hv := vr_bd l (2 * (cover + 150)) (fun x hx => (hf x hx).2) l.length
  induction n with
  | zero =>
    intro i hn hi
    have e : i = l.length := by omega
    subst e
    refine Ev.step (f := fun _ => some (upI (vr l (2 * (cover + 150)) l.length * 1000000) (2 * (cover + 150) * (wide + 2 * cover)), 0)) (fun k => ?_) (Ev.now _)
    rw [gooseneckref06_Pressure.l0, if_neg (by omega), (press_final hc hw (by omega)).2, Option.bind_some]
  | succ n ih =>
    intro i hn hi
    have hlt : i < l.length := by omega
    have hb : 0 ≤ SS l (2 * (cover + 150)) i ∧ SS l (2 * (cover + 150)) i ≤ 67108864 := by
      have := SS_bd l (2 * (cover + 150)) (fun x hx => (hf x hx).2) i
      generalize SS l (2 * (cover + 150)) i = V at *
      omega
    have h0 : SS l (2 * (cover + 150)) i = selS (l[i].f0 - 2 * (cover + 150)) l[i].f0 l := by unfold SS; rw [rd35_get l i hlt]
    have h := pressR_in (wide := wide) (most := vr l (2 * (cover + 150)) i) (V := SS l (2 * (cover + 150)) i) hc hl hf hlt hb (ih (i + 1) (by omega) (by omega)) l.length 0 0 (Nat.sub_zero _) (Nat.zero_le _) (Int.le_refl _) (by rw [h0, List.drop_zero, Int.zero_add])
    refine Ev.step (fun k => ?_) h
    rw [gooseneckref06_Pressure.l0, if_pos (by omega)]
    rfl
theorem pressW_in {l : List S35} {cover wide most : Int} {i : Nat} {v : Int × Int} (hc : 0 ≤ cover ∧ cover ≤ 16384) (hl : l.length ≤ 64) (hf : ∀ x ∈ l, OkForce x) (hs : l.Pairwise fun x y => x.f0 ≤ y.f0) (hi : i < l.length)
    (h : ∀ a : Nat, a ≤ i → (∀ (j m : Nat) (hm : m < l.length) (hj : j < l.length), j < a → i ≤ m → l[j].f0 < l[m].f0 - 2 * (cover + 150)) →
      Ev (fun k => bridge_Pressure.l0 k l cover wide (2 * (cover + 150)) (if lastAt l i then mx most (SS l (2 * (cover + 150)) i) else most) (ps l (i + 1) - ps l a) (a : Int) l (l.length : Int) ((i : Int) + 1)) v) (n : Nat) : ∀ (a : Nat), i - a = n → a ≤ i →
    (∀ (j m : Nat) (hm : m < l.length) (hj : j < l.length), j < a → i ≤ m → l[j].f0 < l[m].f0 - 2 * (cover + 150)) →
    Ev (fun k => bridge_Pressure.l1 k l cover wide (2 * (cover + 150)) most (ps l (i + 1) - ps l a) (a : Int) (i : Int) l (l.length : Int) (i : Int) l[i].f0 l[i].f1) v := by
  have hf2 : ∀ x ∈ l, 0 ≤ x.f1 ∧ x.f1 ≤ 1048576 := fun x hx => (hf x hx).2
  have hx := hf _ (List.getElem_mem hi)
  unfold OkForce at hx
  have e1 : wrap64 (l[i].f0 - 2 * (cover + 150)) = l[i].f0 - 2 * (cover + 150) := w64 (by omega) (by omega)
  -- the end of the inner loop
  have hend : ∀ a : Nat, a ≤ i → ¬ (rd_T35 l (a : Int)).f0 < l[i].f0 - 2 * (cover + 150) → (∀ (j m : Nat) (hm : m < l.length) (hj : j < l.length), j < a → i ≤ m → l[j].f0 < l[m].f0 - 2 * (cover + 150)) →
      Ev (fun k => bridge_Pressure.l1 k l cover wide (2 * (cover + 150)) most (ps l (i + 1) - ps l a) (a : Int) (i : Int) l (l.length : Int) (i : Int) l[i].f0 l[i].f1) v := by
    intro a ha hnot hinv
    have hlast : lastAt l i → ps l (i + 1) - ps l a = SS l (2 * (cover + 150)) i := by
      intro hlst
      unfold SS
      rw [rd35_get l i hi]
      symm
      refine selS_split _ _ l a (i + 1) (by omega) (by omega) (fun j hj g => hinv j i hi hj g (Nat.le_refl _)) (fun j hj g1 g2 => ?_) (fun j hj g => ?_)
      · constructor
        · rw [rd35_get l a (by omega)] at hnot
          rcases Nat.lt_or_ge a j with q | q
          · have := List.pairwise_iff_getElem.1 hs a j (by omega) hj q; omega
          · have : j = a := by omega
            subst this; omega
        · rcases Nat.lt_or_ge j i with q | q
          · exact List.pairwise_iff_getElem.1 hs j i hj hi q
          · have : j = i := by omega
            subst this; omega
      · rcases hlst with q | q
        · omega
        · rw [rd35_get l i hi, rd_succ l i (by omega)] at q
          rcases Nat.lt_or_ge (i + 1) j with p | p
          · have := List.pairwise_iff_getElem.1 hs (i + 1) j (by omega) hj p; omega
          · have : j = i + 1 := by omega
            subst this; exact q
    have hh := h a ha hinv
    refine Ev.step (fun k => ?_) hh
    have ei : wrap64 ((i : Int) + 1) = (i : Int) + 1 := w64 (by omega) (by omega)
    rw [bridge_Pressure.l1, if_pos (by omega), if_pos (by omega), e1, if_neg hnot, ei]
    by_cases c : (i : Int) + 1 = (l.length : Int)
    · have hlst : lastAt l i := .inl (by omega)
      rw [if_pos c, if_pos hlst, hlast hlst]
    · rw [if_neg c, if_pos (by omega), if_pos (by omega)]
      by_cases c2 : (rd_T35 l ((i : Int) + 1)).f0 > l[i].f0
      · have hlst : lastAt l i := .inr (by rw [rd35_get l i hi]; exact c2)
        rw [if_pos c2, if_pos hlst, hlast hlst]
      · have hlst : ¬ lastAt l i := by
          rintro (q | q)
          · omega
          · rw [rd35_get l i hi] at q; exact c2 q
        rw [if_neg c2, if_neg hlst]
  induction n with
  | zero =>
    intro a hn ha hinv
    have e : a = i := by omega
    subst e
    refine hend a ha ?_ hinv
    rw [rd35_get l a hi]
    omega
  | succ n ih =>
    intro a hn ha hinv
    by_cases c : (rd_T35 l (a : Int)).f0 < l[i].f0 - 2 * (cover + 150)
    · have hal : a < l.length := by omega
      have p1 := ps_succ l a hal
      have p2 := ps_bd l (i + 1) hf2
      have p3 := ps_bd l a hf2
      have p4 := ps_bd l (a + 1) hf2
      have hi2 := ih (a + 1) (by omega) (by omega) (fun j m hm hj g1 g2 => by
        rcases Nat.lt_or_ge j a with q | q
        · exact hinv j m hm hj q g2
        · have e : j = a := by omega
          subst e
          rw [rd35_get l j hal] at c
          rcases Nat.lt_or_ge i m with p | p
          · have := List.pairwise_iff_getElem.1 hs i m hi hm p; omega
          · have : m = i := by omega
            subst this; exact c)
      refine Ev.step (fun k => ?_) hi2
      rw [bridge_Pressure.l1, if_pos (by omega), if_pos (by omega), e1, if_pos c, rd35_get l a hal, w64 (x := (a : Int) + 1) (by omega) (by omega), w64 (by omega) (by omega), show ps l (i + 1) - ps l a - l[a].f1 = ps l (i + 1) - ps l (a + 1) by omega]
      rfl
    · exact hend a ha c hinv
theorem pressW_out {l : List S35} {cover wide : Int} (hc : 0 ≤ cover ∧ cover ≤ 16384) (hw : 100 ≤ wide ∧ wide ≤ 10000) (hl : l.length ≤ 64) (hf : ∀ x ∈ l, OkForce x) (hs : l.Pairwise fun x y => x.f0 ≤ y.f0) (n : Nat) : ∀ (i a : Nat), l.length - i = n → i ≤ l.length → a ≤ i →
    (∀ (j m : Nat) (hm : m < l.length) (hj : j < l.length), j < a → i ≤ m → l[j].f0 < l[m].f0 - 2 * (cover + 150)) →
    Ev (fun k => bridge_Pressure.l0 k l cover wide (2 * (cover + 150)) (vp l (2 * (cover + 150)) i) (ps l i - ps l a) (a : Int) l (l.length : Int) (i : Int)) (pressV l cover wide, 0) := by
  have hf2 : ∀ x ∈ l, 0 ≤ x.f1 ∧ x.f1 ≤ 1048576 := fun x hx => (hf x hx).2
  have hv := vp_bd l (2 * (cover + 150)) hf2 l.length
  induction n with
  | zero =>
    intro i a hn hi ha hinv
    have e : i = l.length := by omega
    subst e
    refine Ev.step (f := fun _ => some (pressV l cover wide, 0)) (fun k => ?_) (Ev.now _)
    rw [bridge_Pressure.l0, if_neg (by omega), (press_final hc hw (by omega)).1, Option.bind_some]
    rfl
  | succ n ih =>
    intro i a hn hi ha hinv
    have hlt : i < l.length := by omega
    have p1 := ps_succ l i hlt
    have p2 := ps_bd l (i + 1) hf2
    have p3 := ps_bd l a hf2
    have h := pressW_in (wide := wide) (most := vp l (2 * (cover + 150)) i) hc hl hf hs hlt (v := (pressV l cover wide, 0)) (fun a' ha' hinv' => ih (i + 1) a' (by omega) (by omega) (by omega) (fun j m hm hj g1 g2 => hinv' j m hm hj g1 (by omega))) (i - a) a rfl ha hinv
    refine Ev.step (fun k => ?_) h
    rw [bridge_Pressure.l0, if_pos (by omega), if_pos (by omega), if_pos (by omega), rd35_get l i hlt, w64 (by omega) (by omega), show ps l i - ps l a + l[i].f1 = ps l (i + 1) - ps l a by omega]
def pressW (l : List S35) (cover wide : Int) : Int × Int := if errT l = 0 then (if inR cover 0 16384 = true ∧ inR wide 100 10000 = true then (pressV l cover wide, 0) else (0, 3)) else (0, errT l)
theorem pressure_ev (l : List S35) (cover wide : Int) : Ev (fun k => bridge_Pressure.f k l cover wide) (pressW l cover wide) := by
  unfold bridge_Pressure.f pressW
  refine Ev.bind (checkTrain_ev l) ?_
  by_cases h1 : errT l = 0
  · simp only [if_pos h1, between_eq, Option.bind_some]
    by_cases h2 : inR cover 0 16384 = true
    · simp only [if_pos h2]
      by_cases h3 : inR wide 100 10000 = true
      · rw [if_pos ⟨h2, h3⟩]
        have q := errT_zero h1
        have hs := ((trainOk_iff l 0 true).1 q.2.2).1
        have c2 := inR_iff.1 h2
        have h := pressW_out c2 (inR_iff.1 h3) q.2.1 (okForces h1) hs l.length 0 0 rfl (Nat.zero_le _) (Nat.le_refl _) (fun j m _ _ g => absurd g (by omega))
        have e0 : vp l (2 * (cover + 150)) 0 = 0 := rfl
        have e1 : ps l 0 = 0 := by cases l <;> rfl
        rw [e0, e1] at h
        refine Ev.step (fun k => ?_) h
        rw [bridge_Pressure.j0, h3, if_neg (by decide), w64 (x := cover + 150) (by omega) (by omega), w64 (by omega) (by omega)]
        rfl
      · rw [if_neg (fun g => h3 g.2)]
        have h3' : inR wide 100 10000 = false := by simpa using h3
        refine Ev.step (f := fun _ => some (0, 3)) (fun k => ?_) (Ev.now _)
        rw [bridge_Pressure.j0, h3']; rfl
    · simp only [if_neg h2]
      rw [if_neg (fun g => h2 g.1)]
      refine Ev.step (f := fun _ => some (0, 3)) (fun k => ?_) (Ev.now _)
      rw [bridge_Pressure.j0, if_pos rfl]
  · simp only [if_neg h1]; exact Ev.now _
theorem pressureR_ev (l : List S35) (cover wide : Int) : Ev (fun k => gooseneckref06_Pressure.f k l cover wide) (pressW l cover wide) := by
  unfold gooseneckref06_Pressure.f pressW
  simp only [trainR_eq, within_r, Option.bind_some]
  by_cases h1 : errT l = 0
  · simp only [if_pos h1]
    by_cases h2 : inR cover 0 16384 = true
    · simp only [if_pos h2]
      by_cases h3 : inR wide 100 10000 = true
      · rw [if_pos ⟨h2, h3⟩]
        have q := errT_zero h1
        have hs := ((trainOk_iff l 0 true).1 q.2.2).1
        have c2 := inR_iff.1 h2
        have h := pressR_out c2 (inR_iff.1 h3) q.2.1 (okForces h1) l.length 0 rfl (Nat.zero_le _)
        rw [vr_eq_vp l _ hs q.1] at h
        refine Ev.step (fun k => ?_) h
        rw [gooseneckref06_Pressure.j0, h3, if_neg (by decide), w64 (x := cover + 150) (by omega) (by omega)]
        rfl
      · rw [if_neg (fun g => h3 g.2)]
        have h3' : inR wide 100 10000 = false := by simpa using h3
        refine Ev.step (f := fun _ => some (0, 3)) (fun k => ?_) (Ev.now _)
        rw [gooseneckref06_Pressure.j0, h3']; rfl
    · simp only [if_neg h2]
      rw [if_neg (fun g => h2 g.1)]
      refine Ev.step (f := fun _ => some (0, 3)) (fun k => ?_) (Ev.now _)
      rw [gooseneckref06_Pressure.j0, if_pos rfl]
  · simp only [if_neg h1]; exact Ev.now _
end Go.Proofs.Ytiklpefckadgdaa.P
namespace Go.Proofs.Ytiklpefckadgdaa.P
open Go.RowKit Go.Proofs.YtiklpefckadgdaaW.PrintWords Go.Proofs.YtiklpefckadgdaaW.PrintLast Go.Proofs.YtiklpefckadgdaaW.PrintMore
theorem BridgeGround_pure : BridgeGround_Pure := by
  intro l cover wide pv passes done _ _ _ _ _ _
  obtain ⟨load, life, power⟩ := pv
  refine Ev.rounds (g := fun k => goosenecklaw06_BridgeGround.f k l cover wide load life power passes done) ?_
  show Ev (fun k => goosenecklaw06_BridgeGround.f k l cover wide load life power passes done) true
  unfold goosenecklaw06_BridgeGround.f
  have hk : Ev (fun k => (goosenecklaw06_known.f k).bind fun t => some t) true := Ev.bind known_ev (Ev.now _)
  by_cases h70 : (l.length : Int) > 70
  · simp only [if_pos h70]; exact hk
  · simp only [if_neg h70]
    refine Ev.bind (pressure_ev l cover wide) (Ev.bind (pressureR_ev l cover wide) (Ev.bind (damage_ev load life power l passes) (Ev.bind (DamageR_ev load life power l passes) ?_)))
    simp only [left_eq, Option.bind_some]
    refine Ev.bind (LeftR_ev load life power l done) ?_
    simp only [checkPv_eq, checkPvR_eq, Option.bind_some, if_true]
    exact hk
end Go.Proofs.Ytiklpefckadgdaa.P
namespace Go.Proofs.Ytiklpefckadgdaa.bridgeGround
open Go.ChangeShapes Go.WideShapes Go.ChangeAt Go.RowKit Go.Proofs.Ytiklpefckadgdaa.P
open Go.Proofs.YtiklpefckadgdaaW.PrintWords Go.Proofs.YtiklpefckadgdaaW.PrintLast Go.Proofs.YtiklpefckadgdaaW.PrintMore
open Go.ChangeMaps (open_string shut_string)
set_option linter.unusedVariables false
theorem own : ownKnob Try.prog.godebug = none := by kernel_rfl
theorem laidOut : laidOutB Try.prog = true := by kernel_rfl
set_option maxRecDepth 100000 in
theorem lifted (os : Os) (started : os.Started) (H : Type) (enc : TypeId × Value → H) :
    ReturnsInHanded {} Try.checked os 6 .any (Rows.bridgeGroundSpec.pre6 enc Try.prog Try.f6 Rows.bridgeGroundRow.domain false) (Rows.bridgeGroundSpec.post enc Try.prog Try.f6 false true false false) := by
  refine returnsInHanded_of_change_sized (C := Try.checked) own started (by kernel_rfl) Try.func6
    (ChangeSpec.witness6 (enc := enc) (C := Try.checked) false ⟨#[], #[.slice none 0 0, .int .i64 0, .int .i64 0, .agg #[.int .i64 0, .int .i64 0, .int .i64 0], .int .i64 0, .int .i64 0], []⟩ 8 (by kernel_rfl) (by kernel_rfl) (by kernel_rfl) (by kernel_rfl)) ?_
  intro W base args ds gs before hval0 hW hcnd hsz0 _
  have hval : ∀ (j : Nat) t v, Try.f6.params[j]? = some t → args[j]? = some v → Value.okWide Try.prog W .any base t v := hval0
  have hW' := hW
  obtain ⟨p, q, hA0, hV, rfl, hfz, hnd⟩ := hW
  have hA : DataW.TrodAll enc Try.prog W 0 (fun _ => true) true Try.f6.params.toList args.toList ds p := hA0
  rw [Try.params6] at hA hval
  obtain ⟨v0, vs0, d0, ds0, p0, q0, hargs, rfl, rfl, h0, r0⟩ := trodAll_cons hA
  obtain ⟨v1, vs1, d1, ds1, p1, q1, rfl, rfl, rfl, h1, r1⟩ := trodAll_cons r0
  obtain ⟨v2, vs2, d2, ds2, p2, q2, rfl, rfl, rfl, h2, r2⟩ := trodAll_cons r1
  obtain ⟨v3, vs3, d3, ds3, p3, q3, rfl, rfl, rfl, h3, r3⟩ := trodAll_cons r2
  obtain ⟨v4, vs4, d4, ds4, p4, q4, rfl, rfl, rfl, h4, r4⟩ := trodAll_cons r3
  obtain ⟨v5, vs5, d5, ds5, p5, q5, rfl, rfl, rfl, h5, r5⟩ := trodAll_cons r4
  obtain ⟨rfl, rfl, rfl⟩ := trodAll_nil r5
  obtain rfl : args = #[v0, v1, v2, v3, v4, v5] := by cases args; simp_all
  obtain ⟨rfl, rfl⟩ := trodVars_none hV
  have k0 := h0
  have lt0 : ∀ x ∈ p0, x.block < W.heap.size := by obtain ⟨m, hm⟩ := k0; exact DataW.trod_lt m _ _ _ hm
  obtain ⟨a0, len0, cap0, rfl⟩ := okWide_slice Try.underlying25 (hval 0 25 v0 rfl rfl)
  obtain ⟨f0, hf0⟩ := h0
  obtain ⟨l0, ⟨A0, c0, e0, hc0, hr0⟩, w0⟩ := (Opens.slice Try.underlying25 (by kernel_rfl) opens35) H enc W _ _ _ _ _ _ hf0
  simp [Value.cells] at e0
  obtain ⟨rfl, rfl, rfl⟩ := e0
  obtain ⟨a1, rfl, rfl, rfl, w1⟩ := open_int Try.underlying2 (hval 1 2 v1 rfl rfl) h1
  obtain ⟨a2, rfl, rfl, rfl, w2⟩ := open_int Try.underlying2 (hval 2 2 v2 rfl rfl) h2
  have k3 := h3
  have lt3 : ∀ x ∈ p3, x.block < W.heap.size := by obtain ⟨m, hm⟩ := k3; exact DataW.trod_lt m _ _ _ hm
  obtain ⟨cs3, rfl, hz3⟩ := okWide_struct Try.underlying43 (hval 3 43 v3 rfl rfl)
  obtain ⟨f3, hf3⟩ := h3
  obtain ⟨x3, hK3, w3⟩ := opens43 H enc W _ _ _ _ _ _ hf3
  have e3 := k43_open hK3
  obtain rfl : cs3 = #[.int .i64 x3.f0, .int .i64 x3.f1, .int .i64 x3.f2] := by apply Array.toList_inj.1; simpa [Value.cells] using e3
  obtain ⟨a4, rfl, rfl, rfl, w4⟩ := open_int Try.underlying2 (hval 4 2 v4 rfl rfl) h4
  obtain ⟨a5, rfl, rfl, rfl, w5⟩ := open_int Try.underlying2 (hval 5 2 v5 rfl rfl) h5
  clear hA0 hval0 hsz0
  obtain ⟨k, hk⟩ := BridgeGround_pure l0 a1 a2 x3 a4 a5 w0 w1 w2 w3 w4 w5
  refine (goosenecklaw06_BridgeGround.calls k _ _ l0 a1 a2 x3.f0 x3.f1 x3.f2 a4 a5 true W hr0 hc0 ⟨rfl⟩ hk).mono fun e W' ⟨he, bel⟩ => ?_
  subst he
  exact ⟨_, rfl, _, _, _, [], _, [], hW', trodAll_mk1 (shut_bool Try.underlying4 _), (trodAll_cons_mk (Below.trod laidOut (by kernel_rfl) (of_decide_eq_true (by kernel_rfl)) k0 bel lt0) (trodAll_cons_mk (shut_int Try.underlying2 w1) (trodAll_cons_mk (shut_int Try.underlying2 w2) (trodAll_cons_mk (Below.trod laidOut (by kernel_rfl) (of_decide_eq_true (by kernel_rfl)) k3 bel lt3) (trodAll_cons_mk (shut_int Try.underlying2 w4) (trodAll_cons_mk (shut_int Try.underlying2 w5) trodAll_mk0)))))), rfl, bel.frame _, fun h => by cases h⟩
theorem over : Rows.bridgeGroundRow.holds Try.pinned (OpenSpec.ofChange Rows.bridgeGroundSpec) :=
  OpenClaim.holds_of_wide 6 Try.f6 rfl rfl rfl rfl rfl rfl rfl ⟨rfl, rfl, rfl, rfl, rfl⟩ rfl rfl rfl rfl rfl (by kernel_rfl) Try.func6 (by kernel_rfl)
    (of_decide_eq_true (by kernel_rfl)) (by unfold Func.isWrapper; first | (rw [if_pos (by decide +kernel)]; kernel_rfl) | (rw [if_neg (by decide +kernel)]; exact ⟨rfl, rfl⟩))
    (fun os started H enc _ => lifted os started H enc)
theorem proved : Rows.BridgeGroundSaid := over
#print axioms proved
end Go.Proofs.Ytiklpefckadgdaa.bridgeGround
namespace Go.Proofs.Ytiklpefckadgdaa
theorem bridgeGround_holds : Rows.BridgeGroundSaid := bridgeGround.proved
end Go.Proofs.Ytiklpefckadgdaa
