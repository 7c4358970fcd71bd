/- The law BridgeWears answers true at every input and leaves its arguments as they were; no condition. Part 3 of 3: the row. -/
import Derived.Test.YtiklpefckadgdaaCBridgeWears0
import Derived.Test.YtiklpefckadgdaaCBridgeWears1
import Derived.ChangeArms
import Derived.ChangeSame
import Derived.Deep.Slices
import Derived.WideShapes
import Derived.KernelRfl
import Derived.Test.YtiklpefckadgdaaRows
import Derived.WalkKit
import Derived.ProofKit
import Derived.OpenShut
import Derived.ShutString
import Derived.ChangeOld
import Derived.Below
import Derived.SizedLaws
import Derived.Carry
import Derived.Lib.SmallJoins
noncomputable section
namespace Go.Proofs.Ytiklpefckadgdaa.P
open Go.RowKit Go.Proofs.YtiklpefckadgdaaW.PrintWords Go.Proofs.YtiklpefckadgdaaW.PrintLast Go.Proofs.YtiklpefckadgdaaW.PrintMore
attribute [local go_sem] max2_int min2_int max_two min_two max_three min_three max_four min_four   -- for this text's walks alone
set_option linter.unusedVariables false
set_option linter.unusedSimpArgs false

attribute [local go_sem high] eqA29
/-! ### goosenecklaw06_known: function 12 -/
def goosenecklaw06_known.f (k : Nat)  : Option (Bool) := (goosenecklaw06_Example.f).bind fun bt101 => ((goosenecklaw06_Two.f).bind fun t113 => ((bridge_WorstMoment.f bt101.1 bt101.2.1 bt101.2.2.1 bt101.2.2.2.1 bt101.2.2.2.2.1 bt101.2.2.2.2.2 t113 0 10000).bind fun bt116 => ((goosenecklaw06_Example.f).bind fun bt122 => ((goosenecklaw06_Two.f).bind fun t134 => ((bridge_WorstEnd.f bt122.1 bt122.2.1 bt122.2.2.1 bt122.2.2.2.1 bt122.2.2.2.2.1 bt122.2.2.2.2.2 t134 0 false).bind fun bt137 => ((goosenecklaw06_Two.f).bind fun t143 => ((bridge_Damage.f k 10000 1000 4 t143 1).bind fun bt146 => (if (wrap64 ((wrap64 (bt116.2.2.2.2 + bt137.2.2.2.2)) + bt146.2)) = 0 then (if (bt116.1 == 2160000000000 && (bt116.2.1 == 0 && (bt116.2.2.1 == 10000 && (bt116.2.2.2.1 == 10000)))) = true then (if (bt137.1 == 456000000 && (bt137.2.1 == 0 && (bt137.2.2.1 == 0 && (bt137.2.2.2.1 == 2000)))) = true then (some (bt146.1 == 4148)) else (some false)) else (some false)) else (some false)))))))))
theorem goosenecklaw06_known.mono : ∀ k, LeO (goosenecklaw06_known.f k ) (goosenecklaw06_known.f (k + 1) ) := by
  intro  k
  unfold goosenecklaw06_known.f
  repeat' first
      | (with_reducible exact bridge_Damage.mono _ _ _ _ _ _)
      | (with_reducible exact LeO.refl _)
      | (with_reducible exact LeO.none _)
      | (with_reducible refine LeO.ite ?_ ?_)
      | (with_reducible refine LeO.bind ?_ (fun _ => ?_))
      | exact bridge_Damage.mono _ _ _ _ _ _
      | exact LeO.none _
      | refine LeO.ite ?_ ?_
      | refine LeO.bind ?_ (fun _ => ?_)
set_option maxHeartbeats 8000000 in
set_option maxRecDepth 100000 in
theorem goosenecklaw06_known.callsT (k : Nat)  (r : Bool) (w : World) (hr_ : Aside0 (r = true)) (h : goosenecklaw06_known.f k  = some r) :
    Calls Try.prog 12 #[] w fun e w' => e = .returned (.bool r) ∧ Below w.heap.size w w' := by
  have hu29 := Try.underlying29
  have hu43 := Try.underlying43
  have HB := Aside0.mk (Below.refl w.heap.size w)
  have H : ((goosenecklaw06_Example.f).bind fun bt101 => ((goosenecklaw06_Two.f).bind fun t113 => ((bridge_WorstMoment.f bt101.1 bt101.2.1 bt101.2.2.1 bt101.2.2.2.1 bt101.2.2.2.2.1 bt101.2.2.2.2.2 t113 0 10000).bind fun bt116 => ((goosenecklaw06_Example.f).bind fun bt122 => ((goosenecklaw06_Two.f).bind fun t134 => ((bridge_WorstEnd.f bt122.1 bt122.2.1 bt122.2.2.1 bt122.2.2.2.1 bt122.2.2.2.2.1 bt122.2.2.2.2.2 t134 0 false).bind fun bt137 => ((goosenecklaw06_Two.f).bind fun t143 => ((bridge_Damage.f k 10000 1000 4 t143 1).bind fun bt146 => (if (wrap64 ((wrap64 (bt116.2.2.2.2 + bt137.2.2.2.2)) + bt146.2)) = 0 then (if (bt116.1 == 2160000000000 && (bt116.2.1 == 0 && (bt116.2.2.1 == 10000 && (bt116.2.2.2.1 == 10000)))) = true then (if (bt137.1 == 456000000 && (bt137.2.1 == 0 && (bt137.2.2.1 == 0 && (bt137.2.2.2.1 == 2000)))) = true then (some (bt146.1 == 4148)) else (some false)) else (some false)) else (some false)))))))))) = some r := h
  clear h
  replace H := Option.bind_eq_some_iff.mp H
  obtain ⟨⟨t101, t104, t107, t110, t111, t112⟩, A10, H⟩ := H
  replace H : ((goosenecklaw06_Two.f).bind fun t113 => ((bridge_WorstMoment.f t101 t104 t107 t110 t111 t112 t113 0 10000).bind fun bt116 => ((goosenecklaw06_Example.f).bind fun bt122 => ((goosenecklaw06_Two.f).bind fun t134 => ((bridge_WorstEnd.f bt122.1 bt122.2.1 bt122.2.2.1 bt122.2.2.2.1 bt122.2.2.2.2.1 bt122.2.2.2.2.2 t134 0 false).bind fun bt137 => ((goosenecklaw06_Two.f).bind fun t143 => ((bridge_Damage.f k 10000 1000 4 t143 1).bind fun bt146 => (if (wrap64 ((wrap64 (bt116.2.2.2.2 + bt137.2.2.2.2)) + bt146.2)) = 0 then (if (bt116.1 == 2160000000000 && (bt116.2.1 == 0 && (bt116.2.2.1 == 10000 && (bt116.2.2.2.1 == 10000)))) = true then (if (bt137.1 == 456000000 && (bt137.2.1 == 0 && (bt137.2.2.1 == 0 && (bt137.2.2.2.1 == 2000)))) = true then (some (bt146.1 == 4148)) else (some false)) else (some false)) else (some false))))))))) = some r := H
  have A1 := Aside0.mk A10
  clear A10
  replace H := Option.bind_eq_some_iff.mp H
  obtain ⟨t113, A20, H⟩ := H
  replace H : ((bridge_WorstMoment.f t101 t104 t107 t110 t111 t112 t113 0 10000).bind fun bt116 => ((goosenecklaw06_Example.f).bind fun bt122 => ((goosenecklaw06_Two.f).bind fun t134 => ((bridge_WorstEnd.f bt122.1 bt122.2.1 bt122.2.2.1 bt122.2.2.2.1 bt122.2.2.2.2.1 bt122.2.2.2.2.2 t134 0 false).bind fun bt137 => ((goosenecklaw06_Two.f).bind fun t143 => ((bridge_Damage.f k 10000 1000 4 t143 1).bind fun bt146 => (if (wrap64 ((wrap64 (bt116.2.2.2.2 + bt137.2.2.2.2)) + bt146.2)) = 0 then (if (bt116.1 == 2160000000000 && (bt116.2.1 == 0 && (bt116.2.2.1 == 10000 && (bt116.2.2.2.1 == 10000)))) = true then (if (bt137.1 == 456000000 && (bt137.2.1 == 0 && (bt137.2.2.1 == 0 && (bt137.2.2.2.1 == 2000)))) = true then (some (bt146.1 == 4148)) else (some false)) else (some false)) else (some false)))))))) = some r := H
  have A2 := Aside0.mk A20
  clear A20
  replace H := Option.bind_eq_some_iff.mp H
  obtain ⟨⟨t116, t117, t118, t119, t120⟩, A30, H⟩ := H
  replace H : ((goosenecklaw06_Example.f).bind fun bt122 => ((goosenecklaw06_Two.f).bind fun t134 => ((bridge_WorstEnd.f bt122.1 bt122.2.1 bt122.2.2.1 bt122.2.2.2.1 bt122.2.2.2.2.1 bt122.2.2.2.2.2 t134 0 false).bind fun bt137 => ((goosenecklaw06_Two.f).bind fun t143 => ((bridge_Damage.f k 10000 1000 4 t143 1).bind fun bt146 => (if (wrap64 ((wrap64 (t120 + bt137.2.2.2.2)) + bt146.2)) = 0 then (if (t116 == 2160000000000 && (t117 == 0 && (t118 == 10000 && (t119 == 10000)))) = true then (if (bt137.1 == 456000000 && (bt137.2.1 == 0 && (bt137.2.2.1 == 0 && (bt137.2.2.2.1 == 2000)))) = true then (some (bt146.1 == 4148)) else (some false)) else (some false)) else (some false))))))) = some r := H
  have A3 := Aside0.mk A30
  clear A30
  replace H := Option.bind_eq_some_iff.mp H
  obtain ⟨⟨t122, t125, t128, t131, t132, t133⟩, A40, H⟩ := H
  replace H : ((goosenecklaw06_Two.f).bind fun t134 => ((bridge_WorstEnd.f t122 t125 t128 t131 t132 t133 t134 0 false).bind fun bt137 => ((goosenecklaw06_Two.f).bind fun t143 => ((bridge_Damage.f k 10000 1000 4 t143 1).bind fun bt146 => (if (wrap64 ((wrap64 (t120 + bt137.2.2.2.2)) + bt146.2)) = 0 then (if (t116 == 2160000000000 && (t117 == 0 && (t118 == 10000 && (t119 == 10000)))) = true then (if (bt137.1 == 456000000 && (bt137.2.1 == 0 && (bt137.2.2.1 == 0 && (bt137.2.2.2.1 == 2000)))) = true then (some (bt146.1 == 4148)) else (some false)) else (some false)) else (some false)))))) = some r := H
  have A4 := Aside0.mk A40
  clear A40
  replace H := Option.bind_eq_some_iff.mp H
  obtain ⟨t134, A50, H⟩ := H
  replace H : ((bridge_WorstEnd.f t122 t125 t128 t131 t132 t133 t134 0 false).bind fun bt137 => ((goosenecklaw06_Two.f).bind fun t143 => ((bridge_Damage.f k 10000 1000 4 t143 1).bind fun bt146 => (if (wrap64 ((wrap64 (t120 + bt137.2.2.2.2)) + bt146.2)) = 0 then (if (t116 == 2160000000000 && (t117 == 0 && (t118 == 10000 && (t119 == 10000)))) = true then (if (bt137.1 == 456000000 && (bt137.2.1 == 0 && (bt137.2.2.1 == 0 && (bt137.2.2.2.1 == 2000)))) = true then (some (bt146.1 == 4148)) else (some false)) else (some false)) else (some false))))) = some r := H
  have A5 := Aside0.mk A50
  clear A50
  replace H := Option.bind_eq_some_iff.mp H
  obtain ⟨⟨t137, t138, t139, t140, t141⟩, A60, H⟩ := H
  replace H : ((goosenecklaw06_Two.f).bind fun t143 => ((bridge_Damage.f k 10000 1000 4 t143 1).bind fun bt146 => (if (wrap64 ((wrap64 (t120 + t141)) + bt146.2)) = 0 then (if (t116 == 2160000000000 && (t117 == 0 && (t118 == 10000 && (t119 == 10000)))) = true then (if (t137 == 456000000 && (t138 == 0 && (t139 == 0 && (t140 == 2000)))) = true then (some (bt146.1 == 4148)) else (some false)) else (some false)) else (some false)))) = some r := H
  have A6 := Aside0.mk A60
  clear A60
  replace H := Option.bind_eq_some_iff.mp H
  obtain ⟨t143, A70, H⟩ := H
  replace H : ((bridge_Damage.f k 10000 1000 4 t143 1).bind fun bt146 => (if (wrap64 ((wrap64 (t120 + t141)) + bt146.2)) = 0 then (if (t116 == 2160000000000 && (t117 == 0 && (t118 == 10000 && (t119 == 10000)))) = true then (if (t137 == 456000000 && (t138 == 0 && (t139 == 0 && (t140 == 2000)))) = true then (some (bt146.1 == 4148)) else (some false)) else (some false)) else (some false))) = some r := H
  have A7 := Aside0.mk A70
  clear A70
  replace H := Option.bind_eq_some_iff.mp H
  obtain ⟨⟨t146, t147⟩, A80, H⟩ := H
  replace H : (if (wrap64 ((wrap64 (t120 + t141)) + t147)) = 0 then (if (t116 == 2160000000000 && (t117 == 0 && (t118 == 10000 && (t119 == 10000)))) = true then (if (t137 == 456000000 && (t138 == 0 && (t139 == 0 && (t140 == 2000)))) = true then (some (t146 == 4148)) else (some false)) else (some false)) else (some false)) = some r := H
  have A8 := Aside0.mk A80
  clear A80
  by_cases c9 : (wrap64 ((wrap64 (t120 + t141)) + t147)) = 0
  · rw [if_pos c9] at H
    have c9b0 : ((wrap64 ((wrap64 (t120 + t141)) + t147)) == 0) = true := beq_iff_eq.mpr c9
    have c9b1 : ((wrap64 ((wrap64 (t120 + t141)) + t147)) != 0) = false := bne_eq_false_iff_eq.mpr c9
    clear c9
    by_cases c10 : (t116 == 2160000000000 && (t117 == 0 && (t118 == 10000 && (t119 == 10000)))) = true
    · rw [if_pos c10] at H
      have c10b0 : (t116 == 2160000000000 && (t117 == 0 && (t118 == 10000 && (t119 == 10000)))) = true := c10
      (try (have c10b1 : decide (t116 = 2160000000000 && (t117 == 0 && (t118 == 10000 && (t119 == 10000)))) = true := by simpa using c10))
      (try (have c10b2 : (t116 == 2160000000000 && (t117 == 0 && (t118 == 10000 && (t119 == 10000)))) = true := by simpa using c10))
      clear c10
      by_cases c11 : (t137 == 456000000 && (t138 == 0 && (t139 == 0 && (t140 == 2000)))) = true
      · rw [if_pos c11] at H
        have c11b0 : (t137 == 456000000 && (t138 == 0 && (t139 == 0 && (t140 == 2000)))) = true := c11
        (try (have c11b1 : decide (t137 = 456000000 && (t138 == 0 && (t139 == 0 && (t140 == 2000)))) = true := by simpa using c11))
        (try (have c11b2 : (t137 == 456000000 && (t138 == 0 && (t139 == 0 && (t140 == 2000)))) = true := by simpa using c11))
        clear c11
        obtain rfl := Option.some.inj H
        go_enter Try.func12, Try.ntmps12
        go_wp2_with (first | ((with_reducible refine gate_callee (f := 41) rfl ?_); refine goesL_ (some 8) rfl rfl Try.func41 (by kernel_rfl) rfl #[] rfl (by (try simp only [List.map_toArray, List.map_cons, List.map_nil]); first | done | rfl | (simp only [List.length_drop, List.length_take]; rfl)) ?_; (with_reducible refine (goosenecklaw06_Example.calls  t101 t104 t107 t110 t111 t112 _ A1.out).mono ?_); rintro e w12 ⟨v102, v105, v108, rfl, ho0, ho1, ho2, hb⟩; refine ⟨_, rfl, ?_⟩; have n0_ := Aside0.mk (Kd.R_lower ho0 (below_size (by repeat (first | (with_reducible first | exact HB.out | apply below_alloc | apply pw_below_drewN | apply below_drew1) | exact HB.out)))); have n1_ := Aside0.mk (Kd.R_lower ho1 (below_size (by repeat (first | (with_reducible first | exact HB.out | apply below_alloc | apply pw_below_drewN | apply below_drew1) | exact HB.out)))); have n2_ := Aside0.mk (Kd.R_lower ho2 (below_size (by repeat (first | (with_reducible first | exact HB.out | apply below_alloc | apply pw_below_drewN | apply below_drew1) | exact HB.out)))); have n3_ := Aside0.mk (below_step (by repeat (first | (with_reducible first | exact HB.out | apply below_alloc | apply pw_below_drewN | apply below_drew1) | exact HB.out)) hb); clear HB; have HO103 := n0_; have HO106 := n1_; have HO109 := n2_; have HB := n3_; clear n0_ n1_ n2_ n3_; (try clear hb); (try clear hb2); (try clear hk); (try clear hi); (try clear ho0); (try clear ho1); (try clear ho2)) | ((with_reducible refine gate_callee (f := 42) rfl ?_); refine goesL_ (some 9) rfl rfl Try.func42 (by kernel_rfl) rfl #[] rfl (by (try simp only [List.map_toArray, List.map_cons, List.map_nil]); first | done | rfl | (simp only [List.length_drop, List.length_take]; rfl)) ?_; (with_reducible refine (goosenecklaw06_Two.calls  t113 _ A2.out).mono ?_); rintro e w13 ⟨v114, rfl, ho0, hb⟩; refine ⟨_, rfl, ?_⟩; have n0_ := Aside0.mk (Kd.R_below (by (with_reducible repeat (first | apply Kd.R_alloc | apply Kd.R_drewN | apply Kd.R_drew)); exact HO103.out) hb); have n1_ := Aside0.mk (Kd.R_below (by (with_reducible repeat (first | apply Kd.R_alloc | apply Kd.R_drewN | apply Kd.R_drew)); exact HO106.out) hb); have n2_ := Aside0.mk (Kd.R_below (by (with_reducible repeat (first | apply Kd.R_alloc | apply Kd.R_drewN | apply Kd.R_drew)); exact HO109.out) hb); have n3_ := Aside0.mk (Kd.R_lower ho0 (below_size (by repeat (first | (with_reducible first | exact HB.out | apply below_alloc | apply pw_below_drewN | apply below_drew1) | exact HB.out)))); have n4_ := Aside0.mk (below_step (by repeat (first | (with_reducible first | exact HB.out | apply below_alloc | apply pw_below_drewN | apply below_drew1) | exact HB.out)) hb); clear HO103; clear HO106; clear HO109; clear HB; have HO103 := n0_; have HO106 := n1_; have HO109 := n2_; have HO115 := n3_; have HB := n4_; clear n0_ n1_ n2_ n3_ n4_; (try clear hb); (try clear hb2); (try clear hk); (try clear hi); (try clear ho0); obtain ⟨Ao14, co14, eo14⟩ := Kd.R_slice HO103.out; subst eo14; obtain ⟨Ao15, co15, eo15⟩ := Kd.R_slice HO106.out; subst eo15; obtain ⟨Ao16, co16, eo16⟩ := Kd.R_slice HO109.out; subst eo16; obtain ⟨Ao17, co17, eo17⟩ := Kd.R_slice HO115.out; subst eo17) | ((with_reducible refine gate_callee (f := 13) rfl ?_); refine goesL_ (some 10) rfl rfl Try.func13 (by kernel_rfl) rfl #[.agg #[.slice Ao14 t101.length co14, .slice Ao15 t104.length co15, .slice Ao16 t107.length co16, .int .i64 t110, .int .i64 t111, .int .i64 t112], .slice Ao17 t113.length co17, .int .i64 0, .int .i64 10000] rfl (by (try simp only [List.map_toArray, List.map_cons, List.map_nil]); first | done | rfl | (simp only [List.length_drop, List.length_take]; rfl)) ?_; (with_reducible refine (bridge_WorstMoment.calls _ _ t101 _ _ t104 _ _ t107 t110 t111 t112 _ _ t113 0 10000 t116 t117 t118 t119 t120 _ ?side1 ?side2 ?side3 ?side4 ?side5 ?side6 ?side7 ?side8 A3.out).mono ?_); (case side1 => repeat (first | exact (Kd.R_reads' HO103.out).2.2 | (with_reducible refine Kd.C_alloc ?_ _) | (with_reducible refine Kd.C_drewN ?_ _) | (with_reducible refine Kd.C_drew ?_))); (case side2 => exact (Kd.R_reads' HO103.out).2.1); (case side3 => repeat (first | exact (Kd.R_reads' HO106.out).2.2 | (with_reducible refine Kd.C_alloc ?_ _) | (with_reducible refine Kd.C_drewN ?_ _) | (with_reducible refine Kd.C_drew ?_))); (case side4 => exact (Kd.R_reads' HO106.out).2.1); (case side5 => repeat (first | exact (Kd.R_reads' HO109.out).2.2 | (with_reducible refine Kd.C_alloc ?_ _) | (with_reducible refine Kd.C_drewN ?_ _) | (with_reducible refine Kd.C_drew ?_))); (case side6 => exact (Kd.R_reads' HO109.out).2.1); (case side7 => repeat (first | exact (Kd.R_reads' HO115.out).2.2 | (with_reducible refine Kd.C_alloc ?_ _) | (with_reducible refine Kd.C_drewN ?_ _) | (with_reducible refine Kd.C_drew ?_))); (case side8 => exact (Kd.R_reads' HO115.out).2.1); rintro e w18 ⟨rfl, hb⟩; refine ⟨_, rfl, ?_⟩; have n0_ := Aside0.mk (Kd.R_below (by (with_reducible repeat (first | apply Kd.R_alloc | apply Kd.R_drewN | apply Kd.R_drew)); exact HO103.out) hb); have n1_ := Aside0.mk (Kd.R_below (by (with_reducible repeat (first | apply Kd.R_alloc | apply Kd.R_drewN | apply Kd.R_drew)); exact HO106.out) hb); have n2_ := Aside0.mk (Kd.R_below (by (with_reducible repeat (first | apply Kd.R_alloc | apply Kd.R_drewN | apply Kd.R_drew)); exact HO109.out) hb); have n3_ := Aside0.mk (Kd.R_below (by (with_reducible repeat (first | apply Kd.R_alloc | apply Kd.R_drewN | apply Kd.R_drew)); exact HO115.out) hb); have n4_ := Aside0.mk (below_step (by repeat (first | (with_reducible first | exact HB.out | apply below_alloc | apply pw_below_drewN | apply below_drew1) | exact HB.out)) hb); clear HO103; clear HO106; clear HO109; clear HO115; clear HB; have HO103 := n0_; have HO106 := n1_; have HO109 := n2_; have HO115 := n3_; have HB := n4_; clear n0_ n1_ n2_ n3_ n4_; (try clear hb); (try clear hb2); (try clear hk); (try clear hi)) | ((with_reducible refine gate_dst (N := 1) rfl ?_); refine box_event ?hg (N := 1) ?hd (cs := #[.int .i64 0, .int .i64 0, .int .i64 0, .int .i64 0]) (t := 29) ?hr ?_; (case hd => rfl); (case hg => rfl); (case hr => first | (go_simp; done) | (go_simp; rfl)); intro gb121 hg w19 hbox hb; have n0_ := Aside0.mk (Kd.R_below (by (with_reducible repeat (first | apply Kd.R_alloc | apply Kd.R_drewN | apply Kd.R_drew)); exact HO103.out) hb); have n1_ := Aside0.mk (Kd.R_below (by (with_reducible repeat (first | apply Kd.R_alloc | apply Kd.R_drewN | apply Kd.R_drew)); exact HO106.out) hb); have n2_ := Aside0.mk (Kd.R_below (by (with_reducible repeat (first | apply Kd.R_alloc | apply Kd.R_drewN | apply Kd.R_drew)); exact HO109.out) hb); have n3_ := Aside0.mk (Kd.R_below (by (with_reducible repeat (first | apply Kd.R_alloc | apply Kd.R_drewN | apply Kd.R_drew)); exact HO115.out) hb); have n4_ := Aside0.mk (below_step (by repeat (first | (with_reducible first | exact HB.out | apply below_alloc | apply pw_below_drewN | apply below_drew1) | exact HB.out)) hb); have n5_ := Aside0.mk (hbox); have n6_ := Aside0.mk ((by rw [hg]; exact (below_size (by repeat (first | (with_reducible first | exact HB.out | apply below_alloc | apply pw_below_drewN | apply below_drew1) | exact HB.out))) : w.heap.size ≤ gb121)); have n7_ := Aside0.mk ((by rw [hg]; exact (below_size (by repeat (first | (with_reducible first | exact HB.out | apply below_alloc | apply pw_below_drewN | apply below_drew1) | exact HB.out))) : w.heap.size ≤ gb121)); clear HO103; clear HO106; clear HO109; clear HO115; clear HB; have HO103 := n0_; have HO106 := n1_; have HO109 := n2_; have HO115 := n3_; have HB := n4_; have BK121 := n5_; have GW121 := n6_; have GE121 := n7_; clear n0_ n1_ n2_ n3_ n4_ n5_ n6_ n7_; clear hb hbox hg; have hcz20_0 : w19.cell? ⟨gb121, 0, none⟩ = some (.int .i64 0) := (blk_cell BK121.out 0).trans rfl; have hcz20_1 : w19.cell? ⟨gb121, 1, none⟩ = some (.int .i64 0) := (blk_cell BK121.out 1).trans rfl; have hcz20_2 : w19.cell? ⟨gb121, 2, none⟩ = some (.int .i64 0) := (blk_cell BK121.out 2).trans rfl; have hcz20_3 : w19.cell? ⟨gb121, 3, none⟩ = some (.int .i64 0) := (blk_cell BK121.out 3).trans rfl; have hfz20_0 := blk_frozen BK121.out 0; have hfz20_1 := blk_frozen BK121.out 1; have hfz20_2 := blk_frozen BK121.out 2; have hfz20_3 := blk_frozen BK121.out 3) | ((with_reducible refine gate_callee (f := 41) rfl ?_); refine goesL_ (some 14) rfl rfl Try.func41 (by kernel_rfl) rfl #[] rfl (by (try simp only [List.map_toArray, List.map_cons, List.map_nil]); first | done | rfl | (simp only [List.length_drop, List.length_take]; rfl)) ?_; (with_reducible refine (goosenecklaw06_Example.calls  t122 t125 t128 t131 t132 t133 _ A4.out).mono ?_); rintro e w21 ⟨v123, v126, v129, rfl, ho0, ho1, ho2, hb⟩; refine ⟨_, rfl, ?_⟩; have n0_ := Aside0.mk (Kd.R_mono (Kd.R_told (Kd.R_told (Kd.R_told (Kd.R_old (by (with_reducible repeat (first | apply Kd.R_alloc | apply Kd.R_drewN | apply Kd.R_drew)); exact (Kd.R_mono (Kd.R_far (p := ⟨gb121, 3, none⟩) (Kd.R_far (p := ⟨gb121, 2, none⟩) (Kd.R_far (p := ⟨gb121, 1, none⟩) (Kd.R_far (p := ⟨gb121, 0, none⟩) (Kd.R_types HO103.out BK121.out (by decide)) (fun _ hk => hk.2) (.int .i64 t116)) (fun _ hk => hk.2) (.int .i64 t117)) (fun _ hk => hk.2) (.int .i64 t118)) (fun _ hk => hk.2) (.int .i64 t119)) (fun _ h_ => h_.1))) hb) (Kd.R_base ho0)) (Kd.R_base ho1)) (Kd.R_base ho2)) (fun _ h_ => h_.1)); have n1_ := Aside0.mk (Kd.R_mono (Kd.R_told (Kd.R_told (Kd.R_told (Kd.R_old (by (with_reducible repeat (first | apply Kd.R_alloc | apply Kd.R_drewN | apply Kd.R_drew)); exact (Kd.R_mono (Kd.R_far (p := ⟨gb121, 3, none⟩) (Kd.R_far (p := ⟨gb121, 2, none⟩) (Kd.R_far (p := ⟨gb121, 1, none⟩) (Kd.R_far (p := ⟨gb121, 0, none⟩) (Kd.R_types HO106.out BK121.out (by decide)) (fun _ hk => hk.2) (.int .i64 t116)) (fun _ hk => hk.2) (.int .i64 t117)) (fun _ hk => hk.2) (.int .i64 t118)) (fun _ hk => hk.2) (.int .i64 t119)) (fun _ h_ => h_.1))) hb) (Kd.R_base ho0)) (Kd.R_base ho1)) (Kd.R_base ho2)) (fun _ h_ => h_.1)); have n2_ := Aside0.mk (Kd.R_mono (Kd.R_told (Kd.R_told (Kd.R_told (Kd.R_old (by (with_reducible repeat (first | apply Kd.R_alloc | apply Kd.R_drewN | apply Kd.R_drew)); exact (Kd.R_mono (Kd.R_far (p := ⟨gb121, 3, none⟩) (Kd.R_far (p := ⟨gb121, 2, none⟩) (Kd.R_far (p := ⟨gb121, 1, none⟩) (Kd.R_far (p := ⟨gb121, 0, none⟩) (Kd.R_types HO109.out BK121.out (by decide)) (fun _ hk => hk.2) (.int .i64 t116)) (fun _ hk => hk.2) (.int .i64 t117)) (fun _ hk => hk.2) (.int .i64 t118)) (fun _ hk => hk.2) (.int .i64 t119)) (fun _ h_ => h_.1))) hb) (Kd.R_base ho0)) (Kd.R_base ho1)) (Kd.R_base ho2)) (fun _ h_ => h_.1)); have n3_ := Aside0.mk (Kd.R_below (by (with_reducible repeat (first | apply Kd.R_alloc | apply Kd.R_drewN | apply Kd.R_drew)); exact (Kd.R_mono (Kd.R_far (p := ⟨gb121, 3, none⟩) (Kd.R_far (p := ⟨gb121, 2, none⟩) (Kd.R_far (p := ⟨gb121, 1, none⟩) (Kd.R_far (p := ⟨gb121, 0, none⟩) (Kd.R_types HO115.out BK121.out (by decide)) (fun _ hk => hk.2) (.int .i64 t116)) (fun _ hk => hk.2) (.int .i64 t117)) (fun _ hk => hk.2) (.int .i64 t118)) (fun _ hk => hk.2) (.int .i64 t119)) (fun _ h_ => h_.1))) hb); have n4_ := Aside0.mk (Kd.R_lower (Kd.R_new' (Kd.R_new' (Kd.R_new' ho0 (Kd.R_lt (by (with_reducible repeat (first | apply Kd.R_alloc | apply Kd.R_drewN | apply Kd.R_drew)); exact (Kd.R_mono (Kd.R_far (p := ⟨gb121, 3, none⟩) (Kd.R_far (p := ⟨gb121, 2, none⟩) (Kd.R_far (p := ⟨gb121, 1, none⟩) (Kd.R_far (p := ⟨gb121, 0, none⟩) (Kd.R_types HO103.out BK121.out (by decide)) (fun _ hk => hk.2) (.int .i64 t116)) (fun _ hk => hk.2) (.int .i64 t117)) (fun _ hk => hk.2) (.int .i64 t118)) (fun _ hk => hk.2) (.int .i64 t119)) (fun _ h_ => h_.1))))) (Kd.R_lt (by (with_reducible repeat (first | apply Kd.R_alloc | apply Kd.R_drewN | apply Kd.R_drew)); exact (Kd.R_mono (Kd.R_far (p := ⟨gb121, 3, none⟩) (Kd.R_far (p := ⟨gb121, 2, none⟩) (Kd.R_far (p := ⟨gb121, 1, none⟩) (Kd.R_far (p := ⟨gb121, 0, none⟩) (Kd.R_types HO106.out BK121.out (by decide)) (fun _ hk => hk.2) (.int .i64 t116)) (fun _ hk => hk.2) (.int .i64 t117)) (fun _ hk => hk.2) (.int .i64 t118)) (fun _ hk => hk.2) (.int .i64 t119)) (fun _ h_ => h_.1))))) (Kd.R_lt (by (with_reducible repeat (first | apply Kd.R_alloc | apply Kd.R_drewN | apply Kd.R_drew)); exact (Kd.R_mono (Kd.R_far (p := ⟨gb121, 3, none⟩) (Kd.R_far (p := ⟨gb121, 2, none⟩) (Kd.R_far (p := ⟨gb121, 1, none⟩) (Kd.R_far (p := ⟨gb121, 0, none⟩) (Kd.R_types HO109.out BK121.out (by decide)) (fun _ hk => hk.2) (.int .i64 t116)) (fun _ hk => hk.2) (.int .i64 t117)) (fun _ hk => hk.2) (.int .i64 t118)) (fun _ hk => hk.2) (.int .i64 t119)) (fun _ h_ => h_.1))))) (below_size (by repeat (first | (with_reducible first | exact HB.out | apply below_alloc | apply pw_below_drewN | apply below_drew1 | refine below_set ?_ GE121.out) | exact HB.out)))); have n5_ := Aside0.mk (Kd.R_lower (Kd.R_new' (Kd.R_new' (Kd.R_new' ho1 (Kd.R_lt (by (with_reducible repeat (first | apply Kd.R_alloc | apply Kd.R_drewN | apply Kd.R_drew)); exact (Kd.R_mono (Kd.R_far (p := ⟨gb121, 3, none⟩) (Kd.R_far (p := ⟨gb121, 2, none⟩) (Kd.R_far (p := ⟨gb121, 1, none⟩) (Kd.R_far (p := ⟨gb121, 0, none⟩) (Kd.R_types HO103.out BK121.out (by decide)) (fun _ hk => hk.2) (.int .i64 t116)) (fun _ hk => hk.2) (.int .i64 t117)) (fun _ hk => hk.2) (.int .i64 t118)) (fun _ hk => hk.2) (.int .i64 t119)) (fun _ h_ => h_.1))))) (Kd.R_lt (by (with_reducible repeat (first | apply Kd.R_alloc | apply Kd.R_drewN | apply Kd.R_drew)); exact (Kd.R_mono (Kd.R_far (p := ⟨gb121, 3, none⟩) (Kd.R_far (p := ⟨gb121, 2, none⟩) (Kd.R_far (p := ⟨gb121, 1, none⟩) (Kd.R_far (p := ⟨gb121, 0, none⟩) (Kd.R_types HO106.out BK121.out (by decide)) (fun _ hk => hk.2) (.int .i64 t116)) (fun _ hk => hk.2) (.int .i64 t117)) (fun _ hk => hk.2) (.int .i64 t118)) (fun _ hk => hk.2) (.int .i64 t119)) (fun _ h_ => h_.1))))) (Kd.R_lt (by (with_reducible repeat (first | apply Kd.R_alloc | apply Kd.R_drewN | apply Kd.R_drew)); exact (Kd.R_mono (Kd.R_far (p := ⟨gb121, 3, none⟩) (Kd.R_far (p := ⟨gb121, 2, none⟩) (Kd.R_far (p := ⟨gb121, 1, none⟩) (Kd.R_far (p := ⟨gb121, 0, none⟩) (Kd.R_types HO109.out BK121.out (by decide)) (fun _ hk => hk.2) (.int .i64 t116)) (fun _ hk => hk.2) (.int .i64 t117)) (fun _ hk => hk.2) (.int .i64 t118)) (fun _ hk => hk.2) (.int .i64 t119)) (fun _ h_ => h_.1))))) (below_size (by repeat (first | (with_reducible first | exact HB.out | apply below_alloc | apply pw_below_drewN | apply below_drew1 | refine below_set ?_ GE121.out) | exact HB.out)))); have n6_ := Aside0.mk (Kd.R_lower (Kd.R_new' (Kd.R_new' (Kd.R_new' ho2 (Kd.R_lt (by (with_reducible repeat (first | apply Kd.R_alloc | apply Kd.R_drewN | apply Kd.R_drew)); exact (Kd.R_mono (Kd.R_far (p := ⟨gb121, 3, none⟩) (Kd.R_far (p := ⟨gb121, 2, none⟩) (Kd.R_far (p := ⟨gb121, 1, none⟩) (Kd.R_far (p := ⟨gb121, 0, none⟩) (Kd.R_types HO103.out BK121.out (by decide)) (fun _ hk => hk.2) (.int .i64 t116)) (fun _ hk => hk.2) (.int .i64 t117)) (fun _ hk => hk.2) (.int .i64 t118)) (fun _ hk => hk.2) (.int .i64 t119)) (fun _ h_ => h_.1))))) (Kd.R_lt (by (with_reducible repeat (first | apply Kd.R_alloc | apply Kd.R_drewN | apply Kd.R_drew)); exact (Kd.R_mono (Kd.R_far (p := ⟨gb121, 3, none⟩) (Kd.R_far (p := ⟨gb121, 2, none⟩) (Kd.R_far (p := ⟨gb121, 1, none⟩) (Kd.R_far (p := ⟨gb121, 0, none⟩) (Kd.R_types HO106.out BK121.out (by decide)) (fun _ hk => hk.2) (.int .i64 t116)) (fun _ hk => hk.2) (.int .i64 t117)) (fun _ hk => hk.2) (.int .i64 t118)) (fun _ hk => hk.2) (.int .i64 t119)) (fun _ h_ => h_.1))))) (Kd.R_lt (by (with_reducible repeat (first | apply Kd.R_alloc | apply Kd.R_drewN | apply Kd.R_drew)); exact (Kd.R_mono (Kd.R_far (p := ⟨gb121, 3, none⟩) (Kd.R_far (p := ⟨gb121, 2, none⟩) (Kd.R_far (p := ⟨gb121, 1, none⟩) (Kd.R_far (p := ⟨gb121, 0, none⟩) (Kd.R_types HO109.out BK121.out (by decide)) (fun _ hk => hk.2) (.int .i64 t116)) (fun _ hk => hk.2) (.int .i64 t117)) (fun _ hk => hk.2) (.int .i64 t118)) (fun _ hk => hk.2) (.int .i64 t119)) (fun _ h_ => h_.1))))) (below_size (by repeat (first | (with_reducible first | exact HB.out | apply below_alloc | apply pw_below_drewN | apply below_drew1 | refine below_set ?_ GE121.out) | exact HB.out)))); have n7_ := Aside0.mk (blk_below (g := gb121) (o := .cells #[.int .i64 t116, .int .i64 t117, .int .i64 t118, .int .i64 t119] 29 (0, 0)) (by (with_reducible repeat (first | refine blk_drewN ?_ _ | refine blk_drew ?_ | refine blk_alloc ?_ _)); refine blk_put (cs := #[.int .i64 t116, .int .i64 t117, .int .i64 t118, .int .i64 0]) ?_ 3 _ rfl; (with_reducible repeat (first | refine blk_drewN ?_ _ | refine blk_drew ?_ | refine blk_alloc ?_ _)); refine blk_put (cs := #[.int .i64 t116, .int .i64 t117, .int .i64 0, .int .i64 0]) ?_ 2 _ rfl; (with_reducible repeat (first | refine blk_drewN ?_ _ | refine blk_drew ?_ | refine blk_alloc ?_ _)); refine blk_put (cs := #[.int .i64 t116, .int .i64 0, .int .i64 0, .int .i64 0]) ?_ 1 _ rfl; (with_reducible repeat (first | refine blk_drewN ?_ _ | refine blk_drew ?_ | refine blk_alloc ?_ _)); refine blk_put (cs := #[.int .i64 0, .int .i64 0, .int .i64 0, .int .i64 0]) ?_ 0 _ rfl; (with_reducible repeat (first | refine blk_drewN ?_ _ | refine blk_drew ?_ | refine blk_alloc ?_ _)); exact BK121.out) hb); have n8_ := Aside0.mk (below_step (by repeat (first | (with_reducible first | exact HB.out | apply below_alloc | apply pw_below_drewN | apply below_drew1 | refine below_set ?_ GE121.out) | exact HB.out)) hb); clear HO103; clear HO106; clear HO109; clear HO115; clear BK121; clear HB; have HO103 := n0_; have HO106 := n1_; have HO109 := n2_; have HO115 := n3_; have HO124 := n4_; have HO127 := n5_; have HO130 := n6_; have BK121 := n7_; have HB := n8_; clear n0_ n1_ n2_ n3_ n4_ n5_ n6_ n7_ n8_; (try clear hb); (try clear hb2); (try clear hk); (try clear hi); (try clear ho0); (try clear ho1); (try clear ho2)) | ((with_reducible refine gate_callee (f := 42) rfl ?_); refine goesL_ (some 15) rfl rfl Try.func42 (by kernel_rfl) rfl #[] rfl (by (try simp only [List.map_toArray, List.map_cons, List.map_nil]); first | done | rfl | (simp only [List.length_drop, List.length_take]; rfl)) ?_; (with_reducible refine (goosenecklaw06_Two.calls  t134 _ A5.out).mono ?_); rintro e w22 ⟨v135, rfl, ho0, hb⟩; refine ⟨_, rfl, ?_⟩; have n0_ := Aside0.mk (Kd.R_below (by (with_reducible repeat (first | apply Kd.R_alloc | apply Kd.R_drewN | apply Kd.R_drew)); exact HO103.out) hb); have n1_ := Aside0.mk (Kd.R_below (by (with_reducible repeat (first | apply Kd.R_alloc | apply Kd.R_drewN | apply Kd.R_drew)); exact HO106.out) hb); have n2_ := Aside0.mk (Kd.R_below (by (with_reducible repeat (first | apply Kd.R_alloc | apply Kd.R_drewN | apply Kd.R_drew)); exact HO109.out) hb); have n3_ := Aside0.mk (Kd.R_elder' (by (with_reducible repeat (first | apply Kd.R_alloc | apply Kd.R_drewN | apply Kd.R_drew)); exact HO115.out) (Kd.R_base ho0) hb); have n4_ := Aside0.mk (Kd.R_below (by (with_reducible repeat (first | apply Kd.R_alloc | apply Kd.R_drewN | apply Kd.R_drew)); exact HO124.out) hb); have n5_ := Aside0.mk (Kd.R_below (by (with_reducible repeat (first | apply Kd.R_alloc | apply Kd.R_drewN | apply Kd.R_drew)); exact HO127.out) hb); have n6_ := Aside0.mk (Kd.R_below (by (with_reducible repeat (first | apply Kd.R_alloc | apply Kd.R_drewN | apply Kd.R_drew)); exact HO130.out) hb); have n7_ := Aside0.mk (Kd.R_lower (Kd.R_new' ho0 (Kd.R_lt (by (with_reducible repeat (first | apply Kd.R_alloc | apply Kd.R_drewN | apply Kd.R_drew)); exact HO115.out))) (below_size (by repeat (first | (with_reducible first | exact HB.out | apply below_alloc | apply pw_below_drewN | apply below_drew1 | refine below_set ?_ GE121.out) | exact HB.out)))); have n8_ := Aside0.mk (blk_below (g := gb121) (o := .cells #[.int .i64 t116, .int .i64 t117, .int .i64 t118, .int .i64 t119] 29 (0, 0)) (by (with_reducible repeat (first | refine blk_drewN ?_ _ | refine blk_drew ?_ | refine blk_alloc ?_ _)); exact BK121.out) hb); have n9_ := Aside0.mk (below_step (by repeat (first | (with_reducible first | exact HB.out | apply below_alloc | apply pw_below_drewN | apply below_drew1 | refine below_set ?_ GE121.out) | exact HB.out)) hb); clear HO103; clear HO106; clear HO109; clear HO115; clear HO124; clear HO127; clear HO130; clear BK121; clear HB; have HO103 := n0_; have HO106 := n1_; have HO109 := n2_; have HO115 := n3_; have HO124 := n4_; have HO127 := n5_; have HO130 := n6_; have HO136 := n7_; have BK121 := n8_; have HB := n9_; clear n0_ n1_ n2_ n3_ n4_ n5_ n6_ n7_ n8_ n9_; (try clear hb); (try clear hb2); (try clear hk); (try clear hi); (try clear ho0); obtain ⟨Ao23, co23, eo23⟩ := Kd.R_slice HO124.out; subst eo23; obtain ⟨Ao24, co24, eo24⟩ := Kd.R_slice HO127.out; subst eo24; obtain ⟨Ao25, co25, eo25⟩ := Kd.R_slice HO130.out; subst eo25; obtain ⟨Ao26, co26, eo26⟩ := Kd.R_slice HO136.out; subst eo26) | ((with_reducible refine gate_callee (f := 14) rfl ?_); refine goesL_ (some 16) rfl rfl Try.func14 (by kernel_rfl) rfl #[.agg #[.slice Ao23 t122.length co23, .slice Ao24 t125.length co24, .slice Ao25 t128.length co25, .int .i64 t131, .int .i64 t132, .int .i64 t133], .slice Ao26 t134.length co26, .int .i64 0, .bool false] rfl (by (try simp only [List.map_toArray, List.map_cons, List.map_nil]); first | done | rfl | (simp only [List.length_drop, List.length_take]; rfl)) ?_; (with_reducible refine (bridge_WorstEnd.calls _ _ t122 _ _ t125 _ _ t128 t131 t132 t133 _ _ t134 0 false t137 t138 t139 t140 t141 _ ?side1 ?side2 ?side3 ?side4 ?side5 ?side6 ?side7 ?side8 A6.out).mono ?_); (case side1 => repeat (first | exact (Kd.R_reads' HO124.out).2.2 | (with_reducible refine Kd.C_alloc ?_ _) | (with_reducible refine Kd.C_drewN ?_ _) | (with_reducible refine Kd.C_drew ?_))); (case side2 => exact (Kd.R_reads' HO124.out).2.1); (case side3 => repeat (first | exact (Kd.R_reads' HO127.out).2.2 | (with_reducible refine Kd.C_alloc ?_ _) | (with_reducible refine Kd.C_drewN ?_ _) | (with_reducible refine Kd.C_drew ?_))); (case side4 => exact (Kd.R_reads' HO127.out).2.1); (case side5 => repeat (first | exact (Kd.R_reads' HO130.out).2.2 | (with_reducible refine Kd.C_alloc ?_ _) | (with_reducible refine Kd.C_drewN ?_ _) | (with_reducible refine Kd.C_drew ?_))); (case side6 => exact (Kd.R_reads' HO130.out).2.1); (case side7 => repeat (first | exact (Kd.R_reads' HO136.out).2.2 | (with_reducible refine Kd.C_alloc ?_ _) | (with_reducible refine Kd.C_drewN ?_ _) | (with_reducible refine Kd.C_drew ?_))); (case side8 => exact (Kd.R_reads' HO136.out).2.1); rintro e w27 ⟨rfl, hb⟩; refine ⟨_, rfl, ?_⟩; have n0_ := Aside0.mk (Kd.R_below (by (with_reducible repeat (first | apply Kd.R_alloc | apply Kd.R_drewN | apply Kd.R_drew)); exact HO103.out) hb); have n1_ := Aside0.mk (Kd.R_below (by (with_reducible repeat (first | apply Kd.R_alloc | apply Kd.R_drewN | apply Kd.R_drew)); exact HO106.out) hb); have n2_ := Aside0.mk (Kd.R_below (by (with_reducible repeat (first | apply Kd.R_alloc | apply Kd.R_drewN | apply Kd.R_drew)); exact HO109.out) hb); have n3_ := Aside0.mk (Kd.R_below (by (with_reducible repeat (first | apply Kd.R_alloc | apply Kd.R_drewN | apply Kd.R_drew)); exact HO115.out) hb); have n4_ := Aside0.mk (Kd.R_below (by (with_reducible repeat (first | apply Kd.R_alloc | apply Kd.R_drewN | apply Kd.R_drew)); exact HO124.out) hb); have n5_ := Aside0.mk (Kd.R_below (by (with_reducible repeat (first | apply Kd.R_alloc | apply Kd.R_drewN | apply Kd.R_drew)); exact HO127.out) hb); have n6_ := Aside0.mk (Kd.R_below (by (with_reducible repeat (first | apply Kd.R_alloc | apply Kd.R_drewN | apply Kd.R_drew)); exact HO130.out) hb); have n7_ := Aside0.mk (Kd.R_below (by (with_reducible repeat (first | apply Kd.R_alloc | apply Kd.R_drewN | apply Kd.R_drew)); exact HO136.out) hb); have n8_ := Aside0.mk (blk_below (g := gb121) (o := .cells #[.int .i64 t116, .int .i64 t117, .int .i64 t118, .int .i64 t119] 29 (0, 0)) (by (with_reducible repeat (first | refine blk_drewN ?_ _ | refine blk_drew ?_ | refine blk_alloc ?_ _)); exact BK121.out) hb); have n9_ := Aside0.mk (below_step (by repeat (first | (with_reducible first | exact HB.out | apply below_alloc | apply pw_below_drewN | apply below_drew1 | refine below_set ?_ GE121.out) | exact HB.out)) hb); clear HO103; clear HO106; clear HO109; clear HO115; clear HO124; clear HO127; clear HO130; clear HO136; clear BK121; clear HB; have HO103 := n0_; have HO106 := n1_; have HO109 := n2_; have HO115 := n3_; have HO124 := n4_; have HO127 := n5_; have HO130 := n6_; have HO136 := n7_; have BK121 := n8_; have HB := n9_; clear n0_ n1_ n2_ n3_ n4_ n5_ n6_ n7_ n8_ n9_; (try clear hb); (try clear hb2); (try clear hk); (try clear hi)) | ((with_reducible refine gate_dst (N := 3) rfl ?_); refine box_event ?hg (N := 3) ?hd (cs := #[.int .i64 0, .int .i64 0, .int .i64 0, .int .i64 0]) (t := 29) ?hr ?_; (case hd => rfl); (case hg => rfl); (case hr => first | (go_simp; done) | (go_simp; rfl)); intro gb142 hg w28 hbox hb; have n0_ := Aside0.mk (Kd.R_below (by (with_reducible repeat (first | apply Kd.R_alloc | apply Kd.R_drewN | apply Kd.R_drew)); exact HO103.out) hb); have n1_ := Aside0.mk (Kd.R_below (by (with_reducible repeat (first | apply Kd.R_alloc | apply Kd.R_drewN | apply Kd.R_drew)); exact HO106.out) hb); have n2_ := Aside0.mk (Kd.R_below (by (with_reducible repeat (first | apply Kd.R_alloc | apply Kd.R_drewN | apply Kd.R_drew)); exact HO109.out) hb); have n3_ := Aside0.mk (Kd.R_below (by (with_reducible repeat (first | apply Kd.R_alloc | apply Kd.R_drewN | apply Kd.R_drew)); exact HO115.out) hb); have n4_ := Aside0.mk (Kd.R_below (by (with_reducible repeat (first | apply Kd.R_alloc | apply Kd.R_drewN | apply Kd.R_drew)); exact HO124.out) hb); have n5_ := Aside0.mk (Kd.R_below (by (with_reducible repeat (first | apply Kd.R_alloc | apply Kd.R_drewN | apply Kd.R_drew)); exact HO127.out) hb); have n6_ := Aside0.mk (Kd.R_below (by (with_reducible repeat (first | apply Kd.R_alloc | apply Kd.R_drewN | apply Kd.R_drew)); exact HO130.out) hb); have n7_ := Aside0.mk (Kd.R_below (by (with_reducible repeat (first | apply Kd.R_alloc | apply Kd.R_drewN | apply Kd.R_drew)); exact HO136.out) hb); have n8_ := Aside0.mk (blk_below (g := gb121) (o := .cells #[.int .i64 t116, .int .i64 t117, .int .i64 t118, .int .i64 t119] 29 (0, 0)) (by (with_reducible repeat (first | refine blk_drewN ?_ _ | refine blk_drew ?_ | refine blk_alloc ?_ _)); exact BK121.out) hb); have n9_ := Aside0.mk (below_step (by repeat (first | (with_reducible first | exact HB.out | apply below_alloc | apply pw_below_drewN | apply below_drew1 | refine below_set ?_ GE121.out) | exact HB.out)) hb); have n10_ := Aside0.mk (hbox); have n11_ := Aside0.mk ((by rw [hg]; exact (below_size (by repeat (first | (with_reducible first | exact HB.out | apply below_alloc | apply pw_below_drewN | apply below_drew1 | refine below_set ?_ GE121.out) | exact HB.out))) : w.heap.size ≤ gb142)); have n12_ := Aside0.mk ((by rw [hg]; exact (below_size (by repeat (first | (with_reducible first | exact HB.out | apply below_alloc | apply pw_below_drewN | apply below_drew1 | refine below_set ?_ GE121.out) | exact HB.out))) : w.heap.size ≤ gb142)); have n13_ := Aside0.mk ((by rw [hg]; exact Nat.ne_of_lt (blk_lt (g := gb121) (o := .cells #[.int .i64 t116, .int .i64 t117, .int .i64 t118, .int .i64 t119] 29 (0, 0)) (by (with_reducible repeat (first | refine blk_drewN ?_ _ | refine blk_drew ?_ | refine blk_alloc ?_ _)); exact BK121.out)) : gb121 ≠ gb142)); have n14_ := Aside0.mk ((by rw [hg]; exact Nat.ne_of_gt (blk_lt (g := gb121) (o := .cells #[.int .i64 t116, .int .i64 t117, .int .i64 t118, .int .i64 t119] 29 (0, 0)) (by (with_reducible repeat (first | refine blk_drewN ?_ _ | refine blk_drew ?_ | refine blk_alloc ?_ _)); exact BK121.out)) : gb142 ≠ gb121)); clear HO103; clear HO106; clear HO109; clear HO115; clear HO124; clear HO127; clear HO130; clear HO136; clear BK121; clear HB; have HO103 := n0_; have HO106 := n1_; have HO109 := n2_; have HO115 := n3_; have HO124 := n4_; have HO127 := n5_; have HO130 := n6_; have HO136 := n7_; have BK121 := n8_; have HB := n9_; have BK142 := n10_; have GW142 := n11_; have GE142 := n12_; have NB121_142 := n13_; have NB142_121 := n14_; clear n0_ n1_ n2_ n3_ n4_ n5_ n6_ n7_ n8_ n9_ n10_ n11_ n12_ n13_ n14_; clear hb hbox hg; have hnb29 := NB142_121.out; have hnc29 := NB121_142.out; have hcz30_0 : w28.cell? ⟨gb142, 0, none⟩ = some (.int .i64 0) := (blk_cell BK142.out 0).trans rfl; have hcz30_1 : w28.cell? ⟨gb142, 1, none⟩ = some (.int .i64 0) := (blk_cell BK142.out 1).trans rfl; have hcz30_2 : w28.cell? ⟨gb142, 2, none⟩ = some (.int .i64 0) := (blk_cell BK142.out 2).trans rfl; have hcz30_3 : w28.cell? ⟨gb142, 3, none⟩ = some (.int .i64 0) := (blk_cell BK142.out 3).trans rfl; have hfz30_0 := blk_frozen BK142.out 0; have hfz30_1 := blk_frozen BK142.out 1; have hfz30_2 := blk_frozen BK142.out 2; have hfz30_3 := blk_frozen BK142.out 3) | ((with_reducible refine gate_callee (f := 42) rfl ?_); refine goesL_ (some 21) rfl rfl Try.func42 (by kernel_rfl) rfl #[] rfl (by (try simp only [List.map_toArray, List.map_cons, List.map_nil]); first | done | rfl | (simp only [List.length_drop, List.length_take]; rfl)) ?_; (with_reducible refine (goosenecklaw06_Two.calls  t143 _ A7.out).mono ?_); rintro e w31 ⟨v144, rfl, ho0, hb⟩; refine ⟨_, rfl, ?_⟩; have n0_ := Aside0.mk (Kd.R_below (by (with_reducible repeat (first | apply Kd.R_alloc | apply Kd.R_drewN | apply Kd.R_drew)); exact (Kd.R_mono (Kd.R_far (p := ⟨gb142, 3, none⟩) (Kd.R_far (p := ⟨gb142, 2, none⟩) (Kd.R_far (p := ⟨gb142, 1, none⟩) (Kd.R_far (p := ⟨gb142, 0, none⟩) (Kd.R_types HO103.out BK142.out (by decide)) (fun _ hk => hk.2) (.int .i64 t137)) (fun _ hk => hk.2) (.int .i64 t138)) (fun _ hk => hk.2) (.int .i64 t139)) (fun _ hk => hk.2) (.int .i64 t140)) (fun _ h_ => h_.1))) hb); have n1_ := Aside0.mk (Kd.R_below (by (with_reducible repeat (first | apply Kd.R_alloc | apply Kd.R_drewN | apply Kd.R_drew)); exact (Kd.R_mono (Kd.R_far (p := ⟨gb142, 3, none⟩) (Kd.R_far (p := ⟨gb142, 2, none⟩) (Kd.R_far (p := ⟨gb142, 1, none⟩) (Kd.R_far (p := ⟨gb142, 0, none⟩) (Kd.R_types HO106.out BK142.out (by decide)) (fun _ hk => hk.2) (.int .i64 t137)) (fun _ hk => hk.2) (.int .i64 t138)) (fun _ hk => hk.2) (.int .i64 t139)) (fun _ hk => hk.2) (.int .i64 t140)) (fun _ h_ => h_.1))) hb); have n2_ := Aside0.mk (Kd.R_below (by (with_reducible repeat (first | apply Kd.R_alloc | apply Kd.R_drewN | apply Kd.R_drew)); exact (Kd.R_mono (Kd.R_far (p := ⟨gb142, 3, none⟩) (Kd.R_far (p := ⟨gb142, 2, none⟩) (Kd.R_far (p := ⟨gb142, 1, none⟩) (Kd.R_far (p := ⟨gb142, 0, none⟩) (Kd.R_types HO109.out BK142.out (by decide)) (fun _ hk => hk.2) (.int .i64 t137)) (fun _ hk => hk.2) (.int .i64 t138)) (fun _ hk => hk.2) (.int .i64 t139)) (fun _ hk => hk.2) (.int .i64 t140)) (fun _ h_ => h_.1))) hb); have n3_ := Aside0.mk (Kd.R_elder' (by (with_reducible repeat (first | apply Kd.R_alloc | apply Kd.R_drewN | apply Kd.R_drew)); exact (Kd.R_mono (Kd.R_far (p := ⟨gb142, 3, none⟩) (Kd.R_far (p := ⟨gb142, 2, none⟩) (Kd.R_far (p := ⟨gb142, 1, none⟩) (Kd.R_far (p := ⟨gb142, 0, none⟩) (Kd.R_types HO115.out BK142.out (by decide)) (fun _ hk => hk.2) (.int .i64 t137)) (fun _ hk => hk.2) (.int .i64 t138)) (fun _ hk => hk.2) (.int .i64 t139)) (fun _ hk => hk.2) (.int .i64 t140)) (fun _ h_ => h_.1))) (Kd.R_base ho0) hb); have n4_ := Aside0.mk (Kd.R_below (by (with_reducible repeat (first | apply Kd.R_alloc | apply Kd.R_drewN | apply Kd.R_drew)); exact (Kd.R_mono (Kd.R_far (p := ⟨gb142, 3, none⟩) (Kd.R_far (p := ⟨gb142, 2, none⟩) (Kd.R_far (p := ⟨gb142, 1, none⟩) (Kd.R_far (p := ⟨gb142, 0, none⟩) (Kd.R_types HO124.out BK142.out (by decide)) (fun _ hk => hk.2) (.int .i64 t137)) (fun _ hk => hk.2) (.int .i64 t138)) (fun _ hk => hk.2) (.int .i64 t139)) (fun _ hk => hk.2) (.int .i64 t140)) (fun _ h_ => h_.1))) hb); have n5_ := Aside0.mk (Kd.R_below (by (with_reducible repeat (first | apply Kd.R_alloc | apply Kd.R_drewN | apply Kd.R_drew)); exact (Kd.R_mono (Kd.R_far (p := ⟨gb142, 3, none⟩) (Kd.R_far (p := ⟨gb142, 2, none⟩) (Kd.R_far (p := ⟨gb142, 1, none⟩) (Kd.R_far (p := ⟨gb142, 0, none⟩) (Kd.R_types HO127.out BK142.out (by decide)) (fun _ hk => hk.2) (.int .i64 t137)) (fun _ hk => hk.2) (.int .i64 t138)) (fun _ hk => hk.2) (.int .i64 t139)) (fun _ hk => hk.2) (.int .i64 t140)) (fun _ h_ => h_.1))) hb); have n6_ := Aside0.mk (Kd.R_below (by (with_reducible repeat (first | apply Kd.R_alloc | apply Kd.R_drewN | apply Kd.R_drew)); exact (Kd.R_mono (Kd.R_far (p := ⟨gb142, 3, none⟩) (Kd.R_far (p := ⟨gb142, 2, none⟩) (Kd.R_far (p := ⟨gb142, 1, none⟩) (Kd.R_far (p := ⟨gb142, 0, none⟩) (Kd.R_types HO130.out BK142.out (by decide)) (fun _ hk => hk.2) (.int .i64 t137)) (fun _ hk => hk.2) (.int .i64 t138)) (fun _ hk => hk.2) (.int .i64 t139)) (fun _ hk => hk.2) (.int .i64 t140)) (fun _ h_ => h_.1))) hb); have n7_ := Aside0.mk (Kd.R_elder' (by (with_reducible repeat (first | apply Kd.R_alloc | apply Kd.R_drewN | apply Kd.R_drew)); exact (Kd.R_mono (Kd.R_far (p := ⟨gb142, 3, none⟩) (Kd.R_far (p := ⟨gb142, 2, none⟩) (Kd.R_far (p := ⟨gb142, 1, none⟩) (Kd.R_far (p := ⟨gb142, 0, none⟩) (Kd.R_types HO136.out BK142.out (by decide)) (fun _ hk => hk.2) (.int .i64 t137)) (fun _ hk => hk.2) (.int .i64 t138)) (fun _ hk => hk.2) (.int .i64 t139)) (fun _ hk => hk.2) (.int .i64 t140)) (fun _ h_ => h_.1))) (Kd.R_base ho0) hb); have n8_ := Aside0.mk (Kd.R_lower (Kd.R_new' (Kd.R_new' ho0 (Kd.R_lt (by (with_reducible repeat (first | apply Kd.R_alloc | apply Kd.R_drewN | apply Kd.R_drew)); exact (Kd.R_mono (Kd.R_far (p := ⟨gb142, 3, none⟩) (Kd.R_far (p := ⟨gb142, 2, none⟩) (Kd.R_far (p := ⟨gb142, 1, none⟩) (Kd.R_far (p := ⟨gb142, 0, none⟩) (Kd.R_types HO115.out BK142.out (by decide)) (fun _ hk => hk.2) (.int .i64 t137)) (fun _ hk => hk.2) (.int .i64 t138)) (fun _ hk => hk.2) (.int .i64 t139)) (fun _ hk => hk.2) (.int .i64 t140)) (fun _ h_ => h_.1))))) (Kd.R_lt (by (with_reducible repeat (first | apply Kd.R_alloc | apply Kd.R_drewN | apply Kd.R_drew)); exact (Kd.R_mono (Kd.R_far (p := ⟨gb142, 3, none⟩) (Kd.R_far (p := ⟨gb142, 2, none⟩) (Kd.R_far (p := ⟨gb142, 1, none⟩) (Kd.R_far (p := ⟨gb142, 0, none⟩) (Kd.R_types HO136.out BK142.out (by decide)) (fun _ hk => hk.2) (.int .i64 t137)) (fun _ hk => hk.2) (.int .i64 t138)) (fun _ hk => hk.2) (.int .i64 t139)) (fun _ hk => hk.2) (.int .i64 t140)) (fun _ h_ => h_.1))))) (below_size (by repeat (first | (with_reducible first | exact HB.out | apply below_alloc | apply pw_below_drewN | apply below_drew1 | refine below_set ?_ GE121.out | refine below_set ?_ GE142.out) | exact HB.out)))); have n9_ := Aside0.mk (blk_below (g := gb121) (o := .cells #[.int .i64 t116, .int .i64 t117, .int .i64 t118, .int .i64 t119] 29 (0, 0)) (by (with_reducible repeat (first | refine blk_drewN ?_ _ | refine blk_drew ?_ | refine blk_alloc ?_ _)); refine blk_far ?_ NB121_142.out _; (with_reducible repeat (first | refine blk_drewN ?_ _ | refine blk_drew ?_ | refine blk_alloc ?_ _)); refine blk_far ?_ NB121_142.out _; (with_reducible repeat (first | refine blk_drewN ?_ _ | refine blk_drew ?_ | refine blk_alloc ?_ _)); refine blk_far ?_ NB121_142.out _; (with_reducible repeat (first | refine blk_drewN ?_ _ | refine blk_drew ?_ | refine blk_alloc ?_ _)); refine blk_far ?_ NB121_142.out _; (with_reducible repeat (first | refine blk_drewN ?_ _ | refine blk_drew ?_ | refine blk_alloc ?_ _)); exact BK121.out) hb); have n10_ := Aside0.mk (blk_below (g := gb142) (o := .cells #[.int .i64 t137, .int .i64 t138, .int .i64 t139, .int .i64 t140] 29 (0, 0)) (by (with_reducible repeat (first | refine blk_drewN ?_ _ | refine blk_drew ?_ | refine blk_alloc ?_ _)); refine blk_put (cs := #[.int .i64 t137, .int .i64 t138, .int .i64 t139, .int .i64 0]) ?_ 3 _ rfl; (with_reducible repeat (first | refine blk_drewN ?_ _ | refine blk_drew ?_ | refine blk_alloc ?_ _)); refine blk_put (cs := #[.int .i64 t137, .int .i64 t138, .int .i64 0, .int .i64 0]) ?_ 2 _ rfl; (with_reducible repeat (first | refine blk_drewN ?_ _ | refine blk_drew ?_ | refine blk_alloc ?_ _)); refine blk_put (cs := #[.int .i64 t137, .int .i64 0, .int .i64 0, .int .i64 0]) ?_ 1 _ rfl; (with_reducible repeat (first | refine blk_drewN ?_ _ | refine blk_drew ?_ | refine blk_alloc ?_ _)); refine blk_put (cs := #[.int .i64 0, .int .i64 0, .int .i64 0, .int .i64 0]) ?_ 0 _ rfl; (with_reducible repeat (first | refine blk_drewN ?_ _ | refine blk_drew ?_ | refine blk_alloc ?_ _)); exact BK142.out) hb); have n11_ := Aside0.mk (below_step (by repeat (first | (with_reducible first | exact HB.out | apply below_alloc | apply pw_below_drewN | apply below_drew1 | refine below_set ?_ GE121.out | refine below_set ?_ GE142.out) | exact HB.out)) hb); clear HO103; clear HO106; clear HO109; clear HO115; clear HO124; clear HO127; clear HO130; clear HO136; clear BK121; clear BK142; clear HB; have HO103 := n0_; have HO106 := n1_; have HO109 := n2_; have HO115 := n3_; have HO124 := n4_; have HO127 := n5_; have HO130 := n6_; have HO136 := n7_; have HO145 := n8_; have BK121 := n9_; have BK142 := n10_; have HB := n11_; clear n0_ n1_ n2_ n3_ n4_ n5_ n6_ n7_ n8_ n9_ n10_ n11_; (try clear hb); (try clear hb2); (try clear hk); (try clear hi); (try clear ho0); obtain ⟨Ao32, co32, eo32⟩ := Kd.R_slice HO145.out; subst eo32) | ((with_reducible refine gate_callee (f := 18) rfl ?_); refine goesL_ (some 22) rfl rfl Try.func18 (by kernel_rfl) rfl #[.agg #[.int .i64 10000, .int .i64 1000, .int .i64 4], .slice Ao32 t143.length co32, .int .i64 1] rfl (by (try simp only [List.map_toArray, List.map_cons, List.map_nil]); first | done | rfl | (simp only [List.length_drop, List.length_take]; rfl)) ?_; (with_reducible refine (bridge_Damage.calls k 10000 1000 4 _ _ t143 1 t146 t147 _ ?side1 ?side2 A8.out).mono ?_); (case side1 => repeat (first | exact (Kd.R_reads' HO145.out).2.2 | (with_reducible refine Kd.C_alloc ?_ _) | (with_reducible refine Kd.C_drewN ?_ _) | (with_reducible refine Kd.C_drew ?_))); (case side2 => exact (Kd.R_reads' HO145.out).2.1); rintro e w33 ⟨rfl, hb⟩; refine ⟨_, rfl, ?_⟩; have n0_ := Aside0.mk (Kd.R_below (by (with_reducible repeat (first | apply Kd.R_alloc | apply Kd.R_drewN | apply Kd.R_drew)); exact HO103.out) hb); have n1_ := Aside0.mk (Kd.R_below (by (with_reducible repeat (first | apply Kd.R_alloc | apply Kd.R_drewN | apply Kd.R_drew)); exact HO106.out) hb); have n2_ := Aside0.mk (Kd.R_below (by (with_reducible repeat (first | apply Kd.R_alloc | apply Kd.R_drewN | apply Kd.R_drew)); exact HO109.out) hb); have n3_ := Aside0.mk (Kd.R_below (by (with_reducible repeat (first | apply Kd.R_alloc | apply Kd.R_drewN | apply Kd.R_drew)); exact HO115.out) hb); have n4_ := Aside0.mk (Kd.R_below (by (with_reducible repeat (first | apply Kd.R_alloc | apply Kd.R_drewN | apply Kd.R_drew)); exact HO124.out) hb); have n5_ := Aside0.mk (Kd.R_below (by (with_reducible repeat (first | apply Kd.R_alloc | apply Kd.R_drewN | apply Kd.R_drew)); exact HO127.out) hb); have n6_ := Aside0.mk (Kd.R_below (by (with_reducible repeat (first | apply Kd.R_alloc | apply Kd.R_drewN | apply Kd.R_drew)); exact HO130.out) hb); have n7_ := Aside0.mk (Kd.R_below (by (with_reducible repeat (first | apply Kd.R_alloc | apply Kd.R_drewN | apply Kd.R_drew)); exact HO136.out) hb); have n8_ := Aside0.mk (Kd.R_below (by (with_reducible repeat (first | apply Kd.R_alloc | apply Kd.R_drewN | apply Kd.R_drew)); exact HO145.out) hb); have n9_ := Aside0.mk (blk_below (g := gb121) (o := .cells #[.int .i64 t116, .int .i64 t117, .int .i64 t118, .int .i64 t119] 29 (0, 0)) (by (with_reducible repeat (first | refine blk_drewN ?_ _ | refine blk_drew ?_ | refine blk_alloc ?_ _)); exact BK121.out) hb); have n10_ := Aside0.mk (blk_below (g := gb142) (o := .cells #[.int .i64 t137, .int .i64 t138, .int .i64 t139, .int .i64 t140] 29 (0, 0)) (by (with_reducible repeat (first | refine blk_drewN ?_ _ | refine blk_drew ?_ | refine blk_alloc ?_ _)); exact BK142.out) hb); have n11_ := Aside0.mk (below_step (by repeat (first | (with_reducible first | exact HB.out | apply below_alloc | apply pw_below_drewN | apply below_drew1 | refine below_set ?_ GE121.out | refine below_set ?_ GE142.out) | exact HB.out)) hb); clear HO103; clear HO106; clear HO109; clear HO115; clear HO124; clear HO127; clear HO130; clear HO136; clear HO145; clear BK121; clear BK142; clear HB; have HO103 := n0_; have HO106 := n1_; have HO109 := n2_; have HO115 := n3_; have HO124 := n4_; have HO127 := n5_; have HO130 := n6_; have HO136 := n7_; have HO145 := n8_; have BK121 := n9_; have BK142 := n10_; have HB := n11_; clear n0_ n1_ n2_ n3_ n4_ n5_ n6_ n7_ n8_ n9_ n10_ n11_; (try clear hb); (try clear hb2); (try clear hk); (try clear hi); have hcz34_0 : w33.cell? ⟨gb121, 0, none⟩ = some (.int .i64 t116) := (blk_cell BK121.out 0).trans rfl; have hcz34_1 : w33.cell? ⟨gb121, 1, none⟩ = some (.int .i64 t117) := (blk_cell BK121.out 1).trans rfl; have hcz34_2 : w33.cell? ⟨gb121, 2, none⟩ = some (.int .i64 t118) := (blk_cell BK121.out 2).trans rfl; have hcz34_3 : w33.cell? ⟨gb121, 3, none⟩ = some (.int .i64 t119) := (blk_cell BK121.out 3).trans rfl; have hfz34_0 := blk_frozen BK121.out 0; have hfz34_1 := blk_frozen BK121.out 1; have hfz34_2 := blk_frozen BK121.out 2; have hfz34_3 := blk_frozen BK121.out 3; have hcz35_0 : w33.cell? ⟨gb142, 0, none⟩ = some (.int .i64 t137) := (blk_cell BK142.out 0).trans rfl; have hcz35_1 : w33.cell? ⟨gb142, 1, none⟩ = some (.int .i64 t138) := (blk_cell BK142.out 1).trans rfl; have hcz35_2 : w33.cell? ⟨gb142, 2, none⟩ = some (.int .i64 t139) := (blk_cell BK142.out 2).trans rfl; have hcz35_3 : w33.cell? ⟨gb142, 3, none⟩ = some (.int .i64 t140) := (blk_cell BK142.out 3).trans rfl; have hfz35_0 := blk_frozen BK142.out 0; have hfz35_1 := blk_frozen BK142.out 1; have hfz35_2 := blk_frozen BK142.out 2; have hfz35_3 := blk_frozen BK142.out 3))
        go_ret
        exact ⟨by first | rfl | (simp [errW_none, errW_some] <;> rfl) | (simp [*, errW_none, errW_some] <;> rfl), by repeat (first | (with_reducible first | exact HB.out | apply below_alloc | apply pw_below_drewN | apply below_drew1 | refine below_set ?_ GE121.out | refine below_set ?_ GE142.out) | exact HB.out)⟩
      · rw [if_neg c11] at H
        have c11b0 : (t137 == 456000000 && (t138 == 0 && (t139 == 0 && (t140 == 2000)))) = false := by simpa using c11
        (try (have c11b1 : decide (t137 = 456000000 && (t138 == 0 && (t139 == 0 && (t140 == 2000)))) = false := by simpa using c11))
        (try (have c11b2 : (t137 == 456000000 && (t138 == 0 && (t139 == 0 && (t140 == 2000)))) = false := by simpa using c11))
        (try (have c11b3 : ¬ (t137 = 456000000 && (t138 == 0 && (t139 == 0 && (t140 == 2000)))) := by simpa using c11))
        clear c11
        rw [hr_.out] at H
        exact absurd H (by simp)
    · rw [if_neg c10] at H
      have c10b0 : (t116 == 2160000000000 && (t117 == 0 && (t118 == 10000 && (t119 == 10000)))) = false := by simpa using c10
      (try (have c10b1 : decide (t116 = 2160000000000 && (t117 == 0 && (t118 == 10000 && (t119 == 10000)))) = false := by simpa using c10))
      (try (have c10b2 : (t116 == 2160000000000 && (t117 == 0 && (t118 == 10000 && (t119 == 10000)))) = false := by simpa using c10))
      (try (have c10b3 : ¬ (t116 = 2160000000000 && (t117 == 0 && (t118 == 10000 && (t119 == 10000)))) := by simpa using c10))
      clear c10
      rw [hr_.out] at H
      exact absurd H (by simp)
  · rw [if_neg c9] at H
    have c9b0 : ((wrap64 ((wrap64 (t120 + t141)) + t147)) == 0) = false := beq_eq_false_iff_ne.mpr c9
    have c9b1 : ((wrap64 ((wrap64 (t120 + t141)) + t147)) != 0) = true := bne_iff_ne.mpr c9
    rw [hr_.out] at H
    exact absurd H (by simp)

end Go.Proofs.Ytiklpefckadgdaa.P
namespace Go.Proofs.Ytiklpefckadgdaa.P
open Go.RowKit Go.Proofs.YtiklpefckadgdaaW.PrintWords Go.Proofs.YtiklpefckadgdaaW.PrintLast Go.Proofs.YtiklpefckadgdaaW.PrintMore

theorem two_span : (limO fun n => bridge_span.f n [20000, 10000] [200000, 100000] [60000, 50000] 200 2 500 [⟨0, 12000⟩, ⟨2000, 12000⟩] 0) = some 0 :=
  limO_ev (fun n => bridge_span.mono _ _ _ _ _ _ _ _ n) (Ev.of (fun n => bridge_span.mono _ _ _ _ _ _ _ _ n) (k := 40) (by decide +kernel))
theorem known_moment : bridge_WorstMoment.f [20000, 10000] [200000, 100000] [60000, 50000] 200 2 500 [⟨0, 12000⟩, ⟨2000, 12000⟩] 0 10000 = some (2160000000000, 0, 10000, 10000, 0) := by
  unfold bridge_WorstMoment.f
  rw [two_span]
  decide +kernel
theorem known_end : bridge_WorstEnd.f [20000, 10000] [200000, 100000] [60000, 50000] 200 2 500 [⟨0, 12000⟩, ⟨2000, 12000⟩] 0 false = some (456000000, 0, 0, 2000, 0) := by
  unfold bridge_WorstEnd.f
  rw [two_span]
  decide +kernel
theorem known_damage : Ev (fun k => bridge_Damage.f k 10000 1000 4 [⟨0, 12000⟩, ⟨2000, 12000⟩] 1) (4148, 0) := Ev.of (fun n => bridge_Damage.mono _ _ _ _ _ n) (k := 40) (by decide +kernel)
theorem known_ev : Ev (fun k => goosenecklaw06_known.f k) true := by
  unfold goosenecklaw06_known.f
  simp only [goosenecklaw06_Example.f, goosenecklaw06_Two.f, Option.bind_some, known_moment, known_end]
  refine Ev.bind known_damage ?_
  exact Ev.congr (f := fun _ => some true) (fun k => by decide +kernel) (Ev.now true)
theorem goosenecklaw06_known_true : ∃ k, goosenecklaw06_known.f k = some true := Ev.rounds known_ev
end Go.Proofs.Ytiklpefckadgdaa.P
noncomputable section
namespace Go.Proofs.Ytiklpefckadgdaa.P
open Go.RowKit Go.Proofs.YtiklpefckadgdaaW.PrintWords Go.Proofs.YtiklpefckadgdaaW.PrintLast Go.Proofs.YtiklpefckadgdaaW.PrintMore
attribute [local go_sem] max2_int min2_int max_two min_two max_three min_three max_four min_four   -- for this text's walks alone
set_option linter.unusedVariables false
set_option linter.unusedSimpArgs false

theorem goosenecklaw06_known.calls (k : Nat) (r : Bool) (w : World) (h : goosenecklaw06_known.f k = some r) :
    Calls Try.prog 12 #[] w fun e w' => e = .returned (.bool r) ∧ Below w.heap.size w w' := by
  obtain ⟨q, h1⟩ := goosenecklaw06_known_true
  have h2 := at_rounds goosenecklaw06_known.mono (Nat.le_max_left k q) h
  have h3 := at_rounds goosenecklaw06_known.mono (Nat.le_max_right k q) h1
  have hr : r = true := Option.some.inj (h2.symm.trans h3)
  exact goosenecklaw06_known.callsT k r w ⟨hr⟩ h

end Go.Proofs.Ytiklpefckadgdaa.P
noncomputable section
namespace Go.Proofs.Ytiklpefckadgdaa.P
open Go.RowKit Go.Proofs.YtiklpefckadgdaaW.PrintWords Go.Proofs.YtiklpefckadgdaaW.PrintLast Go.Proofs.YtiklpefckadgdaaW.PrintMore
attribute [local go_sem] max2_int min2_int max_two min_two max_three min_three max_four min_four   -- for this text's walks alone
set_option linter.unusedVariables false
set_option linter.unusedSimpArgs false

/-! ### goosenecklaw06_BridgeWears: function 5 -/
mutual
def goosenecklaw06_BridgeWears.j0 : Nat → List (S35) → Int → Int → Int → Int → Bool → Int → Int → Int → Option (Bool)
  | 0, _, _, _, _, _, _, _, _, _ => none
  | k + 1, x1, x2, x3, x4, x11, x63, x102000, x102001, x102002 => if x63 = true then (some false) else ((bridge_Damage.f k x102000 x102001 x102002 x1 (wrap64 (2 * x2))).bind fun bt111 => (if bt111.2 = 0 then (if bt111.1 < x11 then (goosenecklaw06_BridgeWears.j1 k x1 x2 x3 x4 x11 true x102000 x102001 x102002) else (goosenecklaw06_BridgeWears.j1 k x1 x2 x3 x4 x11 (decide (bt111.1 > (wrap64 (2 * x11)))) x102000 x102001 x102002)) else (goosenecklaw06_BridgeWears.j1 k x1 x2 x3 x4 x11 false x102000 x102001 x102002)))
def goosenecklaw06_BridgeWears.j1 : Nat → List (S35) → Int → Int → Int → Int → Bool → Int → Int → Int → Option (Bool)
  | 0, _, _, _, _, _, _, _, _, _ => none
  | k + 1, x1, x2, x3, x4, x11, x84, x102000, x102001, x102002 => if x84 = true then (some false) else ((some (([] : List (S35)) : List (S35))).bind fun y113 => (if y113.length + x1.length < 8796093022208 then ((some (y113 ++ x1 : List (S35))).bind fun y116 => (if (y116.length : Int) = 0 then (none) else (if 0 ≤ (Int.tmod (wrap64 (x4)) (y116.length : Int)) then (if (Int.tmod (wrap64 (x4)) (y116.length : Int)) < (y116.length : Int) then ((bridge_Damage.f k x102000 x102001 x102002 (y116.set ((Int.tmod (wrap64 (x4)) (y116.length : Int)) : Int).toNat (⟨(rd_T35 y116 (Int.tmod (wrap64 (x4)) (y116.length : Int))).f0, mn 1048576 (wrap64 (((rd_T35 y116 (Int.tmod (wrap64 (x4)) (y116.length : Int))).f1) + (wrap64 (x4))))⟩ : S35)) x2).bind fun bt121 => (if bt121.2 = 0 then (goosenecklaw06_BridgeWears.j2 k x1 x3 (decide (bt121.1 < x11)) x102000 x102001 x102002) else (goosenecklaw06_BridgeWears.j2 k x1 x3 false x102000 x102001 x102002))) else (none)) else (none)))) else (none)))
def goosenecklaw06_BridgeWears.j2 : Nat → List (S35) → Int → Bool → Int → Int → Int → Option (Bool)
  | 0, _, _, _, _, _, _ => none
  | k + 1, x1, x3, x119, x102000, x102001, x102002 => if x119 = true then (some false) else ((bridge_Left.f x102000 x102001 x102002 x1 x3).bind fun bt123 => (if bt123.2 = 0 then ((bridge_Damage.f k x102000 x102001 x102002 x1 bt123.1).bind fun bt125 => ((bridge_Damage.f k x102000 x102001 x102002 x1 (wrap64 (bt123.1 + 1))).bind fun bt127 => (if bt123.1 ≥ 0 then (if bt123.1 ≤ 1048576 then (if bt125.2 = 0 then (if (wrap64 (x3 + bt125.1)) ≤ 1000000 then (if bt123.1 = 1048576 then ((goosenecklaw06_known.f k).bind fun t129 => (some t129)) else (if bt127.2 = 0 then (if (wrap64 (x3 + bt127.1)) > 1000000 then ((goosenecklaw06_known.f k).bind fun t130 => (some t130)) else (some false)) else (some false))) else (some false)) else (some false)) else (some false)) else (some false)))) else (if bt123.2 = 3 then ((goosenecklaw06_known.f k).bind fun t131 => (some t131)) else (if bt123.2 = 5 then ((goosenecklaw06_known.f k).bind fun t132 => (some t132)) else (some false)))))
end
def goosenecklaw06_BridgeWears.f (k : Nat) (a0_0 : Int) (a0_1 : Int) (a0_2 : Int) (l1 : List (S35)) (a2 : Int) (a3 : Int) (a4 : Int) : Option (Bool) := if (l1.length : Int) > 70 then ((goosenecklaw06_known.f k).bind fun t102 => (some t102)) else ((bridge_Damage.f k a0_0 a0_1 a0_2 l1 a2).bind fun bt103 => (if bt103.2 = 0 then ((bridge_Damage.f k a0_0 a0_1 a0_2 (([(⟨0, a0_0⟩ : S35)] : List (S35))) a0_1).bind fun bt109 => (if bt109.2 = 0 then (if bt109.1 = 1000000 then (goosenecklaw06_BridgeWears.j0 k l1 a2 a3 a4 bt103.1 ((l1.length : Int) == 0) a0_0 a0_1 a0_2) else (goosenecklaw06_BridgeWears.j0 k l1 a2 a3 a4 bt103.1 true a0_0 a0_1 a0_2)) else (goosenecklaw06_BridgeWears.j0 k l1 a2 a3 a4 bt103.1 true a0_0 a0_1 a0_2))) else (if bt103.1 = 0 then ((goosenecklaw06_known.f k).bind fun t105 => (some t105)) else (some false))))
theorem goosenecklaw06_BridgeWears.mono_l : ∀ k, (∀ y0 y1 y2 y3 y4 y5 y6 y7 y8, LeO (goosenecklaw06_BridgeWears.j0 k y0 y1 y2 y3 y4 y5 y6 y7 y8) (goosenecklaw06_BridgeWears.j0 (k + 1) y0 y1 y2 y3 y4 y5 y6 y7 y8)) ∧ (∀ y0 y1 y2 y3 y4 y5 y6 y7 y8, LeO (goosenecklaw06_BridgeWears.j1 k y0 y1 y2 y3 y4 y5 y6 y7 y8) (goosenecklaw06_BridgeWears.j1 (k + 1) y0 y1 y2 y3 y4 y5 y6 y7 y8)) ∧ (∀ y0 y1 y2 y3 y4 y5, LeO (goosenecklaw06_BridgeWears.j2 k y0 y1 y2 y3 y4 y5) (goosenecklaw06_BridgeWears.j2 (k + 1) y0 y1 y2 y3 y4 y5))
  | 0 => ⟨fun _ _ _ _ _ _ _ _ _ r h => by simp [goosenecklaw06_BridgeWears.j0] at h, fun _ _ _ _ _ _ _ _ _ r h => by simp [goosenecklaw06_BridgeWears.j1] at h, fun _ _ _ _ _ _ r h => by simp [goosenecklaw06_BridgeWears.j2] at h⟩
  | k + 1 => by
    obtain ⟨ih0, ih1, ih2⟩ := goosenecklaw06_BridgeWears.mono_l k
    refine ⟨?_, ?_, ?_⟩
    · intro y0 y1 y2 y3 y4 y5 y6 y7 y8
      unfold goosenecklaw06_BridgeWears.j0
      repeat' first
      | (with_reducible exact ih0 _ _ _ _ _ _ _ _ _)
      | (with_reducible exact ih1 _ _ _ _ _ _ _ _ _)
      | (with_reducible exact ih2 _ _ _ _ _ _)
      | (with_reducible exact bridge_Damage.mono _ _ _ _ _ _)
      | (with_reducible exact goosenecklaw06_known.mono _)
      | (with_reducible exact LeO.refl _)
      | (with_reducible exact LeO.none _)
      | (with_reducible refine LeO.ite ?_ ?_)
      | (with_reducible refine LeO.bind ?_ (fun _ => ?_))
      | exact ih0 _ _ _ _ _ _ _ _ _
      | exact ih1 _ _ _ _ _ _ _ _ _
      | exact ih2 _ _ _ _ _ _
      | exact bridge_Damage.mono _ _ _ _ _ _
      | exact goosenecklaw06_known.mono _
      | exact LeO.none _
      | refine LeO.ite ?_ ?_
      | refine LeO.bind ?_ (fun _ => ?_)
    · intro y0 y1 y2 y3 y4 y5 y6 y7 y8
      unfold goosenecklaw06_BridgeWears.j1
      repeat' first
      | (with_reducible exact ih0 _ _ _ _ _ _ _ _ _)
      | (with_reducible exact ih1 _ _ _ _ _ _ _ _ _)
      | (with_reducible exact ih2 _ _ _ _ _ _)
      | (with_reducible exact bridge_Damage.mono _ _ _ _ _ _)
      | (with_reducible exact goosenecklaw06_known.mono _)
      | (with_reducible exact LeO.refl _)
      | (with_reducible exact LeO.none _)
      | (with_reducible refine LeO.ite ?_ ?_)
      | (with_reducible refine LeO.bind ?_ (fun _ => ?_))
      | exact ih0 _ _ _ _ _ _ _ _ _
      | exact ih1 _ _ _ _ _ _ _ _ _
      | exact ih2 _ _ _ _ _ _
      | exact bridge_Damage.mono _ _ _ _ _ _
      | exact goosenecklaw06_known.mono _
      | exact LeO.none _
      | refine LeO.ite ?_ ?_
      | refine LeO.bind ?_ (fun _ => ?_)
    · intro y0 y1 y2 y3 y4 y5
      unfold goosenecklaw06_BridgeWears.j2
      repeat' first
      | (with_reducible exact ih0 _ _ _ _ _ _ _ _ _)
      | (with_reducible exact ih1 _ _ _ _ _ _ _ _ _)
      | (with_reducible exact ih2 _ _ _ _ _ _)
      | (with_reducible exact bridge_Damage.mono _ _ _ _ _ _)
      | (with_reducible exact goosenecklaw06_known.mono _)
      | (with_reducible exact LeO.refl _)
      | (with_reducible exact LeO.none _)
      | (with_reducible refine LeO.ite ?_ ?_)
      | (with_reducible refine LeO.bind ?_ (fun _ => ?_))
      | exact ih0 _ _ _ _ _ _ _ _ _
      | exact ih1 _ _ _ _ _ _ _ _ _
      | exact ih2 _ _ _ _ _ _
      | exact bridge_Damage.mono _ _ _ _ _ _
      | exact goosenecklaw06_known.mono _
      | exact LeO.none _
      | refine LeO.ite ?_ ?_
      | refine LeO.bind ?_ (fun _ => ?_)
theorem goosenecklaw06_BridgeWears.mono : ∀ a0 a1 a2 a3 a4 a5 a6 k, LeO (goosenecklaw06_BridgeWears.f k a0 a1 a2 a3 a4 a5 a6) (goosenecklaw06_BridgeWears.f (k + 1) a0 a1 a2 a3 a4 a5 a6) := by
  intro a0 a1 a2 a3 a4 a5 a6 k
  obtain ⟨ih0, ih1, ih2⟩ := goosenecklaw06_BridgeWears.mono_l k
  unfold goosenecklaw06_BridgeWears.f
  repeat' first
      | (with_reducible exact ih0 _ _ _ _ _ _ _ _ _)
      | (with_reducible exact ih1 _ _ _ _ _ _ _ _ _)
      | (with_reducible exact ih2 _ _ _ _ _ _)
      | (with_reducible exact bridge_Damage.mono _ _ _ _ _ _)
      | (with_reducible exact goosenecklaw06_known.mono _)
      | (with_reducible exact LeO.refl _)
      | (with_reducible exact LeO.none _)
      | (with_reducible refine LeO.ite ?_ ?_)
      | (with_reducible refine LeO.bind ?_ (fun _ => ?_))
      | exact ih0 _ _ _ _ _ _ _ _ _
      | exact ih1 _ _ _ _ _ _ _ _ _
      | exact ih2 _ _ _ _ _ _
      | exact bridge_Damage.mono _ _ _ _ _ _
      | exact goosenecklaw06_known.mono _
      | exact LeO.none _
      | refine LeO.ite ?_ ?_
      | refine LeO.bind ?_ (fun _ => ?_)
set_option maxHeartbeats 8000000 in
set_option maxRecDepth 100000 in
theorem goosenecklaw06_BridgeWears.calls (k : Nat) (a0_0 : Int) (a0_1 : Int) (a0_2 : Int) (A1 : Option Addr) (c1 : Nat) (l1 : List (S35)) (a2 : Int) (a3 : Int) (a4 : Int) (r : Bool) (w : World) (hr1 : Kd.C k35 w A1 l1.length l1) (hc1 : l1.length ≤ c1) (hr_ : Aside0 (r = true)) (h : goosenecklaw06_BridgeWears.f k a0_0 a0_1 a0_2 l1 a2 a3 a4 = some r) :
    Calls Try.prog 5 #[.agg #[.int .i64 a0_0, .int .i64 a0_1, .int .i64 a0_2], .slice A1 l1.length c1, .int .i64 a2, .int .i64 a3, .int .u8 a4] w fun e w' => e = .returned (.bool r) ∧ Below w.heap.size w w' := by
  have hu43 := Try.underlying43
  have hu35 := Try.underlying35
  have HR1 := Aside0.mk hr1
  have HC1 := Aside0.mk hc1
  clear hr1 hc1
  have HB := Aside0.mk (Below.refl w.heap.size w)
  have H : (if (l1.length : Int) > 70 then ((goosenecklaw06_known.f k).bind fun t102 => (some t102)) else ((bridge_Damage.f k a0_0 a0_1 a0_2 l1 a2).bind fun bt103 => (if bt103.2 = 0 then ((bridge_Damage.f k a0_0 a0_1 a0_2 (([(⟨0, a0_0⟩ : S35)] : List (S35))) a0_1).bind fun bt109 => (if bt109.2 = 0 then (if bt109.1 = 1000000 then (goosenecklaw06_BridgeWears.j0 k l1 a2 a3 a4 bt103.1 ((l1.length : Int) == 0) a0_0 a0_1 a0_2) else (goosenecklaw06_BridgeWears.j0 k l1 a2 a3 a4 bt103.1 true a0_0 a0_1 a0_2)) else (goosenecklaw06_BridgeWears.j0 k l1 a2 a3 a4 bt103.1 true a0_0 a0_1 a0_2))) else (if bt103.1 = 0 then ((goosenecklaw06_known.f k).bind fun t105 => (some t105)) else (some false))))) = some r := h
  clear h
  by_cases c6 : (l1.length : Int) > 70
  · rw [if_pos c6] at H
    have c6b0 : decide (70 < (l1.length : Int)) = true := decide_eq_true c6
    have c6b1 : decide (70 < l1.length) = true := decide_eq_true (by omega)
    clear c6
    replace H := Option.bind_eq_some_iff.mp H
    obtain ⟨t102, A70, H⟩ := H
    replace H : (some t102) = some r := H
    have A7 := Aside0.mk A70
    clear A70
    obtain rfl := Option.some.inj H
    go_enter Try.func5, Try.ntmps5
    go_wp2_with (first | ((with_reducible refine gate_dst (N := 5) rfl ?_); (try (refine gate_guard (by rfl) ?_; dsimp only)); refine box_event ?hg (N := 5) ?hd (cs := #[.int .i64 a0_0, .int .i64 a0_1, .int .i64 a0_2]) (t := 43) ?hr ?_; (case hd => rfl); (case hg => rfl); (case hr => first | (go_simp; done) | (go_simp; rfl)); intro gb101 hg w8 hbox hb; have n0_ := Aside0.mk (below_step (by repeat (first | (with_reducible first | exact HB.out | apply below_alloc | apply pw_below_drewN | apply below_drew1) | exact HB.out)) hb); have n1_ := Aside0.mk (hbox); have n2_ := Aside0.mk ((by rw [hg]; exact (below_size (by repeat (first | (with_reducible first | exact HB.out | apply below_alloc | apply pw_below_drewN | apply below_drew1) | exact HB.out))) : w.heap.size ≤ gb101)); have n3_ := Aside0.mk ((by rw [hg]; exact (below_size (by repeat (first | (with_reducible first | exact HB.out | apply below_alloc | apply pw_below_drewN | apply below_drew1) | exact HB.out))) : w.heap.size ≤ gb101)); clear HB; have HB := n0_; have BK101 := n1_; have GW101 := n2_; have GE101 := n3_; clear n0_ n1_ n2_ n3_; clear hb hbox hg) | ((with_reducible refine gate_callee (f := 12) rfl ?_); refine goesL_ (some 27) rfl rfl Try.func12 (by kernel_rfl) rfl #[] rfl (by (try simp only [List.map_toArray, List.map_cons, List.map_nil]); first | done | rfl | (simp only [List.length_drop, List.length_take]; rfl)) ?_; (with_reducible refine (goosenecklaw06_known.calls k  t102 _ A7.out).mono ?_); rintro e w9 ⟨rfl, hb⟩; refine ⟨_, rfl, ?_⟩; have n0_ := Aside0.mk (blk_below (g := gb101) (o := .cells #[.int .i64 a0_0, .int .i64 a0_1, .int .i64 a0_2] 43 (0, 0)) (by (with_reducible repeat (first | refine blk_drewN ?_ _ | refine blk_drew ?_ | refine blk_alloc ?_ _)); exact BK101.out) hb); have n1_ := Aside0.mk (below_step (by repeat (first | (with_reducible first | exact HB.out | apply below_alloc | apply pw_below_drewN | apply below_drew1 | refine below_set ?_ GE101.out) | exact HB.out)) hb); clear BK101; clear HB; have BK101 := n0_; have HB := n1_; clear n0_ n1_; (try clear hb); (try clear hb2); (try clear hk); (try clear hi)))
    go_ret
    exact ⟨by first | rfl | (simp [errW_none, errW_some] <;> rfl) | (simp [*, errW_none, errW_some] <;> rfl), by repeat (first | (with_reducible first | exact HB.out | apply below_alloc | apply pw_below_drewN | apply below_drew1 | refine below_set ?_ GE101.out) | exact HB.out)⟩
  · rw [if_neg c6] at H
    have c6b0 : decide (70 < (l1.length : Int)) = false := decide_eq_false c6
    have c6b1 : decide (70 < l1.length) = false := decide_eq_false (by omega)
    clear c6
    replace H := Option.bind_eq_some_iff.mp H
    obtain ⟨⟨t103, t104⟩, A100, H⟩ := H
    replace H : (if t104 = 0 then ((bridge_Damage.f k a0_0 a0_1 a0_2 (([(⟨0, a0_0⟩ : S35)] : List (S35))) a0_1).bind fun bt109 => (if bt109.2 = 0 then (if bt109.1 = 1000000 then (goosenecklaw06_BridgeWears.j0 k l1 a2 a3 a4 t103 ((l1.length : Int) == 0) a0_0 a0_1 a0_2) else (goosenecklaw06_BridgeWears.j0 k l1 a2 a3 a4 t103 true a0_0 a0_1 a0_2)) else (goosenecklaw06_BridgeWears.j0 k l1 a2 a3 a4 t103 true a0_0 a0_1 a0_2))) else (if t103 = 0 then ((goosenecklaw06_known.f k).bind fun t105 => (some t105)) else (some false))) = some r := H
    have A10 := Aside0.mk A100
    clear A100
    by_cases c11 : t104 = 0
    · rw [if_pos c11] at H
      have c11b0 : (t104 == 0) = true := beq_iff_eq.mpr c11
      have c11b1 : (t104 != 0) = false := bne_eq_false_iff_eq.mpr c11
      clear c11
      obtain ⟨y106, hy106⟩ : ∃ y_ : List (S35), y_ = (([(⟨0, a0_0⟩ : S35)] : List (S35))) := ⟨_, rfl⟩
      replace H : ((bridge_Damage.f k a0_0 a0_1 a0_2 y106 a0_1).bind fun bt109 => (if bt109.2 = 0 then (if bt109.1 = 1000000 then (goosenecklaw06_BridgeWears.j0 k l1 a2 a3 a4 t103 ((l1.length : Int) == 0) a0_0 a0_1 a0_2) else (goosenecklaw06_BridgeWears.j0 k l1 a2 a3 a4 t103 true a0_0 a0_1 a0_2)) else (goosenecklaw06_BridgeWears.j0 k l1 a2 a3 a4 t103 true a0_0 a0_1 a0_2))) = some r := by first | (rw [hy106]; with_reducible exact H) | (have H2_ := (Option.bind_some _ _).symm.trans H; rw [hy106]; with_reducible exact H2_) | (have H2_ := (Option.bind_some _ _).symm.trans H; with_reducible exact H2_) | with_reducible exact H | (rw [hy106]; exact H) | exact H
      have Ny106 := Aside0.mk hy106
      clear hy106
      replace H := Option.bind_eq_some_iff.mp H
      obtain ⟨⟨t109, t110⟩, A120, H⟩ := H
      replace H : (if t110 = 0 then (if t109 = 1000000 then (goosenecklaw06_BridgeWears.j0 k l1 a2 a3 a4 t103 ((l1.length : Int) == 0) a0_0 a0_1 a0_2) else (goosenecklaw06_BridgeWears.j0 k l1 a2 a3 a4 t103 true a0_0 a0_1 a0_2)) else (goosenecklaw06_BridgeWears.j0 k l1 a2 a3 a4 t103 true a0_0 a0_1 a0_2)) = some r := H
      have A12 := Aside0.mk A120
      clear A120
      have HC13 := Aside0.mk H
      clear H
      go_enter Try.func5, Try.ntmps5
      go_upto_region 7 with (first | ((with_reducible refine gate_dst (N := 5) rfl ?_); (try (refine gate_guard (by rfl) ?_; dsimp only)); refine box_event ?hg (N := 5) ?hd (cs := #[.int .i64 a0_0, .int .i64 a0_1, .int .i64 a0_2]) (t := 43) ?hr ?_; (case hd => rfl); (case hg => rfl); (case hr => first | (go_simp; done) | (go_simp; rfl)); intro gb101 hg w14 hbox hb; have n0_ := Aside0.mk (below_step (by repeat (first | (with_reducible first | exact HB.out | apply below_alloc | apply pw_below_drewN | apply below_drew1) | exact HB.out)) hb); have n1_ := Aside0.mk (hbox); have n2_ := Aside0.mk ((by rw [hg]; exact (below_size (by repeat (first | (with_reducible first | exact HB.out | apply below_alloc | apply pw_below_drewN | apply below_drew1) | exact HB.out))) : w.heap.size ≤ gb101)); have n3_ := Aside0.mk ((by rw [hg]; exact (below_size (by repeat (first | (with_reducible first | exact HB.out | apply below_alloc | apply pw_below_drewN | apply below_drew1) | exact HB.out))) : w.heap.size ≤ gb101)); clear HB; have HB := n0_; have BK101 := n1_; have GW101 := n2_; have GE101 := n3_; clear n0_ n1_ n2_ n3_; clear hb hbox hg; have hcz15_0 : w14.cell? ⟨gb101, 0, none⟩ = some (.int .i64 a0_0) := (blk_cell BK101.out 0).trans rfl; have hcz15_1 : w14.cell? ⟨gb101, 1, none⟩ = some (.int .i64 a0_1) := (blk_cell BK101.out 1).trans rfl; have hcz15_2 : w14.cell? ⟨gb101, 2, none⟩ = some (.int .i64 a0_2) := (blk_cell BK101.out 2).trans rfl; have hfz15_0 := blk_frozen BK101.out 0; have hfz15_1 := blk_frozen BK101.out 1; have hfz15_2 := blk_frozen BK101.out 2) | ((with_reducible refine gate_callee (f := 18) rfl ?_); refine goesL_ (some 32) rfl rfl Try.func18 (by kernel_rfl) rfl #[.agg #[.int .i64 a0_0, .int .i64 a0_1, .int .i64 a0_2], .slice A1 l1.length c1, .int .i64 a2] rfl (by (try simp only [List.map_toArray, List.map_cons, List.map_nil]); first | done | rfl | (simp only [List.length_drop, List.length_take]; rfl)) ?_; (with_reducible refine (bridge_Damage.calls k a0_0 a0_1 a0_2 _ _ l1 a2 t103 t104 _ ?side1 ?side2 A10.out).mono ?_); (case side1 => repeat (first | exact (Kd.C_below HR1.out HB.out) | (with_reducible refine Kd.C_alloc ?_ _) | (with_reducible refine Kd.C_drewN ?_ _) | (with_reducible refine Kd.C_drew ?_))); (case side2 => exact HC1.out); rintro e w16 ⟨rfl, hb⟩; refine ⟨_, rfl, ?_⟩; have n0_ := Aside0.mk (blk_below (g := gb101) (o := .cells #[.int .i64 a0_0, .int .i64 a0_1, .int .i64 a0_2] 43 (0, 0)) (by (with_reducible repeat (first | refine blk_drewN ?_ _ | refine blk_drew ?_ | refine blk_alloc ?_ _)); exact BK101.out) hb); have n1_ := Aside0.mk (below_step (by repeat (first | (with_reducible first | exact HB.out | apply below_alloc | apply pw_below_drewN | apply below_drew1 | refine below_set ?_ GE101.out) | exact HB.out)) hb); clear BK101; clear HB; have BK101 := n0_; have HB := n1_; clear n0_ n1_; (try clear hb); (try clear hb2); (try clear hk); (try clear hi); have hcz17_0 : w16.cell? ⟨gb101, 0, none⟩ = some (.int .i64 a0_0) := (blk_cell BK101.out 0).trans rfl; have hcz17_1 : w16.cell? ⟨gb101, 1, none⟩ = some (.int .i64 a0_1) := (blk_cell BK101.out 1).trans rfl; have hcz17_2 : w16.cell? ⟨gb101, 2, none⟩ = some (.int .i64 a0_2) := (blk_cell BK101.out 2).trans rfl; have hfz17_0 := blk_frozen BK101.out 0; have hfz17_1 := blk_frozen BK101.out 1; have hfz17_2 := blk_frozen BK101.out 2) | ((with_reducible refine gate_dst (N := 47) rfl ?_); (try (refine gate_guard (by rfl) ?_; dsimp only)); refine Kd.R_lit k35 _ 35 ?hg (N := 47) ?hd (xs := ([(⟨0, a0_0⟩ : S35)] : List (S35))) (inner := [.int .i64 0, .int .i64 a0_0]) (ok := fun _ => True) (okp := fun _ => True) ?hr ?hp (fun _ hk => hk) trivial (Below.refl _ _) (Nat.le_refl _) (by simp) ?_; (case hd => rfl); (case hg => rfl); (case hr => first | (go_simp; done) | (go_simp; rfl)); (case hp => exact (Reps.c2 (show Kd.M k35 _ _ _ (⟨0, a0_0⟩ : S35) [.int .i64 0, .int .i64 a0_0] from (k35_mkM _ _ _ (⟨0, a0_0⟩ : S35) )) (Reps.none _ _))); intro v107 w18 ho19 hb hg_ hnew_; clear hg_ hnew_; (first | rw [← Ny106.out] at ho19 | (simp only [Int.reduceToNat] at ho19; rw [← Ny106.out] at ho19)); have n0_ := Aside0.mk (Kd.R_lower ho19 (below_size (by repeat (first | (with_reducible first | exact HB.out | apply below_alloc | apply pw_below_drewN | apply below_drew1 | refine below_set ?_ GE101.out) | exact HB.out)))); have n1_ := Aside0.mk (blk_below (g := gb101) (o := .cells #[.int .i64 a0_0, .int .i64 a0_1, .int .i64 a0_2] 43 (0, 0)) (by (with_reducible repeat (first | refine blk_drewN ?_ _ | refine blk_drew ?_ | refine blk_alloc ?_ _)); exact BK101.out) hb); have n2_ := Aside0.mk (below_step (by repeat (first | (with_reducible first | exact HB.out | apply below_alloc | apply pw_below_drewN | apply below_drew1 | refine below_set ?_ GE101.out) | exact HB.out)) hb); clear BK101; clear HB; have HO108 := n0_; have BK101 := n1_; have HB := n2_; clear n0_ n1_ n2_; clear hb ho19; have hcz20_0 : w18.cell? ⟨gb101, 0, none⟩ = some (.int .i64 a0_0) := (blk_cell BK101.out 0).trans rfl; have hcz20_1 : w18.cell? ⟨gb101, 1, none⟩ = some (.int .i64 a0_1) := (blk_cell BK101.out 1).trans rfl; have hcz20_2 : w18.cell? ⟨gb101, 2, none⟩ = some (.int .i64 a0_2) := (blk_cell BK101.out 2).trans rfl; have hfz20_0 := blk_frozen BK101.out 0; have hfz20_1 := blk_frozen BK101.out 1; have hfz20_2 := blk_frozen BK101.out 2; obtain ⟨Ao21, co21, eo21⟩ := Kd.R_slice HO108.out; subst eo21) | ((with_reducible refine gate_callee (f := 18) rfl ?_); refine goesL_ (some 50) rfl rfl Try.func18 (by kernel_rfl) rfl #[.agg #[.int .i64 a0_0, .int .i64 a0_1, .int .i64 a0_2], .slice Ao21 y106.length co21, .int .i64 a0_1] rfl (by (try simp only [List.map_toArray, List.map_cons, List.map_nil]); first | done | rfl | (simp only [List.length_drop, List.length_take]; rfl)) ?_; (with_reducible refine (bridge_Damage.calls k a0_0 a0_1 a0_2 _ _ y106 a0_1 t109 t110 _ ?side1 ?side2 A12.out).mono ?_); (case side1 => repeat (first | exact (Kd.R_reads' HO108.out).2.2 | (with_reducible refine Kd.C_alloc ?_ _) | (with_reducible refine Kd.C_drewN ?_ _) | (with_reducible refine Kd.C_drew ?_))); (case side2 => exact (Kd.R_reads' HO108.out).2.1); rintro e w22 ⟨rfl, hb⟩; refine ⟨_, rfl, ?_⟩; have n0_ := Aside0.mk (Kd.R_below (by (with_reducible repeat (first | apply Kd.R_alloc | apply Kd.R_drewN | apply Kd.R_drew)); exact HO108.out) hb); have n1_ := Aside0.mk (blk_below (g := gb101) (o := .cells #[.int .i64 a0_0, .int .i64 a0_1, .int .i64 a0_2] 43 (0, 0)) (by (with_reducible repeat (first | refine blk_drewN ?_ _ | refine blk_drew ?_ | refine blk_alloc ?_ _)); exact BK101.out) hb); have n2_ := Aside0.mk (below_step (by repeat (first | (with_reducible first | exact HB.out | apply below_alloc | apply pw_below_drewN | apply below_drew1 | refine below_set ?_ GE101.out) | exact HB.out)) hb); clear HO108; clear BK101; clear HB; have HO108 := n0_; have BK101 := n1_; have HB := n2_; clear n0_ n1_ n2_; (try clear hb); (try clear hb2); (try clear hk); (try clear hi)))
      (try simp only [Act.put, List.setIfInBounds_toArray, List.set_cons_zero, List.set_cons_succ])
      go_cut [63] (fun v63 wc => ∃ (kq : Nat) (x63_12 : Bool), v63 = .bool x63_12 ∧ Aside0 (goosenecklaw06_BridgeWears.j0 kq l1 a2 a3 a4 t103 x63_12 a0_0 a0_1 a0_2 = some r) ∧ Aside0 (kq ≤ k) ∧ Aside0 (wc.heap[gb101]? = some (.cells #[.int .i64 a0_0, .int .i64 a0_1, .int .i64 a0_2] 43 (0, 0))) ∧ Aside0 (Below w.heap.size w wc))
      case first =>
        have H := HC13.out
        clear HC13
        by_cases c23 : t110 = 0
        · rw [if_pos c23] at H
          have c23b0 : (t110 == 0) = true := beq_iff_eq.mpr c23
          have c23b1 : (t110 != 0) = false := bne_eq_false_iff_eq.mpr c23
          clear c23
          (first | rw [c23b0] | (simp only [i64_w, i32_w]; rw [c23b0]) | skip)
          by_cases c24 : t109 = 1000000
          · rw [if_pos c24] at H
            have c24b0 : (t109 == 1000000) = true := beq_iff_eq.mpr c24
            have c24b1 : (t109 != 1000000) = false := bne_eq_false_iff_eq.mpr c24
            clear c24
            have H' := Aside0.mk H
            clear H
            go_wp2
            go_meet
            case rel => exact ⟨_, (((l1.length : Int) == 0)), (by first | rfl | (simp; done) | (simp [*]; done)), H', ⟨by first | omega | exact Nat.le_refl _⟩, ⟨by (with_reducible repeat (first | refine blk_drewN ?_ _ | refine blk_drew ?_ | refine blk_alloc ?_ _)); exact BK101.out⟩, ⟨by repeat (first | (with_reducible first | exact HB.out | apply below_alloc | apply pw_below_drewN | apply below_drew1 | refine below_set ?_ GE101.out) | exact HB.out)⟩⟩
          · rw [if_neg c24] at H
            have c24b0 : (t109 == 1000000) = false := beq_eq_false_iff_ne.mpr c24
            have c24b1 : (t109 != 1000000) = true := bne_iff_ne.mpr c24
            have H' := Aside0.mk H
            clear H
            go_wp2
            go_meet
            case rel => exact ⟨_, (true), (by first | rfl | (simp; done) | (simp [*]; done)), H', ⟨by first | omega | exact Nat.le_refl _⟩, ⟨by (with_reducible repeat (first | refine blk_drewN ?_ _ | refine blk_drew ?_ | refine blk_alloc ?_ _)); exact BK101.out⟩, ⟨by repeat (first | (with_reducible first | exact HB.out | apply below_alloc | apply pw_below_drewN | apply below_drew1 | refine below_set ?_ GE101.out) | exact HB.out)⟩⟩
        · rw [if_neg c23] at H
          have c23b0 : (t110 == 0) = false := beq_eq_false_iff_ne.mpr c23
          have c23b1 : (t110 != 0) = true := bne_iff_ne.mpr c23
          (first | rw [c23b0] | (simp only [i64_w, i32_w]; rw [c23b0]) | skip)
          have H' := Aside0.mk H
          clear H
          go_wp2
          go_meet
          case rel => exact ⟨_, (true), (by first | rfl | (simp; done) | (simp [*]; done)), H', ⟨by first | omega | exact Nat.le_refl _⟩, ⟨by (with_reducible repeat (first | refine blk_drewN ?_ _ | refine blk_drew ?_ | refine blk_alloc ?_ _)); exact BK101.out⟩, ⟨by repeat (first | (with_reducible first | exact HB.out | apply below_alloc | apply pw_below_drewN | apply below_drew1 | refine below_set ?_ GE101.out) | exact HB.out)⟩⟩
      case rest =>
        clear HC13
        try clear c1
        try clear c2
        try clear p2
        try clear c5
        try clear c6
        try clear c6b0
        try clear c6b1
        try clear c11
        try clear c11b0
        try clear c11b1
        try clear c12
        try clear c18
        try clear c23
        try clear c23b0
        try clear c23b1
        try clear c24
        try clear c24b0
        try clear c24b1
        try clear hcz15_0
        try clear hcz15_1
        try clear hcz15_2
        try clear hcz17_0
        try clear hcz17_1
        try clear hcz17_2
        try clear hcz20_0
        try clear hcz20_1
        try clear hcz20_2
        try clear hfz15_0
        try clear hfz15_1
        try clear hfz15_2
        try clear hfz17_0
        try clear hfz17_1
        try clear hfz17_2
        try clear hfz20_0
        try clear hfz20_1
        try clear hfz20_2
        obtain ⟨kq, x63_12, rfl, HA, HJ12, BK101, HB⟩ := hcut
        cases kq with
        | zero => exact absurd HA.out (by simp [goosenecklaw06_BridgeWears.j0])
        | succ kj12 =>
          have H := HA.out
          clear HA
          simp only [goosenecklaw06_BridgeWears.j0] at H
          by_cases c25 : x63_12 = true
          · subst c25
            have H1 : (some false) = some r := by rw [if_pos rfl] at H; exact H
            clear H
            have H := H1
            clear H1
            rw [hr_.out] at H
            exact absurd H (by simp)
          · replace c25 := Bool.eq_false_iff.mpr c25
            subst c25
            have H1 : ((bridge_Damage.f kj12 a0_0 a0_1 a0_2 l1 (wrap64 (2 * a2))).bind fun bt111 => (if bt111.2 = 0 then (if bt111.1 < t103 then (goosenecklaw06_BridgeWears.j1 kj12 l1 a2 a3 a4 t103 true a0_0 a0_1 a0_2) else (goosenecklaw06_BridgeWears.j1 kj12 l1 a2 a3 a4 t103 (decide (bt111.1 > (wrap64 (2 * t103)))) a0_0 a0_1 a0_2)) else (goosenecklaw06_BridgeWears.j1 kj12 l1 a2 a3 a4 t103 false a0_0 a0_1 a0_2))) = some r := by rw [if_neg (show ¬ (false = true) by decide)] at H; exact H
            clear H
            have H := H1
            clear H1
            replace H := Option.bind_eq_some_iff.mp H
            obtain ⟨⟨t111, t112⟩, A260, H⟩ := H
            replace H : (if t112 = 0 then (if t111 < t103 then (goosenecklaw06_BridgeWears.j1 kj12 l1 a2 a3 a4 t103 true a0_0 a0_1 a0_2) else (goosenecklaw06_BridgeWears.j1 kj12 l1 a2 a3 a4 t103 (decide (t111 > (wrap64 (2 * t103)))) a0_0 a0_1 a0_2)) else (goosenecklaw06_BridgeWears.j1 kj12 l1 a2 a3 a4 t103 false a0_0 a0_1 a0_2)) = some r := H
            have A26 := Aside0.mk A260
            clear A260
            have HC27 := Aside0.mk H
            clear H
            have hcz28_0 : wc.cell? ⟨gb101, 0, none⟩ = some (.int .i64 a0_0) := (blk_cell BK101.out 0).trans rfl
            have hcz28_1 : wc.cell? ⟨gb101, 1, none⟩ = some (.int .i64 a0_1) := (blk_cell BK101.out 1).trans rfl
            have hcz28_2 : wc.cell? ⟨gb101, 2, none⟩ = some (.int .i64 a0_2) := (blk_cell BK101.out 2).trans rfl
            have hfz28_0 := blk_frozen BK101.out 0
            have hfz28_1 := blk_frozen BK101.out 1
            have hfz28_2 := blk_frozen BK101.out 2
            go_upto_region 10 with (first | ((with_reducible refine gate_callee (f := 18) rfl ?_); refine goesL_ (some 69) rfl rfl Try.func18 (by kernel_rfl) rfl #[.agg #[.int .i64 a0_0, .int .i64 a0_1, .int .i64 a0_2], .slice A1 l1.length c1, .int .i64 (wrap64 (2 * a2))] rfl (by (try simp only [List.map_toArray, List.map_cons, List.map_nil]); first | done | rfl | (simp only [List.length_drop, List.length_take]; rfl)) ?_; (with_reducible refine (bridge_Damage.calls kj12 a0_0 a0_1 a0_2 _ _ l1 (wrap64 (2 * a2)) t111 t112 _ ?side1 ?side2 A26.out).mono ?_); (case side1 => repeat (first | exact (Kd.C_below HR1.out HB.out) | (with_reducible refine Kd.C_alloc ?_ _) | (with_reducible refine Kd.C_drewN ?_ _) | (with_reducible refine Kd.C_drew ?_))); (case side2 => exact HC1.out); rintro e w29 ⟨rfl, hb⟩; refine ⟨_, rfl, ?_⟩; have n0_ := Aside0.mk (blk_below (g := gb101) (o := .cells #[.int .i64 a0_0, .int .i64 a0_1, .int .i64 a0_2] 43 (0, 0)) (by (with_reducible repeat (first | refine blk_drewN ?_ _ | refine blk_drew ?_ | refine blk_alloc ?_ _)); exact BK101.out) hb); have n1_ := Aside0.mk (below_step (by repeat (first | (with_reducible first | exact HB.out | apply below_alloc | apply pw_below_drewN | apply below_drew1 | refine below_set ?_ GE101.out) | exact HB.out)) hb); clear BK101; clear HB; have BK101 := n0_; have HB := n1_; clear n0_ n1_; (try clear hb); (try clear hb2); (try clear hk); (try clear hi)))
            (try simp only [Act.put, List.setIfInBounds_toArray, List.set_cons_zero, List.set_cons_succ])
            go_cut [84] (fun v84 wc => ∃ (kq : Nat) (x84_26 : Bool), v84 = .bool x84_26 ∧ Aside0 (goosenecklaw06_BridgeWears.j1 kq l1 a2 a3 a4 t103 x84_26 a0_0 a0_1 a0_2 = some r) ∧ Aside0 (kq ≤ kj12) ∧ Aside0 (wc.heap[gb101]? = some (.cells #[.int .i64 a0_0, .int .i64 a0_1, .int .i64 a0_2] 43 (0, 0))) ∧ Aside0 (Below w.heap.size w wc))
            case first =>
              have H := HC27.out
              clear HC27
              by_cases c30 : t112 = 0
              · rw [if_pos c30] at H
                have c30b0 : (t112 == 0) = true := beq_iff_eq.mpr c30
                have c30b1 : (t112 != 0) = false := bne_eq_false_iff_eq.mpr c30
                clear c30
                (first | rw [c30b0] | (simp only [i64_w, i32_w]; rw [c30b0]) | skip)
                by_cases c31 : t111 < t103
                · rw [if_pos c31] at H
                  have c31b0 : decide (t111 < t103) = true := decide_eq_true c31
                  clear c31
                  have H' := Aside0.mk H
                  clear H
                  go_wp2
                  go_meet
                  case rel => exact ⟨_, (true), (by first | rfl | (simp; done) | (simp [*]; done)), H', ⟨by have := HJ12.out; first | omega | exact Nat.le_refl _⟩, ⟨by (with_reducible repeat (first | refine blk_drewN ?_ _ | refine blk_drew ?_ | refine blk_alloc ?_ _)); exact BK101.out⟩, ⟨by repeat (first | (with_reducible first | exact HB.out | apply below_alloc | apply pw_below_drewN | apply below_drew1 | refine below_set ?_ GE101.out) | exact HB.out)⟩⟩
                · rw [if_neg c31] at H
                  have c31b0 : decide (t111 < t103) = false := decide_eq_false c31
                  clear c31
                  have H' := Aside0.mk H
                  clear H
                  go_wp2
                  go_meet
                  case rel => exact ⟨_, (decide (t111 > (wrap64 (2 * t103)))), (by first | rfl | (simp; done) | (simp [*]; done)), H', ⟨by have := HJ12.out; first | omega | exact Nat.le_refl _⟩, ⟨by (with_reducible repeat (first | refine blk_drewN ?_ _ | refine blk_drew ?_ | refine blk_alloc ?_ _)); exact BK101.out⟩, ⟨by repeat (first | (with_reducible first | exact HB.out | apply below_alloc | apply pw_below_drewN | apply below_drew1 | refine below_set ?_ GE101.out) | exact HB.out)⟩⟩
              · rw [if_neg c30] at H
                have c30b0 : (t112 == 0) = false := beq_eq_false_iff_ne.mpr c30
                have c30b1 : (t112 != 0) = true := bne_iff_ne.mpr c30
                (first | rw [c30b0] | (simp only [i64_w, i32_w]; rw [c30b0]) | skip)
                have H' := Aside0.mk H
                clear H
                go_wp2
                go_meet
                case rel => exact ⟨_, (false), (by first | rfl | (simp; done) | (simp [*]; done)), H', ⟨by have := HJ12.out; first | omega | exact Nat.le_refl _⟩, ⟨by (with_reducible repeat (first | refine blk_drewN ?_ _ | refine blk_drew ?_ | refine blk_alloc ?_ _)); exact BK101.out⟩, ⟨by repeat (first | (with_reducible first | exact HB.out | apply below_alloc | apply pw_below_drewN | apply below_drew1 | refine below_set ?_ GE101.out) | exact HB.out)⟩⟩
            case rest =>
              clear HC27
              try clear c1
              try clear c2
              try clear p2
              try clear c3
              try clear c5
              try clear c6
              try clear c6b0
              try clear c6b1
              try clear p6
              try clear c11
              try clear c11b0
              try clear c11b1
              try clear c12
              try clear c18
              try clear c23
              try clear c23b0
              try clear c23b1
              try clear c24
              try clear c24b0
              try clear c24b1
              try clear c25
              try clear c30
              try clear c30b0
              try clear c30b1
              try clear c31
              try clear c31b0
              try clear hcz15_0
              try clear hcz15_1
              try clear hcz15_2
              try clear hcz17_0
              try clear hcz17_1
              try clear hcz17_2
              try clear hcz20_0
              try clear hcz20_1
              try clear hcz20_2
              try clear hcz28_0
              try clear hcz28_1
              try clear hcz28_2
              try clear hfz15_0
              try clear hfz15_1
              try clear hfz15_2
              try clear hfz17_0
              try clear hfz17_1
              try clear hfz17_2
              try clear hfz20_0
              try clear hfz20_1
              try clear hfz20_2
              try clear hfz28_0
              try clear hfz28_1
              try clear hfz28_2
              try clear p2
              obtain ⟨kq, x84_26, rfl, HA, HJ26, BK101, HB⟩ := hcut
              cases kq with
              | zero => exact absurd HA.out (by simp [goosenecklaw06_BridgeWears.j1])
              | succ kj26 =>
                have H := HA.out
                clear HA
                simp only [goosenecklaw06_BridgeWears.j1] at H
                by_cases c32 : x84_26 = true
                · subst c32
                  have H1 : (some false) = some r := by rw [if_pos rfl] at H; exact H
                  clear H
                  have H := H1
                  clear H1
                  rw [hr_.out] at H
                  exact absurd H (by simp)
                · replace c32 := Bool.eq_false_iff.mpr c32
                  subst c32
                  have H1 : ((some (([] : List (S35)) : List (S35))).bind fun y113 => (if y113.length + l1.length < 8796093022208 then ((some (y113 ++ l1 : List (S35))).bind fun y116 => (if (y116.length : Int) = 0 then (none) else (if 0 ≤ (Int.tmod (wrap64 (a4)) (y116.length : Int)) then (if (Int.tmod (wrap64 (a4)) (y116.length : Int)) < (y116.length : Int) then ((bridge_Damage.f kj26 a0_0 a0_1 a0_2 (y116.set ((Int.tmod (wrap64 (a4)) (y116.length : Int)) : Int).toNat (⟨(rd_T35 y116 (Int.tmod (wrap64 (a4)) (y116.length : Int))).f0, mn 1048576 (wrap64 (((rd_T35 y116 (Int.tmod (wrap64 (a4)) (y116.length : Int))).f1) + (wrap64 (a4))))⟩ : S35)) a2).bind fun bt121 => (if bt121.2 = 0 then (goosenecklaw06_BridgeWears.j2 kj26 l1 a3 (decide (bt121.1 < t103)) a0_0 a0_1 a0_2) else (goosenecklaw06_BridgeWears.j2 kj26 l1 a3 false a0_0 a0_1 a0_2))) else (none)) else (none)))) else (none))) = some r := by rw [if_neg (show ¬ (false = true) by decide)] at H; exact H
                  clear H
                  have H := H1
                  clear H1
                  obtain ⟨y113, hy113⟩ : ∃ y_ : List (S35), y_ = (([] : List (S35))) := ⟨_, rfl⟩
                  replace H : (if y113.length + l1.length < 8796093022208 then ((some (y113 ++ l1 : List (S35))).bind fun y116 => (if (y116.length : Int) = 0 then (none) else (if 0 ≤ (Int.tmod (wrap64 (a4)) (y116.length : Int)) then (if (Int.tmod (wrap64 (a4)) (y116.length : Int)) < (y116.length : Int) then ((bridge_Damage.f kj26 a0_0 a0_1 a0_2 (y116.set ((Int.tmod (wrap64 (a4)) (y116.length : Int)) : Int).toNat (⟨(rd_T35 y116 (Int.tmod (wrap64 (a4)) (y116.length : Int))).f0, mn 1048576 (wrap64 (((rd_T35 y116 (Int.tmod (wrap64 (a4)) (y116.length : Int))).f1) + (wrap64 (a4))))⟩ : S35)) a2).bind fun bt121 => (if bt121.2 = 0 then (goosenecklaw06_BridgeWears.j2 kj26 l1 a3 (decide (bt121.1 < t103)) a0_0 a0_1 a0_2) else (goosenecklaw06_BridgeWears.j2 kj26 l1 a3 false a0_0 a0_1 a0_2))) else (none)) else (none)))) else (none)) = some r := by first | (rw [hy113]; with_reducible exact H) | (have H2_ := (Option.bind_some _ _).symm.trans H; rw [hy113]; with_reducible exact H2_) | (have H2_ := (Option.bind_some _ _).symm.trans H; with_reducible exact H2_) | with_reducible exact H | (rw [hy113]; exact H) | exact H
                  have Ny113 := Aside0.mk hy113
                  clear hy113
                  by_cases c33 : y113.length + l1.length < 8796093022208
                  · rw [if_pos c33] at H
                    have LMc33 := Aside0.mk c33
                    clear c33
                    obtain ⟨y116, hy116⟩ : ∃ y_ : List (S35), y_ = (y113 ++ l1) := ⟨_, rfl⟩
                    replace H : (if (y116.length : Int) = 0 then (none) else (if 0 ≤ (Int.tmod (wrap64 (a4)) (y116.length : Int)) then (if (Int.tmod (wrap64 (a4)) (y116.length : Int)) < (y116.length : Int) then ((bridge_Damage.f kj26 a0_0 a0_1 a0_2 (y116.set ((Int.tmod (wrap64 (a4)) (y116.length : Int)) : Int).toNat (⟨(rd_T35 y116 (Int.tmod (wrap64 (a4)) (y116.length : Int))).f0, mn 1048576 (wrap64 (((rd_T35 y116 (Int.tmod (wrap64 (a4)) (y116.length : Int))).f1) + (wrap64 (a4))))⟩ : S35)) a2).bind fun bt121 => (if bt121.2 = 0 then (goosenecklaw06_BridgeWears.j2 kj26 l1 a3 (decide (bt121.1 < t103)) a0_0 a0_1 a0_2) else (goosenecklaw06_BridgeWears.j2 kj26 l1 a3 false a0_0 a0_1 a0_2))) else (none)) else (none))) = some r := by first | (rw [hy116]; with_reducible exact H) | (have H2_ := (Option.bind_some _ _).symm.trans H; rw [hy116]; with_reducible exact H2_) | (have H2_ := (Option.bind_some _ _).symm.trans H; with_reducible exact H2_) | with_reducible exact H | (rw [hy116]; exact H) | exact H
                    have Ny116 := Aside0.mk hy116
                    clear hy116
                    by_cases c34 : (y116.length : Int) = 0
                    · rw [if_pos c34] at H
                      exact absurd H (by simp)
                    · rw [if_neg c34] at H
                      have c34b0 : ((y116.length : Int) == 0) = false := beq_eq_false_iff_ne.mpr c34
                      have c34b1 : ((y116.length : Int) != 0) = true := bne_iff_ne.mpr c34
                      have c34b2 : ¬ (y116 = []) := fun h_ => c34 (by rw [h_]; rfl)
                      obtain ⟨ji35, hji35⟩ : ∃ j_ : Int, (Int.tmod (wrap64 (a4)) (y116.length : Int)) = j_ := ⟨_, rfl⟩
                      replace H : (if 0 ≤ (ji35) then (if (ji35) < (y116.length : Int) then ((bridge_Damage.f kj26 a0_0 a0_1 a0_2 (y116.set ((ji35) : Int).toNat (⟨(rd_T35 y116 (ji35)).f0, mn 1048576 (wrap64 (((rd_T35 y116 (ji35)).f1) + (wrap64 (a4))))⟩ : S35)) a2).bind fun bt121 => (if bt121.2 = 0 then (goosenecklaw06_BridgeWears.j2 kj26 l1 a3 (decide (bt121.1 < t103)) a0_0 a0_1 a0_2) else (goosenecklaw06_BridgeWears.j2 kj26 l1 a3 false a0_0 a0_1 a0_2))) else (none)) else (none)) = some r := by first | (rw [hji35] at H; exact H) | (simp only [hji35] at H ⊢; exact H)
                      by_cases c36 : 0 ≤ (ji35)
                      · rw [if_pos c36] at H
                        have c36b0 : decide (0 ≤ (ji35)) = true := decide_eq_true c36
                        clear c36
                        by_cases c37 : (ji35) < (y116.length : Int)
                        · rw [if_pos c37] at H
                          have c37b0 : decide ((ji35) < (y116.length : Int)) = true := decide_eq_true c37
                          clear c37
                          obtain ⟨ji38, hji38⟩ : ∃ j_ : Int, (mn 1048576 (wrap64 (((rd_T35 y116 (ji35)).f1) + (wrap64 (a4))))) = j_ := ⟨_, rfl⟩
                          replace H : ((bridge_Damage.f kj26 a0_0 a0_1 a0_2 (y116.set ((ji35) : Int).toNat (⟨(rd_T35 y116 (ji35)).f0, ji38⟩ : S35)) a2).bind fun bt121 => (if bt121.2 = 0 then (goosenecklaw06_BridgeWears.j2 kj26 l1 a3 (decide (bt121.1 < t103)) a0_0 a0_1 a0_2) else (goosenecklaw06_BridgeWears.j2 kj26 l1 a3 false a0_0 a0_1 a0_2))) = some r := by first | (rw [hji38] at H; exact H) | (simp only [hji38] at H ⊢; exact H)
                          have hji38_ : (if (wrap64 (((rd_T35 y116 (ji35)).f1) + (wrap64 (a4)))) < 1048576 then (wrap64 (((rd_T35 y116 (ji35)).f1) + (wrap64 (a4)))) else 1048576) = ji38 := hji38
                          obtain ⟨y120, hy120⟩ : ∃ y_ : List (S35), y_ = (y116.set ((ji35) : Int).toNat (⟨(rd_T35 y116 (ji35)).f0, ji38⟩ : S35)) := ⟨_, rfl⟩
                          replace H : ((bridge_Damage.f kj26 a0_0 a0_1 a0_2 y120 a2).bind fun bt121 => (if bt121.2 = 0 then (goosenecklaw06_BridgeWears.j2 kj26 l1 a3 (decide (bt121.1 < t103)) a0_0 a0_1 a0_2) else (goosenecklaw06_BridgeWears.j2 kj26 l1 a3 false a0_0 a0_1 a0_2))) = some r := by first | (rw [hy120]; with_reducible exact H) | (have H2_ := (Option.bind_some _ _).symm.trans H; rw [hy120]; with_reducible exact H2_) | (have H2_ := (Option.bind_some _ _).symm.trans H; with_reducible exact H2_) | with_reducible exact H | (rw [hy120]; exact H) | exact H
                          have Ny120 := Aside0.mk hy120
                          clear hy120
                          replace H := Option.bind_eq_some_iff.mp H
                          obtain ⟨⟨t121, t122⟩, A400, H⟩ := H
                          replace H : (if t122 = 0 then (goosenecklaw06_BridgeWears.j2 kj26 l1 a3 (decide (t121 < t103)) a0_0 a0_1 a0_2) else (goosenecklaw06_BridgeWears.j2 kj26 l1 a3 false a0_0 a0_1 a0_2)) = some r := H
                          have A40 := Aside0.mk A400
                          clear A400
                          have HC41 := Aside0.mk H
                          clear H
                          go_upto_region 16 with (first | ((with_reducible refine gate_dst (N := 85) rfl ?_); (try (refine gate_guard (by rfl) ?_; dsimp only)); refine Kd.R_lit k35 _ 35 ?hg (N := 85) ?hd (xs := ([] : List (S35))) (inner := []) (ok := fun _ => True) (okp := fun _ => True) ?hr ?hp (fun _ hk => hk) trivial (Below.refl _ _) (Nat.le_refl _) (by simp) ?_; (case hd => rfl); (case hg => rfl); (case hr => first | (go_simp; done) | (go_simp; rfl)); (case hp => exact (Reps.none _ _)); intro v114 w42 ho43 hb hg_ hnew_; clear hg_ hnew_; (first | rw [← Ny113.out] at ho43 | (simp only [Int.reduceToNat] at ho43; rw [← Ny113.out] at ho43)); have n0_ := Aside0.mk (Kd.R_lower ho43 (below_size (by repeat (first | (with_reducible first | exact HB.out | apply below_alloc | apply pw_below_drewN | apply below_drew1 | refine below_set ?_ GE101.out) | exact HB.out)))); have n1_ := Aside0.mk (blk_below (g := gb101) (o := .cells #[.int .i64 a0_0, .int .i64 a0_1, .int .i64 a0_2] 43 (0, 0)) (by (with_reducible repeat (first | refine blk_drewN ?_ _ | refine blk_drew ?_ | refine blk_alloc ?_ _)); exact BK101.out) hb); have n2_ := Aside0.mk (below_step (by repeat (first | (with_reducible first | exact HB.out | apply below_alloc | apply pw_below_drewN | apply below_drew1 | refine below_set ?_ GE101.out) | exact HB.out)) hb); clear BK101; clear HB; have HO115 := n0_; have BK101 := n1_; have HB := n2_; clear n0_ n1_ n2_; clear hb ho43) | ((with_reducible refine gate_builtin (b := .append) (xs := #[.tmp 85, .tmp 86]) rfl ?_); (try (refine gate_guard (by rfl) ?_; dsimp only)); at_builtin; refine Kd.R_append_rows k35 (w0 := w) w.heap.size rfl (.tmp 85) (.tmp 86) 25 35 (.agg #[(.int .i64 0), (.int .i64 0)]) 16 rfl Try.underlying25 info35 rfl (by decide) (by omega) v114 y113 l1 _ _ _ (fun _ => True) (fun _ => False) rfl rfl ?aO ?aR (fun _ _ h => h) (fun _ h => h.elim) ?aF ?aB ?aS ?aL ?_; (case aR => repeat (first | exact (Kd.C_below HR1.out HB.out) | (with_reducible refine Kd.C_alloc ?_ _) | (with_reducible refine Kd.C_drewN ?_ _) | (with_reducible refine Kd.C_drew ?_))); (case aB => exact (by repeat (first | (with_reducible first | exact HB.out | apply below_alloc | apply pw_below_drewN | apply below_drew1 | refine below_set ?_ GE101.out) | exact HB.out))); (case aF => exact (fun _ _ => trivial)); (case aO => exact (by (with_reducible repeat (first | apply Kd.R_alloc | apply Kd.R_drewN | apply Kd.R_drew)); exact HO115.out)); (case aS => exact (below_size (by repeat (first | (with_reducible first | exact HB.out | apply below_alloc | apply pw_below_drewN | apply below_drew1 | refine below_set ?_ GE101.out) | exact HB.out)))); (case aL => have := LMc33.out; omega); intro v117 w44 ho hb hg hat; rw [← Ny116.out] at ho; have n0_ := Aside0.mk (blk_grown (g := gb101) (o := .cells #[.int .i64 a0_0, .int .i64 a0_1, .int .i64 a0_2] 43 (0, 0)) (by (with_reducible repeat (first | refine blk_drewN ?_ _ | refine blk_drew ?_ | refine blk_alloc ?_ _)); exact BK101.out) hg (Kd.R_ne HO115.out BK101.out (by decide))); have n1_ := Aside0.mk (hb); have n2_ := Aside0.mk (ho); clear BK101; clear HB; clear HO115; have BK101 := n0_; have HB := n1_; have HO118 := n2_; clear n0_ n1_ n2_; clear ho hb hg hat; obtain ⟨Ao45, co45, eo45⟩ := Kd.R_slice HO118.out; subst eo45; have p119 : 0 ≤ ((ji35) : Int) := of_decide_eq_true (by first | (with_reducible assumption) | assumption); have q119 : (ji35) < (y116.length : Int) := of_decide_eq_true (by first | (with_reducible assumption) | assumption); obtain ⟨ad119, e119, hx119_0, hx119_1⟩ := at_T35 (Kd.R_reads' HO118.out).2.2 (ji35) p119 q119; cases e119; replace p119 := eq_true p119; replace q119 := eq_true q119; have p39 : 0 ≤ ((ji35) : Int) := of_decide_eq_true (by first | (with_reducible assumption) | assumption); have q39 : ((ji35) : Int) < ((y116.length : Int) : Int) := of_decide_eq_true (by first | (with_reducible assumption) | assumption); obtain ⟨go39, co39, eo39, gb39, gl39, cl39, HG39⟩ := Kd.R_form HO118.out (by omega); (first | cases eo39 | (injection eo39 with ea_ en_ ec_; (first | subst ea_ | (injection ea_ with ea_; subst ea_)); subst ec_; clear en_)); have GB39 := Aside0.mk gb39; have GG39 := Aside0.mk HG39; clear gb39 gl39 HG39; (first | simp only [add_plain] at hx119_0 | skip); (first | simp only [add_plain] at hx119_1 | skip); obtain ⟨ce39, hcl39, hM39, hcc39, hfr39⟩ := Kd.R_elem HO118.out z35 ((ji35) : Int) p39 q39; obtain rfl := k35_openM hM39; have hx39_0 : w44.cell? ⟨go39, ((ji35) : Int).toNat * 2, none⟩ = some (.int .i64 ((rd_T35 y116 (ji35)).f0)) := hcc39 0 _ rfl; have hx39_1 : w44.cell? ⟨go39, ((ji35) : Int).toNat * 2 + 1, none⟩ = some (.int .i64 ((rd_T35 y116 (ji35)).f1)) := hcc39 1 _ rfl; have hf39_0 : w44.frozen? ⟨go39, ((ji35) : Int).toNat * 2, none⟩ = false := hfr39 0; have hf39_1 : w44.frozen? ⟨go39, ((ji35) : Int).toNat * 2 + 1, none⟩ = false := hfr39 1; clear hcl39 hcc39 hfr39 hM39; replace p39 := eq_true p39; replace q39 := eq_true q39; have HX46 := Aside0.mk (show Kd.R k35 35 w44 w.heap.size (fun _ => True) (.slice (some ⟨go39, 0, none⟩) y116.length co45) y116 from (by (with_reducible repeat (first | apply Kd.R_alloc | apply Kd.R_drewN | apply Kd.R_drew)); exact HO118.out)); obtain ⟨ce46, hcl46, hM46, hcc46, hfr46⟩ := Kd.R_elem HX46.out z35 ((ji35) : Int) (of_decide_eq_true (by first | (with_reducible assumption) | assumption)) (by have h_ : ((ji35) : Int) < ((y116.length : Int) : Int) := of_decide_eq_true (by first | (with_reducible assumption) | assumption); first | exact h_ | (have e_ := (Kd.R_reads' HO118.out).1; omega) | simpa using h_); obtain rfl := k35_openM hM46; have HP46 := Kd.R_seg HX46.out ((ji35) : Int) (of_decide_eq_true (by first | (with_reducible assumption) | assumption)) (by have h_ : ((ji35) : Int) < ((y116.length : Int) : Int) := of_decide_eq_true (by first | (with_reducible assumption) | assumption); first | exact h_ | (have e_ := (Kd.R_reads' HO118.out).1; omega) | simpa using h_) (seg := [.int .i64 ji38]) (j := 1) hcl46 hcc46 (show 2 ≤ 2 from by decide) (x' := (⟨(rd_T35 y116 (ji35)).f0, ji38⟩ : S35)) (k35_mkM _ _ _ (⟨(rd_T35 y116 (ji35)).f0, ji38⟩ : S35) ) (fun _ hk => hk); have hx46_1 := hcc46 1 _ rfl; (try simp only [show (k35).sz = 2 from rfl, Nat.mul_one, Nat.add_zero] at hx46_1); have hf46_1 := hfr46 1; (try simp only [show (k35).sz = 2 from rfl, Nat.mul_one, Nat.add_zero] at hf46_1); clear hcl46 hcc46 hfr46 hM46) | ((with_reducible refine gate_store (t := 2) (p := 105) rfl ?_); refine store_event (t := 2) (p := 105) (v := ?vo_w47) (w1 := (w44.setCell ⟨go39, ((ji35) : Int).toNat * 2 + 1, none⟩ (.int .i64 ji38))) ?hg ?ho ?hn ?hr ?_; (case ho => rfl); (case hg => rfl); (case hn => rfl); (case hr => first | (go_simp; done) | (go_simp; rfl)); intro w47 hw; have hg : w44.grownBy w47 (some go39) := (by rw [hw]; exact HP46.2); have hp_ : Kd.R k35 35 w47 w.heap.size (fun _ => True) (.slice (some ⟨go39, 0, none⟩) y116.length co45) y120 := (by rw [hw, Ny120.out]; exact HP46.1); clear HP46; have n0_ := Aside0.mk (blk_grown (g := gb101) (o := .cells #[.int .i64 a0_0, .int .i64 a0_1, .int .i64 a0_2] 43 (0, 0)) (by (with_reducible repeat (first | refine blk_drewN ?_ _ | refine blk_drew ?_ | refine blk_alloc ?_ _)); exact BK101.out) hg (Kd.R_ne HO118.out BK101.out (by decide))); have n1_ := Aside0.mk (hp_); have n2_ := Aside0.mk ((by rw [hw]; exact below_set (HB.out) GB39.out : Below w.heap.size w w47)); clear BK101; clear HO118; clear HB; have BK101 := n0_; have HO118 := n1_; have HB := n2_; clear n0_ n1_ n2_; clear hg hw hp_; have hcz48_0 : w47.cell? ⟨gb101, 0, none⟩ = some (.int .i64 a0_0) := (blk_cell BK101.out 0).trans rfl; have hcz48_1 : w47.cell? ⟨gb101, 1, none⟩ = some (.int .i64 a0_1) := (blk_cell BK101.out 1).trans rfl; have hcz48_2 : w47.cell? ⟨gb101, 2, none⟩ = some (.int .i64 a0_2) := (blk_cell BK101.out 2).trans rfl; have hfz48_0 := blk_frozen BK101.out 0; have hfz48_1 := blk_frozen BK101.out 1; have hfz48_2 := blk_frozen BK101.out 2) | ((with_reducible refine gate_callee (f := 18) rfl ?_); refine goesL_ (some 110) rfl rfl Try.func18 (by kernel_rfl) rfl #[.agg #[.int .i64 a0_0, .int .i64 a0_1, .int .i64 a0_2], .slice (some ⟨go39, 0, none⟩) y120.length co45, .int .i64 a2] rfl (by (try simp only [List.map_toArray, List.map_cons, List.map_nil]); first | done | (rw [show y120.length = y116.length from (Kd.R_reads' HO118.out).1.symm] <;> rfl) | rfl | (simp only [List.length_drop, List.length_take]; rfl)) ?_; (with_reducible refine (bridge_Damage.calls kj26 a0_0 a0_1 a0_2 _ _ y120 a2 t121 t122 _ ?side1 ?side2 A40.out).mono ?_); (case side1 => repeat (first | exact (Kd.R_reads' HO118.out).2.2 | (with_reducible refine Kd.C_alloc ?_ _) | (with_reducible refine Kd.C_drewN ?_ _) | (with_reducible refine Kd.C_drew ?_))); (case side2 => rw [show y120.length = y116.length from (Kd.R_reads' HO118.out).1.symm]; exact (Kd.R_reads' HO118.out).2.1); rintro e w49 ⟨rfl, hb⟩; refine ⟨_, rfl, ?_⟩; have n0_ := Aside0.mk (Kd.R_below (by (with_reducible repeat (first | apply Kd.R_alloc | apply Kd.R_drewN | apply Kd.R_drew)); exact HO118.out) hb); have n1_ := Aside0.mk (blk_below (g := gb101) (o := .cells #[.int .i64 a0_0, .int .i64 a0_1, .int .i64 a0_2] 43 (0, 0)) (by (with_reducible repeat (first | refine blk_drewN ?_ _ | refine blk_drew ?_ | refine blk_alloc ?_ _)); exact BK101.out) hb); have n2_ := Aside0.mk (below_step (by repeat (first | (with_reducible first | exact HB.out | apply below_alloc | apply pw_below_drewN | apply below_drew1 | refine below_set ?_ GE101.out) | exact HB.out)) hb); clear HO118; clear BK101; clear HB; have HO118 := n0_; have BK101 := n1_; have HB := n2_; clear n0_ n1_ n2_; (try clear hb); (try clear hb2); (try clear hk); (try clear hi)))
                          (try simp only [Act.put, List.setIfInBounds_toArray, List.set_cons_zero, List.set_cons_succ])
                          go_cut [119] (fun v119 wc => ∃ (kq : Nat) (x119_40 : Bool), v119 = .bool x119_40 ∧ Aside0 (goosenecklaw06_BridgeWears.j2 kq l1 a3 x119_40 a0_0 a0_1 a0_2 = some r) ∧ Aside0 (kq ≤ kj26) ∧ Aside0 (wc.heap[gb101]? = some (.cells #[.int .i64 a0_0, .int .i64 a0_1, .int .i64 a0_2] 43 (0, 0))) ∧ Aside0 (Below w.heap.size w wc))
                          case first =>
                            have H := HC41.out
                            clear HC41
                            by_cases c50 : t122 = 0
                            · rw [if_pos c50] at H
                              have c50b0 : (t122 == 0) = true := beq_iff_eq.mpr c50
                              have c50b1 : (t122 != 0) = false := bne_eq_false_iff_eq.mpr c50
                              clear c50
                              (first | rw [c50b0] | (simp only [i64_w, i32_w]; rw [c50b0]) | skip)
                              have H' := Aside0.mk H
                              clear H
                              go_wp2
                              go_meet
                              case rel => exact ⟨_, (decide (t121 < t103)), (by first | rfl | (simp; done) | (simp [*]; done)), H', ⟨by have := HJ12.out; have := HJ26.out; first | omega | exact Nat.le_refl _⟩, ⟨by (with_reducible repeat (first | refine blk_drewN ?_ _ | refine blk_drew ?_ | refine blk_alloc ?_ _)); exact BK101.out⟩, ⟨by repeat (first | (with_reducible first | exact HB.out | apply below_alloc | apply pw_below_drewN | apply below_drew1 | refine below_set ?_ GE101.out) | exact HB.out)⟩⟩
                            · rw [if_neg c50] at H
                              have c50b0 : (t122 == 0) = false := beq_eq_false_iff_ne.mpr c50
                              have c50b1 : (t122 != 0) = true := bne_iff_ne.mpr c50
                              (first | rw [c50b0] | (simp only [i64_w, i32_w]; rw [c50b0]) | skip)
                              have H' := Aside0.mk H
                              clear H
                              go_wp2
                              go_meet
                              case rel => exact ⟨_, (false), (by first | rfl | (simp; done) | (simp [*]; done)), H', ⟨by have := HJ12.out; have := HJ26.out; first | omega | exact Nat.le_refl _⟩, ⟨by (with_reducible repeat (first | refine blk_drewN ?_ _ | refine blk_drew ?_ | refine blk_alloc ?_ _)); exact BK101.out⟩, ⟨by repeat (first | (with_reducible first | exact HB.out | apply below_alloc | apply pw_below_drewN | apply below_drew1 | refine below_set ?_ GE101.out) | exact HB.out)⟩⟩
                          case rest =>
                            clear HC41
                            try clear c1
                            try clear p1
                            try clear q1
                            try clear hx1
                            try clear c2
                            try clear p2
                            try clear c3
                            try clear p3
                            try clear q3
                            try clear hx3
                            try clear c4
                            try clear hx4
                            try clear c5
                            try clear c6
                            try clear c6b0
                            try clear c6b1
                            try clear p6
                            try clear c11
                            try clear c11b0
                            try clear c11b1
                            try clear p11
                            try clear q11
                            try clear hx11
                            try clear c12
                            try clear c18
                            try clear c23
                            try clear c23b0
                            try clear c23b1
                            try clear c24
                            try clear c24b0
                            try clear c24b1
                            try clear c25
                            try clear c30
                            try clear c30b0
                            try clear c30b1
                            try clear c31
                            try clear c31b0
                            try clear c32
                            try clear c33
                            try clear c34
                            try clear c34b0
                            try clear c34b1
                            try clear c34b2
                            try clear c36
                            try clear c36b0
                            try clear c37
                            try clear c37b0
                            try clear c39
                            try clear p39
                            try clear q39
                            try clear hx39
                            try clear hf39
                            try clear c46
                            try clear hx46
                            try clear hf46
                            try clear c50
                            try clear c50b0
                            try clear c50b1
                            try clear hcz15_0
                            try clear hcz15_1
                            try clear hcz15_2
                            try clear hcz17_0
                            try clear hcz17_1
                            try clear hcz17_2
                            try clear hcz20_0
                            try clear hcz20_1
                            try clear hcz20_2
                            try clear hcz28_0
                            try clear hcz28_1
                            try clear hcz28_2
                            try clear hcz48_0
                            try clear hcz48_1
                            try clear hcz48_2
                            try clear hfz15_0
                            try clear hfz15_1
                            try clear hfz15_2
                            try clear hfz17_0
                            try clear hfz17_1
                            try clear hfz17_2
                            try clear hfz20_0
                            try clear hfz20_1
                            try clear hfz20_2
                            try clear hfz28_0
                            try clear hfz28_1
                            try clear hfz28_2
                            try clear hfz48_0
                            try clear hfz48_1
                            try clear hfz48_2
                            try clear hx119_0
                            try clear hx119_1
                            try clear hx39_0
                            try clear hx39_1
                            try clear hx46_1
                            try clear p119
                            try clear p2
                            try clear p39
                            try clear p6
                            try clear q119
                            try clear q39
                            obtain ⟨kq, x119_40, rfl, HA, HJ40, BK101, HB⟩ := hcut
                            cases kq with
                            | zero => exact absurd HA.out (by simp [goosenecklaw06_BridgeWears.j2])
                            | succ kj40 =>
                              have H := HA.out
                              clear HA
                              simp only [goosenecklaw06_BridgeWears.j2] at H
                              by_cases c51 : x119_40 = true
                              · subst c51
                                have H1 : (some false) = some r := by rw [if_pos rfl] at H; exact H
                                clear H
                                have H := H1
                                clear H1
                                rw [hr_.out] at H
                                exact absurd H (by simp)
                              · replace c51 := Bool.eq_false_iff.mpr c51
                                subst c51
                                have H1 : ((bridge_Left.f a0_0 a0_1 a0_2 l1 a3).bind fun bt123 => (if bt123.2 = 0 then ((bridge_Damage.f kj40 a0_0 a0_1 a0_2 l1 bt123.1).bind fun bt125 => ((bridge_Damage.f kj40 a0_0 a0_1 a0_2 l1 (wrap64 (bt123.1 + 1))).bind fun bt127 => (if bt123.1 ≥ 0 then (if bt123.1 ≤ 1048576 then (if bt125.2 = 0 then (if (wrap64 (a3 + bt125.1)) ≤ 1000000 then (if bt123.1 = 1048576 then ((goosenecklaw06_known.f kj40).bind fun t129 => (some t129)) else (if bt127.2 = 0 then (if (wrap64 (a3 + bt127.1)) > 1000000 then ((goosenecklaw06_known.f kj40).bind fun t130 => (some t130)) else (some false)) else (some false))) else (some false)) else (some false)) else (some false)) else (some false)))) else (if bt123.2 = 3 then ((goosenecklaw06_known.f kj40).bind fun t131 => (some t131)) else (if bt123.2 = 5 then ((goosenecklaw06_known.f kj40).bind fun t132 => (some t132)) else (some false))))) = some r := by rw [if_neg (show ¬ (false = true) by decide)] at H; exact H
                                clear H
                                have H := H1
                                clear H1
                                replace H := Option.bind_eq_some_iff.mp H
                                obtain ⟨⟨t123, t124⟩, A520, H⟩ := H
                                replace H : (if t124 = 0 then ((bridge_Damage.f kj40 a0_0 a0_1 a0_2 l1 t123).bind fun bt125 => ((bridge_Damage.f kj40 a0_0 a0_1 a0_2 l1 (wrap64 (t123 + 1))).bind fun bt127 => (if t123 ≥ 0 then (if t123 ≤ 1048576 then (if bt125.2 = 0 then (if (wrap64 (a3 + bt125.1)) ≤ 1000000 then (if t123 = 1048576 then ((goosenecklaw06_known.f kj40).bind fun t129 => (some t129)) else (if bt127.2 = 0 then (if (wrap64 (a3 + bt127.1)) > 1000000 then ((goosenecklaw06_known.f kj40).bind fun t130 => (some t130)) else (some false)) else (some false))) else (some false)) else (some false)) else (some false)) else (some false)))) else (if t124 = 3 then ((goosenecklaw06_known.f kj40).bind fun t131 => (some t131)) else (if t124 = 5 then ((goosenecklaw06_known.f kj40).bind fun t132 => (some t132)) else (some false)))) = some r := H
                                have A52 := Aside0.mk A520
                                clear A520
                                by_cases c53 : t124 = 0
                                · rw [if_pos c53] at H
                                  have c53b0 : (t124 == 0) = true := beq_iff_eq.mpr c53
                                  have c53b1 : (t124 != 0) = false := bne_eq_false_iff_eq.mpr c53
                                  clear c53
                                  replace H := Option.bind_eq_some_iff.mp H
                                  obtain ⟨⟨t125, t126⟩, A540, H⟩ := H
                                  replace H : ((bridge_Damage.f kj40 a0_0 a0_1 a0_2 l1 (wrap64 (t123 + 1))).bind fun bt127 => (if t123 ≥ 0 then (if t123 ≤ 1048576 then (if t126 = 0 then (if (wrap64 (a3 + t125)) ≤ 1000000 then (if t123 = 1048576 then ((goosenecklaw06_known.f kj40).bind fun t129 => (some t129)) else (if bt127.2 = 0 then (if (wrap64 (a3 + bt127.1)) > 1000000 then ((goosenecklaw06_known.f kj40).bind fun t130 => (some t130)) else (some false)) else (some false))) else (some false)) else (some false)) else (some false)) else (some false))) = some r := H
                                  have A54 := Aside0.mk A540
                                  clear A540
                                  replace H := Option.bind_eq_some_iff.mp H
                                  obtain ⟨⟨t127, t128⟩, A550, H⟩ := H
                                  replace H : (if t123 ≥ 0 then (if t123 ≤ 1048576 then (if t126 = 0 then (if (wrap64 (a3 + t125)) ≤ 1000000 then (if t123 = 1048576 then ((goosenecklaw06_known.f kj40).bind fun t129 => (some t129)) else (if t128 = 0 then (if (wrap64 (a3 + t127)) > 1000000 then ((goosenecklaw06_known.f kj40).bind fun t130 => (some t130)) else (some false)) else (some false))) else (some false)) else (some false)) else (some false)) else (some false)) = some r := H
                                  have A55 := Aside0.mk A550
                                  clear A550
                                  by_cases c56 : t123 ≥ 0
                                  · rw [if_pos c56] at H
                                    have c56b0 : decide (0 ≤ t123) = true := decide_eq_true c56
                                    clear c56
                                    by_cases c57 : t123 ≤ 1048576
                                    · rw [if_pos c57] at H
                                      have c57b0 : decide (t123 ≤ 1048576) = true := decide_eq_true c57
                                      clear c57
                                      by_cases c58 : t126 = 0
                                      · rw [if_pos c58] at H
                                        have c58b0 : (t126 == 0) = true := beq_iff_eq.mpr c58
                                        have c58b1 : (t126 != 0) = false := bne_eq_false_iff_eq.mpr c58
                                        clear c58
                                        by_cases c59 : (wrap64 (a3 + t125)) ≤ 1000000
                                        · rw [if_pos c59] at H
                                          have c59b0 : decide ((wrap64 (a3 + t125)) ≤ 1000000) = true := decide_eq_true c59
                                          clear c59
                                          by_cases c60 : t123 = 1048576
                                          · rw [if_pos c60] at H
                                            have c60b0 : (t123 == 1048576) = true := beq_iff_eq.mpr c60
                                            have c60b1 : (t123 != 1048576) = false := bne_eq_false_iff_eq.mpr c60
                                            clear c60
                                            replace H := Option.bind_eq_some_iff.mp H
                                            obtain ⟨t129, A610, H⟩ := H
                                            replace H : (some t129) = some r := H
                                            have A61 := Aside0.mk A610
                                            clear A610
                                            obtain rfl := Option.some.inj H
                                            have hcz62_0 : wc.cell? ⟨gb101, 0, none⟩ = some (.int .i64 a0_0) := (blk_cell BK101.out 0).trans rfl
                                            have hcz62_1 : wc.cell? ⟨gb101, 1, none⟩ = some (.int .i64 a0_1) := (blk_cell BK101.out 1).trans rfl
                                            have hcz62_2 : wc.cell? ⟨gb101, 2, none⟩ = some (.int .i64 a0_2) := (blk_cell BK101.out 2).trans rfl
                                            have hfz62_0 := blk_frozen BK101.out 0
                                            have hfz62_1 := blk_frozen BK101.out 1
                                            have hfz62_2 := blk_frozen BK101.out 2
                                            go_wp2_with (first | ((with_reducible refine gate_callee (f := 19) rfl ?_); refine goesL_ (some 124) rfl rfl Try.func19 (by kernel_rfl) rfl #[.agg #[.int .i64 a0_0, .int .i64 a0_1, .int .i64 a0_2], .slice A1 l1.length c1, .int .i64 a3] rfl (by (try simp only [List.map_toArray, List.map_cons, List.map_nil]); first | done | rfl | (simp only [List.length_drop, List.length_take]; rfl)) ?_; (with_reducible refine (bridge_Left.calls a0_0 a0_1 a0_2 _ _ l1 a3 t123 t124 _ ?side1 ?side2 A52.out).mono ?_); (case side1 => repeat (first | exact (Kd.C_below HR1.out HB.out) | (with_reducible refine Kd.C_alloc ?_ _) | (with_reducible refine Kd.C_drewN ?_ _) | (with_reducible refine Kd.C_drew ?_))); (case side2 => exact HC1.out); rintro e w63 ⟨rfl, hb⟩; refine ⟨_, rfl, ?_⟩; have n0_ := Aside0.mk (blk_below (g := gb101) (o := .cells #[.int .i64 a0_0, .int .i64 a0_1, .int .i64 a0_2] 43 (0, 0)) (by (with_reducible repeat (first | refine blk_drewN ?_ _ | refine blk_drew ?_ | refine blk_alloc ?_ _)); exact BK101.out) hb); have n1_ := Aside0.mk (below_step (by repeat (first | (with_reducible first | exact HB.out | apply below_alloc | apply pw_below_drewN | apply below_drew1 | refine below_set ?_ GE101.out) | exact HB.out)) hb); clear BK101; clear HB; have BK101 := n0_; have HB := n1_; clear n0_ n1_; (try clear hb); (try clear hb2); (try clear hk); (try clear hi); have hcz64_0 : w63.cell? ⟨gb101, 0, none⟩ = some (.int .i64 a0_0) := (blk_cell BK101.out 0).trans rfl; have hcz64_1 : w63.cell? ⟨gb101, 1, none⟩ = some (.int .i64 a0_1) := (blk_cell BK101.out 1).trans rfl; have hcz64_2 : w63.cell? ⟨gb101, 2, none⟩ = some (.int .i64 a0_2) := (blk_cell BK101.out 2).trans rfl; have hfz64_0 := blk_frozen BK101.out 0; have hfz64_1 := blk_frozen BK101.out 1; have hfz64_2 := blk_frozen BK101.out 2) | ((with_reducible refine gate_callee (f := 18) rfl ?_); refine goesL_ (some 142) rfl rfl Try.func18 (by kernel_rfl) rfl #[.agg #[.int .i64 a0_0, .int .i64 a0_1, .int .i64 a0_2], .slice A1 l1.length c1, .int .i64 t123] rfl (by (try simp only [List.map_toArray, List.map_cons, List.map_nil]); first | done | rfl | (simp only [List.length_drop, List.length_take]; rfl)) ?_; (with_reducible refine (bridge_Damage.calls kj40 a0_0 a0_1 a0_2 _ _ l1 t123 t125 t126 _ ?side1 ?side2 A54.out).mono ?_); (case side1 => repeat (first | exact (Kd.C_below HR1.out HB.out) | (with_reducible refine Kd.C_alloc ?_ _) | (with_reducible refine Kd.C_drewN ?_ _) | (with_reducible refine Kd.C_drew ?_))); (case side2 => exact HC1.out); rintro e w65 ⟨rfl, hb⟩; refine ⟨_, rfl, ?_⟩; have n0_ := Aside0.mk (blk_below (g := gb101) (o := .cells #[.int .i64 a0_0, .int .i64 a0_1, .int .i64 a0_2] 43 (0, 0)) (by (with_reducible repeat (first | refine blk_drewN ?_ _ | refine blk_drew ?_ | refine blk_alloc ?_ _)); exact BK101.out) hb); have n1_ := Aside0.mk (below_step (by repeat (first | (with_reducible first | exact HB.out | apply below_alloc | apply pw_below_drewN | apply below_drew1 | refine below_set ?_ GE101.out) | exact HB.out)) hb); clear BK101; clear HB; have BK101 := n0_; have HB := n1_; clear n0_ n1_; (try clear hb); (try clear hb2); (try clear hk); (try clear hi); have hcz66_0 : w65.cell? ⟨gb101, 0, none⟩ = some (.int .i64 a0_0) := (blk_cell BK101.out 0).trans rfl; have hcz66_1 : w65.cell? ⟨gb101, 1, none⟩ = some (.int .i64 a0_1) := (blk_cell BK101.out 1).trans rfl; have hcz66_2 : w65.cell? ⟨gb101, 2, none⟩ = some (.int .i64 a0_2) := (blk_cell BK101.out 2).trans rfl; have hfz66_0 := blk_frozen BK101.out 0; have hfz66_1 := blk_frozen BK101.out 1; have hfz66_2 := blk_frozen BK101.out 2) | ((with_reducible refine gate_callee (f := 18) rfl ?_); refine goesL_ (some 150) rfl rfl Try.func18 (by kernel_rfl) rfl #[.agg #[.int .i64 a0_0, .int .i64 a0_1, .int .i64 a0_2], .slice A1 l1.length c1, .int .i64 (wrap64 (t123 + 1))] rfl (by (try simp only [List.map_toArray, List.map_cons, List.map_nil]); first | done | rfl | (simp only [List.length_drop, List.length_take]; rfl)) ?_; (with_reducible refine (bridge_Damage.calls kj40 a0_0 a0_1 a0_2 _ _ l1 (wrap64 (t123 + 1)) t127 t128 _ ?side1 ?side2 A55.out).mono ?_); (case side1 => repeat (first | exact (Kd.C_below HR1.out HB.out) | (with_reducible refine Kd.C_alloc ?_ _) | (with_reducible refine Kd.C_drewN ?_ _) | (with_reducible refine Kd.C_drew ?_))); (case side2 => exact HC1.out); rintro e w67 ⟨rfl, hb⟩; refine ⟨_, rfl, ?_⟩; have n0_ := Aside0.mk (blk_below (g := gb101) (o := .cells #[.int .i64 a0_0, .int .i64 a0_1, .int .i64 a0_2] 43 (0, 0)) (by (with_reducible repeat (first | refine blk_drewN ?_ _ | refine blk_drew ?_ | refine blk_alloc ?_ _)); exact BK101.out) hb); have n1_ := Aside0.mk (below_step (by repeat (first | (with_reducible first | exact HB.out | apply below_alloc | apply pw_below_drewN | apply below_drew1 | refine below_set ?_ GE101.out) | exact HB.out)) hb); clear BK101; clear HB; have BK101 := n0_; have HB := n1_; clear n0_ n1_; (try clear hb); (try clear hb2); (try clear hk); (try clear hi)) | (go_at_call 12; (with_reducible refine (goosenecklaw06_known.calls kj40  t129 _ A61.out).mono ?_); rintro e w68 ⟨rfl, hb⟩; have n0_ := Aside0.mk (blk_below (g := gb101) (o := .cells #[.int .i64 a0_0, .int .i64 a0_1, .int .i64 a0_2] 43 (0, 0)) (by (with_reducible repeat (first | refine blk_drewN ?_ _ | refine blk_drew ?_ | refine blk_alloc ?_ _)); exact BK101.out) hb); have n1_ := Aside0.mk (below_step (by repeat (first | (with_reducible first | exact HB.out | apply below_alloc | apply pw_below_drewN | apply below_drew1 | refine below_set ?_ GE101.out) | exact HB.out)) hb); clear BK101; clear HB; have BK101 := n0_; have HB := n1_; clear n0_ n1_; (try clear hb); (try clear hb2); (try clear hk); (try clear hi)))
                                            go_ret
                                            exact ⟨by first | rfl | (simp [errW_none, errW_some] <;> rfl) | (simp only [← hji35, ← hji38]; first | rfl | (simp [errW_none, errW_some] <;> rfl)) | (simp [*, errW_none, errW_some] <;> rfl), by repeat (first | (with_reducible first | exact HB.out | apply below_alloc | apply pw_below_drewN | apply below_drew1 | refine below_set ?_ GE101.out) | exact HB.out)⟩
                                          · rw [if_neg c60] at H
                                            have c60b0 : (t123 == 1048576) = false := beq_eq_false_iff_ne.mpr c60
                                            have c60b1 : (t123 != 1048576) = true := bne_iff_ne.mpr c60
                                            by_cases c69 : t128 = 0
                                            · rw [if_pos c69] at H
                                              have c69b0 : (t128 == 0) = true := beq_iff_eq.mpr c69
                                              have c69b1 : (t128 != 0) = false := bne_eq_false_iff_eq.mpr c69
                                              clear c69
                                              by_cases c70 : (wrap64 (a3 + t127)) > 1000000
                                              · rw [if_pos c70] at H
                                                have c70b0 : decide (1000000 < (wrap64 (a3 + t127))) = true := decide_eq_true c70
                                                clear c70
                                                replace H := Option.bind_eq_some_iff.mp H
                                                obtain ⟨t130, A710, H⟩ := H
                                                replace H : (some t130) = some r := H
                                                have A71 := Aside0.mk A710
                                                clear A710
                                                obtain rfl := Option.some.inj H
                                                have hcz72_0 : wc.cell? ⟨gb101, 0, none⟩ = some (.int .i64 a0_0) := (blk_cell BK101.out 0).trans rfl
                                                have hcz72_1 : wc.cell? ⟨gb101, 1, none⟩ = some (.int .i64 a0_1) := (blk_cell BK101.out 1).trans rfl
                                                have hcz72_2 : wc.cell? ⟨gb101, 2, none⟩ = some (.int .i64 a0_2) := (blk_cell BK101.out 2).trans rfl
                                                have hfz72_0 := blk_frozen BK101.out 0
                                                have hfz72_1 := blk_frozen BK101.out 1
                                                have hfz72_2 := blk_frozen BK101.out 2
                                                go_wp2_with (first | ((with_reducible refine gate_callee (f := 19) rfl ?_); refine goesL_ (some 124) rfl rfl Try.func19 (by kernel_rfl) rfl #[.agg #[.int .i64 a0_0, .int .i64 a0_1, .int .i64 a0_2], .slice A1 l1.length c1, .int .i64 a3] rfl (by (try simp only [List.map_toArray, List.map_cons, List.map_nil]); first | done | rfl | (simp only [List.length_drop, List.length_take]; rfl)) ?_; (with_reducible refine (bridge_Left.calls a0_0 a0_1 a0_2 _ _ l1 a3 t123 t124 _ ?side1 ?side2 A52.out).mono ?_); (case side1 => repeat (first | exact (Kd.C_below HR1.out HB.out) | (with_reducible refine Kd.C_alloc ?_ _) | (with_reducible refine Kd.C_drewN ?_ _) | (with_reducible refine Kd.C_drew ?_))); (case side2 => exact HC1.out); rintro e w73 ⟨rfl, hb⟩; refine ⟨_, rfl, ?_⟩; have n0_ := Aside0.mk (blk_below (g := gb101) (o := .cells #[.int .i64 a0_0, .int .i64 a0_1, .int .i64 a0_2] 43 (0, 0)) (by (with_reducible repeat (first | refine blk_drewN ?_ _ | refine blk_drew ?_ | refine blk_alloc ?_ _)); exact BK101.out) hb); have n1_ := Aside0.mk (below_step (by repeat (first | (with_reducible first | exact HB.out | apply below_alloc | apply pw_below_drewN | apply below_drew1 | refine below_set ?_ GE101.out) | exact HB.out)) hb); clear BK101; clear HB; have BK101 := n0_; have HB := n1_; clear n0_ n1_; (try clear hb); (try clear hb2); (try clear hk); (try clear hi); have hcz74_0 : w73.cell? ⟨gb101, 0, none⟩ = some (.int .i64 a0_0) := (blk_cell BK101.out 0).trans rfl; have hcz74_1 : w73.cell? ⟨gb101, 1, none⟩ = some (.int .i64 a0_1) := (blk_cell BK101.out 1).trans rfl; have hcz74_2 : w73.cell? ⟨gb101, 2, none⟩ = some (.int .i64 a0_2) := (blk_cell BK101.out 2).trans rfl; have hfz74_0 := blk_frozen BK101.out 0; have hfz74_1 := blk_frozen BK101.out 1; have hfz74_2 := blk_frozen BK101.out 2) | ((with_reducible refine gate_callee (f := 18) rfl ?_); refine goesL_ (some 142) rfl rfl Try.func18 (by kernel_rfl) rfl #[.agg #[.int .i64 a0_0, .int .i64 a0_1, .int .i64 a0_2], .slice A1 l1.length c1, .int .i64 t123] rfl (by (try simp only [List.map_toArray, List.map_cons, List.map_nil]); first | done | rfl | (simp only [List.length_drop, List.length_take]; rfl)) ?_; (with_reducible refine (bridge_Damage.calls kj40 a0_0 a0_1 a0_2 _ _ l1 t123 t125 t126 _ ?side1 ?side2 A54.out).mono ?_); (case side1 => repeat (first | exact (Kd.C_below HR1.out HB.out) | (with_reducible refine Kd.C_alloc ?_ _) | (with_reducible refine Kd.C_drewN ?_ _) | (with_reducible refine Kd.C_drew ?_))); (case side2 => exact HC1.out); rintro e w75 ⟨rfl, hb⟩; refine ⟨_, rfl, ?_⟩; have n0_ := Aside0.mk (blk_below (g := gb101) (o := .cells #[.int .i64 a0_0, .int .i64 a0_1, .int .i64 a0_2] 43 (0, 0)) (by (with_reducible repeat (first | refine blk_drewN ?_ _ | refine blk_drew ?_ | refine blk_alloc ?_ _)); exact BK101.out) hb); have n1_ := Aside0.mk (below_step (by repeat (first | (with_reducible first | exact HB.out | apply below_alloc | apply pw_below_drewN | apply below_drew1 | refine below_set ?_ GE101.out) | exact HB.out)) hb); clear BK101; clear HB; have BK101 := n0_; have HB := n1_; clear n0_ n1_; (try clear hb); (try clear hb2); (try clear hk); (try clear hi); have hcz76_0 : w75.cell? ⟨gb101, 0, none⟩ = some (.int .i64 a0_0) := (blk_cell BK101.out 0).trans rfl; have hcz76_1 : w75.cell? ⟨gb101, 1, none⟩ = some (.int .i64 a0_1) := (blk_cell BK101.out 1).trans rfl; have hcz76_2 : w75.cell? ⟨gb101, 2, none⟩ = some (.int .i64 a0_2) := (blk_cell BK101.out 2).trans rfl; have hfz76_0 := blk_frozen BK101.out 0; have hfz76_1 := blk_frozen BK101.out 1; have hfz76_2 := blk_frozen BK101.out 2) | ((with_reducible refine gate_callee (f := 18) rfl ?_); refine goesL_ (some 150) rfl rfl Try.func18 (by kernel_rfl) rfl #[.agg #[.int .i64 a0_0, .int .i64 a0_1, .int .i64 a0_2], .slice A1 l1.length c1, .int .i64 (wrap64 (t123 + 1))] rfl (by (try simp only [List.map_toArray, List.map_cons, List.map_nil]); first | done | rfl | (simp only [List.length_drop, List.length_take]; rfl)) ?_; (with_reducible refine (bridge_Damage.calls kj40 a0_0 a0_1 a0_2 _ _ l1 (wrap64 (t123 + 1)) t127 t128 _ ?side1 ?side2 A55.out).mono ?_); (case side1 => repeat (first | exact (Kd.C_below HR1.out HB.out) | (with_reducible refine Kd.C_alloc ?_ _) | (with_reducible refine Kd.C_drewN ?_ _) | (with_reducible refine Kd.C_drew ?_))); (case side2 => exact HC1.out); rintro e w77 ⟨rfl, hb⟩; refine ⟨_, rfl, ?_⟩; have n0_ := Aside0.mk (blk_below (g := gb101) (o := .cells #[.int .i64 a0_0, .int .i64 a0_1, .int .i64 a0_2] 43 (0, 0)) (by (with_reducible repeat (first | refine blk_drewN ?_ _ | refine blk_drew ?_ | refine blk_alloc ?_ _)); exact BK101.out) hb); have n1_ := Aside0.mk (below_step (by repeat (first | (with_reducible first | exact HB.out | apply below_alloc | apply pw_below_drewN | apply below_drew1 | refine below_set ?_ GE101.out) | exact HB.out)) hb); clear BK101; clear HB; have BK101 := n0_; have HB := n1_; clear n0_ n1_; (try clear hb); (try clear hb2); (try clear hk); (try clear hi)) | (go_at_call 12; (with_reducible refine (goosenecklaw06_known.calls kj40  t130 _ A71.out).mono ?_); rintro e w78 ⟨rfl, hb⟩; have n0_ := Aside0.mk (blk_below (g := gb101) (o := .cells #[.int .i64 a0_0, .int .i64 a0_1, .int .i64 a0_2] 43 (0, 0)) (by (with_reducible repeat (first | refine blk_drewN ?_ _ | refine blk_drew ?_ | refine blk_alloc ?_ _)); exact BK101.out) hb); have n1_ := Aside0.mk (below_step (by repeat (first | (with_reducible first | exact HB.out | apply below_alloc | apply pw_below_drewN | apply below_drew1 | refine below_set ?_ GE101.out) | exact HB.out)) hb); clear BK101; clear HB; have BK101 := n0_; have HB := n1_; clear n0_ n1_; (try clear hb); (try clear hb2); (try clear hk); (try clear hi)))
                                                go_ret
                                                exact ⟨by first | rfl | (simp [errW_none, errW_some] <;> rfl) | (simp only [← hji35, ← hji38]; first | rfl | (simp [errW_none, errW_some] <;> rfl)) | (simp [*, errW_none, errW_some] <;> rfl), by repeat (first | (with_reducible first | exact HB.out | apply below_alloc | apply pw_below_drewN | apply below_drew1 | refine below_set ?_ GE101.out) | exact HB.out)⟩
                                              · rw [if_neg c70] at H
                                                have c70b0 : decide (1000000 < (wrap64 (a3 + t127))) = false := decide_eq_false c70
                                                clear c70
                                                rw [hr_.out] at H
                                                exact absurd H (by simp)
                                            · rw [if_neg c69] at H
                                              have c69b0 : (t128 == 0) = false := beq_eq_false_iff_ne.mpr c69
                                              have c69b1 : (t128 != 0) = true := bne_iff_ne.mpr c69
                                              rw [hr_.out] at H
                                              exact absurd H (by simp)
                                        · rw [if_neg c59] at H
                                          have c59b0 : decide ((wrap64 (a3 + t125)) ≤ 1000000) = false := decide_eq_false c59
                                          clear c59
                                          rw [hr_.out] at H
                                          exact absurd H (by simp)
                                      · rw [if_neg c58] at H
                                        have c58b0 : (t126 == 0) = false := beq_eq_false_iff_ne.mpr c58
                                        have c58b1 : (t126 != 0) = true := bne_iff_ne.mpr c58
                                        rw [hr_.out] at H
                                        exact absurd H (by simp)
                                    · rw [if_neg c57] at H
                                      have c57b0 : decide (t123 ≤ 1048576) = false := decide_eq_false c57
                                      clear c57
                                      rw [hr_.out] at H
                                      exact absurd H (by simp)
                                  · rw [if_neg c56] at H
                                    have c56b0 : decide (0 ≤ t123) = false := decide_eq_false c56
                                    clear c56
                                    rw [hr_.out] at H
                                    exact absurd H (by simp)
                                · rw [if_neg c53] at H
                                  have c53b0 : (t124 == 0) = false := beq_eq_false_iff_ne.mpr c53
                                  have c53b1 : (t124 != 0) = true := bne_iff_ne.mpr c53
                                  by_cases c79 : t124 = 3
                                  · rw [if_pos c79] at H
                                    have c79b0 : (t124 == 3) = true := beq_iff_eq.mpr c79
                                    have c79b1 : (t124 != 3) = false := bne_eq_false_iff_eq.mpr c79
                                    clear c79
                                    replace H := Option.bind_eq_some_iff.mp H
                                    obtain ⟨t131, A800, H⟩ := H
                                    replace H : (some t131) = some r := H
                                    have A80 := Aside0.mk A800
                                    clear A800
                                    obtain rfl := Option.some.inj H
                                    have hcz81_0 : wc.cell? ⟨gb101, 0, none⟩ = some (.int .i64 a0_0) := (blk_cell BK101.out 0).trans rfl
                                    have hcz81_1 : wc.cell? ⟨gb101, 1, none⟩ = some (.int .i64 a0_1) := (blk_cell BK101.out 1).trans rfl
                                    have hcz81_2 : wc.cell? ⟨gb101, 2, none⟩ = some (.int .i64 a0_2) := (blk_cell BK101.out 2).trans rfl
                                    have hfz81_0 := blk_frozen BK101.out 0
                                    have hfz81_1 := blk_frozen BK101.out 1
                                    have hfz81_2 := blk_frozen BK101.out 2
                                    go_wp2_with (first | ((with_reducible refine gate_callee (f := 19) rfl ?_); refine goesL_ (some 124) rfl rfl Try.func19 (by kernel_rfl) rfl #[.agg #[.int .i64 a0_0, .int .i64 a0_1, .int .i64 a0_2], .slice A1 l1.length c1, .int .i64 a3] rfl (by (try simp only [List.map_toArray, List.map_cons, List.map_nil]); first | done | rfl | (simp only [List.length_drop, List.length_take]; rfl)) ?_; (with_reducible refine (bridge_Left.calls a0_0 a0_1 a0_2 _ _ l1 a3 t123 t124 _ ?side1 ?side2 A52.out).mono ?_); (case side1 => repeat (first | exact (Kd.C_below HR1.out HB.out) | (with_reducible refine Kd.C_alloc ?_ _) | (with_reducible refine Kd.C_drewN ?_ _) | (with_reducible refine Kd.C_drew ?_))); (case side2 => exact HC1.out); rintro e w82 ⟨rfl, hb⟩; refine ⟨_, rfl, ?_⟩; have n0_ := Aside0.mk (blk_below (g := gb101) (o := .cells #[.int .i64 a0_0, .int .i64 a0_1, .int .i64 a0_2] 43 (0, 0)) (by (with_reducible repeat (first | refine blk_drewN ?_ _ | refine blk_drew ?_ | refine blk_alloc ?_ _)); exact BK101.out) hb); have n1_ := Aside0.mk (below_step (by repeat (first | (with_reducible first | exact HB.out | apply below_alloc | apply pw_below_drewN | apply below_drew1 | refine below_set ?_ GE101.out) | exact HB.out)) hb); clear BK101; clear HB; have BK101 := n0_; have HB := n1_; clear n0_ n1_; (try clear hb); (try clear hb2); (try clear hk); (try clear hi)) | (go_at_call 12; (with_reducible refine (goosenecklaw06_known.calls kj40  t131 _ A80.out).mono ?_); rintro e w83 ⟨rfl, hb⟩; have n0_ := Aside0.mk (blk_below (g := gb101) (o := .cells #[.int .i64 a0_0, .int .i64 a0_1, .int .i64 a0_2] 43 (0, 0)) (by (with_reducible repeat (first | refine blk_drewN ?_ _ | refine blk_drew ?_ | refine blk_alloc ?_ _)); exact BK101.out) hb); have n1_ := Aside0.mk (below_step (by repeat (first | (with_reducible first | exact HB.out | apply below_alloc | apply pw_below_drewN | apply below_drew1 | refine below_set ?_ GE101.out) | exact HB.out)) hb); clear BK101; clear HB; have BK101 := n0_; have HB := n1_; clear n0_ n1_; (try clear hb); (try clear hb2); (try clear hk); (try clear hi)))
                                    go_ret
                                    exact ⟨by first | rfl | (simp [errW_none, errW_some] <;> rfl) | (simp only [← hji35, ← hji38]; first | rfl | (simp [errW_none, errW_some] <;> rfl)) | (simp [*, errW_none, errW_some] <;> rfl), by repeat (first | (with_reducible first | exact HB.out | apply below_alloc | apply pw_below_drewN | apply below_drew1 | refine below_set ?_ GE101.out) | exact HB.out)⟩
                                  · rw [if_neg c79] at H
                                    have c79b0 : (t124 == 3) = false := beq_eq_false_iff_ne.mpr c79
                                    have c79b1 : (t124 != 3) = true := bne_iff_ne.mpr c79
                                    by_cases c84 : t124 = 5
                                    · rw [if_pos c84] at H
                                      have c84b0 : (t124 == 5) = true := beq_iff_eq.mpr c84
                                      have c84b1 : (t124 != 5) = false := bne_eq_false_iff_eq.mpr c84
                                      clear c84
                                      replace H := Option.bind_eq_some_iff.mp H
                                      obtain ⟨t132, A850, H⟩ := H
                                      replace H : (some t132) = some r := H
                                      have A85 := Aside0.mk A850
                                      clear A850
                                      obtain rfl := Option.some.inj H
                                      have hcz86_0 : wc.cell? ⟨gb101, 0, none⟩ = some (.int .i64 a0_0) := (blk_cell BK101.out 0).trans rfl
                                      have hcz86_1 : wc.cell? ⟨gb101, 1, none⟩ = some (.int .i64 a0_1) := (blk_cell BK101.out 1).trans rfl
                                      have hcz86_2 : wc.cell? ⟨gb101, 2, none⟩ = some (.int .i64 a0_2) := (blk_cell BK101.out 2).trans rfl
                                      have hfz86_0 := blk_frozen BK101.out 0
                                      have hfz86_1 := blk_frozen BK101.out 1
                                      have hfz86_2 := blk_frozen BK101.out 2
                                      go_wp2_with (first | ((with_reducible refine gate_callee (f := 19) rfl ?_); refine goesL_ (some 124) rfl rfl Try.func19 (by kernel_rfl) rfl #[.agg #[.int .i64 a0_0, .int .i64 a0_1, .int .i64 a0_2], .slice A1 l1.length c1, .int .i64 a3] rfl (by (try simp only [List.map_toArray, List.map_cons, List.map_nil]); first | done | rfl | (simp only [List.length_drop, List.length_take]; rfl)) ?_; (with_reducible refine (bridge_Left.calls a0_0 a0_1 a0_2 _ _ l1 a3 t123 t124 _ ?side1 ?side2 A52.out).mono ?_); (case side1 => repeat (first | exact (Kd.C_below HR1.out HB.out) | (with_reducible refine Kd.C_alloc ?_ _) | (with_reducible refine Kd.C_drewN ?_ _) | (with_reducible refine Kd.C_drew ?_))); (case side2 => exact HC1.out); rintro e w87 ⟨rfl, hb⟩; refine ⟨_, rfl, ?_⟩; have n0_ := Aside0.mk (blk_below (g := gb101) (o := .cells #[.int .i64 a0_0, .int .i64 a0_1, .int .i64 a0_2] 43 (0, 0)) (by (with_reducible repeat (first | refine blk_drewN ?_ _ | refine blk_drew ?_ | refine blk_alloc ?_ _)); exact BK101.out) hb); have n1_ := Aside0.mk (below_step (by repeat (first | (with_reducible first | exact HB.out | apply below_alloc | apply pw_below_drewN | apply below_drew1 | refine below_set ?_ GE101.out) | exact HB.out)) hb); clear BK101; clear HB; have BK101 := n0_; have HB := n1_; clear n0_ n1_; (try clear hb); (try clear hb2); (try clear hk); (try clear hi)) | (go_at_call 12; (with_reducible refine (goosenecklaw06_known.calls kj40  t132 _ A85.out).mono ?_); rintro e w88 ⟨rfl, hb⟩; have n0_ := Aside0.mk (blk_below (g := gb101) (o := .cells #[.int .i64 a0_0, .int .i64 a0_1, .int .i64 a0_2] 43 (0, 0)) (by (with_reducible repeat (first | refine blk_drewN ?_ _ | refine blk_drew ?_ | refine blk_alloc ?_ _)); exact BK101.out) hb); have n1_ := Aside0.mk (below_step (by repeat (first | (with_reducible first | exact HB.out | apply below_alloc | apply pw_below_drewN | apply below_drew1 | refine below_set ?_ GE101.out) | exact HB.out)) hb); clear BK101; clear HB; have BK101 := n0_; have HB := n1_; clear n0_ n1_; (try clear hb); (try clear hb2); (try clear hk); (try clear hi)))
                                      go_ret
                                      exact ⟨by first | rfl | (simp [errW_none, errW_some] <;> rfl) | (simp only [← hji35, ← hji38]; first | rfl | (simp [errW_none, errW_some] <;> rfl)) | (simp [*, errW_none, errW_some] <;> rfl), by repeat (first | (with_reducible first | exact HB.out | apply below_alloc | apply pw_below_drewN | apply below_drew1 | refine below_set ?_ GE101.out) | exact HB.out)⟩
                                    · rw [if_neg c84] at H
                                      have c84b0 : (t124 == 5) = false := beq_eq_false_iff_ne.mpr c84
                                      have c84b1 : (t124 != 5) = true := bne_iff_ne.mpr c84
                                      rw [hr_.out] at H
                                      exact absurd H (by simp)
                        · rw [if_neg c37] at H
                          exact absurd H (by simp)
                      · rw [if_neg c36] at H
                        exact absurd H (by simp)
                  · rw [if_neg c33] at H
                    exact absurd H (by simp)
    · rw [if_neg c11] at H
      have c11b0 : (t104 == 0) = false := beq_eq_false_iff_ne.mpr c11
      have c11b1 : (t104 != 0) = true := bne_iff_ne.mpr c11
      by_cases c89 : t103 = 0
      · rw [if_pos c89] at H
        have c89b0 : (t103 == 0) = true := beq_iff_eq.mpr c89
        have c89b1 : (t103 != 0) = false := bne_eq_false_iff_eq.mpr c89
        clear c89
        replace H := Option.bind_eq_some_iff.mp H
        obtain ⟨t105, A900, H⟩ := H
        replace H : (some t105) = some r := H
        have A90 := Aside0.mk A900
        clear A900
        obtain rfl := Option.some.inj H
        go_enter Try.func5, Try.ntmps5
        go_wp2_with (first | ((with_reducible refine gate_dst (N := 5) rfl ?_); (try (refine gate_guard (by rfl) ?_; dsimp only)); refine box_event ?hg (N := 5) ?hd (cs := #[.int .i64 a0_0, .int .i64 a0_1, .int .i64 a0_2]) (t := 43) ?hr ?_; (case hd => rfl); (case hg => rfl); (case hr => first | (go_simp; done) | (go_simp; rfl)); intro gb101 hg w91 hbox hb; have n0_ := Aside0.mk (below_step (by repeat (first | (with_reducible first | exact HB.out | apply below_alloc | apply pw_below_drewN | apply below_drew1) | exact HB.out)) hb); have n1_ := Aside0.mk (hbox); have n2_ := Aside0.mk ((by rw [hg]; exact (below_size (by repeat (first | (with_reducible first | exact HB.out | apply below_alloc | apply pw_below_drewN | apply below_drew1) | exact HB.out))) : w.heap.size ≤ gb101)); have n3_ := Aside0.mk ((by rw [hg]; exact (below_size (by repeat (first | (with_reducible first | exact HB.out | apply below_alloc | apply pw_below_drewN | apply below_drew1) | exact HB.out))) : w.heap.size ≤ gb101)); clear HB; have HB := n0_; have BK101 := n1_; have GW101 := n2_; have GE101 := n3_; clear n0_ n1_ n2_ n3_; clear hb hbox hg; have hcz92_0 : w91.cell? ⟨gb101, 0, none⟩ = some (.int .i64 a0_0) := (blk_cell BK101.out 0).trans rfl; have hcz92_1 : w91.cell? ⟨gb101, 1, none⟩ = some (.int .i64 a0_1) := (blk_cell BK101.out 1).trans rfl; have hcz92_2 : w91.cell? ⟨gb101, 2, none⟩ = some (.int .i64 a0_2) := (blk_cell BK101.out 2).trans rfl; have hfz92_0 := blk_frozen BK101.out 0; have hfz92_1 := blk_frozen BK101.out 1; have hfz92_2 := blk_frozen BK101.out 2) | ((with_reducible refine gate_callee (f := 18) rfl ?_); refine goesL_ (some 32) rfl rfl Try.func18 (by kernel_rfl) rfl #[.agg #[.int .i64 a0_0, .int .i64 a0_1, .int .i64 a0_2], .slice A1 l1.length c1, .int .i64 a2] rfl (by (try simp only [List.map_toArray, List.map_cons, List.map_nil]); first | done | rfl | (simp only [List.length_drop, List.length_take]; rfl)) ?_; (with_reducible refine (bridge_Damage.calls k a0_0 a0_1 a0_2 _ _ l1 a2 t103 t104 _ ?side1 ?side2 A10.out).mono ?_); (case side1 => repeat (first | exact (Kd.C_below HR1.out HB.out) | (with_reducible refine Kd.C_alloc ?_ _) | (with_reducible refine Kd.C_drewN ?_ _) | (with_reducible refine Kd.C_drew ?_))); (case side2 => exact HC1.out); rintro e w93 ⟨rfl, hb⟩; refine ⟨_, rfl, ?_⟩; have n0_ := Aside0.mk (blk_below (g := gb101) (o := .cells #[.int .i64 a0_0, .int .i64 a0_1, .int .i64 a0_2] 43 (0, 0)) (by (with_reducible repeat (first | refine blk_drewN ?_ _ | refine blk_drew ?_ | refine blk_alloc ?_ _)); exact BK101.out) hb); have n1_ := Aside0.mk (below_step (by repeat (first | (with_reducible first | exact HB.out | apply below_alloc | apply pw_below_drewN | apply below_drew1 | refine below_set ?_ GE101.out) | exact HB.out)) hb); clear BK101; clear HB; have BK101 := n0_; have HB := n1_; clear n0_ n1_; (try clear hb); (try clear hb2); (try clear hk); (try clear hi)) | (go_at_call 12; (with_reducible refine (goosenecklaw06_known.calls k  t105 _ A90.out).mono ?_); rintro e w94 ⟨rfl, hb⟩; have n0_ := Aside0.mk (blk_below (g := gb101) (o := .cells #[.int .i64 a0_0, .int .i64 a0_1, .int .i64 a0_2] 43 (0, 0)) (by (with_reducible repeat (first | refine blk_drewN ?_ _ | refine blk_drew ?_ | refine blk_alloc ?_ _)); exact BK101.out) hb); have n1_ := Aside0.mk (below_step (by repeat (first | (with_reducible first | exact HB.out | apply below_alloc | apply pw_below_drewN | apply below_drew1 | refine below_set ?_ GE101.out) | exact HB.out)) hb); clear BK101; clear HB; have BK101 := n0_; have HB := n1_; clear n0_ n1_; (try clear hb); (try clear hb2); (try clear hk); (try clear hi)))
        go_ret
        exact ⟨by first | rfl | (simp [errW_none, errW_some] <;> rfl) | (simp [*, errW_none, errW_some] <;> rfl), by repeat (first | (with_reducible first | exact HB.out | apply below_alloc | apply pw_below_drewN | apply below_drew1 | refine below_set ?_ GE101.out) | exact HB.out)⟩
      · rw [if_neg c89] at H
        have c89b0 : (t103 == 0) = false := beq_eq_false_iff_ne.mpr c89
        have c89b1 : (t103 != 0) = true := bne_iff_ne.mpr c89
        rw [hr_.out] at H
        exact absurd H (by simp)

end Go.Proofs.Ytiklpefckadgdaa.P
namespace Go.Proofs.Ytiklpefckadgdaa.P
open Go.RowKit Go.Deep Go.ChangeShapes Go.WideShapes Go.Proofs.YtiklpefckadgdaaW.PrintWords Go.Proofs.YtiklpefckadgdaaW.PrintLast Go.Proofs.YtiklpefckadgdaaW.PrintMore

/-- Whatever cells read at type t are those of a value of kind d that is well formed. -/
def Opens {α : Type} (P : Program) (t : TypeId) (d : Kd α) (wf : α → Prop) : Prop :=
  ∀ (H : Type) (enc : TypeId × Value → H) (w : World) (base : Nat) (spare : Nat → Bool) (held : Bool) (fuel : Nat) (cs : List Value) (x : DataW H × List MemPlace), DataW.trod enc P w base spare held fuel t cs = some x → ∃ a : α, d.K w a cs ∧ wf a
/-- The same of a struct's fields from one on: what lies from place 'off' on. -/
def FieldsOpen {α : Type} (P : Program) (fs : List Field) (off : Nat) (d : Kd α) (wf : α → Prop) : Prop :=
  ∀ (H : Type) (enc : TypeId × Value → H) (w : World) (base : Nat) (spare : Nat → Bool) (held : Bool) (cs : List Value), (∀ f ∈ fs, ∃ n y, DataW.trod enc P w base spare held n f.type ((cs.drop f.offset).take (P.cellsOf f.type)) = some y) → cs.length = off + d.sz → ∃ a : α, d.K w a (cs.drop off) ∧ wf a

theorem Opens.int {P : Program} {t : TypeId} {k : IntKind} (hu : P.underlying t = some (.int k)) : Opens P t (Kd.int k) (fun n => (Lit.int k n).wf = true) := by
  intro H enc w base spare held fuel cs x h
  obtain ⟨n, rfl, _, hw⟩ := DataW.trod_int hu h
  exact ⟨n, rfl, hw⟩
theorem Opens.bool {P : Program} {t : TypeId} (hu : P.underlying t = some .bool) : Opens P t Kd.bool (fun _ => True) := by
  intro H enc w base spare held fuel cs x h
  obtain ⟨n, rfl, _⟩ := DataW.trod_bool hu h
  exact ⟨n, rfl, trivial⟩
theorem Opens.string {P : Program} {t : TypeId} (hu : P.underlying t = some .string) : Opens P t Kd.string (fun s => s.size ≤ maxLen) := by
  intro H enc w base spare held fuel cs x h
  obtain ⟨n, rfl, _, hw⟩ := DataW.trod_string hu h
  exact ⟨n, rfl, hw⟩
theorem FieldsOpen.one {α : Type} {P : Program} {f : Field} {off : Nat} {d : Kd α} {wf : α → Prop} (ho : f.offset = off) (hs : P.cellsOf f.type = d.sz) (h : Opens P f.type d wf) : FieldsOpen P [f] off d wf := by
  intro H enc w base spare held cs hf hl
  obtain ⟨n, y, hy⟩ := hf f (List.mem_singleton.2 rfl)
  rw [ho, hs, List.take_of_length_le (by rw [List.length_drop]; omega)] at hy
  exact h H enc w base spare held n _ y hy
theorem FieldsOpen.cons {α β : Type} {P : Program} {f : Field} {fs : List Field} {off : Nat} {d : Kd α} {d' : Kd β} {wf : α → Prop} {wf' : β → Prop} (ho : f.offset = off) (hs : P.cellsOf f.type = d.sz) (h : Opens P f.type d wf) (h' : FieldsOpen P fs (off + d.sz) d' wf') :
    FieldsOpen P (f :: fs) off (Kd.pair d d') (fun x => wf x.1 ∧ wf' x.2) := by
  intro H enc w base spare held cs hf hl
  have hl' : cs.length = off + (d.sz + d'.sz) := hl
  obtain ⟨n, y, hy⟩ := hf f (List.mem_cons_self ..)
  rw [ho, hs] at hy
  obtain ⟨a, ha, wa⟩ := h H enc w base spare held n _ y hy
  obtain ⟨b, hb, wb⟩ := h' H enc w base spare held cs (fun g hg => hf g (List.mem_cons_of_mem _ hg)) (by omega)
  refine ⟨(a, b), ⟨_, _, ?_, ha, hb⟩, wa, wb⟩
  rw [← List.drop_drop, List.take_append_drop]
theorem Opens.struct {α : Type} {P : Program} {t : TypeId} {fs : Array Field} {d : Kd α} {wf : α → Prop} (hu : P.underlying t = some (.struct fs)) (hs : P.cellsOf t = d.sz) (h : FieldsOpen P fs.toList 0 d wf) : Opens P t d wf := by
  intro H enc w base spare held fuel cs x hx
  obtain ⟨xs, n, _, _, hl, hlen, hf⟩ := DataW.trod_struct hu hx
  have hk := h H enc w base spare held cs (fun f hf' => by
    obtain ⟨i, hi⟩ := List.getElem?_of_mem hf'
    have h1 := hf i f (by simpa using hi)
    have hlt : i < xs.length := by
      have := (List.getElem?_eq_some_iff.1 hi).1
      rw [hlen]; simpa using this
    rw [List.getElem?_eq_getElem hlt] at h1
    exact ⟨n, _, h1⟩) (by rw [hl, hs]; omega)
  simpa using hk
theorem Opens.iso {α β : Type} {P : Program} {t : TypeId} {d : Kd α} {f : β → α} {wf : α → Prop} (g : α → β) (hg : ∀ a, f (g a) = a) (h : Opens P t d wf) : Opens P t (Kd.iso d f) (fun b => wf (f b)) := by
  intro H enc w base spare held fuel cs x hx
  obtain ⟨a, ha, wa⟩ := h H enc w base spare held fuel cs x hx
  exact ⟨g a, by show d.K w (f (g a)) cs; rw [hg]; exact ha, by show wf (f (g a)); rw [hg]; exact wa⟩
theorem Opens.slice {α : Type} {P : Program} {t e : TypeId} {d : Kd α} {wf : α → Prop} (hu : P.underlying t = some (.slice e)) (hs : P.cellsOf e = d.sz) (h : Opens P e d wf) : Opens P t (Kd.slice e d) (fun l => l.length ≤ 9223372036854775807 ∧ ∀ x ∈ l, wf x) := by
  intro H enc w base spare held fuel cs x hx
  rcases open_slice hu hx with ⟨rfl, _⟩ | ⟨a, len, cap, m, n, D, Pl, rfl, hb, hl, hm, hmm, _, hel⟩
  · exact ⟨[], ⟨none, 0, rfl, Nat.le_refl _, rfl, by simp, fun h => absurd h (Nat.lt_irrefl 0)⟩, by simp, fun x hx => by cases hx⟩
  · have hlm : len ≤ m := by rw [hmm]; split <;> omega
    have hmx : cap ≤ 9223372036854775807 := by simpa [maxLen] using hm
    have key : ∀ k, k ≤ len → ∃ xs : List α, xs.length = k ∧ (∀ x ∈ xs, wf x) ∧ ∀ j p, xs[j]? = some p → ∃ c, c.length = d.sz ∧ d.K w p c ∧ ∀ i u, c[i]? = some u → w.cell? (a.add (j * d.sz + i)) = some u := by
      intro k
      induction k with
      | zero => intro _; exact ⟨[], rfl, (fun x hx => by cases hx), fun j p hj => by simp at hj⟩
      | succ k ih =>
        intro hk
        obtain ⟨xs, hxl, hxw, hxs⟩ := ih (by omega)
        obtain ⟨cs', hcs, htr⟩ := hel k (by omega)
        obtain ⟨_, hcl, hcell⟩ := World.cells?_some hcs
        obtain ⟨p, hp, wp⟩ := h H enc w base spare held n cs' _ htr
        refine ⟨xs ++ [p], by simp [hxl], ?_, ?_⟩
        · intro x hx
          rcases List.mem_append.1 hx with hx | hx
          · exact hxw x hx
          · rw [List.mem_singleton.1 hx]; exact wp
        · intro j q hj
          rcases Nat.lt_or_ge j xs.length with hj' | hj'
          · rw [List.getElem?_append_left hj'] at hj
            exact hxs j q hj
          · have hjk : j = k := by
              have := (List.getElem?_eq_some_iff.1 hj).1
              rw [List.length_append, List.length_singleton] at this
              omega
            subst hjk
            rw [List.getElem?_append_right (by omega)] at hj
            have hq : p = q := by simpa [hxl] using hj
            subst hq
            refine ⟨cs', by rw [hcl, hs], hp, fun i u hi => ?_⟩
            have hi' : i < cs'.length := (List.getElem?_eq_some_iff.1 hi).1
            have := hcell i (by omega)
            rw [Deep.add_add, hs] at this
            rw [this, hi]
    obtain ⟨xs, hxl, hxw, hxs⟩ := key len (Nat.le_refl _)
    subst hxl
    exact ⟨xs, ⟨some a, cap, rfl, hl, rfl, by omega, fun _ => ⟨a, rfl, hxs⟩⟩, by omega, hxw⟩
theorem wf_i64 {n : Int} (h : (Lit.int .i64 n).wf = true) : -9223372036854775808 ≤ n ∧ n ≤ 9223372036854775807 := by simpa [Lit.wf, IntKind.min, IntKind.max, IntKind.signed, IntKind.bits] using h
theorem wf_i16 {n : Int} (h : (Lit.int .i16 n).wf = true) : -32768 ≤ n ∧ n ≤ 32767 := by simpa [Lit.wf, IntKind.min, IntKind.max, IntKind.signed, IntKind.bits] using h
theorem wf_i8 {n : Int} (h : (Lit.int .i8 n).wf = true) : -128 ≤ n ∧ n ≤ 127 := by simpa [Lit.wf, IntKind.min, IntKind.max, IntKind.signed, IntKind.bits] using h
theorem wf_u8 {n : Int} (h : (Lit.int .u8 n).wf = true) : 0 ≤ n ∧ n ≤ 255 := by simpa [Lit.wf, IntKind.min, IntKind.max, IntKind.signed, IntKind.bits] using h
theorem wf_u16 {n : Int} (h : (Lit.int .u16 n).wf = true) : 0 ≤ n ∧ n ≤ 65535 := by simpa [Lit.wf, IntKind.min, IntKind.max, IntKind.signed, IntKind.bits] using h
theorem wf_u32 {n : Int} (h : (Lit.int .u32 n).wf = true) : 0 ≤ n ∧ n ≤ 4294967295 := by simpa [Lit.wf, IntKind.min, IntKind.max, IntKind.signed, IntKind.bits] using h
end Go.Proofs.Ytiklpefckadgdaa.P
namespace Go.Proofs.Ytiklpefckadgdaa.P
open Go.RowKit Go.Proofs.YtiklpefckadgdaaW.PrintWords Go.Proofs.YtiklpefckadgdaaW.PrintLast Go.Proofs.YtiklpefckadgdaaW.PrintMore
open Go.Deep Go.ChangeShapes Go.WideShapes
def wfS24 (x : S24) : Prop := (x.f0.length ≤ 9223372036854775807 ∧ ∀ x_ ∈ x.f0, (Lit.int .i64 x_).wf = true) ∧ (x.f1.length ≤ 9223372036854775807 ∧ ∀ x_ ∈ x.f1, (Lit.int .i64 x_).wf = true) ∧ (x.f2.length ≤ 9223372036854775807 ∧ ∀ x_ ∈ x.f2, (Lit.int .i64 x_).wf = true) ∧ (Lit.int .i64 x.f3).wf = true ∧ (Lit.int .i64 x.f4).wf = true ∧ (Lit.int .i64 x.f5).wf = true
theorem opens24 : Opens Try.prog 24 k24 wfS24 := Opens.iso (fun a => ⟨a.1, a.2.1, a.2.2.1, a.2.2.2.1, a.2.2.2.2.1, a.2.2.2.2.2⟩) (fun a => rfl) (Opens.struct Try.underlying24 (by kernel_rfl) (FieldsOpen.cons rfl (by kernel_rfl) (Opens.slice Try.underlying22 (by kernel_rfl) (Opens.int Try.underlying2)) (FieldsOpen.cons rfl (by kernel_rfl) (Opens.slice Try.underlying22 (by kernel_rfl) (Opens.int Try.underlying2)) (FieldsOpen.cons rfl (by kernel_rfl) (Opens.slice Try.underlying22 (by kernel_rfl) (Opens.int Try.underlying2)) (FieldsOpen.cons rfl (by kernel_rfl) (Opens.int Try.underlying2) (FieldsOpen.cons rfl (by kernel_rfl) (Opens.int Try.underlying3) (FieldsOpen.one rfl (by kernel_rfl) (Opens.int Try.underlying2))))))))
def wfS35 (x : S35) : Prop := (Lit.int .i64 x.f0).wf = true ∧ (Lit.int .i64 x.f1).wf = true
theorem opens35 : Opens Try.prog 35 k35 wfS35 := Opens.iso (fun a => ⟨a.1, a.2⟩) (fun a => rfl) (Opens.struct Try.underlying35 (by kernel_rfl) (FieldsOpen.cons rfl (by kernel_rfl) (Opens.int Try.underlying2) (FieldsOpen.one rfl (by kernel_rfl) (Opens.int Try.underlying2))))
def wfS43 (x : S43) : Prop := (Lit.int .i64 x.f0).wf = true ∧ (Lit.int .i64 x.f1).wf = true ∧ (Lit.int .i64 x.f2).wf = true
theorem opens43 : Opens Try.prog 43 k43 wfS43 := Opens.iso (fun a => ⟨a.1, a.2.1, a.2.2⟩) (fun a => rfl) (Opens.struct Try.underlying43 (by kernel_rfl) (FieldsOpen.cons rfl (by kernel_rfl) (Opens.int Try.underlying2) (FieldsOpen.cons rfl (by kernel_rfl) (Opens.int Try.underlying2) (FieldsOpen.one rfl (by kernel_rfl) (Opens.int Try.underlying3)))))
end Go.Proofs.Ytiklpefckadgdaa.P
noncomputable section
namespace Go.Proofs.Ytiklpefckadgdaa.P
open Go.RowKit Go.Proofs.YtiklpefckadgdaaW.PrintWords Go.Proofs.YtiklpefckadgdaaW.PrintLast Go.Proofs.YtiklpefckadgdaaW.PrintMore
def BridgeWears_Pure : Prop := ∀ (x0 : S43) (l1 : List (S35)) (a2 : Int) (a3 : Int) (a4 : Int), (wfS43 x0) → (l1.length ≤ 9223372036854775807 ∧ ∀ x_ ∈ l1, wfS35 x_) → ((Lit.int .i64 a2).wf = true) → ((Lit.int .i64 a3).wf = true) → ((Lit.int .u8 a4).wf = true) → ∃ k, goosenecklaw06_BridgeWears.f k x0.f0 x0.f1 x0.f2 l1 a2 a3 a4 = some true
end Go.Proofs.Ytiklpefckadgdaa.P
namespace Go.Proofs.Ytiklpefckadgdaa.P
open Go.RowKit Go.Proofs.YtiklpefckadgdaaW.PrintWords Go.Proofs.YtiklpefckadgdaaW.PrintLast Go.Proofs.YtiklpefckadgdaaW.PrintMore

theorem w64 {x : Int} (h0 : -9223372036854775808 ≤ x) (h1 : x ≤ 9223372036854775807) : wrap64 x = x := by unfold wrap64; omega
def inR (x lo hi : Int) : Bool := decide (lo ≤ x) && decide (x ≤ hi)
theorem inR_iff {x lo hi : Int} : inR x lo hi = true ↔ lo ≤ x ∧ x ≤ hi := by simp [inR]
theorem between_eq (x lo hi : Int) : bridge_between.f x lo hi = some (inR x lo hi) := by
  unfold bridge_between.f inR; split <;> rename_i h
  · have : lo ≤ x := h
    simp [this]
  · have : ¬ lo ≤ x := h
    simp [this]

/-! ### trains -/
def trainOk : Int → Bool → List S35 → Bool
  | _, _, [] => true
  | last, first, x :: r => decide (last ≤ x.f0) && (decide (x.f0 ≤ 262144) && ((!first || decide (x.f0 = 0)) && (inR x.f1 0 1048576 && trainOk x.f0 false r)))
/-- The error of a train. -/
def errT (l : List S35) : Int := if (l.length : Int) < 1 ∨ (l.length : Int) > 64 then 6 else if trainOk 0 true l = true then 0 else 2
theorem train_loop (l : List S35) (hl : l.length ≤ 64) (d : Nat) : ∀ (i : Nat) (last : Int), l.length - i = d → i ≤ l.length →
    Ev (fun k => bridge_CheckTrain.l0 k last l (l.length : Int) (i : Int)) (if trainOk last (decide (i = 0)) (l.drop i) = true then 0 else 2) := by
  induction d with
  | zero =>
    intro i last hd hi
    have he : i = l.length := by omega
    subst he
    rw [List.drop_length]
    refine Ev.step (f := fun _ => some 0) (fun k => ?_) (Ev.now _)
    simp only [bridge_CheckTrain.l0]
    rw [if_neg (by omega)]
  | succ d ih =>
    intro i last hd hi
    have hlt : i < l.length := by omega
    rw [List.drop_eq_getElem_cons hlt, trainOk]
    have hrec := ih (i + 1) l[i].f0 (by omega) (by omega)
    rw [show decide (i + 1 = 0) = false by simp] at hrec
    have hw : wrap64 ((i : Int) + 1) = ((i + 1 : Nat) : Int) := by rw [w64 (by omega) (by omega)]; rfl
    have hs : ∀ k, bridge_CheckTrain.l0 (k + 1) last l (l.length : Int) (i : Int) = if l[i].f0 < last then some 2 else if l[i].f0 > 262144 then some 2 else if (i : Int) = 0 then (if l[i].f0 = 0 then (if inR l[i].f1 0 1048576 = true then bridge_CheckTrain.l0 k l[i].f0 l (l.length : Int) ((i + 1 : Nat) : Int) else some 2) else some 2) else (if inR l[i].f1 0 1048576 = true then bridge_CheckTrain.l0 k l[i].f0 l (l.length : Int) ((i + 1 : Nat) : Int) else some 2) := by
      intro k
      simp only [bridge_CheckTrain.l0]
      rw [if_pos (by omega), if_pos (by omega), if_pos (by omega), rd35_get l i hlt, between_eq, hw]
      rfl
    refine Ev.step hs ?_
    by_cases h1 : l[i].f0 < last
    · simp only [if_pos h1]
      rw [if_neg (by simp; omega)]; exact Ev.now _
    · simp only [if_neg h1]
      by_cases h2 : l[i].f0 > 262144
      · simp only [if_pos h2]
        rw [if_neg (by simp; omega)]; exact Ev.now _
      · simp only [if_neg h2]
        have a1 : decide (last ≤ l[i].f0) = true := by simp; omega
        have a2 : decide (l[i].f0 ≤ 262144) = true := by simp; omega
        rw [a1, a2, Bool.true_and, Bool.true_and]
        cases h3 : inR l[i].f1 0 1048576
        · have : ((!decide (i = 0) || decide (l[i].f0 = 0)) && (false && trainOk l[i].f0 false (l.drop (i + 1)))) = false := by simp
          rw [this]
          simp only [Bool.false_eq_true, if_false]
          by_cases h4 : (i : Int) = 0
          · simp only [if_pos h4]
            by_cases h5 : l[i].f0 = 0
            · simp only [if_pos h5, Bool.false_eq_true, if_false]; exact Ev.now _
            · simp only [if_neg h5, Bool.false_eq_true, if_false]; exact Ev.now _
          · simp only [if_neg h4, Bool.false_eq_true, if_false]; exact Ev.now _
        · by_cases h4 : (i : Int) = 0
          · simp only [if_pos h4, if_true]
            by_cases h5 : l[i].f0 = 0
            · simp only [if_pos h5]
              have : ((!decide (i = 0) || decide (l[i].f0 = 0)) && (true && trainOk l[i].f0 false (l.drop (i + 1)))) = trainOk l[i].f0 false (l.drop (i + 1)) := by simp [h5]
              rw [this]; exact hrec
            · simp only [if_neg h5]
              have : ((!decide (i = 0) || decide (l[i].f0 = 0)) && (true && trainOk l[i].f0 false (l.drop (i + 1)))) = false := by simp [h5]; omega
              rw [this]; exact Ev.now _
          · simp only [if_neg h4, if_true]
            have : ((!decide (i = 0) || decide (l[i].f0 = 0)) && (true && trainOk l[i].f0 false (l.drop (i + 1)))) = trainOk l[i].f0 false (l.drop (i + 1)) := by
              have : ¬ i = 0 := by omega
              simp [this]
            rw [this]; exact hrec
theorem checkTrain_ev (l : List S35) : Ev (fun k => bridge_CheckTrain.f k l) (errT l) := by
  unfold bridge_CheckTrain.f errT
  by_cases h1 : (l.length : Int) < 1
  · rw [if_pos (.inl h1)]
    simp only [if_pos h1]
    refine Ev.step (f := fun _ => some 6) (fun k => ?_) (Ev.now _)
    rw [bridge_CheckTrain.j0, if_pos rfl]
  · simp only [if_neg h1]
    by_cases h2 : (l.length : Int) > 64
    · rw [if_pos (.inr h2)]
      refine Ev.step (f := fun _ => some 6) (fun k => ?_) (Ev.now _)
      rw [bridge_CheckTrain.j0, if_pos (by simpa using h2)]
    · rw [if_neg (by omega)]
      refine Ev.step (fun k => ?_) (train_loop l (by omega) l.length 0 0 (by omega) (by omega))
      rw [bridge_CheckTrain.j0, if_neg (by simpa using h2)]
      rfl
theorem errT_zero {l : List S35} (h : errT l = 0) : 1 ≤ l.length ∧ l.length ≤ 64 ∧ trainOk 0 true l = true := by
  unfold errT at h
  split at h
  · cases h
  · split at h
    · exact ⟨by omega, by omega, by assumption⟩
    · cases h
theorem trainOk_all {l : List S35} : ∀ {last : Int} {first : Bool}, trainOk last first l = true → ∀ x ∈ l, last ≤ x.f0 ∧ x.f0 ≤ 262144 ∧ 0 ≤ x.f1 ∧ x.f1 ≤ 1048576 := by
  induction l with
  | nil => intro _ _ _ x hx; cases hx
  | cons y r ih =>
    intro last first h x hx
    simp only [trainOk, Bool.and_eq_true, decide_eq_true_eq, inR_iff] at h
    obtain ⟨h1, h2, _, h3, h4⟩ := h
    rcases List.mem_cons.1 hx with rfl | hx
    · exact ⟨h1, h2, h3⟩
    · have := ih h4 x hx
      omega

/-! ### bridges -/
def spansOk : List Int → List Int → List Int → Bool
  | [], _, _ => true
  | l :: r, m :: ms, s :: ss => inR l 100 131072 && (inR m 1 1073741824 && (inR s 1 1073741824 && spansOk r ms ss))
  | _, _, _ => false
/-- The error of a bridge. -/
def errB (l m s : List Int) (dyn lanes traffic : Int) : Int :=
  if (l.length : Int) < 1 ∨ (l.length : Int) > 6 then 6 else if ¬ ((m.length : Int) = l.length ∧ (s.length : Int) = l.length) then 17 else
  if ¬ (inR dyn 0 1000 = true ∧ 1 ≤ lanes ∧ lanes ≤ 4 ∧ inR traffic 0 4096 = true) then 2 else if spansOk l m s = true then 0 else 2
theorem check_loop (l m s : List Int) (a b c : Int) (hl : l.length ≤ 6) (hm : m.length = l.length) (hs : s.length = l.length) (d : Nat) : ∀ (i : Nat), l.length - i = d → i ≤ l.length →
    Ev (fun k => bridge_Check.l0 k l (l.length : Int) (i : Int) l m s a b c) (if spansOk (l.drop i) (m.drop i) (s.drop i) = true then 0 else 2) := by
  induction d with
  | zero =>
    intro i hd hi
    have he : i = l.length := by omega
    subst he
    rw [List.drop_length]
    refine Ev.step (f := fun _ => some 0) (fun k => ?_) (by simpa [spansOk] using Ev.now (0 : Int))
    simp only [bridge_Check.l0]
    rw [if_neg (by omega)]
  | succ d ih =>
    intro i hd hi
    have hlt : i < l.length := by omega
    have hltm : i < m.length := by omega
    have hlts : i < s.length := by omega
    rw [List.drop_eq_getElem_cons hlt, List.drop_eq_getElem_cons hltm, List.drop_eq_getElem_cons hlts, spansOk]
    have hrec := ih (i + 1) (by omega) (by omega)
    have hw : wrap64 ((i : Int) + 1) = ((i + 1 : Nat) : Int) := by rw [w64 (by omega) (by omega)]; rfl
    have hstep : ∀ k, bridge_Check.l0 (k + 1) l (l.length : Int) (i : Int) l m s a b c = if inR l[i] 100 131072 = true then (if inR m[i] 1 1073741824 = true then (if inR s[i] 1 1073741824 = true then bridge_Check.l0 k l (l.length : Int) ((i + 1 : Nat) : Int) l m s a b c else some 2) else some 2) else some 2 := by
      intro k
      simp only [bridge_Check.l0]
      rw [if_pos (by omega), if_pos (by omega), if_pos (by omega), rd_get l i hlt, between_eq, hw, if_pos (show (i : Int) < (m.length : Int) by omega), if_pos (show (i : Int) < (s.length : Int) by omega), rd_get m i hltm, rd_get s i hlts, between_eq, between_eq]
      rfl
    refine Ev.step hstep ?_
    cases h1 : inR l[i] 100 131072
    · simpa using Ev.now (2 : Int)
    · cases h2 : inR m[i] 1 1073741824
      · simpa using Ev.now (2 : Int)
      · cases h3 : inR s[i] 1 1073741824
        · simpa using Ev.now (2 : Int)
        · simpa using hrec
theorem check_ev (l m s : List Int) (a b c : Int) : Ev (fun k => bridge_Check.f k l m s a b c) (errB l m s a b c) := by
  unfold bridge_Check.f errB
  by_cases h1 : (l.length : Int) < 1
  · rw [if_pos (.inl h1)]
    simp only [if_pos h1]
    refine Ev.step (f := fun _ => some 6) (fun k => ?_) (Ev.now _)
    rw [bridge_Check.j0, if_pos rfl]
  · simp only [if_neg h1]
    by_cases h2 : (l.length : Int) > 6
    · rw [if_pos (.inr h2)]
      refine Ev.step (f := fun _ => some 6) (fun k => ?_) (Ev.now _)
      rw [bridge_Check.j0, if_pos (by simpa using h2)]
    · rw [if_neg (by omega)]
      have hj : ∀ k, bridge_Check.j0 (k + 1) (l.length : Int) (decide ((l.length : Int) > 6)) l m s a b c = if (m.length : Int) = l.length then bridge_Check.j1 k ((s.length : Int) != l.length) l m s a b c else bridge_Check.j1 k true l m s a b c := by
        intro k
        rw [bridge_Check.j0, if_neg (by simpa using h2)]
      refine Ev.step hj ?_
      by_cases h3 : (m.length : Int) = l.length
      · simp only [if_pos h3]
        by_cases h4 : (s.length : Int) = l.length
        · rw [if_neg (by simp [h3, h4])]
          have hj1 : ∀ k, bridge_Check.j1 (k + 1) ((s.length : Int) != l.length) l m s a b c = if inR a 0 1000 = true then (if b < 1 then some 2 else if b > 4 then some 2 else if inR c 0 4096 = true then bridge_Check.l0 k l (l.length : Int) ((0 : Nat) : Int) l m s a b c else some 2) else some 2 := by
            intro k
            rw [bridge_Check.j1, if_neg (by simp [h4])]
            simp only [between_eq, Option.bind_some]
            rfl
          refine Ev.step hj1 ?_
          by_cases h5 : inR a 0 1000 = true ∧ 1 ≤ b ∧ b ≤ 4 ∧ inR c 0 4096 = true
          · rw [if_neg (by simpa using h5)]
            simp only [if_pos h5.1, if_neg (show ¬ b < 1 by omega), if_neg (show ¬ b > 4 by omega), if_pos h5.2.2.2]
            have := check_loop l m s a b c (by omega) (by omega) (by omega) l.length 0 (by omega) (by omega)
            simpa using this
          · rw [if_pos h5]
            by_cases g1 : inR a 0 1000 = true
            · simp only [if_pos g1]
              by_cases g2 : b < 1
              · simp only [if_pos g2]; exact Ev.now _
              · simp only [if_neg g2]
                by_cases g3 : b > 4
                · simp only [if_pos g3]; exact Ev.now _
                · simp only [if_neg g3]
                  by_cases g4 : inR c 0 4096 = true
                  · exact absurd ⟨g1, by omega, by omega, g4⟩ h5
                  · simp only [if_neg g4]; exact Ev.now _
            · simp only [if_neg g1]; exact Ev.now _
        · rw [if_pos (by simp [h4])]
          refine Ev.step (f := fun _ => some 17) (fun k => ?_) (Ev.now _)
          rw [bridge_Check.j1, if_pos (by simp [h4])]
      · simp only [if_neg h3]
        rw [if_pos (by simp [h3])]
        refine Ev.step (f := fun _ => some 17) (fun k => ?_) (Ev.now _)
        rw [bridge_Check.j1, if_pos rfl]
theorem errB_zero {l m s : List Int} {a b c : Int} (h : errB l m s a b c = 0) : 1 ≤ l.length ∧ l.length ≤ 6 ∧ m.length = l.length ∧ s.length = l.length ∧ (0 ≤ a ∧ a ≤ 1000) ∧ (1 ≤ b ∧ b ≤ 4) ∧ (0 ≤ c ∧ c ≤ 4096) ∧ spansOk l m s = true := by
  unfold errB at h
  split at h
  · cases h
  · split at h
    · cases h
    · split at h
      · cases h
      · split at h
        · rename_i h1 h2 h3 h4
          have h2 := Decidable.not_not.1 h2
          have h3 := Decidable.not_not.1 h3
          exact ⟨by omega, by omega, by omega, by omega, inR_iff.1 h3.1, ⟨h3.2.1, h3.2.2.1⟩, inR_iff.1 h3.2.2.2, h4⟩
        · cases h
theorem spansOk_get : ∀ {l m s : List Int}, spansOk l m s = true → ∀ (i : Nat) (h : i < l.length), 100 ≤ l[i] ∧ l[i] ≤ 131072
  | [], _, _, _, i, h => by simp at h
  | x :: r, y :: ys, z :: zs, hk, i, h => by
    simp only [spansOk, Bool.and_eq_true, inR_iff] at hk
    cases i with
    | zero => exact hk.1
    | succ i => exact spansOk_get hk.2.2.2 i (by simpa using h)
  | _ :: _, [], _, hk, _, _ => by simp [spansOk] at hk
  | _ :: _, _ :: _, [], hk, _, _ => by simp [spansOk] at hk

/-! ### both, span -/
def errBT (l m s : List Int) (a b c : Int) (t : List S35) : Int := if errB l m s a b c ≠ 0 then errB l m s a b c else errT t
theorem or80 (a b : Int) : cmp_Or_80.f 3 [a, b] = some (if a ≠ 0 then a else b) := by
  by_cases h : a = 0
  · subst h
    by_cases h2 : b = 0
    · subst h2; decide +kernel
    · simp [cmp_Or_80.f, cmp_Or_80.l0, h2, rd, wrap64]
  · simp [cmp_Or_80.f, cmp_Or_80.l0, h, rd]
theorem both_ev (l m s : List Int) (a b c : Int) (t : List S35) : Ev (fun k => bridge_both.f k l m s a b c t) (errBT l m s a b c t) := by
  unfold bridge_both.f
  refine Ev.bind (check_ev l m s a b c) (Ev.bind (checkTrain_ev t) ?_)
  refine Ev.bind (Ev.of (fun k => cmp_Or_80.mono _ k) (or80 _ _)) (Ev.now _)
/-- The error of a bridge, a train and a span. -/
def errS (l m s : List Int) (a b c : Int) (t : List S35) (k : Int) : Int := if errBT l m s a b c t ≠ 0 then errBT l m s a b c t else if k < 0 ∨ (l.length : Int) ≤ k then 5 else 0
theorem span_lim (l m s : List Int) (a b c : Int) (t : List S35) (k : Int) : (limO fun n => bridge_span.f n l m s a b c t k) = some (errS l m s a b c t k) := by
  refine limO_ev (fun n => bridge_span.mono _ _ _ _ _ _ _ _ n) ?_
  unfold bridge_span.f errS
  refine Ev.bind (both_ev l m s a b c t) ?_
  by_cases h : errBT l m s a b c t = 0
  · rw [if_neg (show ¬ errBT l m s a b c t ≠ 0 from fun g => g h)]
    simp only [if_pos h]
    by_cases h1 : k < 0
    · simp only [if_pos h1]
      rw [if_pos (.inl h1)]; exact Ev.now _
    · simp only [if_neg h1]
      by_cases h2 : k ≥ (l.length : Int)
      · simp only [if_pos h2]
        rw [if_pos (.inr h2)]; exact Ev.now _
      · simp only [if_neg h2]
        rw [if_neg (by omega)]; exact Ev.now _
  · rw [if_pos (show errBT l m s a b c t ≠ 0 from h)]
    simp only [if_neg h]
    exact Ev.now _
theorem errS_zero {l m s : List Int} {a b c : Int} {t : List S35} {k : Int} (h : errS l m s a b c t k = 0) : errB l m s a b c = 0 ∧ errT t = 0 ∧ 0 ≤ k ∧ k < (l.length : Int) := by
  unfold errS at h
  split at h
  · exact absurd h (by assumption)
  · rename_i hw
    have hw := Decidable.not_not.1 hw
    unfold errBT at hw
    split at h
    · cases h
    · split at hw
      · exact absurd hw (by assumption)
      · exact ⟨Decidable.not_not.1 (by assumption), hw, by omega, by omega⟩
end Go.Proofs.Ytiklpefckadgdaa.P
namespace Go.Proofs.Ytiklpefckadgdaa.P
open Go.RowKit Go.Proofs.YtiklpefckadgdaaW.PrintWords Go.Proofs.YtiklpefckadgdaaW.PrintLast Go.Proofs.YtiklpefckadgdaaW.PrintMore

/-- n / d, rounded up. -/
def upI (n d : Int) : Int := (n + d - 1) / d
theorem up_eq {n d : Int} (hn : 0 ≤ n) (hn1 : n ≤ 4611686018427387904) (hd : 1 ≤ d) (hd1 : d ≤ 1048576) : bridge_up.f n d = some (upI n d) := by
  unfold bridge_up.f upI
  rw [if_neg (by omega), w64 (x := n + d) (by omega) (by omega), w64 (x := n + d - 1) (by omega) (by omega), Int.tdiv_eq_ediv_of_nonneg (by omega)]
  have h0 : 0 ≤ (n + d - 1) / d := Int.ediv_nonneg (by omega) (by omega)
  have h1 : (n + d - 1) / d ≤ n + d - 1 := Int.ediv_le_self _ (by omega)
  rw [w64 (by omega) (by omega)]
theorem upI_mono {m n d : Int} (h : m ≤ n) (hd : 1 ≤ d) : upI m d ≤ upI n d := Int.ediv_le_ediv (by omega) (by omega)
theorem upI_nonneg {n d : Int} (hn : 0 ≤ n) (hd : 1 ≤ d) : 0 ≤ upI n d := Int.ediv_nonneg (by omega) (by omega)
theorem upI_le {n d : Int} (hn : 0 ≤ n) (hd : 1 ≤ d) : upI n d ≤ n := by
  unfold upI
  by_cases h : n = 0
  · subst h
    have : (0 + d - 1) / d = 0 := Int.ediv_eq_zero_of_lt (by omega) (by omega)
    omega
  · have h1 : (n + d - 1) / d < n + 1 := by
      refine Int.ediv_lt_of_lt_mul (by omega) ?_
      have : n * 1 ≤ n * d := Int.mul_le_mul_of_nonneg_left hd hn
      rw [Int.add_mul]
      omega
    omega
/-- The error of a pavement. -/
def errPv (load life power : Int) : Int := if inR load 1 1048576 = true ∧ inR life 1 1048576 = true ∧ 1 ≤ power ∧ power ≤ 6 then 0 else 2
theorem checkPv_eq (a b c : Int) : bridge_CheckPavement.f a b c = some (errPv a b c) := by
  unfold bridge_CheckPavement.f errPv
  rw [between_eq, between_eq]
  simp only [Option.bind_some]
  by_cases h1 : inR a 1 1048576 = true
  · by_cases h2 : inR b 1 1048576 = true
    · simp only [h1, h2, if_true, true_and]
      by_cases h3 : c < 1
      · rw [if_pos h3, if_neg (by omega)]
      · rw [if_neg h3]
        by_cases h4 : c > 6
        · rw [if_pos h4, if_neg (by omega)]
        · rw [if_neg h4, if_pos (by omega)]
    · simp [h1, h2]
  · simp [h1]
theorem errPv_zero {a b c : Int} (h : errPv a b c = 0) : (1 ≤ a ∧ a ≤ 1048576) ∧ (1 ≤ b ∧ b ≤ 1048576) ∧ 1 ≤ c ∧ c ≤ 6 := by
  unfold errPv at h
  split at h
  · rename_i g
    exact ⟨inR_iff.1 g.1, inR_iff.1 g.2.1, g.2.2⟩
  · cases h

/-- The further factors of a wear. -/
def wk (r : Int) : Nat → Int → Int
  | 0, w => w
  | n + 1, w => if w ≤ 1073741824 then wk r n (upI (w * r) 1000) else w
/-- The wear of a force. -/
def wA (load power P : Int) : Int := wk (upI (P * 1000) load) (power - 1).toNat (upI (P * 1000) load)
/-- The sum of the wears, where it is not too great. -/
def wearS (load power : Int) : Int → List S35 → Option Int
  | all, [] => some all
  | all, x :: r => if wA load power x.f1 > 1073741824 ∨ all + wA load power x.f1 > 1073741824 then none else wearS load power (all + wA load power x.f1) r
theorem wk_nonneg {r : Int} (hr : 0 ≤ r) : ∀ (n : Nat) (w : Int), 0 ≤ w → 0 ≤ wk r n w
  | 0, w, h => h
  | n + 1, w, h => by
    rw [wk]
    split
    · exact wk_nonneg hr n _ (upI_nonneg (Int.mul_nonneg h hr) (by omega))
    · exact h
theorem wA_nonneg {load power P : Int} (hl : 1 ≤ load) (hP : 0 ≤ P) : 0 ≤ wA load power P := wk_nonneg (upI_nonneg (by omega) hl) _ _ (upI_nonneg (by omega) hl)
theorem wearS_bd {load power : Int} (hl : 1 ≤ load) : ∀ {l : List S35} {all s : Int}, (∀ x ∈ l, 0 ≤ x.f1) → 0 ≤ all → all ≤ 1073741824 → wearS load power all l = some s → all ≤ s ∧ s ≤ 1073741824
  | [], all, s, _, _, h1, h => by cases h; exact ⟨Int.le_refl _, h1⟩
  | x :: r, all, s, hx, h0, h1, h => by
    rw [wearS] at h
    split at h
    · cases h
    · have := wA_nonneg (power := power) hl (hx x (List.mem_cons_self ..))
      have := wearS_bd hl (fun y hy => hx y (List.mem_cons_of_mem _ hy)) (by omega) (by omega) h
      omega
theorem bd_mul {w r : Int} (h0 : 0 ≤ w) (h1 : w ≤ 1125899906842624) (r0 : 0 ≤ r) (r1 : r ≤ 1048576000) (hw : w ≤ 1073741824) : 0 ≤ w * r ∧ w * r ≤ 1125899906842624000 := by
  have := Int.mul_nonneg h0 r0
  have := Int.mul_le_mul hw r1 r0 (by omega)
  omega
theorem wear_loop (load life power : Int) (l : List S35) (hload : 1 ≤ load ∧ load ≤ 1048576) (hpow : 1 ≤ power ∧ power ≤ 6) (hl : l.length ≤ 64) (hf : ∀ x ∈ l, 0 ≤ x.f1 ∧ x.f1 ≤ 1048576) (d : Nat) : ∀ (i : Nat) (all : Int), l.length - i = d → i ≤ l.length → 0 ≤ all → all ≤ 1073741824 →
    Ev (fun k => bridge_wear.l0 k all l (l.length : Int) (i : Int) load life power) (match wearS load power all (l.drop i) with | some s => (s, 0) | none => (0, 4)) := by
  induction d with
  | zero =>
    intro i all hd hi h0 h1
    have he : i = l.length := by omega
    subst he
    rw [List.drop_length, wearS]
    refine Ev.step (f := fun _ => some (all, 0)) (fun k => ?_) (Ev.now _)
    simp only [bridge_wear.l0]
    rw [if_neg (by omega)]
  | succ d ih =>
    intro i all hd hi h0 h1
    have hlt : i < l.length := by omega
    have hx := hf _ (List.getElem_mem hlt)
    rw [List.drop_eq_getElem_cons hlt, wearS]
    have hr0 : 0 ≤ upI (l[i].f1 * 1000) load := upI_nonneg (by omega) hload.1
    have hr1 : upI (l[i].f1 * 1000) load ≤ 1048576000 := Int.le_trans (upI_le (by omega) hload.1) (by omega)
    have hw : wrap64 ((i : Int) + 1) = ((i + 1 : Nat) : Int) := by rw [w64 (by omega) (by omega)]; rfl
    have hinner : ∀ (n : Nat) (w : Int) (q : Int), 0 ≤ w → w ≤ 1125899906842624 → 1 ≤ q → q + n = power → Ev (fun k => bridge_wear.l1 k all (upI (l[i].f1 * 1000) load) w q l (l.length : Int) (i : Int) load life power)
        (match (if wk (upI (l[i].f1 * 1000) load) n w > 1073741824 ∨ all + wk (upI (l[i].f1 * 1000) load) n w > 1073741824 then none else wearS load power (all + wk (upI (l[i].f1 * 1000) load) n w) (l.drop (i + 1))) with | some s => (s, 0) | none => (0, 4)) := by
      intro n
      generalize upI (l[i].f1 * 1000) load = r at hr0 hr1 ⊢
      induction n with
      | zero =>
        intro w q w0 w1 q0 q1
        rw [wk]
        have hs : ∀ k, bridge_wear.l1 (k + 1) all r w q l (l.length : Int) (i : Int) load life power = if w > 1073741824 then some (0, 4) else if all + w > 1073741824 then some (0, 4) else bridge_wear.l0 k (all + w) l (l.length : Int) ((i + 1 : Nat) : Int) load life power := by
          intro k
          rw [bridge_wear.l1, if_neg (by omega), w64 (x := all + w) (by omega) (by omega), hw]
        refine Ev.step hs ?_
        by_cases c1 : w > 1073741824
        · simp only [if_pos c1]
          rw [if_pos (.inl c1)]
          exact Ev.now _
        · simp only [if_neg c1]
          by_cases c2 : all + w > 1073741824
          · simp only [if_pos c2]
            rw [if_pos (.inr c2)]
            exact Ev.now _
          · simp only [if_neg c2]
            rw [if_neg (by omega)]
            exact ih (i + 1) (all + w) (by omega) (by omega) (by omega) (by omega)
      | succ n ihn =>
        intro w q w0 w1 q0 q1
        rw [wk]
        by_cases c : w ≤ 1073741824
        · rw [if_pos c]
          obtain ⟨m0, m1⟩ := bd_mul w0 w1 hr0 hr1 c
          have hu := up_eq (n := w * r) (d := 1000) m0 (by omega) (by omega) (by omega)
          have hu1 : upI (w * r) 1000 ≤ 1125899906842624 := by unfold upI; omega
          refine Ev.step (fun k => ?_) (ihn (upI (w * r) 1000) (q + 1) (upI_nonneg m0 (by omega)) hu1 (by omega) (by omega))
          rw [bridge_wear.l1, if_pos (by omega), if_pos c, w64 (x := w * r) (by omega) (by omega), hu, Option.bind_some, w64 (x := q + 1) (by omega) (by omega)]
        · rw [if_neg c, if_pos (.inl (by omega))]
          refine Ev.step (f := fun _ => some (0, 4)) (fun k => ?_) (Ev.now _)
          rw [bridge_wear.l1, if_pos (by omega), if_neg c, if_pos (by omega)]
    have hu := up_eq (n := l[i].f1 * 1000) (d := load) (by omega) (by omega) hload.1 hload.2
    refine Ev.step (fun k => ?_) (hinner (power - 1).toNat (upI (l[i].f1 * 1000) load) 1 hr0 (by omega) (by omega) (by omega))
    simp only [bridge_wear.l0]
    rw [if_pos (by omega), if_pos (by omega), if_pos (by omega), rd35_get l i hlt, w64 (x := l[i].f1 * 1000) (by omega) (by omega), hu, Option.bind_some]
/-- What wear returns. -/
def wearW (load life power : Int) (l : List S35) : Int × Int :=
  if errPv load life power ≠ 0 then (0, errPv load life power) else if errT l ≠ 0 then (0, errT l) else match wearS load power 0 l with | some s => (s, 0) | none => (0, 4)
theorem wear_ev (load life power : Int) (l : List S35) : Ev (fun k => bridge_wear.f k load life power l) (wearW load life power l) := by
  unfold bridge_wear.f wearW
  rw [checkPv_eq]
  simp only [Option.bind_some]
  refine Ev.bind (checkTrain_ev l) (Ev.bind (Ev.of (fun k => cmp_Or_80.mono _ k) (or80 _ _)) ?_)
  by_cases h1 : errPv load life power = 0
  · rw [if_neg (show ¬ errPv load life power ≠ 0 from fun g => g h1), if_neg (show ¬ errPv load life power ≠ 0 from fun g => g h1)]
    by_cases h2 : errT l = 0
    · rw [if_neg (show ¬ errT l ≠ 0 from fun g => g h2)]
      simp only [if_pos h2]
      have p := errPv_zero h1
      have q := errT_zero h2
      have := wear_loop load life power l p.1 p.2.2 q.2.1 (fun x hx => (trainOk_all q.2.2 x hx).2.2) l.length 0 0 (by omega) (by omega) (by omega) (by omega)
      simpa using this
    · rw [if_pos (show errT l ≠ 0 from h2)]
      simp only [if_neg h2]
      exact Ev.now _
  · rw [if_pos (show errPv load life power ≠ 0 from h1), if_pos (show errPv load life power ≠ 0 from h1)]
    simp only [if_neg h1]
    exact Ev.now _
/-- What Damage returns. -/
def damageW (load life power : Int) (l : List S35) (passes : Int) : Int × Int :=
  if (wearW load life power l).2 ≠ 0 ∧ (wearW load life power l).2 ≠ 4 then (0, (wearW load life power l).2) else if inR passes 0 1048576 = true then (if (wearW load life power l).2 = 0 then (shareZ (wearW load life power l).1 (1000 * passes) life, 0) else (0, (wearW load life power l).2)) else (0, 3)
theorem wearW_ok {load life power : Int} {l : List S35} (h : (wearW load life power l).2 = 0) : errPv load life power = 0 ∧ errT l = 0 ∧ wearS load power 0 l = some (wearW load life power l).1 := by
  unfold wearW at h ⊢
  split at h
  · rename_i g; exact absurd h g
  · rename_i g1
    rw [if_neg g1]
    split at h
    · rename_i g; exact absurd h g
    · rename_i g2
      rw [if_neg g2]
      refine ⟨Decidable.not_not.1 g1, Decidable.not_not.1 g2, ?_⟩
      cases hs : wearS load power 0 l with
      | none => rw [hs] at h; cases h
      | some s => rfl
theorem wearW_bd {load life power : Int} {l : List S35} (h : (wearW load life power l).2 = 0) : 0 ≤ (wearW load life power l).1 ∧ (wearW load life power l).1 ≤ 1073741824 := by
  obtain ⟨h1, h2, h3⟩ := wearW_ok h
  exact wearS_bd (errPv_zero h1).1.1 (fun x hx => (trainOk_all (errT_zero h2).2.2 x hx).2.2.1) (by omega) (by omega) h3
theorem share_ok {a p d : Int} (ha : 0 ≤ a ∧ a ≤ 1073741824) (hp : 0 ≤ p ∧ p ≤ 1048577) (hd : 1 ≤ d ∧ d ≤ 1048576) : bridge_share.f a (1000 * p) d = some (shareZ a (1000 * p) d) ∧ 0 ≤ shareZ a (1000 * p) d ∧ shareZ a (1000 * p) d ≤ 1125900980584448001 := by
  have m0 : 0 ≤ a * (1000 * p) := Int.mul_nonneg ha.1 (by omega)
  have m1 : a * (1000 * p) ≤ 1073741824 * 1048577000 := Int.mul_le_mul ha.2 (by omega) (by omega) (by omega)
  have hq : a * (1000 * p) / d ≤ a * (1000 * p) := Int.ediv_le_self _ m0
  have hq0 : 0 ≤ a * (1000 * p) / d := Int.ediv_nonneg m0 (by omega)
  refine ⟨?_, ?_⟩
  · unfold bridge_share.f shareZ
    rw [if_pos ⟨ha.1, by omega, by omega, by omega, by omega, by omega, by omega⟩]
  · unfold shareZ; split <;> omega
theorem damage_ev (load life power : Int) (l : List S35) (passes : Int) : Ev (fun k => bridge_Damage.f k load life power l passes) (damageW load life power l passes) := by
  unfold bridge_Damage.f damageW
  refine Ev.bind (wear_ev load life power l) ?_
  have hj : ∀ b : Bool, ∀ k, bridge_Damage.j0 (k + 1) passes (wearW load life power l).1 (wearW load life power l).2 b load life power = if b = true then some (0, (wearW load life power l).2) else if inR passes 0 1048576 = true then (if (wearW load life power l).2 = 0 then ((bridge_share.f (wearW load life power l).1 (wrap64 (1000 * passes)) life).bind fun t105 => some (t105, 0)) else some (0, (wearW load life power l).2)) else some (0, 3) := by
    intro b k
    rw [bridge_Damage.j0, between_eq, Option.bind_some]
  by_cases h0 : (wearW load life power l).2 = 0
  · rw [if_neg (show ¬ ((wearW load life power l).2 ≠ 0 ∧ (wearW load life power l).2 ≠ 4) from fun g => g.1 h0)]
    simp only [if_pos h0]
    refine Ev.step (hj false) ?_
    simp only [Bool.false_eq_true, if_false, if_pos h0]
    by_cases h1 : inR passes 0 1048576 = true
    · simp only [if_pos h1]
      have hp := inR_iff.1 h1
      have := share_ok (p := passes) (wearW_bd h0) (by omega) (errPv_zero (wearW_ok h0).1).2.1
      rw [w64 (by omega) (by omega), this.1]
      exact Ev.now _
    · simp only [if_neg h1]; exact Ev.now _
  · simp only [if_neg h0]
    refine Ev.step (hj _) ?_
    by_cases h4 : (wearW load life power l).2 = 4
    · rw [if_neg (show ¬ ((wearW load life power l).2 ≠ 0 ∧ (wearW load life power l).2 ≠ 4) from fun g => g.2 h4)]
      have hb : ((wearW load life power l).2 != 4) = false := by simp [h4]
      simp only [hb, Bool.false_eq_true, if_false, if_neg h0]
      by_cases h1 : inR passes 0 1048576 = true
      · simp only [if_pos h1]; exact Ev.now _
      · simp only [if_neg h1]; exact Ev.now _
    · rw [if_pos (show (wearW load life power l).2 ≠ 0 ∧ (wearW load life power l).2 ≠ 4 from ⟨h0, h4⟩)]
      have hb : ((wearW load life power l).2 != 4) = true := by simpa using h4
      simp only [hb, if_true]
      exact Ev.now _
end Go.Proofs.Ytiklpefckadgdaa.P
namespace Go.Proofs.Ytiklpefckadgdaa.P
open Go.RowKit Go.Proofs.YtiklpefckadgdaaW.PrintWords Go.Proofs.YtiklpefckadgdaaW.PrintLast Go.Proofs.YtiklpefckadgdaaW.PrintMore

/-! ### the sum -/
/-- The effect of a train, in whole numbers. -/
def effS (line : Int → Int) (s : Int) : List S35 → Int
  | [] => 0
  | x :: r => x.f1 * line (s - x.f0) + effS line s r
def OkForce (x : S35) : Prop := (0 ≤ x.f0 ∧ x.f0 ≤ 262144) ∧ (0 ≤ x.f1 ∧ x.f1 ≤ 1048576)
theorem effS_bd {line : Int → Int} {s : Int} (hline : ∀ a, 0 ≤ line a ∧ line a ≤ 17179869184) : ∀ {l : List S35}, (∀ x ∈ l, OkForce x) → 0 ≤ effS line s l ∧ effS line s l ≤ l.length * 18014398509481984
  | [], _ => by simp [effS]
  | x :: r, h => by
    have ih := effS_bd (line := line) (s := s) hline (l := r) (fun y hy => h y (List.mem_cons_of_mem _ hy))
    have hx := h x (List.mem_cons_self ..)
    have hb := hline (s - x.f0)
    have m0 := Int.mul_nonneg hx.2.1 hb.1
    have m1 := Int.mul_le_mul hx.2.2 hb.2 hb.1 (by omega)
    simp only [effS, List.length_cons] at *
    omega
theorem sumW_from {line : Int → Int} {s : Int} (hline : ∀ a, 0 ≤ line a ∧ line a ≤ 17179869184) (hs : -1099511627776 ≤ s ∧ s ≤ 1099511627776) : ∀ (l : List S35) (n : Int), (∀ x ∈ l, OkForce x) → 0 ≤ n → n + l.length * 18014398509481984 ≤ 2305843009213693952 →
    (l.map (axleW line s)).foldl (fun n x => wrap64 (n + x)) n = n + effS line s l
  | [], n, _, _, _ => by simp [effS]
  | x :: r, n, h, h0, h1 => by
    have hx := h x (List.mem_cons_self ..)
    have hb := hline (s - x.f0)
    have m0 := Int.mul_nonneg hx.2.1 hb.1
    have m1 := Int.mul_le_mul hx.2.2 hb.2 hb.1 (by omega)
    have e1 : wrap64 (s - x.f0) = s - x.f0 := by have := hx.1; exact w64 (by omega) (by omega)
    have ea : axleW line s x = x.f1 * line (s - x.f0) := by
      unfold axleW
      rw [e1]
      by_cases hp : 0 < x.f1
      · rw [if_pos hp, w64 (by omega) (by omega)]
      · rw [if_neg hp]
        have hx2 : 0 ≤ x.f1 := hx.2.1
        have : x.f1 = 0 := by omega
        rw [this, Int.zero_mul]
    simp only [List.length_cons] at h1
    rw [List.map_cons, List.foldl_cons, ea, w64 (by omega) (by omega), sumW_from hline hs r _ (fun y hy => h y (List.mem_cons_of_mem _ hy)) (by omega) (by omega), effS]
    omega
theorem effW_eq {line : Int → Int} {s : Int} {l : List S35} (hline : ∀ a, 0 ≤ line a ∧ line a ≤ 17179869184) (hs : -1099511627776 ≤ s ∧ s ≤ 1099511627776) (hl : l.length ≤ 64) (h : ∀ x ∈ l, OkForce x) :
    effW line l s = effS line s l := by
  have := sumW_from hline hs l 0 h (by omega) (by omega)
  simpa [effW, sumW] using this
theorem effS_congr {f g : Int → Int} {s t : Int} : ∀ {l : List S35}, (∀ x ∈ l, f (s - x.f0) = g (t - x.f0)) → effS f s l = effS g t l
  | [], _ => rfl
  | x :: r, h => by
    rw [effS, effS, h x (List.mem_cons_self ..), effS_congr (fun y hy => h y (List.mem_cons_of_mem _ hy))]
theorem effS_append {f : Int → Int} {s : Int} : ∀ (l m : List S35), effS f s (l ++ m) = effS f s l + effS f s m
  | [], m => by simp [effS]
  | x :: r, m => by rw [List.cons_append, effS, effS, effS_append r m]; omega

/-! ### the lines in whole numbers -/
def momentI (l x a : Int) : Int := if a < 0 ∨ l < a then 0 else if a ≤ x then a * (l - x) else x * (l - a)
def endI (l : Int) (right : Bool) (a : Int) : Int := if a < 0 ∨ l < a then 0 else if right = true then a else l - a
theorem momentW_eq {s l x a : Int} (ha : -4611686018427387904 ≤ a - s ∧ a - s ≤ 4611686018427387904) (hl : 0 ≤ l ∧ l ≤ 131072) (hx : 0 ≤ x ∧ x ≤ l) : momentW s l x a = momentI l x (a - s) := by
  unfold momentW momentI
  rw [w64 (x := a - s) (by omega) (by omega)]
  by_cases h : a - s < 0 ∨ l < a - s
  · rw [if_pos h, if_pos h]
  · rw [if_neg h, if_neg h, w64 (x := l - x) (by omega) (by omega), w64 (x := l - (a - s)) (by omega) (by omega)]
    have hb : ∀ u v : Int, 0 ≤ u → u ≤ 131072 → 0 ≤ v → v ≤ 131072 → wrap64 (u * v) = u * v := fun u v h0 h1 h2 h3 => by
      have := Int.mul_nonneg h0 h2
      have := Int.mul_le_mul h1 h3 h2 (by omega)
      exact w64 (by omega) (by omega)
    rw [hb _ _ (by omega) (by omega) (by omega) (by omega), hb _ _ (by omega) (by omega) (by omega) (by omega)]
theorem endW_eq {s l a : Int} {right : Bool} (ha : -4611686018427387904 ≤ a - s ∧ a - s ≤ 4611686018427387904) (hl : 0 ≤ l ∧ l ≤ 131072) : endW s l right a = endI l right (a - s) := by
  unfold endW endI
  rw [w64 (x := a - s) (by omega) (by omega)]
  by_cases h : a - s < 0 ∨ l < a - s
  · rw [if_pos h, if_pos h]
  · rw [if_neg h, if_neg h, w64 (x := l - (a - s)) (by omega) (by omega)]
theorem momentI_bd {l x : Int} (hl : 0 ≤ l ∧ l ≤ 131072) (hx : 0 ≤ x ∧ x ≤ l) (a : Int) : 0 ≤ momentI l x a ∧ momentI l x a ≤ 17179869184 := by
  have hb : ∀ u v : Int, 0 ≤ u → u ≤ 131072 → 0 ≤ v → v ≤ 131072 → 0 ≤ u * v ∧ u * v ≤ 17179869184 := fun u v h0 h1 h2 h3 => by
    have := Int.mul_nonneg h0 h2
    have := Int.mul_le_mul h1 h3 h2 (by omega)
    omega
  unfold momentI
  split
  · omega
  · split
    · exact hb _ _ (by omega) (by omega) (by omega) (by omega)
    · exact hb _ _ (by omega) (by omega) (by omega) (by omega)
theorem endI_bd {l : Int} {right : Bool} (hl : 0 ≤ l ∧ l ≤ 131072) (a : Int) : 0 ≤ endI l right a ∧ endI l right a ≤ 17179869184 := by
  unfold endI
  split
  · omega
  · split <;> omega
/-- Seen from the other end. -/
theorem momentI_mirror {l x : Int} (hx : 0 ≤ x ∧ x ≤ l) (a : Int) : momentI l (l - x) (l - a) = momentI l x a := by
  unfold momentI
  by_cases h : a < 0 ∨ l < a
  · rw [if_pos h, if_pos (by omega)]
  · rw [if_neg h, if_neg (by omega)]
    by_cases h1 : a ≤ x
    · rw [if_pos h1]
      by_cases h2 : l - a ≤ l - x
      · have : a = x := by omega
        subst this
        rw [if_pos h2, show l - (l - a) = a by omega, Int.mul_comm]
      · rw [if_neg h2, show l - (l - a) = a by omega, Int.mul_comm]
    · rw [if_neg h1, if_pos (by omega), show l - (l - x) = x by omega, Int.mul_comm]
theorem endI_mirror {l : Int} (a : Int) : endI l true (l - a) = endI l false a := by
  unfold endI
  by_cases h : a < 0 ∨ l < a
  · rw [if_pos h, if_pos (by omega)]
  · rw [if_neg h, if_neg (by omega), if_pos rfl, if_neg (by decide)]

/-! ### the best -/
theorem best_some (l : List S29) (hne : l ≠ []) : ∃ b, bestO ltW l = some b ∧ b ∈ l ∧ ∀ x ∈ l, x.f0 ≤ b.f0 := by
  have key : ∀ (l : List S29) (o : Option S29), (∃ b, l.foldl (bestStep ltW) o = some b ∧ (b ∈ l ∨ o = some b) ∧ (∀ x ∈ l, x.f0 ≤ b.f0) ∧ (∀ x, o = some x → x.f0 ≤ b.f0)) ∨ (l = [] ∧ o = none) := by
    intro l
    induction l with
    | nil =>
      intro o
      cases o with
      | none => exact .inr ⟨rfl, rfl⟩
      | some b => exact .inl ⟨b, rfl, .inr rfl, by simp, fun x hx => by cases hx; exact Int.le_refl _⟩
    | cons x r ih =>
      intro o
      left
      rw [List.foldl_cons]
      rcases ih (bestStep ltW o x) with ⟨b, h1, h2, h3, h4⟩ | ⟨_, h2⟩
      · refine ⟨b, h1, ?_, ?_, ?_⟩
        · rcases h2 with h2 | h2
          · exact .inl (List.mem_cons_of_mem _ h2)
          · cases o with
            | none => cases h2; exact .inl (List.mem_cons_self ..)
            | some c =>
              simp only [bestStep] at h2
              split at h2
              · cases h2; exact .inl (List.mem_cons_self ..)
              · cases h2; exact .inr rfl
        · intro y hy
          rcases List.mem_cons.1 hy with rfl | hy
          · cases o with
            | none => exact h4 _ rfl
            | some c =>
              by_cases hlt : ltW c y = true
              · exact h4 _ (by simp [bestStep, hlt])
              · have := h4 c (by simp [bestStep, hlt])
                simp [ltW] at hlt
                omega
          · exact h3 y hy
        · intro y hy
          subst hy
          by_cases hlt : ltW y x = true
          · have := h4 x (by simp [bestStep, hlt])
            simp [ltW] at hlt
            omega
          · exact h4 y (by simp [bestStep, hlt])
      · cases o <;> simp [bestStep] at h2
        split at h2 <;> cases h2
  rcases key l none with ⟨b, h1, h2, h3, _⟩ | ⟨h, _⟩
  · refine ⟨b, h1, ?_, h3⟩
    rcases h2 with h2 | h2
    · exact h2
    · cases h2
  · exact absurd h hne
end Go.Proofs.Ytiklpefckadgdaa.P
namespace Go.Proofs.Ytiklpefckadgdaa.P
open Go.RowKit Go.Proofs.YtiklpefckadgdaaW.PrintWords Go.Proofs.YtiklpefckadgdaaW.PrintLast Go.Proofs.YtiklpefckadgdaaW.PrintMore

theorem WorstMoment_eq (l m s : List Int) (a b c : Int) (t : List S35) (k x : Int) : bridge_WorstMoment.f l m s a b c t k x =
    some (if errS l m s a b c t k = 0 then (if inR x 0 (rd l k) = true then effT (momentWorst l t k.toNat (rd l k) x) 0 else effT z29 3) else effT z29 (errS l m s a b c t k)) := by
  unfold bridge_WorstMoment.f
  rw [span_lim, Option.bind_some]
  by_cases h : errS l m s a b c t k = 0
  · rw [if_pos h, if_pos h]
    obtain ⟨h1, h2, h3, h4⟩ := errS_zero h
    have g1 := errB_zero h1
    have g2 := errT_zero h2
    rw [if_pos ⟨h3, h4, by omega, by omega⟩, between_eq, Option.bind_some]
    split <;> rfl
  · rw [if_neg h, if_neg h]
theorem WorstEnd_eq (l m s : List Int) (a b c : Int) (t : List S35) (k : Int) (right : Bool) : bridge_WorstEnd.f l m s a b c t k right =
    some (if errS l m s a b c t k = 0 then effT (endWorst l t k.toNat (rd l k) right (if right = true then rd l k else 0)) 0 else effT z29 (errS l m s a b c t k)) := by
  unfold bridge_WorstEnd.f
  rw [span_lim, Option.bind_some]
  by_cases h : errS l m s a b c t k = 0
  · rw [if_pos h, if_pos h]
    obtain ⟨h1, h2, h3, h4⟩ := errS_zero h
    have g1 := errB_zero h1
    have g2 := errT_zero h2
    rw [if_pos ⟨h3, h4, by omega, by omega⟩]
  · rw [if_neg h, if_neg h]

theorem mem_breaks {l : List S35} {ks : List Int} {s : Int} : s ∈ breaksL l ks ↔ ∃ x ∈ l, ∃ k ∈ ks, s = wrap64 (k + x.f0) := by
  simp only [breaksL, breakRow, List.mem_flatMap, List.mem_map]
  constructor
  · rintro ⟨x, hx, k, hk, rfl⟩; exact ⟨x, hx, k, hk, rfl⟩
  · rintro ⟨x, hx, k, hk, rfl⟩; exact ⟨x, hx, k, hk, rfl⟩
theorem breaks_ne {l : List S35} {k : Int} {ks : List Int} (h : l ≠ []) : breaksL l (k :: ks) ≠ [] := by
  cases l with
  | nil => exact absurd rfl h
  | cons x r => simp [breaksL, breakRow]
theorem worst_val (line : Int → Int) (l : List S35) (ks : List Int) (span point : Int) (hne : breaksL l ks ≠ []) :
    (∃ s ∈ breaksL l ks, worstW line l ks span point = ⟨effW line l s, span, point, s⟩) ∧ ∀ s ∈ breaksL l ks, effW line l s ≤ (worstW line l ks span point).f0 := by
  obtain ⟨b, h1, h2, h3⟩ := best_some (effectsL line l ks span point) (by simpa [effectsL] using hne)
  unfold worstW
  rw [h1, Option.getD_some]
  simp only [effectsL, List.mem_map] at h2 h3
  obtain ⟨s, hs, rfl⟩ := h2
  refine ⟨⟨s, hs, rfl⟩, fun t ht => h3 _ ⟨t, ht, rfl⟩⟩
theorem worst_le {line line' : Int → Int} {l l' : List S35} {ks ks' : List Int} {span point span' point' : Int} (hne : breaksL l ks ≠ []) (hne' : breaksL l' ks' ≠ [])
    (h : ∀ s ∈ breaksL l ks, ∃ t ∈ breaksL l' ks', effW line l s ≤ effW line' l' t) : (worstW line l ks span point).f0 ≤ (worstW line' l' ks' span' point').f0 := by
  obtain ⟨⟨s, hs, e⟩, _⟩ := worst_val line l ks span point hne
  obtain ⟨t, ht, hle⟩ := h s hs
  have := (worst_val line' l' ks' span' point' hne').2 t ht
  rw [e]
  exact Int.le_trans hle this

theorem momentW_I {s l x a : Int} (hl : 0 ≤ l ∧ l ≤ 131072) (hx : 0 ≤ x ∧ x ≤ l) : momentW s l x a = momentI l x (wrap64 (a - s)) := by
  unfold momentW momentI
  by_cases h : wrap64 (a - s) < 0 ∨ l < wrap64 (a - s)
  · rw [if_pos h, if_pos h]
  · rw [if_neg h, if_neg h, w64 (x := l - x) (by omega) (by omega), w64 (x := l - wrap64 (a - s)) (by omega) (by omega)]
    have hb : ∀ u v : Int, 0 ≤ u → u ≤ 131072 → 0 ≤ v → v ≤ 131072 → wrap64 (u * v) = u * v := fun u v h0 h1 h2 h3 => by
      have := Int.mul_nonneg h0 h2
      have := Int.mul_le_mul h1 h3 h2 (by omega)
      exact w64 (by omega) (by omega)
    rw [hb _ _ (by omega) (by omega) (by omega) (by omega), hb _ _ (by omega) (by omega) (by omega) (by omega)]
theorem endW_I {s l a : Int} {right : Bool} (hl : 0 ≤ l ∧ l ≤ 131072) : endW s l right a = endI l right (wrap64 (a - s)) := by
  unfold endW endI
  by_cases h : wrap64 (a - s) < 0 ∨ l < wrap64 (a - s)
  · rw [if_pos h, if_pos h]
  · rw [if_neg h, if_neg h, w64 (x := l - wrap64 (a - s)) (by omega) (by omega)]
theorem okForces {l : List S35} (h : errT l = 0) : ∀ x ∈ l, OkForce x := fun x hx => by
  have := trainOk_all (errT_zero h).2.2 x hx
  exact ⟨⟨this.1, this.2.1⟩, this.2.2⟩
/-- The effect of a train for a moment, in whole numbers. -/
theorem effW_moment {o L x s : Int} {l : List S35} (ho : 0 ≤ o ∧ o ≤ 1048576) (hL : 0 ≤ L ∧ L ≤ 131072) (hx : 0 ≤ x ∧ x ≤ L) (hs : -1099511627776 ≤ s ∧ s ≤ 1099511627776) (h : errT l = 0) :
    effW (momentW o L x) l s = effS (fun a => momentI L x (a - o)) s l := by
  rw [effW_eq (fun a => by rw [momentW_I hL hx]; exact momentI_bd hL hx _) hs (errT_zero h).2.1 (okForces h)]
  refine effS_congr fun y hy => ?_
  have := (okForces h y hy).1
  rw [momentW_I hL hx, w64 (by omega) (by omega)]
theorem effW_end {o L s : Int} {right : Bool} {l : List S35} (ho : 0 ≤ o ∧ o ≤ 1048576) (hL : 0 ≤ L ∧ L ≤ 131072) (hs : -1099511627776 ≤ s ∧ s ≤ 1099511627776) (h : errT l = 0) :
    effW (endW o L right) l s = effS (fun a => endI L right (a - o)) s l := by
  rw [effW_eq (fun a => by rw [endW_I hL]; exact endI_bd hL _) hs (errT_zero h).2.1 (okForces h)]
  refine effS_congr fun y hy => ?_
  have := (okForces h y hy).1
  rw [endW_I hL, w64 (by omega) (by omega)]
theorem startW_zero (l : List Int) : startW l 0 = 0 := by simp [startW, sumW]

/-! ### trains, otherwise said -/
theorem trainOk_iff : ∀ (l : List S35) (last : Int) (first : Bool), trainOk last first l = true ↔ l.Pairwise (fun x y => x.f0 ≤ y.f0) ∧ (∀ x ∈ l, last ≤ x.f0 ∧ x.f0 ≤ 262144 ∧ 0 ≤ x.f1 ∧ x.f1 ≤ 1048576) ∧ (first = true → ∀ y ∈ l.head?, y.f0 = 0)
  | [], last, first => by simp [trainOk]
  | x :: r, last, first => by
    have ih := trainOk_iff r x.f0 false
    simp only [trainOk, Bool.and_eq_true, decide_eq_true_eq, inR_iff, ih, List.pairwise_cons, List.mem_cons, List.head?_cons, Option.mem_def, Option.some.injEq]
    constructor
    · rintro ⟨h1, h2, h3, h4, h5, h6, _⟩
      refine ⟨⟨fun y hy => (h6 y hy).1, h5⟩, ?_, ?_⟩
      · rintro y (rfl | hy)
        · exact ⟨h1, h2, h4⟩
        · have := h6 y hy
          omega
      · rintro rfl y rfl
        simpa using h3
    · rintro ⟨⟨h1, h2⟩, h3, h4⟩
      have hx := h3 x (.inl rfl)
      refine ⟨hx.1, hx.2.1, ?_, hx.2.2, h2, fun y hy => ⟨h1 y hy, (h3 y (.inr hy)).2⟩, by simp⟩
      cases first
      · simp
      · simpa using h4 rfl x rfl
end Go.Proofs.Ytiklpefckadgdaa.P
namespace Go.Proofs.Ytiklpefckadgdaa.P
open Go.RowKit Go.Proofs.YtiklpefckadgdaaW.PrintWords Go.Proofs.YtiklpefckadgdaaW.PrintLast Go.Proofs.YtiklpefckadgdaaW.PrintMore

theorem shareZ_up {a b d : Int} (hab : 0 ≤ a * b) (hd : 1 ≤ d) : shareZ a b d = (a * b + d - 1) / d := by
  unfold shareZ
  generalize a * b = n at *
  have h1 := Int.mul_ediv_add_emod n d
  have h2 := Int.emod_nonneg n (show d ≠ 0 by omega)
  have h3 := Int.emod_lt_of_pos n (show 0 < d by omega)
  generalize n / d = q at *
  generalize n % d = r at *
  by_cases h : 0 < r
  · rw [if_pos h]
    symm
    refine (Int.ediv_eq_iff_of_pos (by omega)).2 ?_
    rw [Int.add_mul, Int.mul_comm q d]
    omega
  · rw [if_neg h]
    symm
    refine (Int.ediv_eq_iff_of_pos (by omega)).2 ?_
    rw [Int.mul_comm q d]
    omega

theorem shareZ_mono {a b p q d : Int} (ha : 0 ≤ a) (hab : a ≤ b) (hp : 0 ≤ p) (hpq : p ≤ q) (hd : 1 ≤ d) : shareZ a (1000 * p) d ≤ shareZ b (1000 * q) d := by
  have h0 : 0 ≤ a * (1000 * p) := Int.mul_nonneg ha (by omega)
  have h1 : a * (1000 * p) ≤ b * (1000 * q) := Int.mul_le_mul hab (by omega) (by omega) (by omega)
  rw [shareZ_up h0 hd, shareZ_up (by omega) hd]
  exact Int.ediv_le_ediv (by omega) (by omega)
theorem shareZ_twice {a p d : Int} (ha : 0 ≤ a) (hp : 0 ≤ p) (hd : 1 ≤ d) : shareZ a (1000 * (2 * p)) d ≤ 2 * shareZ a (1000 * p) d := by
  have h0 : 0 ≤ a * (1000 * p) := Int.mul_nonneg ha (by omega)
  have h1 : a * (1000 * (2 * p)) = 2 * (a * (1000 * p)) := by rw [Int.mul_left_comm 1000 2 p, Int.mul_left_comm]
  rw [shareZ_up h0 hd, shareZ_up (by omega) hd, h1]
  generalize a * (1000 * p) = n at *
  have h2 := Int.mul_ediv_add_emod (n + d - 1) d
  have h3 := Int.emod_nonneg (n + d - 1) (show d ≠ 0 by omega)
  have h4 := Int.emod_lt_of_pos (n + d - 1) (show 0 < d by omega)
  generalize (n + d - 1) / d = q at *
  generalize (n + d - 1) % d = r at *
  have h5 : (2 * n + d - 1) / d < 2 * q + 1 := by
    refine Int.ediv_lt_of_lt_mul (by omega) ?_
    rw [Int.add_mul, Int.mul_assoc, Int.mul_comm q d]
    omega
  omega
theorem wk_mono {r r' : Int} (hr0 : 0 ≤ r) (hrr : r ≤ r') : ∀ (n : Nat) (w w' : Int), 0 ≤ w → w ≤ w' → wk r' n w' ≤ 1073741824 → wk r n w ≤ wk r' n w'
  | 0, w, w', _, h, _ => h
  | n + 1, w, w', h0, h, hM => by
    rw [wk] at hM
    rw [wk, wk]
    by_cases c : w' ≤ 1073741824
    · rw [if_pos c] at hM ⊢
      rw [if_pos (by omega)]
      have m : w * r ≤ w' * r' := Int.mul_le_mul h hrr hr0 (by omega)
      exact wk_mono hr0 hrr n _ _ (upI_nonneg (Int.mul_nonneg h0 hr0) (by omega)) (upI_mono m (by omega)) hM
    · rw [if_neg c] at hM
      omega
theorem wA_mono {load power P P' : Int} (hl : 1 ≤ load) (h0 : 0 ≤ P) (h : P ≤ P') (hM : wA load power P' ≤ 1073741824) : wA load power P ≤ wA load power P' :=
  wk_mono (upI_nonneg (by omega) hl) (upI_mono (by omega) hl) _ _ _ (upI_nonneg (by omega) hl) (upI_mono (by omega) hl) hM
theorem wearS_mono {load power : Int} (hl : 1 ≤ load) : ∀ (l : List S35) (all all' s' : Int), (∀ x ∈ l, 0 ≤ x.f1) → all ≤ all' → wearS load power all' l = some s' → ∃ s, wearS load power all l = some s ∧ s ≤ s'
  | [], all, all', s', _, h, e => by cases e; exact ⟨all, rfl, h⟩
  | x :: r, all, all', s', hx, h, e => by
    rw [wearS] at e ⊢
    split at e
    · cases e
    · rw [if_neg (by omega)]
      exact wearS_mono hl r _ _ _ (fun y hy => hx y (List.mem_cons_of_mem _ hy)) (by omega) e
theorem wearS_set {load power : Int} (hl : 1 ≤ load) {X P' : Int} : ∀ (l : List S35) (k : Nat) (hk : k < l.length) (all all' s' : Int), (∀ x ∈ l, 0 ≤ x.f1) → l[k].f1 ≤ P' → all ≤ all' → wearS load power all' (l.set k ⟨X, P'⟩) = some s' → ∃ s, wearS load power all l = some s ∧ s ≤ s'
  | x :: r, 0, hk, all, all', s', hx, hP, h, e => by
    rw [List.set_cons_zero, wearS] at e
    dsimp only at e
    rw [wearS]
    split at e
    · cases e
    · simp only [List.getElem_cons_zero] at hP
      have := wA_mono (power := power) hl (hx x (List.mem_cons_self ..)) hP (by omega)
      rw [if_neg (by omega)]
      exact wearS_mono hl r _ _ _ (fun y hy => hx y (List.mem_cons_of_mem _ hy)) (by omega) e
  | x :: r, k + 1, hk, all, all', s', hx, hP, h, e => by
    rw [List.set_cons_succ, wearS] at e
    rw [wearS]
    split at e
    · cases e
    · rw [if_neg (by omega)]
      exact wearS_set hl r k (by simpa using hk) _ _ _ (fun y hy => hx y (List.mem_cons_of_mem _ hy)) (by simpa using hP) (by omega) e
theorem srch_spec (p : Int → Bool) : ∀ (f : Nat) (i j : Int), i ≤ j → (j - i).toNat ≤ f → (i ≤ srch p f i j ∧ srch p f i j ≤ j) ∧ (srch p f i j < j → p (srch p f i j) = true) ∧ (i < srch p f i j → p (srch p f i j - 1) = false)
  | 0, i, j, h, hf => by rw [srch]; omega
  | f + 1, i, j, h, hf => by
    rw [srch]
    by_cases c : i < j
    · rw [if_pos c]
      by_cases q : p ((i + j) / 2) = true
      · rw [if_pos q]
        obtain ⟨h1, h2, h3⟩ := srch_spec p f i ((i + j) / 2) (by omega) (by omega)
        refine ⟨by omega, fun _ => ?_, h3⟩
        by_cases e : srch p f i ((i + j) / 2) < (i + j) / 2
        · exact h2 e
        · rw [show srch p f i ((i + j) / 2) = (i + j) / 2 by omega]; exact q
      · rw [if_neg q]
        obtain ⟨h1, h2, h3⟩ := srch_spec p f ((i + j) / 2 + 1) j (by omega) (by omega)
        refine ⟨by omega, h2, fun _ => ?_⟩
        by_cases e : (i + j) / 2 + 1 < srch p f ((i + j) / 2 + 1) j
        · exact h3 e
        · rw [show srch p f ((i + j) / 2 + 1) j - 1 = (i + j) / 2 by omega]; simpa using q
    · rw [if_neg c]; omega

/-- What Left returns. -/
def leftW (load life power : Int) (l : List S35) (done : Int) : Int × Int :=
  if (wearW load life power l).2 ≠ 0 ∧ (wearW load life power l).2 ≠ 4 then (0, (wearW load life power l).2) else if ¬ (0 ≤ done ∧ done ≤ 1000000) then (0, 3) else if (wearW load life power l).2 ≠ 0 then (0, (wearW load life power l).2) else if (wearW load life power l).1 = 0 then (0, 5) else
    (srch (leftP (wearW load life power l).1 life done) 1048576 0 1048576, 0)
theorem left_eq (load life power : Int) (l : List S35) (done : Int) : bridge_Left.f load life power l done = some (leftW load life power l done) := by
  unfold bridge_Left.f leftW
  rw [limO_ev (fun k => bridge_wear.mono _ _ _ _ k) (wear_ev load life power l), Option.bind_some]
  split
  · rfl
  · split
    · rfl
    · split
      · rfl
      · rename_i h0
        split
        · rfl
        · have h := Decidable.not_not.1 h0
          rw [if_pos ⟨wearW_bd h, (errPv_zero (wearW_ok h).1).2.1⟩]
theorem one_force {load life power : Int} (h : errPv load life power = 0) : damageW load life power [⟨0, load⟩] life = (1000000, 0) := by
  obtain ⟨h1, h2, h3⟩ := errPv_zero h
  have ht : errT [⟨0, load⟩] = 0 := by
    have : inR load 0 1048576 = true := inR_iff.2 (by omega)
    simp [errT, trainOk, this]
  have hu : upI (load * 1000) load = 1000 := by
    unfold upI
    refine (Int.ediv_eq_iff_of_pos (by omega)).2 ?_
    omega
  have hk : ∀ n, wk 1000 n 1000 = 1000 := by
    intro n
    induction n with
    | zero => rfl
    | succ n ih => rw [wk, if_pos (by decide)]; exact ih
  have hw : wearW load life power [⟨0, load⟩] = (1000, 0) := by
    unfold wearW
    rw [if_neg (fun g => g h), if_neg (fun g => g ht)]
    simp only [wearS, wA, hu, hk]
    simp
  unfold damageW
  rw [hw, if_neg (by simp), if_pos (inR_iff.2 (by omega)), if_pos rfl]
  have e : 1000 * (1000 * life) = 1000000 * life := by omega
  have e1 : 1000000 * life % life = 0 := Int.mul_emod_left _ _
  have e2 : 1000000 * life / life = 1000000 := Int.mul_ediv_cancel _ (by omega)
  unfold shareZ
  rw [e, e1, e2, if_neg (by decide)]
theorem set_ok {l : List S35} {k : Nat} {P : Int} (h : errT l = 0) (hk : k < l.length) (hP : 0 ≤ P ∧ P ≤ 1048576) : errT (l.set k ⟨l[k].f0, P⟩) = 0 := by
  obtain ⟨h1, h2, h3⟩ := errT_zero h
  obtain ⟨p1, p2, p3⟩ := (trainOk_iff l 0 true).1 h3
  unfold errT
  rw [if_neg (by rw [List.length_set]; omega), if_pos]
  refine (trainOk_iff _ _ _).2 ⟨?_, ?_, ?_⟩
  · have e : (l.set k ⟨l[k].f0, P⟩).map (fun x : S35 => x.f0) = l.map (fun x : S35 => x.f0) := by
      rw [List.map_set]
      apply List.ext_getElem
      · simp
      · intro i g1 g2
        rw [List.getElem_set]
        split
        · rename_i g; subst g; simp
        · rfl
    have q1 : (l.map fun x : S35 => x.f0).Pairwise (· ≤ ·) := List.pairwise_map.2 p1
    rw [← e] at q1
    exact List.pairwise_map.1 q1
  · intro x hx
    rcases List.mem_or_eq_of_mem_set hx with hx | rfl
    · exact p2 x hx
    · have := p2 _ (List.getElem_mem hk)
      simp only
      omega
  · intro hf y hy
    cases l with
    | nil => simp at hk
    | cons a r =>
      cases k with
      | zero =>
        simp only [List.set_cons_zero, List.head?_cons, Option.mem_def, Option.some.injEq] at hy
        subst hy
        exact p3 hf a rfl
      | succ k =>
        simp only [List.set_cons_succ, List.head?_cons, Option.mem_def, Option.some.injEq] at hy
        subst hy
        exact p3 hf a rfl

theorem knownW : Ev (fun k => (goosenecklaw06_known.f k).bind fun t => some t) true := Ev.bind known_ev (Ev.now _)
theorem damageW_err {load life power passes : Int} {l : List S35} (h : (damageW load life power l passes).2 ≠ 0) : (damageW load life power l passes).1 = 0 := by
  unfold damageW at h ⊢
  split
  · rfl
  · rename_i g
    rw [if_neg g] at h
    split
    · rename_i g1
      rw [if_pos g1] at h
      split
      · rename_i g2
        rw [if_pos g2] at h
        exact absurd rfl h
      · rfl
    · rfl
theorem damageW_ok {load life power passes : Int} {l : List S35} (h : (damageW load life power l passes).2 = 0) : (wearW load life power l).2 = 0 ∧ (0 ≤ passes ∧ passes ≤ 1048576) ∧ (damageW load life power l passes).1 = shareZ (wearW load life power l).1 (1000 * passes) life := by
  unfold damageW at h ⊢
  split at h
  · rename_i g; exact absurd h g.1
  · rename_i g
    rw [if_neg g]
    split at h
    · rename_i g1
      rw [if_pos g1]
      split at h
      · rename_i g2
        rw [if_pos g2]
        exact ⟨g2, inR_iff.1 g1, rfl⟩
      · rename_i g2; exact absurd h g2
    · cases h
theorem damageW_at {load life power passes : Int} {l : List S35} (h : (wearW load life power l).2 = 0) (hp : 0 ≤ passes ∧ passes ≤ 1048576) : damageW load life power l passes = (shareZ (wearW load life power l).1 (1000 * passes) life, 0) := by
  unfold damageW
  rw [if_neg (fun g => g.1 h), if_pos (inR_iff.2 hp), if_pos h]
theorem wears_j2 {load life power done : Int} {l : List S35} (hw : (wearW load life power l).2 = 0) : Ev (fun k => goosenecklaw06_BridgeWears.j2 k l done false load life power) true := by
  obtain ⟨o1, o2, o3⟩ := wearW_ok hw
  have pv := errPv_zero o1
  have wb := wearW_bd hw
  have hL := left_eq load life power l done
  have hs : ∀ k, goosenecklaw06_BridgeWears.j2 (k + 1) l done false load life power = ((bridge_Left.f load life power l done).bind fun bt123 => (if bt123.2 = 0 then ((bridge_Damage.f k load life power l bt123.1).bind fun bt125 => ((bridge_Damage.f k load life power l (wrap64 (bt123.1 + 1))).bind fun bt127 => (if bt123.1 ≥ 0 then (if bt123.1 ≤ 1048576 then (if bt125.2 = 0 then (if (wrap64 (done + bt125.1)) ≤ 1000000 then (if bt123.1 = 1048576 then ((goosenecklaw06_known.f k).bind fun t129 => (some t129)) else (if bt127.2 = 0 then (if (wrap64 (done + bt127.1)) > 1000000 then ((goosenecklaw06_known.f k).bind fun t130 => (some t130)) else (some false)) else (some false))) else (some false)) else (some false)) else (some false)) else (some false)))) else (if bt123.2 = 3 then ((goosenecklaw06_known.f k).bind fun t131 => (some t131)) else (if bt123.2 = 5 then ((goosenecklaw06_known.f k).bind fun t132 => (some t132)) else (some false))))) := by
    intro k
    rw [goosenecklaw06_BridgeWears.j2, if_neg (by decide)]
  refine Ev.step hs ?_
  rw [hL]
  simp only [Option.bind_some]
  have hne : ¬ ((wearW load life power l).2 ≠ 0 ∧ (wearW load life power l).2 ≠ 4) := fun g => g.1 hw
  by_cases hd : 0 ≤ done ∧ done ≤ 1000000
  · by_cases h0 : (wearW load life power l).1 = 0
    · have e : leftW load life power l done = (0, 5) := by
        unfold leftW
        rw [if_neg hne, if_neg (fun g => g hd), if_neg (fun g => g hw), if_pos h0]
      rw [e]
      simp only [if_neg (show ¬ (5 : Int) = 0 by decide), if_neg (show ¬ (5 : Int) = 3 by decide), if_true]
      exact knownW
    · have e : leftW load life power l done = (srch (leftP (wearW load life power l).1 life done) 1048576 0 1048576, 0) := by
        unfold leftW
        rw [if_neg hne, if_neg (fun g => g hd), if_neg (fun g => g hw), if_neg h0]
      rw [e]
      obtain ⟨s1, s2, s3⟩ := srch_spec (leftP (wearW load life power l).1 life done) 1048576 0 1048576 (by decide) (by decide)
      generalize srch (leftP (wearW load life power l).1 life done) 1048576 0 1048576 = n at *
      simp only [if_true]
      rw [w64 (x := n + 1) (by omega) (by omega)]
      have d1 := damage_ev load life power l n
      have d2 := damage_ev load life power l (n + 1)
      rw [damageW_at hw (by omega)] at d1
      obtain ⟨_, sb0, sb1⟩ := share_ok (p := n) wb (by omega) pv.2.1
      obtain ⟨_, sc0, sc1⟩ := share_ok (p := n + 1) wb (by omega) pv.2.1
      have hle : done + shareZ (wearW load life power l).1 (1000 * n) life ≤ 1000000 := by
        by_cases hn : n = 0
        · subst hn
          have : shareZ (wearW load life power l).1 (1000 * 0) life = 0 := by simp [shareZ]
          omega
        · have := s3 (by omega)
          simp only [leftP, Int.sub_add_cancel, decide_eq_false_iff_not] at this
          omega
      refine Ev.bind d1 (Ev.bind d2 ?_)
      simp only [if_pos (show n ≥ 0 by omega), if_pos (show n ≤ 1048576 by omega), if_true, w64 (x := done + shareZ (wearW load life power l).1 (1000 * n) life) (by omega) (by omega), if_pos hle]
      by_cases hn : n = 1048576
      · simp only [if_pos hn]
        exact knownW
      · simp only [if_neg hn]
        have hp := s2 (by omega)
        simp only [leftP, decide_eq_true_eq] at hp
        rw [damageW_at hw (by omega)]
        simp only [if_true, w64 (x := done + shareZ (wearW load life power l).1 (1000 * (n + 1)) life) (by omega) (by omega), if_pos hp]
        exact knownW
  · have e : leftW load life power l done = (0, 3) := by
      unfold leftW
      rw [if_neg hne, if_pos hd]
    rw [e]
    simp only [if_neg (show ¬ (3 : Int) = 0 by decide), if_true]
    exact knownW
theorem BridgeWears_pure : BridgeWears_Pure := by
  intro pv l passes done ax _ _ wp wd wa
  obtain ⟨load, life, power⟩ := pv
  have ba : 0 ≤ ax ∧ ax ≤ 255 := wf_u8 wa
  refine Ev.rounds (g := fun k => goosenecklaw06_BridgeWears.f k load life power l passes done ax) ?_
  show Ev (fun k => goosenecklaw06_BridgeWears.f k load life power l passes done ax) true
  unfold goosenecklaw06_BridgeWears.f
  by_cases h70 : (l.length : Int) > 70
  · simp only [if_pos h70]; exact knownW
  · simp only [if_neg h70]
    refine Ev.bind (damage_ev load life power l passes) ?_
    by_cases he : (damageW load life power l passes).2 = 0
    · simp only [if_pos he]
      obtain ⟨hw, hp, ha⟩ := damageW_ok he
      obtain ⟨o1, o2, o3⟩ := wearW_ok hw
      have pv := errPv_zero o1
      have wb := wearW_bd hw
      have hlen := errT_zero o2
      have one := damage_ev load life power [⟨0, load⟩] life
      rw [one_force o1] at one
      refine Ev.bind one ?_
      have hl0 : ((l.length : Int) == 0) = false := beq_eq_false_iff_ne.2 (by omega)
      simp only [if_true, hl0]
      rw [ha]
      obtain ⟨_, sb0, sb1⟩ := share_ok (p := passes) wb (by omega) pv.2.1
      have hs0 : ∀ k, goosenecklaw06_BridgeWears.j0 (k + 1) l passes done ax (shareZ (wearW load life power l).1 (1000 * passes) life) false load life power = ((bridge_Damage.f k load life power l (2 * passes)).bind fun bt111 => (if bt111.2 = 0 then (if bt111.1 < (shareZ (wearW load life power l).1 (1000 * passes) life) then (goosenecklaw06_BridgeWears.j1 k l passes done ax (shareZ (wearW load life power l).1 (1000 * passes) life) true load life power) else (goosenecklaw06_BridgeWears.j1 k l passes done ax (shareZ (wearW load life power l).1 (1000 * passes) life) (decide (bt111.1 > (wrap64 (2 * (shareZ (wearW load life power l).1 (1000 * passes) life))))) load life power)) else (goosenecklaw06_BridgeWears.j1 k l passes done ax (shareZ (wearW load life power l).1 (1000 * passes) life) false load life power))) := by
        intro k
        rw [goosenecklaw06_BridgeWears.j0, if_neg (by decide), w64 (x := 2 * passes) (by omega) (by omega)]
      refine Ev.step hs0 ?_
      -- behind the doubled passes
      have hj1 : Ev (fun k => goosenecklaw06_BridgeWears.j1 k l passes done ax (shareZ (wearW load life power l).1 (1000 * passes) life) false load life power) true := by
        have hk0 : 0 ≤ Int.tmod ax (l.length : Int) := Int.tmod_nonneg _ ba.1
        have hk1 : Int.tmod ax (l.length : Int) < (l.length : Int) := Int.tmod_lt_of_pos _ (by omega)
        obtain ⟨q, hq⟩ : ∃ q : Nat, Int.tmod ax (l.length : Int) = (q : Int) := ⟨(Int.tmod ax (l.length : Int)).toNat, by omega⟩
        have hql : q < l.length := by omega
        have hfq := trainOk_all hlen.2.2 _ (List.getElem_mem hql)
        have hmn : (0 ≤ mn 1048576 (l[q].f1 + ax) ∧ mn 1048576 (l[q].f1 + ax) ≤ 1048576) ∧ l[q].f1 ≤ mn 1048576 (l[q].f1 + ax) := by unfold mn; split <;> omega
        have hs1 : ∀ k, goosenecklaw06_BridgeWears.j1 (k + 1) l passes done ax (shareZ (wearW load life power l).1 (1000 * passes) life) false load life power = ((bridge_Damage.f k load life power (l.set q ⟨l[q].f0, mn 1048576 (l[q].f1 + ax)⟩) passes).bind fun bt121 => (if bt121.2 = 0 then (goosenecklaw06_BridgeWears.j2 k l done (decide (bt121.1 < (shareZ (wearW load life power l).1 (1000 * passes) life))) load life power) else (goosenecklaw06_BridgeWears.j2 k l done false load life power))) := by
          intro k
          rw [goosenecklaw06_BridgeWears.j1, if_neg (by decide)]
          simp only [Option.bind_some, List.nil_append, List.length_nil, Nat.zero_add]
          rw [if_pos (by omega), if_neg (by omega), w64 (x := ax) (by omega) (by omega), hq, if_pos (by omega), if_pos (by omega), rd35_get l q hql, w64 (x := l[q].f1 + ax) (by omega) (by omega), Int.toNat_natCast]
        refine Ev.step hs1 (Ev.bind (damage_ev load life power _ passes) ?_)
        by_cases hb : (damageW load life power (l.set q ⟨l[q].f0, mn 1048576 (l[q].f1 + ax)⟩) passes).2 = 0
        · simp only [if_pos hb]
          obtain ⟨b1, b2, b3⟩ := damageW_ok hb
          obtain ⟨_, _, b4⟩ := wearW_ok b1
          obtain ⟨s, hs, hle⟩ := wearS_set pv.1.1 l q hql 0 0 _ (fun x hx => (trainOk_all hlen.2.2 x hx).2.2.1) hmn.2 (Int.le_refl _) b4
          have hs' : s = (wearW load life power l).1 := Option.some.inj (hs.symm.trans o3)
          rw [hs'] at hle
          have hm := shareZ_mono (p := passes) (q := passes) (d := life) wb.1 hle hp.1 (Int.le_refl _) pv.2.1.1
          rw [b3, decide_eq_false (by omega)]
          exact wears_j2 hw
        · simp only [if_neg hb]
          exact wears_j2 hw
      refine Ev.bind (damage_ev load life power l (2 * passes)) ?_
      by_cases hb : (damageW load life power l (2 * passes)).2 = 0
      · obtain ⟨b1, b2, b3⟩ := damageW_ok hb
        simp only [if_pos hb]
        rw [b3]
        have m1 := shareZ_mono (p := passes) (q := 2 * passes) (d := life) wb.1 (Int.le_refl _) hp.1 (by omega) pv.2.1.1
        have m2 := shareZ_twice (p := passes) (d := life) wb.1 hp.1 pv.2.1.1
        simp only [if_neg (show ¬ shareZ (wearW load life power l).1 (1000 * (2 * passes)) life < shareZ (wearW load life power l).1 (1000 * passes) life by omega)]
        rw [w64 (x := 2 * shareZ (wearW load life power l).1 (1000 * passes) life) (by omega) (by omega), decide_eq_false (by omega)]
        exact hj1
      · simp only [if_neg hb]
        exact hj1
    · simp only [if_neg he, if_pos (damageW_err he)]
      exact knownW
end Go.Proofs.Ytiklpefckadgdaa.P
namespace Go.Proofs.Ytiklpefckadgdaa.bridgeWears
open Go.ChangeShapes Go.WideShapes Go.ChangeAt Go.RowKit Go.Proofs.Ytiklpefckadgdaa.P
open Go.Proofs.YtiklpefckadgdaaW.PrintWords Go.Proofs.YtiklpefckadgdaaW.PrintLast Go.Proofs.YtiklpefckadgdaaW.PrintMore
open Go.ChangeMaps (open_string shut_string)
set_option linter.unusedVariables false
theorem own : ownKnob Try.prog.godebug = none := by kernel_rfl
theorem laidOut : laidOutB Try.prog = true := by kernel_rfl
set_option maxRecDepth 100000 in
theorem lifted (os : Os) (started : os.Started) (H : Type) (enc : TypeId × Value → H) :
    ReturnsInHanded {} Try.checked os 5 .any (Rows.bridgeWearsSpec.pre6 enc Try.prog Try.f5 Rows.bridgeWearsRow.domain false) (Rows.bridgeWearsSpec.post enc Try.prog Try.f5 false true false false) := by
  refine returnsInHanded_of_change_sized (C := Try.checked) own started (by kernel_rfl) Try.func5
    (ChangeSpec.witness6 (enc := enc) (C := Try.checked) false ⟨#[], #[.agg #[.int .i64 0, .int .i64 0, .int .i64 0], .slice none 0 0, .int .i64 0, .int .i64 0, .int .u8 0], []⟩ 8 (by kernel_rfl) (by kernel_rfl) (by kernel_rfl) (by kernel_rfl)) ?_
  intro W base args ds gs before hval0 hW hcnd hsz0 _
  have hval : ∀ (j : Nat) t v, Try.f5.params[j]? = some t → args[j]? = some v → Value.okWide Try.prog W .any base t v := hval0
  have hW' := hW
  obtain ⟨p, q, hA0, hV, rfl, hfz, hnd⟩ := hW
  have hA : DataW.TrodAll enc Try.prog W 0 (fun _ => true) true Try.f5.params.toList args.toList ds p := hA0
  rw [Try.params5] at hA hval
  obtain ⟨v0, vs0, d0, ds0, p0, q0, hargs, rfl, rfl, h0, r0⟩ := trodAll_cons hA
  obtain ⟨v1, vs1, d1, ds1, p1, q1, rfl, rfl, rfl, h1, r1⟩ := trodAll_cons r0
  obtain ⟨v2, vs2, d2, ds2, p2, q2, rfl, rfl, rfl, h2, r2⟩ := trodAll_cons r1
  obtain ⟨v3, vs3, d3, ds3, p3, q3, rfl, rfl, rfl, h3, r3⟩ := trodAll_cons r2
  obtain ⟨v4, vs4, d4, ds4, p4, q4, rfl, rfl, rfl, h4, r4⟩ := trodAll_cons r3
  obtain ⟨rfl, rfl, rfl⟩ := trodAll_nil r4
  obtain rfl : args = #[v0, v1, v2, v3, v4] := by cases args; simp_all
  obtain ⟨rfl, rfl⟩ := trodVars_none hV
  have k0 := h0
  have lt0 : ∀ x ∈ p0, x.block < W.heap.size := by obtain ⟨m, hm⟩ := k0; exact DataW.trod_lt m _ _ _ hm
  obtain ⟨cs0, rfl, hz0⟩ := okWide_struct Try.underlying43 (hval 0 43 v0 rfl rfl)
  obtain ⟨f0, hf0⟩ := h0
  obtain ⟨x0, hK0, w0⟩ := opens43 H enc W _ _ _ _ _ _ hf0
  have e0 := k43_open hK0
  obtain rfl : cs0 = #[.int .i64 x0.f0, .int .i64 x0.f1, .int .i64 x0.f2] := by apply Array.toList_inj.1; simpa [Value.cells] using e0
  have k1 := h1
  have lt1 : ∀ x ∈ p1, x.block < W.heap.size := by obtain ⟨m, hm⟩ := k1; exact DataW.trod_lt m _ _ _ hm
  obtain ⟨a1, len1, cap1, rfl⟩ := okWide_slice Try.underlying25 (hval 1 25 v1 rfl rfl)
  obtain ⟨f1, hf1⟩ := h1
  obtain ⟨l1, ⟨A1, c1, e1, hc1, hr1⟩, w1⟩ := (Opens.slice Try.underlying25 (by kernel_rfl) opens35) H enc W _ _ _ _ _ _ hf1
  simp [Value.cells] at e1
  obtain ⟨rfl, rfl, rfl⟩ := e1
  obtain ⟨a2, rfl, rfl, rfl, w2⟩ := open_int Try.underlying2 (hval 2 2 v2 rfl rfl) h2
  obtain ⟨a3, rfl, rfl, rfl, w3⟩ := open_int Try.underlying2 (hval 3 2 v3 rfl rfl) h3
  obtain ⟨a4, rfl, rfl, rfl, w4⟩ := open_int Try.underlying5 (hval 4 5 v4 rfl rfl) h4
  clear hA0 hval0 hsz0
  obtain ⟨k, hk⟩ := BridgeWears_pure x0 l1 a2 a3 a4 w0 w1 w2 w3 w4
  refine (goosenecklaw06_BridgeWears.calls k x0.f0 x0.f1 x0.f2 _ _ l1 a2 a3 a4 true W hr1 hc1 ⟨rfl⟩ hk).mono fun e W' ⟨he, bel⟩ => ?_
  subst he
  exact ⟨_, rfl, _, _, _, [], _, [], hW', trodAll_mk1 (shut_bool Try.underlying4 _), (trodAll_cons_mk (Below.trod laidOut (by kernel_rfl) (of_decide_eq_true (by kernel_rfl)) k0 bel lt0) (trodAll_cons_mk (Below.trod laidOut (by kernel_rfl) (of_decide_eq_true (by kernel_rfl)) k1 bel lt1) (trodAll_cons_mk (shut_int Try.underlying2 w2) (trodAll_cons_mk (shut_int Try.underlying2 w3) (trodAll_cons_mk (shut_int Try.underlying5 w4) trodAll_mk0))))), rfl, bel.frame _, fun h => by cases h⟩
theorem over : Rows.bridgeWearsRow.holds Try.pinned (OpenSpec.ofChange Rows.bridgeWearsSpec) :=
  OpenClaim.holds_of_wide 5 Try.f5 rfl rfl rfl rfl rfl rfl rfl ⟨rfl, rfl, rfl, rfl, rfl⟩ rfl rfl rfl rfl rfl (by kernel_rfl) Try.func5 (by kernel_rfl)
    (of_decide_eq_true (by kernel_rfl)) (by unfold Func.isWrapper; first | (rw [if_pos (by decide +kernel)]; kernel_rfl) | (rw [if_neg (by decide +kernel)]; exact ⟨rfl, rfl⟩))
    (fun os started H enc _ => lifted os started H enc)
theorem proved : Rows.BridgeWearsSaid := over
#print axioms proved
end Go.Proofs.Ytiklpefckadgdaa.bridgeWears
namespace Go.Proofs.Ytiklpefckadgdaa
/-- The row, under a short name, for the claim. -/
theorem bridgeWears_holds : Rows.BridgeWearsSaid := bridgeWears.proved
end Go.Proofs.Ytiklpefckadgdaa
