/- The law PlaneParts answers true at every input and leaves its arguments as they were; no condition. Part 5 of 5: the row. -/
import Derived.Test.YtegdcnjjelgpjaaCPlaneParts0
import Derived.Test.YtegdcnjjelgpjaaCPlaneParts1
import Derived.Test.YtegdcnjjelgpjaaCPlaneParts2
import Derived.Test.YtegdcnjjelgpjaaCPlaneParts3
import Derived.ChangeArms
import Derived.ChangeSame
import Derived.Deep.Slices
import Derived.WideShapes
import Derived.KernelRfl
import Derived.Test.YtegdcnjjelgpjaaRows
import Derived.WalkKit
import Derived.ProofKit
import Derived.OpenShut
import Derived.ShutString
import Derived.ChangeOld
import Derived.Below
import Derived.SizedLaws
import Derived.Carry
import Derived.Lib.SmallJoins
set_option linter.unusedVariables false
set_option linter.unusedSimpArgs false
namespace Go.Proofs.Ytegdcnjjelgpjaa.P
open Go.RowKit Go.Proofs.YtegdcnjjelgpjaaW.PrintWords Go.Proofs.YtegdcnjjelgpjaaW.PrintLast Go.Proofs.YtegdcnjjelgpjaaW.PrintMore
attribute [local go_sem] max2_int min2_int max_two min_two max_three min_three max_four min_four   -- for this text's walks alone
set_option linter.unusedVariables false
set_option linter.unusedSimpArgs false
mutual
def goosenecklaw01_PlaneParts.j0 : Nat → List (S32) → List (S32) → List (S23) → List (S23) → Bool → Int → Int → Int → Int → Int → Option (Bool)
  | 0, _, _, _, _, _, _, _, _, _, _ => none
  | k + 1, x0, x1, x9, x11, x41, x102000, x102001, x102002, x103000, x103001 => if x41 = true then (if (x0.length : Int) = 0 then ((goosenecklaw01_works.f k).bind fun t117 => (some t117)) else (if (x1.length : Int) = 0 then ((goosenecklaw01_works.f k).bind fun t118 => (some t118)) else (some false))) else ((plane_Meet.f x9 x11).bind fun bt119 => ((plane_Meet.f x11 x9).bind fun bt121 => ((plane_Gap.f k x9 x11).bind fun bt123 => ((plane_Gap.f k x11 x9).bind fun bt125 => ((plane_Part.f x9 x11).bind fun bt127 => (if bt119.2 = 0 then (if bt121.2 = 0 then (if bt123.2 = 0 then (if bt125.2 = 0 then (if (bt119.1 != bt121.1) = true then (goosenecklaw01_PlaneParts.j1 k x9 x11 bt119.1 bt127.2.2.2 true x102000 x102001 x102002 x103000 x103001 bt127.1 bt127.2.1 bt127.2.2.1) else (if bt123.1 = bt125.1 then (if (bt119.1 != (bt123.1 == 0)) = true then (goosenecklaw01_PlaneParts.j1 k x9 x11 bt119.1 bt127.2.2.2 true x102000 x102001 x102002 x103000 x103001 bt127.1 bt127.2.1 bt127.2.2.1) else (if ((bt127.2.2.2 == 0) == bt119.1) = true then (goosenecklaw01_PlaneParts.j1 k x9 x11 bt119.1 bt127.2.2.2 true x102000 x102001 x102002 x103000 x103001 bt127.1 bt127.2.1 bt127.2.2.1) else (if bt127.2.2.2 = 0 then (goosenecklaw01_PlaneParts.j1 k x9 x11 bt119.1 bt127.2.2.2 false x102000 x102001 x102002 x103000 x103001 bt127.1 bt127.2.1 bt127.2.2.1) else (goosenecklaw01_PlaneParts.j1 k x9 x11 bt119.1 bt127.2.2.2 (bt127.2.2.2 != 5) x102000 x102001 x102002 x103000 x103001 bt127.1 bt127.2.1 bt127.2.2.1)))) else (goosenecklaw01_PlaneParts.j1 k x9 x11 bt119.1 bt127.2.2.2 true x102000 x102001 x102002 x103000 x103001 bt127.1 bt127.2.1 bt127.2.2.1))) else (goosenecklaw01_PlaneParts.j1 k x9 x11 bt119.1 bt127.2.2.2 true x102000 x102001 x102002 x103000 x103001 bt127.1 bt127.2.1 bt127.2.2.1)) else (goosenecklaw01_PlaneParts.j1 k x9 x11 bt119.1 bt127.2.2.2 true x102000 x102001 x102002 x103000 x103001 bt127.1 bt127.2.1 bt127.2.2.1)) else (goosenecklaw01_PlaneParts.j1 k x9 x11 bt119.1 bt127.2.2.2 true x102000 x102001 x102002 x103000 x103001 bt127.1 bt127.2.1 bt127.2.2.1)) else (goosenecklaw01_PlaneParts.j1 k x9 x11 bt119.1 bt127.2.2.2 true x102000 x102001 x102002 x103000 x103001 bt127.1 bt127.2.1 bt127.2.2.1)))))))
def goosenecklaw01_PlaneParts.j1 : Nat → List (S23) → List (S23) → Bool → Int → Bool → Int → Int → Int → Int → Int → Int → Int → Int → Option (Bool)
  | 0, _, _, _, _, _, _, _, _, _, _, _, _, _ => none
  | k + 1, x9, x11, x13, x20, x126, x102000, x102001, x102002, x103000, x103001, x132000, x132001, x132002 => if x126 = true then (some false) else (if x20 = 0 then ((plane_CheckPart.f k x9 x11 x132000 x132001 x132002).bind fun t132 => (if t132 = 0 then (if x13 = true then ((plane_CheckPart.f k x9 x11 x102000 x102001 x102002).bind fun t133 => (goosenecklaw01_PlaneParts.j2 k x9 x11 x13 (t133 == 0) x103000 x103001)) else (goosenecklaw01_PlaneParts.j2 k x9 x11 x13 false x103000 x103001)) else (goosenecklaw01_PlaneParts.j2 k x9 x11 x13 true x103000 x103001))) else (if x13 = true then ((plane_CheckPart.f k x9 x11 x102000 x102001 x102002).bind fun t134 => (goosenecklaw01_PlaneParts.j2 k x9 x11 x13 (t134 == 0) x103000 x103001)) else (goosenecklaw01_PlaneParts.j2 k x9 x11 x13 false x103000 x103001)))
def goosenecklaw01_PlaneParts.j2 : Nat → List (S23) → List (S23) → Bool → Bool → Int → Int → Option (Bool)
  | 0, _, _, _, _, _, _ => none
  | k + 1, x9, x11, x13, x145, x103000, x103001 => if x145 = true then (some false) else ((plane_Inside.f k x9 (wrap64 (x103000)) (wrap64 (x103001))).bind fun bt136 => ((plane_Inside.f k x11 (wrap64 (x103000)) (wrap64 (x103001))).bind fun bt138 => (if bt136.2 = 0 then (if bt138.2 = 0 then (if x13 = true then ((goosenecklaw01_works.f k).bind fun t140 => (some t140)) else (if bt136.1 = true then (if bt138.1 = true then (some false) else ((goosenecklaw01_works.f k).bind fun t141 => (some t141))) else ((goosenecklaw01_works.f k).bind fun t142 => (some t142)))) else (some false)) else (some false))))
end
def goosenecklaw01_PlaneParts.f (k : Nat) (l0 : List (S32)) (l1 : List (S32)) (a2_0 : Int) (a2_1 : Int) (a2_2 : Int) (a3_0 : Int) (a3_1 : Int) : Option (Bool) := (goosenecklaw01_few.f k l0 8).bind fun t103 => ((plane_Hull.f k t103).bind fun bt106 => ((goosenecklaw01_few.f k l1 8).bind fun t110 => ((plane_Hull.f k t110).bind fun bt113 => (if bt106.2 = 0 then (goosenecklaw01_PlaneParts.j0 k l0 l1 bt106.1 bt113.1 (bt113.2 != 0) a2_0 a2_1 a2_2 a3_0 a3_1) else (goosenecklaw01_PlaneParts.j0 k l0 l1 bt106.1 bt113.1 true a2_0 a2_1 a2_2 a3_0 a3_1)))))
theorem goosenecklaw01_PlaneParts.mono_l : ∀ k, (∀ y0 y1 y2 y3 y4 y5 y6 y7 y8 y9, LeO (goosenecklaw01_PlaneParts.j0 k y0 y1 y2 y3 y4 y5 y6 y7 y8 y9) (goosenecklaw01_PlaneParts.j0 (k + 1) y0 y1 y2 y3 y4 y5 y6 y7 y8 y9)) ∧ (∀ y0 y1 y2 y3 y4 y5 y6 y7 y8 y9 y10 y11 y12, LeO (goosenecklaw01_PlaneParts.j1 k y0 y1 y2 y3 y4 y5 y6 y7 y8 y9 y10 y11 y12) (goosenecklaw01_PlaneParts.j1 (k + 1) y0 y1 y2 y3 y4 y5 y6 y7 y8 y9 y10 y11 y12)) ∧ (∀ y0 y1 y2 y3 y4 y5, LeO (goosenecklaw01_PlaneParts.j2 k y0 y1 y2 y3 y4 y5) (goosenecklaw01_PlaneParts.j2 (k + 1) y0 y1 y2 y3 y4 y5))
  | 0 => ⟨fun _ _ _ _ _ _ _ _ _ _ r h => by simp [goosenecklaw01_PlaneParts.j0] at h, fun _ _ _ _ _ _ _ _ _ _ _ _ _ r h => by simp [goosenecklaw01_PlaneParts.j1] at h, fun _ _ _ _ _ _ r h => by simp [goosenecklaw01_PlaneParts.j2] at h⟩
  | k + 1 => by
    obtain ⟨ih0, ih1, ih2⟩ := goosenecklaw01_PlaneParts.mono_l k
    refine ⟨?_, ?_, ?_⟩
    · intro y0 y1 y2 y3 y4 y5 y6 y7 y8 y9
      unfold goosenecklaw01_PlaneParts.j0
      repeat' first
      | (with_reducible exact ih0 _ _ _ _ _ _ _ _ _ _)
      | (with_reducible exact ih1 _ _ _ _ _ _ _ _ _ _ _ _ _)
      | (with_reducible exact ih2 _ _ _ _ _ _)
      | (with_reducible exact goosenecklaw01_few.mono _ _ _)
      | (with_reducible exact goosenecklaw01_works.mono _)
      | (with_reducible exact plane_CheckPart.mono _ _ _ _ _ _)
      | (with_reducible exact plane_Gap.mono _ _ _)
      | (with_reducible exact plane_Hull.mono _ _)
      | (with_reducible exact plane_Inside.mono _ _ _ _)
      | (with_reducible exact LeO.refl _)
      | (with_reducible exact LeO.none _)
      | (with_reducible refine LeO.ite ?_ ?_)
      | (with_reducible refine LeO.bind ?_ (fun _ => ?_))
      | exact ih0 _ _ _ _ _ _ _ _ _ _
      | exact ih1 _ _ _ _ _ _ _ _ _ _ _ _ _
      | exact ih2 _ _ _ _ _ _
      | exact goosenecklaw01_few.mono _ _ _
      | exact goosenecklaw01_works.mono _
      | exact plane_CheckPart.mono _ _ _ _ _ _
      | exact plane_Gap.mono _ _ _
      | exact plane_Hull.mono _ _
      | exact plane_Inside.mono _ _ _ _
      | exact LeO.none _
      | refine LeO.ite ?_ ?_
      | refine LeO.bind ?_ (fun _ => ?_)
    · intro y0 y1 y2 y3 y4 y5 y6 y7 y8 y9 y10 y11 y12
      unfold goosenecklaw01_PlaneParts.j1
      repeat' first
      | (with_reducible exact ih0 _ _ _ _ _ _ _ _ _ _)
      | (with_reducible exact ih1 _ _ _ _ _ _ _ _ _ _ _ _ _)
      | (with_reducible exact ih2 _ _ _ _ _ _)
      | (with_reducible exact goosenecklaw01_few.mono _ _ _)
      | (with_reducible exact goosenecklaw01_works.mono _)
      | (with_reducible exact plane_CheckPart.mono _ _ _ _ _ _)
      | (with_reducible exact plane_Gap.mono _ _ _)
      | (with_reducible exact plane_Hull.mono _ _)
      | (with_reducible exact plane_Inside.mono _ _ _ _)
      | (with_reducible exact LeO.refl _)
      | (with_reducible exact LeO.none _)
      | (with_reducible refine LeO.ite ?_ ?_)
      | (with_reducible refine LeO.bind ?_ (fun _ => ?_))
      | exact ih0 _ _ _ _ _ _ _ _ _ _
      | exact ih1 _ _ _ _ _ _ _ _ _ _ _ _ _
      | exact ih2 _ _ _ _ _ _
      | exact goosenecklaw01_few.mono _ _ _
      | exact goosenecklaw01_works.mono _
      | exact plane_CheckPart.mono _ _ _ _ _ _
      | exact plane_Gap.mono _ _ _
      | exact plane_Hull.mono _ _
      | exact plane_Inside.mono _ _ _ _
      | exact LeO.none _
      | refine LeO.ite ?_ ?_
      | refine LeO.bind ?_ (fun _ => ?_)
    · intro y0 y1 y2 y3 y4 y5
      unfold goosenecklaw01_PlaneParts.j2
      repeat' first
      | (with_reducible exact ih0 _ _ _ _ _ _ _ _ _ _)
      | (with_reducible exact ih1 _ _ _ _ _ _ _ _ _ _ _ _ _)
      | (with_reducible exact ih2 _ _ _ _ _ _)
      | (with_reducible exact goosenecklaw01_few.mono _ _ _)
      | (with_reducible exact goosenecklaw01_works.mono _)
      | (with_reducible exact plane_CheckPart.mono _ _ _ _ _ _)
      | (with_reducible exact plane_Gap.mono _ _ _)
      | (with_reducible exact plane_Hull.mono _ _)
      | (with_reducible exact plane_Inside.mono _ _ _ _)
      | (with_reducible exact LeO.refl _)
      | (with_reducible exact LeO.none _)
      | (with_reducible refine LeO.ite ?_ ?_)
      | (with_reducible refine LeO.bind ?_ (fun _ => ?_))
      | exact ih0 _ _ _ _ _ _ _ _ _ _
      | exact ih1 _ _ _ _ _ _ _ _ _ _ _ _ _
      | exact ih2 _ _ _ _ _ _
      | exact goosenecklaw01_few.mono _ _ _
      | exact goosenecklaw01_works.mono _
      | exact plane_CheckPart.mono _ _ _ _ _ _
      | exact plane_Gap.mono _ _ _
      | exact plane_Hull.mono _ _
      | exact plane_Inside.mono _ _ _ _
      | exact LeO.none _
      | refine LeO.ite ?_ ?_
      | refine LeO.bind ?_ (fun _ => ?_)
theorem goosenecklaw01_PlaneParts.mono : ∀ a0 a1 a2 a3 a4 a5 a6 k, LeO (goosenecklaw01_PlaneParts.f k a0 a1 a2 a3 a4 a5 a6) (goosenecklaw01_PlaneParts.f (k + 1) a0 a1 a2 a3 a4 a5 a6) := by
  intro a0 a1 a2 a3 a4 a5 a6 k
  obtain ⟨ih0, ih1, ih2⟩ := goosenecklaw01_PlaneParts.mono_l k
  unfold goosenecklaw01_PlaneParts.f
  repeat' first
      | (with_reducible exact ih0 _ _ _ _ _ _ _ _ _ _)
      | (with_reducible exact ih1 _ _ _ _ _ _ _ _ _ _ _ _ _)
      | (with_reducible exact ih2 _ _ _ _ _ _)
      | (with_reducible exact goosenecklaw01_few.mono _ _ _)
      | (with_reducible exact goosenecklaw01_works.mono _)
      | (with_reducible exact plane_CheckPart.mono _ _ _ _ _ _)
      | (with_reducible exact plane_Gap.mono _ _ _)
      | (with_reducible exact plane_Hull.mono _ _)
      | (with_reducible exact plane_Inside.mono _ _ _ _)
      | (with_reducible exact LeO.refl _)
      | (with_reducible exact LeO.none _)
      | (with_reducible refine LeO.ite ?_ ?_)
      | (with_reducible refine LeO.bind ?_ (fun _ => ?_))
      | exact ih0 _ _ _ _ _ _ _ _ _ _
      | exact ih1 _ _ _ _ _ _ _ _ _ _ _ _ _
      | exact ih2 _ _ _ _ _ _
      | exact goosenecklaw01_few.mono _ _ _
      | exact goosenecklaw01_works.mono _
      | exact plane_CheckPart.mono _ _ _ _ _ _
      | exact plane_Gap.mono _ _ _
      | exact plane_Hull.mono _ _
      | exact plane_Inside.mono _ _ _ _
      | exact LeO.none _
      | refine LeO.ite ?_ ?_
      | refine LeO.bind ?_ (fun _ => ?_)
set_option maxHeartbeats 8000000 in
set_option maxRecDepth 100000 in
theorem goosenecklaw01_PlaneParts.calls (k : Nat) (A0 : Option Addr) (c0 : Nat) (l0 : List (S32)) (A1 : Option Addr) (c1 : Nat) (l1 : List (S32)) (a2_0 : Int) (a2_1 : Int) (a2_2 : Int) (a3_0 : Int) (a3_1 : Int) (r : Bool) (w : World) (hr0 : Kd.C k32 w A0 l0.length l0) (hc0 : l0.length ≤ c0) (hr1 : Kd.C k32 w A1 l1.length l1) (hc1 : l1.length ≤ c1) (hr_ : Aside0 (r = true)) (h : goosenecklaw01_PlaneParts.f k l0 l1 a2_0 a2_1 a2_2 a3_0 a3_1 = some r) :
    Calls Try.prog 14 #[.slice A0 l0.length c0, .slice A1 l1.length c1, .agg #[.int .i64 a2_0, .int .i64 a2_1, .int .i64 a2_2], .agg #[.int .i8 a3_0, .int .i8 a3_1]] w fun e w' => e = .returned (.bool r) ∧ Below w.heap.size w w' := by
  have hu75 := Try.underlying75
  have hu32 := Try.underlying32
  have hu23 := Try.underlying23
  have HR0 := Aside0.mk hr0
  have HC0 := Aside0.mk hc0
  clear hr0 hc0
  have HR1 := Aside0.mk hr1
  have HC1 := Aside0.mk hc1
  clear hr1 hc1
  have HB := Aside0.mk (Below.refl w.heap.size w)
  have H : ((goosenecklaw01_few.f k l0 8).bind fun t103 => ((plane_Hull.f k t103).bind fun bt106 => ((goosenecklaw01_few.f k l1 8).bind fun t110 => ((plane_Hull.f k t110).bind fun bt113 => (if bt106.2 = 0 then (goosenecklaw01_PlaneParts.j0 k l0 l1 bt106.1 bt113.1 (bt113.2 != 0) a2_0 a2_1 a2_2 a3_0 a3_1) else (goosenecklaw01_PlaneParts.j0 k l0 l1 bt106.1 bt113.1 true a2_0 a2_1 a2_2 a3_0 a3_1)))))) = some r := h
  clear h
  replace H := Option.bind_eq_some_iff.mp H
  obtain ⟨t103, A50, H⟩ := H
  replace H : ((plane_Hull.f k t103).bind fun bt106 => ((goosenecklaw01_few.f k l1 8).bind fun t110 => ((plane_Hull.f k t110).bind fun bt113 => (if bt106.2 = 0 then (goosenecklaw01_PlaneParts.j0 k l0 l1 bt106.1 bt113.1 (bt113.2 != 0) a2_0 a2_1 a2_2 a3_0 a3_1) else (goosenecklaw01_PlaneParts.j0 k l0 l1 bt106.1 bt113.1 true a2_0 a2_1 a2_2 a3_0 a3_1))))) = some r := H
  have A5 := Aside0.mk A50
  clear A50
  replace H := Option.bind_eq_some_iff.mp H
  obtain ⟨⟨t106, t109⟩, A60, H⟩ := H
  replace H : ((goosenecklaw01_few.f k l1 8).bind fun t110 => ((plane_Hull.f k t110).bind fun bt113 => (if t109 = 0 then (goosenecklaw01_PlaneParts.j0 k l0 l1 t106 bt113.1 (bt113.2 != 0) a2_0 a2_1 a2_2 a3_0 a3_1) else (goosenecklaw01_PlaneParts.j0 k l0 l1 t106 bt113.1 true a2_0 a2_1 a2_2 a3_0 a3_1)))) = some r := H
  have A6 := Aside0.mk A60
  clear A60
  replace H := Option.bind_eq_some_iff.mp H
  obtain ⟨t110, A70, H⟩ := H
  replace H : ((plane_Hull.f k t110).bind fun bt113 => (if t109 = 0 then (goosenecklaw01_PlaneParts.j0 k l0 l1 t106 bt113.1 (bt113.2 != 0) a2_0 a2_1 a2_2 a3_0 a3_1) else (goosenecklaw01_PlaneParts.j0 k l0 l1 t106 bt113.1 true a2_0 a2_1 a2_2 a3_0 a3_1))) = some r := H
  have A7 := Aside0.mk A70
  clear A70
  replace H := Option.bind_eq_some_iff.mp H
  obtain ⟨⟨t113, t116⟩, A80, H⟩ := H
  replace H : (if t109 = 0 then (goosenecklaw01_PlaneParts.j0 k l0 l1 t106 t113 (t116 != 0) a2_0 a2_1 a2_2 a3_0 a3_1) else (goosenecklaw01_PlaneParts.j0 k l0 l1 t106 t113 true a2_0 a2_1 a2_2 a3_0 a3_1)) = some r := H
  have A8 := Aside0.mk A80
  clear A80
  have HC9 := Aside0.mk H
  clear H
  go_enter Try.func14, Try.ntmps14
  go_upto_region 3 with (first | ((with_reducible refine gate_dst (N := 6) rfl ?_); (try (refine gate_guard (by rfl) ?_; dsimp only)); refine box_event ?hg (N := 6) ?hd (cs := #[.int .i64 a2_0, .int .i64 a2_1, .int .i64 a2_2]) (t := 75) ?hr ?_; (case hd => rfl); (case hg => rfl); (case hr => first | (go_simp; done) | (go_simp; rfl)); intro gb101 hg w10 hbox hb; have n0_ := Aside0.mk (below_step (by repeat (first | (with_reducible first | exact HB.out | apply below_alloc | apply pw_below_drewN | apply below_drew1) | exact HB.out)) hb); have n1_ := Aside0.mk (hbox); have n2_ := Aside0.mk ((by rw [hg]; exact (below_size (by repeat (first | (with_reducible first | exact HB.out | apply below_alloc | apply pw_below_drewN | apply below_drew1) | exact HB.out))) : w.heap.size ≤ gb101)); have n3_ := Aside0.mk ((by rw [hg]; exact (below_size (by repeat (first | (with_reducible first | exact HB.out | apply below_alloc | apply pw_below_drewN | apply below_drew1) | exact HB.out))) : w.heap.size ≤ gb101)); clear HB; have HB := n0_; have BK101 := n1_; have GW101 := n2_; have GE101 := n3_; clear n0_ n1_ n2_ n3_; clear hb hbox hg) | ((with_reducible refine gate_dst (N := 7) rfl ?_); (try (refine gate_guard (by rfl) ?_; dsimp only)); refine box_event ?hg (N := 7) ?hd (cs := #[.int .i8 a3_0, .int .i8 a3_1]) (t := 32) ?hr ?_; (case hd => rfl); (case hg => rfl); (case hr => first | (go_simp; done) | (go_simp; rfl)); intro gb102 hg w11 hbox hb; have n0_ := Aside0.mk (blk_below (g := gb101) (o := .cells #[.int .i64 a2_0, .int .i64 a2_1, .int .i64 a2_2] 75 (0, 0)) (by (with_reducible repeat (first | refine blk_drewN ?_ _ | refine blk_drew ?_ | refine blk_alloc ?_ _)); exact BK101.out) hb); have n1_ := Aside0.mk (below_step (by repeat (first | (with_reducible first | exact HB.out | apply below_alloc | apply pw_below_drewN | apply below_drew1 | refine below_set ?_ GE101.out) | exact HB.out)) hb); have n2_ := Aside0.mk (hbox); have n3_ := Aside0.mk ((by rw [hg]; exact (below_size (by repeat (first | (with_reducible first | exact HB.out | apply below_alloc | apply pw_below_drewN | apply below_drew1 | refine below_set ?_ GE101.out) | exact HB.out))) : w.heap.size ≤ gb102)); have n4_ := Aside0.mk ((by rw [hg]; exact (below_size (by repeat (first | (with_reducible first | exact HB.out | apply below_alloc | apply pw_below_drewN | apply below_drew1 | refine below_set ?_ GE101.out) | exact HB.out))) : w.heap.size ≤ gb102)); have n5_ := Aside0.mk ((by rw [hg]; exact Nat.ne_of_lt (blk_lt (g := gb101) (o := .cells #[.int .i64 a2_0, .int .i64 a2_1, .int .i64 a2_2] 75 (0, 0)) (by (with_reducible repeat (first | refine blk_drewN ?_ _ | refine blk_drew ?_ | refine blk_alloc ?_ _)); exact BK101.out)) : gb101 ≠ gb102)); have n6_ := Aside0.mk ((by rw [hg]; exact Nat.ne_of_gt (blk_lt (g := gb101) (o := .cells #[.int .i64 a2_0, .int .i64 a2_1, .int .i64 a2_2] 75 (0, 0)) (by (with_reducible repeat (first | refine blk_drewN ?_ _ | refine blk_drew ?_ | refine blk_alloc ?_ _)); exact BK101.out)) : gb102 ≠ gb101)); clear BK101; clear HB; have BK101 := n0_; have HB := n1_; have BK102 := n2_; have GW102 := n3_; have GE102 := n4_; have NB101_102 := n5_; have NB102_101 := n6_; clear n0_ n1_ n2_ n3_ n4_ n5_ n6_; clear hb hbox hg) | ((with_reducible refine gate_callee (f := 45) rfl ?_); refine goesL_ (some 26) rfl rfl Try.func45 (by kernel_rfl) rfl #[.slice A0 l0.length c0, .int .i64 8] rfl (by (try simp only [List.map_toArray, List.map_cons, List.map_nil]); first | done | rfl | (simp only [List.length_drop, List.length_take]; rfl)) ?_; (with_reducible refine (goosenecklaw01_few.calls k _ _ l0 8 t103 _ ?side1 ?side2 A5.out).mono ?_); (case side1 => repeat (first | exact (Kd.C_below HR0.out HB.out) | (with_reducible refine Kd.C_alloc ?_ _) | (with_reducible refine Kd.C_drewN ?_ _) | (with_reducible refine Kd.C_drew ?_))); (case side2 => exact HC0.out); rintro e w12 ⟨v104, rfl, ho0, hb⟩; refine ⟨_, rfl, ?_⟩; have n0_ := Aside0.mk (Kd.R_lower ho0 (below_size (by repeat (first | (with_reducible first | exact HB.out | apply below_alloc | apply pw_below_drewN | apply below_drew1 | refine below_set ?_ GE101.out | refine below_set ?_ GE102.out) | exact HB.out)))); have n1_ := Aside0.mk (blk_below (g := gb101) (o := .cells #[.int .i64 a2_0, .int .i64 a2_1, .int .i64 a2_2] 75 (0, 0)) (by (with_reducible repeat (first | refine blk_drewN ?_ _ | refine blk_drew ?_ | refine blk_alloc ?_ _)); exact BK101.out) hb); have n2_ := Aside0.mk (blk_below (g := gb102) (o := .cells #[.int .i8 a3_0, .int .i8 a3_1] 32 (0, 0)) (by (with_reducible repeat (first | refine blk_drewN ?_ _ | refine blk_drew ?_ | refine blk_alloc ?_ _)); exact BK102.out) hb); have n3_ := Aside0.mk (below_step (by repeat (first | (with_reducible first | exact HB.out | apply below_alloc | apply pw_below_drewN | apply below_drew1 | refine below_set ?_ GE101.out | refine below_set ?_ GE102.out) | exact HB.out)) hb); clear BK101; clear BK102; clear HB; have HO105 := n0_; have BK101 := n1_; have BK102 := n2_; have HB := n3_; clear n0_ n1_ n2_ n3_; (try clear hb); (try clear hb2); (try clear hk); (try clear hi); (try clear ho0); obtain ⟨Ao13, co13, eo13⟩ := Kd.R_slice HO105.out; subst eo13) | ((with_reducible refine gate_callee (f := 46) rfl ?_); refine goesL_ (some 27) rfl rfl Try.func46 (by kernel_rfl) rfl #[.slice Ao13 t103.length co13] rfl (by (try simp only [List.map_toArray, List.map_cons, List.map_nil]); first | done | rfl | (simp only [List.length_drop, List.length_take]; rfl)) ?_; (with_reducible refine (plane_Hull.calls k (fun k_ => some k_ = (.slice Ao13 t103.length co13 : Value).ownBlock) _ _ t103 t106 t109 _ ?side1 A6.out).mono ?_); (case side1 => exact Kd.R_V (Kd.R_tight rfl (Kd.R_types (Kd.R_types (HO105.out) BK101.out (by decide)) BK102.out (by decide)))); rintro e w14 ⟨v107, rfl, ho0, hb⟩; refine ⟨_, rfl, ?_⟩; have n0_ := Aside0.mk (Kd.R_elder' (by (with_reducible repeat (first | apply Kd.R_alloc | apply Kd.R_drewN | apply Kd.R_drew)); exact HO105.out) (Kd.R_base ho0) hb); have n1_ := Aside0.mk (Kd.R_lower (Kd.R_new' (Kd.R_mono (ok' := fun k_ => True) ho0 (fun _ hk_ => trivial)) (Kd.R_lt (by (with_reducible repeat (first | apply Kd.R_alloc | apply Kd.R_drewN | apply Kd.R_drew)); exact HO105.out))) (below_size (by repeat (first | (with_reducible first | exact HB.out | apply below_alloc | apply pw_below_drewN | apply below_drew1 | refine below_set ?_ GE101.out | refine below_set ?_ GE102.out) | exact HB.out)))); have n2_ := Aside0.mk (blk_below (g := gb101) (o := .cells #[.int .i64 a2_0, .int .i64 a2_1, .int .i64 a2_2] 75 (0, 0)) (by (with_reducible repeat (first | refine blk_drewN ?_ _ | refine blk_drew ?_ | refine blk_alloc ?_ _)); exact BK101.out) hb); have n3_ := Aside0.mk (blk_below (g := gb102) (o := .cells #[.int .i8 a3_0, .int .i8 a3_1] 32 (0, 0)) (by (with_reducible repeat (first | refine blk_drewN ?_ _ | refine blk_drew ?_ | refine blk_alloc ?_ _)); exact BK102.out) hb); have n4_ := Aside0.mk (below_step (by repeat (first | (with_reducible first | exact HB.out | apply below_alloc | apply pw_below_drewN | apply below_drew1 | refine below_set ?_ GE101.out | refine below_set ?_ GE102.out) | exact HB.out)) hb); clear HO105; clear BK101; clear BK102; clear HB; have HO105 := n0_; have HO108 := n1_; have BK101 := n2_; have BK102 := n3_; have HB := n4_; clear n0_ n1_ n2_ n3_ n4_; (try clear hb); (try clear hb2); (try clear hk); (try clear hi); (try clear ho0)) | ((with_reducible refine gate_callee (f := 45) rfl ?_); refine goesL_ (some 32) rfl rfl Try.func45 (by kernel_rfl) rfl #[.slice A1 l1.length c1, .int .i64 8] rfl (by (try simp only [List.map_toArray, List.map_cons, List.map_nil]); first | done | rfl | (simp only [List.length_drop, List.length_take]; rfl)) ?_; (with_reducible refine (goosenecklaw01_few.calls k _ _ l1 8 t110 _ ?side1 ?side2 A7.out).mono ?_); (case side1 => repeat (first | exact (Kd.C_below HR1.out HB.out) | (with_reducible refine Kd.C_alloc ?_ _) | (with_reducible refine Kd.C_drewN ?_ _) | (with_reducible refine Kd.C_drew ?_))); (case side2 => exact HC1.out); rintro e w15 ⟨v111, rfl, ho0, hb⟩; refine ⟨_, rfl, ?_⟩; have n0_ := Aside0.mk (Kd.R_elder' (by (with_reducible repeat (first | apply Kd.R_alloc | apply Kd.R_drewN | apply Kd.R_drew)); exact HO105.out) (Kd.R_base ho0) hb); have n1_ := Aside0.mk (Kd.R_elder' (by (with_reducible repeat (first | apply Kd.R_alloc | apply Kd.R_drewN | apply Kd.R_drew)); exact HO108.out) (Kd.R_base ho0) hb); have n2_ := Aside0.mk (Kd.R_lower (Kd.R_new' (Kd.R_new' ho0 (Kd.R_lt (by (with_reducible repeat (first | apply Kd.R_alloc | apply Kd.R_drewN | apply Kd.R_drew)); exact HO105.out))) (Kd.R_lt (by (with_reducible repeat (first | apply Kd.R_alloc | apply Kd.R_drewN | apply Kd.R_drew)); exact HO108.out))) (below_size (by repeat (first | (with_reducible first | exact HB.out | apply below_alloc | apply pw_below_drewN | apply below_drew1 | refine below_set ?_ GE101.out | refine below_set ?_ GE102.out) | exact HB.out)))); have n3_ := Aside0.mk (blk_below (g := gb101) (o := .cells #[.int .i64 a2_0, .int .i64 a2_1, .int .i64 a2_2] 75 (0, 0)) (by (with_reducible repeat (first | refine blk_drewN ?_ _ | refine blk_drew ?_ | refine blk_alloc ?_ _)); exact BK101.out) hb); have n4_ := Aside0.mk (blk_below (g := gb102) (o := .cells #[.int .i8 a3_0, .int .i8 a3_1] 32 (0, 0)) (by (with_reducible repeat (first | refine blk_drewN ?_ _ | refine blk_drew ?_ | refine blk_alloc ?_ _)); exact BK102.out) hb); have n5_ := Aside0.mk (below_step (by repeat (first | (with_reducible first | exact HB.out | apply below_alloc | apply pw_below_drewN | apply below_drew1 | refine below_set ?_ GE101.out | refine below_set ?_ GE102.out) | exact HB.out)) hb); clear HO105; clear HO108; clear BK101; clear BK102; clear HB; have HO105 := n0_; have HO108 := n1_; have HO112 := n2_; have BK101 := n3_; have BK102 := n4_; have HB := n5_; clear n0_ n1_ n2_ n3_ n4_ n5_; (try clear hb); (try clear hb2); (try clear hk); (try clear hi); (try clear ho0); obtain ⟨Ao16, co16, eo16⟩ := Kd.R_slice HO112.out; subst eo16) | ((with_reducible refine gate_callee (f := 46) rfl ?_); refine goesL_ (some 33) rfl rfl Try.func46 (by kernel_rfl) rfl #[.slice Ao16 t110.length co16] rfl (by (try simp only [List.map_toArray, List.map_cons, List.map_nil]); first | done | rfl | (simp only [List.length_drop, List.length_take]; rfl)) ?_; (with_reducible refine (plane_Hull.calls k (fun k_ => some k_ = (.slice Ao16 t110.length co16 : Value).ownBlock) _ _ t110 t113 t116 _ ?side1 A8.out).mono ?_); (case side1 => exact Kd.R_V (Kd.R_tight rfl (Kd.R_types (Kd.R_types (HO112.out) BK101.out (by decide)) BK102.out (by decide)))); rintro e w17 ⟨v114, rfl, ho0, hb⟩; refine ⟨_, rfl, ?_⟩; have n0_ := Aside0.mk (Kd.R_elder' (by (with_reducible repeat (first | apply Kd.R_alloc | apply Kd.R_drewN | apply Kd.R_drew)); exact HO105.out) (Kd.R_base ho0) hb); have n1_ := Aside0.mk (Kd.R_elder' (by (with_reducible repeat (first | apply Kd.R_alloc | apply Kd.R_drewN | apply Kd.R_drew)); exact HO108.out) (Kd.R_base ho0) hb); have n2_ := Aside0.mk (Kd.R_elder' (by (with_reducible repeat (first | apply Kd.R_alloc | apply Kd.R_drewN | apply Kd.R_drew)); exact HO112.out) (Kd.R_base ho0) hb); have n3_ := Aside0.mk (Kd.R_lower (Kd.R_new' (Kd.R_new' (Kd.R_new' (Kd.R_mono (ok' := fun k_ => True) ho0 (fun _ hk_ => trivial)) (Kd.R_lt (by (with_reducible repeat (first | apply Kd.R_alloc | apply Kd.R_drewN | apply Kd.R_drew)); exact HO105.out))) (Kd.R_lt (by (with_reducible repeat (first | apply Kd.R_alloc | apply Kd.R_drewN | apply Kd.R_drew)); exact HO108.out))) (Kd.R_lt (by (with_reducible repeat (first | apply Kd.R_alloc | apply Kd.R_drewN | apply Kd.R_drew)); exact HO112.out))) (below_size (by repeat (first | (with_reducible first | exact HB.out | apply below_alloc | apply pw_below_drewN | apply below_drew1 | refine below_set ?_ GE101.out | refine below_set ?_ GE102.out) | exact HB.out)))); have n4_ := Aside0.mk (blk_below (g := gb101) (o := .cells #[.int .i64 a2_0, .int .i64 a2_1, .int .i64 a2_2] 75 (0, 0)) (by (with_reducible repeat (first | refine blk_drewN ?_ _ | refine blk_drew ?_ | refine blk_alloc ?_ _)); exact BK101.out) hb); have n5_ := Aside0.mk (blk_below (g := gb102) (o := .cells #[.int .i8 a3_0, .int .i8 a3_1] 32 (0, 0)) (by (with_reducible repeat (first | refine blk_drewN ?_ _ | refine blk_drew ?_ | refine blk_alloc ?_ _)); exact BK102.out) hb); have n6_ := Aside0.mk (below_step (by repeat (first | (with_reducible first | exact HB.out | apply below_alloc | apply pw_below_drewN | apply below_drew1 | refine below_set ?_ GE101.out | refine below_set ?_ GE102.out) | exact HB.out)) hb); clear HO105; clear HO108; clear HO112; clear BK101; clear BK102; clear HB; have HO105 := n0_; have HO108 := n1_; have HO112 := n2_; have HO115 := n3_; have BK101 := n4_; have BK102 := n5_; have HB := n6_; clear n0_ n1_ n2_ n3_ n4_ n5_ n6_; (try clear hb); (try clear hb2); (try clear hk); (try clear hi); (try clear ho0)))
  (try simp only [Act.put, List.setIfInBounds_toArray, List.set_cons_zero, List.set_cons_succ])
  go_cut [41] (fun v41 wc => ∃ (kq : Nat) (x41_8 : Bool), v41 = .bool x41_8 ∧ Aside0 (goosenecklaw01_PlaneParts.j0 kq l0 l1 t106 t113 x41_8 a2_0 a2_1 a2_2 a3_0 a3_1 = some r) ∧ Aside0 (kq ≤ k) ∧ Aside0 (Kd.R k23 23 wc w.heap.size (fun k_ => some k_ ≠ (v114 : Value).ownBlock) v107 t106) ∧ Aside0 (Kd.R k23 23 wc w.heap.size (fun k_ => some k_ ≠ (v107 : Value).ownBlock) v114 t113) ∧ Aside0 (wc.heap[gb101]? = some (.cells #[.int .i64 a2_0, .int .i64 a2_1, .int .i64 a2_2] 75 (0, 0))) ∧ Aside0 (wc.heap[gb102]? = some (.cells #[.int .i8 a3_0, .int .i8 a3_1] 32 (0, 0))) ∧ Aside0 (Below w.heap.size w wc))
  case first =>
    have H := HC9.out
    clear HC9
    by_cases c18 : t109 = 0
    · rw [if_pos c18] at H
      have c18b0 : (t109 == 0) = true := beq_iff_eq.mpr c18
      have c18b1 : (t109 != 0) = false := bne_eq_false_iff_eq.mpr c18
      clear c18
      (first | rw [c18b0] | (simp only [i64_w, i32_w]; rw [c18b0]) | skip)
      have H' := Aside0.mk H
      clear H
      go_wp2
      go_meet
      case rel => exact ⟨_, ((t116 != 0)), (by first | rfl | (simp; done) | (simp [*]; done)), H', ⟨by first | omega | exact Nat.le_refl _⟩, ⟨by (with_reducible repeat (first | apply Kd.R_alloc | apply Kd.R_drewN | apply Kd.R_drew)); exact Kd.R_mono HO108.out (fun _ hk => hk.2)⟩, ⟨by (with_reducible repeat (first | apply Kd.R_alloc | apply Kd.R_drewN | apply Kd.R_drew)); exact Kd.R_mono HO115.out (fun _ hk => hk.1.2)⟩, ⟨by (with_reducible repeat (first | refine blk_drewN ?_ _ | refine blk_drew ?_ | refine blk_alloc ?_ _)); exact BK101.out⟩, ⟨by (with_reducible repeat (first | refine blk_drewN ?_ _ | refine blk_drew ?_ | refine blk_alloc ?_ _)); exact BK102.out⟩, ⟨by repeat (first | (with_reducible first | exact HB.out | apply below_alloc | apply pw_below_drewN | apply below_drew1 | refine below_set ?_ GE101.out | refine below_set ?_ GE102.out) | exact HB.out)⟩⟩
    · rw [if_neg c18] at H
      have c18b0 : (t109 == 0) = false := beq_eq_false_iff_ne.mpr c18
      have c18b1 : (t109 != 0) = true := bne_iff_ne.mpr c18
      (first | rw [c18b0] | (simp only [i64_w, i32_w]; rw [c18b0]) | skip)
      have H' := Aside0.mk H
      clear H
      go_wp2
      go_meet
      case rel => exact ⟨_, (true), (by first | rfl | (simp; done) | (simp [*]; done)), H', ⟨by first | omega | exact Nat.le_refl _⟩, ⟨by (with_reducible repeat (first | apply Kd.R_alloc | apply Kd.R_drewN | apply Kd.R_drew)); exact Kd.R_mono HO108.out (fun _ hk => hk.2)⟩, ⟨by (with_reducible repeat (first | apply Kd.R_alloc | apply Kd.R_drewN | apply Kd.R_drew)); exact Kd.R_mono HO115.out (fun _ hk => hk.1.2)⟩, ⟨by (with_reducible repeat (first | refine blk_drewN ?_ _ | refine blk_drew ?_ | refine blk_alloc ?_ _)); exact BK101.out⟩, ⟨by (with_reducible repeat (first | refine blk_drewN ?_ _ | refine blk_drew ?_ | refine blk_alloc ?_ _)); exact BK102.out⟩, ⟨by repeat (first | (with_reducible first | exact HB.out | apply below_alloc | apply pw_below_drewN | apply below_drew1 | refine below_set ?_ GE101.out | refine below_set ?_ GE102.out) | exact HB.out)⟩⟩
  case rest =>
    as_aux_lemma =>
    clear HC9
    try clear c1
    try clear p2
    try clear c4
    try clear c14
    try clear c18
    try clear c18b0
    try clear c18b1
    obtain ⟨kq, x41_8, rfl, HA, HJ8, HO_9, HO_11, BK101, BK102, HB⟩ := hcut
    cases kq with
    | zero => exact absurd HA.out (by simp [goosenecklaw01_PlaneParts.j0])
    | succ kj8 =>
      have H := HA.out
      clear HA
      simp only [goosenecklaw01_PlaneParts.j0] at H
      by_cases c19 : x41_8 = true
      · subst c19
        have H1 : (if (l0.length : Int) = 0 then ((goosenecklaw01_works.f kj8).bind fun t117 => (some t117)) else (if (l1.length : Int) = 0 then ((goosenecklaw01_works.f kj8).bind fun t118 => (some t118)) else (some false))) = some r := by rw [if_pos rfl] at H; exact H
        clear H
        have H := H1
        clear H1
        by_cases c20 : (l0.length : Int) = 0
        · rw [if_pos c20] at H
          have c20b0 : ((l0.length : Int) == 0) = true := beq_iff_eq.mpr c20
          have c20b1 : ((l0.length : Int) != 0) = false := bne_eq_false_iff_eq.mpr c20
          clear c20
          replace H := Option.bind_eq_some_iff.mp H
          obtain ⟨t117, A210, H⟩ := H
          replace H : (some t117) = some r := H
          have A21 := Aside0.mk A210
          clear A210
          obtain rfl := Option.some.inj H
          go_wp2_with (first | (go_at_call 19; (with_reducible refine (goosenecklaw01_works.calls kj8  t117 _ A21.out).mono ?_); rintro e w22 ⟨rfl, hb⟩; have n0_ := Aside0.mk (Kd.R_below (by (with_reducible repeat (first | apply Kd.R_alloc | apply Kd.R_drewN | apply Kd.R_drew)); exact HO_9.out) hb); have n1_ := Aside0.mk (Kd.R_below (by (with_reducible repeat (first | apply Kd.R_alloc | apply Kd.R_drewN | apply Kd.R_drew)); exact HO_11.out) hb); have n2_ := Aside0.mk (blk_below (g := gb101) (o := .cells #[.int .i64 a2_0, .int .i64 a2_1, .int .i64 a2_2] 75 (0, 0)) (by (with_reducible repeat (first | refine blk_drewN ?_ _ | refine blk_drew ?_ | refine blk_alloc ?_ _)); exact BK101.out) hb); have n3_ := Aside0.mk (blk_below (g := gb102) (o := .cells #[.int .i8 a3_0, .int .i8 a3_1] 32 (0, 0)) (by (with_reducible repeat (first | refine blk_drewN ?_ _ | refine blk_drew ?_ | refine blk_alloc ?_ _)); exact BK102.out) hb); have n4_ := Aside0.mk (below_step (by repeat (first | (with_reducible first | exact HB.out | apply below_alloc | apply pw_below_drewN | apply below_drew1 | refine below_set ?_ GE101.out | refine below_set ?_ GE102.out) | exact HB.out)) hb); clear HO_9; clear HO_11; clear BK101; clear BK102; clear HB; have HO_9 := n0_; have HO_11 := n1_; have BK101 := n2_; have BK102 := n3_; have HB := n4_; clear n0_ n1_ n2_ n3_ n4_; (try clear hb); (try clear hb2); (try clear hk); (try clear hi)))
          go_ret
          exact ⟨by first | rfl | (simp [errW_none, errW_some] <;> rfl) | (simp [*, errW_none, errW_some] <;> rfl), by repeat (first | (with_reducible first | exact HB.out | apply below_alloc | apply pw_below_drewN | apply below_drew1 | refine below_set ?_ GE101.out | refine below_set ?_ GE102.out) | exact HB.out)⟩
        · rw [if_neg c20] at H
          have c20b0 : ((l0.length : Int) == 0) = false := beq_eq_false_iff_ne.mpr c20
          have c20b1 : ((l0.length : Int) != 0) = true := bne_iff_ne.mpr c20
          have c20b2 : ¬ (l0 = []) := fun h_ => c20 (by rw [h_]; rfl)
          by_cases c23 : (l1.length : Int) = 0
          · rw [if_pos c23] at H
            have c23b0 : ((l1.length : Int) == 0) = true := beq_iff_eq.mpr c23
            have c23b1 : ((l1.length : Int) != 0) = false := bne_eq_false_iff_eq.mpr c23
            clear c23
            replace H := Option.bind_eq_some_iff.mp H
            obtain ⟨t118, A240, H⟩ := H
            replace H : (some t118) = some r := H
            have A24 := Aside0.mk A240
            clear A240
            obtain rfl := Option.some.inj H
            go_wp2_with (first | (go_at_call 19; (with_reducible refine (goosenecklaw01_works.calls kj8  t118 _ A24.out).mono ?_); rintro e w25 ⟨rfl, hb⟩; have n0_ := Aside0.mk (Kd.R_below (by (with_reducible repeat (first | apply Kd.R_alloc | apply Kd.R_drewN | apply Kd.R_drew)); exact HO_9.out) hb); have n1_ := Aside0.mk (Kd.R_below (by (with_reducible repeat (first | apply Kd.R_alloc | apply Kd.R_drewN | apply Kd.R_drew)); exact HO_11.out) hb); have n2_ := Aside0.mk (blk_below (g := gb101) (o := .cells #[.int .i64 a2_0, .int .i64 a2_1, .int .i64 a2_2] 75 (0, 0)) (by (with_reducible repeat (first | refine blk_drewN ?_ _ | refine blk_drew ?_ | refine blk_alloc ?_ _)); exact BK101.out) hb); have n3_ := Aside0.mk (blk_below (g := gb102) (o := .cells #[.int .i8 a3_0, .int .i8 a3_1] 32 (0, 0)) (by (with_reducible repeat (first | refine blk_drewN ?_ _ | refine blk_drew ?_ | refine blk_alloc ?_ _)); exact BK102.out) hb); have n4_ := Aside0.mk (below_step (by repeat (first | (with_reducible first | exact HB.out | apply below_alloc | apply pw_below_drewN | apply below_drew1 | refine below_set ?_ GE101.out | refine below_set ?_ GE102.out) | exact HB.out)) hb); clear HO_9; clear HO_11; clear BK101; clear BK102; clear HB; have HO_9 := n0_; have HO_11 := n1_; have BK101 := n2_; have BK102 := n3_; have HB := n4_; clear n0_ n1_ n2_ n3_ n4_; (try clear hb); (try clear hb2); (try clear hk); (try clear hi)))
            go_ret
            exact ⟨by first | rfl | (simp [errW_none, errW_some] <;> rfl) | (simp [*, errW_none, errW_some] <;> rfl), by repeat (first | (with_reducible first | exact HB.out | apply below_alloc | apply pw_below_drewN | apply below_drew1 | refine below_set ?_ GE101.out | refine below_set ?_ GE102.out) | exact HB.out)⟩
          · rw [if_neg c23] at H
            have c23b0 : ((l1.length : Int) == 0) = false := beq_eq_false_iff_ne.mpr c23
            have c23b1 : ((l1.length : Int) != 0) = true := bne_iff_ne.mpr c23
            have c23b2 : ¬ (l1 = []) := fun h_ => c23 (by rw [h_]; rfl)
            rw [hr_.out] at H
            exact absurd H (by simp)
      · replace c19 := Bool.eq_false_iff.mpr c19
        subst c19
        have H1 : ((plane_Meet.f t106 t113).bind fun bt119 => ((plane_Meet.f t113 t106).bind fun bt121 => ((plane_Gap.f kj8 t106 t113).bind fun bt123 => ((plane_Gap.f kj8 t113 t106).bind fun bt125 => ((plane_Part.f t106 t113).bind fun bt127 => (if bt119.2 = 0 then (if bt121.2 = 0 then (if bt123.2 = 0 then (if bt125.2 = 0 then (if (bt119.1 != bt121.1) = true then (goosenecklaw01_PlaneParts.j1 kj8 t106 t113 bt119.1 bt127.2.2.2 true a2_0 a2_1 a2_2 a3_0 a3_1 bt127.1 bt127.2.1 bt127.2.2.1) else (if bt123.1 = bt125.1 then (if (bt119.1 != (bt123.1 == 0)) = true then (goosenecklaw01_PlaneParts.j1 kj8 t106 t113 bt119.1 bt127.2.2.2 true a2_0 a2_1 a2_2 a3_0 a3_1 bt127.1 bt127.2.1 bt127.2.2.1) else (if ((bt127.2.2.2 == 0) == bt119.1) = true then (goosenecklaw01_PlaneParts.j1 kj8 t106 t113 bt119.1 bt127.2.2.2 true a2_0 a2_1 a2_2 a3_0 a3_1 bt127.1 bt127.2.1 bt127.2.2.1) else (if bt127.2.2.2 = 0 then (goosenecklaw01_PlaneParts.j1 kj8 t106 t113 bt119.1 bt127.2.2.2 false a2_0 a2_1 a2_2 a3_0 a3_1 bt127.1 bt127.2.1 bt127.2.2.1) else (goosenecklaw01_PlaneParts.j1 kj8 t106 t113 bt119.1 bt127.2.2.2 (bt127.2.2.2 != 5) a2_0 a2_1 a2_2 a3_0 a3_1 bt127.1 bt127.2.1 bt127.2.2.1)))) else (goosenecklaw01_PlaneParts.j1 kj8 t106 t113 bt119.1 bt127.2.2.2 true a2_0 a2_1 a2_2 a3_0 a3_1 bt127.1 bt127.2.1 bt127.2.2.1))) else (goosenecklaw01_PlaneParts.j1 kj8 t106 t113 bt119.1 bt127.2.2.2 true a2_0 a2_1 a2_2 a3_0 a3_1 bt127.1 bt127.2.1 bt127.2.2.1)) else (goosenecklaw01_PlaneParts.j1 kj8 t106 t113 bt119.1 bt127.2.2.2 true a2_0 a2_1 a2_2 a3_0 a3_1 bt127.1 bt127.2.1 bt127.2.2.1)) else (goosenecklaw01_PlaneParts.j1 kj8 t106 t113 bt119.1 bt127.2.2.2 true a2_0 a2_1 a2_2 a3_0 a3_1 bt127.1 bt127.2.1 bt127.2.2.1)) else (goosenecklaw01_PlaneParts.j1 kj8 t106 t113 bt119.1 bt127.2.2.2 true a2_0 a2_1 a2_2 a3_0 a3_1 bt127.1 bt127.2.1 bt127.2.2.1))))))) = some r := by rw [if_neg (show ¬ (false = true) by decide)] at H; exact H
        clear H
        have H := H1
        clear H1
        replace H := Option.bind_eq_some_iff.mp H
        obtain ⟨⟨t119, t120⟩, A260, H⟩ := H
        replace H : ((plane_Meet.f t113 t106).bind fun bt121 => ((plane_Gap.f kj8 t106 t113).bind fun bt123 => ((plane_Gap.f kj8 t113 t106).bind fun bt125 => ((plane_Part.f t106 t113).bind fun bt127 => (if t120 = 0 then (if bt121.2 = 0 then (if bt123.2 = 0 then (if bt125.2 = 0 then (if (t119 != bt121.1) = true then (goosenecklaw01_PlaneParts.j1 kj8 t106 t113 t119 bt127.2.2.2 true a2_0 a2_1 a2_2 a3_0 a3_1 bt127.1 bt127.2.1 bt127.2.2.1) else (if bt123.1 = bt125.1 then (if (t119 != (bt123.1 == 0)) = true then (goosenecklaw01_PlaneParts.j1 kj8 t106 t113 t119 bt127.2.2.2 true a2_0 a2_1 a2_2 a3_0 a3_1 bt127.1 bt127.2.1 bt127.2.2.1) else (if ((bt127.2.2.2 == 0) == t119) = true then (goosenecklaw01_PlaneParts.j1 kj8 t106 t113 t119 bt127.2.2.2 true a2_0 a2_1 a2_2 a3_0 a3_1 bt127.1 bt127.2.1 bt127.2.2.1) else (if bt127.2.2.2 = 0 then (goosenecklaw01_PlaneParts.j1 kj8 t106 t113 t119 bt127.2.2.2 false a2_0 a2_1 a2_2 a3_0 a3_1 bt127.1 bt127.2.1 bt127.2.2.1) else (goosenecklaw01_PlaneParts.j1 kj8 t106 t113 t119 bt127.2.2.2 (bt127.2.2.2 != 5) a2_0 a2_1 a2_2 a3_0 a3_1 bt127.1 bt127.2.1 bt127.2.2.1)))) else (goosenecklaw01_PlaneParts.j1 kj8 t106 t113 t119 bt127.2.2.2 true a2_0 a2_1 a2_2 a3_0 a3_1 bt127.1 bt127.2.1 bt127.2.2.1))) else (goosenecklaw01_PlaneParts.j1 kj8 t106 t113 t119 bt127.2.2.2 true a2_0 a2_1 a2_2 a3_0 a3_1 bt127.1 bt127.2.1 bt127.2.2.1)) else (goosenecklaw01_PlaneParts.j1 kj8 t106 t113 t119 bt127.2.2.2 true a2_0 a2_1 a2_2 a3_0 a3_1 bt127.1 bt127.2.1 bt127.2.2.1)) else (goosenecklaw01_PlaneParts.j1 kj8 t106 t113 t119 bt127.2.2.2 true a2_0 a2_1 a2_2 a3_0 a3_1 bt127.1 bt127.2.1 bt127.2.2.1)) else (goosenecklaw01_PlaneParts.j1 kj8 t106 t113 t119 bt127.2.2.2 true a2_0 a2_1 a2_2 a3_0 a3_1 bt127.1 bt127.2.1 bt127.2.2.1)))))) = some r := H
        have A26 := Aside0.mk A260
        clear A260
        replace H := Option.bind_eq_some_iff.mp H
        obtain ⟨⟨t121, t122⟩, A270, H⟩ := H
        replace H : ((plane_Gap.f kj8 t106 t113).bind fun bt123 => ((plane_Gap.f kj8 t113 t106).bind fun bt125 => ((plane_Part.f t106 t113).bind fun bt127 => (if t120 = 0 then (if t122 = 0 then (if bt123.2 = 0 then (if bt125.2 = 0 then (if (t119 != t121) = true then (goosenecklaw01_PlaneParts.j1 kj8 t106 t113 t119 bt127.2.2.2 true a2_0 a2_1 a2_2 a3_0 a3_1 bt127.1 bt127.2.1 bt127.2.2.1) else (if bt123.1 = bt125.1 then (if (t119 != (bt123.1 == 0)) = true then (goosenecklaw01_PlaneParts.j1 kj8 t106 t113 t119 bt127.2.2.2 true a2_0 a2_1 a2_2 a3_0 a3_1 bt127.1 bt127.2.1 bt127.2.2.1) else (if ((bt127.2.2.2 == 0) == t119) = true then (goosenecklaw01_PlaneParts.j1 kj8 t106 t113 t119 bt127.2.2.2 true a2_0 a2_1 a2_2 a3_0 a3_1 bt127.1 bt127.2.1 bt127.2.2.1) else (if bt127.2.2.2 = 0 then (goosenecklaw01_PlaneParts.j1 kj8 t106 t113 t119 bt127.2.2.2 false a2_0 a2_1 a2_2 a3_0 a3_1 bt127.1 bt127.2.1 bt127.2.2.1) else (goosenecklaw01_PlaneParts.j1 kj8 t106 t113 t119 bt127.2.2.2 (bt127.2.2.2 != 5) a2_0 a2_1 a2_2 a3_0 a3_1 bt127.1 bt127.2.1 bt127.2.2.1)))) else (goosenecklaw01_PlaneParts.j1 kj8 t106 t113 t119 bt127.2.2.2 true a2_0 a2_1 a2_2 a3_0 a3_1 bt127.1 bt127.2.1 bt127.2.2.1))) else (goosenecklaw01_PlaneParts.j1 kj8 t106 t113 t119 bt127.2.2.2 true a2_0 a2_1 a2_2 a3_0 a3_1 bt127.1 bt127.2.1 bt127.2.2.1)) else (goosenecklaw01_PlaneParts.j1 kj8 t106 t113 t119 bt127.2.2.2 true a2_0 a2_1 a2_2 a3_0 a3_1 bt127.1 bt127.2.1 bt127.2.2.1)) else (goosenecklaw01_PlaneParts.j1 kj8 t106 t113 t119 bt127.2.2.2 true a2_0 a2_1 a2_2 a3_0 a3_1 bt127.1 bt127.2.1 bt127.2.2.1)) else (goosenecklaw01_PlaneParts.j1 kj8 t106 t113 t119 bt127.2.2.2 true a2_0 a2_1 a2_2 a3_0 a3_1 bt127.1 bt127.2.1 bt127.2.2.1))))) = some r := H
        have A27 := Aside0.mk A270
        clear A270
        replace H := Option.bind_eq_some_iff.mp H
        obtain ⟨⟨t123, t124⟩, A280, H⟩ := H
        replace H : ((plane_Gap.f kj8 t113 t106).bind fun bt125 => ((plane_Part.f t106 t113).bind fun bt127 => (if t120 = 0 then (if t122 = 0 then (if t124 = 0 then (if bt125.2 = 0 then (if (t119 != t121) = true then (goosenecklaw01_PlaneParts.j1 kj8 t106 t113 t119 bt127.2.2.2 true a2_0 a2_1 a2_2 a3_0 a3_1 bt127.1 bt127.2.1 bt127.2.2.1) else (if t123 = bt125.1 then (if (t119 != (t123 == 0)) = true then (goosenecklaw01_PlaneParts.j1 kj8 t106 t113 t119 bt127.2.2.2 true a2_0 a2_1 a2_2 a3_0 a3_1 bt127.1 bt127.2.1 bt127.2.2.1) else (if ((bt127.2.2.2 == 0) == t119) = true then (goosenecklaw01_PlaneParts.j1 kj8 t106 t113 t119 bt127.2.2.2 true a2_0 a2_1 a2_2 a3_0 a3_1 bt127.1 bt127.2.1 bt127.2.2.1) else (if bt127.2.2.2 = 0 then (goosenecklaw01_PlaneParts.j1 kj8 t106 t113 t119 bt127.2.2.2 false a2_0 a2_1 a2_2 a3_0 a3_1 bt127.1 bt127.2.1 bt127.2.2.1) else (goosenecklaw01_PlaneParts.j1 kj8 t106 t113 t119 bt127.2.2.2 (bt127.2.2.2 != 5) a2_0 a2_1 a2_2 a3_0 a3_1 bt127.1 bt127.2.1 bt127.2.2.1)))) else (goosenecklaw01_PlaneParts.j1 kj8 t106 t113 t119 bt127.2.2.2 true a2_0 a2_1 a2_2 a3_0 a3_1 bt127.1 bt127.2.1 bt127.2.2.1))) else (goosenecklaw01_PlaneParts.j1 kj8 t106 t113 t119 bt127.2.2.2 true a2_0 a2_1 a2_2 a3_0 a3_1 bt127.1 bt127.2.1 bt127.2.2.1)) else (goosenecklaw01_PlaneParts.j1 kj8 t106 t113 t119 bt127.2.2.2 true a2_0 a2_1 a2_2 a3_0 a3_1 bt127.1 bt127.2.1 bt127.2.2.1)) else (goosenecklaw01_PlaneParts.j1 kj8 t106 t113 t119 bt127.2.2.2 true a2_0 a2_1 a2_2 a3_0 a3_1 bt127.1 bt127.2.1 bt127.2.2.1)) else (goosenecklaw01_PlaneParts.j1 kj8 t106 t113 t119 bt127.2.2.2 true a2_0 a2_1 a2_2 a3_0 a3_1 bt127.1 bt127.2.1 bt127.2.2.1)))) = some r := H
        have A28 := Aside0.mk A280
        clear A280
        replace H := Option.bind_eq_some_iff.mp H
        obtain ⟨⟨t125, t126⟩, A290, H⟩ := H
        replace H : ((plane_Part.f t106 t113).bind fun bt127 => (if t120 = 0 then (if t122 = 0 then (if t124 = 0 then (if t126 = 0 then (if (t119 != t121) = true then (goosenecklaw01_PlaneParts.j1 kj8 t106 t113 t119 bt127.2.2.2 true a2_0 a2_1 a2_2 a3_0 a3_1 bt127.1 bt127.2.1 bt127.2.2.1) else (if t123 = t125 then (if (t119 != (t123 == 0)) = true then (goosenecklaw01_PlaneParts.j1 kj8 t106 t113 t119 bt127.2.2.2 true a2_0 a2_1 a2_2 a3_0 a3_1 bt127.1 bt127.2.1 bt127.2.2.1) else (if ((bt127.2.2.2 == 0) == t119) = true then (goosenecklaw01_PlaneParts.j1 kj8 t106 t113 t119 bt127.2.2.2 true a2_0 a2_1 a2_2 a3_0 a3_1 bt127.1 bt127.2.1 bt127.2.2.1) else (if bt127.2.2.2 = 0 then (goosenecklaw01_PlaneParts.j1 kj8 t106 t113 t119 bt127.2.2.2 false a2_0 a2_1 a2_2 a3_0 a3_1 bt127.1 bt127.2.1 bt127.2.2.1) else (goosenecklaw01_PlaneParts.j1 kj8 t106 t113 t119 bt127.2.2.2 (bt127.2.2.2 != 5) a2_0 a2_1 a2_2 a3_0 a3_1 bt127.1 bt127.2.1 bt127.2.2.1)))) else (goosenecklaw01_PlaneParts.j1 kj8 t106 t113 t119 bt127.2.2.2 true a2_0 a2_1 a2_2 a3_0 a3_1 bt127.1 bt127.2.1 bt127.2.2.1))) else (goosenecklaw01_PlaneParts.j1 kj8 t106 t113 t119 bt127.2.2.2 true a2_0 a2_1 a2_2 a3_0 a3_1 bt127.1 bt127.2.1 bt127.2.2.1)) else (goosenecklaw01_PlaneParts.j1 kj8 t106 t113 t119 bt127.2.2.2 true a2_0 a2_1 a2_2 a3_0 a3_1 bt127.1 bt127.2.1 bt127.2.2.1)) else (goosenecklaw01_PlaneParts.j1 kj8 t106 t113 t119 bt127.2.2.2 true a2_0 a2_1 a2_2 a3_0 a3_1 bt127.1 bt127.2.1 bt127.2.2.1)) else (goosenecklaw01_PlaneParts.j1 kj8 t106 t113 t119 bt127.2.2.2 true a2_0 a2_1 a2_2 a3_0 a3_1 bt127.1 bt127.2.1 bt127.2.2.1))) = some r := H
        have A29 := Aside0.mk A290
        clear A290
        replace H := Option.bind_eq_some_iff.mp H
        obtain ⟨⟨t127, t128, t129, t130⟩, A300, H⟩ := H
        replace H : (if t120 = 0 then (if t122 = 0 then (if t124 = 0 then (if t126 = 0 then (if (t119 != t121) = true then (goosenecklaw01_PlaneParts.j1 kj8 t106 t113 t119 t130 true a2_0 a2_1 a2_2 a3_0 a3_1 t127 t128 t129) else (if t123 = t125 then (if (t119 != (t123 == 0)) = true then (goosenecklaw01_PlaneParts.j1 kj8 t106 t113 t119 t130 true a2_0 a2_1 a2_2 a3_0 a3_1 t127 t128 t129) else (if ((t130 == 0) == t119) = true then (goosenecklaw01_PlaneParts.j1 kj8 t106 t113 t119 t130 true a2_0 a2_1 a2_2 a3_0 a3_1 t127 t128 t129) else (if t130 = 0 then (goosenecklaw01_PlaneParts.j1 kj8 t106 t113 t119 t130 false a2_0 a2_1 a2_2 a3_0 a3_1 t127 t128 t129) else (goosenecklaw01_PlaneParts.j1 kj8 t106 t113 t119 t130 (t130 != 5) a2_0 a2_1 a2_2 a3_0 a3_1 t127 t128 t129)))) else (goosenecklaw01_PlaneParts.j1 kj8 t106 t113 t119 t130 true a2_0 a2_1 a2_2 a3_0 a3_1 t127 t128 t129))) else (goosenecklaw01_PlaneParts.j1 kj8 t106 t113 t119 t130 true a2_0 a2_1 a2_2 a3_0 a3_1 t127 t128 t129)) else (goosenecklaw01_PlaneParts.j1 kj8 t106 t113 t119 t130 true a2_0 a2_1 a2_2 a3_0 a3_1 t127 t128 t129)) else (goosenecklaw01_PlaneParts.j1 kj8 t106 t113 t119 t130 true a2_0 a2_1 a2_2 a3_0 a3_1 t127 t128 t129)) else (goosenecklaw01_PlaneParts.j1 kj8 t106 t113 t119 t130 true a2_0 a2_1 a2_2 a3_0 a3_1 t127 t128 t129)) = some r := H
        have A30 := Aside0.mk A300
        clear A300
        have HC31 := Aside0.mk H
        clear H
        obtain ⟨Ao32, co32, eo32⟩ := Kd.R_slice HO_9.out
        subst eo32
        obtain ⟨Ao33, co33, eo33⟩ := Kd.R_slice HO_11.out
        subst eo33
        go_upto_region 10 with (first | ((with_reducible refine gate_callee (f := 58) rfl ?_); refine goesL_ (some 56) rfl rfl Try.func58 (by kernel_rfl) rfl #[.slice Ao32 t106.length co32, .slice Ao33 t113.length co33] rfl (by (try simp only [List.map_toArray, List.map_cons, List.map_nil]); first | done | rfl | (simp only [List.length_drop, List.length_take]; rfl)) ?_; (with_reducible refine (plane_Meet.calls (fun k_ => some k_ = (.slice Ao32 t106.length co32 : Value).ownBlock) _ _ t106 (fun k_ => some k_ = (.slice Ao33 t113.length co33 : Value).ownBlock) _ _ t113 t119 t120 _ ?side1 ?side2 A26.out).mono ?_); (case side1 => exact Kd.R_V (Kd.R_tight rfl (Kd.R_types (Kd.R_types (HO_9.out) BK101.out (by decide)) BK102.out (by decide)))); (case side2 => exact Kd.R_V (Kd.R_tight rfl (Kd.R_types (Kd.R_types (HO_11.out) BK101.out (by decide)) BK102.out (by decide)))); rintro e w34 ⟨rfl, hb⟩; refine ⟨_, rfl, ?_⟩; have n0_ := Aside0.mk (Kd.R_below (by (with_reducible repeat (first | apply Kd.R_alloc | apply Kd.R_drewN | apply Kd.R_drew)); exact HO_9.out) hb); have n1_ := Aside0.mk (Kd.R_below (by (with_reducible repeat (first | apply Kd.R_alloc | apply Kd.R_drewN | apply Kd.R_drew)); exact HO_11.out) hb); have n2_ := Aside0.mk (blk_below (g := gb101) (o := .cells #[.int .i64 a2_0, .int .i64 a2_1, .int .i64 a2_2] 75 (0, 0)) (by (with_reducible repeat (first | refine blk_drewN ?_ _ | refine blk_drew ?_ | refine blk_alloc ?_ _)); exact BK101.out) hb); have n3_ := Aside0.mk (blk_below (g := gb102) (o := .cells #[.int .i8 a3_0, .int .i8 a3_1] 32 (0, 0)) (by (with_reducible repeat (first | refine blk_drewN ?_ _ | refine blk_drew ?_ | refine blk_alloc ?_ _)); exact BK102.out) hb); have n4_ := Aside0.mk (below_step (by repeat (first | (with_reducible first | exact HB.out | apply below_alloc | apply pw_below_drewN | apply below_drew1 | refine below_set ?_ GE101.out | refine below_set ?_ GE102.out) | exact HB.out)) hb); clear HO_9; clear HO_11; clear BK101; clear BK102; clear HB; have HO_9 := n0_; have HO_11 := n1_; have BK101 := n2_; have BK102 := n3_; have HB := n4_; clear n0_ n1_ n2_ n3_ n4_; (try clear hb); (try clear hb2); (try clear hk); (try clear hi)) | ((with_reducible refine gate_callee (f := 58) rfl ?_); refine goesL_ (some 62) rfl rfl Try.func58 (by kernel_rfl) rfl #[.slice Ao33 t113.length co33, .slice Ao32 t106.length co32] rfl (by (try simp only [List.map_toArray, List.map_cons, List.map_nil]); first | done | rfl | (simp only [List.length_drop, List.length_take]; rfl)) ?_; (with_reducible refine (plane_Meet.calls (fun k_ => some k_ = (.slice Ao33 t113.length co33 : Value).ownBlock) _ _ t113 (fun k_ => some k_ = (.slice Ao32 t106.length co32 : Value).ownBlock) _ _ t106 t121 t122 _ ?side1 ?side2 A27.out).mono ?_); (case side1 => exact Kd.R_V (Kd.R_tight rfl (Kd.R_types (Kd.R_types (HO_11.out) BK101.out (by decide)) BK102.out (by decide)))); (case side2 => exact Kd.R_V (Kd.R_tight rfl (Kd.R_types (Kd.R_types (HO_9.out) BK101.out (by decide)) BK102.out (by decide)))); rintro e w35 ⟨rfl, hb⟩; refine ⟨_, rfl, ?_⟩; have n0_ := Aside0.mk (Kd.R_below (by (with_reducible repeat (first | apply Kd.R_alloc | apply Kd.R_drewN | apply Kd.R_drew)); exact HO_9.out) hb); have n1_ := Aside0.mk (Kd.R_below (by (with_reducible repeat (first | apply Kd.R_alloc | apply Kd.R_drewN | apply Kd.R_drew)); exact HO_11.out) hb); have n2_ := Aside0.mk (blk_below (g := gb101) (o := .cells #[.int .i64 a2_0, .int .i64 a2_1, .int .i64 a2_2] 75 (0, 0)) (by (with_reducible repeat (first | refine blk_drewN ?_ _ | refine blk_drew ?_ | refine blk_alloc ?_ _)); exact BK101.out) hb); have n3_ := Aside0.mk (blk_below (g := gb102) (o := .cells #[.int .i8 a3_0, .int .i8 a3_1] 32 (0, 0)) (by (with_reducible repeat (first | refine blk_drewN ?_ _ | refine blk_drew ?_ | refine blk_alloc ?_ _)); exact BK102.out) hb); have n4_ := Aside0.mk (below_step (by repeat (first | (with_reducible first | exact HB.out | apply below_alloc | apply pw_below_drewN | apply below_drew1 | refine below_set ?_ GE101.out | refine below_set ?_ GE102.out) | exact HB.out)) hb); clear HO_9; clear HO_11; clear BK101; clear BK102; clear HB; have HO_9 := n0_; have HO_11 := n1_; have BK101 := n2_; have BK102 := n3_; have HB := n4_; clear n0_ n1_ n2_ n3_ n4_; (try clear hb); (try clear hb2); (try clear hk); (try clear hi)) | ((with_reducible refine gate_callee (f := 60) rfl ?_); refine goesL_ (some 68) rfl rfl Try.func60 (by kernel_rfl) rfl #[.slice Ao32 t106.length co32, .slice Ao33 t113.length co33] rfl (by (try simp only [List.map_toArray, List.map_cons, List.map_nil]); first | done | rfl | (simp only [List.length_drop, List.length_take]; rfl)) ?_; (with_reducible refine (plane_Gap.calls kj8 (fun k_ => some k_ = (.slice Ao32 t106.length co32 : Value).ownBlock) _ _ t106 (fun k_ => some k_ = (.slice Ao33 t113.length co33 : Value).ownBlock) _ _ t113 t123 t124 _ ?side1 ?side2 A28.out).mono ?_); (case side1 => exact Kd.R_V (Kd.R_tight rfl (Kd.R_types (Kd.R_types (HO_9.out) BK101.out (by decide)) BK102.out (by decide)))); (case side2 => exact Kd.R_V (Kd.R_tight rfl (Kd.R_types (Kd.R_types (HO_11.out) BK101.out (by decide)) BK102.out (by decide)))); rintro e w36 ⟨rfl, hb⟩; refine ⟨_, rfl, ?_⟩; have n0_ := Aside0.mk (Kd.R_below (by (with_reducible repeat (first | apply Kd.R_alloc | apply Kd.R_drewN | apply Kd.R_drew)); exact HO_9.out) hb); have n1_ := Aside0.mk (Kd.R_below (by (with_reducible repeat (first | apply Kd.R_alloc | apply Kd.R_drewN | apply Kd.R_drew)); exact HO_11.out) hb); have n2_ := Aside0.mk (blk_below (g := gb101) (o := .cells #[.int .i64 a2_0, .int .i64 a2_1, .int .i64 a2_2] 75 (0, 0)) (by (with_reducible repeat (first | refine blk_drewN ?_ _ | refine blk_drew ?_ | refine blk_alloc ?_ _)); exact BK101.out) hb); have n3_ := Aside0.mk (blk_below (g := gb102) (o := .cells #[.int .i8 a3_0, .int .i8 a3_1] 32 (0, 0)) (by (with_reducible repeat (first | refine blk_drewN ?_ _ | refine blk_drew ?_ | refine blk_alloc ?_ _)); exact BK102.out) hb); have n4_ := Aside0.mk (below_step (by repeat (first | (with_reducible first | exact HB.out | apply below_alloc | apply pw_below_drewN | apply below_drew1 | refine below_set ?_ GE101.out | refine below_set ?_ GE102.out) | exact HB.out)) hb); clear HO_9; clear HO_11; clear BK101; clear BK102; clear HB; have HO_9 := n0_; have HO_11 := n1_; have BK101 := n2_; have BK102 := n3_; have HB := n4_; clear n0_ n1_ n2_ n3_ n4_; (try clear hb); (try clear hb2); (try clear hk); (try clear hi)) | ((with_reducible refine gate_callee (f := 60) rfl ?_); refine goesL_ (some 74) rfl rfl Try.func60 (by kernel_rfl) rfl #[.slice Ao33 t113.length co33, .slice Ao32 t106.length co32] rfl (by (try simp only [List.map_toArray, List.map_cons, List.map_nil]); first | done | rfl | (simp only [List.length_drop, List.length_take]; rfl)) ?_; (with_reducible refine (plane_Gap.calls kj8 (fun k_ => some k_ = (.slice Ao33 t113.length co33 : Value).ownBlock) _ _ t113 (fun k_ => some k_ = (.slice Ao32 t106.length co32 : Value).ownBlock) _ _ t106 t125 t126 _ ?side1 ?side2 A29.out).mono ?_); (case side1 => exact Kd.R_V (Kd.R_tight rfl (Kd.R_types (Kd.R_types (HO_11.out) BK101.out (by decide)) BK102.out (by decide)))); (case side2 => exact Kd.R_V (Kd.R_tight rfl (Kd.R_types (Kd.R_types (HO_9.out) BK101.out (by decide)) BK102.out (by decide)))); rintro e w37 ⟨rfl, hb⟩; refine ⟨_, rfl, ?_⟩; have n0_ := Aside0.mk (Kd.R_below (by (with_reducible repeat (first | apply Kd.R_alloc | apply Kd.R_drewN | apply Kd.R_drew)); exact HO_9.out) hb); have n1_ := Aside0.mk (Kd.R_below (by (with_reducible repeat (first | apply Kd.R_alloc | apply Kd.R_drewN | apply Kd.R_drew)); exact HO_11.out) hb); have n2_ := Aside0.mk (blk_below (g := gb101) (o := .cells #[.int .i64 a2_0, .int .i64 a2_1, .int .i64 a2_2] 75 (0, 0)) (by (with_reducible repeat (first | refine blk_drewN ?_ _ | refine blk_drew ?_ | refine blk_alloc ?_ _)); exact BK101.out) hb); have n3_ := Aside0.mk (blk_below (g := gb102) (o := .cells #[.int .i8 a3_0, .int .i8 a3_1] 32 (0, 0)) (by (with_reducible repeat (first | refine blk_drewN ?_ _ | refine blk_drew ?_ | refine blk_alloc ?_ _)); exact BK102.out) hb); have n4_ := Aside0.mk (below_step (by repeat (first | (with_reducible first | exact HB.out | apply below_alloc | apply pw_below_drewN | apply below_drew1 | refine below_set ?_ GE101.out | refine below_set ?_ GE102.out) | exact HB.out)) hb); clear HO_9; clear HO_11; clear BK101; clear BK102; clear HB; have HO_9 := n0_; have HO_11 := n1_; have BK101 := n2_; have BK102 := n3_; have HB := n4_; clear n0_ n1_ n2_ n3_ n4_; (try clear hb); (try clear hb2); (try clear hk); (try clear hi)) | ((with_reducible refine gate_callee (f := 64) rfl ?_); refine goesL_ (some 80) rfl rfl Try.func64 (by kernel_rfl) rfl #[.slice Ao32 t106.length co32, .slice Ao33 t113.length co33] rfl (by (try simp only [List.map_toArray, List.map_cons, List.map_nil]); first | done | rfl | (simp only [List.length_drop, List.length_take]; rfl)) ?_; (with_reducible refine (plane_Part.calls (fun k_ => some k_ = (.slice Ao32 t106.length co32 : Value).ownBlock) _ _ t106 (fun k_ => some k_ = (.slice Ao33 t113.length co33 : Value).ownBlock) _ _ t113 t127 t128 t129 t130 _ ?side1 ?side2 A30.out).mono ?_); (case side1 => exact Kd.R_V (Kd.R_tight rfl (Kd.R_types (Kd.R_types (HO_9.out) BK101.out (by decide)) BK102.out (by decide)))); (case side2 => exact Kd.R_V (Kd.R_tight rfl (Kd.R_types (Kd.R_types (HO_11.out) BK101.out (by decide)) BK102.out (by decide)))); rintro e w38 ⟨rfl, hb⟩; refine ⟨_, rfl, ?_⟩; have n0_ := Aside0.mk (Kd.R_below (by (with_reducible repeat (first | apply Kd.R_alloc | apply Kd.R_drewN | apply Kd.R_drew)); exact HO_9.out) hb); have n1_ := Aside0.mk (Kd.R_below (by (with_reducible repeat (first | apply Kd.R_alloc | apply Kd.R_drewN | apply Kd.R_drew)); exact HO_11.out) hb); have n2_ := Aside0.mk (blk_below (g := gb101) (o := .cells #[.int .i64 a2_0, .int .i64 a2_1, .int .i64 a2_2] 75 (0, 0)) (by (with_reducible repeat (first | refine blk_drewN ?_ _ | refine blk_drew ?_ | refine blk_alloc ?_ _)); exact BK101.out) hb); have n3_ := Aside0.mk (blk_below (g := gb102) (o := .cells #[.int .i8 a3_0, .int .i8 a3_1] 32 (0, 0)) (by (with_reducible repeat (first | refine blk_drewN ?_ _ | refine blk_drew ?_ | refine blk_alloc ?_ _)); exact BK102.out) hb); have n4_ := Aside0.mk (below_step (by repeat (first | (with_reducible first | exact HB.out | apply below_alloc | apply pw_below_drewN | apply below_drew1 | refine below_set ?_ GE101.out | refine below_set ?_ GE102.out) | exact HB.out)) hb); clear HO_9; clear HO_11; clear BK101; clear BK102; clear HB; have HO_9 := n0_; have HO_11 := n1_; have BK101 := n2_; have BK102 := n3_; have HB := n4_; clear n0_ n1_ n2_ n3_ n4_; (try clear hb); (try clear hb2); (try clear hk); (try clear hi)) | ((with_reducible refine gate_dst (N := 19) rfl ?_); (try (refine gate_guard (by rfl) ?_; dsimp only)); refine box_event ?hg (N := 19) ?hd (cs := #[.int .i64 0, .int .i64 0, .int .i64 0]) (t := 75) ?hr ?_; (case hd => rfl); (case hg => rfl); (case hr => first | (go_simp; done) | (go_simp; rfl)); intro gb131 hg w39 hbox hb; have n0_ := Aside0.mk (Kd.R_below (by (with_reducible repeat (first | apply Kd.R_alloc | apply Kd.R_drewN | apply Kd.R_drew)); exact HO_9.out) hb); have n1_ := Aside0.mk (Kd.R_below (by (with_reducible repeat (first | apply Kd.R_alloc | apply Kd.R_drewN | apply Kd.R_drew)); exact HO_11.out) hb); have n2_ := Aside0.mk (blk_below (g := gb101) (o := .cells #[.int .i64 a2_0, .int .i64 a2_1, .int .i64 a2_2] 75 (0, 0)) (by (with_reducible repeat (first | refine blk_drewN ?_ _ | refine blk_drew ?_ | refine blk_alloc ?_ _)); exact BK101.out) hb); have n3_ := Aside0.mk (blk_below (g := gb102) (o := .cells #[.int .i8 a3_0, .int .i8 a3_1] 32 (0, 0)) (by (with_reducible repeat (first | refine blk_drewN ?_ _ | refine blk_drew ?_ | refine blk_alloc ?_ _)); exact BK102.out) hb); have n4_ := Aside0.mk (below_step (by repeat (first | (with_reducible first | exact HB.out | apply below_alloc | apply pw_below_drewN | apply below_drew1 | refine below_set ?_ GE101.out | refine below_set ?_ GE102.out) | exact HB.out)) hb); have n5_ := Aside0.mk (hbox); have n6_ := Aside0.mk ((by rw [hg]; exact (below_size (by repeat (first | (with_reducible first | exact HB.out | apply below_alloc | apply pw_below_drewN | apply below_drew1 | refine below_set ?_ GE101.out | refine below_set ?_ GE102.out) | exact HB.out))) : w.heap.size ≤ gb131)); have n7_ := Aside0.mk ((by rw [hg]; exact (below_size (by repeat (first | (with_reducible first | exact HB.out | apply below_alloc | apply pw_below_drewN | apply below_drew1 | refine below_set ?_ GE101.out | refine below_set ?_ GE102.out) | exact HB.out))) : w.heap.size ≤ gb131)); have n8_ := Aside0.mk ((by rw [hg]; exact Nat.ne_of_lt (blk_lt (g := gb101) (o := .cells #[.int .i64 a2_0, .int .i64 a2_1, .int .i64 a2_2] 75 (0, 0)) (by (with_reducible repeat (first | refine blk_drewN ?_ _ | refine blk_drew ?_ | refine blk_alloc ?_ _)); exact BK101.out)) : gb101 ≠ gb131)); have n9_ := Aside0.mk ((by rw [hg]; exact Nat.ne_of_gt (blk_lt (g := gb101) (o := .cells #[.int .i64 a2_0, .int .i64 a2_1, .int .i64 a2_2] 75 (0, 0)) (by (with_reducible repeat (first | refine blk_drewN ?_ _ | refine blk_drew ?_ | refine blk_alloc ?_ _)); exact BK101.out)) : gb131 ≠ gb101)); have n10_ := Aside0.mk ((by rw [hg]; exact Nat.ne_of_lt (blk_lt (g := gb102) (o := .cells #[.int .i8 a3_0, .int .i8 a3_1] 32 (0, 0)) (by (with_reducible repeat (first | refine blk_drewN ?_ _ | refine blk_drew ?_ | refine blk_alloc ?_ _)); exact BK102.out)) : gb102 ≠ gb131)); have n11_ := Aside0.mk ((by rw [hg]; exact Nat.ne_of_gt (blk_lt (g := gb102) (o := .cells #[.int .i8 a3_0, .int .i8 a3_1] 32 (0, 0)) (by (with_reducible repeat (first | refine blk_drewN ?_ _ | refine blk_drew ?_ | refine blk_alloc ?_ _)); exact BK102.out)) : gb131 ≠ gb102)); clear HO_9; clear HO_11; clear BK101; clear BK102; clear HB; have HO_9 := n0_; have HO_11 := n1_; have BK101 := n2_; have BK102 := n3_; have HB := n4_; have BK131 := n5_; have GW131 := n6_; have GE131 := n7_; have NB101_131 := n8_; have NB131_101 := n9_; have NB102_131 := n10_; have NB131_102 := n11_; clear n0_ n1_ n2_ n3_ n4_ n5_ n6_ n7_ n8_ n9_ n10_ n11_; clear hb hbox hg; have hnb40 := NB131_101.out; have hnc40 := NB101_131.out; have hnb41 := NB131_102.out; have hnc41 := NB102_131.out; have hcz42_0 : w39.cell? ⟨gb131, 0, none⟩ = some (.int .i64 0) := (blk_cell BK131.out 0).trans rfl; have hcz42_1 : w39.cell? ⟨gb131, 1, none⟩ = some (.int .i64 0) := (blk_cell BK131.out 1).trans rfl; have hcz42_2 : w39.cell? ⟨gb131, 2, none⟩ = some (.int .i64 0) := (blk_cell BK131.out 2).trans rfl; have hfz42_0 := blk_frozen BK131.out 0; have hfz42_1 := blk_frozen BK131.out 1; have hfz42_2 := blk_frozen BK131.out 2))
        (try simp only [Act.put, List.setIfInBounds_toArray, List.set_cons_zero, List.set_cons_succ])
        go_cut [126] (fun v126 wc => ∃ (kq : Nat) (x126_30 : Bool), v126 = .bool x126_30 ∧ Aside0 (goosenecklaw01_PlaneParts.j1 kq t106 t113 t119 t130 x126_30 a2_0 a2_1 a2_2 a3_0 a3_1 t127 t128 t129 = some r) ∧ Aside0 (kq ≤ kj8) ∧ Aside0 (Kd.R k23 23 wc w.heap.size (fun k_ => some k_ ≠ ((.slice Ao33 t113.length co33) : Value).ownBlock) (.slice Ao32 t106.length co32) t106) ∧ Aside0 (Kd.R k23 23 wc w.heap.size (fun k_ => some k_ ≠ ((.slice Ao32 t106.length co32) : Value).ownBlock) (.slice Ao33 t113.length co33) t113) ∧ Aside0 (wc.heap[gb101]? = some (.cells #[.int .i64 a2_0, .int .i64 a2_1, .int .i64 a2_2] 75 (0, 0))) ∧ Aside0 (wc.heap[gb102]? = some (.cells #[.int .i8 a3_0, .int .i8 a3_1] 32 (0, 0))) ∧ Aside0 (wc.heap[gb131]? = some (.cells #[.int .i64 t127, .int .i64 t128, .int .i64 t129] 75 (0, 0))) ∧ Aside0 (Below w.heap.size w wc))
        case first =>
          have H := HC31.out
          clear HC31
          by_cases c43 : t120 = 0
          · rw [if_pos c43] at H
            have c43b0 : (t120 == 0) = true := beq_iff_eq.mpr c43
            have c43b1 : (t120 != 0) = false := bne_eq_false_iff_eq.mpr c43
            clear c43
            (first | rw [c43b0] | (simp only [i64_w, i32_w]; rw [c43b0]) | skip)
            by_cases c44 : t122 = 0
            · rw [if_pos c44] at H
              have c44b0 : (t122 == 0) = true := beq_iff_eq.mpr c44
              have c44b1 : (t122 != 0) = false := bne_eq_false_iff_eq.mpr c44
              clear c44
              by_cases c45 : t124 = 0
              · rw [if_pos c45] at H
                have c45b0 : (t124 == 0) = true := beq_iff_eq.mpr c45
                have c45b1 : (t124 != 0) = false := bne_eq_false_iff_eq.mpr c45
                clear c45
                by_cases c46 : t126 = 0
                · rw [if_pos c46] at H
                  have c46b0 : (t126 == 0) = true := beq_iff_eq.mpr c46
                  have c46b1 : (t126 != 0) = false := bne_eq_false_iff_eq.mpr c46
                  clear c46
                  by_cases c47 : (t119 != t121) = true
                  · rw [if_pos c47] at H
                    have c47b0 : (t119 != t121) = true := c47
                    (try (have c47b1 : decide (t119 = t121) = false := by simpa using c47))
                    (try (have c47b2 : (t119 == t121) = false := by simpa using c47))
                    (try (have c47b3 : ¬ (t119 = t121) := by simpa using c47))
                    clear c47
                    have H' := Aside0.mk H
                    clear H
                    go_wp2
                    go_meet
                    case rel => exact ⟨_, (true), (by first | rfl | (simp; done) | (simp [*]; done)), H', ⟨by have := HJ8.out; first | omega | exact Nat.le_refl _⟩, ⟨by (with_reducible repeat (first | apply Kd.R_alloc | apply Kd.R_drewN | apply Kd.R_drew)); exact Kd.R_mono (Kd.R_far (p := ⟨gb131, 2, none⟩) (Kd.R_far (p := ⟨gb131, 1, none⟩) (Kd.R_far (p := ⟨gb131, 0, none⟩) (Kd.R_types HO_9.out BK131.out (by decide)) (fun _ hk => hk.2) (.int .i64 t127)) (fun _ hk => hk.2) (.int .i64 t128)) (fun _ hk => hk.2) (.int .i64 t129)) (fun _ hk => hk.1)⟩, ⟨by (with_reducible repeat (first | apply Kd.R_alloc | apply Kd.R_drewN | apply Kd.R_drew)); exact Kd.R_mono (Kd.R_far (p := ⟨gb131, 2, none⟩) (Kd.R_far (p := ⟨gb131, 1, none⟩) (Kd.R_far (p := ⟨gb131, 0, none⟩) (Kd.R_types HO_11.out BK131.out (by decide)) (fun _ hk => hk.2) (.int .i64 t127)) (fun _ hk => hk.2) (.int .i64 t128)) (fun _ hk => hk.2) (.int .i64 t129)) (fun _ hk => hk.1)⟩, ⟨by (with_reducible repeat (first | refine blk_drewN ?_ _ | refine blk_drew ?_ | refine blk_alloc ?_ _)); refine blk_far ?_ NB101_131.out _; (with_reducible repeat (first | refine blk_drewN ?_ _ | refine blk_drew ?_ | refine blk_alloc ?_ _)); refine blk_far ?_ NB101_131.out _; (with_reducible repeat (first | refine blk_drewN ?_ _ | refine blk_drew ?_ | refine blk_alloc ?_ _)); refine blk_far ?_ NB101_131.out _; (with_reducible repeat (first | refine blk_drewN ?_ _ | refine blk_drew ?_ | refine blk_alloc ?_ _)); exact BK101.out⟩, ⟨by (with_reducible repeat (first | refine blk_drewN ?_ _ | refine blk_drew ?_ | refine blk_alloc ?_ _)); refine blk_far ?_ NB102_131.out _; (with_reducible repeat (first | refine blk_drewN ?_ _ | refine blk_drew ?_ | refine blk_alloc ?_ _)); refine blk_far ?_ NB102_131.out _; (with_reducible repeat (first | refine blk_drewN ?_ _ | refine blk_drew ?_ | refine blk_alloc ?_ _)); refine blk_far ?_ NB102_131.out _; (with_reducible repeat (first | refine blk_drewN ?_ _ | refine blk_drew ?_ | refine blk_alloc ?_ _)); exact BK102.out⟩, ⟨by (with_reducible repeat (first | refine blk_drewN ?_ _ | refine blk_drew ?_ | refine blk_alloc ?_ _)); refine blk_put (cs := #[.int .i64 t127, .int .i64 t128, .int .i64 0]) ?_ 2 _ rfl; (with_reducible repeat (first | refine blk_drewN ?_ _ | refine blk_drew ?_ | refine blk_alloc ?_ _)); refine blk_put (cs := #[.int .i64 t127, .int .i64 0, .int .i64 0]) ?_ 1 _ rfl; (with_reducible repeat (first | refine blk_drewN ?_ _ | refine blk_drew ?_ | refine blk_alloc ?_ _)); refine blk_put (cs := #[.int .i64 0, .int .i64 0, .int .i64 0]) ?_ 0 _ rfl; (with_reducible repeat (first | refine blk_drewN ?_ _ | refine blk_drew ?_ | refine blk_alloc ?_ _)); exact BK131.out⟩, ⟨by repeat (first | (with_reducible first | exact HB.out | apply below_alloc | apply pw_below_drewN | apply below_drew1 | refine below_set ?_ GE101.out | refine below_set ?_ GE102.out | refine below_set ?_ GE131.out) | exact HB.out)⟩⟩
                  · rw [if_neg c47] at H
                    have c47b0 : (t119 != t121) = false := by simpa using c47
                    (try (have c47b1 : decide (t119 = t121) = true := by simpa using c47))
                    (try (have c47b2 : (t119 == t121) = true := by simpa using c47))
                    clear c47
                    by_cases c48 : t123 = t125
                    · rw [if_pos c48] at H
                      have c48b0 : (t123 == t125) = true := beq_iff_eq.mpr c48
                      have c48b1 : (t123 != t125) = false := bne_eq_false_iff_eq.mpr c48
                      clear c48
                      by_cases c49 : (t119 != (t123 == 0)) = true
                      · rw [if_pos c49] at H
                        have c49b0 : (t119 != (t123 == 0)) = true := c49
                        (try (have c49b1 : decide (t119 = (t123 == 0)) = false := by simpa using c49))
                        (try (have c49b2 : (t119 == (t123 == 0)) = false := by simpa using c49))
                        (try (have c49b3 : ¬ (t119 = (t123 == 0)) := by simpa using c49))
                        clear c49
                        have H' := Aside0.mk H
                        clear H
                        go_wp2
                        go_meet
                        case rel => exact ⟨_, (true), (by first | rfl | (simp; done) | (simp [*]; done)), H', ⟨by have := HJ8.out; first | omega | exact Nat.le_refl _⟩, ⟨by (with_reducible repeat (first | apply Kd.R_alloc | apply Kd.R_drewN | apply Kd.R_drew)); exact Kd.R_mono (Kd.R_far (p := ⟨gb131, 2, none⟩) (Kd.R_far (p := ⟨gb131, 1, none⟩) (Kd.R_far (p := ⟨gb131, 0, none⟩) (Kd.R_types HO_9.out BK131.out (by decide)) (fun _ hk => hk.2) (.int .i64 t127)) (fun _ hk => hk.2) (.int .i64 t128)) (fun _ hk => hk.2) (.int .i64 t129)) (fun _ hk => hk.1)⟩, ⟨by (with_reducible repeat (first | apply Kd.R_alloc | apply Kd.R_drewN | apply Kd.R_drew)); exact Kd.R_mono (Kd.R_far (p := ⟨gb131, 2, none⟩) (Kd.R_far (p := ⟨gb131, 1, none⟩) (Kd.R_far (p := ⟨gb131, 0, none⟩) (Kd.R_types HO_11.out BK131.out (by decide)) (fun _ hk => hk.2) (.int .i64 t127)) (fun _ hk => hk.2) (.int .i64 t128)) (fun _ hk => hk.2) (.int .i64 t129)) (fun _ hk => hk.1)⟩, ⟨by (with_reducible repeat (first | refine blk_drewN ?_ _ | refine blk_drew ?_ | refine blk_alloc ?_ _)); refine blk_far ?_ NB101_131.out _; (with_reducible repeat (first | refine blk_drewN ?_ _ | refine blk_drew ?_ | refine blk_alloc ?_ _)); refine blk_far ?_ NB101_131.out _; (with_reducible repeat (first | refine blk_drewN ?_ _ | refine blk_drew ?_ | refine blk_alloc ?_ _)); refine blk_far ?_ NB101_131.out _; (with_reducible repeat (first | refine blk_drewN ?_ _ | refine blk_drew ?_ | refine blk_alloc ?_ _)); exact BK101.out⟩, ⟨by (with_reducible repeat (first | refine blk_drewN ?_ _ | refine blk_drew ?_ | refine blk_alloc ?_ _)); refine blk_far ?_ NB102_131.out _; (with_reducible repeat (first | refine blk_drewN ?_ _ | refine blk_drew ?_ | refine blk_alloc ?_ _)); refine blk_far ?_ NB102_131.out _; (with_reducible repeat (first | refine blk_drewN ?_ _ | refine blk_drew ?_ | refine blk_alloc ?_ _)); refine blk_far ?_ NB102_131.out _; (with_reducible repeat (first | refine blk_drewN ?_ _ | refine blk_drew ?_ | refine blk_alloc ?_ _)); exact BK102.out⟩, ⟨by (with_reducible repeat (first | refine blk_drewN ?_ _ | refine blk_drew ?_ | refine blk_alloc ?_ _)); refine blk_put (cs := #[.int .i64 t127, .int .i64 t128, .int .i64 0]) ?_ 2 _ rfl; (with_reducible repeat (first | refine blk_drewN ?_ _ | refine blk_drew ?_ | refine blk_alloc ?_ _)); refine blk_put (cs := #[.int .i64 t127, .int .i64 0, .int .i64 0]) ?_ 1 _ rfl; (with_reducible repeat (first | refine blk_drewN ?_ _ | refine blk_drew ?_ | refine blk_alloc ?_ _)); refine blk_put (cs := #[.int .i64 0, .int .i64 0, .int .i64 0]) ?_ 0 _ rfl; (with_reducible repeat (first | refine blk_drewN ?_ _ | refine blk_drew ?_ | refine blk_alloc ?_ _)); exact BK131.out⟩, ⟨by repeat (first | (with_reducible first | exact HB.out | apply below_alloc | apply pw_below_drewN | apply below_drew1 | refine below_set ?_ GE101.out | refine below_set ?_ GE102.out | refine below_set ?_ GE131.out) | exact HB.out)⟩⟩
                      · rw [if_neg c49] at H
                        have c49b0 : (t119 != (t123 == 0)) = false := by simpa using c49
                        (try (have c49b1 : decide (t119 = (t123 == 0)) = true := by simpa using c49))
                        (try (have c49b2 : (t119 == (t123 == 0)) = true := by simpa using c49))
                        clear c49
                        by_cases c50 : ((t130 == 0) == t119) = true
                        · rw [if_pos c50] at H
                          have c50b0 : ((t130 == 0) == t119) = true := c50
                          (try (have c50b1 : decide ((t130 == 0) = t119) = true := by simpa using c50))
                          (try (have c50b2 : ((t130 == 0) == t119) = true := by simpa using c50))
                          clear c50
                          have H' := Aside0.mk H
                          clear H
                          go_wp2
                          go_meet
                          case rel => exact ⟨_, (true), (by first | rfl | (simp; done) | (simp [*]; done)), H', ⟨by have := HJ8.out; first | omega | exact Nat.le_refl _⟩, ⟨by (with_reducible repeat (first | apply Kd.R_alloc | apply Kd.R_drewN | apply Kd.R_drew)); exact Kd.R_mono (Kd.R_far (p := ⟨gb131, 2, none⟩) (Kd.R_far (p := ⟨gb131, 1, none⟩) (Kd.R_far (p := ⟨gb131, 0, none⟩) (Kd.R_types HO_9.out BK131.out (by decide)) (fun _ hk => hk.2) (.int .i64 t127)) (fun _ hk => hk.2) (.int .i64 t128)) (fun _ hk => hk.2) (.int .i64 t129)) (fun _ hk => hk.1)⟩, ⟨by (with_reducible repeat (first | apply Kd.R_alloc | apply Kd.R_drewN | apply Kd.R_drew)); exact Kd.R_mono (Kd.R_far (p := ⟨gb131, 2, none⟩) (Kd.R_far (p := ⟨gb131, 1, none⟩) (Kd.R_far (p := ⟨gb131, 0, none⟩) (Kd.R_types HO_11.out BK131.out (by decide)) (fun _ hk => hk.2) (.int .i64 t127)) (fun _ hk => hk.2) (.int .i64 t128)) (fun _ hk => hk.2) (.int .i64 t129)) (fun _ hk => hk.1)⟩, ⟨by (with_reducible repeat (first | refine blk_drewN ?_ _ | refine blk_drew ?_ | refine blk_alloc ?_ _)); refine blk_far ?_ NB101_131.out _; (with_reducible repeat (first | refine blk_drewN ?_ _ | refine blk_drew ?_ | refine blk_alloc ?_ _)); refine blk_far ?_ NB101_131.out _; (with_reducible repeat (first | refine blk_drewN ?_ _ | refine blk_drew ?_ | refine blk_alloc ?_ _)); refine blk_far ?_ NB101_131.out _; (with_reducible repeat (first | refine blk_drewN ?_ _ | refine blk_drew ?_ | refine blk_alloc ?_ _)); exact BK101.out⟩, ⟨by (with_reducible repeat (first | refine blk_drewN ?_ _ | refine blk_drew ?_ | refine blk_alloc ?_ _)); refine blk_far ?_ NB102_131.out _; (with_reducible repeat (first | refine blk_drewN ?_ _ | refine blk_drew ?_ | refine blk_alloc ?_ _)); refine blk_far ?_ NB102_131.out _; (with_reducible repeat (first | refine blk_drewN ?_ _ | refine blk_drew ?_ | refine blk_alloc ?_ _)); refine blk_far ?_ NB102_131.out _; (with_reducible repeat (first | refine blk_drewN ?_ _ | refine blk_drew ?_ | refine blk_alloc ?_ _)); exact BK102.out⟩, ⟨by (with_reducible repeat (first | refine blk_drewN ?_ _ | refine blk_drew ?_ | refine blk_alloc ?_ _)); refine blk_put (cs := #[.int .i64 t127, .int .i64 t128, .int .i64 0]) ?_ 2 _ rfl; (with_reducible repeat (first | refine blk_drewN ?_ _ | refine blk_drew ?_ | refine blk_alloc ?_ _)); refine blk_put (cs := #[.int .i64 t127, .int .i64 0, .int .i64 0]) ?_ 1 _ rfl; (with_reducible repeat (first | refine blk_drewN ?_ _ | refine blk_drew ?_ | refine blk_alloc ?_ _)); refine blk_put (cs := #[.int .i64 0, .int .i64 0, .int .i64 0]) ?_ 0 _ rfl; (with_reducible repeat (first | refine blk_drewN ?_ _ | refine blk_drew ?_ | refine blk_alloc ?_ _)); exact BK131.out⟩, ⟨by repeat (first | (with_reducible first | exact HB.out | apply below_alloc | apply pw_below_drewN | apply below_drew1 | refine below_set ?_ GE101.out | refine below_set ?_ GE102.out | refine below_set ?_ GE131.out) | exact HB.out)⟩⟩
                        · rw [if_neg c50] at H
                          have c50b0 : ((t130 == 0) == t119) = false := by simpa using c50
                          (try (have c50b1 : decide ((t130 == 0) = t119) = false := by simpa using c50))
                          (try (have c50b2 : ((t130 == 0) == t119) = false := by simpa using c50))
                          (try (have c50b3 : ¬ ((t130 == 0) = t119) := by simpa using c50))
                          clear c50
                          by_cases c51 : t130 = 0
                          · rw [if_pos c51] at H
                            have c51b0 : (t130 == 0) = true := beq_iff_eq.mpr c51
                            have c51b1 : (t130 != 0) = false := bne_eq_false_iff_eq.mpr c51
                            clear c51
                            obtain rfl : t119 = false := (by decide : ∀ x y : Bool, (x == y) = false → x = true → y = false) _ _ c50b0 c51b0
                            have H' := Aside0.mk H
                            clear H
                            go_wp2
                            go_meet
                            case rel => exact ⟨_, (false), (by first | rfl | (simp; done) | (simp [*]; done)), H', ⟨by have := HJ8.out; first | omega | exact Nat.le_refl _⟩, ⟨by (with_reducible repeat (first | apply Kd.R_alloc | apply Kd.R_drewN | apply Kd.R_drew)); exact Kd.R_mono (Kd.R_far (p := ⟨gb131, 2, none⟩) (Kd.R_far (p := ⟨gb131, 1, none⟩) (Kd.R_far (p := ⟨gb131, 0, none⟩) (Kd.R_types HO_9.out BK131.out (by decide)) (fun _ hk => hk.2) (.int .i64 t127)) (fun _ hk => hk.2) (.int .i64 t128)) (fun _ hk => hk.2) (.int .i64 t129)) (fun _ hk => hk.1)⟩, ⟨by (with_reducible repeat (first | apply Kd.R_alloc | apply Kd.R_drewN | apply Kd.R_drew)); exact Kd.R_mono (Kd.R_far (p := ⟨gb131, 2, none⟩) (Kd.R_far (p := ⟨gb131, 1, none⟩) (Kd.R_far (p := ⟨gb131, 0, none⟩) (Kd.R_types HO_11.out BK131.out (by decide)) (fun _ hk => hk.2) (.int .i64 t127)) (fun _ hk => hk.2) (.int .i64 t128)) (fun _ hk => hk.2) (.int .i64 t129)) (fun _ hk => hk.1)⟩, ⟨by (with_reducible repeat (first | refine blk_drewN ?_ _ | refine blk_drew ?_ | refine blk_alloc ?_ _)); refine blk_far ?_ NB101_131.out _; (with_reducible repeat (first | refine blk_drewN ?_ _ | refine blk_drew ?_ | refine blk_alloc ?_ _)); refine blk_far ?_ NB101_131.out _; (with_reducible repeat (first | refine blk_drewN ?_ _ | refine blk_drew ?_ | refine blk_alloc ?_ _)); refine blk_far ?_ NB101_131.out _; (with_reducible repeat (first | refine blk_drewN ?_ _ | refine blk_drew ?_ | refine blk_alloc ?_ _)); exact BK101.out⟩, ⟨by (with_reducible repeat (first | refine blk_drewN ?_ _ | refine blk_drew ?_ | refine blk_alloc ?_ _)); refine blk_far ?_ NB102_131.out _; (with_reducible repeat (first | refine blk_drewN ?_ _ | refine blk_drew ?_ | refine blk_alloc ?_ _)); refine blk_far ?_ NB102_131.out _; (with_reducible repeat (first | refine blk_drewN ?_ _ | refine blk_drew ?_ | refine blk_alloc ?_ _)); refine blk_far ?_ NB102_131.out _; (with_reducible repeat (first | refine blk_drewN ?_ _ | refine blk_drew ?_ | refine blk_alloc ?_ _)); exact BK102.out⟩, ⟨by (with_reducible repeat (first | refine blk_drewN ?_ _ | refine blk_drew ?_ | refine blk_alloc ?_ _)); refine blk_put (cs := #[.int .i64 t127, .int .i64 t128, .int .i64 0]) ?_ 2 _ rfl; (with_reducible repeat (first | refine blk_drewN ?_ _ | refine blk_drew ?_ | refine blk_alloc ?_ _)); refine blk_put (cs := #[.int .i64 t127, .int .i64 0, .int .i64 0]) ?_ 1 _ rfl; (with_reducible repeat (first | refine blk_drewN ?_ _ | refine blk_drew ?_ | refine blk_alloc ?_ _)); refine blk_put (cs := #[.int .i64 0, .int .i64 0, .int .i64 0]) ?_ 0 _ rfl; (with_reducible repeat (first | refine blk_drewN ?_ _ | refine blk_drew ?_ | refine blk_alloc ?_ _)); exact BK131.out⟩, ⟨by repeat (first | (with_reducible first | exact HB.out | apply below_alloc | apply pw_below_drewN | apply below_drew1 | refine below_set ?_ GE101.out | refine below_set ?_ GE102.out | refine below_set ?_ GE131.out) | exact HB.out)⟩⟩
                          · rw [if_neg c51] at H
                            have c51b0 : (t130 == 0) = false := beq_eq_false_iff_ne.mpr c51
                            have c51b1 : (t130 != 0) = true := bne_iff_ne.mpr c51
                            obtain rfl : t119 = true := (by decide : ∀ x y : Bool, (x == y) = false → x = false → y = true) _ _ c50b0 c51b0
                            have H' := Aside0.mk H
                            clear H
                            go_wp2
                            go_meet
                            case rel => exact ⟨_, ((t130 != 5)), (by first | rfl | (simp; done) | (simp [*]; done)), H', ⟨by have := HJ8.out; first | omega | exact Nat.le_refl _⟩, ⟨by (with_reducible repeat (first | apply Kd.R_alloc | apply Kd.R_drewN | apply Kd.R_drew)); exact Kd.R_mono (Kd.R_far (p := ⟨gb131, 2, none⟩) (Kd.R_far (p := ⟨gb131, 1, none⟩) (Kd.R_far (p := ⟨gb131, 0, none⟩) (Kd.R_types HO_9.out BK131.out (by decide)) (fun _ hk => hk.2) (.int .i64 t127)) (fun _ hk => hk.2) (.int .i64 t128)) (fun _ hk => hk.2) (.int .i64 t129)) (fun _ hk => hk.1)⟩, ⟨by (with_reducible repeat (first | apply Kd.R_alloc | apply Kd.R_drewN | apply Kd.R_drew)); exact Kd.R_mono (Kd.R_far (p := ⟨gb131, 2, none⟩) (Kd.R_far (p := ⟨gb131, 1, none⟩) (Kd.R_far (p := ⟨gb131, 0, none⟩) (Kd.R_types HO_11.out BK131.out (by decide)) (fun _ hk => hk.2) (.int .i64 t127)) (fun _ hk => hk.2) (.int .i64 t128)) (fun _ hk => hk.2) (.int .i64 t129)) (fun _ hk => hk.1)⟩, ⟨by (with_reducible repeat (first | refine blk_drewN ?_ _ | refine blk_drew ?_ | refine blk_alloc ?_ _)); refine blk_far ?_ NB101_131.out _; (with_reducible repeat (first | refine blk_drewN ?_ _ | refine blk_drew ?_ | refine blk_alloc ?_ _)); refine blk_far ?_ NB101_131.out _; (with_reducible repeat (first | refine blk_drewN ?_ _ | refine blk_drew ?_ | refine blk_alloc ?_ _)); refine blk_far ?_ NB101_131.out _; (with_reducible repeat (first | refine blk_drewN ?_ _ | refine blk_drew ?_ | refine blk_alloc ?_ _)); exact BK101.out⟩, ⟨by (with_reducible repeat (first | refine blk_drewN ?_ _ | refine blk_drew ?_ | refine blk_alloc ?_ _)); refine blk_far ?_ NB102_131.out _; (with_reducible repeat (first | refine blk_drewN ?_ _ | refine blk_drew ?_ | refine blk_alloc ?_ _)); refine blk_far ?_ NB102_131.out _; (with_reducible repeat (first | refine blk_drewN ?_ _ | refine blk_drew ?_ | refine blk_alloc ?_ _)); refine blk_far ?_ NB102_131.out _; (with_reducible repeat (first | refine blk_drewN ?_ _ | refine blk_drew ?_ | refine blk_alloc ?_ _)); exact BK102.out⟩, ⟨by (with_reducible repeat (first | refine blk_drewN ?_ _ | refine blk_drew ?_ | refine blk_alloc ?_ _)); refine blk_put (cs := #[.int .i64 t127, .int .i64 t128, .int .i64 0]) ?_ 2 _ rfl; (with_reducible repeat (first | refine blk_drewN ?_ _ | refine blk_drew ?_ | refine blk_alloc ?_ _)); refine blk_put (cs := #[.int .i64 t127, .int .i64 0, .int .i64 0]) ?_ 1 _ rfl; (with_reducible repeat (first | refine blk_drewN ?_ _ | refine blk_drew ?_ | refine blk_alloc ?_ _)); refine blk_put (cs := #[.int .i64 0, .int .i64 0, .int .i64 0]) ?_ 0 _ rfl; (with_reducible repeat (first | refine blk_drewN ?_ _ | refine blk_drew ?_ | refine blk_alloc ?_ _)); exact BK131.out⟩, ⟨by repeat (first | (with_reducible first | exact HB.out | apply below_alloc | apply pw_below_drewN | apply below_drew1 | refine below_set ?_ GE101.out | refine below_set ?_ GE102.out | refine below_set ?_ GE131.out) | exact HB.out)⟩⟩
                    · rw [if_neg c48] at H
                      have c48b0 : (t123 == t125) = false := beq_eq_false_iff_ne.mpr c48
                      have c48b1 : (t123 != t125) = true := bne_iff_ne.mpr c48
                      have H' := Aside0.mk H
                      clear H
                      go_wp2
                      go_meet
                      case rel => exact ⟨_, (true), (by first | rfl | (simp; done) | (simp [*]; done)), H', ⟨by have := HJ8.out; first | omega | exact Nat.le_refl _⟩, ⟨by (with_reducible repeat (first | apply Kd.R_alloc | apply Kd.R_drewN | apply Kd.R_drew)); exact Kd.R_mono (Kd.R_far (p := ⟨gb131, 2, none⟩) (Kd.R_far (p := ⟨gb131, 1, none⟩) (Kd.R_far (p := ⟨gb131, 0, none⟩) (Kd.R_types HO_9.out BK131.out (by decide)) (fun _ hk => hk.2) (.int .i64 t127)) (fun _ hk => hk.2) (.int .i64 t128)) (fun _ hk => hk.2) (.int .i64 t129)) (fun _ hk => hk.1)⟩, ⟨by (with_reducible repeat (first | apply Kd.R_alloc | apply Kd.R_drewN | apply Kd.R_drew)); exact Kd.R_mono (Kd.R_far (p := ⟨gb131, 2, none⟩) (Kd.R_far (p := ⟨gb131, 1, none⟩) (Kd.R_far (p := ⟨gb131, 0, none⟩) (Kd.R_types HO_11.out BK131.out (by decide)) (fun _ hk => hk.2) (.int .i64 t127)) (fun _ hk => hk.2) (.int .i64 t128)) (fun _ hk => hk.2) (.int .i64 t129)) (fun _ hk => hk.1)⟩, ⟨by (with_reducible repeat (first | refine blk_drewN ?_ _ | refine blk_drew ?_ | refine blk_alloc ?_ _)); refine blk_far ?_ NB101_131.out _; (with_reducible repeat (first | refine blk_drewN ?_ _ | refine blk_drew ?_ | refine blk_alloc ?_ _)); refine blk_far ?_ NB101_131.out _; (with_reducible repeat (first | refine blk_drewN ?_ _ | refine blk_drew ?_ | refine blk_alloc ?_ _)); refine blk_far ?_ NB101_131.out _; (with_reducible repeat (first | refine blk_drewN ?_ _ | refine blk_drew ?_ | refine blk_alloc ?_ _)); exact BK101.out⟩, ⟨by (with_reducible repeat (first | refine blk_drewN ?_ _ | refine blk_drew ?_ | refine blk_alloc ?_ _)); refine blk_far ?_ NB102_131.out _; (with_reducible repeat (first | refine blk_drewN ?_ _ | refine blk_drew ?_ | refine blk_alloc ?_ _)); refine blk_far ?_ NB102_131.out _; (with_reducible repeat (first | refine blk_drewN ?_ _ | refine blk_drew ?_ | refine blk_alloc ?_ _)); refine blk_far ?_ NB102_131.out _; (with_reducible repeat (first | refine blk_drewN ?_ _ | refine blk_drew ?_ | refine blk_alloc ?_ _)); exact BK102.out⟩, ⟨by (with_reducible repeat (first | refine blk_drewN ?_ _ | refine blk_drew ?_ | refine blk_alloc ?_ _)); refine blk_put (cs := #[.int .i64 t127, .int .i64 t128, .int .i64 0]) ?_ 2 _ rfl; (with_reducible repeat (first | refine blk_drewN ?_ _ | refine blk_drew ?_ | refine blk_alloc ?_ _)); refine blk_put (cs := #[.int .i64 t127, .int .i64 0, .int .i64 0]) ?_ 1 _ rfl; (with_reducible repeat (first | refine blk_drewN ?_ _ | refine blk_drew ?_ | refine blk_alloc ?_ _)); refine blk_put (cs := #[.int .i64 0, .int .i64 0, .int .i64 0]) ?_ 0 _ rfl; (with_reducible repeat (first | refine blk_drewN ?_ _ | refine blk_drew ?_ | refine blk_alloc ?_ _)); exact BK131.out⟩, ⟨by repeat (first | (with_reducible first | exact HB.out | apply below_alloc | apply pw_below_drewN | apply below_drew1 | refine below_set ?_ GE101.out | refine below_set ?_ GE102.out | refine below_set ?_ GE131.out) | exact HB.out)⟩⟩
                · rw [if_neg c46] at H
                  have c46b0 : (t126 == 0) = false := beq_eq_false_iff_ne.mpr c46
                  have c46b1 : (t126 != 0) = true := bne_iff_ne.mpr c46
                  have H' := Aside0.mk H
                  clear H
                  go_wp2
                  go_meet
                  case rel => exact ⟨_, (true), (by first | rfl | (simp; done) | (simp [*]; done)), H', ⟨by have := HJ8.out; first | omega | exact Nat.le_refl _⟩, ⟨by (with_reducible repeat (first | apply Kd.R_alloc | apply Kd.R_drewN | apply Kd.R_drew)); exact Kd.R_mono (Kd.R_far (p := ⟨gb131, 2, none⟩) (Kd.R_far (p := ⟨gb131, 1, none⟩) (Kd.R_far (p := ⟨gb131, 0, none⟩) (Kd.R_types HO_9.out BK131.out (by decide)) (fun _ hk => hk.2) (.int .i64 t127)) (fun _ hk => hk.2) (.int .i64 t128)) (fun _ hk => hk.2) (.int .i64 t129)) (fun _ hk => hk.1)⟩, ⟨by (with_reducible repeat (first | apply Kd.R_alloc | apply Kd.R_drewN | apply Kd.R_drew)); exact Kd.R_mono (Kd.R_far (p := ⟨gb131, 2, none⟩) (Kd.R_far (p := ⟨gb131, 1, none⟩) (Kd.R_far (p := ⟨gb131, 0, none⟩) (Kd.R_types HO_11.out BK131.out (by decide)) (fun _ hk => hk.2) (.int .i64 t127)) (fun _ hk => hk.2) (.int .i64 t128)) (fun _ hk => hk.2) (.int .i64 t129)) (fun _ hk => hk.1)⟩, ⟨by (with_reducible repeat (first | refine blk_drewN ?_ _ | refine blk_drew ?_ | refine blk_alloc ?_ _)); refine blk_far ?_ NB101_131.out _; (with_reducible repeat (first | refine blk_drewN ?_ _ | refine blk_drew ?_ | refine blk_alloc ?_ _)); refine blk_far ?_ NB101_131.out _; (with_reducible repeat (first | refine blk_drewN ?_ _ | refine blk_drew ?_ | refine blk_alloc ?_ _)); refine blk_far ?_ NB101_131.out _; (with_reducible repeat (first | refine blk_drewN ?_ _ | refine blk_drew ?_ | refine blk_alloc ?_ _)); exact BK101.out⟩, ⟨by (with_reducible repeat (first | refine blk_drewN ?_ _ | refine blk_drew ?_ | refine blk_alloc ?_ _)); refine blk_far ?_ NB102_131.out _; (with_reducible repeat (first | refine blk_drewN ?_ _ | refine blk_drew ?_ | refine blk_alloc ?_ _)); refine blk_far ?_ NB102_131.out _; (with_reducible repeat (first | refine blk_drewN ?_ _ | refine blk_drew ?_ | refine blk_alloc ?_ _)); refine blk_far ?_ NB102_131.out _; (with_reducible repeat (first | refine blk_drewN ?_ _ | refine blk_drew ?_ | refine blk_alloc ?_ _)); exact BK102.out⟩, ⟨by (with_reducible repeat (first | refine blk_drewN ?_ _ | refine blk_drew ?_ | refine blk_alloc ?_ _)); refine blk_put (cs := #[.int .i64 t127, .int .i64 t128, .int .i64 0]) ?_ 2 _ rfl; (with_reducible repeat (first | refine blk_drewN ?_ _ | refine blk_drew ?_ | refine blk_alloc ?_ _)); refine blk_put (cs := #[.int .i64 t127, .int .i64 0, .int .i64 0]) ?_ 1 _ rfl; (with_reducible repeat (first | refine blk_drewN ?_ _ | refine blk_drew ?_ | refine blk_alloc ?_ _)); refine blk_put (cs := #[.int .i64 0, .int .i64 0, .int .i64 0]) ?_ 0 _ rfl; (with_reducible repeat (first | refine blk_drewN ?_ _ | refine blk_drew ?_ | refine blk_alloc ?_ _)); exact BK131.out⟩, ⟨by repeat (first | (with_reducible first | exact HB.out | apply below_alloc | apply pw_below_drewN | apply below_drew1 | refine below_set ?_ GE101.out | refine below_set ?_ GE102.out | refine below_set ?_ GE131.out) | exact HB.out)⟩⟩
              · rw [if_neg c45] at H
                have c45b0 : (t124 == 0) = false := beq_eq_false_iff_ne.mpr c45
                have c45b1 : (t124 != 0) = true := bne_iff_ne.mpr c45
                have H' := Aside0.mk H
                clear H
                go_wp2
                go_meet
                case rel => exact ⟨_, (true), (by first | rfl | (simp; done) | (simp [*]; done)), H', ⟨by have := HJ8.out; first | omega | exact Nat.le_refl _⟩, ⟨by (with_reducible repeat (first | apply Kd.R_alloc | apply Kd.R_drewN | apply Kd.R_drew)); exact Kd.R_mono (Kd.R_far (p := ⟨gb131, 2, none⟩) (Kd.R_far (p := ⟨gb131, 1, none⟩) (Kd.R_far (p := ⟨gb131, 0, none⟩) (Kd.R_types HO_9.out BK131.out (by decide)) (fun _ hk => hk.2) (.int .i64 t127)) (fun _ hk => hk.2) (.int .i64 t128)) (fun _ hk => hk.2) (.int .i64 t129)) (fun _ hk => hk.1)⟩, ⟨by (with_reducible repeat (first | apply Kd.R_alloc | apply Kd.R_drewN | apply Kd.R_drew)); exact Kd.R_mono (Kd.R_far (p := ⟨gb131, 2, none⟩) (Kd.R_far (p := ⟨gb131, 1, none⟩) (Kd.R_far (p := ⟨gb131, 0, none⟩) (Kd.R_types HO_11.out BK131.out (by decide)) (fun _ hk => hk.2) (.int .i64 t127)) (fun _ hk => hk.2) (.int .i64 t128)) (fun _ hk => hk.2) (.int .i64 t129)) (fun _ hk => hk.1)⟩, ⟨by (with_reducible repeat (first | refine blk_drewN ?_ _ | refine blk_drew ?_ | refine blk_alloc ?_ _)); refine blk_far ?_ NB101_131.out _; (with_reducible repeat (first | refine blk_drewN ?_ _ | refine blk_drew ?_ | refine blk_alloc ?_ _)); refine blk_far ?_ NB101_131.out _; (with_reducible repeat (first | refine blk_drewN ?_ _ | refine blk_drew ?_ | refine blk_alloc ?_ _)); refine blk_far ?_ NB101_131.out _; (with_reducible repeat (first | refine blk_drewN ?_ _ | refine blk_drew ?_ | refine blk_alloc ?_ _)); exact BK101.out⟩, ⟨by (with_reducible repeat (first | refine blk_drewN ?_ _ | refine blk_drew ?_ | refine blk_alloc ?_ _)); refine blk_far ?_ NB102_131.out _; (with_reducible repeat (first | refine blk_drewN ?_ _ | refine blk_drew ?_ | refine blk_alloc ?_ _)); refine blk_far ?_ NB102_131.out _; (with_reducible repeat (first | refine blk_drewN ?_ _ | refine blk_drew ?_ | refine blk_alloc ?_ _)); refine blk_far ?_ NB102_131.out _; (with_reducible repeat (first | refine blk_drewN ?_ _ | refine blk_drew ?_ | refine blk_alloc ?_ _)); exact BK102.out⟩, ⟨by (with_reducible repeat (first | refine blk_drewN ?_ _ | refine blk_drew ?_ | refine blk_alloc ?_ _)); refine blk_put (cs := #[.int .i64 t127, .int .i64 t128, .int .i64 0]) ?_ 2 _ rfl; (with_reducible repeat (first | refine blk_drewN ?_ _ | refine blk_drew ?_ | refine blk_alloc ?_ _)); refine blk_put (cs := #[.int .i64 t127, .int .i64 0, .int .i64 0]) ?_ 1 _ rfl; (with_reducible repeat (first | refine blk_drewN ?_ _ | refine blk_drew ?_ | refine blk_alloc ?_ _)); refine blk_put (cs := #[.int .i64 0, .int .i64 0, .int .i64 0]) ?_ 0 _ rfl; (with_reducible repeat (first | refine blk_drewN ?_ _ | refine blk_drew ?_ | refine blk_alloc ?_ _)); exact BK131.out⟩, ⟨by repeat (first | (with_reducible first | exact HB.out | apply below_alloc | apply pw_below_drewN | apply below_drew1 | refine below_set ?_ GE101.out | refine below_set ?_ GE102.out | refine below_set ?_ GE131.out) | exact HB.out)⟩⟩
            · rw [if_neg c44] at H
              have c44b0 : (t122 == 0) = false := beq_eq_false_iff_ne.mpr c44
              have c44b1 : (t122 != 0) = true := bne_iff_ne.mpr c44
              have H' := Aside0.mk H
              clear H
              go_wp2
              go_meet
              case rel => exact ⟨_, (true), (by first | rfl | (simp; done) | (simp [*]; done)), H', ⟨by have := HJ8.out; first | omega | exact Nat.le_refl _⟩, ⟨by (with_reducible repeat (first | apply Kd.R_alloc | apply Kd.R_drewN | apply Kd.R_drew)); exact Kd.R_mono (Kd.R_far (p := ⟨gb131, 2, none⟩) (Kd.R_far (p := ⟨gb131, 1, none⟩) (Kd.R_far (p := ⟨gb131, 0, none⟩) (Kd.R_types HO_9.out BK131.out (by decide)) (fun _ hk => hk.2) (.int .i64 t127)) (fun _ hk => hk.2) (.int .i64 t128)) (fun _ hk => hk.2) (.int .i64 t129)) (fun _ hk => hk.1)⟩, ⟨by (with_reducible repeat (first | apply Kd.R_alloc | apply Kd.R_drewN | apply Kd.R_drew)); exact Kd.R_mono (Kd.R_far (p := ⟨gb131, 2, none⟩) (Kd.R_far (p := ⟨gb131, 1, none⟩) (Kd.R_far (p := ⟨gb131, 0, none⟩) (Kd.R_types HO_11.out BK131.out (by decide)) (fun _ hk => hk.2) (.int .i64 t127)) (fun _ hk => hk.2) (.int .i64 t128)) (fun _ hk => hk.2) (.int .i64 t129)) (fun _ hk => hk.1)⟩, ⟨by (with_reducible repeat (first | refine blk_drewN ?_ _ | refine blk_drew ?_ | refine blk_alloc ?_ _)); refine blk_far ?_ NB101_131.out _; (with_reducible repeat (first | refine blk_drewN ?_ _ | refine blk_drew ?_ | refine blk_alloc ?_ _)); refine blk_far ?_ NB101_131.out _; (with_reducible repeat (first | refine blk_drewN ?_ _ | refine blk_drew ?_ | refine blk_alloc ?_ _)); refine blk_far ?_ NB101_131.out _; (with_reducible repeat (first | refine blk_drewN ?_ _ | refine blk_drew ?_ | refine blk_alloc ?_ _)); exact BK101.out⟩, ⟨by (with_reducible repeat (first | refine blk_drewN ?_ _ | refine blk_drew ?_ | refine blk_alloc ?_ _)); refine blk_far ?_ NB102_131.out _; (with_reducible repeat (first | refine blk_drewN ?_ _ | refine blk_drew ?_ | refine blk_alloc ?_ _)); refine blk_far ?_ NB102_131.out _; (with_reducible repeat (first | refine blk_drewN ?_ _ | refine blk_drew ?_ | refine blk_alloc ?_ _)); refine blk_far ?_ NB102_131.out _; (with_reducible repeat (first | refine blk_drewN ?_ _ | refine blk_drew ?_ | refine blk_alloc ?_ _)); exact BK102.out⟩, ⟨by (with_reducible repeat (first | refine blk_drewN ?_ _ | refine blk_drew ?_ | refine blk_alloc ?_ _)); refine blk_put (cs := #[.int .i64 t127, .int .i64 t128, .int .i64 0]) ?_ 2 _ rfl; (with_reducible repeat (first | refine blk_drewN ?_ _ | refine blk_drew ?_ | refine blk_alloc ?_ _)); refine blk_put (cs := #[.int .i64 t127, .int .i64 0, .int .i64 0]) ?_ 1 _ rfl; (with_reducible repeat (first | refine blk_drewN ?_ _ | refine blk_drew ?_ | refine blk_alloc ?_ _)); refine blk_put (cs := #[.int .i64 0, .int .i64 0, .int .i64 0]) ?_ 0 _ rfl; (with_reducible repeat (first | refine blk_drewN ?_ _ | refine blk_drew ?_ | refine blk_alloc ?_ _)); exact BK131.out⟩, ⟨by repeat (first | (with_reducible first | exact HB.out | apply below_alloc | apply pw_below_drewN | apply below_drew1 | refine below_set ?_ GE101.out | refine below_set ?_ GE102.out | refine below_set ?_ GE131.out) | exact HB.out)⟩⟩
          · rw [if_neg c43] at H
            have c43b0 : (t120 == 0) = false := beq_eq_false_iff_ne.mpr c43
            have c43b1 : (t120 != 0) = true := bne_iff_ne.mpr c43
            (first | rw [c43b0] | (simp only [i64_w, i32_w]; rw [c43b0]) | skip)
            have H' := Aside0.mk H
            clear H
            go_wp2
            go_meet
            case rel => exact ⟨_, (true), (by first | rfl | (simp; done) | (simp [*]; done)), H', ⟨by have := HJ8.out; first | omega | exact Nat.le_refl _⟩, ⟨by (with_reducible repeat (first | apply Kd.R_alloc | apply Kd.R_drewN | apply Kd.R_drew)); exact Kd.R_mono (Kd.R_far (p := ⟨gb131, 2, none⟩) (Kd.R_far (p := ⟨gb131, 1, none⟩) (Kd.R_far (p := ⟨gb131, 0, none⟩) (Kd.R_types HO_9.out BK131.out (by decide)) (fun _ hk => hk.2) (.int .i64 t127)) (fun _ hk => hk.2) (.int .i64 t128)) (fun _ hk => hk.2) (.int .i64 t129)) (fun _ hk => hk.1)⟩, ⟨by (with_reducible repeat (first | apply Kd.R_alloc | apply Kd.R_drewN | apply Kd.R_drew)); exact Kd.R_mono (Kd.R_far (p := ⟨gb131, 2, none⟩) (Kd.R_far (p := ⟨gb131, 1, none⟩) (Kd.R_far (p := ⟨gb131, 0, none⟩) (Kd.R_types HO_11.out BK131.out (by decide)) (fun _ hk => hk.2) (.int .i64 t127)) (fun _ hk => hk.2) (.int .i64 t128)) (fun _ hk => hk.2) (.int .i64 t129)) (fun _ hk => hk.1)⟩, ⟨by (with_reducible repeat (first | refine blk_drewN ?_ _ | refine blk_drew ?_ | refine blk_alloc ?_ _)); refine blk_far ?_ NB101_131.out _; (with_reducible repeat (first | refine blk_drewN ?_ _ | refine blk_drew ?_ | refine blk_alloc ?_ _)); refine blk_far ?_ NB101_131.out _; (with_reducible repeat (first | refine blk_drewN ?_ _ | refine blk_drew ?_ | refine blk_alloc ?_ _)); refine blk_far ?_ NB101_131.out _; (with_reducible repeat (first | refine blk_drewN ?_ _ | refine blk_drew ?_ | refine blk_alloc ?_ _)); exact BK101.out⟩, ⟨by (with_reducible repeat (first | refine blk_drewN ?_ _ | refine blk_drew ?_ | refine blk_alloc ?_ _)); refine blk_far ?_ NB102_131.out _; (with_reducible repeat (first | refine blk_drewN ?_ _ | refine blk_drew ?_ | refine blk_alloc ?_ _)); refine blk_far ?_ NB102_131.out _; (with_reducible repeat (first | refine blk_drewN ?_ _ | refine blk_drew ?_ | refine blk_alloc ?_ _)); refine blk_far ?_ NB102_131.out _; (with_reducible repeat (first | refine blk_drewN ?_ _ | refine blk_drew ?_ | refine blk_alloc ?_ _)); exact BK102.out⟩, ⟨by (with_reducible repeat (first | refine blk_drewN ?_ _ | refine blk_drew ?_ | refine blk_alloc ?_ _)); refine blk_put (cs := #[.int .i64 t127, .int .i64 t128, .int .i64 0]) ?_ 2 _ rfl; (with_reducible repeat (first | refine blk_drewN ?_ _ | refine blk_drew ?_ | refine blk_alloc ?_ _)); refine blk_put (cs := #[.int .i64 t127, .int .i64 0, .int .i64 0]) ?_ 1 _ rfl; (with_reducible repeat (first | refine blk_drewN ?_ _ | refine blk_drew ?_ | refine blk_alloc ?_ _)); refine blk_put (cs := #[.int .i64 0, .int .i64 0, .int .i64 0]) ?_ 0 _ rfl; (with_reducible repeat (first | refine blk_drewN ?_ _ | refine blk_drew ?_ | refine blk_alloc ?_ _)); exact BK131.out⟩, ⟨by repeat (first | (with_reducible first | exact HB.out | apply below_alloc | apply pw_below_drewN | apply below_drew1 | refine below_set ?_ GE101.out | refine below_set ?_ GE102.out | refine below_set ?_ GE131.out) | exact HB.out)⟩⟩
        case rest =>
          as_aux_lemma =>
          clear HC31
          try clear c1
          try clear c2
          try clear p2
          try clear c4
          try clear c5
          try clear c6
          try clear c14
          try clear c18
          try clear c18b0
          try clear c18b1
          try clear c19
          try clear c20
          try clear c20b0
          try clear c20b1
          try clear c20b2
          try clear c23
          try clear c23b0
          try clear c23b1
          try clear c23b2
          try clear c40
          try clear c41
          try clear c43
          try clear c43b0
          try clear c43b1
          try clear c44
          try clear c44b0
          try clear c44b1
          try clear c45
          try clear c45b0
          try clear c45b1
          try clear c46
          try clear c46b0
          try clear c46b1
          try clear c47
          try clear c47b0
          try clear c47b1
          try clear c47b2
          try clear c48
          try clear c48b0
          try clear c48b1
          try clear c49
          try clear c49b0
          try clear c49b1
          try clear c49b2
          try clear c50
          try clear c50b0
          try clear c50b1
          try clear c50b2
          try clear c51
          try clear c51b0
          try clear c51b1
          try clear hcz42_0
          try clear hcz42_1
          try clear hcz42_2
          try clear hfz42_0
          try clear hfz42_1
          try clear hfz42_2
          try clear p2
          obtain ⟨kq, x126_30, rfl, HA, HJ30, HO_9, HO_11, BK101, BK102, BK131, HB⟩ := hcut
          cases kq with
          | zero => exact absurd HA.out (by simp [goosenecklaw01_PlaneParts.j1])
          | succ kj30 =>
            have H := HA.out
            clear HA
            simp only [goosenecklaw01_PlaneParts.j1] at H
            by_cases c52 : x126_30 = true
            · subst c52
              have H1 : (some false) = some r := by rw [if_pos rfl] at H; exact H
              clear H
              have H := H1
              clear H1
              rw [hr_.out] at H
              exact absurd H (by simp)
            · replace c52 := Bool.eq_false_iff.mpr c52
              subst c52
              have H1 : (if t130 = 0 then ((plane_CheckPart.f kj30 t106 t113 t127 t128 t129).bind fun t132 => (if t132 = 0 then (if t119 = true then ((plane_CheckPart.f kj30 t106 t113 a2_0 a2_1 a2_2).bind fun t133 => (goosenecklaw01_PlaneParts.j2 kj30 t106 t113 t119 (t133 == 0) a3_0 a3_1)) else (goosenecklaw01_PlaneParts.j2 kj30 t106 t113 t119 false a3_0 a3_1)) else (goosenecklaw01_PlaneParts.j2 kj30 t106 t113 t119 true a3_0 a3_1))) else (if t119 = true then ((plane_CheckPart.f kj30 t106 t113 a2_0 a2_1 a2_2).bind fun t134 => (goosenecklaw01_PlaneParts.j2 kj30 t106 t113 t119 (t134 == 0) a3_0 a3_1)) else (goosenecklaw01_PlaneParts.j2 kj30 t106 t113 t119 false a3_0 a3_1))) = some r := by rw [if_neg (show ¬ (false = true) by decide)] at H; exact H
              clear H
              have H := H1
              clear H1
              have HC53 := Aside0.mk H
              clear H
              go_upto_region 12 with (fail)
              go_cut [145] (fun v145 wc => ∃ (kq : Nat) (x145_52 : Bool), v145 = .bool x145_52 ∧ Aside0 (goosenecklaw01_PlaneParts.j2 kq t106 t113 t119 x145_52 a3_0 a3_1 = some r) ∧ Aside0 (kq ≤ kj30) ∧ Aside0 (Kd.R k23 23 wc w.heap.size (fun k_ => some k_ ≠ ((.slice Ao33 t113.length co33) : Value).ownBlock) (.slice Ao32 t106.length co32) t106) ∧ Aside0 (Kd.R k23 23 wc w.heap.size (fun k_ => some k_ ≠ ((.slice Ao32 t106.length co32) : Value).ownBlock) (.slice Ao33 t113.length co33) t113) ∧ Aside0 (wc.heap[gb101]? = some (.cells #[.int .i64 a2_0, .int .i64 a2_1, .int .i64 a2_2] 75 (0, 0))) ∧ Aside0 (wc.heap[gb102]? = some (.cells #[.int .i8 a3_0, .int .i8 a3_1] 32 (0, 0))) ∧ Aside0 (wc.heap[gb131]? = some (.cells #[.int .i64 t127, .int .i64 t128, .int .i64 t129] 75 (0, 0))) ∧ Aside0 (Below w.heap.size w wc))
              case first =>
                have H := HC53.out
                clear HC53
                by_cases c54 : t130 = 0
                · rw [if_pos c54] at H
                  have c54b0 : (t130 == 0) = true := beq_iff_eq.mpr c54
                  have c54b1 : (t130 != 0) = false := bne_eq_false_iff_eq.mpr c54
                  clear c54
                  (first | rw [c54b0] | (simp only [i64_w, i32_w]; rw [c54b0]) | skip)
                  replace H := Option.bind_eq_some_iff.mp H
                  obtain ⟨t132, A550, H⟩ := H
                  replace H : (if t132 = 0 then (if t119 = true then ((plane_CheckPart.f kj30 t106 t113 a2_0 a2_1 a2_2).bind fun t133 => (goosenecklaw01_PlaneParts.j2 kj30 t106 t113 t119 (t133 == 0) a3_0 a3_1)) else (goosenecklaw01_PlaneParts.j2 kj30 t106 t113 t119 false a3_0 a3_1)) else (goosenecklaw01_PlaneParts.j2 kj30 t106 t113 t119 true a3_0 a3_1)) = some r := H
                  have A55 := Aside0.mk A550
                  clear A550
                  by_cases c56 : t132 = 0
                  · rw [if_pos c56] at H
                    have c56b0 : (t132 == 0) = true := beq_iff_eq.mpr c56
                    have c56b1 : (t132 != 0) = false := bne_eq_false_iff_eq.mpr c56
                    clear c56
                    by_cases c57 : t119 = true
                    · subst c57
                      have H1 : ((plane_CheckPart.f kj30 t106 t113 a2_0 a2_1 a2_2).bind fun t133 => (goosenecklaw01_PlaneParts.j2 kj30 t106 t113 true (t133 == 0) a3_0 a3_1)) = some r := by rw [if_pos rfl] at H; exact H
                      clear H
                      have H := H1
                      clear H1
                      replace H := Option.bind_eq_some_iff.mp H
                      obtain ⟨t133, A580, H⟩ := H
                      replace H : (goosenecklaw01_PlaneParts.j2 kj30 t106 t113 true (t133 == 0) a3_0 a3_1) = some r := H
                      have A58 := Aside0.mk A580
                      clear A580
                      have H' := Aside0.mk H
                      clear H
                      have hnb59 := NB131_101.out
                      have hnc59 := NB101_131.out
                      have hnb60 := NB131_102.out
                      have hnc60 := NB102_131.out
                      have hcz61_0 : wc.cell? ⟨gb131, 0, none⟩ = some (.int .i64 t127) := (blk_cell BK131.out 0).trans rfl
                      have hcz61_1 : wc.cell? ⟨gb131, 1, none⟩ = some (.int .i64 t128) := (blk_cell BK131.out 1).trans rfl
                      have hcz61_2 : wc.cell? ⟨gb131, 2, none⟩ = some (.int .i64 t129) := (blk_cell BK131.out 2).trans rfl
                      have hfz61_0 := blk_frozen BK131.out 0
                      have hfz61_1 := blk_frozen BK131.out 1
                      have hfz61_2 := blk_frozen BK131.out 2
                      go_wp2_with (first | (go_at_call 62; (with_reducible refine (plane_CheckPart.calls kj30 (fun k_ => some k_ = (.slice Ao32 t106.length co32 : Value).ownBlock) _ _ t106 (fun k_ => some k_ = (.slice Ao33 t113.length co33 : Value).ownBlock) _ _ t113 t127 t128 t129 t132 _ ?side1 ?side2 A55.out).mono ?_); (case side1 => exact Kd.R_V (Kd.R_tight rfl (Kd.R_types (Kd.R_types (Kd.R_types (HO_9.out) BK101.out (by decide)) BK102.out (by decide)) BK131.out (by decide)))); (case side2 => exact Kd.R_V (Kd.R_tight rfl (Kd.R_types (Kd.R_types (Kd.R_types (HO_11.out) BK101.out (by decide)) BK102.out (by decide)) BK131.out (by decide)))); rintro e w62 ⟨rfl, hb⟩; have n0_ := Aside0.mk (Kd.R_below (by (with_reducible repeat (first | apply Kd.R_alloc | apply Kd.R_drewN | apply Kd.R_drew)); exact HO_9.out) hb); have n1_ := Aside0.mk (Kd.R_below (by (with_reducible repeat (first | apply Kd.R_alloc | apply Kd.R_drewN | apply Kd.R_drew)); exact HO_11.out) hb); have n2_ := Aside0.mk (blk_below (g := gb101) (o := .cells #[.int .i64 a2_0, .int .i64 a2_1, .int .i64 a2_2] 75 (0, 0)) (by (with_reducible repeat (first | refine blk_drewN ?_ _ | refine blk_drew ?_ | refine blk_alloc ?_ _)); exact BK101.out) hb); have n3_ := Aside0.mk (blk_below (g := gb102) (o := .cells #[.int .i8 a3_0, .int .i8 a3_1] 32 (0, 0)) (by (with_reducible repeat (first | refine blk_drewN ?_ _ | refine blk_drew ?_ | refine blk_alloc ?_ _)); exact BK102.out) hb); have n4_ := Aside0.mk (blk_below (g := gb131) (o := .cells #[.int .i64 t127, .int .i64 t128, .int .i64 t129] 75 (0, 0)) (by (with_reducible repeat (first | refine blk_drewN ?_ _ | refine blk_drew ?_ | refine blk_alloc ?_ _)); exact BK131.out) hb); have n5_ := Aside0.mk (below_step (by repeat (first | (with_reducible first | exact HB.out | apply below_alloc | apply pw_below_drewN | apply below_drew1 | refine below_set ?_ GE101.out | refine below_set ?_ GE102.out | refine below_set ?_ GE131.out) | exact HB.out)) hb); clear HO_9; clear HO_11; clear BK101; clear BK102; clear BK131; clear HB; have HO_9 := n0_; have HO_11 := n1_; have BK101 := n2_; have BK102 := n3_; have BK131 := n4_; have HB := n5_; clear n0_ n1_ n2_ n3_ n4_ n5_; (try clear hb); (try clear hb2); (try clear hk); (try clear hi); have hnb63 := NB101_102.out; have hnc63 := NB102_101.out; have hcz64_0 : w62.cell? ⟨gb101, 0, none⟩ = some (.int .i64 a2_0) := (blk_cell BK101.out 0).trans rfl; have hcz64_1 : w62.cell? ⟨gb101, 1, none⟩ = some (.int .i64 a2_1) := (blk_cell BK101.out 1).trans rfl; have hcz64_2 : w62.cell? ⟨gb101, 2, none⟩ = some (.int .i64 a2_2) := (blk_cell BK101.out 2).trans rfl; have hfz64_0 := blk_frozen BK101.out 0; have hfz64_1 := blk_frozen BK101.out 1; have hfz64_2 := blk_frozen BK101.out 2) | (go_at_call 62; (with_reducible refine (plane_CheckPart.calls kj30 (fun k_ => some k_ = (.slice Ao32 t106.length co32 : Value).ownBlock) _ _ t106 (fun k_ => some k_ = (.slice Ao33 t113.length co33 : Value).ownBlock) _ _ t113 a2_0 a2_1 a2_2 t133 _ ?side1 ?side2 A58.out).mono ?_); (case side1 => exact Kd.R_V (Kd.R_tight rfl (Kd.R_types (Kd.R_types (Kd.R_types (HO_9.out) BK101.out (by decide)) BK102.out (by decide)) BK131.out (by decide)))); (case side2 => exact Kd.R_V (Kd.R_tight rfl (Kd.R_types (Kd.R_types (Kd.R_types (HO_11.out) BK101.out (by decide)) BK102.out (by decide)) BK131.out (by decide)))); rintro e w65 ⟨rfl, hb⟩; have n0_ := Aside0.mk (Kd.R_below (by (with_reducible repeat (first | apply Kd.R_alloc | apply Kd.R_drewN | apply Kd.R_drew)); exact HO_9.out) hb); have n1_ := Aside0.mk (Kd.R_below (by (with_reducible repeat (first | apply Kd.R_alloc | apply Kd.R_drewN | apply Kd.R_drew)); exact HO_11.out) hb); have n2_ := Aside0.mk (blk_below (g := gb101) (o := .cells #[.int .i64 a2_0, .int .i64 a2_1, .int .i64 a2_2] 75 (0, 0)) (by (with_reducible repeat (first | refine blk_drewN ?_ _ | refine blk_drew ?_ | refine blk_alloc ?_ _)); exact BK101.out) hb); have n3_ := Aside0.mk (blk_below (g := gb102) (o := .cells #[.int .i8 a3_0, .int .i8 a3_1] 32 (0, 0)) (by (with_reducible repeat (first | refine blk_drewN ?_ _ | refine blk_drew ?_ | refine blk_alloc ?_ _)); exact BK102.out) hb); have n4_ := Aside0.mk (blk_below (g := gb131) (o := .cells #[.int .i64 t127, .int .i64 t128, .int .i64 t129] 75 (0, 0)) (by (with_reducible repeat (first | refine blk_drewN ?_ _ | refine blk_drew ?_ | refine blk_alloc ?_ _)); exact BK131.out) hb); have n5_ := Aside0.mk (below_step (by repeat (first | (with_reducible first | exact HB.out | apply below_alloc | apply pw_below_drewN | apply below_drew1 | refine below_set ?_ GE101.out | refine below_set ?_ GE102.out | refine below_set ?_ GE131.out) | exact HB.out)) hb); clear HO_9; clear HO_11; clear BK101; clear BK102; clear BK131; clear HB; have HO_9 := n0_; have HO_11 := n1_; have BK101 := n2_; have BK102 := n3_; have BK131 := n4_; have HB := n5_; clear n0_ n1_ n2_ n3_ n4_ n5_; (try clear hb); (try clear hb2); (try clear hk); (try clear hi)))
                      go_meet
                      case rel => exact ⟨_, ((t133 == 0)), (by first | rfl | (simp; done) | (simp [*]; done)), H', ⟨by have := HJ8.out; have := HJ30.out; first | omega | exact Nat.le_refl _⟩, ⟨by (with_reducible repeat (first | apply Kd.R_alloc | apply Kd.R_drewN | apply Kd.R_drew)); exact HO_9.out⟩, ⟨by (with_reducible repeat (first | apply Kd.R_alloc | apply Kd.R_drewN | apply Kd.R_drew)); exact HO_11.out⟩, ⟨by (with_reducible repeat (first | refine blk_drewN ?_ _ | refine blk_drew ?_ | refine blk_alloc ?_ _)); exact BK101.out⟩, ⟨by (with_reducible repeat (first | refine blk_drewN ?_ _ | refine blk_drew ?_ | refine blk_alloc ?_ _)); exact BK102.out⟩, ⟨by (with_reducible repeat (first | refine blk_drewN ?_ _ | refine blk_drew ?_ | refine blk_alloc ?_ _)); exact BK131.out⟩, ⟨by repeat (first | (with_reducible first | exact HB.out | apply below_alloc | apply pw_below_drewN | apply below_drew1 | refine below_set ?_ GE101.out | refine below_set ?_ GE102.out | refine below_set ?_ GE131.out) | exact HB.out)⟩⟩
                    · replace c57 := Bool.eq_false_iff.mpr c57
                      subst c57
                      have H1 : (goosenecklaw01_PlaneParts.j2 kj30 t106 t113 false false a3_0 a3_1) = some r := by rw [if_neg (show ¬ (false = true) by decide)] at H; exact H
                      clear H
                      have H := H1
                      clear H1
                      have H' := Aside0.mk H
                      clear H
                      have hnb66 := NB131_101.out
                      have hnc66 := NB101_131.out
                      have hnb67 := NB131_102.out
                      have hnc67 := NB102_131.out
                      have hcz68_0 : wc.cell? ⟨gb131, 0, none⟩ = some (.int .i64 t127) := (blk_cell BK131.out 0).trans rfl
                      have hcz68_1 : wc.cell? ⟨gb131, 1, none⟩ = some (.int .i64 t128) := (blk_cell BK131.out 1).trans rfl
                      have hcz68_2 : wc.cell? ⟨gb131, 2, none⟩ = some (.int .i64 t129) := (blk_cell BK131.out 2).trans rfl
                      have hfz68_0 := blk_frozen BK131.out 0
                      have hfz68_1 := blk_frozen BK131.out 1
                      have hfz68_2 := blk_frozen BK131.out 2
                      go_wp2_with (first | (go_at_call 62; (with_reducible refine (plane_CheckPart.calls kj30 (fun k_ => some k_ = (.slice Ao32 t106.length co32 : Value).ownBlock) _ _ t106 (fun k_ => some k_ = (.slice Ao33 t113.length co33 : Value).ownBlock) _ _ t113 t127 t128 t129 t132 _ ?side1 ?side2 A55.out).mono ?_); (case side1 => exact Kd.R_V (Kd.R_tight rfl (Kd.R_types (Kd.R_types (Kd.R_types (HO_9.out) BK101.out (by decide)) BK102.out (by decide)) BK131.out (by decide)))); (case side2 => exact Kd.R_V (Kd.R_tight rfl (Kd.R_types (Kd.R_types (Kd.R_types (HO_11.out) BK101.out (by decide)) BK102.out (by decide)) BK131.out (by decide)))); rintro e w69 ⟨rfl, hb⟩; have n0_ := Aside0.mk (Kd.R_below (by (with_reducible repeat (first | apply Kd.R_alloc | apply Kd.R_drewN | apply Kd.R_drew)); exact HO_9.out) hb); have n1_ := Aside0.mk (Kd.R_below (by (with_reducible repeat (first | apply Kd.R_alloc | apply Kd.R_drewN | apply Kd.R_drew)); exact HO_11.out) hb); have n2_ := Aside0.mk (blk_below (g := gb101) (o := .cells #[.int .i64 a2_0, .int .i64 a2_1, .int .i64 a2_2] 75 (0, 0)) (by (with_reducible repeat (first | refine blk_drewN ?_ _ | refine blk_drew ?_ | refine blk_alloc ?_ _)); exact BK101.out) hb); have n3_ := Aside0.mk (blk_below (g := gb102) (o := .cells #[.int .i8 a3_0, .int .i8 a3_1] 32 (0, 0)) (by (with_reducible repeat (first | refine blk_drewN ?_ _ | refine blk_drew ?_ | refine blk_alloc ?_ _)); exact BK102.out) hb); have n4_ := Aside0.mk (blk_below (g := gb131) (o := .cells #[.int .i64 t127, .int .i64 t128, .int .i64 t129] 75 (0, 0)) (by (with_reducible repeat (first | refine blk_drewN ?_ _ | refine blk_drew ?_ | refine blk_alloc ?_ _)); exact BK131.out) hb); have n5_ := Aside0.mk (below_step (by repeat (first | (with_reducible first | exact HB.out | apply below_alloc | apply pw_below_drewN | apply below_drew1 | refine below_set ?_ GE101.out | refine below_set ?_ GE102.out | refine below_set ?_ GE131.out) | exact HB.out)) hb); clear HO_9; clear HO_11; clear BK101; clear BK102; clear BK131; clear HB; have HO_9 := n0_; have HO_11 := n1_; have BK101 := n2_; have BK102 := n3_; have BK131 := n4_; have HB := n5_; clear n0_ n1_ n2_ n3_ n4_ n5_; (try clear hb); (try clear hb2); (try clear hk); (try clear hi)))
                      go_meet
                      case rel => exact ⟨_, (false), (by first | rfl | (simp; done) | (simp [*]; done)), H', ⟨by have := HJ8.out; have := HJ30.out; first | omega | exact Nat.le_refl _⟩, ⟨by (with_reducible repeat (first | apply Kd.R_alloc | apply Kd.R_drewN | apply Kd.R_drew)); exact HO_9.out⟩, ⟨by (with_reducible repeat (first | apply Kd.R_alloc | apply Kd.R_drewN | apply Kd.R_drew)); exact HO_11.out⟩, ⟨by (with_reducible repeat (first | refine blk_drewN ?_ _ | refine blk_drew ?_ | refine blk_alloc ?_ _)); exact BK101.out⟩, ⟨by (with_reducible repeat (first | refine blk_drewN ?_ _ | refine blk_drew ?_ | refine blk_alloc ?_ _)); exact BK102.out⟩, ⟨by (with_reducible repeat (first | refine blk_drewN ?_ _ | refine blk_drew ?_ | refine blk_alloc ?_ _)); exact BK131.out⟩, ⟨by repeat (first | (with_reducible first | exact HB.out | apply below_alloc | apply pw_below_drewN | apply below_drew1 | refine below_set ?_ GE101.out | refine below_set ?_ GE102.out | refine below_set ?_ GE131.out) | exact HB.out)⟩⟩
                  · rw [if_neg c56] at H
                    have c56b0 : (t132 == 0) = false := beq_eq_false_iff_ne.mpr c56
                    have c56b1 : (t132 != 0) = true := bne_iff_ne.mpr c56
                    have H' := Aside0.mk H
                    clear H
                    have hnb70 := NB131_101.out
                    have hnc70 := NB101_131.out
                    have hnb71 := NB131_102.out
                    have hnc71 := NB102_131.out
                    have hcz72_0 : wc.cell? ⟨gb131, 0, none⟩ = some (.int .i64 t127) := (blk_cell BK131.out 0).trans rfl
                    have hcz72_1 : wc.cell? ⟨gb131, 1, none⟩ = some (.int .i64 t128) := (blk_cell BK131.out 1).trans rfl
                    have hcz72_2 : wc.cell? ⟨gb131, 2, none⟩ = some (.int .i64 t129) := (blk_cell BK131.out 2).trans rfl
                    have hfz72_0 := blk_frozen BK131.out 0
                    have hfz72_1 := blk_frozen BK131.out 1
                    have hfz72_2 := blk_frozen BK131.out 2
                    go_wp2_with (first | (go_at_call 62; (with_reducible refine (plane_CheckPart.calls kj30 (fun k_ => some k_ = (.slice Ao32 t106.length co32 : Value).ownBlock) _ _ t106 (fun k_ => some k_ = (.slice Ao33 t113.length co33 : Value).ownBlock) _ _ t113 t127 t128 t129 t132 _ ?side1 ?side2 A55.out).mono ?_); (case side1 => exact Kd.R_V (Kd.R_tight rfl (Kd.R_types (Kd.R_types (Kd.R_types (HO_9.out) BK101.out (by decide)) BK102.out (by decide)) BK131.out (by decide)))); (case side2 => exact Kd.R_V (Kd.R_tight rfl (Kd.R_types (Kd.R_types (Kd.R_types (HO_11.out) BK101.out (by decide)) BK102.out (by decide)) BK131.out (by decide)))); rintro e w73 ⟨rfl, hb⟩; have n0_ := Aside0.mk (Kd.R_below (by (with_reducible repeat (first | apply Kd.R_alloc | apply Kd.R_drewN | apply Kd.R_drew)); exact HO_9.out) hb); have n1_ := Aside0.mk (Kd.R_below (by (with_reducible repeat (first | apply Kd.R_alloc | apply Kd.R_drewN | apply Kd.R_drew)); exact HO_11.out) hb); have n2_ := Aside0.mk (blk_below (g := gb101) (o := .cells #[.int .i64 a2_0, .int .i64 a2_1, .int .i64 a2_2] 75 (0, 0)) (by (with_reducible repeat (first | refine blk_drewN ?_ _ | refine blk_drew ?_ | refine blk_alloc ?_ _)); exact BK101.out) hb); have n3_ := Aside0.mk (blk_below (g := gb102) (o := .cells #[.int .i8 a3_0, .int .i8 a3_1] 32 (0, 0)) (by (with_reducible repeat (first | refine blk_drewN ?_ _ | refine blk_drew ?_ | refine blk_alloc ?_ _)); exact BK102.out) hb); have n4_ := Aside0.mk (blk_below (g := gb131) (o := .cells #[.int .i64 t127, .int .i64 t128, .int .i64 t129] 75 (0, 0)) (by (with_reducible repeat (first | refine blk_drewN ?_ _ | refine blk_drew ?_ | refine blk_alloc ?_ _)); exact BK131.out) hb); have n5_ := Aside0.mk (below_step (by repeat (first | (with_reducible first | exact HB.out | apply below_alloc | apply pw_below_drewN | apply below_drew1 | refine below_set ?_ GE101.out | refine below_set ?_ GE102.out | refine below_set ?_ GE131.out) | exact HB.out)) hb); clear HO_9; clear HO_11; clear BK101; clear BK102; clear BK131; clear HB; have HO_9 := n0_; have HO_11 := n1_; have BK101 := n2_; have BK102 := n3_; have BK131 := n4_; have HB := n5_; clear n0_ n1_ n2_ n3_ n4_ n5_; (try clear hb); (try clear hb2); (try clear hk); (try clear hi)))
                    go_meet
                    case rel => exact ⟨_, (true), (by first | rfl | (simp; done) | (simp [*]; done)), H', ⟨by have := HJ8.out; have := HJ30.out; first | omega | exact Nat.le_refl _⟩, ⟨by (with_reducible repeat (first | apply Kd.R_alloc | apply Kd.R_drewN | apply Kd.R_drew)); exact HO_9.out⟩, ⟨by (with_reducible repeat (first | apply Kd.R_alloc | apply Kd.R_drewN | apply Kd.R_drew)); exact HO_11.out⟩, ⟨by (with_reducible repeat (first | refine blk_drewN ?_ _ | refine blk_drew ?_ | refine blk_alloc ?_ _)); exact BK101.out⟩, ⟨by (with_reducible repeat (first | refine blk_drewN ?_ _ | refine blk_drew ?_ | refine blk_alloc ?_ _)); exact BK102.out⟩, ⟨by (with_reducible repeat (first | refine blk_drewN ?_ _ | refine blk_drew ?_ | refine blk_alloc ?_ _)); exact BK131.out⟩, ⟨by repeat (first | (with_reducible first | exact HB.out | apply below_alloc | apply pw_below_drewN | apply below_drew1 | refine below_set ?_ GE101.out | refine below_set ?_ GE102.out | refine below_set ?_ GE131.out) | exact HB.out)⟩⟩
                · rw [if_neg c54] at H
                  have c54b0 : (t130 == 0) = false := beq_eq_false_iff_ne.mpr c54
                  have c54b1 : (t130 != 0) = true := bne_iff_ne.mpr c54
                  (first | rw [c54b0] | (simp only [i64_w, i32_w]; rw [c54b0]) | skip)
                  by_cases c74 : t119 = true
                  · subst c74
                    have H1 : ((plane_CheckPart.f kj30 t106 t113 a2_0 a2_1 a2_2).bind fun t134 => (goosenecklaw01_PlaneParts.j2 kj30 t106 t113 true (t134 == 0) a3_0 a3_1)) = some r := by rw [if_pos rfl] at H; exact H
                    clear H
                    have H := H1
                    clear H1
                    replace H := Option.bind_eq_some_iff.mp H
                    obtain ⟨t134, A750, H⟩ := H
                    replace H : (goosenecklaw01_PlaneParts.j2 kj30 t106 t113 true (t134 == 0) a3_0 a3_1) = some r := H
                    have A75 := Aside0.mk A750
                    clear A750
                    have H' := Aside0.mk H
                    clear H
                    have hnb76 := NB101_102.out
                    have hnc76 := NB102_101.out
                    have hnb77 := NB101_131.out
                    have hnc77 := NB131_101.out
                    have hcz78_0 : wc.cell? ⟨gb101, 0, none⟩ = some (.int .i64 a2_0) := (blk_cell BK101.out 0).trans rfl
                    have hcz78_1 : wc.cell? ⟨gb101, 1, none⟩ = some (.int .i64 a2_1) := (blk_cell BK101.out 1).trans rfl
                    have hcz78_2 : wc.cell? ⟨gb101, 2, none⟩ = some (.int .i64 a2_2) := (blk_cell BK101.out 2).trans rfl
                    have hfz78_0 := blk_frozen BK101.out 0
                    have hfz78_1 := blk_frozen BK101.out 1
                    have hfz78_2 := blk_frozen BK101.out 2
                    go_wp2_with (first | (go_at_call 62; (with_reducible refine (plane_CheckPart.calls kj30 (fun k_ => some k_ = (.slice Ao32 t106.length co32 : Value).ownBlock) _ _ t106 (fun k_ => some k_ = (.slice Ao33 t113.length co33 : Value).ownBlock) _ _ t113 a2_0 a2_1 a2_2 t134 _ ?side1 ?side2 A75.out).mono ?_); (case side1 => exact Kd.R_V (Kd.R_tight rfl (Kd.R_types (Kd.R_types (Kd.R_types (HO_9.out) BK101.out (by decide)) BK102.out (by decide)) BK131.out (by decide)))); (case side2 => exact Kd.R_V (Kd.R_tight rfl (Kd.R_types (Kd.R_types (Kd.R_types (HO_11.out) BK101.out (by decide)) BK102.out (by decide)) BK131.out (by decide)))); rintro e w79 ⟨rfl, hb⟩; have n0_ := Aside0.mk (Kd.R_below (by (with_reducible repeat (first | apply Kd.R_alloc | apply Kd.R_drewN | apply Kd.R_drew)); exact HO_9.out) hb); have n1_ := Aside0.mk (Kd.R_below (by (with_reducible repeat (first | apply Kd.R_alloc | apply Kd.R_drewN | apply Kd.R_drew)); exact HO_11.out) hb); have n2_ := Aside0.mk (blk_below (g := gb101) (o := .cells #[.int .i64 a2_0, .int .i64 a2_1, .int .i64 a2_2] 75 (0, 0)) (by (with_reducible repeat (first | refine blk_drewN ?_ _ | refine blk_drew ?_ | refine blk_alloc ?_ _)); exact BK101.out) hb); have n3_ := Aside0.mk (blk_below (g := gb102) (o := .cells #[.int .i8 a3_0, .int .i8 a3_1] 32 (0, 0)) (by (with_reducible repeat (first | refine blk_drewN ?_ _ | refine blk_drew ?_ | refine blk_alloc ?_ _)); exact BK102.out) hb); have n4_ := Aside0.mk (blk_below (g := gb131) (o := .cells #[.int .i64 t127, .int .i64 t128, .int .i64 t129] 75 (0, 0)) (by (with_reducible repeat (first | refine blk_drewN ?_ _ | refine blk_drew ?_ | refine blk_alloc ?_ _)); exact BK131.out) hb); have n5_ := Aside0.mk (below_step (by repeat (first | (with_reducible first | exact HB.out | apply below_alloc | apply pw_below_drewN | apply below_drew1 | refine below_set ?_ GE101.out | refine below_set ?_ GE102.out | refine below_set ?_ GE131.out) | exact HB.out)) hb); clear HO_9; clear HO_11; clear BK101; clear BK102; clear BK131; clear HB; have HO_9 := n0_; have HO_11 := n1_; have BK101 := n2_; have BK102 := n3_; have BK131 := n4_; have HB := n5_; clear n0_ n1_ n2_ n3_ n4_ n5_; (try clear hb); (try clear hb2); (try clear hk); (try clear hi)))
                    go_meet
                    case rel => exact ⟨_, ((t134 == 0)), (by first | rfl | (simp; done) | (simp [*]; done)), H', ⟨by have := HJ8.out; have := HJ30.out; first | omega | exact Nat.le_refl _⟩, ⟨by (with_reducible repeat (first | apply Kd.R_alloc | apply Kd.R_drewN | apply Kd.R_drew)); exact HO_9.out⟩, ⟨by (with_reducible repeat (first | apply Kd.R_alloc | apply Kd.R_drewN | apply Kd.R_drew)); exact HO_11.out⟩, ⟨by (with_reducible repeat (first | refine blk_drewN ?_ _ | refine blk_drew ?_ | refine blk_alloc ?_ _)); exact BK101.out⟩, ⟨by (with_reducible repeat (first | refine blk_drewN ?_ _ | refine blk_drew ?_ | refine blk_alloc ?_ _)); exact BK102.out⟩, ⟨by (with_reducible repeat (first | refine blk_drewN ?_ _ | refine blk_drew ?_ | refine blk_alloc ?_ _)); exact BK131.out⟩, ⟨by repeat (first | (with_reducible first | exact HB.out | apply below_alloc | apply pw_below_drewN | apply below_drew1 | refine below_set ?_ GE101.out | refine below_set ?_ GE102.out | refine below_set ?_ GE131.out) | exact HB.out)⟩⟩
                  · replace c74 := Bool.eq_false_iff.mpr c74
                    subst c74
                    have H1 : (goosenecklaw01_PlaneParts.j2 kj30 t106 t113 false false a3_0 a3_1) = some r := by rw [if_neg (show ¬ (false = true) by decide)] at H; exact H
                    clear H
                    have H := H1
                    clear H1
                    have H' := Aside0.mk H
                    clear H
                    go_wp2
                    go_meet
                    case rel => exact ⟨_, (false), (by first | rfl | (simp; done) | (simp [*]; done)), H', ⟨by have := HJ8.out; have := HJ30.out; first | omega | exact Nat.le_refl _⟩, ⟨by (with_reducible repeat (first | apply Kd.R_alloc | apply Kd.R_drewN | apply Kd.R_drew)); exact HO_9.out⟩, ⟨by (with_reducible repeat (first | apply Kd.R_alloc | apply Kd.R_drewN | apply Kd.R_drew)); exact HO_11.out⟩, ⟨by (with_reducible repeat (first | refine blk_drewN ?_ _ | refine blk_drew ?_ | refine blk_alloc ?_ _)); exact BK101.out⟩, ⟨by (with_reducible repeat (first | refine blk_drewN ?_ _ | refine blk_drew ?_ | refine blk_alloc ?_ _)); exact BK102.out⟩, ⟨by (with_reducible repeat (first | refine blk_drewN ?_ _ | refine blk_drew ?_ | refine blk_alloc ?_ _)); exact BK131.out⟩, ⟨by repeat (first | (with_reducible first | exact HB.out | apply below_alloc | apply pw_below_drewN | apply below_drew1 | refine below_set ?_ GE101.out | refine below_set ?_ GE102.out | refine below_set ?_ GE131.out) | exact HB.out)⟩⟩
              case rest =>
                as_aux_lemma =>
                clear HC53
                try clear c1
                try clear c2
                try clear p2
                try clear c4
                try clear c5
                try clear c6
                try clear c7
                try clear c14
                try clear c18
                try clear c18b0
                try clear c18b1
                try clear c19
                try clear c20
                try clear c20b0
                try clear c20b1
                try clear c20b2
                try clear c23
                try clear c23b0
                try clear c23b1
                try clear c23b2
                try clear c40
                try clear c41
                try clear c43
                try clear c43b0
                try clear c43b1
                try clear c44
                try clear c44b0
                try clear c44b1
                try clear c45
                try clear c45b0
                try clear c45b1
                try clear c46
                try clear c46b0
                try clear c46b1
                try clear c47
                try clear c47b0
                try clear c47b1
                try clear c47b2
                try clear c48
                try clear c48b0
                try clear c48b1
                try clear c49
                try clear c49b0
                try clear c49b1
                try clear c49b2
                try clear c50
                try clear c50b0
                try clear c50b1
                try clear c50b2
                try clear c51
                try clear c51b0
                try clear c51b1
                try clear c52
                try clear c54
                try clear c54b0
                try clear c54b1
                try clear c56
                try clear c56b0
                try clear c56b1
                try clear c57
                try clear c58
                try clear c59
                try clear c60
                try clear c63
                try clear c64
                try clear c66
                try clear c67
                try clear c70
                try clear c71
                try clear c74
                try clear c76
                try clear c77
                try clear hcz42_0
                try clear hcz42_1
                try clear hcz42_2
                try clear hcz61_0
                try clear hcz61_1
                try clear hcz61_2
                try clear hcz64_0
                try clear hcz64_1
                try clear hcz64_2
                try clear hcz68_0
                try clear hcz68_1
                try clear hcz68_2
                try clear hcz72_0
                try clear hcz72_1
                try clear hcz72_2
                try clear hcz78_0
                try clear hcz78_1
                try clear hcz78_2
                try clear hfz42_0
                try clear hfz42_1
                try clear hfz42_2
                try clear hfz61_0
                try clear hfz61_1
                try clear hfz61_2
                try clear hfz64_0
                try clear hfz64_1
                try clear hfz64_2
                try clear hfz68_0
                try clear hfz68_1
                try clear hfz68_2
                try clear hfz72_0
                try clear hfz72_1
                try clear hfz72_2
                try clear hfz78_0
                try clear hfz78_1
                try clear hfz78_2
                try clear p2
                obtain ⟨kq, x145_52, rfl, HA, HJ52, HO_9, HO_11, BK101, BK102, BK131, HB⟩ := hcut
                cases kq with
                | zero => exact absurd HA.out (by simp [goosenecklaw01_PlaneParts.j2])
                | succ kj52 =>
                  have H := HA.out
                  clear HA
                  simp only [goosenecklaw01_PlaneParts.j2] at H
                  by_cases c80 : x145_52 = true
                  · subst c80
                    have H1 : (some false) = some r := by rw [if_pos rfl] at H; exact H
                    clear H
                    have H := H1
                    clear H1
                    rw [hr_.out] at H
                    exact absurd H (by simp)
                  · replace c80 := Bool.eq_false_iff.mpr c80
                    subst c80
                    have H1 : ((plane_Inside.f kj52 t106 (wrap64 (a3_0)) (wrap64 (a3_1))).bind fun bt136 => ((plane_Inside.f kj52 t113 (wrap64 (a3_0)) (wrap64 (a3_1))).bind fun bt138 => (if bt136.2 = 0 then (if bt138.2 = 0 then (if t119 = true then ((goosenecklaw01_works.f kj52).bind fun t140 => (some t140)) else (if bt136.1 = true then (if bt138.1 = true then (some false) else ((goosenecklaw01_works.f kj52).bind fun t141 => (some t141))) else ((goosenecklaw01_works.f kj52).bind fun t142 => (some t142)))) else (some false)) else (some false)))) = some r := by rw [if_neg (show ¬ (false = true) by decide)] at H; exact H
                    clear H
                    have H := H1
                    clear H1
                    replace H := Option.bind_eq_some_iff.mp H
                    obtain ⟨⟨t136, t137⟩, A810, H⟩ := H
                    replace H : ((plane_Inside.f kj52 t113 (wrap64 (a3_0)) (wrap64 (a3_1))).bind fun bt138 => (if t137 = 0 then (if bt138.2 = 0 then (if t119 = true then ((goosenecklaw01_works.f kj52).bind fun t140 => (some t140)) else (if t136 = true then (if bt138.1 = true then (some false) else ((goosenecklaw01_works.f kj52).bind fun t141 => (some t141))) else ((goosenecklaw01_works.f kj52).bind fun t142 => (some t142)))) else (some false)) else (some false))) = some r := H
                    have A81 := Aside0.mk A810
                    clear A810
                    replace H := Option.bind_eq_some_iff.mp H
                    obtain ⟨⟨t138, t139⟩, A820, H⟩ := H
                    replace H : (if t137 = 0 then (if t139 = 0 then (if t119 = true then ((goosenecklaw01_works.f kj52).bind fun t140 => (some t140)) else (if t136 = true then (if t138 = true then (some false) else ((goosenecklaw01_works.f kj52).bind fun t141 => (some t141))) else ((goosenecklaw01_works.f kj52).bind fun t142 => (some t142)))) else (some false)) else (some false)) = some r := H
                    have A82 := Aside0.mk A820
                    clear A820
                    by_cases c83 : t137 = 0
                    · rw [if_pos c83] at H
                      have c83b0 : (t137 == 0) = true := beq_iff_eq.mpr c83
                      have c83b1 : (t137 != 0) = false := bne_eq_false_iff_eq.mpr c83
                      clear c83
                      by_cases c84 : t139 = 0
                      · rw [if_pos c84] at H
                        have c84b0 : (t139 == 0) = true := beq_iff_eq.mpr c84
                        have c84b1 : (t139 != 0) = false := bne_eq_false_iff_eq.mpr c84
                        clear c84
                        by_cases c85 : t119 = true
                        · subst c85
                          have H1 : ((goosenecklaw01_works.f kj52).bind fun t140 => (some t140)) = some r := by rw [if_pos rfl] at H; exact H
                          clear H
                          have H := H1
                          clear H1
                          replace H := Option.bind_eq_some_iff.mp H
                          obtain ⟨t140, A860, H⟩ := H
                          replace H : (some t140) = some r := H
                          have A86 := Aside0.mk A860
                          clear A860
                          obtain rfl := Option.some.inj H
                          have hnb87 := NB102_101.out
                          have hnc87 := NB101_102.out
                          have hnb88 := NB102_131.out
                          have hnc88 := NB131_102.out
                          have hcz89_0 : wc.cell? ⟨gb102, 0, none⟩ = some (.int .i8 a3_0) := (blk_cell BK102.out 0).trans rfl
                          have hcz89_1 : wc.cell? ⟨gb102, 1, none⟩ = some (.int .i8 a3_1) := (blk_cell BK102.out 1).trans rfl
                          have hfz89_0 := blk_frozen BK102.out 0
                          have hfz89_1 := blk_frozen BK102.out 1
                          go_wp2_with (first | ((with_reducible refine gate_dst (N := 21) rfl ?_); (try (refine gate_guard (by rfl) ?_; dsimp only)); refine box_event ?hg (N := 21) ?hd (cs := #[.int .i64 0, .int .i64 0]) (t := 23) ?hr ?_; (case hd => rfl); (case hg => rfl); (case hr => first | (go_simp; done) | (go_simp; rfl)); intro gb135 hg w90 hbox hb; have n0_ := Aside0.mk (Kd.R_below (Kd.R_elderB (by (with_reducible repeat (first | apply Kd.R_alloc | apply Kd.R_drewN | apply Kd.R_drew)); exact HO_9.out) gb135 (Nat.le_of_eq hg.symm)) hb); have n1_ := Aside0.mk (Kd.R_below (Kd.R_elderB (by (with_reducible repeat (first | apply Kd.R_alloc | apply Kd.R_drewN | apply Kd.R_drew)); exact HO_11.out) gb135 (Nat.le_of_eq hg.symm)) hb); have n2_ := Aside0.mk (blk_below (g := gb101) (o := .cells #[.int .i64 a2_0, .int .i64 a2_1, .int .i64 a2_2] 75 (0, 0)) (by (with_reducible repeat (first | refine blk_drewN ?_ _ | refine blk_drew ?_ | refine blk_alloc ?_ _)); exact BK101.out) hb); have n3_ := Aside0.mk (blk_below (g := gb102) (o := .cells #[.int .i8 a3_0, .int .i8 a3_1] 32 (0, 0)) (by (with_reducible repeat (first | refine blk_drewN ?_ _ | refine blk_drew ?_ | refine blk_alloc ?_ _)); exact BK102.out) hb); have n4_ := Aside0.mk (blk_below (g := gb131) (o := .cells #[.int .i64 t127, .int .i64 t128, .int .i64 t129] 75 (0, 0)) (by (with_reducible repeat (first | refine blk_drewN ?_ _ | refine blk_drew ?_ | refine blk_alloc ?_ _)); exact BK131.out) hb); have n5_ := Aside0.mk (below_step (by repeat (first | (with_reducible first | exact HB.out | apply below_alloc | apply pw_below_drewN | apply below_drew1 | refine below_set ?_ GE101.out | refine below_set ?_ GE102.out | refine below_set ?_ GE131.out) | exact HB.out)) hb); have n6_ := Aside0.mk (hbox); have n7_ := Aside0.mk ((by rw [hg]; exact (below_size (by repeat (first | (with_reducible first | exact HB.out | apply below_alloc | apply pw_below_drewN | apply below_drew1 | refine below_set ?_ GE101.out | refine below_set ?_ GE102.out | refine below_set ?_ GE131.out) | exact HB.out))) : w.heap.size ≤ gb135)); have n8_ := Aside0.mk ((by rw [hg]; exact (below_size (by repeat (first | (with_reducible first | exact HB.out | apply below_alloc | apply pw_below_drewN | apply below_drew1 | refine below_set ?_ GE101.out | refine below_set ?_ GE102.out | refine below_set ?_ GE131.out) | exact HB.out))) : w.heap.size ≤ gb135)); have n9_ := Aside0.mk ((by rw [hg]; exact Nat.ne_of_lt (blk_lt (g := gb101) (o := .cells #[.int .i64 a2_0, .int .i64 a2_1, .int .i64 a2_2] 75 (0, 0)) (by (with_reducible repeat (first | refine blk_drewN ?_ _ | refine blk_drew ?_ | refine blk_alloc ?_ _)); exact BK101.out)) : gb101 ≠ gb135)); have n10_ := Aside0.mk ((by rw [hg]; exact Nat.ne_of_gt (blk_lt (g := gb101) (o := .cells #[.int .i64 a2_0, .int .i64 a2_1, .int .i64 a2_2] 75 (0, 0)) (by (with_reducible repeat (first | refine blk_drewN ?_ _ | refine blk_drew ?_ | refine blk_alloc ?_ _)); exact BK101.out)) : gb135 ≠ gb101)); have n11_ := Aside0.mk ((by rw [hg]; exact Nat.ne_of_lt (blk_lt (g := gb102) (o := .cells #[.int .i8 a3_0, .int .i8 a3_1] 32 (0, 0)) (by (with_reducible repeat (first | refine blk_drewN ?_ _ | refine blk_drew ?_ | refine blk_alloc ?_ _)); exact BK102.out)) : gb102 ≠ gb135)); have n12_ := Aside0.mk ((by rw [hg]; exact Nat.ne_of_gt (blk_lt (g := gb102) (o := .cells #[.int .i8 a3_0, .int .i8 a3_1] 32 (0, 0)) (by (with_reducible repeat (first | refine blk_drewN ?_ _ | refine blk_drew ?_ | refine blk_alloc ?_ _)); exact BK102.out)) : gb135 ≠ gb102)); have n13_ := Aside0.mk ((by rw [hg]; exact Nat.ne_of_lt (blk_lt (g := gb131) (o := .cells #[.int .i64 t127, .int .i64 t128, .int .i64 t129] 75 (0, 0)) (by (with_reducible repeat (first | refine blk_drewN ?_ _ | refine blk_drew ?_ | refine blk_alloc ?_ _)); exact BK131.out)) : gb131 ≠ gb135)); have n14_ := Aside0.mk ((by rw [hg]; exact Nat.ne_of_gt (blk_lt (g := gb131) (o := .cells #[.int .i64 t127, .int .i64 t128, .int .i64 t129] 75 (0, 0)) (by (with_reducible repeat (first | refine blk_drewN ?_ _ | refine blk_drew ?_ | refine blk_alloc ?_ _)); exact BK131.out)) : gb135 ≠ gb131)); clear HO_9; clear HO_11; clear BK101; clear BK102; clear BK131; clear HB; have HO_9 := n0_; have HO_11 := n1_; have BK101 := n2_; have BK102 := n3_; have BK131 := n4_; have HB := n5_; have BK135 := n6_; have GW135 := n7_; have GE135 := n8_; have NB101_135 := n9_; have NB135_101 := n10_; have NB102_135 := n11_; have NB135_102 := n12_; have NB131_135 := n13_; have NB135_131 := n14_; clear n0_ n1_ n2_ n3_ n4_ n5_ n6_ n7_ n8_ n9_ n10_ n11_ n12_ n13_ n14_; clear hb hbox hg; have hnb91 := NB135_101.out; have hnc91 := NB101_135.out; have hnb92 := NB135_102.out; have hnc92 := NB102_135.out; have hnb93 := NB135_131.out; have hnc93 := NB131_135.out; have hcz94_0 : w90.cell? ⟨gb135, 0, none⟩ = some (.int .i64 0) := (blk_cell BK135.out 0).trans rfl; have hcz94_1 : w90.cell? ⟨gb135, 1, none⟩ = some (.int .i64 0) := (blk_cell BK135.out 1).trans rfl; have hfz94_0 := blk_frozen BK135.out 0; have hfz94_1 := blk_frozen BK135.out 1) | ((with_reducible refine gate_store (t := 23) (p := 21) rfl ?_); refine store_event (t := 23) (p := 21) (v := ?vo_w95) (w1 := ((w90.setCell ⟨gb135, 0, none⟩ (.int .i64 (wrap64 (a3_0)))).setCell ⟨gb135, 1, none⟩ (.int .i64 (wrap64 (a3_1))))) ?hg ?ho ?hn ?hr ?_; (case ho => rfl); (case hg => rfl); (case hn => rfl); (case hr => first | (go_simp; done) | (go_simp; rfl)); intro w95 hw; have n0_ : Aside0 (Kd.R k23 23 w95 w.heap.size (fun k_ => some k_ ≠ (.slice Ao33 t113.length co33 : Value).ownBlock ∧ k_ ≠ gb135) (.slice Ao32 t106.length co32) t106) := ⟨(by rw [hw]; exact (by (with_reducible repeat (first | apply Kd.R_alloc | apply Kd.R_drewN | apply Kd.R_drew)); exact Kd.R_mono (Kd.R_far (p := ⟨gb135, 1, none⟩) (Kd.R_far (p := ⟨gb135, 0, none⟩) (Kd.R_mono HO_9.out (fun k_ hk => (⟨hk, hk.2⟩ : _ ∧ k_ ≠ gb135))) (fun _ hk => hk.2) (.int .i64 (wrap64 (a3_0)))) (fun _ hk => hk.2) (.int .i64 (wrap64 (a3_1)))) (fun _ hk => ⟨hk.1.1, hk.1.2⟩)))⟩; have n1_ : Aside0 (Kd.R k23 23 w95 w.heap.size (fun k_ => some k_ ≠ (.slice Ao32 t106.length co32 : Value).ownBlock ∧ k_ ≠ gb135) (.slice Ao33 t113.length co33) t113) := ⟨(by rw [hw]; exact (by (with_reducible repeat (first | apply Kd.R_alloc | apply Kd.R_drewN | apply Kd.R_drew)); exact Kd.R_mono (Kd.R_far (p := ⟨gb135, 1, none⟩) (Kd.R_far (p := ⟨gb135, 0, none⟩) (Kd.R_mono HO_11.out (fun k_ hk => (⟨hk, hk.2⟩ : _ ∧ k_ ≠ gb135))) (fun _ hk => hk.2) (.int .i64 (wrap64 (a3_0)))) (fun _ hk => hk.2) (.int .i64 (wrap64 (a3_1)))) (fun _ hk => ⟨hk.1.1, hk.1.2⟩)))⟩; have n2_ : Aside0 (w95.heap[gb101]? = some (.cells #[.int .i64 a2_0, .int .i64 a2_1, .int .i64 a2_2] 75 (0, 0))) := ⟨(by rw [hw]; exact (by (with_reducible repeat (first | refine blk_drewN ?_ _ | refine blk_drew ?_ | refine blk_alloc ?_ _)); refine blk_far ?_ NB101_135.out _; (with_reducible repeat (first | refine blk_drewN ?_ _ | refine blk_drew ?_ | refine blk_alloc ?_ _)); refine blk_far ?_ NB101_135.out _; (with_reducible repeat (first | refine blk_drewN ?_ _ | refine blk_drew ?_ | refine blk_alloc ?_ _)); exact BK101.out))⟩; have n3_ : Aside0 (w95.heap[gb102]? = some (.cells #[.int .i8 a3_0, .int .i8 a3_1] 32 (0, 0))) := ⟨(by rw [hw]; exact (by (with_reducible repeat (first | refine blk_drewN ?_ _ | refine blk_drew ?_ | refine blk_alloc ?_ _)); refine blk_far ?_ NB102_135.out _; (with_reducible repeat (first | refine blk_drewN ?_ _ | refine blk_drew ?_ | refine blk_alloc ?_ _)); refine blk_far ?_ NB102_135.out _; (with_reducible repeat (first | refine blk_drewN ?_ _ | refine blk_drew ?_ | refine blk_alloc ?_ _)); exact BK102.out))⟩; have n4_ : Aside0 (w95.heap[gb131]? = some (.cells #[.int .i64 t127, .int .i64 t128, .int .i64 t129] 75 (0, 0))) := ⟨(by rw [hw]; exact (by (with_reducible repeat (first | refine blk_drewN ?_ _ | refine blk_drew ?_ | refine blk_alloc ?_ _)); refine blk_far ?_ NB131_135.out _; (with_reducible repeat (first | refine blk_drewN ?_ _ | refine blk_drew ?_ | refine blk_alloc ?_ _)); refine blk_far ?_ NB131_135.out _; (with_reducible repeat (first | refine blk_drewN ?_ _ | refine blk_drew ?_ | refine blk_alloc ?_ _)); exact BK131.out))⟩; have n5_ : Aside0 (w95.heap[gb135]? = some (.cells #[.int .i64 (wrap64 (a3_0)), .int .i64 (wrap64 (a3_1))] 23 (0, 0))) := ⟨(by rw [hw]; exact (by (with_reducible repeat (first | refine blk_drewN ?_ _ | refine blk_drew ?_ | refine blk_alloc ?_ _)); refine blk_put (cs := #[.int .i64 (wrap64 (a3_0)), .int .i64 0]) ?_ 1 _ rfl; (with_reducible repeat (first | refine blk_drewN ?_ _ | refine blk_drew ?_ | refine blk_alloc ?_ _)); refine blk_put (cs := #[.int .i64 0, .int .i64 0]) ?_ 0 _ rfl; (with_reducible repeat (first | refine blk_drewN ?_ _ | refine blk_drew ?_ | refine blk_alloc ?_ _)); exact BK135.out))⟩; have n6_ : Aside0 (Below w.heap.size w w95) := ⟨(by rw [hw]; exact (by repeat (first | (with_reducible first | exact HB.out | apply below_alloc | apply pw_below_drewN | apply below_drew1 | refine below_set ?_ GE101.out | refine below_set ?_ GE102.out | refine below_set ?_ GE131.out | refine below_set ?_ GE135.out) | exact HB.out)))⟩; clear hw; clear HO_9; clear HO_11; clear BK101; clear BK102; clear BK131; clear BK135; clear HB; have HO_9 := n0_; have HO_11 := n1_; have BK101 := n2_; have BK102 := n3_; have BK131 := n4_; have BK135 := n5_; have HB := n6_; clear n0_ n1_ n2_ n3_ n4_ n5_ n6_; have hcz96_0 : w95.cell? ⟨gb135, 0, none⟩ = some (.int .i64 (wrap64 (a3_0))) := (blk_cell BK135.out 0).trans rfl; have hcz96_1 : w95.cell? ⟨gb135, 1, none⟩ = some (.int .i64 (wrap64 (a3_1))) := (blk_cell BK135.out 1).trans rfl; have hfz96_0 := blk_frozen BK135.out 0; have hfz96_1 := blk_frozen BK135.out 1) | ((with_reducible refine gate_callee (f := 49) rfl ?_); refine goesL_ (some 156) rfl rfl Try.func49 (by kernel_rfl) rfl #[.slice Ao32 t106.length co32, .agg #[.int .i64 (wrap64 (a3_0)), .int .i64 (wrap64 (a3_1))]] rfl (by (try simp only [List.map_toArray, List.map_cons, List.map_nil]); first | done | rfl | (simp only [List.length_drop, List.length_take]; rfl)) ?_; (with_reducible refine (plane_Inside.calls kj52 (fun k_ => some k_ = (.slice Ao32 t106.length co32 : Value).ownBlock) _ _ t106 (wrap64 (a3_0)) (wrap64 (a3_1)) t136 t137 _ ?side1 A81.out).mono ?_); (case side1 => exact Kd.R_V (Kd.R_tight rfl (Kd.R_types (Kd.R_types (Kd.R_types (HO_9.out) BK101.out (by decide)) BK102.out (by decide)) BK131.out (by decide)))); rintro e w97 ⟨rfl, hb⟩; refine ⟨_, rfl, ?_⟩; have n0_ := Aside0.mk (Kd.R_below (by (with_reducible repeat (first | apply Kd.R_alloc | apply Kd.R_drewN | apply Kd.R_drew)); exact HO_9.out) hb); have n1_ := Aside0.mk (Kd.R_below (by (with_reducible repeat (first | apply Kd.R_alloc | apply Kd.R_drewN | apply Kd.R_drew)); exact HO_11.out) hb); have n2_ := Aside0.mk (blk_below (g := gb101) (o := .cells #[.int .i64 a2_0, .int .i64 a2_1, .int .i64 a2_2] 75 (0, 0)) (by (with_reducible repeat (first | refine blk_drewN ?_ _ | refine blk_drew ?_ | refine blk_alloc ?_ _)); exact BK101.out) hb); have n3_ := Aside0.mk (blk_below (g := gb102) (o := .cells #[.int .i8 a3_0, .int .i8 a3_1] 32 (0, 0)) (by (with_reducible repeat (first | refine blk_drewN ?_ _ | refine blk_drew ?_ | refine blk_alloc ?_ _)); exact BK102.out) hb); have n4_ := Aside0.mk (blk_below (g := gb131) (o := .cells #[.int .i64 t127, .int .i64 t128, .int .i64 t129] 75 (0, 0)) (by (with_reducible repeat (first | refine blk_drewN ?_ _ | refine blk_drew ?_ | refine blk_alloc ?_ _)); exact BK131.out) hb); have n5_ := Aside0.mk (blk_below (g := gb135) (o := .cells #[.int .i64 (wrap64 (a3_0)), .int .i64 (wrap64 (a3_1))] 23 (0, 0)) (by (with_reducible repeat (first | refine blk_drewN ?_ _ | refine blk_drew ?_ | refine blk_alloc ?_ _)); exact BK135.out) hb); have n6_ := Aside0.mk (below_step (by repeat (first | (with_reducible first | exact HB.out | apply below_alloc | apply pw_below_drewN | apply below_drew1 | refine below_set ?_ GE101.out | refine below_set ?_ GE102.out | refine below_set ?_ GE131.out | refine below_set ?_ GE135.out) | exact HB.out)) hb); clear HO_9; clear HO_11; clear BK101; clear BK102; clear BK131; clear BK135; clear HB; have HO_9 := n0_; have HO_11 := n1_; have BK101 := n2_; have BK102 := n3_; have BK131 := n4_; have BK135 := n5_; have HB := n6_; clear n0_ n1_ n2_ n3_ n4_ n5_ n6_; (try clear hb); (try clear hb2); (try clear hk); (try clear hi); have hcz98_0 : w97.cell? ⟨gb135, 0, none⟩ = some (.int .i64 (wrap64 (a3_0))) := (blk_cell BK135.out 0).trans rfl; have hcz98_1 : w97.cell? ⟨gb135, 1, none⟩ = some (.int .i64 (wrap64 (a3_1))) := (blk_cell BK135.out 1).trans rfl; have hfz98_0 := blk_frozen BK135.out 0; have hfz98_1 := blk_frozen BK135.out 1) | ((with_reducible refine gate_callee (f := 49) rfl ?_); refine goesL_ (some 162) rfl rfl Try.func49 (by kernel_rfl) rfl #[.slice Ao33 t113.length co33, .agg #[.int .i64 (wrap64 (a3_0)), .int .i64 (wrap64 (a3_1))]] rfl (by (try simp only [List.map_toArray, List.map_cons, List.map_nil]); first | done | rfl | (simp only [List.length_drop, List.length_take]; rfl)) ?_; (with_reducible refine (plane_Inside.calls kj52 (fun k_ => some k_ = (.slice Ao33 t113.length co33 : Value).ownBlock) _ _ t113 (wrap64 (a3_0)) (wrap64 (a3_1)) t138 t139 _ ?side1 A82.out).mono ?_); (case side1 => exact Kd.R_V (Kd.R_tight rfl (Kd.R_types (Kd.R_types (Kd.R_types (HO_11.out) BK101.out (by decide)) BK102.out (by decide)) BK131.out (by decide)))); rintro e w99 ⟨rfl, hb⟩; refine ⟨_, rfl, ?_⟩; have n0_ := Aside0.mk (Kd.R_below (by (with_reducible repeat (first | apply Kd.R_alloc | apply Kd.R_drewN | apply Kd.R_drew)); exact HO_9.out) hb); have n1_ := Aside0.mk (Kd.R_below (by (with_reducible repeat (first | apply Kd.R_alloc | apply Kd.R_drewN | apply Kd.R_drew)); exact HO_11.out) hb); have n2_ := Aside0.mk (blk_below (g := gb101) (o := .cells #[.int .i64 a2_0, .int .i64 a2_1, .int .i64 a2_2] 75 (0, 0)) (by (with_reducible repeat (first | refine blk_drewN ?_ _ | refine blk_drew ?_ | refine blk_alloc ?_ _)); exact BK101.out) hb); have n3_ := Aside0.mk (blk_below (g := gb102) (o := .cells #[.int .i8 a3_0, .int .i8 a3_1] 32 (0, 0)) (by (with_reducible repeat (first | refine blk_drewN ?_ _ | refine blk_drew ?_ | refine blk_alloc ?_ _)); exact BK102.out) hb); have n4_ := Aside0.mk (blk_below (g := gb131) (o := .cells #[.int .i64 t127, .int .i64 t128, .int .i64 t129] 75 (0, 0)) (by (with_reducible repeat (first | refine blk_drewN ?_ _ | refine blk_drew ?_ | refine blk_alloc ?_ _)); exact BK131.out) hb); have n5_ := Aside0.mk (blk_below (g := gb135) (o := .cells #[.int .i64 (wrap64 (a3_0)), .int .i64 (wrap64 (a3_1))] 23 (0, 0)) (by (with_reducible repeat (first | refine blk_drewN ?_ _ | refine blk_drew ?_ | refine blk_alloc ?_ _)); exact BK135.out) hb); have n6_ := Aside0.mk (below_step (by repeat (first | (with_reducible first | exact HB.out | apply below_alloc | apply pw_below_drewN | apply below_drew1 | refine below_set ?_ GE101.out | refine below_set ?_ GE102.out | refine below_set ?_ GE131.out | refine below_set ?_ GE135.out) | exact HB.out)) hb); clear HO_9; clear HO_11; clear BK101; clear BK102; clear BK131; clear BK135; clear HB; have HO_9 := n0_; have HO_11 := n1_; have BK101 := n2_; have BK102 := n3_; have BK131 := n4_; have BK135 := n5_; have HB := n6_; clear n0_ n1_ n2_ n3_ n4_ n5_ n6_; (try clear hb); (try clear hb2); (try clear hk); (try clear hi)) | (go_at_call 19; (with_reducible refine (goosenecklaw01_works.calls kj52  t140 _ A86.out).mono ?_); rintro e w100 ⟨rfl, hb⟩; have n0_ := Aside0.mk (Kd.R_below (by (with_reducible repeat (first | apply Kd.R_alloc | apply Kd.R_drewN | apply Kd.R_drew)); exact HO_9.out) hb); have n1_ := Aside0.mk (Kd.R_below (by (with_reducible repeat (first | apply Kd.R_alloc | apply Kd.R_drewN | apply Kd.R_drew)); exact HO_11.out) hb); have n2_ := Aside0.mk (blk_below (g := gb101) (o := .cells #[.int .i64 a2_0, .int .i64 a2_1, .int .i64 a2_2] 75 (0, 0)) (by (with_reducible repeat (first | refine blk_drewN ?_ _ | refine blk_drew ?_ | refine blk_alloc ?_ _)); exact BK101.out) hb); have n3_ := Aside0.mk (blk_below (g := gb102) (o := .cells #[.int .i8 a3_0, .int .i8 a3_1] 32 (0, 0)) (by (with_reducible repeat (first | refine blk_drewN ?_ _ | refine blk_drew ?_ | refine blk_alloc ?_ _)); exact BK102.out) hb); have n4_ := Aside0.mk (blk_below (g := gb131) (o := .cells #[.int .i64 t127, .int .i64 t128, .int .i64 t129] 75 (0, 0)) (by (with_reducible repeat (first | refine blk_drewN ?_ _ | refine blk_drew ?_ | refine blk_alloc ?_ _)); exact BK131.out) hb); have n5_ := Aside0.mk (blk_below (g := gb135) (o := .cells #[.int .i64 (wrap64 (a3_0)), .int .i64 (wrap64 (a3_1))] 23 (0, 0)) (by (with_reducible repeat (first | refine blk_drewN ?_ _ | refine blk_drew ?_ | refine blk_alloc ?_ _)); exact BK135.out) hb); have n6_ := Aside0.mk (below_step (by repeat (first | (with_reducible first | exact HB.out | apply below_alloc | apply pw_below_drewN | apply below_drew1 | refine below_set ?_ GE101.out | refine below_set ?_ GE102.out | refine below_set ?_ GE131.out | refine below_set ?_ GE135.out) | exact HB.out)) hb); clear HO_9; clear HO_11; clear BK101; clear BK102; clear BK131; clear BK135; clear HB; have HO_9 := n0_; have HO_11 := n1_; have BK101 := n2_; have BK102 := n3_; have BK131 := n4_; have BK135 := n5_; have HB := n6_; clear n0_ n1_ n2_ n3_ n4_ n5_ n6_; (try clear hb); (try clear hb2); (try clear hk); (try clear hi)))
                          go_ret
                          exact ⟨by first | rfl | (simp [errW_none, errW_some] <;> rfl) | (simp [*, errW_none, errW_some] <;> rfl), by repeat (first | (with_reducible first | exact HB.out | apply below_alloc | apply pw_below_drewN | apply below_drew1 | refine below_set ?_ GE101.out | refine below_set ?_ GE102.out | refine below_set ?_ GE131.out | refine below_set ?_ GE135.out) | exact HB.out)⟩
                        · replace c85 := Bool.eq_false_iff.mpr c85
                          subst c85
                          have H1 : (if t136 = true then (if t138 = true then (some false) else ((goosenecklaw01_works.f kj52).bind fun t141 => (some t141))) else ((goosenecklaw01_works.f kj52).bind fun t142 => (some t142))) = some r := by rw [if_neg (show ¬ (false = true) by decide)] at H; exact H
                          clear H
                          have H := H1
                          clear H1
                          by_cases c101 : t136 = true
                          · subst c101
                            have H1 : (if t138 = true then (some false) else ((goosenecklaw01_works.f kj52).bind fun t141 => (some t141))) = some r := by rw [if_pos rfl] at H; exact H
                            clear H
                            have H := H1
                            clear H1
                            by_cases c102 : t138 = true
                            · subst c102
                              have H1 : (some false) = some r := by rw [if_pos rfl] at H; exact H
                              clear H
                              have H := H1
                              clear H1
                              rw [hr_.out] at H
                              exact absurd H (by simp)
                            · replace c102 := Bool.eq_false_iff.mpr c102
                              subst c102
                              have H1 : ((goosenecklaw01_works.f kj52).bind fun t141 => (some t141)) = some r := by rw [if_neg (show ¬ (false = true) by decide)] at H; exact H
                              clear H
                              have H := H1
                              clear H1
                              replace H := Option.bind_eq_some_iff.mp H
                              obtain ⟨t141, A1030, H⟩ := H
                              replace H : (some t141) = some r := H
                              have A103 := Aside0.mk A1030
                              clear A1030
                              obtain rfl := Option.some.inj H
                              have hnb104 := NB102_101.out
                              have hnc104 := NB101_102.out
                              have hnb105 := NB102_131.out
                              have hnc105 := NB131_102.out
                              have hcz106_0 : wc.cell? ⟨gb102, 0, none⟩ = some (.int .i8 a3_0) := (blk_cell BK102.out 0).trans rfl
                              have hcz106_1 : wc.cell? ⟨gb102, 1, none⟩ = some (.int .i8 a3_1) := (blk_cell BK102.out 1).trans rfl
                              have hfz106_0 := blk_frozen BK102.out 0
                              have hfz106_1 := blk_frozen BK102.out 1
                              go_wp2_with (first | ((with_reducible refine gate_dst (N := 21) rfl ?_); (try (refine gate_guard (by rfl) ?_; dsimp only)); refine box_event ?hg (N := 21) ?hd (cs := #[.int .i64 0, .int .i64 0]) (t := 23) ?hr ?_; (case hd => rfl); (case hg => rfl); (case hr => first | (go_simp; done) | (go_simp; rfl)); intro gb135 hg w107 hbox hb; have n0_ := Aside0.mk (Kd.R_below (Kd.R_elderB (by (with_reducible repeat (first | apply Kd.R_alloc | apply Kd.R_drewN | apply Kd.R_drew)); exact HO_9.out) gb135 (Nat.le_of_eq hg.symm)) hb); have n1_ := Aside0.mk (Kd.R_below (Kd.R_elderB (by (with_reducible repeat (first | apply Kd.R_alloc | apply Kd.R_drewN | apply Kd.R_drew)); exact HO_11.out) gb135 (Nat.le_of_eq hg.symm)) hb); have n2_ := Aside0.mk (blk_below (g := gb101) (o := .cells #[.int .i64 a2_0, .int .i64 a2_1, .int .i64 a2_2] 75 (0, 0)) (by (with_reducible repeat (first | refine blk_drewN ?_ _ | refine blk_drew ?_ | refine blk_alloc ?_ _)); exact BK101.out) hb); have n3_ := Aside0.mk (blk_below (g := gb102) (o := .cells #[.int .i8 a3_0, .int .i8 a3_1] 32 (0, 0)) (by (with_reducible repeat (first | refine blk_drewN ?_ _ | refine blk_drew ?_ | refine blk_alloc ?_ _)); exact BK102.out) hb); have n4_ := Aside0.mk (blk_below (g := gb131) (o := .cells #[.int .i64 t127, .int .i64 t128, .int .i64 t129] 75 (0, 0)) (by (with_reducible repeat (first | refine blk_drewN ?_ _ | refine blk_drew ?_ | refine blk_alloc ?_ _)); exact BK131.out) hb); have n5_ := Aside0.mk (below_step (by repeat (first | (with_reducible first | exact HB.out | apply below_alloc | apply pw_below_drewN | apply below_drew1 | refine below_set ?_ GE101.out | refine below_set ?_ GE102.out | refine below_set ?_ GE131.out) | exact HB.out)) hb); have n6_ := Aside0.mk (hbox); have n7_ := Aside0.mk ((by rw [hg]; exact (below_size (by repeat (first | (with_reducible first | exact HB.out | apply below_alloc | apply pw_below_drewN | apply below_drew1 | refine below_set ?_ GE101.out | refine below_set ?_ GE102.out | refine below_set ?_ GE131.out) | exact HB.out))) : w.heap.size ≤ gb135)); have n8_ := Aside0.mk ((by rw [hg]; exact (below_size (by repeat (first | (with_reducible first | exact HB.out | apply below_alloc | apply pw_below_drewN | apply below_drew1 | refine below_set ?_ GE101.out | refine below_set ?_ GE102.out | refine below_set ?_ GE131.out) | exact HB.out))) : w.heap.size ≤ gb135)); have n9_ := Aside0.mk ((by rw [hg]; exact Nat.ne_of_lt (blk_lt (g := gb101) (o := .cells #[.int .i64 a2_0, .int .i64 a2_1, .int .i64 a2_2] 75 (0, 0)) (by (with_reducible repeat (first | refine blk_drewN ?_ _ | refine blk_drew ?_ | refine blk_alloc ?_ _)); exact BK101.out)) : gb101 ≠ gb135)); have n10_ := Aside0.mk ((by rw [hg]; exact Nat.ne_of_gt (blk_lt (g := gb101) (o := .cells #[.int .i64 a2_0, .int .i64 a2_1, .int .i64 a2_2] 75 (0, 0)) (by (with_reducible repeat (first | refine blk_drewN ?_ _ | refine blk_drew ?_ | refine blk_alloc ?_ _)); exact BK101.out)) : gb135 ≠ gb101)); have n11_ := Aside0.mk ((by rw [hg]; exact Nat.ne_of_lt (blk_lt (g := gb102) (o := .cells #[.int .i8 a3_0, .int .i8 a3_1] 32 (0, 0)) (by (with_reducible repeat (first | refine blk_drewN ?_ _ | refine blk_drew ?_ | refine blk_alloc ?_ _)); exact BK102.out)) : gb102 ≠ gb135)); have n12_ := Aside0.mk ((by rw [hg]; exact Nat.ne_of_gt (blk_lt (g := gb102) (o := .cells #[.int .i8 a3_0, .int .i8 a3_1] 32 (0, 0)) (by (with_reducible repeat (first | refine blk_drewN ?_ _ | refine blk_drew ?_ | refine blk_alloc ?_ _)); exact BK102.out)) : gb135 ≠ gb102)); have n13_ := Aside0.mk ((by rw [hg]; exact Nat.ne_of_lt (blk_lt (g := gb131) (o := .cells #[.int .i64 t127, .int .i64 t128, .int .i64 t129] 75 (0, 0)) (by (with_reducible repeat (first | refine blk_drewN ?_ _ | refine blk_drew ?_ | refine blk_alloc ?_ _)); exact BK131.out)) : gb131 ≠ gb135)); have n14_ := Aside0.mk ((by rw [hg]; exact Nat.ne_of_gt (blk_lt (g := gb131) (o := .cells #[.int .i64 t127, .int .i64 t128, .int .i64 t129] 75 (0, 0)) (by (with_reducible repeat (first | refine blk_drewN ?_ _ | refine blk_drew ?_ | refine blk_alloc ?_ _)); exact BK131.out)) : gb135 ≠ gb131)); clear HO_9; clear HO_11; clear BK101; clear BK102; clear BK131; clear HB; have HO_9 := n0_; have HO_11 := n1_; have BK101 := n2_; have BK102 := n3_; have BK131 := n4_; have HB := n5_; have BK135 := n6_; have GW135 := n7_; have GE135 := n8_; have NB101_135 := n9_; have NB135_101 := n10_; have NB102_135 := n11_; have NB135_102 := n12_; have NB131_135 := n13_; have NB135_131 := n14_; clear n0_ n1_ n2_ n3_ n4_ n5_ n6_ n7_ n8_ n9_ n10_ n11_ n12_ n13_ n14_; clear hb hbox hg; have hnb108 := NB135_101.out; have hnc108 := NB101_135.out; have hnb109 := NB135_102.out; have hnc109 := NB102_135.out; have hnb110 := NB135_131.out; have hnc110 := NB131_135.out; have hcz111_0 : w107.cell? ⟨gb135, 0, none⟩ = some (.int .i64 0) := (blk_cell BK135.out 0).trans rfl; have hcz111_1 : w107.cell? ⟨gb135, 1, none⟩ = some (.int .i64 0) := (blk_cell BK135.out 1).trans rfl; have hfz111_0 := blk_frozen BK135.out 0; have hfz111_1 := blk_frozen BK135.out 1) | ((with_reducible refine gate_store (t := 23) (p := 21) rfl ?_); refine store_event (t := 23) (p := 21) (v := ?vo_w112) (w1 := ((w107.setCell ⟨gb135, 0, none⟩ (.int .i64 (wrap64 (a3_0)))).setCell ⟨gb135, 1, none⟩ (.int .i64 (wrap64 (a3_1))))) ?hg ?ho ?hn ?hr ?_; (case ho => rfl); (case hg => rfl); (case hn => rfl); (case hr => first | (go_simp; done) | (go_simp; rfl)); intro w112 hw; have n0_ : Aside0 (Kd.R k23 23 w112 w.heap.size (fun k_ => some k_ ≠ (.slice Ao33 t113.length co33 : Value).ownBlock ∧ k_ ≠ gb135) (.slice Ao32 t106.length co32) t106) := ⟨(by rw [hw]; exact (by (with_reducible repeat (first | apply Kd.R_alloc | apply Kd.R_drewN | apply Kd.R_drew)); exact Kd.R_mono (Kd.R_far (p := ⟨gb135, 1, none⟩) (Kd.R_far (p := ⟨gb135, 0, none⟩) (Kd.R_mono HO_9.out (fun k_ hk => (⟨hk, hk.2⟩ : _ ∧ k_ ≠ gb135))) (fun _ hk => hk.2) (.int .i64 (wrap64 (a3_0)))) (fun _ hk => hk.2) (.int .i64 (wrap64 (a3_1)))) (fun _ hk => ⟨hk.1.1, hk.1.2⟩)))⟩; have n1_ : Aside0 (Kd.R k23 23 w112 w.heap.size (fun k_ => some k_ ≠ (.slice Ao32 t106.length co32 : Value).ownBlock ∧ k_ ≠ gb135) (.slice Ao33 t113.length co33) t113) := ⟨(by rw [hw]; exact (by (with_reducible repeat (first | apply Kd.R_alloc | apply Kd.R_drewN | apply Kd.R_drew)); exact Kd.R_mono (Kd.R_far (p := ⟨gb135, 1, none⟩) (Kd.R_far (p := ⟨gb135, 0, none⟩) (Kd.R_mono HO_11.out (fun k_ hk => (⟨hk, hk.2⟩ : _ ∧ k_ ≠ gb135))) (fun _ hk => hk.2) (.int .i64 (wrap64 (a3_0)))) (fun _ hk => hk.2) (.int .i64 (wrap64 (a3_1)))) (fun _ hk => ⟨hk.1.1, hk.1.2⟩)))⟩; have n2_ : Aside0 (w112.heap[gb101]? = some (.cells #[.int .i64 a2_0, .int .i64 a2_1, .int .i64 a2_2] 75 (0, 0))) := ⟨(by rw [hw]; exact (by (with_reducible repeat (first | refine blk_drewN ?_ _ | refine blk_drew ?_ | refine blk_alloc ?_ _)); refine blk_far ?_ NB101_135.out _; (with_reducible repeat (first | refine blk_drewN ?_ _ | refine blk_drew ?_ | refine blk_alloc ?_ _)); refine blk_far ?_ NB101_135.out _; (with_reducible repeat (first | refine blk_drewN ?_ _ | refine blk_drew ?_ | refine blk_alloc ?_ _)); exact BK101.out))⟩; have n3_ : Aside0 (w112.heap[gb102]? = some (.cells #[.int .i8 a3_0, .int .i8 a3_1] 32 (0, 0))) := ⟨(by rw [hw]; exact (by (with_reducible repeat (first | refine blk_drewN ?_ _ | refine blk_drew ?_ | refine blk_alloc ?_ _)); refine blk_far ?_ NB102_135.out _; (with_reducible repeat (first | refine blk_drewN ?_ _ | refine blk_drew ?_ | refine blk_alloc ?_ _)); refine blk_far ?_ NB102_135.out _; (with_reducible repeat (first | refine blk_drewN ?_ _ | refine blk_drew ?_ | refine blk_alloc ?_ _)); exact BK102.out))⟩; have n4_ : Aside0 (w112.heap[gb131]? = some (.cells #[.int .i64 t127, .int .i64 t128, .int .i64 t129] 75 (0, 0))) := ⟨(by rw [hw]; exact (by (with_reducible repeat (first | refine blk_drewN ?_ _ | refine blk_drew ?_ | refine blk_alloc ?_ _)); refine blk_far ?_ NB131_135.out _; (with_reducible repeat (first | refine blk_drewN ?_ _ | refine blk_drew ?_ | refine blk_alloc ?_ _)); refine blk_far ?_ NB131_135.out _; (with_reducible repeat (first | refine blk_drewN ?_ _ | refine blk_drew ?_ | refine blk_alloc ?_ _)); exact BK131.out))⟩; have n5_ : Aside0 (w112.heap[gb135]? = some (.cells #[.int .i64 (wrap64 (a3_0)), .int .i64 (wrap64 (a3_1))] 23 (0, 0))) := ⟨(by rw [hw]; exact (by (with_reducible repeat (first | refine blk_drewN ?_ _ | refine blk_drew ?_ | refine blk_alloc ?_ _)); refine blk_put (cs := #[.int .i64 (wrap64 (a3_0)), .int .i64 0]) ?_ 1 _ rfl; (with_reducible repeat (first | refine blk_drewN ?_ _ | refine blk_drew ?_ | refine blk_alloc ?_ _)); refine blk_put (cs := #[.int .i64 0, .int .i64 0]) ?_ 0 _ rfl; (with_reducible repeat (first | refine blk_drewN ?_ _ | refine blk_drew ?_ | refine blk_alloc ?_ _)); exact BK135.out))⟩; have n6_ : Aside0 (Below w.heap.size w w112) := ⟨(by rw [hw]; exact (by repeat (first | (with_reducible first | exact HB.out | apply below_alloc | apply pw_below_drewN | apply below_drew1 | refine below_set ?_ GE101.out | refine below_set ?_ GE102.out | refine below_set ?_ GE131.out | refine below_set ?_ GE135.out) | exact HB.out)))⟩; clear hw; clear HO_9; clear HO_11; clear BK101; clear BK102; clear BK131; clear BK135; clear HB; have HO_9 := n0_; have HO_11 := n1_; have BK101 := n2_; have BK102 := n3_; have BK131 := n4_; have BK135 := n5_; have HB := n6_; clear n0_ n1_ n2_ n3_ n4_ n5_ n6_; have hcz113_0 : w112.cell? ⟨gb135, 0, none⟩ = some (.int .i64 (wrap64 (a3_0))) := (blk_cell BK135.out 0).trans rfl; have hcz113_1 : w112.cell? ⟨gb135, 1, none⟩ = some (.int .i64 (wrap64 (a3_1))) := (blk_cell BK135.out 1).trans rfl; have hfz113_0 := blk_frozen BK135.out 0; have hfz113_1 := blk_frozen BK135.out 1) | ((with_reducible refine gate_callee (f := 49) rfl ?_); refine goesL_ (some 156) rfl rfl Try.func49 (by kernel_rfl) rfl #[.slice Ao32 t106.length co32, .agg #[.int .i64 (wrap64 (a3_0)), .int .i64 (wrap64 (a3_1))]] rfl (by (try simp only [List.map_toArray, List.map_cons, List.map_nil]); first | done | rfl | (simp only [List.length_drop, List.length_take]; rfl)) ?_; (with_reducible refine (plane_Inside.calls kj52 (fun k_ => some k_ = (.slice Ao32 t106.length co32 : Value).ownBlock) _ _ t106 (wrap64 (a3_0)) (wrap64 (a3_1)) true t137 _ ?side1 A81.out).mono ?_); (case side1 => exact Kd.R_V (Kd.R_tight rfl (Kd.R_types (Kd.R_types (Kd.R_types (HO_9.out) BK101.out (by decide)) BK102.out (by decide)) BK131.out (by decide)))); rintro e w114 ⟨rfl, hb⟩; refine ⟨_, rfl, ?_⟩; have n0_ := Aside0.mk (Kd.R_below (by (with_reducible repeat (first | apply Kd.R_alloc | apply Kd.R_drewN | apply Kd.R_drew)); exact HO_9.out) hb); have n1_ := Aside0.mk (Kd.R_below (by (with_reducible repeat (first | apply Kd.R_alloc | apply Kd.R_drewN | apply Kd.R_drew)); exact HO_11.out) hb); have n2_ := Aside0.mk (blk_below (g := gb101) (o := .cells #[.int .i64 a2_0, .int .i64 a2_1, .int .i64 a2_2] 75 (0, 0)) (by (with_reducible repeat (first | refine blk_drewN ?_ _ | refine blk_drew ?_ | refine blk_alloc ?_ _)); exact BK101.out) hb); have n3_ := Aside0.mk (blk_below (g := gb102) (o := .cells #[.int .i8 a3_0, .int .i8 a3_1] 32 (0, 0)) (by (with_reducible repeat (first | refine blk_drewN ?_ _ | refine blk_drew ?_ | refine blk_alloc ?_ _)); exact BK102.out) hb); have n4_ := Aside0.mk (blk_below (g := gb131) (o := .cells #[.int .i64 t127, .int .i64 t128, .int .i64 t129] 75 (0, 0)) (by (with_reducible repeat (first | refine blk_drewN ?_ _ | refine blk_drew ?_ | refine blk_alloc ?_ _)); exact BK131.out) hb); have n5_ := Aside0.mk (blk_below (g := gb135) (o := .cells #[.int .i64 (wrap64 (a3_0)), .int .i64 (wrap64 (a3_1))] 23 (0, 0)) (by (with_reducible repeat (first | refine blk_drewN ?_ _ | refine blk_drew ?_ | refine blk_alloc ?_ _)); exact BK135.out) hb); have n6_ := Aside0.mk (below_step (by repeat (first | (with_reducible first | exact HB.out | apply below_alloc | apply pw_below_drewN | apply below_drew1 | refine below_set ?_ GE101.out | refine below_set ?_ GE102.out | refine below_set ?_ GE131.out | refine below_set ?_ GE135.out) | exact HB.out)) hb); clear HO_9; clear HO_11; clear BK101; clear BK102; clear BK131; clear BK135; clear HB; have HO_9 := n0_; have HO_11 := n1_; have BK101 := n2_; have BK102 := n3_; have BK131 := n4_; have BK135 := n5_; have HB := n6_; clear n0_ n1_ n2_ n3_ n4_ n5_ n6_; (try clear hb); (try clear hb2); (try clear hk); (try clear hi); have hcz115_0 : w114.cell? ⟨gb135, 0, none⟩ = some (.int .i64 (wrap64 (a3_0))) := (blk_cell BK135.out 0).trans rfl; have hcz115_1 : w114.cell? ⟨gb135, 1, none⟩ = some (.int .i64 (wrap64 (a3_1))) := (blk_cell BK135.out 1).trans rfl; have hfz115_0 := blk_frozen BK135.out 0; have hfz115_1 := blk_frozen BK135.out 1) | ((with_reducible refine gate_callee (f := 49) rfl ?_); refine goesL_ (some 162) rfl rfl Try.func49 (by kernel_rfl) rfl #[.slice Ao33 t113.length co33, .agg #[.int .i64 (wrap64 (a3_0)), .int .i64 (wrap64 (a3_1))]] rfl (by (try simp only [List.map_toArray, List.map_cons, List.map_nil]); first | done | rfl | (simp only [List.length_drop, List.length_take]; rfl)) ?_; (with_reducible refine (plane_Inside.calls kj52 (fun k_ => some k_ = (.slice Ao33 t113.length co33 : Value).ownBlock) _ _ t113 (wrap64 (a3_0)) (wrap64 (a3_1)) false t139 _ ?side1 A82.out).mono ?_); (case side1 => exact Kd.R_V (Kd.R_tight rfl (Kd.R_types (Kd.R_types (Kd.R_types (HO_11.out) BK101.out (by decide)) BK102.out (by decide)) BK131.out (by decide)))); rintro e w116 ⟨rfl, hb⟩; refine ⟨_, rfl, ?_⟩; have n0_ := Aside0.mk (Kd.R_below (by (with_reducible repeat (first | apply Kd.R_alloc | apply Kd.R_drewN | apply Kd.R_drew)); exact HO_9.out) hb); have n1_ := Aside0.mk (Kd.R_below (by (with_reducible repeat (first | apply Kd.R_alloc | apply Kd.R_drewN | apply Kd.R_drew)); exact HO_11.out) hb); have n2_ := Aside0.mk (blk_below (g := gb101) (o := .cells #[.int .i64 a2_0, .int .i64 a2_1, .int .i64 a2_2] 75 (0, 0)) (by (with_reducible repeat (first | refine blk_drewN ?_ _ | refine blk_drew ?_ | refine blk_alloc ?_ _)); exact BK101.out) hb); have n3_ := Aside0.mk (blk_below (g := gb102) (o := .cells #[.int .i8 a3_0, .int .i8 a3_1] 32 (0, 0)) (by (with_reducible repeat (first | refine blk_drewN ?_ _ | refine blk_drew ?_ | refine blk_alloc ?_ _)); exact BK102.out) hb); have n4_ := Aside0.mk (blk_below (g := gb131) (o := .cells #[.int .i64 t127, .int .i64 t128, .int .i64 t129] 75 (0, 0)) (by (with_reducible repeat (first | refine blk_drewN ?_ _ | refine blk_drew ?_ | refine blk_alloc ?_ _)); exact BK131.out) hb); have n5_ := Aside0.mk (blk_below (g := gb135) (o := .cells #[.int .i64 (wrap64 (a3_0)), .int .i64 (wrap64 (a3_1))] 23 (0, 0)) (by (with_reducible repeat (first | refine blk_drewN ?_ _ | refine blk_drew ?_ | refine blk_alloc ?_ _)); exact BK135.out) hb); have n6_ := Aside0.mk (below_step (by repeat (first | (with_reducible first | exact HB.out | apply below_alloc | apply pw_below_drewN | apply below_drew1 | refine below_set ?_ GE101.out | refine below_set ?_ GE102.out | refine below_set ?_ GE131.out | refine below_set ?_ GE135.out) | exact HB.out)) hb); clear HO_9; clear HO_11; clear BK101; clear BK102; clear BK131; clear BK135; clear HB; have HO_9 := n0_; have HO_11 := n1_; have BK101 := n2_; have BK102 := n3_; have BK131 := n4_; have BK135 := n5_; have HB := n6_; clear n0_ n1_ n2_ n3_ n4_ n5_ n6_; (try clear hb); (try clear hb2); (try clear hk); (try clear hi)) | (go_at_call 19; (with_reducible refine (goosenecklaw01_works.calls kj52  t141 _ A103.out).mono ?_); rintro e w117 ⟨rfl, hb⟩; have n0_ := Aside0.mk (Kd.R_below (by (with_reducible repeat (first | apply Kd.R_alloc | apply Kd.R_drewN | apply Kd.R_drew)); exact HO_9.out) hb); have n1_ := Aside0.mk (Kd.R_below (by (with_reducible repeat (first | apply Kd.R_alloc | apply Kd.R_drewN | apply Kd.R_drew)); exact HO_11.out) hb); have n2_ := Aside0.mk (blk_below (g := gb101) (o := .cells #[.int .i64 a2_0, .int .i64 a2_1, .int .i64 a2_2] 75 (0, 0)) (by (with_reducible repeat (first | refine blk_drewN ?_ _ | refine blk_drew ?_ | refine blk_alloc ?_ _)); exact BK101.out) hb); have n3_ := Aside0.mk (blk_below (g := gb102) (o := .cells #[.int .i8 a3_0, .int .i8 a3_1] 32 (0, 0)) (by (with_reducible repeat (first | refine blk_drewN ?_ _ | refine blk_drew ?_ | refine blk_alloc ?_ _)); exact BK102.out) hb); have n4_ := Aside0.mk (blk_below (g := gb131) (o := .cells #[.int .i64 t127, .int .i64 t128, .int .i64 t129] 75 (0, 0)) (by (with_reducible repeat (first | refine blk_drewN ?_ _ | refine blk_drew ?_ | refine blk_alloc ?_ _)); exact BK131.out) hb); have n5_ := Aside0.mk (blk_below (g := gb135) (o := .cells #[.int .i64 (wrap64 (a3_0)), .int .i64 (wrap64 (a3_1))] 23 (0, 0)) (by (with_reducible repeat (first | refine blk_drewN ?_ _ | refine blk_drew ?_ | refine blk_alloc ?_ _)); exact BK135.out) hb); have n6_ := Aside0.mk (below_step (by repeat (first | (with_reducible first | exact HB.out | apply below_alloc | apply pw_below_drewN | apply below_drew1 | refine below_set ?_ GE101.out | refine below_set ?_ GE102.out | refine below_set ?_ GE131.out | refine below_set ?_ GE135.out) | exact HB.out)) hb); clear HO_9; clear HO_11; clear BK101; clear BK102; clear BK131; clear BK135; clear HB; have HO_9 := n0_; have HO_11 := n1_; have BK101 := n2_; have BK102 := n3_; have BK131 := n4_; have BK135 := n5_; have HB := n6_; clear n0_ n1_ n2_ n3_ n4_ n5_ n6_; (try clear hb); (try clear hb2); (try clear hk); (try clear hi)))
                              go_ret
                              exact ⟨by first | rfl | (simp [errW_none, errW_some] <;> rfl) | (simp [*, errW_none, errW_some] <;> rfl), by repeat (first | (with_reducible first | exact HB.out | apply below_alloc | apply pw_below_drewN | apply below_drew1 | refine below_set ?_ GE101.out | refine below_set ?_ GE102.out | refine below_set ?_ GE131.out | refine below_set ?_ GE135.out) | exact HB.out)⟩
                          · replace c101 := Bool.eq_false_iff.mpr c101
                            subst c101
                            have H1 : ((goosenecklaw01_works.f kj52).bind fun t142 => (some t142)) = some r := by rw [if_neg (show ¬ (false = true) by decide)] at H; exact H
                            clear H
                            have H := H1
                            clear H1
                            replace H := Option.bind_eq_some_iff.mp H
                            obtain ⟨t142, A1180, H⟩ := H
                            replace H : (some t142) = some r := H
                            have A118 := Aside0.mk A1180
                            clear A1180
                            obtain rfl := Option.some.inj H
                            have hnb119 := NB102_101.out
                            have hnc119 := NB101_102.out
                            have hnb120 := NB102_131.out
                            have hnc120 := NB131_102.out
                            have hcz121_0 : wc.cell? ⟨gb102, 0, none⟩ = some (.int .i8 a3_0) := (blk_cell BK102.out 0).trans rfl
                            have hcz121_1 : wc.cell? ⟨gb102, 1, none⟩ = some (.int .i8 a3_1) := (blk_cell BK102.out 1).trans rfl
                            have hfz121_0 := blk_frozen BK102.out 0
                            have hfz121_1 := blk_frozen BK102.out 1
                            go_wp2_with (first | ((with_reducible refine gate_dst (N := 21) rfl ?_); (try (refine gate_guard (by rfl) ?_; dsimp only)); refine box_event ?hg (N := 21) ?hd (cs := #[.int .i64 0, .int .i64 0]) (t := 23) ?hr ?_; (case hd => rfl); (case hg => rfl); (case hr => first | (go_simp; done) | (go_simp; rfl)); intro gb135 hg w122 hbox hb; have n0_ := Aside0.mk (Kd.R_below (Kd.R_elderB (by (with_reducible repeat (first | apply Kd.R_alloc | apply Kd.R_drewN | apply Kd.R_drew)); exact HO_9.out) gb135 (Nat.le_of_eq hg.symm)) hb); have n1_ := Aside0.mk (Kd.R_below (Kd.R_elderB (by (with_reducible repeat (first | apply Kd.R_alloc | apply Kd.R_drewN | apply Kd.R_drew)); exact HO_11.out) gb135 (Nat.le_of_eq hg.symm)) hb); have n2_ := Aside0.mk (blk_below (g := gb101) (o := .cells #[.int .i64 a2_0, .int .i64 a2_1, .int .i64 a2_2] 75 (0, 0)) (by (with_reducible repeat (first | refine blk_drewN ?_ _ | refine blk_drew ?_ | refine blk_alloc ?_ _)); exact BK101.out) hb); have n3_ := Aside0.mk (blk_below (g := gb102) (o := .cells #[.int .i8 a3_0, .int .i8 a3_1] 32 (0, 0)) (by (with_reducible repeat (first | refine blk_drewN ?_ _ | refine blk_drew ?_ | refine blk_alloc ?_ _)); exact BK102.out) hb); have n4_ := Aside0.mk (blk_below (g := gb131) (o := .cells #[.int .i64 t127, .int .i64 t128, .int .i64 t129] 75 (0, 0)) (by (with_reducible repeat (first | refine blk_drewN ?_ _ | refine blk_drew ?_ | refine blk_alloc ?_ _)); exact BK131.out) hb); have n5_ := Aside0.mk (below_step (by repeat (first | (with_reducible first | exact HB.out | apply below_alloc | apply pw_below_drewN | apply below_drew1 | refine below_set ?_ GE101.out | refine below_set ?_ GE102.out | refine below_set ?_ GE131.out) | exact HB.out)) hb); have n6_ := Aside0.mk (hbox); have n7_ := Aside0.mk ((by rw [hg]; exact (below_size (by repeat (first | (with_reducible first | exact HB.out | apply below_alloc | apply pw_below_drewN | apply below_drew1 | refine below_set ?_ GE101.out | refine below_set ?_ GE102.out | refine below_set ?_ GE131.out) | exact HB.out))) : w.heap.size ≤ gb135)); have n8_ := Aside0.mk ((by rw [hg]; exact (below_size (by repeat (first | (with_reducible first | exact HB.out | apply below_alloc | apply pw_below_drewN | apply below_drew1 | refine below_set ?_ GE101.out | refine below_set ?_ GE102.out | refine below_set ?_ GE131.out) | exact HB.out))) : w.heap.size ≤ gb135)); have n9_ := Aside0.mk ((by rw [hg]; exact Nat.ne_of_lt (blk_lt (g := gb101) (o := .cells #[.int .i64 a2_0, .int .i64 a2_1, .int .i64 a2_2] 75 (0, 0)) (by (with_reducible repeat (first | refine blk_drewN ?_ _ | refine blk_drew ?_ | refine blk_alloc ?_ _)); exact BK101.out)) : gb101 ≠ gb135)); have n10_ := Aside0.mk ((by rw [hg]; exact Nat.ne_of_gt (blk_lt (g := gb101) (o := .cells #[.int .i64 a2_0, .int .i64 a2_1, .int .i64 a2_2] 75 (0, 0)) (by (with_reducible repeat (first | refine blk_drewN ?_ _ | refine blk_drew ?_ | refine blk_alloc ?_ _)); exact BK101.out)) : gb135 ≠ gb101)); have n11_ := Aside0.mk ((by rw [hg]; exact Nat.ne_of_lt (blk_lt (g := gb102) (o := .cells #[.int .i8 a3_0, .int .i8 a3_1] 32 (0, 0)) (by (with_reducible repeat (first | refine blk_drewN ?_ _ | refine blk_drew ?_ | refine blk_alloc ?_ _)); exact BK102.out)) : gb102 ≠ gb135)); have n12_ := Aside0.mk ((by rw [hg]; exact Nat.ne_of_gt (blk_lt (g := gb102) (o := .cells #[.int .i8 a3_0, .int .i8 a3_1] 32 (0, 0)) (by (with_reducible repeat (first | refine blk_drewN ?_ _ | refine blk_drew ?_ | refine blk_alloc ?_ _)); exact BK102.out)) : gb135 ≠ gb102)); have n13_ := Aside0.mk ((by rw [hg]; exact Nat.ne_of_lt (blk_lt (g := gb131) (o := .cells #[.int .i64 t127, .int .i64 t128, .int .i64 t129] 75 (0, 0)) (by (with_reducible repeat (first | refine blk_drewN ?_ _ | refine blk_drew ?_ | refine blk_alloc ?_ _)); exact BK131.out)) : gb131 ≠ gb135)); have n14_ := Aside0.mk ((by rw [hg]; exact Nat.ne_of_gt (blk_lt (g := gb131) (o := .cells #[.int .i64 t127, .int .i64 t128, .int .i64 t129] 75 (0, 0)) (by (with_reducible repeat (first | refine blk_drewN ?_ _ | refine blk_drew ?_ | refine blk_alloc ?_ _)); exact BK131.out)) : gb135 ≠ gb131)); clear HO_9; clear HO_11; clear BK101; clear BK102; clear BK131; clear HB; have HO_9 := n0_; have HO_11 := n1_; have BK101 := n2_; have BK102 := n3_; have BK131 := n4_; have HB := n5_; have BK135 := n6_; have GW135 := n7_; have GE135 := n8_; have NB101_135 := n9_; have NB135_101 := n10_; have NB102_135 := n11_; have NB135_102 := n12_; have NB131_135 := n13_; have NB135_131 := n14_; clear n0_ n1_ n2_ n3_ n4_ n5_ n6_ n7_ n8_ n9_ n10_ n11_ n12_ n13_ n14_; clear hb hbox hg; have hnb123 := NB135_101.out; have hnc123 := NB101_135.out; have hnb124 := NB135_102.out; have hnc124 := NB102_135.out; have hnb125 := NB135_131.out; have hnc125 := NB131_135.out; have hcz126_0 : w122.cell? ⟨gb135, 0, none⟩ = some (.int .i64 0) := (blk_cell BK135.out 0).trans rfl; have hcz126_1 : w122.cell? ⟨gb135, 1, none⟩ = some (.int .i64 0) := (blk_cell BK135.out 1).trans rfl; have hfz126_0 := blk_frozen BK135.out 0; have hfz126_1 := blk_frozen BK135.out 1) | ((with_reducible refine gate_store (t := 23) (p := 21) rfl ?_); refine store_event (t := 23) (p := 21) (v := ?vo_w127) (w1 := ((w122.setCell ⟨gb135, 0, none⟩ (.int .i64 (wrap64 (a3_0)))).setCell ⟨gb135, 1, none⟩ (.int .i64 (wrap64 (a3_1))))) ?hg ?ho ?hn ?hr ?_; (case ho => rfl); (case hg => rfl); (case hn => rfl); (case hr => first | (go_simp; done) | (go_simp; rfl)); intro w127 hw; have n0_ : Aside0 (Kd.R k23 23 w127 w.heap.size (fun k_ => some k_ ≠ (.slice Ao33 t113.length co33 : Value).ownBlock ∧ k_ ≠ gb135) (.slice Ao32 t106.length co32) t106) := ⟨(by rw [hw]; exact (by (with_reducible repeat (first | apply Kd.R_alloc | apply Kd.R_drewN | apply Kd.R_drew)); exact Kd.R_mono (Kd.R_far (p := ⟨gb135, 1, none⟩) (Kd.R_far (p := ⟨gb135, 0, none⟩) (Kd.R_mono HO_9.out (fun k_ hk => (⟨hk, hk.2⟩ : _ ∧ k_ ≠ gb135))) (fun _ hk => hk.2) (.int .i64 (wrap64 (a3_0)))) (fun _ hk => hk.2) (.int .i64 (wrap64 (a3_1)))) (fun _ hk => ⟨hk.1.1, hk.1.2⟩)))⟩; have n1_ : Aside0 (Kd.R k23 23 w127 w.heap.size (fun k_ => some k_ ≠ (.slice Ao32 t106.length co32 : Value).ownBlock ∧ k_ ≠ gb135) (.slice Ao33 t113.length co33) t113) := ⟨(by rw [hw]; exact (by (with_reducible repeat (first | apply Kd.R_alloc | apply Kd.R_drewN | apply Kd.R_drew)); exact Kd.R_mono (Kd.R_far (p := ⟨gb135, 1, none⟩) (Kd.R_far (p := ⟨gb135, 0, none⟩) (Kd.R_mono HO_11.out (fun k_ hk => (⟨hk, hk.2⟩ : _ ∧ k_ ≠ gb135))) (fun _ hk => hk.2) (.int .i64 (wrap64 (a3_0)))) (fun _ hk => hk.2) (.int .i64 (wrap64 (a3_1)))) (fun _ hk => ⟨hk.1.1, hk.1.2⟩)))⟩; have n2_ : Aside0 (w127.heap[gb101]? = some (.cells #[.int .i64 a2_0, .int .i64 a2_1, .int .i64 a2_2] 75 (0, 0))) := ⟨(by rw [hw]; exact (by (with_reducible repeat (first | refine blk_drewN ?_ _ | refine blk_drew ?_ | refine blk_alloc ?_ _)); refine blk_far ?_ NB101_135.out _; (with_reducible repeat (first | refine blk_drewN ?_ _ | refine blk_drew ?_ | refine blk_alloc ?_ _)); refine blk_far ?_ NB101_135.out _; (with_reducible repeat (first | refine blk_drewN ?_ _ | refine blk_drew ?_ | refine blk_alloc ?_ _)); exact BK101.out))⟩; have n3_ : Aside0 (w127.heap[gb102]? = some (.cells #[.int .i8 a3_0, .int .i8 a3_1] 32 (0, 0))) := ⟨(by rw [hw]; exact (by (with_reducible repeat (first | refine blk_drewN ?_ _ | refine blk_drew ?_ | refine blk_alloc ?_ _)); refine blk_far ?_ NB102_135.out _; (with_reducible repeat (first | refine blk_drewN ?_ _ | refine blk_drew ?_ | refine blk_alloc ?_ _)); refine blk_far ?_ NB102_135.out _; (with_reducible repeat (first | refine blk_drewN ?_ _ | refine blk_drew ?_ | refine blk_alloc ?_ _)); exact BK102.out))⟩; have n4_ : Aside0 (w127.heap[gb131]? = some (.cells #[.int .i64 t127, .int .i64 t128, .int .i64 t129] 75 (0, 0))) := ⟨(by rw [hw]; exact (by (with_reducible repeat (first | refine blk_drewN ?_ _ | refine blk_drew ?_ | refine blk_alloc ?_ _)); refine blk_far ?_ NB131_135.out _; (with_reducible repeat (first | refine blk_drewN ?_ _ | refine blk_drew ?_ | refine blk_alloc ?_ _)); refine blk_far ?_ NB131_135.out _; (with_reducible repeat (first | refine blk_drewN ?_ _ | refine blk_drew ?_ | refine blk_alloc ?_ _)); exact BK131.out))⟩; have n5_ : Aside0 (w127.heap[gb135]? = some (.cells #[.int .i64 (wrap64 (a3_0)), .int .i64 (wrap64 (a3_1))] 23 (0, 0))) := ⟨(by rw [hw]; exact (by (with_reducible repeat (first | refine blk_drewN ?_ _ | refine blk_drew ?_ | refine blk_alloc ?_ _)); refine blk_put (cs := #[.int .i64 (wrap64 (a3_0)), .int .i64 0]) ?_ 1 _ rfl; (with_reducible repeat (first | refine blk_drewN ?_ _ | refine blk_drew ?_ | refine blk_alloc ?_ _)); refine blk_put (cs := #[.int .i64 0, .int .i64 0]) ?_ 0 _ rfl; (with_reducible repeat (first | refine blk_drewN ?_ _ | refine blk_drew ?_ | refine blk_alloc ?_ _)); exact BK135.out))⟩; have n6_ : Aside0 (Below w.heap.size w w127) := ⟨(by rw [hw]; exact (by repeat (first | (with_reducible first | exact HB.out | apply below_alloc | apply pw_below_drewN | apply below_drew1 | refine below_set ?_ GE101.out | refine below_set ?_ GE102.out | refine below_set ?_ GE131.out | refine below_set ?_ GE135.out) | exact HB.out)))⟩; clear hw; clear HO_9; clear HO_11; clear BK101; clear BK102; clear BK131; clear BK135; clear HB; have HO_9 := n0_; have HO_11 := n1_; have BK101 := n2_; have BK102 := n3_; have BK131 := n4_; have BK135 := n5_; have HB := n6_; clear n0_ n1_ n2_ n3_ n4_ n5_ n6_; have hcz128_0 : w127.cell? ⟨gb135, 0, none⟩ = some (.int .i64 (wrap64 (a3_0))) := (blk_cell BK135.out 0).trans rfl; have hcz128_1 : w127.cell? ⟨gb135, 1, none⟩ = some (.int .i64 (wrap64 (a3_1))) := (blk_cell BK135.out 1).trans rfl; have hfz128_0 := blk_frozen BK135.out 0; have hfz128_1 := blk_frozen BK135.out 1) | ((with_reducible refine gate_callee (f := 49) rfl ?_); refine goesL_ (some 156) rfl rfl Try.func49 (by kernel_rfl) rfl #[.slice Ao32 t106.length co32, .agg #[.int .i64 (wrap64 (a3_0)), .int .i64 (wrap64 (a3_1))]] rfl (by (try simp only [List.map_toArray, List.map_cons, List.map_nil]); first | done | rfl | (simp only [List.length_drop, List.length_take]; rfl)) ?_; (with_reducible refine (plane_Inside.calls kj52 (fun k_ => some k_ = (.slice Ao32 t106.length co32 : Value).ownBlock) _ _ t106 (wrap64 (a3_0)) (wrap64 (a3_1)) false t137 _ ?side1 A81.out).mono ?_); (case side1 => exact Kd.R_V (Kd.R_tight rfl (Kd.R_types (Kd.R_types (Kd.R_types (HO_9.out) BK101.out (by decide)) BK102.out (by decide)) BK131.out (by decide)))); rintro e w129 ⟨rfl, hb⟩; refine ⟨_, rfl, ?_⟩; have n0_ := Aside0.mk (Kd.R_below (by (with_reducible repeat (first | apply Kd.R_alloc | apply Kd.R_drewN | apply Kd.R_drew)); exact HO_9.out) hb); have n1_ := Aside0.mk (Kd.R_below (by (with_reducible repeat (first | apply Kd.R_alloc | apply Kd.R_drewN | apply Kd.R_drew)); exact HO_11.out) hb); have n2_ := Aside0.mk (blk_below (g := gb101) (o := .cells #[.int .i64 a2_0, .int .i64 a2_1, .int .i64 a2_2] 75 (0, 0)) (by (with_reducible repeat (first | refine blk_drewN ?_ _ | refine blk_drew ?_ | refine blk_alloc ?_ _)); exact BK101.out) hb); have n3_ := Aside0.mk (blk_below (g := gb102) (o := .cells #[.int .i8 a3_0, .int .i8 a3_1] 32 (0, 0)) (by (with_reducible repeat (first | refine blk_drewN ?_ _ | refine blk_drew ?_ | refine blk_alloc ?_ _)); exact BK102.out) hb); have n4_ := Aside0.mk (blk_below (g := gb131) (o := .cells #[.int .i64 t127, .int .i64 t128, .int .i64 t129] 75 (0, 0)) (by (with_reducible repeat (first | refine blk_drewN ?_ _ | refine blk_drew ?_ | refine blk_alloc ?_ _)); exact BK131.out) hb); have n5_ := Aside0.mk (blk_below (g := gb135) (o := .cells #[.int .i64 (wrap64 (a3_0)), .int .i64 (wrap64 (a3_1))] 23 (0, 0)) (by (with_reducible repeat (first | refine blk_drewN ?_ _ | refine blk_drew ?_ | refine blk_alloc ?_ _)); exact BK135.out) hb); have n6_ := Aside0.mk (below_step (by repeat (first | (with_reducible first | exact HB.out | apply below_alloc | apply pw_below_drewN | apply below_drew1 | refine below_set ?_ GE101.out | refine below_set ?_ GE102.out | refine below_set ?_ GE131.out | refine below_set ?_ GE135.out) | exact HB.out)) hb); clear HO_9; clear HO_11; clear BK101; clear BK102; clear BK131; clear BK135; clear HB; have HO_9 := n0_; have HO_11 := n1_; have BK101 := n2_; have BK102 := n3_; have BK131 := n4_; have BK135 := n5_; have HB := n6_; clear n0_ n1_ n2_ n3_ n4_ n5_ n6_; (try clear hb); (try clear hb2); (try clear hk); (try clear hi); have hcz130_0 : w129.cell? ⟨gb135, 0, none⟩ = some (.int .i64 (wrap64 (a3_0))) := (blk_cell BK135.out 0).trans rfl; have hcz130_1 : w129.cell? ⟨gb135, 1, none⟩ = some (.int .i64 (wrap64 (a3_1))) := (blk_cell BK135.out 1).trans rfl; have hfz130_0 := blk_frozen BK135.out 0; have hfz130_1 := blk_frozen BK135.out 1) | ((with_reducible refine gate_callee (f := 49) rfl ?_); refine goesL_ (some 162) rfl rfl Try.func49 (by kernel_rfl) rfl #[.slice Ao33 t113.length co33, .agg #[.int .i64 (wrap64 (a3_0)), .int .i64 (wrap64 (a3_1))]] rfl (by (try simp only [List.map_toArray, List.map_cons, List.map_nil]); first | done | rfl | (simp only [List.length_drop, List.length_take]; rfl)) ?_; (with_reducible refine (plane_Inside.calls kj52 (fun k_ => some k_ = (.slice Ao33 t113.length co33 : Value).ownBlock) _ _ t113 (wrap64 (a3_0)) (wrap64 (a3_1)) t138 t139 _ ?side1 A82.out).mono ?_); (case side1 => exact Kd.R_V (Kd.R_tight rfl (Kd.R_types (Kd.R_types (Kd.R_types (HO_11.out) BK101.out (by decide)) BK102.out (by decide)) BK131.out (by decide)))); rintro e w131 ⟨rfl, hb⟩; refine ⟨_, rfl, ?_⟩; have n0_ := Aside0.mk (Kd.R_below (by (with_reducible repeat (first | apply Kd.R_alloc | apply Kd.R_drewN | apply Kd.R_drew)); exact HO_9.out) hb); have n1_ := Aside0.mk (Kd.R_below (by (with_reducible repeat (first | apply Kd.R_alloc | apply Kd.R_drewN | apply Kd.R_drew)); exact HO_11.out) hb); have n2_ := Aside0.mk (blk_below (g := gb101) (o := .cells #[.int .i64 a2_0, .int .i64 a2_1, .int .i64 a2_2] 75 (0, 0)) (by (with_reducible repeat (first | refine blk_drewN ?_ _ | refine blk_drew ?_ | refine blk_alloc ?_ _)); exact BK101.out) hb); have n3_ := Aside0.mk (blk_below (g := gb102) (o := .cells #[.int .i8 a3_0, .int .i8 a3_1] 32 (0, 0)) (by (with_reducible repeat (first | refine blk_drewN ?_ _ | refine blk_drew ?_ | refine blk_alloc ?_ _)); exact BK102.out) hb); have n4_ := Aside0.mk (blk_below (g := gb131) (o := .cells #[.int .i64 t127, .int .i64 t128, .int .i64 t129] 75 (0, 0)) (by (with_reducible repeat (first | refine blk_drewN ?_ _ | refine blk_drew ?_ | refine blk_alloc ?_ _)); exact BK131.out) hb); have n5_ := Aside0.mk (blk_below (g := gb135) (o := .cells #[.int .i64 (wrap64 (a3_0)), .int .i64 (wrap64 (a3_1))] 23 (0, 0)) (by (with_reducible repeat (first | refine blk_drewN ?_ _ | refine blk_drew ?_ | refine blk_alloc ?_ _)); exact BK135.out) hb); have n6_ := Aside0.mk (below_step (by repeat (first | (with_reducible first | exact HB.out | apply below_alloc | apply pw_below_drewN | apply below_drew1 | refine below_set ?_ GE101.out | refine below_set ?_ GE102.out | refine below_set ?_ GE131.out | refine below_set ?_ GE135.out) | exact HB.out)) hb); clear HO_9; clear HO_11; clear BK101; clear BK102; clear BK131; clear BK135; clear HB; have HO_9 := n0_; have HO_11 := n1_; have BK101 := n2_; have BK102 := n3_; have BK131 := n4_; have BK135 := n5_; have HB := n6_; clear n0_ n1_ n2_ n3_ n4_ n5_ n6_; (try clear hb); (try clear hb2); (try clear hk); (try clear hi)) | (go_at_call 19; (with_reducible refine (goosenecklaw01_works.calls kj52  t142 _ A118.out).mono ?_); rintro e w132 ⟨rfl, hb⟩; have n0_ := Aside0.mk (Kd.R_below (by (with_reducible repeat (first | apply Kd.R_alloc | apply Kd.R_drewN | apply Kd.R_drew)); exact HO_9.out) hb); have n1_ := Aside0.mk (Kd.R_below (by (with_reducible repeat (first | apply Kd.R_alloc | apply Kd.R_drewN | apply Kd.R_drew)); exact HO_11.out) hb); have n2_ := Aside0.mk (blk_below (g := gb101) (o := .cells #[.int .i64 a2_0, .int .i64 a2_1, .int .i64 a2_2] 75 (0, 0)) (by (with_reducible repeat (first | refine blk_drewN ?_ _ | refine blk_drew ?_ | refine blk_alloc ?_ _)); exact BK101.out) hb); have n3_ := Aside0.mk (blk_below (g := gb102) (o := .cells #[.int .i8 a3_0, .int .i8 a3_1] 32 (0, 0)) (by (with_reducible repeat (first | refine blk_drewN ?_ _ | refine blk_drew ?_ | refine blk_alloc ?_ _)); exact BK102.out) hb); have n4_ := Aside0.mk (blk_below (g := gb131) (o := .cells #[.int .i64 t127, .int .i64 t128, .int .i64 t129] 75 (0, 0)) (by (with_reducible repeat (first | refine blk_drewN ?_ _ | refine blk_drew ?_ | refine blk_alloc ?_ _)); exact BK131.out) hb); have n5_ := Aside0.mk (blk_below (g := gb135) (o := .cells #[.int .i64 (wrap64 (a3_0)), .int .i64 (wrap64 (a3_1))] 23 (0, 0)) (by (with_reducible repeat (first | refine blk_drewN ?_ _ | refine blk_drew ?_ | refine blk_alloc ?_ _)); exact BK135.out) hb); have n6_ := Aside0.mk (below_step (by repeat (first | (with_reducible first | exact HB.out | apply below_alloc | apply pw_below_drewN | apply below_drew1 | refine below_set ?_ GE101.out | refine below_set ?_ GE102.out | refine below_set ?_ GE131.out | refine below_set ?_ GE135.out) | exact HB.out)) hb); clear HO_9; clear HO_11; clear BK101; clear BK102; clear BK131; clear BK135; clear HB; have HO_9 := n0_; have HO_11 := n1_; have BK101 := n2_; have BK102 := n3_; have BK131 := n4_; have BK135 := n5_; have HB := n6_; clear n0_ n1_ n2_ n3_ n4_ n5_ n6_; (try clear hb); (try clear hb2); (try clear hk); (try clear hi)))
                            go_ret
                            exact ⟨by first | rfl | (simp [errW_none, errW_some] <;> rfl) | (simp [*, errW_none, errW_some] <;> rfl), by repeat (first | (with_reducible first | exact HB.out | apply below_alloc | apply pw_below_drewN | apply below_drew1 | refine below_set ?_ GE101.out | refine below_set ?_ GE102.out | refine below_set ?_ GE131.out | refine below_set ?_ GE135.out) | exact HB.out)⟩
                      · rw [if_neg c84] at H
                        have c84b0 : (t139 == 0) = false := beq_eq_false_iff_ne.mpr c84
                        have c84b1 : (t139 != 0) = true := bne_iff_ne.mpr c84
                        rw [hr_.out] at H
                        exact absurd H (by simp)
                    · rw [if_neg c83] at H
                      have c83b0 : (t137 == 0) = false := beq_eq_false_iff_ne.mpr c83
                      have c83b1 : (t137 != 0) = true := bne_iff_ne.mpr c83
                      rw [hr_.out] at H
                      exact absurd H (by simp)
end Go.Proofs.Ytegdcnjjelgpjaa.P
namespace Go.Proofs.Ytegdcnjjelgpjaa.P
open Go.RowKit Go.Deep Go.ChangeShapes Go.WideShapes Go.Proofs.YtegdcnjjelgpjaaW.PrintWords Go.Proofs.YtegdcnjjelgpjaaW.PrintLast Go.Proofs.YtegdcnjjelgpjaaW.PrintMore
def Opens {α : Type} (P : Program) (t : TypeId) (d : Kd α) (wf : α → Prop) : Prop :=
  ∀ (H : Type) (enc : TypeId × Value → H) (w : World) (base : Nat) (spare : Nat → Bool) (held : Bool) (fuel : Nat) (cs : List Value) (x : DataW H × List MemPlace), DataW.trod enc P w base spare held fuel t cs = some x → ∃ a : α, d.K w a cs ∧ wf a
def FieldsOpen {α : Type} (P : Program) (fs : List Field) (off : Nat) (d : Kd α) (wf : α → Prop) : Prop :=
  ∀ (H : Type) (enc : TypeId × Value → H) (w : World) (base : Nat) (spare : Nat → Bool) (held : Bool) (cs : List Value), (∀ f ∈ fs, ∃ n y, DataW.trod enc P w base spare held n f.type ((cs.drop f.offset).take (P.cellsOf f.type)) = some y) → cs.length = off + d.sz → ∃ a : α, d.K w a (cs.drop off) ∧ wf a
theorem Opens.int {P : Program} {t : TypeId} {k : IntKind} (hu : P.underlying t = some (.int k)) : Opens P t (Kd.int k) (fun n => (Lit.int k n).wf = true) := by
  intro H enc w base spare held fuel cs x h
  obtain ⟨n, rfl, _, hw⟩ := DataW.trod_int hu h
  exact ⟨n, rfl, hw⟩
theorem Opens.bool {P : Program} {t : TypeId} (hu : P.underlying t = some .bool) : Opens P t Kd.bool (fun _ => True) := by
  intro H enc w base spare held fuel cs x h
  obtain ⟨n, rfl, _⟩ := DataW.trod_bool hu h
  exact ⟨n, rfl, trivial⟩
theorem FieldsOpen.one {α : Type} {P : Program} {f : Field} {off : Nat} {d : Kd α} {wf : α → Prop} (ho : f.offset = off) (hs : P.cellsOf f.type = d.sz) (h : Opens P f.type d wf) : FieldsOpen P [f] off d wf := by
  intro H enc w base spare held cs hf hl
  obtain ⟨n, y, hy⟩ := hf f (List.mem_singleton.2 rfl)
  rw [ho, hs, List.take_of_length_le (by rw [List.length_drop]; omega)] at hy
  exact h H enc w base spare held n _ y hy
theorem FieldsOpen.cons {α β : Type} {P : Program} {f : Field} {fs : List Field} {off : Nat} {d : Kd α} {d' : Kd β} {wf : α → Prop} {wf' : β → Prop} (ho : f.offset = off) (hs : P.cellsOf f.type = d.sz) (h : Opens P f.type d wf) (h' : FieldsOpen P fs (off + d.sz) d' wf') :
    FieldsOpen P (f :: fs) off (Kd.pair d d') (fun x => wf x.1 ∧ wf' x.2) := by
  intro H enc w base spare held cs hf hl
  have hl' : cs.length = off + (d.sz + d'.sz) := hl
  obtain ⟨n, y, hy⟩ := hf f (List.mem_cons_self ..)
  rw [ho, hs] at hy
  obtain ⟨a, ha, wa⟩ := h H enc w base spare held n _ y hy
  obtain ⟨b, hb, wb⟩ := h' H enc w base spare held cs (fun g hg => hf g (List.mem_cons_of_mem _ hg)) (by omega)
  refine ⟨(a, b), ⟨_, _, ?_, ha, hb⟩, wa, wb⟩
  rw [← List.drop_drop, List.take_append_drop]
theorem Opens.struct {α : Type} {P : Program} {t : TypeId} {fs : Array Field} {d : Kd α} {wf : α → Prop} (hu : P.underlying t = some (.struct fs)) (hs : P.cellsOf t = d.sz) (h : FieldsOpen P fs.toList 0 d wf) : Opens P t d wf := by
  intro H enc w base spare held fuel cs x hx
  obtain ⟨xs, n, _, _, hl, hlen, hf⟩ := DataW.trod_struct hu hx
  have hk := h H enc w base spare held cs (fun f hf' => by
    obtain ⟨i, hi⟩ := List.getElem?_of_mem hf'
    have h1 := hf i f (by simpa using hi)
    have hlt : i < xs.length := by
      have := (List.getElem?_eq_some_iff.1 hi).1
      rw [hlen]; simpa using this
    rw [List.getElem?_eq_getElem hlt] at h1
    exact ⟨n, _, h1⟩) (by rw [hl, hs]; omega)
  simpa using hk
theorem Opens.iso {α β : Type} {P : Program} {t : TypeId} {d : Kd α} {f : β → α} {wf : α → Prop} (g : α → β) (hg : ∀ a, f (g a) = a) (h : Opens P t d wf) : Opens P t (Kd.iso d f) (fun b => wf (f b)) := by
  intro H enc w base spare held fuel cs x hx
  obtain ⟨a, ha, wa⟩ := h H enc w base spare held fuel cs x hx
  exact ⟨g a, by show d.K w (f (g a)) cs; rw [hg]; exact ha, by show wf (f (g a)); rw [hg]; exact wa⟩
theorem Opens.slice {α : Type} {P : Program} {t e : TypeId} {d : Kd α} {wf : α → Prop} (hu : P.underlying t = some (.slice e)) (hs : P.cellsOf e = d.sz) (h : Opens P e d wf) : Opens P t (Kd.slice e d) (fun l => l.length ≤ 9223372036854775807 ∧ ∀ x ∈ l, wf x) := by
  intro H enc w base spare held fuel cs x hx
  rcases open_slice hu hx with ⟨rfl, _⟩ | ⟨a, len, cap, m, n, D, Pl, rfl, hb, hl, hm, hmm, _, hel⟩
  · exact ⟨[], ⟨none, 0, rfl, Nat.le_refl _, rfl, by simp, fun h => absurd h (Nat.lt_irrefl 0)⟩, by simp, fun x hx => by cases hx⟩
  · have hlm : len ≤ m := by rw [hmm]; split <;> omega
    have hmx : cap ≤ 9223372036854775807 := by simpa [maxLen] using hm
    have key : ∀ k, k ≤ len → ∃ xs : List α, xs.length = k ∧ (∀ x ∈ xs, wf x) ∧ ∀ j p, xs[j]? = some p → ∃ c, c.length = d.sz ∧ d.K w p c ∧ ∀ i u, c[i]? = some u → w.cell? (a.add (j * d.sz + i)) = some u := by
      intro k
      induction k with
      | zero => intro _; exact ⟨[], rfl, (fun x hx => by cases hx), fun j p hj => by simp at hj⟩
      | succ k ih =>
        intro hk
        obtain ⟨xs, hxl, hxw, hxs⟩ := ih (by omega)
        obtain ⟨cs', hcs, htr⟩ := hel k (by omega)
        obtain ⟨_, hcl, hcell⟩ := World.cells?_some hcs
        obtain ⟨p, hp, wp⟩ := h H enc w base spare held n cs' _ htr
        refine ⟨xs ++ [p], by simp [hxl], ?_, ?_⟩
        · intro x hx
          rcases List.mem_append.1 hx with hx | hx
          · exact hxw x hx
          · rw [List.mem_singleton.1 hx]; exact wp
        · intro j q hj
          rcases Nat.lt_or_ge j xs.length with hj' | hj'
          · rw [List.getElem?_append_left hj'] at hj
            exact hxs j q hj
          · have hjk : j = k := by
              have := (List.getElem?_eq_some_iff.1 hj).1
              rw [List.length_append, List.length_singleton] at this
              omega
            subst hjk
            rw [List.getElem?_append_right (by omega)] at hj
            have hq : p = q := by simpa [hxl] using hj
            subst hq
            refine ⟨cs', by rw [hcl, hs], hp, fun i u hi => ?_⟩
            have hi' : i < cs'.length := (List.getElem?_eq_some_iff.1 hi).1
            have := hcell i (by omega)
            rw [Deep.add_add, hs] at this
            rw [this, hi]
    obtain ⟨xs, hxl, hxw, hxs⟩ := key len (Nat.le_refl _)
    subst hxl
    exact ⟨xs, ⟨some a, cap, rfl, hl, rfl, by omega, fun _ => ⟨a, rfl, hxs⟩⟩, by omega, hxw⟩
theorem wf_i8 {n : Int} (h : (Lit.int .i8 n).wf = true) : -128 ≤ n ∧ n ≤ 127 := by simpa [Lit.wf, IntKind.min, IntKind.max, IntKind.signed, IntKind.bits] using h
end Go.Proofs.Ytegdcnjjelgpjaa.P
namespace Go.Proofs.Ytegdcnjjelgpjaa.P
open Go.RowKit Go.Proofs.YtegdcnjjelgpjaaW.PrintWords Go.Proofs.YtegdcnjjelgpjaaW.PrintLast Go.Proofs.YtegdcnjjelgpjaaW.PrintMore
open Go.Deep Go.ChangeShapes Go.WideShapes
def wfS32 (x : S32) : Prop := (Lit.int .i8 x.f0).wf = true ∧ (Lit.int .i8 x.f1).wf = true
theorem opens32 : Opens Try.prog 32 k32 wfS32 := Opens.iso (fun a => ⟨a.1, a.2⟩) (fun a => rfl) (Opens.struct Try.underlying32 (by kernel_rfl) (FieldsOpen.cons rfl (by kernel_rfl) (Opens.int Try.underlying30) (FieldsOpen.one rfl (by kernel_rfl) (Opens.int Try.underlying30))))
def wfS75 (x : S75) : Prop := (Lit.int .i64 x.f0).wf = true ∧ (Lit.int .i64 x.f1).wf = true ∧ (Lit.int .i64 x.f2).wf = true
theorem opens75 : Opens Try.prog 75 k75 wfS75 := Opens.iso (fun a => ⟨a.1, a.2.1, a.2.2⟩) (fun a => rfl) (Opens.struct Try.underlying75 (by kernel_rfl) (FieldsOpen.cons rfl (by kernel_rfl) (Opens.int Try.underlying2) (FieldsOpen.cons rfl (by kernel_rfl) (Opens.int Try.underlying2) (FieldsOpen.one rfl (by kernel_rfl) (Opens.int Try.underlying2)))))
end Go.Proofs.Ytegdcnjjelgpjaa.P
namespace Go.Proofs.Ytegdcnjjelgpjaa.P
open Go.RowKit Go.Proofs.YtegdcnjjelgpjaaW.PrintWords Go.Proofs.YtegdcnjjelgpjaaW.PrintLast Go.Proofs.YtegdcnjjelgpjaaW.PrintMore
def PlaneParts_Pure : Prop := ∀ (l0 : List (S32)) (l1 : List (S32)) (x2 : S75) (x3 : S32), (l0.length ≤ 9223372036854775807 ∧ ∀ x_ ∈ l0, wfS32 x_) → (l1.length ≤ 9223372036854775807 ∧ ∀ x_ ∈ l1, wfS32 x_) → (wfS75 x2) → (wfS32 x3) → ∃ k, goosenecklaw01_PlaneParts.f k l0 l1 x2.f0 x2.f1 x2.f2 x3.f0 x3.f1 = some true
end Go.Proofs.Ytegdcnjjelgpjaa.P
namespace Go.Proofs.Ytegdcnjjelgpjaa.P
open Go.RowKit Go.Proofs.YtegdcnjjelgpjaaW.PrintWords Go.Proofs.YtegdcnjjelgpjaaW.PrintLast Go.Proofs.YtegdcnjjelgpjaaW.PrintMore
set_option linter.unusedVariables false
set_option linter.unusedSimpArgs false
def dP (x y : Int) (p : S23) : Int := x * p.f0 + y * p.f1
theorem dP_dt (x y : Int) (p : S23) : Geo.dt S23.f0 S23.f1 x y p = dP x y p := rfl
def Dir (x y : Int) : Prop := (-134217728 ≤ x ∧ x ≤ 134217728) ∧ (-134217728 ≤ y ∧ y ≤ 134217728)
theorem dotW_eq {x y : Int} {p : S23} (hd : Dir x y) (hp : Bd p) : dotW x y p = dP x y p := by
  unfold Dir at hd; unfold Bd at hp
  have h1 := mulA_bd (a := x) (b := p.f0) (A := 134217728) hd.1 ⟨by omega, by omega⟩
  have h2 := mulA_bd (a := y) (b := p.f1) (A := 134217728) hd.2 ⟨by omega, by omega⟩
  unfold dotW dP
  rw [ww (x := x * p.f0) (by omega) (by omega), ww (x := y * p.f1) (by omega) (by omega), ww (by omega) (by omega)]
theorem foldl_mx {α : Type} (f : α → Int) : ∀ (l : List α) (z : Int), (∀ p ∈ l, f p ≤ l.foldl (fun m p => mx m (f p)) z) ∧ z ≤ l.foldl (fun m p => mx m (f p)) z ∧ (l.foldl (fun m p => mx m (f p)) z = z ∨ ∃ p ∈ l, l.foldl (fun m p => mx m (f p)) z = f p)
  | [], z => ⟨by simp, Int.le_refl _, .inl rfl⟩
  | a :: l, z => by
    obtain ⟨h1, h2, h3⟩ := foldl_mx f l (mx z (f a))
    simp only [List.foldl_cons]
    have e1 : z ≤ mx z (f a) := by unfold mx; split <;> omega
    have e2 : f a ≤ mx z (f a) := by unfold mx; split <;> omega
    refine ⟨fun p hp => ?_, by omega, ?_⟩
    · rcases List.mem_cons.1 hp with rfl | hp
      · omega
      · exact h1 p hp
    · rcases h3 with h3 | ⟨p, hp, h3⟩
      · unfold mx at h3 ⊢
        split at h3
        · rename_i c; rw [if_pos c]; exact .inr ⟨a, by simp, h3⟩
        · rename_i c; rw [if_neg c]; exact .inl h3
      · exact .inr ⟨p, by simp [hp], h3⟩
theorem foldl_mn {α : Type} (f : α → Int) : ∀ (l : List α) (z : Int), (∀ p ∈ l, l.foldl (fun m p => mn m (f p)) z ≤ f p) ∧ l.foldl (fun m p => mn m (f p)) z ≤ z ∧ (l.foldl (fun m p => mn m (f p)) z = z ∨ ∃ p ∈ l, l.foldl (fun m p => mn m (f p)) z = f p)
  | [], z => ⟨by simp, Int.le_refl _, .inl rfl⟩
  | a :: l, z => by
    obtain ⟨h1, h2, h3⟩ := foldl_mn f l (mn z (f a))
    simp only [List.foldl_cons]
    have e1 : mn z (f a) ≤ z := by unfold mn; split <;> omega
    have e2 : mn z (f a) ≤ f a := by unfold mn; split <;> omega
    refine ⟨fun p hp => ?_, by omega, ?_⟩
    · rcases List.mem_cons.1 hp with rfl | hp
      · omega
      · exact h1 p hp
    · rcases h3 with h3 | ⟨p, hp, h3⟩
      · unfold mn at h3 ⊢
        split at h3
        · rename_i c; rw [if_pos c]; exact .inr ⟨a, by simp, h3⟩
        · rename_i c; rw [if_neg c]; exact .inl h3
      · exact .inr ⟨p, by simp [hp], h3⟩
theorem cons_drop {l : List S23} (h : 0 < l.length) : l = rd_T23 l 0 :: l.drop 1 := by
  cases l with
  | nil => simp at h
  | cons a r => rfl
theorem hiW_max {x y : Int} {l : List S23} (h : 0 < l.length) : (∀ p ∈ l, dotW x y p ≤ hiW x y l) ∧ ∃ p ∈ l, hiW x y l = dotW x y p := by
  obtain ⟨h1, h2, h3⟩ := foldl_mx (dotW x y) (l.drop 1) (dotW x y (rd_T23 l 0))
  have hc := cons_drop h
  unfold hiW
  refine ⟨fun p hp => ?_, ?_⟩
  · rw [hc] at hp
    rcases List.mem_cons.1 hp with rfl | hp
    · exact h2
    · exact h1 p hp
  · rcases h3 with h3 | ⟨p, hp, h3⟩
    · exact ⟨_, by rw [hc]; simp [rd_T23], h3⟩
    · exact ⟨p, List.mem_of_mem_drop hp, h3⟩
theorem loW_min {x y : Int} {l : List S23} (h : 0 < l.length) : (∀ p ∈ l, loW x y l ≤ dotW x y p) ∧ ∃ p ∈ l, loW x y l = dotW x y p := by
  obtain ⟨h1, h2, h3⟩ := foldl_mn (dotW x y) (l.drop 1) (dotW x y (rd_T23 l 0))
  have hc := cons_drop h
  unfold loW
  refine ⟨fun p hp => ?_, ?_⟩
  · rw [hc] at hp
    rcases List.mem_cons.1 hp with rfl | hp
    · exact h2
    · exact h1 p hp
  · rcases h3 with h3 | ⟨p, hp, h3⟩
    · exact ⟨_, by rw [hc]; simp [rd_T23], h3⟩
    · exact ⟨p, List.mem_of_mem_drop hp, h3⟩
def BdL (l : List S23) : Prop := ∀ p ∈ l, Bd p
abbrev SepD (u v : Int) (a b : List S23) : Prop := Geo.Sep S23.f0 S23.f1 u v a b
def SepE (a b : List S23) : Prop := ∃ u v, SepD u v a b
theorem span_sep {x y : Int} {a b : List S23} (hd : Dir x y) (ha : BdL a) (hb : BdL b) (na : 0 < a.length) (nb : 0 < b.length) : hiW x y a < loW x y b ↔ SepD x y a b := by
  obtain ⟨h1, p, hp, h2⟩ := hiW_max (x := x) (y := y) na
  obtain ⟨g1, q, hq, g2⟩ := loW_min (x := x) (y := y) nb
  constructor
  · intro h s hs t ht
    have k1 := h1 s hs
    have k2 := g1 t ht
    rw [dotW_eq hd (ha s hs)] at k1
    rw [dotW_eq hd (hb t ht)] at k2
    rw [dP_dt, dP_dt]; omega
  · intro h
    have := h p hp q hq
    rw [dP_dt, dP_dt, ← dotW_eq hd (ha p hp), ← dotW_eq hd (hb q hq)] at this
    omega
theorem bd_sub {p q : S23} (hp : Bd p) (hq : Bd q) : (wrap64 (q.f0 - p.f0) = q.f0 - p.f0 ∧ wrap64 (q.f1 - p.f1) = q.f1 - p.f1) ∧ (wrap64 (-(q.f0 - p.f0)) = -(q.f0 - p.f0) ∧ wrap64 (-(q.f1 - p.f1)) = -(q.f1 - p.f1)) ∧ (-134217728 ≤ q.f0 - p.f0 ∧ q.f0 - p.f0 ≤ 134217728) ∧ (-134217728 ≤ q.f1 - p.f1 ∧ q.f1 - p.f1 ≤ 134217728) := by
  unfold Bd at hp hq
  refine ⟨⟨ww (by omega) (by omega), ww (by omega) (by omega)⟩, ⟨ww (by omega) (by omega), ww (by omega) (by omega)⟩, ⟨by omega, by omega⟩, by omega, by omega⟩
theorem next_mod {n i : Nat} (hi : i < n) : Geo.Next n i ((i + 1) % n) := by
  by_cases g : i + 1 < n
  · rw [Nat.mod_eq_of_lt g]; exact .inl rfl
  · have : i + 1 = n := by omega
    rw [this, Nat.mod_self]; exact .inr ⟨this, rfl⟩
theorem mod_next {n i j : Nat} (hj : j < n) (h : Geo.Next n i j) : j = (i + 1) % n := by
  rcases h with h | ⟨h, rfl⟩
  · rw [Nat.mod_eq_of_lt (by omega)]; exact h
  · rw [h, Nat.mod_self]
theorem side_mem {h : List S23} {s : S23 × S23} (hs : s ∈ sideL h) : ∃ (i j : Nat) (hi : i < h.length) (hj : j < h.length), Geo.Next h.length i j ∧ s = (h[i], h[j]) := by
  obtain ⟨i, hi, rfl⟩ := List.mem_map.1 hs
  have hi' : i < h.length := by simpa using hi
  have hj : (i + 1) % h.length < h.length := Nat.mod_lt _ (by omega)
  refine ⟨i, (i + 1) % h.length, hi', hj, next_mod hi', ?_⟩
  simp [sideAt, List.getD_eq_getElem?_getD, hi', hj]
theorem mem_side {h : List S23} {i j : Nat} (hi : i < h.length) (hj : j < h.length) (hn : Geo.Next h.length i j) : (h[i], h[j]) ∈ sideL h := by
  refine List.mem_map.2 ⟨i, by simpa using hi, ?_⟩
  have := mod_next hj hn
  subst this
  simp [sideAt, List.getD_eq_getElem?_getD, hi, hj]
theorem dirs_dir {h : List S23} (hb : BdL h) {d : S75} (hd : d ∈ dirs h) : Dir d.f0 d.f1 := by
  obtain ⟨s, hs, hd⟩ := List.mem_flatMap.1 hd
  obtain ⟨i, j, hi, hj, _, rfl⟩ := side_mem hs
  obtain ⟨⟨e0, e1⟩, ⟨e2, e3⟩, h0, h1⟩ := bd_sub (hb _ (List.getElem_mem hi)) (hb _ (List.getElem_mem hj))
  simp only [dir4, e0, e1, e2, e3, List.mem_cons, List.not_mem_nil, or_false] at hd
  unfold Dir
  rcases hd with rfl | rfl | rfl | rfl <;> refine ⟨⟨?_, ?_⟩, ?_, ?_⟩ <;> dsimp only <;> omega
theorem dir_mem {h : List S23} (hb : BdL h) {u v : Int} (hd : Geo.DirOf S23.f0 S23.f1 h u v) : (⟨u, v, 0⟩ : S75) ∈ dirs h := by
  obtain ⟨i, j, hi, hj, hn, hd⟩ := hd
  obtain ⟨⟨e0, e1⟩, ⟨e2, e3⟩, h0, h1⟩ := bd_sub (hb _ (List.getElem_mem hi)) (hb _ (List.getElem_mem hj))
  refine List.mem_flatMap.2 ⟨_, mem_side hi hj hn, ?_⟩
  simp only [dir4, e0, e1, e2, e3, List.mem_cons, List.not_mem_nil, or_false]
  rcases hd with ⟨rfl, rfl⟩ | ⟨rfl, rfl⟩ | ⟨rfl, rfl⟩ | ⟨rfl, rfl⟩ <;> simp
theorem rd0_mem {l : List S23} (h : 0 < l.length) : rd_T23 l 0 = l[0] := by
  cases l with
  | nil => simp at h
  | cons a r => rfl
theorem partL_dir {a b : List S23} (na : 0 < a.length) (nb : 0 < b.length) (ha : BdL a) (hb : BdL b) {d : S75} (hd : d ∈ partL a b) : Dir d.f0 d.f1 := by
  unfold partL at hd
  rcases List.mem_cons.1 hd with rfl | hd
  · obtain ⟨⟨e0, e1⟩, ⟨e2, e3⟩, h0, h1⟩ := bd_sub (ha _ (List.getElem_mem na)) (hb _ (List.getElem_mem nb))
    unfold dir0 Dir
    rw [rd0_mem na, rd0_mem nb, e0, e1]
    exact ⟨h0, h1⟩
  · rcases List.mem_append.1 hd with hd | hd
    · exact dirs_dir ha hd
    · exact dirs_dir hb hd
abbrev IsHu (s h : List S23) : Prop := Geo.IsH S23.f0 S23.f1 s h
theorem tryA_some {a b : List S23} {d x : S75} : tryA a b d = some x ↔ hiW d.f0 d.f1 a < loW d.f0 d.f1 b ∧ x = ⟨d.f0, d.f1, hiW d.f0 d.f1 a⟩ := by
  unfold tryA
  split
  · rename_i c; simp [c, eq_comm]
  · rename_i c; simp [c]
theorem part_some {a b : List S23} (HA : IsHu a a) (HB : IsHu b b) (ha : BdL a) (hb : BdL b) (h : SepE a b) : ∃ x, tryO a b (partL a b) = some x := by
  obtain ⟨u, v, h⟩ := h
  obtain ⟨u, v, h, hd⟩ := Geo.sat inj23 HA HB h
  have hm : (⟨u, v, 0⟩ : S75) ∈ partL a b := by
    unfold partL
    rcases hd with hd | hd | ⟨rfl, rfl⟩
    · exact List.mem_cons_of_mem _ (List.mem_append_left _ (dir_mem ha hd))
    · exact List.mem_cons_of_mem _ (List.mem_append_right _ (dir_mem hb hd))
    · obtain ⟨⟨e0, e1⟩, _⟩ := bd_sub (ha _ (List.getElem_mem HA.ne)) (hb _ (List.getElem_mem HB.ne))
      have : dir0 a b = ⟨S23.f0 (b[0]'HB.ne) - S23.f0 (a[0]'HA.ne), S23.f1 (b[0]'HB.ne) - S23.f1 (a[0]'HA.ne), 0⟩ := by
        unfold dir0
        rw [rd0_mem HA.ne, rd0_mem HB.ne, e0, e1]
      rw [this]; exact List.mem_cons_self ..
  have hk := (span_sep (partL_dir HA.ne HB.ne ha hb hm) ha hb HA.ne HB.ne).2 h
  cases e : tryO a b (partL a b) with
  | some x => exact ⟨x, rfl⟩
  | none =>
    have := List.findSome?_eq_none_iff.1 e _ hm
    unfold tryA at this
    rw [if_pos hk] at this
    simp at this
theorem part_sound {a b : List S23} (na : 0 < a.length) (nb : 0 < b.length) (ha : BdL a) (hb : BdL b) {x : S75} (h : tryO a b (partL a b) = some x) : Dir x.f0 x.f1 ∧ hiW x.f0 x.f1 a = x.f2 ∧ x.f2 < loW x.f0 x.f1 b ∧ SepD x.f0 x.f1 a b := by
  obtain ⟨d, hd, hx⟩ := List.exists_of_findSome?_eq_some h
  obtain ⟨h1, rfl⟩ := tryA_some.1 hx
  have hdir := partL_dir na nb ha hb hd
  exact ⟨hdir, rfl, h1, (span_sep hdir ha hb na nb).1 h1⟩
def apartV (a b : List S23) : Bool := (tryO a b (partL a b)).isSome
theorem apartV_iff {a b : List S23} (HA : IsHu a a) (HB : IsHu b b) (ha : BdL a) (hb : BdL b) : apartV a b = true ↔ SepE a b := by
  unfold apartV
  constructor
  · intro h
    obtain ⟨x, hx⟩ := Option.isSome_iff_exists.1 h
    exact ⟨_, _, (part_sound HA.ne HB.ne ha hb hx).2.2.2⟩
  · intro h
    obtain ⟨x, hx⟩ := part_some HA HB ha hb h
    rw [hx]; rfl
theorem lineR_ok (o : Option S75) : (lineR o).2.2.2 = o.isSome := by cases o <;> rfl
theorem apart_eq {a b : List S23} (na : 0 < a.length) (nb : 0 < b.length) : plane_apart.f a b = some (apartV a b) := by
  unfold plane_apart.f plane_part.f
  rw [if_pos ⟨na, nb⟩, Option.bind_some, lineR_ok]; rfl
theorem SepE.symm {a b : List S23} (h : SepE a b) : SepE b a := by
  obtain ⟨u, v, h⟩ := h
  refine ⟨-u, -v, fun q hq p hp => ?_⟩
  have := h p hp q hq
  simp only [dP_dt, dP] at *
  rw [Int.neg_mul, Int.neg_mul, Int.neg_mul, Int.neg_mul]; omega
theorem isHu_self {s h : List S23} (H : IsHu s h) : IsHu h h :=
  ⟨H.ne, fun _ hx => hx, fun u v w hw => ⟨w, hw, Int.le_refl _⟩, fun i j hi hj hn w hw => H.left i j hi hj hn w (H.sub w hw), H.turn, H.nodup, fun w hw => H.first w (H.sub w hw)⟩
theorem hull_isH {l : List S23} (h : l ≠ []) : IsHu l (hull l) := by
  have H := Geo.hullOf_ok (X := S23.f0) (Y := S23.f1) (Geo.sd_ne (X := S23.f0) (Y := S23.f1) h) (Geo.sd_sorted inj23 l)
  have e : ∀ z, z ∈ Geo.sd S23.f0 S23.f1 l ↔ z ∈ l := fun z => Geo.sd_mem
  exact ⟨H.ne, fun x hx => (e x).1 (H.sub x hx), fun u v w hw => H.sup u v w ((e w).2 hw), fun i j hi hj hn w hw => H.left i j hi hj hn w ((e w).2 hw), H.turn, H.nodup, fun w hw => H.first w ((e w).2 hw)⟩
theorem hull_hull {l : List S23} (h : l ≠ []) : hull (hull l) = hull l := by
  have H := hull_isH h
  exact Geo.hullOf_same inj23 (Geo.sd_ne h) (Geo.sd_sorted inj23 l) (Geo.sd_sorted inj23 _) (fun x hx => Geo.sd_mem.2 hx) (fun x hx => Geo.sd_mem.2 (H.sub x (Geo.sd_mem.1 hx)))
theorem sep_hull {s h b : List S23} (H : IsHu s h) {u v : Int} : SepD u v h b ↔ SepD u v s b := by
  constructor
  · intro k w hw q hq
    obtain ⟨x, hx, hle⟩ := H.sup u v w hw
    exact Int.lt_of_le_of_lt hle (k x hx q hq)
  · intro k w hw q hq
    exact k w (H.sub w hw) q hq
theorem sepE_hull {s h b : List S23} (H : IsHu s h) : SepE h b ↔ SepE s b :=
  ⟨fun ⟨u, v, k⟩ => ⟨u, v, (sep_hull H).1 k⟩, fun ⟨u, v, k⟩ => ⟨u, v, (sep_hull H).2 k⟩⟩
theorem isHullV_isH {l : List S23} (h : isHullV l = true) : IsHu l l := by
  obtain ⟨⟨h0, _, _⟩, e⟩ := isHullV_iff.1 h
  have := hull_isH (l := l) (by intro e'; simp [e'] at h0)
  rwa [e] at this
theorem isHullV_ok {l : List S23} (h : isHullV l = true) : okP l = true := (isHullV_iff.1 h).1.2.2
theorem isHullV_bd {l : List S23} (h : isHullV l = true) : BdL l := bnd_iff.1 (bnd_ok (isHullV_ok h))
theorem hull_isHullV {l : List S23} (h0 : 0 < l.length) (h1 : l.length ≤ 128) (h2 : okP l = true) : isHullV (hull l) = true := by
  have hne : l ≠ [] := by intro e; simp [e] at h0
  have H := hull_isH hne
  refine isHullV_iff.2 ⟨⟨H.ne, by have := hull_length l; omega, okP_mem.2 fun p hp => okP_mem.1 h2 p (H.sub p hp)⟩, hull_hull hne⟩
theorem errHs_one {l : List S23} (h : isHullV l = true) : errHs [l] = 0 := by
  unfold errHs
  have := (isHullV_iff.1 h).1
  rw [if_neg (by rw [errLs_zero.2 this.2]; simp)]
  simp [h]
theorem errHs_two {l m : List S23} (h : isHullV l = true) (k : isHullV m = true) : errHs [l, m] = 0 := by
  unfold errHs
  have h1 := (isHullV_iff.1 h).1
  have k1 := (isHullV_iff.1 k).1
  have e : errLs [l, m] = 0 := by
    unfold errLs
    rw [if_neg (by simp; omega), if_pos (by simp [h1.2.2, k1.2.2])]
  rw [if_neg (by rw [e]; simp)]
  simp [h, k]
theorem checkHs_one {l : List S23} (h : isHullV l = true) : plane_checkHulls.f [l] = some 0 := by
  unfold plane_checkHulls.f; rw [if_pos (by simp), errHs_one h]
theorem checkHs_two {l m : List S23} (h : isHullV l = true) (k : isHullV m = true) : plane_checkHulls.f [l, m] = some 0 := by
  unfold plane_checkHulls.f; rw [if_pos (by simp), errHs_two h k]
end Go.Proofs.Ytegdcnjjelgpjaa.P
namespace Go.Proofs.Ytegdcnjjelgpjaa.P
open Go.RowKit Go.Proofs.YtegdcnjjelgpjaaW.PrintWords Go.Proofs.YtegdcnjjelgpjaaW.PrintLast Go.Proofs.YtegdcnjjelgpjaaW.PrintMore
set_option linter.unusedVariables false
set_option linter.unusedSimpArgs false
def reach (u v : Int) : Int := (u.natAbs : Int) + (v.natAbs : Int)
theorem reach_neg (u v : Int) : reach (-u) (-v) = reach u v := by unfold reach; omega
theorem abs_mul_le {u t x : Int} (h0 : 0 ≤ t) (h : -t ≤ x ∧ x ≤ t) : -(t * (u.natAbs : Int)) ≤ u * x ∧ u * x ≤ t * (u.natAbs : Int) := by
  rcases Int.le_total 0 u with g | g
  · have e : (u.natAbs : Int) = u := by omega
    rw [e]
    have h1 : 0 ≤ u * (t - x) := Int.mul_nonneg g (by omega)
    have h2 : 0 ≤ u * (t + x) := Int.mul_nonneg g (by omega)
    rw [Int.mul_sub] at h1; rw [Int.mul_add] at h2
    rw [Int.mul_comm t u]; omega
  · have e : (u.natAbs : Int) = -u := by omega
    rw [e]
    have h1 : 0 ≤ (-u) * (t - x) := Int.mul_nonneg (by omega) (by omega)
    have h2 : 0 ≤ (-u) * (t + x) := Int.mul_nonneg (by omega) (by omega)
    rw [Int.mul_sub, Int.neg_mul, Int.neg_mul] at h1; rw [Int.mul_add, Int.neg_mul, Int.neg_mul] at h2
    rw [Int.mul_neg, Int.mul_comm t u]; omega
def Within (B : Int) (l : List S23) : Prop := ∀ p ∈ l, (-B ≤ p.f0 ∧ p.f0 ≤ B) ∧ (-B ≤ p.f1 ∧ p.f1 ≤ B)
theorem grow_mem {l : List S23} {t : Int} (hl : Within 16777216 l) (h0 : 0 ≤ t) (h1 : t ≤ 33554432) {q : S23} :
    q ∈ growL l t ↔ ∃ p ∈ l, q = ⟨p.f0 - t, p.f1 - t⟩ ∨ q = ⟨p.f0 - t, p.f1 + t⟩ ∨ q = ⟨p.f0 + t, p.f1 - t⟩ ∨ q = ⟨p.f0 + t, p.f1 + t⟩ := by
  unfold growL
  rw [List.mem_flatMap]
  constructor
  · rintro ⟨p, hp, hq⟩
    refine ⟨p, hp, ?_⟩
    have := hl p hp
    unfold four at hq
    rw [ww (x := -t) (by omega) (by omega), ww (x := p.f0 + -t) (by omega) (by omega), ww (x := p.f1 + -t) (by omega) (by omega), ww (x := p.f0 + t) (by omega) (by omega), ww (x := p.f1 + t) (by omega) (by omega)] at hq
    simpa only [List.mem_cons, List.not_mem_nil, or_false, ← Int.sub_eq_add_neg] using hq
  · rintro ⟨p, hp, hq⟩
    refine ⟨p, hp, ?_⟩
    have := hl p hp
    unfold four
    rw [ww (x := -t) (by omega) (by omega), ww (x := p.f0 + -t) (by omega) (by omega), ww (x := p.f1 + -t) (by omega) (by omega), ww (x := p.f0 + t) (by omega) (by omega), ww (x := p.f1 + t) (by omega) (by omega)]
    simpa only [List.mem_cons, List.not_mem_nil, or_false, ← Int.sub_eq_add_neg] using hq
theorem grow_bd {l : List S23} {t : Int} (hl : Within 16777216 l) (h0 : 0 ≤ t) (h1 : t ≤ 33554432) : Within (16777216 + t) (growL l t) := by
  intro q hq
  obtain ⟨p, hp, h⟩ := (grow_mem hl h0 h1).1 hq
  have := hl p hp
  rcases h with rfl | rfl | rfl | rfl <;> dsimp only <;> omega
theorem grow_sep {l b : List S23} {t : Int} (hl : Within 16777216 l) (h0 : 0 ≤ t) (h1 : t ≤ 33554432) {u v : Int} :
    SepD u v (growL l t) b ↔ ∀ p ∈ l, ∀ q ∈ b, dP u v p + t * reach u v < dP u v q := by
  constructor
  · intro h p hp q hq
    have key : ∃ s ∈ growL l t, dP u v s = dP u v p + t * reach u v := by
      unfold reach dP
      rcases Int.le_total 0 u with gu | gu <;> rcases Int.le_total 0 v with gv | gv
      · refine ⟨⟨p.f0 + t, p.f1 + t⟩, (grow_mem hl h0 h1).2 ⟨p, hp, by simp⟩, ?_⟩
        rw [show (u.natAbs : Int) = u by omega, show (v.natAbs : Int) = v by omega]; grind
      · refine ⟨⟨p.f0 + t, p.f1 - t⟩, (grow_mem hl h0 h1).2 ⟨p, hp, by simp⟩, ?_⟩
        rw [show (u.natAbs : Int) = u by omega, show (v.natAbs : Int) = -v by omega]; grind
      · refine ⟨⟨p.f0 - t, p.f1 + t⟩, (grow_mem hl h0 h1).2 ⟨p, hp, by simp⟩, ?_⟩
        rw [show (u.natAbs : Int) = -u by omega, show (v.natAbs : Int) = v by omega]; grind
      · refine ⟨⟨p.f0 - t, p.f1 - t⟩, (grow_mem hl h0 h1).2 ⟨p, hp, by simp⟩, ?_⟩
        rw [show (u.natAbs : Int) = -u by omega, show (v.natAbs : Int) = -v by omega]; grind
    obtain ⟨s, hs, e⟩ := key
    have := h s hs q hq
    rw [dP_dt, dP_dt, e] at this; exact this
  · intro h s hs q hq
    obtain ⟨p, hp, hc⟩ := (grow_mem hl h0 h1).1 hs
    have k := h p hp q hq
    rw [dP_dt, dP_dt]
    have : dP u v s ≤ dP u v p + t * reach u v := by
      unfold reach
      have a1 := abs_mul_le (u := u) (t := t) (x := s.f0 - p.f0) h0 (by rcases hc with rfl | rfl | rfl | rfl <;> dsimp only <;> omega)
      have a2 := abs_mul_le (u := v) (t := t) (x := s.f1 - p.f1) h0 (by rcases hc with rfl | rfl | rfl | rfl <;> dsimp only <;> omega)
      unfold dP
      rw [Int.mul_sub] at a1 a2
      rw [Int.mul_add]; omega
    omega
theorem reach_nn (u v : Int) : 0 ≤ reach u v := by unfold reach; omega
theorem grow_mono {l b : List S23} {s t : Int} (hl : Within 16777216 l) (h0 : 0 ≤ s) (hst : s ≤ t) (h1 : t ≤ 33554432) (h : SepE (growL l t) b) : SepE (growL l s) b := by
  obtain ⟨u, v, h⟩ := h
  refine ⟨u, v, (grow_sep hl h0 (by omega)).2 fun p hp q hq => ?_⟩
  have := (grow_sep hl (by omega) h1).1 h p hp q hq
  have := Int.mul_le_mul_of_nonneg_right hst (reach_nn u v)
  omega
theorem grow_symm {a b : List S23} {t : Int} (ha : Within 16777216 a) (hb : Within 16777216 b) (h0 : 0 ≤ t) (h1 : t ≤ 33554432) (h : SepE (growL a t) b) : SepE (growL b t) a := by
  obtain ⟨u, v, h⟩ := h
  refine ⟨-u, -v, (grow_sep hb h0 h1).2 fun p hp q hq => ?_⟩
  have := (grow_sep ha h0 h1).1 h q hq p hp
  rw [reach_neg]
  unfold dP at *
  rw [Int.neg_mul, Int.neg_mul, Int.neg_mul, Int.neg_mul]; omega
theorem grow_zero {a b : List S23} (ha : Within 16777216 a) : SepE (growL a 0) b ↔ SepE a b := by
  constructor
  · rintro ⟨u, v, h⟩
    refine ⟨u, v, fun p hp q hq => ?_⟩
    have := (grow_sep ha (by omega) (by omega)).1 h p hp q hq
    rw [dP_dt, dP_dt]; omega
  · rintro ⟨u, v, h⟩
    refine ⟨u, v, (grow_sep ha (by omega) (by omega)).2 fun p hp q hq => ?_⟩
    have := h p hp q hq
    rw [dP_dt, dP_dt] at this; omega
theorem okP_within {l : List S23} (h : okP l = true) : Within 16777216 l := okP_mem.1 h
theorem grown_eq {l : List S23} {t : Int} (hne : 0 < l.length) (hlen : l.length ≤ 256) (hl : Within 16777216 l) (h0 : 0 ≤ t) (h1 : t ≤ 33554432) :
    plane_grown.f l t = some (hull (growL l t)) ∧ IsHu (growL l t) (hull (growL l t)) ∧ BdL (hull (growL l t)) := by
  have hg := grow_bd hl h0 h1
  have hlen' := growL_len l t
  have hb : BdL (growL l t) := fun q hq => by have := hg q hq; unfold Bd; omega
  have H := hull_isH (l := growL l t) (by intro e; rw [e] at hlen'; simp at hlen'; omega)
  exact ⟨corners_some (by omega) (by omega) (bnd_iff.2 hb), H, fun q hq => hb q (H.sub q hq)⟩
theorem apart_grown {a b : List S23} {t : Int} (ha : isHullV a = true) (hb : isHullV b = true) (h0 : 0 ≤ t) (h1 : t ≤ 33554432) :
    ∃ z, plane_grown.f a t = some z ∧ ∃ c, plane_apart.f z b = some c ∧ (c = true ↔ SepE (growL a t) b) := by
  have h := (isHullV_iff.1 ha).1
  obtain ⟨e, H, hz⟩ := grown_eq h.1 h.2.1 (okP_within h.2.2) h0 h1
  refine ⟨_, e, _, apart_eq H.ne (isHullV_isH hb).ne, ?_⟩
  rw [apartV_iff (isHu_self H) (isHullV_isH hb) hz (isHullV_bd hb), sepE_hull H]
def IsGap (a b : List S23) (g : Int) : Prop := (0 ≤ g ∧ g ≤ 33554432) ∧ (∀ t, 0 ≤ t → t < g → SepE (growL a t) b) ∧ (g < 33554432 → ¬ SepE (growL a g) b)
theorem Gap_loop {a b : List S23} (ha : isHullV a = true) (hb : isHullV b = true) (d : Nat) : ∀ (lo hi : Int), (hi - lo).toNat ≤ d → 0 ≤ lo → lo ≤ hi → hi ≤ 33554432 →
    (∀ t, 0 ≤ t → t < lo → SepE (growL a t) b) → (hi < 33554432 → ¬ SepE (growL a hi) b) → ∃ g, IsGap a b g ∧ Ev (fun k => plane_Gap.l0 k a b lo hi) (g, 0) := by
  induction d with
  | zero =>
    intro lo hi hd h0 h1 h2 hs hn
    obtain rfl : lo = hi := by omega
    exact ⟨lo, ⟨⟨h0, h2⟩, hs, hn⟩, Ev.step (f := fun _ => some (lo, 0)) (fun k => by simp only [plane_Gap.l0]; rw [if_neg (by omega)]) (Ev.now _)⟩
  | succ d ih =>
    intro lo hi hd h0 h1 h2 hs hn
    by_cases hlt : lo < hi
    · have em : wrap64 (Int.tdiv (wrap64 (lo + hi)) 2) = (lo + hi) / 2 := by
        rw [ww (x := lo + hi) (by omega) (by omega), Int.tdiv_eq_ediv_of_nonneg (by omega), ww (by omega) (by omega)]
      obtain ⟨m, hm⟩ : ∃ m, (lo + hi) / 2 = m := ⟨_, rfl⟩
      rw [hm] at em
      have hml : lo ≤ m := by omega
      have hmh : m < hi := by omega
      obtain ⟨z, hz, c, hc, hcs⟩ := apart_grown ha hb (t := m) (by omega) (by omega)
      have hw := okP_within (isHullV_ok ha)
      cases c with
      | true =>
        have hsep := hcs.1 rfl
        obtain ⟨g, hg, hev⟩ := ih (m + 1) hi (by omega) (by omega) (by omega) h2 (fun t ht0 ht1 => grow_mono hw ht0 (by omega) (by omega) hsep) hn
        refine ⟨g, hg, Ev.step (f := fun k => plane_Gap.l0 k a b (m + 1) hi) (fun k => ?_) hev⟩
        simp only [plane_Gap.l0]
        rw [if_pos hlt, em, hz, Option.bind_some, hc, Option.bind_some, if_pos rfl, ww (x := m + 1) (by omega) (by omega)]
      | false =>
        have hsep : ¬ SepE (growL a m) b := fun h => by simpa using hcs.2 h
        obtain ⟨g, hg, hev⟩ := ih lo m (by omega) h0 hml (by omega) hs (fun _ => hsep)
        refine ⟨g, hg, Ev.step (f := fun k => plane_Gap.l0 k a b lo m) (fun k => ?_) hev⟩
        simp only [plane_Gap.l0]
        rw [if_pos hlt, em, hz, Option.bind_some, hc, Option.bind_some, if_neg (by simp)]
    · obtain rfl : lo = hi := by omega
      exact ⟨lo, ⟨⟨h0, h2⟩, hs, hn⟩, Ev.step (f := fun _ => some (lo, 0)) (fun k => by simp only [plane_Gap.l0]; rw [if_neg (by omega)]) (Ev.now _)⟩
theorem Gap_ev {a b : List S23} (ha : isHullV a = true) (hb : isHullV b = true) : ∃ g, IsGap a b g ∧ Ev (fun k => plane_Gap.f k a b) (g, 0) := by
  obtain ⟨g, hg, hev⟩ := Gap_loop ha hb 33554432 0 33554432 (by omega) (by omega) (by omega) (by omega) (fun t h0 h1 => by omega) (fun h => by omega)
  refine ⟨g, hg, Ev.congr (fun k => ?_) hev⟩
  unfold plane_Gap.f
  rw [checkHs_two ha hb, Option.bind_some, if_pos rfl]
theorem gap_least {a b : List S23} {g h : Int} (hg : IsGap a b g) (hh : (0 ≤ h ∧ h ≤ 33554432) ∧ (h < 33554432 → ¬ SepE (growL a h) b)) : g ≤ h := by
  rcases Int.lt_or_le h g with k | k
  · exact absurd (hg.2.1 h hh.1.1 k) (hh.2 (by have := hg.1.2; omega))
  · exact k
theorem gap_symm {a b : List S23} (ha : isHullV a = true) (hb : isHullV b = true) {g h : Int} (hg : IsGap a b g) (hh : IsGap b a h) : g = h := by
  have wa := okP_within (isHullV_ok ha)
  have wb := okP_within (isHullV_ok hb)
  have h1 := gap_least hg ⟨hh.1, fun k s => hh.2.2 k (grow_symm wa wb hh.1.1 hh.1.2 s)⟩
  have h2 := gap_least hh ⟨hg.1, fun k s => hg.2.2 k (grow_symm wb wa hg.1.1 hg.1.2 s)⟩
  omega
theorem gap_zero {a b : List S23} (ha : isHullV a = true) {g : Int} (hg : IsGap a b g) : g = 0 ↔ ¬ SepE a b := by
  have wa := okP_within (isHullV_ok ha)
  constructor
  · rintro rfl h
    exact hg.2.2 (by omega) ((grow_zero wa).2 h)
  · intro h
    have := gap_least hg (h := 0) ⟨by omega, fun _ k => h ((grow_zero wa).1 k)⟩
    have := hg.1.1
    omega
end Go.Proofs.Ytegdcnjjelgpjaa.P
namespace Go.Proofs.Ytegdcnjjelgpjaa.P
open Go.RowKit Go.Proofs.YtegdcnjjelgpjaaW.PrintWords Go.Proofs.YtegdcnjjelgpjaaW.PrintLast Go.Proofs.YtegdcnjjelgpjaaW.PrintMore
theorem rd32_nat (l : List S32) (i : Nat) (h : i < l.length) : rd_T32 l (i : Int) = l[i] := by
  simp only [rd_T32, Int.toNat_natCast, List.getD_eq_getElem?_getD, List.getElem?_eq_getElem h, Option.getD_some]
theorem i8_range {a : Int} (h : (Lit.int .i8 a).wf = true) : -128 ≤ a ∧ a ≤ 127 := wf_i8 h
def fewL (l : List S32) (n : Nat) : List S23 := (l.take n).map fun s => ⟨s.f0, s.f1⟩
theorem few_loop (l : List S32) (n : Nat) (hn : n ≤ 1000000) (hwf : ∀ x ∈ l, wfS32 x) (d : Nat) : ∀ (i : Nat), n - i = d → i ≤ n → i ≤ l.length →
    Ev (fun k => goosenecklaw01_few.l0 k l (n : Int) (fewL l i) (i : Int)) (fewL l n) := by
  induction d with
  | zero =>
    intro i hd hi _
    have he : i = n := by omega
    subst he
    refine Ev.step (f := fun _ => some (fewL l i)) (fun k => ?_) (Ev.now _)
    simp only [goosenecklaw01_few.l0]
    by_cases h : (i : Int) < (l.length : Int)
    · rw [if_pos h, if_neg (by omega)]
    · rw [if_neg h]
  | succ d ih =>
    intro i hd hi hil
    by_cases h : i < l.length
    · refine Ev.step (fun k => ?_) (ih (i + 1) (by omega) (by omega) (by omega))
      simp only [goosenecklaw01_few.l0]
      have hw := hwf _ (List.getElem_mem h)
      have r0 := i8_range hw.1
      have r1 := i8_range hw.2
      have hlen : (fewL l i).length = i := by simp [fewL]; omega
      have hnx : fewL l (i + 1) = fewL l i ++ [⟨l[i].f0, l[i].f1⟩] := by
        simp only [fewL]; rw [List.take_add_one, List.map_append, List.getElem?_eq_getElem h]; rfl
      rw [if_pos (by omega), if_pos (by omega), if_pos (by omega), if_pos (by omega), rd32_nat l i h, w64 (x := l[i].f0) (by omega) (by omega), w64 (x := l[i].f1) (by omega) (by omega), w64 (x := (i : Int) + 1) (by omega) (by omega), hnx]
      rfl
    · refine Ev.step (f := fun _ => some (fewL l n)) (fun k => ?_) (Ev.now _)
      simp only [goosenecklaw01_few.l0]
      have : fewL l n = fewL l i := by simp only [fewL]; rw [List.take_of_length_le (by omega), List.take_of_length_le (by omega)]
      rw [if_neg (by omega), this]
theorem few_ev (l : List S32) (n : Nat) (hn : n ≤ 1000000) (hwf : ∀ x ∈ l, wfS32 x) : Ev (fun k => goosenecklaw01_few.f k l (n : Int)) (fewL l n) := by
  have := few_loop l n hn hwf n 0 (by omega) (by omega) (by omega)
  simpa [goosenecklaw01_few.f, fewL] using this
theorem few_small (l : List S32) (n : Nat) (hwf : ∀ x ∈ l, wfS32 x) : (fewL l n).length ≤ n ∧ ∀ p ∈ fewL l n, (-128 ≤ p.f0 ∧ p.f0 ≤ 127) ∧ (-128 ≤ p.f1 ∧ p.f1 ≤ 127) := by
  refine ⟨by simp [fewL]; omega, fun p hp => ?_⟩
  simp only [fewL, List.mem_map] at hp
  obtain ⟨s, hs, rfl⟩ := hp
  have hw := hwf s (List.mem_of_mem_take hs)
  exact ⟨i8_range hw.1, i8_range hw.2⟩
end Go.Proofs.Ytegdcnjjelgpjaa.P
namespace Go.Proofs.Ytegdcnjjelgpjaa.P
open Go.RowKit Go.Proofs.YtegdcnjjelgpjaaW.PrintWords Go.Proofs.YtegdcnjjelgpjaaW.PrintLast Go.Proofs.YtegdcnjjelgpjaaW.PrintMore
set_option linter.unusedVariables false
set_option linter.unusedSimpArgs false
theorem _root_.Go.Proofs.YtegdcnjjelgpjaaW.PrintWords.Ev.succ {α : Type} {g : Nat → Option α} {r : α} (h : Ev (fun k => g (k + 1)) r) : Ev g r := Ev.step (f := fun k => g (k + 1)) (fun _ => rfl) h
theorem Hull_ev {p : List S23} (hl : p.length ≤ 256) (hok : okP p = true) : Ev (fun k => plane_Hull.f k p) (if p = [] then ([], 5) else (hull p, 0)) := by
  unfold plane_Hull.f
  refine Ev.bind (checkPoints_ev [p] (by simp)) ?_
  rw [errLs_zero.2 ⟨hl, hok⟩, if_pos rfl]
  by_cases h : p = []
  · subst h; exact Ev.now _
  · have := List.length_pos_iff.2 h
    rw [if_neg (by omega), if_neg h, corners_some this (by omega) (bnd_ok hok), Option.bind_some]
    exact Ev.now _
def hullF (l : List S32) : List S23 × Int := if l = [] then ([], 5) else (hull (fewL l 8), 0)
theorem hullF_ne {l : List S32} (h : l ≠ []) : hullF l = (hull (fewL l 8), 0) := if_neg h
theorem fewL_nil {l : List S32} : fewL l 8 = [] ↔ l = [] := by
  unfold fewL
  cases l with
  | nil => simp
  | cons a r => simp
theorem few_okP {l : List S32} (h : ∀ x ∈ l, wfS32 x) : okP (fewL l 8) = true := okP_mem.2 fun p hp => by have := (few_small l 8 h).2 p hp; omega
theorem Hull_few (l : List S32) (h : ∀ x ∈ l, wfS32 x) : Ev (fun k => plane_Hull.f k (fewL l 8)) (hullF l) := by
  have := Hull_ev (p := fewL l 8) (by have := (few_small l 8 h).1; omega) (few_okP h)
  unfold hullF
  by_cases e : l = []
  · rw [if_pos (fewL_nil.2 e)] at this; rw [if_pos e]; exact this
  · rw [if_neg (fun h => e (fewL_nil.1 h))] at this; rw [if_neg e]; exact this
theorem few_hull {l : List S32} (e : l ≠ []) (h : ∀ x ∈ l, wfS32 x) : isHullV (hull (fewL l 8)) = true :=
  hull_isHullV (List.length_pos_iff.2 fun k => e (fewL_nil.1 k)) (by have := (few_small l 8 h).1; omega) (few_okP h)
theorem Meet_eq {a b : List S23} (ha : isHullV a = true) (hb : isHullV b = true) : plane_Meet.f a b = some (!apartV a b, 0) := by
  unfold plane_Meet.f
  rw [checkHs_two ha hb, Option.bind_some, if_pos rfl, apart_eq (isHullV_isH ha).ne (isHullV_isH hb).ne, Option.bind_some]
def lineE : Option S75 → Int × Int × Int × Int
  | some x => (x.f0, x.f1, x.f2, 0)
  | none => (0, 0, 0, 5)
theorem Part_eq {a b : List S23} (ha : isHullV a = true) (hb : isHullV b = true) : plane_Part.f a b = some (lineE (tryO a b (partL a b))) := by
  unfold plane_Part.f plane_part.f
  rw [checkHs_two ha hb, Option.bind_some, if_pos rfl, if_pos ⟨(isHullV_isH ha).ne, (isHullV_isH hb).ne⟩, Option.bind_some]
  cases tryO a b (partL a b) with
  | none => rfl
  | some x => rfl
theorem one_hull {x y : Int} (h : isP x y = true) : IsHu [⟨x, y⟩] [⟨x, y⟩] ∧ BdL [⟨x, y⟩] := by
  refine ⟨Geo.hullOf_one, fun p hp => ?_⟩
  have := isP_iff.1 h
  simp at hp; subst hp
  unfold Bd; dsimp only; omega
theorem Inside_iff {a : List S23} (ha : isHullV a = true) {x y : Int} (h : isP x y = true) : apartV a [⟨x, y⟩] = true ↔ SepE a [⟨x, y⟩] :=
  apartV_iff (isHullV_isH ha) (one_hull h).1 (isHullV_bd ha) (one_hull h).2
theorem Inside_ev {a : List S23} (ha : isHullV a = true) {x y : Int} (h : isP x y = true) : Ev (fun k => plane_Inside.f k a x y) (!apartV a [⟨x, y⟩], 0) := by
  unfold plane_Inside.f
  rw [checkHs_one ha]
  simp only [Option.bind_some, if_true]
  refine Ev.bind (valid1 x y) ?_
  rw [h, if_pos rfl, apart_eq (isHullV_isH ha).ne (by simp), Option.bind_some]
  exact Ev.now _
theorem sep_third {a b : List S23} {q : S23} (h : SepE a b) (h1 : ¬ SepE a [q]) (h2 : ¬ SepE b [q]) : False := by
  obtain ⟨u, v, h⟩ := h
  have k1 : ∃ p ∈ a, dP u v q ≤ dP u v p := by
    refine Classical.byContradiction fun hn => h1 ⟨u, v, fun p hp r hr => ?_⟩
    simp at hr; subst hr
    rw [dP_dt, dP_dt]
    exact Int.lt_of_not_ge fun h => hn ⟨p, hp, h⟩
  have k2 : ∃ p ∈ b, dP u v p ≤ dP u v q := by
    refine Classical.byContradiction fun hn => h2 ⟨-u, -v, fun p hp r hr => ?_⟩
    simp at hr; subst hr
    rw [dP_dt, dP_dt]
    refine Int.lt_of_not_ge fun h => hn ⟨p, hp, ?_⟩
    unfold dP at *
    rw [Int.neg_mul, Int.neg_mul, Int.neg_mul, Int.neg_mul] at h; omega
  obtain ⟨p, hp, hl⟩ := k1
  obtain ⟨r, hr, hm⟩ := k2
  have := h p hp r hr
  rw [dP_dt, dP_dt] at this; omega
theorem CheckPart_val {a b : List S23} (ha : isHullV a = true) (hb : isHullV b = true) (x y z : Int) :
    Ev (fun k => plane_CheckPart.f k a b x y z) (if (inR x (-67108864) 67108864 = true ∧ inR y (-67108864) 67108864 = true ∧ inR z (-4503599627370496) 4503599627370496 = true) then (if hiW x y a ≤ z ∧ z < loW x y b then 0 else 16) else 3) := by
  unfold plane_CheckPart.f
  simp only [checkHs_two ha hb, Option.bind_some, if_true, within_eq]
  cases h1 : inR x (-67108864) 67108864 with
  | false =>
    simp only [Bool.false_eq_true, if_false, false_and]
    refine Ev.succ ?_
    simp only [plane_CheckPart.j0, if_true]
    exact Ev.now _
  | true =>
    simp only [if_true, true_and]
    cases h2 : inR y (-67108864) 67108864 with
    | false =>
      simp only [Bool.false_eq_true, if_false, false_and]
      refine Ev.succ ?_
      simp only [plane_CheckPart.j0, if_true]
      exact Ev.now _
    | true =>
      simp only [if_true, true_and]
      refine Ev.succ ?_
      simp only [plane_CheckPart.j0]
      cases h3 : inR z (-4503599627370496) 4503599627370496 with
      | false => simp only [Bool.not_false, if_true, Bool.false_eq_true, if_false]; exact Ev.now _
      | true =>
        rw [if_neg (by simp), if_pos rfl]
        unfold plane_span.f
        rw [if_pos (isHullV_isH ha).ne, if_pos (isHullV_isH hb).ne]
        simp only [Option.bind_some]
        by_cases c1 : hiW x y a ≤ z
        · rw [if_neg (by omega)]
          by_cases c2 : z < loW x y b
          · rw [if_neg (by omega), if_pos ⟨c1, c2⟩]; exact Ev.now _
          · rw [if_pos (by omega), if_neg (fun h => c2 h.2)]; exact Ev.now _
        · rw [if_pos (by omega), if_neg (fun h => c1 h.1)]; exact Ev.now _
theorem CheckPart_ev {a b : List S23} (ha : isHullV a = true) (hb : isHullV b = true) (x y z : Int) :
    ∃ e, Ev (fun k => plane_CheckPart.f k a b x y z) e ∧ (e = 0 → SepE a b) := by
  refine ⟨_, CheckPart_val ha hb x y z, fun h => ?_⟩
  split at h
  · rename_i c
    split at h
    · rename_i d
      have h1 := inR_iff.1 c.1
      have h2 := inR_iff.1 c.2.1
      exact ⟨x, y, (span_sep (by unfold Dir; omega) (isHullV_bd ha) (isHullV_bd hb) (isHullV_isH ha).ne (isHullV_isH hb).ne).1 (by omega)⟩
    · simp at h
  · simp at h
theorem ok_sub {p q : S23} (hp : isP p.f0 p.f1 = true) (hq : isP q.f0 q.f1 = true) : (-33554432 ≤ q.f0 - p.f0 ∧ q.f0 - p.f0 ≤ 33554432) ∧ (-33554432 ≤ q.f1 - p.f1 ∧ q.f1 - p.f1 ≤ 33554432) := by
  have := isP_iff.1 hp; have := isP_iff.1 hq; omega
theorem isP_get {l : List S23} (h : okP l = true) {i : Nat} (hi : i < l.length) : isP l[i].f0 l[i].f1 = true := isP_iff.2 (okP_mem.1 h _ (List.getElem_mem hi))
theorem part_fine {a b : List S23} (na : 0 < a.length) (nb : 0 < b.length) (ha : okP a = true) (hb : okP b = true) {d : S75} (hd : d ∈ partL a b) : (-33554432 ≤ d.f0 ∧ d.f0 ≤ 33554432) ∧ (-33554432 ≤ d.f1 ∧ d.f1 ≤ 33554432) := by
  have side : ∀ {h : List S23}, okP h = true → d ∈ dirs h → (-33554432 ≤ d.f0 ∧ d.f0 ≤ 33554432) ∧ (-33554432 ≤ d.f1 ∧ d.f1 ≤ 33554432) := by
    intro h hok hd
    have hb := bnd_iff.1 (bnd_ok hok)
    obtain ⟨s, hs, hd⟩ := List.mem_flatMap.1 hd
    obtain ⟨i, j, hi, hj, _, rfl⟩ := side_mem hs
    obtain ⟨⟨e0, e1⟩, ⟨e2, e3⟩, _⟩ := bd_sub (hb _ (List.getElem_mem hi)) (hb _ (List.getElem_mem hj))
    obtain ⟨h0, h1⟩ := ok_sub (isP_get hok hi) (isP_get hok hj)
    simp only [dir4, e0, e1, e2, e3, List.mem_cons, List.not_mem_nil, or_false] at hd
    rcases hd with rfl | rfl | rfl | rfl <;> refine ⟨⟨?_, ?_⟩, ?_, ?_⟩ <;> dsimp only <;> omega
  unfold partL at hd
  rcases List.mem_cons.1 hd with rfl | hd
  · obtain ⟨⟨e0, e1⟩, _⟩ := bd_sub (bnd_iff.1 (bnd_ok ha) _ (List.getElem_mem na)) (bnd_iff.1 (bnd_ok hb) _ (List.getElem_mem nb))
    unfold dir0
    rw [rd0_mem na, rd0_mem nb, e0, e1]
    exact ok_sub (isP_get ha na) (isP_get hb nb)
  · rcases List.mem_append.1 hd with hd | hd
    · exact side ha hd
    · exact side hb hd
theorem CheckPart_own {a b : List S23} (ha : isHullV a = true) (hb : isHullV b = true) {x : S75} (h : tryO a b (partL a b) = some x) :
    Ev (fun k => plane_CheckPart.f k a b x.f0 x.f1 x.f2) 0 := by
  have na := (isHullV_isH ha).ne
  have nb := (isHullV_isH hb).ne
  have oa := isHullV_ok ha
  have ob := isHullV_ok hb
  have hv := CheckPart_val ha hb x.f0 x.f1 x.f2
  obtain ⟨hd, h1, h2, _⟩ := part_sound na nb (isHullV_bd ha) (isHullV_bd hb) h
  have hf : (-33554432 ≤ x.f0 ∧ x.f0 ≤ 33554432) ∧ (-33554432 ≤ x.f1 ∧ x.f1 ≤ 33554432) := by
    obtain ⟨d, hm, hx⟩ := List.exists_of_findSome?_eq_some h
    obtain ⟨_, rfl⟩ := tryA_some.1 hx
    exact part_fine (d := d) na nb oa ob hm
  obtain ⟨_, p, hp, e⟩ := hiW_max (x := x.f0) (y := x.f1) na
  rw [dotW_eq hd (isHullV_bd ha p hp)] at e
  have hpp := okP_mem.1 oa p hp
  have m1 := mulA_bd (a := x.f0) (b := p.f0) (A := 33554432) hf.1 (by omega)
  have m2 := mulA_bd (a := x.f1) (b := p.f1) (A := 33554432) hf.2 (by omega)
  have hk : -4503599627370496 ≤ x.f2 ∧ x.f2 ≤ 4503599627370496 := by rw [← h1, e]; unfold dP; omega
  rw [if_pos ⟨inR_iff.2 (by omega), inR_iff.2 (by omega), inR_iff.2 hk⟩, if_pos ⟨by omega, h2⟩] at hv
  exact hv
end Go.Proofs.Ytegdcnjjelgpjaa.P
namespace Go.Proofs.Ytegdcnjjelgpjaa.P
open Go.RowKit Go.Proofs.YtegdcnjjelgpjaaW.PrintWords Go.Proofs.YtegdcnjjelgpjaaW.PrintLast Go.Proofs.YtegdcnjjelgpjaaW.PrintMore
set_option linter.unusedVariables false
set_option linter.unusedSimpArgs false
theorem parts_law {a b : List S23} (ha : isHullV a = true) (hb : isHullV b = true) (o0 o1 o2 q0 q1 : Int) (hq : isP q0 q1 = true) (l0 l1 : List S32) :
    Ev (fun k => goosenecklaw01_PlaneParts.j0 k l0 l1 a b false o0 o1 o2 q0 q1) true := by
  have wq := isP_iff.1 hq
  obtain ⟨g, hg, eg⟩ := Gap_ev ha hb
  obtain ⟨g', hg', eg'⟩ := Gap_ev hb ha
  obtain rfl := gap_symm ha hb hg hg'
  have hz := gap_zero ha hg
  have hab := apartV_iff (isHullV_isH ha) (isHullV_isH hb) (isHullV_bd ha) (isHullV_bd hb)
  have hba := apartV_iff (isHullV_isH hb) (isHullV_isH ha) (isHullV_bd hb) (isHullV_bd ha)
  have hsym : apartV b a = apartV a b := by
    rw [Bool.eq_iff_iff, hab, hba]
    exact ⟨SepE.symm, SepE.symm⟩
  refine Ev.succ ?_
  simp only [goosenecklaw01_PlaneParts.j0, Meet_eq ha hb, Meet_eq hb ha, Part_eq ha hb, Option.bind_some, hsym]
  simp only [Bool.false_eq_true, if_false]
  refine Ev.bind eg ?_
  refine Ev.bind eg' ?_
  simp only [eq_self, if_true]
  have e2 : (wrap64 q0) = q0 := ww (by omega) (by omega)
  have e3 : (wrap64 q1) = q1 := ww (by omega) (by omega)
  obtain ⟨oth, ho, hos⟩ := CheckPart_ev ha hb o0 o1 o2
  have hthird : apartV a b = true → apartV a [⟨q0, q1⟩] = false → apartV b [⟨q0, q1⟩] = false → False := by
    intro h1 h2 h3
    have k2 := Inside_iff ha hq
    have k3 := Inside_iff hb hq
    exact sep_third (hab.1 h1) (fun h => by simpa [h2] using k2.2 h) (fun h => by simpa [h3] using k3.2 h)
  -- the rest: nothing is false
  have j2 : Ev (fun k => goosenecklaw01_PlaneParts.j2 k a b (!apartV a b) false q0 q1) true := by
    refine Ev.succ ?_
    simp only [goosenecklaw01_PlaneParts.j2, e2, e3]
    simp only [Bool.false_eq_true, if_false]
    refine Ev.bind (Inside_ev ha hq) ?_
    refine Ev.bind (Inside_ev hb hq) ?_
    simp only [eq_self, if_true]
    have hw : Ev (fun k => (goosenecklaw01_works.f k).bind fun t => some t) true := Ev.bind works_ev (Ev.now _)
    cases h1 : apartV a b with
    | false => simp only [Bool.not_false, if_true]; exact hw
    | true =>
      simp only [Bool.not_true, Bool.false_eq_true, if_false]
      cases h2 : apartV a [⟨q0, q1⟩] with
      | true => simp only [Bool.not_true, Bool.false_eq_true, if_false]; exact hw
      | false =>
        simp only [Bool.not_false, if_true]
        cases h3 : apartV b [⟨q0, q1⟩] with
        | true => simp only [Bool.not_true, Bool.false_eq_true, if_false]; exact hw
        | false => exact absurd (hthird h1 h2 h3) id
  rcases hp : tryO a b (partL a b) with _ | x
  · -- they meet
    have hna : apartV a b = false := by unfold apartV; rw [hp]; rfl
    have hg0 : g = 0 := hz.2 fun h => by have := hab.2 h; rw [hna] at this; simp at this
    rw [hna] at j2 ⊢
    simp (config := { decide := true }) only [Bool.not_false, hg0, lineE, if_true, if_false]
    refine Ev.succ ?_
    simp (config := { decide := true }) only [goosenecklaw01_PlaneParts.j1, if_true, if_false]
    refine Ev.bind ho ?_
    have : (oth == 0) = false := by
      rw [beq_eq_false_iff_ne]
      intro e
      have := hab.2 (hos e)
      rw [hna] at this; simp at this
    rw [this]
    exact j2
  · have hya : apartV a b = true := by unfold apartV; rw [hp]; rfl
    have hg0 : (g == 0) = false := by
      rw [beq_eq_false_iff_ne]
      intro e
      exact hz.1 e (hab.1 hya)
    rw [hya] at j2 ⊢
    simp (config := { decide := true }) only [Bool.not_true, hg0, lineE, if_true, if_false]
    refine Ev.succ ?_
    simp (config := { decide := true }) only [goosenecklaw01_PlaneParts.j1, if_true, if_false]
    refine Ev.bind (CheckPart_own ha hb hp) ?_
    simp (config := { decide := true }) only [if_true, if_false]
    exact j2
theorem PlaneParts_pure : PlaneParts_Pure := by
  intro l0 l1 x2 x3 h0 h1 h2 h3
  refine Ev.rounds (g := fun k => goosenecklaw01_PlaneParts.f k l0 l1 x2.f0 x2.f1 x2.f2 x3.f0 x3.f1) ?_
  unfold goosenecklaw01_PlaneParts.f
  have hq : isP x3.f0 x3.f1 = true := isP_iff.2 (by have := i8_range h3.1; have := i8_range h3.2; omega)
  refine Ev.bind (few_ev l0 8 (by omega) h0.2) ?_
  refine Ev.bind (Hull_few l0 h0.2) ?_
  refine Ev.bind (few_ev l1 8 (by omega) h1.2) ?_
  refine Ev.bind (Hull_few l1 h1.2) ?_
  have hw : Ev (fun k => (goosenecklaw01_works.f k).bind fun t => some t) true := Ev.bind works_ev (Ev.now _)
  by_cases e0 : l0 = []
  · subst e0
    simp (config := { decide := true }) only [hullF, if_true, if_false]
    refine Ev.succ ?_
    simp (config := { decide := true }) only [goosenecklaw01_PlaneParts.j0, if_true, if_false]
    exact hw
  · rw [hullF_ne e0]
    by_cases e1 : l1 = []
    · subst e1
      simp (config := { decide := true }) only [hullF, if_true, if_false]
      refine Ev.succ ?_
      have : ¬ (l0.length : Int) = 0 := by have := List.length_pos_iff.2 e0; omega
      simp (config := { decide := true }) only [goosenecklaw01_PlaneParts.j0, if_true, if_false, this]
      exact hw
    · rw [hullF_ne e1]
      simp (config := { decide := true }) only [if_true, if_false]
      exact parts_law (few_hull e0 h0.2) (few_hull e1 h1.2) _ _ _ _ _ hq l0 l1
end Go.Proofs.Ytegdcnjjelgpjaa.P
namespace Go.Proofs.Ytegdcnjjelgpjaa.planeParts
open Go.ChangeShapes Go.WideShapes Go.ChangeAt Go.RowKit Go.Proofs.Ytegdcnjjelgpjaa.P
open Go.Proofs.YtegdcnjjelgpjaaW.PrintWords Go.Proofs.YtegdcnjjelgpjaaW.PrintLast Go.Proofs.YtegdcnjjelgpjaaW.PrintMore
open Go.ChangeMaps (open_string shut_string)
set_option linter.unusedVariables false
theorem own : ownKnob Try.prog.godebug = none := by kernel_rfl
theorem laidOut : laidOutB Try.prog = true := by kernel_rfl
set_option maxRecDepth 100000 in
theorem lifted (os : Os) (started : os.Started) (H : Type) (enc : TypeId × Value → H) :
    ReturnsInHanded {} Try.checked os 14 .any (Rows.planePartsSpec.pre6 enc Try.prog Try.f14 Rows.planePartsRow.domain false) (Rows.planePartsSpec.post enc Try.prog Try.f14 false true false false) := by
  refine returnsInHanded_of_change_sized (C := Try.checked) own started (by kernel_rfl) Try.func14
    (ChangeSpec.witness6 (enc := enc) (C := Try.checked) false ⟨#[], #[.slice none 0 0, .slice none 0 0, .agg #[.int .i64 0, .int .i64 0, .int .i64 0], .agg #[.int .i8 0, .int .i8 0]], []⟩ 8 (by kernel_rfl) (by kernel_rfl) (by kernel_rfl) (by kernel_rfl)) ?_
  intro W base args ds gs before hval0 hW hcnd hsz0 _
  have hval : ∀ (j : Nat) t v, Try.f14.params[j]? = some t → args[j]? = some v → Value.okWide Try.prog W .any base t v := hval0
  have hW' := hW
  obtain ⟨p, q, hA0, hV, rfl, hfz, hnd⟩ := hW
  have hA : DataW.TrodAll enc Try.prog W 0 (fun _ => true) true Try.f14.params.toList args.toList ds p := hA0
  rw [Try.params14] at hA hval
  obtain ⟨v0, vs0, d0, ds0, p0, q0, hargs, rfl, rfl, h0, r0⟩ := trodAll_cons hA
  obtain ⟨v1, vs1, d1, ds1, p1, q1, rfl, rfl, rfl, h1, r1⟩ := trodAll_cons r0
  obtain ⟨v2, vs2, d2, ds2, p2, q2, rfl, rfl, rfl, h2, r2⟩ := trodAll_cons r1
  obtain ⟨v3, vs3, d3, ds3, p3, q3, rfl, rfl, rfl, h3, r3⟩ := trodAll_cons r2
  obtain ⟨rfl, rfl, rfl⟩ := trodAll_nil r3
  obtain rfl : args = #[v0, v1, v2, v3] := by cases args; simp_all
  obtain ⟨rfl, rfl⟩ := trodVars_none hV
  have k0 := h0
  have lt0 : ∀ x ∈ p0, x.block < W.heap.size := by obtain ⟨m, hm⟩ := k0; exact DataW.trod_lt m _ _ _ hm
  obtain ⟨a0, len0, cap0, rfl⟩ := okWide_slice Try.underlying58 (hval 0 58 v0 rfl rfl)
  obtain ⟨f0, hf0⟩ := h0
  obtain ⟨l0, ⟨A0, c0, e0, hc0, hr0⟩, w0⟩ := (Opens.slice Try.underlying58 (by kernel_rfl) opens32) H enc W _ _ _ _ _ _ hf0
  simp [Value.cells] at e0
  obtain ⟨rfl, rfl, rfl⟩ := e0
  have k1 := h1
  have lt1 : ∀ x ∈ p1, x.block < W.heap.size := by obtain ⟨m, hm⟩ := k1; exact DataW.trod_lt m _ _ _ hm
  obtain ⟨a1, len1, cap1, rfl⟩ := okWide_slice Try.underlying58 (hval 1 58 v1 rfl rfl)
  obtain ⟨f1, hf1⟩ := h1
  obtain ⟨l1, ⟨A1, c1, e1, hc1, hr1⟩, w1⟩ := (Opens.slice Try.underlying58 (by kernel_rfl) opens32) H enc W _ _ _ _ _ _ hf1
  simp [Value.cells] at e1
  obtain ⟨rfl, rfl, rfl⟩ := e1
  have k2 := h2
  have lt2 : ∀ x ∈ p2, x.block < W.heap.size := by obtain ⟨m, hm⟩ := k2; exact DataW.trod_lt m _ _ _ hm
  obtain ⟨cs2, rfl, hz2⟩ := okWide_struct Try.underlying75 (hval 2 75 v2 rfl rfl)
  obtain ⟨f2, hf2⟩ := h2
  obtain ⟨x2, hK2, w2⟩ := opens75 H enc W _ _ _ _ _ _ hf2
  have e2 := k75_open hK2
  obtain rfl : cs2 = #[.int .i64 x2.f0, .int .i64 x2.f1, .int .i64 x2.f2] := by apply Array.toList_inj.1; simpa [Value.cells] using e2
  have k3 := h3
  have lt3 : ∀ x ∈ p3, x.block < W.heap.size := by obtain ⟨m, hm⟩ := k3; exact DataW.trod_lt m _ _ _ hm
  obtain ⟨cs3, rfl, hz3⟩ := okWide_struct Try.underlying32 (hval 3 32 v3 rfl rfl)
  obtain ⟨f3, hf3⟩ := h3
  obtain ⟨x3, hK3, w3⟩ := opens32 H enc W _ _ _ _ _ _ hf3
  have e3 := k32_open hK3
  obtain rfl : cs3 = #[.int .i8 x3.f0, .int .i8 x3.f1] := by apply Array.toList_inj.1; simpa [Value.cells] using e3
  clear hA0 hval0 hsz0
  obtain ⟨k, hk⟩ := PlaneParts_pure l0 l1 x2 x3 w0 w1 w2 w3
  refine (goosenecklaw01_PlaneParts.calls k _ _ l0 _ _ l1 x2.f0 x2.f1 x2.f2 x3.f0 x3.f1 true W hr0 hc0 hr1 hc1 ⟨rfl⟩ hk).mono fun e W' ⟨he, bel⟩ => ?_
  subst he
  exact ⟨_, rfl, _, _, _, [], _, [], hW', trodAll_mk1 (shut_bool Try.underlying4 _), (trodAll_cons_mk (Below.trod laidOut (by kernel_rfl) (of_decide_eq_true (by kernel_rfl)) k0 bel lt0) (trodAll_cons_mk (Below.trod laidOut (by kernel_rfl) (of_decide_eq_true (by kernel_rfl)) k1 bel lt1) (trodAll_cons_mk (Below.trod laidOut (by kernel_rfl) (of_decide_eq_true (by kernel_rfl)) k2 bel lt2) (trodAll_cons_mk (Below.trod laidOut (by kernel_rfl) (of_decide_eq_true (by kernel_rfl)) k3 bel lt3) trodAll_mk0)))), rfl, bel.frame _, fun h => by cases h⟩
theorem over : Rows.planePartsRow.holds Try.pinned (OpenSpec.ofChange Rows.planePartsSpec) :=
  OpenClaim.holds_of_wide 14 Try.f14 rfl rfl rfl rfl rfl rfl rfl ⟨rfl, rfl, rfl, rfl, rfl⟩ rfl rfl rfl rfl rfl (by kernel_rfl) Try.func14 (by kernel_rfl)
    (of_decide_eq_true (by kernel_rfl)) (by unfold Func.isWrapper; first | (rw [if_pos (by decide +kernel)]; kernel_rfl) | (rw [if_neg (by decide +kernel)]; exact ⟨rfl, rfl⟩))
    (fun os started H enc _ => lifted os started H enc)
theorem proved : Rows.PlanePartsSaid := over
#print axioms proved
end Go.Proofs.Ytegdcnjjelgpjaa.planeParts
namespace Go.Proofs.Ytegdcnjjelgpjaa
theorem planeParts_holds : Rows.PlanePartsSaid := planeParts.proved
end Go.Proofs.Ytegdcnjjelgpjaa
