/- The law PlanePulls answers true at every input and leaves its arguments as they were; no condition. Part 3 of 3: the row. -/
import Derived.Test.YtegdcnjjelgpjaaCPlanePulls0
import Derived.Test.YtegdcnjjelgpjaaCPlanePulls1
import Derived.Test.YtegdcnjjelgpjaaRows
import Derived.WalkKit
import Derived.ProofKit
import Derived.OpenShut
import Derived.ShutString
import Derived.ChangeOld
import Derived.Below
import Derived.SizedLaws
import Derived.Carry
import Derived.Lib.SmallJoins
namespace Go.Proofs.Ytegdcnjjelgpjaa.P
open Go.RowKit Go.Proofs.YtegdcnjjelgpjaaW.PrintWords Go.Proofs.YtegdcnjjelgpjaaW.PrintLast Go.Proofs.YtegdcnjjelgpjaaW.PrintMore
attribute [local go_sem] max2_int min2_int max_two min_two max_three min_three max_four min_four   -- for this text's walks alone
set_option linter.unusedVariables false
set_option linter.unusedSimpArgs false

/-! ### gooseneckref01_In: function 70 -/
def gooseneckref01_In.f (a0 : Int) (a1 : Int) (a2 : Int) : Option (Bool) := if a0 ≥ a1 then (some (decide (a0 ≤ a2))) else (some false)
set_option maxHeartbeats 8000000 in
set_option maxRecDepth 100000 in
theorem gooseneckref01_In.calls (a0 : Int) (a1 : Int) (a2 : Int) (r : Bool) (w : World) (h : gooseneckref01_In.f a0 a1 a2 = some r) :
    Calls Try.prog 70 #[.int .i64 a0, .int .i64 a1, .int .i64 a2] w fun e w' => e = .returned (.bool r) ∧ Drawn0 w w' := by
  have H : (if a0 ≥ a1 then (some (decide (a0 ≤ a2))) else (some false)) = some r := h
  clear h
  by_cases c4 : a0 ≥ a1
  · rw [if_pos c4] at H
    have c4b0 : decide (a1 ≤ a0) = true := decide_eq_true c4
    clear c4
    obtain rfl := Option.some.inj H
    go_enter Try.func70, Try.ntmps70
    go_wp2
    go_ret
    exact ⟨by first | rfl | (simp; done) | (simp [*]; done), by repeat (first | exact Drawn0.refl _ | apply Drawn0.step)⟩
  · rw [if_neg c4] at H
    have c4b0 : decide (a1 ≤ a0) = false := decide_eq_false c4
    clear c4
    obtain rfl := Option.some.inj H
    go_enter Try.func70, Try.ntmps70
    go_wp2
    go_ret
    exact ⟨by first | rfl | (simp; done) | (simp [*]; done), by repeat (first | exact Drawn0.refl _ | apply Drawn0.step)⟩

end Go.Proofs.Ytegdcnjjelgpjaa.P
namespace Go.Proofs.Ytegdcnjjelgpjaa.P
open Go.RowKit Go.Proofs.YtegdcnjjelgpjaaW.PrintWords Go.Proofs.YtegdcnjjelgpjaaW.PrintLast Go.Proofs.YtegdcnjjelgpjaaW.PrintMore
attribute [local go_sem] max2_int min2_int max_two min_two max_three min_three max_four min_four   -- for this text's walks alone
set_option linter.unusedVariables false
set_option linter.unusedSimpArgs false

/-! ### gooseneckref01_Is: function 69 -/
def gooseneckref01_Is.f (a0_0 : Int) (a0_1 : Int) : Option (Bool) := (gooseneckref01_In.f a0_0 (-16777216) 16777216).bind fun t102 => (if t102 = true then ((gooseneckref01_In.f a0_1 (-16777216) 16777216).bind fun t103 => (some t103)) else (some false))
set_option maxHeartbeats 8000000 in
set_option maxRecDepth 100000 in
theorem gooseneckref01_Is.calls (a0_0 : Int) (a0_1 : Int) (r : Bool) (w : World) (h : gooseneckref01_Is.f a0_0 a0_1 = some r) :
    Calls Try.prog 69 #[.agg #[.int .i64 a0_0, .int .i64 a0_1]] w fun e w' => e = .returned (.bool r) ∧ Below w.heap.size w w' := by
  have hu23 := Try.underlying23
  have HB := Aside0.mk (Below.refl w.heap.size w)
  have H : ((gooseneckref01_In.f a0_0 (-16777216) 16777216).bind fun t102 => (if t102 = true then ((gooseneckref01_In.f a0_1 (-16777216) 16777216).bind fun t103 => (some t103)) else (some false))) = some r := h
  clear h
  replace H := Option.bind_eq_some_iff.mp H
  obtain ⟨t102, A20, H⟩ := H
  replace H : (if t102 = true then ((gooseneckref01_In.f a0_1 (-16777216) 16777216).bind fun t103 => (some t103)) else (some false)) = some r := H
  have A2 := Aside0.mk A20
  clear A20
  by_cases c3 : t102 = true
  · subst c3
    have H1 : ((gooseneckref01_In.f a0_1 (-16777216) 16777216).bind fun t103 => (some t103)) = some r := by rw [if_pos rfl] at H; exact H
    clear H
    have H := H1
    clear H1
    replace H := Option.bind_eq_some_iff.mp H
    obtain ⟨t103, A40, H⟩ := H
    replace H : (some t103) = some r := H
    have A4 := Aside0.mk A40
    clear A40
    obtain rfl := Option.some.inj H
    go_enter Try.func69, Try.ntmps69
    go_wp2_with (first | ((with_reducible refine gate_dst (N := 1) rfl ?_); refine box_event ?hg (N := 1) ?hd (cs := #[.int .i64 a0_0, .int .i64 a0_1]) (t := 23) ?hr ?_; (case hd => rfl); (case hg => rfl); (case hr => first | (go_simp; done) | (go_simp; rfl)); intro gb101 hg w5 hbox hb; have n0_ := Aside0.mk (below_step (by repeat (first | (with_reducible first | exact HB.out | apply below_alloc | apply pw_below_drewN | apply below_drew1) | exact HB.out)) hb); have n1_ := Aside0.mk (hbox); have n2_ := Aside0.mk ((by rw [hg]; exact (below_size (by repeat (first | (with_reducible first | exact HB.out | apply below_alloc | apply pw_below_drewN | apply below_drew1) | exact HB.out))) : w.heap.size ≤ gb101)); have n3_ := Aside0.mk ((by rw [hg]; exact (below_size (by repeat (first | (with_reducible first | exact HB.out | apply below_alloc | apply pw_below_drewN | apply below_drew1) | exact HB.out))) : w.heap.size ≤ gb101)); clear HB; have HB := n0_; have BK101 := n1_; have GW101 := n2_; have GE101 := n3_; clear n0_ n1_ n2_ n3_; clear hb hbox hg; have hcz6_0 : w5.cell? ⟨gb101, 0, none⟩ = some (.int .i64 a0_0) := (blk_cell BK101.out 0).trans rfl; have hcz6_1 : w5.cell? ⟨gb101, 1, none⟩ = some (.int .i64 a0_1) := (blk_cell BK101.out 1).trans rfl; have hfz6_0 := blk_frozen BK101.out 0; have hfz6_1 := blk_frozen BK101.out 1) | ((with_reducible refine gate_callee (f := 70) rfl ?_); refine goesL_ (some 5) rfl rfl Try.func70 (by kernel_rfl) rfl #[.int .i64 a0_0, .int .i64 (-16777216), .int .i64 16777216] rfl (by (try simp only [List.map_toArray, List.map_cons, List.map_nil]); first | done | rfl | (simp only [List.length_drop, List.length_take]; rfl)) ?_; (with_reducible refine (gooseneckref01_In.calls a0_0 (-16777216) 16777216 true _ A2.out).mono ?_); rintro e w' ⟨rfl, ⟨nd, rfl⟩⟩; refine ⟨_, rfl, ?_⟩) | (go_at_call 70; (with_reducible refine (gooseneckref01_In.calls a0_1 (-16777216) 16777216 t103 _ A4.out).mono ?_); rintro e w' ⟨rfl, ⟨nd, rfl⟩⟩))
    go_ret
    exact ⟨by first | rfl | (simp [errW_none, errW_some] <;> rfl) | (simp [*, errW_none, errW_some] <;> rfl), by repeat (first | (with_reducible first | exact HB.out | apply below_alloc | apply pw_below_drewN | apply below_drew1 | refine below_set ?_ GE101.out) | exact HB.out)⟩
  · replace c3 := Bool.eq_false_iff.mpr c3
    subst c3
    have H1 : (some false) = some r := by rw [if_neg (show ¬ (false = true) by decide)] at H; exact H
    clear H
    have H := H1
    clear H1
    obtain rfl := Option.some.inj H
    go_enter Try.func69, Try.ntmps69
    go_wp2_with (first | ((with_reducible refine gate_dst (N := 1) rfl ?_); refine box_event ?hg (N := 1) ?hd (cs := #[.int .i64 a0_0, .int .i64 a0_1]) (t := 23) ?hr ?_; (case hd => rfl); (case hg => rfl); (case hr => first | (go_simp; done) | (go_simp; rfl)); intro gb101 hg w7 hbox hb; have n0_ := Aside0.mk (below_step (by repeat (first | (with_reducible first | exact HB.out | apply below_alloc | apply pw_below_drewN | apply below_drew1) | exact HB.out)) hb); have n1_ := Aside0.mk (hbox); have n2_ := Aside0.mk ((by rw [hg]; exact (below_size (by repeat (first | (with_reducible first | exact HB.out | apply below_alloc | apply pw_below_drewN | apply below_drew1) | exact HB.out))) : w.heap.size ≤ gb101)); have n3_ := Aside0.mk ((by rw [hg]; exact (below_size (by repeat (first | (with_reducible first | exact HB.out | apply below_alloc | apply pw_below_drewN | apply below_drew1) | exact HB.out))) : w.heap.size ≤ gb101)); clear HB; have HB := n0_; have BK101 := n1_; have GW101 := n2_; have GE101 := n3_; clear n0_ n1_ n2_ n3_; clear hb hbox hg; have hcz8_0 : w7.cell? ⟨gb101, 0, none⟩ = some (.int .i64 a0_0) := (blk_cell BK101.out 0).trans rfl; have hcz8_1 : w7.cell? ⟨gb101, 1, none⟩ = some (.int .i64 a0_1) := (blk_cell BK101.out 1).trans rfl; have hfz8_0 := blk_frozen BK101.out 0; have hfz8_1 := blk_frozen BK101.out 1) | ((with_reducible refine gate_callee (f := 70) rfl ?_); refine goesL_ (some 5) rfl rfl Try.func70 (by kernel_rfl) rfl #[.int .i64 a0_0, .int .i64 (-16777216), .int .i64 16777216] rfl (by (try simp only [List.map_toArray, List.map_cons, List.map_nil]); first | done | rfl | (simp only [List.length_drop, List.length_take]; rfl)) ?_; (with_reducible refine (gooseneckref01_In.calls a0_0 (-16777216) 16777216 false _ A2.out).mono ?_); rintro e w' ⟨rfl, ⟨nd, rfl⟩⟩; refine ⟨_, rfl, ?_⟩))
    go_ret
    exact ⟨by first | rfl | (simp [errW_none, errW_some] <;> rfl) | (simp [*, errW_none, errW_some] <;> rfl), by repeat (first | (with_reducible first | exact HB.out | apply below_alloc | apply pw_below_drewN | apply below_drew1 | refine below_set ?_ GE101.out) | exact HB.out)⟩

end Go.Proofs.Ytegdcnjjelgpjaa.P
namespace Go.Proofs.Ytegdcnjjelgpjaa.P
open Go.RowKit Go.Proofs.YtegdcnjjelgpjaaW.PrintWords Go.Proofs.YtegdcnjjelgpjaaW.PrintLast Go.Proofs.YtegdcnjjelgpjaaW.PrintMore
attribute [local go_sem] max2_int min2_int max_two min_two max_three min_three max_four min_four   -- for this text's walks alone
set_option linter.unusedVariables false
set_option linter.unusedSimpArgs false

/-! ### gooseneckref01_Down: function 80 -/
def gooseneckref01_Down.f (a0 : Int) (a1 : Int) : Option (Int) := if a1 = 0 then (none) else (if (Int.tmod a0 a1) < 0 then (some (wrap64 ((wrap64 (Int.tdiv a0 a1)) - 1))) else (some (wrap64 (Int.tdiv a0 a1))))
set_option maxHeartbeats 8000000 in
set_option maxRecDepth 100000 in
theorem gooseneckref01_Down.calls (a0 : Int) (a1 : Int) (r : Int) (w : World) (h : gooseneckref01_Down.f a0 a1 = some r) :
    Calls Try.prog 80 #[.int .i64 a0, .int .i64 a1] w fun e w' => e = .returned (.int .i64 r) ∧ Drawn0 w w' := by
  have H : (if a1 = 0 then (none) else (if (Int.tmod a0 a1) < 0 then (some (wrap64 ((wrap64 (Int.tdiv a0 a1)) - 1))) else (some (wrap64 (Int.tdiv a0 a1))))) = some r := h
  clear h
  by_cases c3 : a1 = 0
  · rw [if_pos c3] at H
    exact absurd H (by simp)
  · rw [if_neg c3] at H
    have c3b0 : (a1 == 0) = false := beq_eq_false_iff_ne.mpr c3
    have c3b1 : (a1 != 0) = true := bne_iff_ne.mpr c3
    by_cases c4 : (Int.tmod a0 a1) < 0
    · rw [if_pos c4] at H
      have c4b0 : decide ((Int.tmod a0 a1) < 0) = true := decide_eq_true c4
      clear c4
      obtain rfl := Option.some.inj H
      go_enter Try.func80, Try.ntmps80
      go_wp2
      go_ret
      exact ⟨by first | rfl | (simp; done) | (simp [*]; done), by repeat (first | exact Drawn0.refl _ | apply Drawn0.step)⟩
    · rw [if_neg c4] at H
      have c4b0 : decide ((Int.tmod a0 a1) < 0) = false := decide_eq_false c4
      clear c4
      obtain rfl := Option.some.inj H
      go_enter Try.func80, Try.ntmps80
      go_wp2
      go_ret
      exact ⟨by first | rfl | (simp; done) | (simp [*]; done), by repeat (first | exact Drawn0.refl _ | apply Drawn0.step)⟩

end Go.Proofs.Ytegdcnjjelgpjaa.P
namespace Go.Proofs.Ytegdcnjjelgpjaa.P
open Go.RowKit Go.Proofs.YtegdcnjjelgpjaaW.PrintWords Go.Proofs.YtegdcnjjelgpjaaW.PrintLast Go.Proofs.YtegdcnjjelgpjaaW.PrintMore
attribute [local go_sem] max2_int min2_int max_two min_two max_three min_three max_four min_four   -- for this text's walks alone
set_option linter.unusedVariables false
set_option linter.unusedSimpArgs false

/-! ### gooseneckref01_Near: function 81 -/
def gooseneckref01_Near.f (a0 : Int) (a1 : Int) : Option (Int) := (gooseneckref01_Down.f a0 a1).bind fun t101 => (if (wrap64 (2 * (wrap64 (a0 - (wrap64 (t101 * a1)))))) ≥ a1 then (some (wrap64 (t101 + 1))) else (some t101))
set_option maxHeartbeats 8000000 in
set_option maxRecDepth 100000 in
theorem gooseneckref01_Near.calls (a0 : Int) (a1 : Int) (r : Int) (w : World) (h : gooseneckref01_Near.f a0 a1 = some r) :
    Calls Try.prog 81 #[.int .i64 a0, .int .i64 a1] w fun e w' => e = .returned (.int .i64 r) ∧ Drawn0 w w' := by
  have H : ((gooseneckref01_Down.f a0 a1).bind fun t101 => (if (wrap64 (2 * (wrap64 (a0 - (wrap64 (t101 * a1)))))) ≥ a1 then (some (wrap64 (t101 + 1))) else (some t101))) = some r := h
  clear h
  replace H := Option.bind_eq_some_iff.mp H
  obtain ⟨t101, A30, H⟩ := H
  replace H : (if (wrap64 (2 * (wrap64 (a0 - (wrap64 (t101 * a1)))))) ≥ a1 then (some (wrap64 (t101 + 1))) else (some t101)) = some r := H
  have A3 := Aside0.mk A30
  clear A30
  by_cases c4 : (wrap64 (2 * (wrap64 (a0 - (wrap64 (t101 * a1)))))) ≥ a1
  · rw [if_pos c4] at H
    have c4b0 : decide (a1 ≤ (wrap64 (2 * (wrap64 (a0 - (wrap64 (t101 * a1))))))) = true := decide_eq_true c4
    clear c4
    obtain rfl := Option.some.inj H
    go_enter Try.func81, Try.ntmps81
    go_wp2_with (first | ((with_reducible refine gate_callee (f := 80) rfl ?_); refine goesL_ (some 8) rfl rfl Try.func80 (by kernel_rfl) rfl #[.int .i64 a0, .int .i64 a1] rfl (by (try simp only [List.map_toArray, List.map_cons, List.map_nil]); first | done | rfl | (simp only [List.length_drop, List.length_take]; rfl)) ?_; (with_reducible refine (gooseneckref01_Down.calls a0 a1 t101 _ A3.out).mono ?_); rintro e w' ⟨rfl, ⟨nd, rfl⟩⟩; refine ⟨_, rfl, ?_⟩))
    go_ret
    exact ⟨by first | rfl | (simp; done) | (simp [*]; done), by repeat (first | exact Drawn0.refl _ | apply Drawn0.step)⟩
  · rw [if_neg c4] at H
    have c4b0 : decide (a1 ≤ (wrap64 (2 * (wrap64 (a0 - (wrap64 (t101 * a1))))))) = false := decide_eq_false c4
    clear c4
    obtain rfl := Option.some.inj H
    go_enter Try.func81, Try.ntmps81
    go_wp2_with (first | ((with_reducible refine gate_callee (f := 80) rfl ?_); refine goesL_ (some 8) rfl rfl Try.func80 (by kernel_rfl) rfl #[.int .i64 a0, .int .i64 a1] rfl (by (try simp only [List.map_toArray, List.map_cons, List.map_nil]); first | done | rfl | (simp only [List.length_drop, List.length_take]; rfl)) ?_; (with_reducible refine (gooseneckref01_Down.calls a0 a1 t101 _ A3.out).mono ?_); rintro e w' ⟨rfl, ⟨nd, rfl⟩⟩; refine ⟨_, rfl, ?_⟩))
    go_ret
    exact ⟨by first | rfl | (simp; done) | (simp [*]; done), by repeat (first | exact Drawn0.refl _ | apply Drawn0.step)⟩

end Go.Proofs.Ytegdcnjjelgpjaa.P
namespace Go.Proofs.Ytegdcnjjelgpjaa.P
open Go.RowKit Go.Proofs.YtegdcnjjelgpjaaW.PrintWords Go.Proofs.YtegdcnjjelgpjaaW.PrintLast Go.Proofs.YtegdcnjjelgpjaaW.PrintMore
attribute [local go_sem] max2_int min2_int max_two min_two max_three min_three max_four min_four   -- for this text's walks alone
set_option linter.unusedVariables false
set_option linter.unusedSimpArgs false

/-! ### gooseneckref01_Sqrt: function 83 -/
def gooseneckref01_Sqrt.l0 : Nat → Int → Int → Int → Option (Int)
  | 0, _, _, _ => none
  | k + 1, x0, x3, x4 => if x4 > 0 then (if (wrap64 (x3 + x4)) ≤ 3037000499 then (if (wrap64 ((wrap64 (x3 + x4)) * (wrap64 (x3 + x4)))) ≤ x0 then (gooseneckref01_Sqrt.l0 k x0 (wrap64 (x3 + x4)) (wrap64 (Int.tdiv x4 2))) else (gooseneckref01_Sqrt.l0 k x0 x3 (wrap64 (Int.tdiv x4 2)))) else (gooseneckref01_Sqrt.l0 k x0 x3 (wrap64 (Int.tdiv x4 2)))) else (some x3)
def gooseneckref01_Sqrt.f (k : Nat) (a0 : Int) : Option (Int) := gooseneckref01_Sqrt.l0 k a0 0 2147483648
theorem gooseneckref01_Sqrt.mono_l : ∀ k, (∀ y0 y1 y2, LeO (gooseneckref01_Sqrt.l0 k y0 y1 y2) (gooseneckref01_Sqrt.l0 (k + 1) y0 y1 y2))
  | 0 => fun _ _ _ r h => by simp [gooseneckref01_Sqrt.l0] at h
  | k + 1 => by
    have ih0 := gooseneckref01_Sqrt.mono_l k
    · intro y0 y1 y2
      unfold gooseneckref01_Sqrt.l0
      repeat' first
      | (with_reducible exact ih0 _ _ _)
      | (with_reducible exact LeO.refl _)
      | (with_reducible exact LeO.none _)
      | (with_reducible refine LeO.ite ?_ ?_)
      | (with_reducible refine LeO.bind ?_ (fun _ => ?_))
      | exact ih0 _ _ _
      | exact LeO.none _
      | refine LeO.ite ?_ ?_
      | refine LeO.bind ?_ (fun _ => ?_)
theorem gooseneckref01_Sqrt.mono : ∀ a0 k, LeO (gooseneckref01_Sqrt.f k a0) (gooseneckref01_Sqrt.f (k + 1) a0) := by
  intro a0 k
  have ih0 := gooseneckref01_Sqrt.mono_l k
  unfold gooseneckref01_Sqrt.f
  repeat' first
      | (with_reducible exact ih0 _ _ _)
      | (with_reducible exact LeO.refl _)
      | (with_reducible exact LeO.none _)
      | (with_reducible refine LeO.ite ?_ ?_)
      | (with_reducible refine LeO.bind ?_ (fun _ => ?_))
      | exact ih0 _ _ _
      | exact LeO.none _
      | refine LeO.ite ?_ ?_
      | refine LeO.bind ?_ (fun _ => ?_)
set_option maxHeartbeats 8000000 in
set_option maxRecDepth 100000 in
theorem gooseneckref01_Sqrt.calls (k : Nat) (a0 : Int) (r : Int) (w : World) (h : gooseneckref01_Sqrt.f k a0 = some r) :
    Calls Try.prog 83 #[.int .i64 a0] w fun e w' => e = .returned (.int .i64 r) ∧ Drawn0 w w' := by
  have H : (gooseneckref01_Sqrt.l0 k a0 0 2147483648) = some r := h
  clear h
  have H' := Aside0.mk H
  clear H
  go_enter Try.func83, Try.ntmps83
  go_wp2
  go_loopg [3, 4] k (fun kq v3 v4 w' => ∃ (x3_1 : Int) (x4_1 : Int), v3 = .int .i64 x3_1 ∧ v4 = .int .i64 x4_1 ∧ Aside0 (gooseneckref01_Sqrt.l0 kq a0 x3_1 x4_1 = some r) ∧ Aside0 (kq ≤ k) ∧ Drawn0 w w')
  case atStart => exact ⟨(0), (2147483648), (by first | rfl | (simp; done) | (simp [*]; done)), (by first | rfl | (simp; done) | (simp [*]; done)), H', ⟨Nat.le_refl _⟩, by repeat (first | exact Drawn0.refl _ | apply Drawn0.step)⟩
  case round =>
    clear H'
    obtain ⟨x3_1, x4_1, rfl, rfl, HA, HK1, ⟨m1, rfl⟩⟩ := hrel
    cases gk with
    | zero => exact absurd HA.out (by simp [gooseneckref01_Sqrt.l0])
    | succ k1 =>
      have H := HA.out
      clear HA
      simp only [gooseneckref01_Sqrt.l0] at H
      by_cases c2 : x4_1 > 0
      · rw [if_pos c2] at H
        have c2b0 : decide (0 < x4_1) = true := decide_eq_true c2
        clear c2
        by_cases c3 : (wrap64 (x3_1 + x4_1)) ≤ 3037000499
        · rw [if_pos c3] at H
          have c3b0 : decide ((wrap64 (x3_1 + x4_1)) ≤ 3037000499) = true := decide_eq_true c3
          clear c3
          by_cases c4 : (wrap64 ((wrap64 (x3_1 + x4_1)) * (wrap64 (x3_1 + x4_1)))) ≤ a0
          · rw [if_pos c4] at H
            have c4b0 : decide ((wrap64 ((wrap64 (x3_1 + x4_1)) * (wrap64 (x3_1 + x4_1)))) ≤ a0) = true := decide_eq_true c4
            clear c4
            have H' := Aside0.mk H
            clear H
            go_wp2
            go_roundg k1
            case measure => have := HK1.out; omega
            case rel => exact ⟨(wrap64 (x3_1 + x4_1)), (wrap64 (Int.tdiv x4_1 2)), (by first | rfl | (simp; done) | (simp [*]; done)), (by first | rfl | (simp; done) | (simp [*]; done)), H', ⟨by have := HK1.out; omega⟩, by repeat (first | exact Drawn0.refl _ | apply Drawn0.step)⟩
          · rw [if_neg c4] at H
            have c4b0 : decide ((wrap64 ((wrap64 (x3_1 + x4_1)) * (wrap64 (x3_1 + x4_1)))) ≤ a0) = false := decide_eq_false c4
            clear c4
            have H' := Aside0.mk H
            clear H
            go_wp2
            go_roundg k1
            case measure => have := HK1.out; omega
            case rel => exact ⟨(x3_1), (wrap64 (Int.tdiv x4_1 2)), (by first | rfl | (simp; done) | (simp [*]; done)), (by first | rfl | (simp; done) | (simp [*]; done)), H', ⟨by have := HK1.out; omega⟩, by repeat (first | exact Drawn0.refl _ | apply Drawn0.step)⟩
        · rw [if_neg c3] at H
          have c3b0 : decide ((wrap64 (x3_1 + x4_1)) ≤ 3037000499) = false := decide_eq_false c3
          clear c3
          have H' := Aside0.mk H
          clear H
          go_wp2
          go_roundg k1
          case measure => have := HK1.out; omega
          case rel => exact ⟨(x3_1), (wrap64 (Int.tdiv x4_1 2)), (by first | rfl | (simp; done) | (simp [*]; done)), (by first | rfl | (simp; done) | (simp [*]; done)), H', ⟨by have := HK1.out; omega⟩, by repeat (first | exact Drawn0.refl _ | apply Drawn0.step)⟩
      · rw [if_neg c2] at H
        have c2b0 : decide (0 < x4_1) = false := decide_eq_false c2
        clear c2
        obtain rfl := Option.some.inj H
        go_wp2
        go_ret
        exact ⟨by first | rfl | (simp; done) | (simp [*]; done), by repeat (first | exact Drawn0.refl _ | apply Drawn0.step)⟩

end Go.Proofs.Ytegdcnjjelgpjaa.P
namespace Go.Proofs.Ytegdcnjjelgpjaa.P
open Go.RowKit Go.Proofs.YtegdcnjjelgpjaaW.PrintWords Go.Proofs.YtegdcnjjelgpjaaW.PrintLast Go.Proofs.YtegdcnjjelgpjaaW.PrintMore

theorem works_ev : Ev goosenecklaw01_works.f true := Ev.of goosenecklaw01_works.mono (k := 40) (by decide +kernel)

theorem w64 {x : Int} (h0 : -9223372036854775808 ≤ x) (h1 : x ≤ 9223372036854775807) : wrap64 x = x := by unfold wrap64; omega
theorem wu64 {x : Int} (h0 : 0 ≤ x) (h1 : x < 18446744073709551616) : IntKind.u64.wrap x = x := by
  simp [IntKind.wrap, IntKind.bits, IntKind.signed]; omega

def inR (x lo hi : Int) : Bool := decide (lo ≤ x) && decide (x ≤ hi)
theorem inR_iff {x lo hi : Int} : inR x lo hi = true ↔ lo ≤ x ∧ x ≤ hi := by simp [inR]
theorem within_eq (x lo hi : Int) : plane_within.f x lo hi = some (inR x lo hi) := by
  unfold plane_within.f inR; split <;> rename_i h <;> simp [h]
theorem In_eq (x lo hi : Int) : gooseneckref01_In.f x lo hi = some (inR x lo hi) := by
  unfold gooseneckref01_In.f inR; split <;> rename_i h
  · have : lo ≤ x := h
    simp [this]
  · have : ¬ lo ≤ x := h
    simp [this]

/-- A point is valid. -/
def isP (x y : Int) : Bool := inR x (-16777216) 16777216 && inR y (-16777216) 16777216
theorem isP_iff {x y : Int} : isP x y = true ↔ (-16777216 ≤ x ∧ x ≤ 16777216) ∧ (-16777216 ≤ y ∧ y ≤ 16777216) := by simp [isP, inR]
theorem Is_eq (x y : Int) : gooseneckref01_Is.f x y = some (isP x y) := by
  unfold gooseneckref01_Is.f isP
  rw [In_eq, In_eq]
  cases inR x (-16777216) 16777216 <;> simp

theorem valid_loop (l : List S23) (hl : (l.length : Int) < 9223372036854775807) (d : Nat) : ∀ (i : Nat), l.length - i = d → i ≤ l.length →
    Ev (fun k => plane_valid.l0 k l (l.length : Int) (i : Int)) ((l.drop i).all fun p => isP p.f0 p.f1) := by
  induction d with
  | zero =>
    intro i hd hi
    have he : i = l.length := by omega
    subst he
    refine Ev.step (f := fun _ => some true) (fun k => ?_) (by simpa using Ev.now true)
    simp only [plane_valid.l0]
    rw [if_neg (by omega)]
  | succ d ih =>
    intro i hd hi
    have hlt : i < l.length := by omega
    have hrd : rd_T23 l (i : Int) = l[i] := by
      simp only [rd_T23, Int.toNat_natCast, List.getD_eq_getElem?_getD, List.getElem?_eq_getElem hlt, Option.getD_some]
    have hdrop : l.drop i = l[i] :: l.drop (i + 1) := List.drop_eq_getElem_cons hlt
    have hw : wrap64 ((i : Int) + 1) = ((i + 1 : Nat) : Int) := by rw [w64 (by omega) (by omega)]; rfl
    refine Ev.step (f := fun k => if isP l[i].f0 l[i].f1 = true then plane_valid.l0 k l (l.length : Int) ((i + 1 : Nat) : Int) else some false) (fun k => ?_) ?_
    · simp only [plane_valid.l0]
      rw [if_pos (by omega), if_pos (by omega), if_pos (by omega), hrd, hw, within_eq, within_eq]
      simp only [Option.bind_some, isP]
      rcases Bool.eq_false_or_eq_true (inR l[i].f0 (-16777216) 16777216) with h | h
      · simp only [h, if_true, Bool.true_and]
      · simp [h]
    · rw [hdrop, List.all_cons]
      cases hp : isP l[i].f0 l[i].f1
      · simpa using Ev.now false
      · simpa using ih (i + 1) (by omega) (by omega)
theorem valid_ev (l : List S23) (hl : (l.length : Int) < 9223372036854775807) : Ev (fun k => plane_valid.f k l) (l.all fun p => isP p.f0 p.f1) := by
  have := valid_loop l hl l.length 0 (by omega) (by omega)
  simpa [plane_valid.f] using this
theorem valid1 (x y : Int) : Ev (fun k => plane_valid.f k [⟨x, y⟩]) (isP x y) := by simpa using valid_ev [⟨x, y⟩] (by simp)
theorem valid2 (x y u v : Int) : Ev (fun k => plane_valid.f k [⟨x, y⟩, ⟨u, v⟩]) (isP x y && isP u v) := by simpa using valid_ev [⟨x, y⟩, ⟨u, v⟩] (by simp)
theorem valid3 (x y u v s t : Int) : Ev (fun k => plane_valid.f k [⟨x, y⟩, ⟨u, v⟩, ⟨s, t⟩]) (isP x y && (isP u v && isP s t)) := by simpa using valid_ev [⟨x, y⟩, ⟨u, v⟩, ⟨s, t⟩] (by simp)

/-! ### the root -/
def IsRoot (n r : Int) : Prop := 0 ≤ r ∧ r * r ≤ n ∧ n < (r + 1) * (r + 1)
theorem IsRoot.unique {n r s : Int} (h : IsRoot n r) (k : IsRoot n s) : r = s := by
  obtain ⟨h0, h1, h2⟩ := h
  obtain ⟨k0, k1, k2⟩ := k
  have a : r < s + 1 := by
    rcases Int.lt_or_le r (s + 1) with h | h
    · exact h
    · have := Int.mul_le_mul h h (by omega) h0; omega
  have b : s < r + 1 := by
    rcases Int.lt_or_le s (r + 1) with h | h
    · exact h
    · have := Int.mul_le_mul h h (by omega) k0; omega
  omega
/-- the powers -/
def p2 (j : Nat) : Int := ((2 ^ j : Nat) : Int)
theorem p2_succ (j : Nat) : p2 (j + 1) = 2 * p2 j := by unfold p2; rw [Nat.pow_succ]; push_cast; omega
theorem p2_pos (j : Nat) : 1 ≤ p2 j := by unfold p2; have := Nat.one_le_two_pow (n := j); omega
theorem p2_add (i j : Nat) : p2 (i + j) = p2 i * p2 j := by unfold p2; rw [Nat.pow_add]; push_cast; rfl
theorem p2_mono {i j : Nat} (h : i ≤ j) : p2 i ≤ p2 j := by unfold p2; exact_mod_cast Nat.pow_le_pow_right (by omega) h
theorem shl_one (m : Nat) (h : m ≤ 62) : shl .u64 1 (m : Int) = p2 m := by
  have h1 := p2_mono h
  have h2 : p2 62 = 4611686018427387904 := by decide +kernel
  have h3 := p2_pos m
  unfold shl
  rw [Int.toNat_natCast, Nat.min_eq_left (by simp [IntKind.bits]; omega), Int.one_mul]
  rw [show (2 : Int) ^ m = p2 m by unfold p2; push_cast; rfl, wu64 (by omega) (by omega)]

/-- At the head of round 31-j (bit 4^j, j counted down by 'j+1' rounds still to go): root so far P, a multiple of 2^(j+1). -/
theorem root_loop (n : Int) (hn0 : 0 ≤ n) (hn : n ≤ 9223372036854775807) : ∀ (j : Nat) (m P : Int), j ≤ 32 → 0 ≤ m → P = m * p2 j → P * P ≤ n → n < (P + p2 j) * (P + p2 j) → P + p2 j ≤ 4294967296 →
    ∃ r, IsRoot n r ∧ Ev (fun k => plane_root.l0 k (n - P * P) (P * p2 j) ((32 - j : Nat) : Int)) r := by
  intro j
  induction j with
  | zero =>
    intro m P hj hm hP h1 h2 h3
    have h0 : p2 0 = 1 := rfl
    rw [h0] at h2 h3 hP
    have hP0 : 0 ≤ P := by omega
    refine ⟨P, ⟨hP0, h1, h2⟩, ?_⟩
    refine Ev.step (f := fun _ => some P) (fun k => ?_) (Ev.now P)
    simp only [plane_root.l0]
    rw [if_neg (by omega), h0, Int.mul_one, w64 (by omega) (by omega)]
  | succ j ih =>
    intro m P hj hm hP h1 h2 h3
    have hs := p2_succ j
    have hp := p2_pos j
    have hP0 : 0 ≤ P := by rw [hP]; exact Int.mul_nonneg hm (by omega)
    have hb : p2 (2 * j) = p2 j * p2 j := by rw [show 2 * j = j + j by omega, p2_add]
    have hbit : wrap64 (62 - wrap64 (2 * ((32 - (j + 1) : Nat) : Int))) = ((2 * j : Nat) : Int) := by
      rw [w64 (x := 2 * _) (by omega) (by omega), w64 (by omega) (by omega)]; omega
    have hsh := shl_one (2 * j) (by omega)
    have hlt : P + p2 j ≤ 4294967296 - p2 j := by omega
    have hsq : (P + p2 j) * (P + p2 j) < 18446744073709551616 := by
      have h5 : P + p2 j ≤ 4294967295 := by omega
      have := Int.mul_le_mul h5 h5 (by omega) (by omega)
      omega
    have hex : (P + p2 j) * (P + p2 j) = P * P + P * p2 (j + 1) + p2 j * p2 j := by rw [hs]; grind
    have hPP : 0 ≤ P * P := Int.mul_nonneg hP0 hP0
    have hPb : 0 ≤ P * p2 (j + 1) := Int.mul_nonneg hP0 (by omega)
    have hjj : 0 ≤ p2 j * p2 j := Int.mul_nonneg (by omega) (by omega)
    have hhalf : P * p2 (j + 1) / 2 = P * p2 j := by rw [hs, show P * (2 * p2 j) = 2 * (P * p2 j) by grind]; omega
    have hPj : 0 ≤ P * p2 j := Int.mul_nonneg hP0 (by omega)
    have hnext : P * p2 (j + 1) = 2 * (P * p2 j) := by rw [hs]; grind
    have hidx : wrap64 (((32 - (j + 1) : Nat) : Int) + 1) = ((32 - j : Nat) : Int) := by rw [w64 (by omega) (by omega)]; omega
    have hsum : IntKind.u64.wrap (P * p2 (j + 1) + p2 (2 * j)) = P * p2 (j + 1) + p2 j * p2 j := by rw [hb, wu64 (by omega) (by omega)]
    by_cases hc : n - P * P ≥ P * p2 (j + 1) + p2 j * p2 j
    · obtain ⟨r, hr, he⟩ := ih (2 * m + 1) (P + p2 j) (by omega) (by omega) (by rw [hP, hs]; grind) (by omega) (by rw [show P + p2 j + p2 j = P + p2 (j + 1) by omega]; exact h2) (by omega)
      refine ⟨r, hr, Ev.step (f := fun k => plane_root.l0 k (n - (P + p2 j) * (P + p2 j)) ((P + p2 j) * p2 j) ((32 - j : Nat) : Int)) (fun k => ?_) he⟩
      simp only [plane_root.l0]
      rw [hbit, hsh, if_pos (by omega), if_pos (by omega), hsum, if_pos hc, hidx, hhalf, hb]
      rw [wu64 (x := n - P * P - _) (by omega) (by omega), wu64 (by omega) (by omega)]
      congr 1
      · omega
      · grind
    · obtain ⟨r, hr, he⟩ := ih (2 * m) P (by omega) (by omega) (by rw [hP, hs]; grind) h1 (by omega) (by omega)
      refine ⟨r, hr, Ev.step (f := fun k => plane_root.l0 k (n - P * P) (P * p2 j) ((32 - j : Nat) : Int)) (fun k => ?_) he⟩
      simp only [plane_root.l0]
      rw [hbit, hsh, if_pos (by omega), if_pos (by omega), hsum, if_neg hc, hidx, hhalf]
theorem root_ev (n : Int) (hn0 : 0 ≤ n) (hn : n ≤ 9223372036854775807) : ∃ r, IsRoot n r ∧ Ev (fun k => plane_root.f k n) r := by
  have h32 : p2 32 = 4294967296 := by decide +kernel
  obtain ⟨r, hr, he⟩ := root_loop n hn0 hn 32 0 0 (by omega) (by omega) (by omega) (by omega) (by rw [h32]; omega) (by omega)
  refine ⟨r, hr, Ev.congr (fun k => ?_) he⟩
  unfold plane_root.f
  rw [wu64 hn0 (by omega)]
  simp

theorem sqrt_loop (n : Int) (hn0 : 0 ≤ n) (hn : n ≤ 9223372036854775807) : ∀ (j : Nat) (P : Int), j ≤ 32 → 0 ≤ P → P * P ≤ n → n < (P + p2 j) * (P + p2 j) → P ≤ 3037000499 →
    ∃ r, IsRoot n r ∧ Ev (fun k => gooseneckref01_Sqrt.l0 k n P (p2 j / 2)) r := by
  intro j
  induction j with
  | zero =>
    intro P hj hP0 h1 h2 h3
    have h0 : p2 0 = 1 := rfl
    rw [h0] at h2 ⊢
    refine ⟨P, ⟨hP0, h1, h2⟩, ?_⟩
    refine Ev.step (f := fun _ => some P) (fun k => ?_) (Ev.now P)
    simp only [gooseneckref01_Sqrt.l0]
    rw [if_neg (by omega)]
  | succ j ih =>
    intro P hj hP0 h1 h2 h3
    have hs := p2_succ j
    have hp := p2_pos j
    have hm := p2_mono (show j ≤ 31 by omega)
    have h31 : p2 31 = 2147483648 := by decide +kernel
    have hd : p2 (j + 1) / 2 = p2 j := by omega
    have ht : wrap64 (Int.tdiv (p2 j) 2) = p2 j / 2 := by rw [Int.tdiv_eq_ediv_of_nonneg (by omega), w64 (by omega) (by omega)]
    rw [hd]
    have hx : wrap64 (P + p2 j) = P + p2 j := w64 (by omega) (by omega)
    have hskip : n < (P + p2 j) * (P + p2 j) → (∀ k, gooseneckref01_Sqrt.l0 (k + 1) n P (p2 j) = gooseneckref01_Sqrt.l0 k n P (p2 j / 2)) → ∃ r, IsRoot n r ∧ Ev (fun k => gooseneckref01_Sqrt.l0 k n P (p2 j)) r := by
      intro h hk
      obtain ⟨r, hr, he⟩ := ih P (by omega) hP0 h1 h h3
      exact ⟨r, hr, Ev.step hk he⟩
    by_cases hc : P + p2 j ≤ 3037000499
    · have hsq : (P + p2 j) * (P + p2 j) ≤ 9223372036854775807 := by
        have := Int.mul_le_mul hc hc (by omega) (by omega)
        omega
      have hsq0 : 0 ≤ (P + p2 j) * (P + p2 j) := Int.mul_nonneg (by omega) (by omega)
      by_cases hc2 : (P + p2 j) * (P + p2 j) ≤ n
      · obtain ⟨r, hr, he⟩ := ih (P + p2 j) (by omega) (by omega) hc2 (by rw [show P + p2 j + p2 j = P + p2 (j + 1) by omega]; exact h2) hc
        refine ⟨r, hr, Ev.step (f := fun k => gooseneckref01_Sqrt.l0 k n (P + p2 j) (p2 j / 2)) (fun k => ?_) he⟩
        simp only [gooseneckref01_Sqrt.l0]
        rw [if_pos (by omega), hx, if_pos hc, w64 (by omega) hsq, if_pos hc2, ht]
      · refine hskip (by omega) (fun k => ?_)
        simp only [gooseneckref01_Sqrt.l0]
        rw [if_pos (by omega), hx, if_pos hc, w64 (by omega) hsq, if_neg hc2, ht]
    · refine hskip ?_ (fun k => ?_)
      · have h4 : 3037000500 ≤ P + p2 j := by omega
        have := Int.mul_le_mul h4 h4 (by omega) (by omega)
        omega
      · simp only [gooseneckref01_Sqrt.l0]
        rw [if_pos (by omega), hx, if_neg hc, ht]
theorem sqrt_ev (n : Int) (hn0 : 0 ≤ n) (hn : n ≤ 9223372036854775807) : ∃ r, IsRoot n r ∧ Ev (fun k => gooseneckref01_Sqrt.f k n) r := by
  have h32 : p2 32 = 4294967296 := by decide +kernel
  obtain ⟨r, hr, he⟩ := sqrt_loop n hn0 hn 32 0 (by omega) (by omega) (by omega) (by rw [h32]; omega) (by omega)
  rw [h32] at he
  exact ⟨r, hr, he⟩
/-- Both roots are one number. -/
theorem roots_ev (n : Int) (hn0 : 0 ≤ n) (hn : n ≤ 9223372036854775807) : ∃ r, IsRoot n r ∧ Ev (fun k => plane_root.f k n) r ∧ Ev (fun k => gooseneckref01_Sqrt.f k n) r := by
  obtain ⟨r, hr, he⟩ := root_ev n hn0 hn
  obtain ⟨s, hs, hf⟩ := sqrt_ev n hn0 hn
  obtain rfl := hr.unique hs
  exact ⟨r, hr, he, hf⟩

/-! ### rounded down, nearest -/
theorem div_of {n d q : Int} (hd : 1 ≤ d) (h1 : d * q ≤ n) (h2 : n < d * q + d) : n / d = q := by
  have e : n = (n - d * q) + d * q := by omega
  rw [e, Int.add_mul_ediv_left _ _ (by omega), Int.ediv_eq_zero_of_lt (by omega) (by omega)]
  omega
theorem div_bd (n d : Int) (hd : 1 ≤ d) : d * (n / d) ≤ n ∧ n < d * (n / d) + d := by
  have e1 := Int.mul_ediv_add_emod n d
  have e2 := Int.emod_nonneg n (show d ≠ 0 by omega)
  have e3 := Int.emod_lt_of_pos n (show 0 < d by omega)
  omega
theorem div_ge {n d b : Int} (hd : 1 ≤ d) (h : b * d ≤ n) : b ≤ n / d := (Int.le_ediv_iff_mul_le (by omega)).2 h
theorem div_lt {n d b : Int} (hd : 1 ≤ d) (h : n < b * d) : n / d < b := (Int.ediv_lt_iff_lt_mul (by omega)).2 h
theorem down_key (n d : Int) (hd : 1 ≤ d) (hn0 : -9223372036854775808 < n) (hn1 : n ≤ 9223372036854775807) : (if d = 0 then (none : Option Int) else (if (Int.tmod n d) < 0 then (some (wrap64 ((wrap64 (Int.tdiv n d)) - 1))) else (some (wrap64 (Int.tdiv n d))))) = some (n / d) := by
  rw [if_neg (by omega)]
  by_cases hneg : 0 ≤ n
  · have h1 : Int.tdiv n d = n / d := Int.tdiv_eq_ediv_of_nonneg hneg
    have h2 : Int.tmod n d = n % d := Int.tmod_eq_emod_of_nonneg hneg
    have h3 : 0 ≤ n / d := Int.ediv_nonneg hneg (by omega)
    have h4 : n / d ≤ n := Int.ediv_le_self _ hneg
    have e2 := Int.emod_nonneg n (show d ≠ 0 by omega)
    rw [h1, h2, if_neg (by omega), w64 (by omega) (by omega)]
  · obtain ⟨m, rfl⟩ : ∃ m, n = -m := ⟨-n, by omega⟩
    have h1 : Int.tdiv (-m) d = -(m / d) := by
      rw [← Int.tdiv_eq_ediv_of_nonneg (a := m) (by omega), Int.neg_tdiv]
    have h2 : Int.tmod (-m) d = -(m % d) := by
      rw [← Int.tmod_eq_emod_of_nonneg (a := m) (by omega), Int.neg_tmod]
    have f1 := Int.mul_ediv_add_emod m d
    have f2 := Int.emod_nonneg m (show d ≠ 0 by omega)
    have f3 := Int.emod_lt_of_pos m (show 0 < d by omega)
    have h3 : 0 ≤ m / d := Int.ediv_nonneg (by omega) (by omega)
    have h4 : m / d ≤ m := Int.ediv_le_self _ (by omega)
    rw [h1, h2]
    generalize hq : m / d = q at *
    generalize hr : m % d = r at *
    by_cases hz : r = 0
    · rw [if_neg (by omega), w64 (by omega) (by omega), div_of (q := -q) hd (by rw [Int.mul_neg]; omega) (by rw [Int.mul_neg]; omega)]
    · rw [if_pos (by omega), w64 (x := -q) (by omega) (by omega), w64 (by omega) (by omega), div_of (q := -q - 1) hd (by rw [Int.mul_sub, Int.mul_neg]; omega) (by rw [Int.mul_sub, Int.mul_neg]; omega)]
theorem down_eq (n d : Int) (hd : 1 ≤ d) (hn0 : -9223372036854775808 < n) (hn1 : n ≤ 9223372036854775807) : plane_down.f n d = some (n / d) := down_key n d hd hn0 hn1
theorem Down_eq (n d : Int) (hd : 1 ≤ d) (hn0 : -9223372036854775808 < n) (hn1 : n ≤ 9223372036854775807) : gooseneckref01_Down.f n d = some (n / d) := down_key n d hd hn0 hn1
/-- The nearest whole number. -/
def nearI (n d : Int) : Int := if 2 * (n - n / d * d) ≥ d then n / d + 1 else n / d
theorem near_eq (n d : Int) (hd : 1 ≤ d) (hd1 : d ≤ 4611686018427387904) (hn0 : -9223372036854775808 < n) (hn1 : n ≤ 9223372036854775806) : plane_near.f n d = some (nearI n d) := by
  have hb := div_bd n d hd
  have hm : n / d * d = d * (n / d) := Int.mul_comm _ _
  have h1 : n / d ≤ 9223372036854775806 := by
    have := div_lt (b := 9223372036854775807) hd (show n < 9223372036854775807 * d by omega); omega
  have h2 : -9223372036854775808 ≤ n / d := div_ge hd (by omega)
  unfold plane_near.f nearI
  rw [down_eq n d hd hn0 (by omega), Option.bind_some]
  by_cases hlow : -9223372036854775808 ≤ n / d * d
  · rw [w64 (x := n / d * d) hlow (by omega), w64 (x := n - _) (by omega) (by omega), w64 (x := d - _) (by omega) (by omega), w64 (x := n / d + 1) (by omega) (by omega)]
    by_cases hc : 2 * (n - n / d * d) ≥ d
    · rw [if_pos (by omega), if_pos hc]
    · rw [if_neg (by omega), if_neg hc]
  · have hw : wrap64 (n / d * d) = n / d * d + 18446744073709551616 := by unfold wrap64; omega
    have hw2 : wrap64 (n - wrap64 (n / d * d)) = n - n / d * d := by rw [hw]; unfold wrap64; omega
    rw [hw2, w64 (x := d - _) (by omega) (by omega), w64 (x := n / d + 1) (by omega) (by omega)]
    by_cases hc : 2 * (n - n / d * d) ≥ d
    · rw [if_pos (by omega), if_pos hc]
    · rw [if_neg (by omega), if_neg hc]
theorem Near_eq (n d : Int) (hd : 1 ≤ d) (hd1 : d ≤ 4611686018427387904) (hn0 : -9223372036854775808 < n) (hn1 : n ≤ 9223372036854775806) : gooseneckref01_Near.f n d = some (nearI n d) := by
  have hb := div_bd n d hd
  have hm : n / d * d = d * (n / d) := Int.mul_comm _ _
  have h1 : n / d ≤ 9223372036854775806 := by
    have := div_lt (b := 9223372036854775807) hd (show n < 9223372036854775807 * d by omega); omega
  have h2 : -9223372036854775808 ≤ n / d := div_ge hd (by omega)
  unfold gooseneckref01_Near.f nearI
  rw [Down_eq n d hd hn0 (by omega), Option.bind_some]
  have hw2 : wrap64 (n - wrap64 (n / d * d)) = n - n / d * d := by
    by_cases hlow : -9223372036854775808 ≤ n / d * d
    · rw [w64 (x := n / d * d) hlow (by omega), w64 (x := n - _) (by omega) (by omega)]
    · have hw : wrap64 (n / d * d) = n / d * d + 18446744073709551616 := by unfold wrap64; omega
      rw [hw]; unfold wrap64; omega
  rw [hw2, w64 (x := 2 * _) (by omega) (by omega), w64 (x := n / d + 1) (by omega) (by omega)]
  by_cases hc : 2 * (n - n / d * d) ≥ d
  · rw [if_pos hc, if_pos hc]
  · rw [if_neg hc, if_neg hc]
end Go.Proofs.Ytegdcnjjelgpjaa.P
namespace Go.Proofs.Ytegdcnjjelgpjaa.P
open Go.RowKit Go.Proofs.YtegdcnjjelgpjaaW.PrintWords Go.Proofs.YtegdcnjjelgpjaaW.PrintLast Go.Proofs.YtegdcnjjelgpjaaW.PrintMore
attribute [local go_sem] max2_int min2_int max_two min_two max_three min_three max_four min_four   -- for this text's walks alone
set_option linter.unusedVariables false
set_option linter.unusedSimpArgs false

/-! ### gooseneckref01_Far: function 87 -/
def gooseneckref01_Far.f (k : Nat) (a0_0 : Int) (a0_1 : Int) (a1_0 : Int) (a1_1 : Int) : Option (Int) := (gooseneckref01_Sqrt.f k (wrap64 ((wrap64 ((wrap64 (a1_0 - a0_0)) * (wrap64 (a1_0 - a0_0)))) + (wrap64 ((wrap64 (a1_1 - a0_1)) * (wrap64 (a1_1 - a0_1))))))).bind fun t103 => (some t103)
theorem gooseneckref01_Far.mono : ∀ a0 a1 a2 a3 k, LeO (gooseneckref01_Far.f k a0 a1 a2 a3) (gooseneckref01_Far.f (k + 1) a0 a1 a2 a3) := by
  intro a0 a1 a2 a3 k
  unfold gooseneckref01_Far.f
  repeat' first
      | (with_reducible exact gooseneckref01_Sqrt.mono _ _)
      | (with_reducible exact LeO.refl _)
      | (with_reducible exact LeO.none _)
      | (with_reducible refine LeO.ite ?_ ?_)
      | (with_reducible refine LeO.bind ?_ (fun _ => ?_))
      | exact gooseneckref01_Sqrt.mono _ _
      | exact LeO.none _
      | refine LeO.ite ?_ ?_
      | refine LeO.bind ?_ (fun _ => ?_)
set_option maxHeartbeats 8000000 in
set_option maxRecDepth 100000 in
theorem gooseneckref01_Far.calls (k : Nat) (a0_0 : Int) (a0_1 : Int) (a1_0 : Int) (a1_1 : Int) (r : Int) (w : World) (h : gooseneckref01_Far.f k a0_0 a0_1 a1_0 a1_1 = some r) :
    Calls Try.prog 87 #[.agg #[.int .i64 a0_0, .int .i64 a0_1], .agg #[.int .i64 a1_0, .int .i64 a1_1]] w fun e w' => e = .returned (.int .i64 r) ∧ Below w.heap.size w w' := by
  have hu23 := Try.underlying23
  have HB := Aside0.mk (Below.refl w.heap.size w)
  have H : ((gooseneckref01_Sqrt.f k (wrap64 ((wrap64 ((wrap64 (a1_0 - a0_0)) * (wrap64 (a1_0 - a0_0)))) + (wrap64 ((wrap64 (a1_1 - a0_1)) * (wrap64 (a1_1 - a0_1))))))).bind fun t103 => (some t103)) = some r := h
  clear h
  replace H := Option.bind_eq_some_iff.mp H
  obtain ⟨t103, A30, H⟩ := H
  replace H : (some t103) = some r := H
  have A3 := Aside0.mk A30
  clear A30
  obtain rfl := Option.some.inj H
  go_enter Try.func87, Try.ntmps87
  go_wp2_with (first | ((with_reducible refine gate_dst (N := 2) rfl ?_); refine box_event ?hg (N := 2) ?hd (cs := #[.int .i64 a0_0, .int .i64 a0_1]) (t := 23) ?hr ?_; (case hd => rfl); (case hg => rfl); (case hr => first | (go_simp; done) | (go_simp; rfl)); intro gb101 hg w4 hbox hb; have n0_ := Aside0.mk (below_step (by repeat (first | (with_reducible first | exact HB.out | apply below_alloc | apply pw_below_drewN | apply below_drew1) | exact HB.out)) hb); have n1_ := Aside0.mk (hbox); have n2_ := Aside0.mk ((by rw [hg]; exact (below_size (by repeat (first | (with_reducible first | exact HB.out | apply below_alloc | apply pw_below_drewN | apply below_drew1) | exact HB.out))) : w.heap.size ≤ gb101)); have n3_ := Aside0.mk ((by rw [hg]; exact (below_size (by repeat (first | (with_reducible first | exact HB.out | apply below_alloc | apply pw_below_drewN | apply below_drew1) | exact HB.out))) : w.heap.size ≤ gb101)); clear HB; have HB := n0_; have BK101 := n1_; have GW101 := n2_; have GE101 := n3_; clear n0_ n1_ n2_ n3_; clear hb hbox hg) | ((with_reducible refine gate_dst (N := 3) rfl ?_); refine box_event ?hg (N := 3) ?hd (cs := #[.int .i64 a1_0, .int .i64 a1_1]) (t := 23) ?hr ?_; (case hd => rfl); (case hg => rfl); (case hr => first | (go_simp; done) | (go_simp; rfl)); intro gb102 hg w5 hbox hb; have n0_ := Aside0.mk (blk_below (g := gb101) (o := .cells #[.int .i64 a0_0, .int .i64 a0_1] 23 (0, 0)) (by (with_reducible repeat (first | refine blk_drewN ?_ _ | refine blk_drew ?_ | refine blk_alloc ?_ _)); exact BK101.out) hb); have n1_ := Aside0.mk (below_step (by repeat (first | (with_reducible first | exact HB.out | apply below_alloc | apply pw_below_drewN | apply below_drew1 | refine below_set ?_ GE101.out) | exact HB.out)) hb); have n2_ := Aside0.mk (hbox); have n3_ := Aside0.mk ((by rw [hg]; exact (below_size (by repeat (first | (with_reducible first | exact HB.out | apply below_alloc | apply pw_below_drewN | apply below_drew1 | refine below_set ?_ GE101.out) | exact HB.out))) : w.heap.size ≤ gb102)); have n4_ := Aside0.mk ((by rw [hg]; exact (below_size (by repeat (first | (with_reducible first | exact HB.out | apply below_alloc | apply pw_below_drewN | apply below_drew1 | refine below_set ?_ GE101.out) | exact HB.out))) : w.heap.size ≤ gb102)); have n5_ := Aside0.mk ((by rw [hg]; exact Nat.ne_of_lt (blk_lt (g := gb101) (o := .cells #[.int .i64 a0_0, .int .i64 a0_1] 23 (0, 0)) (by (with_reducible repeat (first | refine blk_drewN ?_ _ | refine blk_drew ?_ | refine blk_alloc ?_ _)); exact BK101.out)) : gb101 ≠ gb102)); have n6_ := Aside0.mk ((by rw [hg]; exact Nat.ne_of_gt (blk_lt (g := gb101) (o := .cells #[.int .i64 a0_0, .int .i64 a0_1] 23 (0, 0)) (by (with_reducible repeat (first | refine blk_drewN ?_ _ | refine blk_drew ?_ | refine blk_alloc ?_ _)); exact BK101.out)) : gb102 ≠ gb101)); clear BK101; clear HB; have BK101 := n0_; have HB := n1_; have BK102 := n2_; have GW102 := n3_; have GE102 := n4_; have NB101_102 := n5_; have NB102_101 := n6_; clear n0_ n1_ n2_ n3_ n4_ n5_ n6_; clear hb hbox hg; have hnb6 := NB102_101.out; have hnc6 := NB101_102.out; have hcz7_0 : w5.cell? ⟨gb102, 0, none⟩ = some (.int .i64 a1_0) := (blk_cell BK102.out 0).trans rfl; have hcz7_1 : w5.cell? ⟨gb102, 1, none⟩ = some (.int .i64 a1_1) := (blk_cell BK102.out 1).trans rfl; have hfz7_0 := blk_frozen BK102.out 0; have hfz7_1 := blk_frozen BK102.out 1; have hcz8_0 : w5.cell? ⟨gb101, 0, none⟩ = some (.int .i64 a0_0) := (blk_cell BK101.out 0).trans rfl; have hcz8_1 : w5.cell? ⟨gb101, 1, none⟩ = some (.int .i64 a0_1) := (blk_cell BK101.out 1).trans rfl; have hfz8_0 := blk_frozen BK101.out 0; have hfz8_1 := blk_frozen BK101.out 1) | ((with_reducible refine gate_callee (f := 83) rfl ?_); refine goesL_ (some 28) rfl rfl Try.func83 (by kernel_rfl) rfl #[.int .i64 (wrap64 ((wrap64 ((wrap64 (a1_0 - a0_0)) * (wrap64 (a1_0 - a0_0)))) + (wrap64 ((wrap64 (a1_1 - a0_1)) * (wrap64 (a1_1 - a0_1))))))] rfl (by (try simp only [List.map_toArray, List.map_cons, List.map_nil]); first | done | rfl | (simp only [List.length_drop, List.length_take]; rfl)) ?_; (with_reducible refine (gooseneckref01_Sqrt.calls k (wrap64 ((wrap64 ((wrap64 (a1_0 - a0_0)) * (wrap64 (a1_0 - a0_0)))) + (wrap64 ((wrap64 (a1_1 - a0_1)) * (wrap64 (a1_1 - a0_1)))))) t103 _ A3.out).mono ?_); rintro e w' ⟨rfl, ⟨nd, rfl⟩⟩; refine ⟨_, rfl, ?_⟩))
  go_ret
  exact ⟨by first | rfl | (simp [errW_none, errW_some] <;> rfl) | (simp [*, errW_none, errW_some] <;> rfl), by repeat (first | (with_reducible first | exact HB.out | apply below_alloc | apply pw_below_drewN | apply below_drew1 | refine below_set ?_ GE101.out | refine below_set ?_ GE102.out) | exact HB.out)⟩

end Go.Proofs.Ytegdcnjjelgpjaa.P
namespace Go.Proofs.Ytegdcnjjelgpjaa.P
open Go.RowKit Go.Proofs.YtegdcnjjelgpjaaW.PrintWords Go.Proofs.YtegdcnjjelgpjaaW.PrintLast Go.Proofs.YtegdcnjjelgpjaaW.PrintMore

/-- The distances of points of moderate size. -/
theorem far_both (a b c d B : Int) (hB : 0 ≤ B) (hB1 : B ≤ 1000000000) (h1 : -B ≤ c - a) (h2 : c - a ≤ B) (h3 : -B ≤ d - b) (h4 : d - b ≤ B) :
    ∃ r, IsRoot ((c - a) * (c - a) + (d - b) * (d - b)) r ∧ Ev (fun k => plane_far.f k a b c d) r ∧ Ev (fun k => gooseneckref01_Far.f k a b c d) r := by
  have key : ∀ x : Int, -B ≤ x → x ≤ B → 0 ≤ x * x ∧ x * x ≤ 1000000000000000000 := by
    intro x hx hy
    have h0 : 0 ≤ x * x := by
      rcases Int.le_total 0 x with h | h
      · exact Int.mul_nonneg h h
      · exact Int.mul_nonneg_of_nonpos_of_nonpos h h
    refine ⟨h0, ?_⟩
    rcases Int.le_total 0 x with h | h
    · have := Int.mul_le_mul (show x ≤ 1000000000 by omega) (show x ≤ 1000000000 by omega) h (by omega)
      omega
    · have := Int.mul_le_mul (show -x ≤ 1000000000 by omega) (show -x ≤ 1000000000 by omega) (by omega) (by omega)
      rw [Int.neg_mul_neg] at this
      omega
  obtain ⟨p0, p1⟩ := key (c - a) h1 h2
  obtain ⟨q0, q1⟩ := key (d - b) h3 h4
  obtain ⟨r, hr, e1, e2⟩ := roots_ev ((c - a) * (c - a) + (d - b) * (d - b)) (by omega) (by omega)
  have hw : wrap64 (wrap64 (wrap64 (c - a) * wrap64 (c - a)) + wrap64 (wrap64 (d - b) * wrap64 (d - b))) = (c - a) * (c - a) + (d - b) * (d - b) := by
    rw [w64 (x := c - a) (by omega) (by omega), w64 (x := d - b) (by omega) (by omega), w64 (x := (c - a) * (c - a)) (by omega) (by omega), w64 (x := (d - b) * (d - b)) (by omega) (by omega), w64 (by omega) (by omega)]
  refine ⟨r, hr, ?_, ?_⟩
  · unfold plane_far.f
    rw [hw]
    exact Ev.bind e1 (Ev.now _)
  · unfold gooseneckref01_Far.f
    rw [hw]
    exact Ev.bind e2 (Ev.now _)
end Go.Proofs.Ytegdcnjjelgpjaa.P
namespace Go.Proofs.Ytegdcnjjelgpjaa.P
open Go.RowKit Go.Proofs.YtegdcnjjelgpjaaW.PrintWords Go.Proofs.YtegdcnjjelgpjaaW.PrintLast Go.Proofs.YtegdcnjjelgpjaaW.PrintMore

theorem mul_bd {x y A B : Int} (h1 : -A ≤ x) (h2 : x ≤ A) (h3 : -B ≤ y) (h4 : y ≤ B) : -(A * B) ≤ x * y ∧ x * y ≤ A * B := by
  have hA : 0 ≤ A := by omega
  have hB : 0 ≤ B := by omega
  have a1 := Int.mul_nonneg (show 0 ≤ A - x by omega) (show 0 ≤ B - y by omega)
  have a2 := Int.mul_nonneg (show 0 ≤ A + x by omega) (show 0 ≤ B + y by omega)
  have a3 := Int.mul_nonneg (show 0 ≤ A - x by omega) (show 0 ≤ B + y by omega)
  have a4 := Int.mul_nonneg (show 0 ≤ A + x by omega) (show 0 ≤ B - y by omega)
  constructor
  · have : (A - x) * (B + y) + (A + x) * (B - y) = 2 * (A * B) - 2 * (x * y) := by grind
    have : (A - x) * (B - y) + (A + x) * (B + y) = 2 * (A * B) + 2 * (x * y) := by grind
    omega
  · have : (A - x) * (B + y) + (A + x) * (B - y) = 2 * (A * B) - 2 * (x * y) := by grind
    omega
theorem sq_nonneg (x : Int) : 0 ≤ x * x := by
  rcases Int.le_total 0 x with h | h
  · exact Int.mul_nonneg h h
  · exact Int.mul_nonneg_of_nonpos_of_nonpos h h
theorem sq_pos {x : Int} (h : x ≠ 0) : 1 ≤ x * x := by
  have := sq_nonneg x
  have : x * x ≠ 0 := fun e => h (by rcases Int.mul_eq_zero.1 e with e | e <;> exact e)
  omega

/-- What 'result' makes of a point. -/
def resS (x y : Int) : Int × Int × Int := if isP x y = true then (x, y, 0) else (0, 0, 4)
theorem result_ev (x y : Int) : Ev (fun k => plane_result.f k x y) (resS x y) := by
  unfold plane_result.f resS
  have hv := valid1 x y
  cases h : isP x y
  · rw [h] at hv; exact Ev.bind hv (Ev.congr (fun k => by rw [if_neg (by simp), if_neg (by simp)]) (Ev.now _))
  · rw [h] at hv; exact Ev.bind hv (Ev.congr (fun k => by rw [if_pos rfl, if_pos rfl]) (Ev.now _))
/-- The nearest number of a moderate quotient. -/
theorem nearI_bd {n d B : Int} (hd : 1 ≤ d) (h1 : -B ≤ n) (h2 : n ≤ B) (hB : 0 ≤ B) : -B ≤ nearI n d ∧ nearI n d ≤ B + 1 := by
  have hb := div_bd n d hd
  have h3 : -B ≤ n / d := div_ge hd (by
    have : B * 1 ≤ B * d := Int.mul_le_mul_of_nonneg_left hd hB
    rw [Int.neg_mul]; omega)
  have h4 : n / d < B + 1 := div_lt hd (by
    have : B * 1 ≤ B * d := Int.mul_le_mul_of_nonneg_left hd hB
    rw [Int.add_mul]; omega)
  unfold nearI
  split <;> omega

structure Far (u v : Int) : Prop where
  u0 : -33554432 ≤ u
  u1 : u ≤ 33554432
  v0 : -33554432 ≤ v
  v1 : v ≤ 33554432
/-- The one root of a place. -/
theorem place_root (u v : Int) (h : Far u v) : ∃ R, IsRoot (1024 * (u * u + v * v)) R ∧ Ev (fun k => plane_root.f k (wrap64 (1024 * (wrap64 ((wrap64 (u * u)) + (wrap64 (v * v))))))) R ∧ Ev (fun k => gooseneckref01_Sqrt.f k (wrap64 (1024 * (wrap64 ((wrap64 (u * u)) + (wrap64 (v * v))))))) R := by
  have a := mul_bd h.u0 h.u1 h.u0 h.u1
  have b := mul_bd h.v0 h.v1 h.v0 h.v1
  have c := sq_nonneg u
  have d := sq_nonneg v
  rw [w64 (x := u * u) (by omega) (by omega), w64 (x := v * v) (by omega) (by omega), w64 (x := u * u + v * v) (by omega) (by omega), w64 (by omega) (by omega)]
  exact roots_ev _ (by omega) (by omega)
theorem root_ge {n R : Int} (h : IsRoot n R) (hn : 1024 ≤ n) : 32 ≤ R := by
  obtain ⟨h0, h1, h2⟩ := h
  rcases Int.lt_or_le R 32 with h | h
  · have := Int.mul_le_mul (show R + 1 ≤ 32 by omega) (show R + 1 ≤ 32 by omega) (by omega) (by omega)
    omega
  · exact h
theorem root_le {n R B : Int} (h : IsRoot n R) (hB : 0 ≤ B) (hn : n < B * B) : R < B := by
  obtain ⟨h0, h1, h2⟩ := h
  rcases Int.lt_or_le R B with h | h
  · exact h
  · have := Int.mul_le_mul h h hB h0
    omega
/-- The numbers of a place: the program's and the reference's are one. -/
theorem place_near (p q x y R : Int) (h : Far p q) (hx0 : -16777216 ≤ x) (hx1 : x ≤ 16777216) (hy0 : -16777216 ≤ y) (hy1 : y ≤ 16777216) (hR : 32 ≤ R) (hR1 : R ≤ 4294967296) :
    plane_near.f (wrap64 (32 * (wrap64 ((wrap64 (p * x)) - (wrap64 (q * y)))))) R = some (nearI (32 * (p * x - q * y)) R) ∧ gooseneckref01_Near.f (wrap64 (32 * (wrap64 ((wrap64 (p * x)) - (wrap64 (q * y)))))) R = some (nearI (32 * (p * x - q * y)) R) ∧ -36028797018963969 ≤ nearI (32 * (p * x - q * y)) R ∧ nearI (32 * (p * x - q * y)) R ≤ 36028797018963969 := by
  have a := mul_bd h.u0 h.u1 (show -(16777216 : Int) ≤ x by omega) hx1
  have b := mul_bd h.v0 h.v1 (show -(16777216 : Int) ≤ y by omega) hy1
  rw [w64 (x := p * x) (by omega) (by omega), w64 (x := q * y) (by omega) (by omega), w64 (x := p * x - q * y) (by omega) (by omega), w64 (x := 32 * _) (by omega) (by omega)]
  have c := nearI_bd (n := 32 * (p * x - q * y)) (d := R) (B := 36028797018963968) (by omega) (by omega) (by omega) (by omega)
  exact ⟨near_eq _ _ (by omega) (by omega) (by omega) (by omega), Near_eq _ _ (by omega) (by omega) (by omega) (by omega), by omega, by omega⟩
theorem place_near' (p q x y R : Int) (h : Far p q) (hx0 : -16777216 ≤ x) (hx1 : x ≤ 16777216) (hy0 : -16777216 ≤ y) (hy1 : y ≤ 16777216) (hR : 32 ≤ R) (hR1 : R ≤ 4294967296) :
    plane_near.f (wrap64 (32 * (wrap64 ((wrap64 (p * x)) + (wrap64 (q * y)))))) R = some (nearI (32 * (p * x + q * y)) R) ∧ gooseneckref01_Near.f (wrap64 (32 * (wrap64 ((wrap64 (p * x)) + (wrap64 (q * y)))))) R = some (nearI (32 * (p * x + q * y)) R) ∧ -36028797018963969 ≤ nearI (32 * (p * x + q * y)) R ∧ nearI (32 * (p * x + q * y)) R ≤ 36028797018963969 := by
  have a := mul_bd h.u0 h.u1 (show -(16777216 : Int) ≤ x by omega) hx1
  have b := mul_bd h.v0 h.v1 (show -(16777216 : Int) ≤ y by omega) hy1
  rw [w64 (x := p * x) (by omega) (by omega), w64 (x := q * y) (by omega) (by omega), w64 (x := p * x + q * y) (by omega) (by omega), w64 (x := 32 * _) (by omega) (by omega)]
  have c := nearI_bd (n := 32 * (p * x + q * y)) (d := R) (B := 36028797018963968) (by omega) (by omega) (by omega) (by omega)
  exact ⟨near_eq _ _ (by omega) (by omega) (by omega) (by omega), Near_eq _ _ (by omega) (by omega) (by omega) (by omega), by omega, by omega⟩

/-- What a place comes to, R being the root. -/
def placeS (ax ay u v x y R : Int) : Int × Int × Int := resS (ax + nearI (32 * (u * x - v * y)) R) (ay + nearI (32 * (v * x + u * y)) R)
theorem place_ev (ax ay hx hy x y : Int) (ha : isP ax ay = true) (hh : isP hx hy = true) (hx0 : -16777216 ≤ x) (hx1 : x ≤ 16777216) (hy0 : -16777216 ≤ y) (hy1 : y ≤ 16777216) (hne : ¬ (hx - ax = 0 ∧ hy - ay = 0)) :
    ∃ R, IsRoot (1024 * ((hx - ax) * (hx - ax) + (hy - ay) * (hy - ay))) R ∧ 32 ≤ R ∧ R ≤ 4294967296 ∧ Ev (fun k => plane_place.f k ax ay hx hy x y) (placeS ax ay (hx - ax) (hy - ay) x y R) := by
  have ga := isP_iff.1 ha
  have gh := isP_iff.1 hh
  generalize hu : hx - ax = u at *
  generalize hv : hy - ay = v at *
  have hf : Far u v := ⟨by omega, by omega, by omega, by omega⟩
  have hf' : Far v u := ⟨by omega, by omega, by omega, by omega⟩
  obtain ⟨R, hR, e1, e2⟩ := place_root u v hf
  have hn : 1024 ≤ 1024 * (u * u + v * v) := by
    have c := sq_nonneg u
    have d := sq_nonneg v
    by_cases h : u = 0
    · have := sq_pos (x := v) (fun e => hne ⟨h, e⟩); omega
    · have := sq_pos (x := u) h; omega
  have h32 := root_ge hR hn
  have a := mul_bd hf.u0 hf.u1 hf.u0 hf.u1
  have b := mul_bd hf.v0 hf.v1 hf.v0 hf.v1
  have hRB : R ≤ 4294967296 := Int.le_of_lt (root_le hR (by omega) (by omega))
  obtain ⟨n1, n1', n2, n3⟩ := place_near u v x y R hf hx0 hx1 hy0 hy1 h32 hRB
  obtain ⟨m1, m1', m2, m3⟩ := place_near' v u x y R hf' hx0 hx1 hy0 hy1 h32 hRB
  have hwu : wrap64 (hx - ax) = u := by rw [hu, w64 (by omega) (by omega)]
  have hwv : wrap64 (hy - ay) = v := by rw [hv, w64 (by omega) (by omega)]
  refine ⟨R, hR, h32, hRB, ?_⟩
  · have hj : Ev (fun k => plane_place.j0 k x y u v false ax ay) (placeS ax ay u v x y R) := by
      refine Ev.step (fun k => by rw [plane_place.j0]) ?_
      simp only [Bool.false_eq_true, if_false]
      refine Ev.bind e1 ?_
      simp only [n1, m1, Option.bind_some]
      rw [w64 (x := ax + _) (by omega) (by omega), w64 (x := ay + _) (by omega) (by omega)]
      exact Ev.bind (result_ev _ _) (Ev.now _)
    unfold plane_place.f
    rw [hwu, hwv]
    by_cases h : u = 0
    · simp only [if_pos h, show (v == 0) = false by simpa using fun e => hne ⟨h, e⟩]; exact hj
    · simp only [if_neg h]; exact hj
theorem place_zero (ax ay hx hy x y : Int) (h : hx - ax = 0 ∧ hy - ay = 0) : Ev (fun k => plane_place.f k ax ay hx hy x y) (0, 0, 9) := by
  unfold plane_place.f
  rw [h.1, h.2, show wrap64 0 = 0 from w64 (by omega) (by omega)]
  simp only [if_true]
  refine Ev.step (f := fun _ => some (0, 0, 9)) (fun k => ?_) (Ev.now _)
  rw [plane_place.j0]
  simp

end Go.Proofs.Ytegdcnjjelgpjaa.P
namespace Go.Proofs.Ytegdcnjjelgpjaa.P
open Go.RowKit Go.Proofs.YtegdcnjjelgpjaaW.PrintWords Go.Proofs.YtegdcnjjelgpjaaW.PrintLast Go.Proofs.YtegdcnjjelgpjaaW.PrintMore
attribute [local go_sem] max2_int min2_int max_two min_two max_three min_three max_four min_four   -- for this text's walks alone
set_option linter.unusedVariables false
set_option linter.unusedSimpArgs false

/-! ### gooseneckref01_points: function 89 -/
def gooseneckref01_points.l0 : Nat → List (S23) → Int → Option (Int)
  | 0, _, _ => none
  | k + 1, x0, x3 => if x3 < (x0.length : Int) then (if 0 ≤ x3 then ((gooseneckref01_Is.f ((rd_T23 x0 x3).f0) ((rd_T23 x0 x3).f1)).bind fun t102 => (if t102 = true then (gooseneckref01_points.l0 k x0 (wrap64 (x3 + 1))) else (some 2))) else (none)) else (some 0)
def gooseneckref01_points.f (k : Nat) (l0 : List (S23)) : Option (Int) := if (l0.length : Int) > 256 then (some 6) else (gooseneckref01_points.l0 k l0 0)
theorem gooseneckref01_points.mono_l : ∀ k, (∀ y0 y1, LeO (gooseneckref01_points.l0 k y0 y1) (gooseneckref01_points.l0 (k + 1) y0 y1))
  | 0 => fun _ _ r h => by simp [gooseneckref01_points.l0] at h
  | k + 1 => by
    have ih0 := gooseneckref01_points.mono_l k
    · intro y0 y1
      unfold gooseneckref01_points.l0
      repeat' first
      | (with_reducible exact ih0 _ _)
      | (with_reducible exact LeO.refl _)
      | (with_reducible exact LeO.none _)
      | (with_reducible refine LeO.ite ?_ ?_)
      | (with_reducible refine LeO.bind ?_ (fun _ => ?_))
      | exact ih0 _ _
      | exact LeO.none _
      | refine LeO.ite ?_ ?_
      | refine LeO.bind ?_ (fun _ => ?_)
theorem gooseneckref01_points.mono : ∀ a0 k, LeO (gooseneckref01_points.f k a0) (gooseneckref01_points.f (k + 1) a0) := by
  intro a0 k
  have ih0 := gooseneckref01_points.mono_l k
  unfold gooseneckref01_points.f
  repeat' first
      | (with_reducible exact ih0 _ _)
      | (with_reducible exact LeO.refl _)
      | (with_reducible exact LeO.none _)
      | (with_reducible refine LeO.ite ?_ ?_)
      | (with_reducible refine LeO.bind ?_ (fun _ => ?_))
      | exact ih0 _ _
      | exact LeO.none _
      | refine LeO.ite ?_ ?_
      | refine LeO.bind ?_ (fun _ => ?_)
set_option maxHeartbeats 8000000 in
set_option maxRecDepth 100000 in
theorem gooseneckref01_points.calls (k : Nat) (A0 : Option Addr) (c0 : Nat) (l0 : List (S23)) (r : Int) (w : World) (hr0 : Kd.C k23 w A0 l0.length l0) (hc0 : l0.length ≤ c0) (h : gooseneckref01_points.f k l0 = some r) :
    Calls Try.prog 89 #[.slice A0 l0.length c0] w fun e w' => e = .returned (.int .i64 r) ∧ Below w.heap.size w w' := by
  have hu23 := Try.underlying23
  have HR0 := Aside0.mk hr0
  have HC0 := Aside0.mk hc0
  clear hr0 hc0
  have HB := Aside0.mk (Below.refl w.heap.size w)
  have H : (if (l0.length : Int) > 256 then (some 6) else (gooseneckref01_points.l0 k l0 0)) = some r := h
  clear h
  by_cases c2 : (l0.length : Int) > 256
  · rw [if_pos c2] at H
    have c2b0 : decide (256 < (l0.length : Int)) = true := decide_eq_true c2
    have c2b1 : decide (256 < l0.length) = true := decide_eq_true (by omega)
    clear c2
    obtain rfl := Option.some.inj H
    go_enter Try.func89, Try.ntmps89
    go_wp2
    go_ret
    exact ⟨by first | rfl | (simp [errW_none, errW_some] <;> rfl) | (simp [*, errW_none, errW_some] <;> rfl), by repeat (first | (with_reducible first | exact HB.out | apply below_alloc | apply pw_below_drewN | apply below_drew1) | exact HB.out)⟩
  · rw [if_neg c2] at H
    have c2b0 : decide (256 < (l0.length : Int)) = false := decide_eq_false c2
    have c2b1 : decide (256 < l0.length) = false := decide_eq_false (by omega)
    clear c2
    have H' := Aside0.mk H
    clear H
    go_enter Try.func89, Try.ntmps89
    go_wp2
    go_loopg [3] k (fun kq v3 w' => ∃ (x3_1 : Int), v3 = .int .i64 x3_1 ∧ Aside0 (gooseneckref01_points.l0 kq l0 x3_1 = some r) ∧ Aside0 (kq ≤ k) ∧ Aside0 (Below w.heap.size w w'))
    case atStart => exact ⟨(0), (by first | rfl | (simp; done) | (simp [*]; done)), H', ⟨Nat.le_refl _⟩, ⟨by repeat (first | (with_reducible first | exact HB.out | apply below_alloc | apply pw_below_drewN | apply below_drew1) | exact HB.out)⟩⟩
    case round =>
      clear H'
      try clear c2
      try clear c2b0
      try clear c2b1
      try clear p2
      obtain ⟨x3_1, rfl, HA, HK1, HB⟩ := hrel
      cases gk with
      | zero => exact absurd HA.out (by simp [gooseneckref01_points.l0])
      | succ k1 =>
        have H := HA.out
        clear HA
        simp only [gooseneckref01_points.l0] at H
        by_cases c3 : x3_1 < (l0.length : Int)
        · rw [if_pos c3] at H
          have c3b0 : decide (x3_1 < (l0.length : Int)) = true := decide_eq_true c3
          clear c3
          by_cases c4 : 0 ≤ x3_1
          · rw [if_pos c4] at H
            have c4b0 : decide (0 ≤ x3_1) = true := decide_eq_true c4
            clear c4
            replace H := Option.bind_eq_some_iff.mp H
            obtain ⟨t102, A50, H⟩ := H
            replace H : (if t102 = true then (gooseneckref01_points.l0 k1 l0 (wrap64 (x3_1 + 1))) else (some 2)) = some r := H
            have A5 := Aside0.mk A50
            clear A50
            by_cases c6 : t102 = true
            · subst c6
              have H1 : (gooseneckref01_points.l0 k1 l0 (wrap64 (x3_1 + 1))) = some r := by rw [if_pos rfl] at H; exact H
              clear H
              have H := H1
              clear H1
              have H' := Aside0.mk H
              clear H
              have p101 : 0 ≤ (x3_1 : Int) := of_decide_eq_true (by first | (with_reducible assumption) | assumption)
              have q101 : x3_1 < (l0.length : Int) := of_decide_eq_true (by first | (with_reducible assumption) | assumption)
              obtain ⟨ad101, e101, hx101_0, hx101_1⟩ := at_T23 HR0.out x3_1 p101 q101
              cases e101
              replace hx101_0 := (HB.out.cell (World.block_lt_of_cell? w _ hx101_0)).trans hx101_0
              replace hx101_1 := (HB.out.cell (World.block_lt_of_cell? w _ hx101_1)).trans hx101_1
              replace p101 := eq_true p101
              replace q101 := eq_true q101
              go_wp2_with (first | ((with_reducible refine gate_callee (f := 69) rfl ?_); refine goesL_ (some 17) rfl rfl Try.func69 (by kernel_rfl) rfl #[.agg #[.int .i64 ((rd_T23 l0 x3_1).f0), .int .i64 ((rd_T23 l0 x3_1).f1)]] rfl (by (try simp only [List.map_toArray, List.map_cons, List.map_nil]); first | done | rfl | (simp only [List.length_drop, List.length_take]; rfl)) ?_; (with_reducible refine (gooseneckref01_Is.calls ((rd_T23 l0 x3_1).f0) ((rd_T23 l0 x3_1).f1) true _ A5.out).mono ?_); rintro e w7 ⟨rfl, hb⟩; refine ⟨_, rfl, ?_⟩; have n0_ := Aside0.mk (below_step (by repeat (first | (with_reducible first | exact HB.out | apply below_alloc | apply pw_below_drewN | apply below_drew1) | exact HB.out)) hb); clear HB; have HB := n0_; clear n0_; (try clear hb); (try clear hb2); (try clear hk); (try clear hi)))
              go_roundg k1
              case measure => have := HK1.out; omega
              case rel => exact ⟨(wrap64 (x3_1 + 1)), (by first | rfl | (simp; done) | (simp [*]; done)), H', ⟨by have := HK1.out; omega⟩, ⟨by repeat (first | (with_reducible first | exact HB.out | apply below_alloc | apply pw_below_drewN | apply below_drew1) | exact HB.out)⟩⟩
            · replace c6 := Bool.eq_false_iff.mpr c6
              subst c6
              have H1 : (some 2) = some r := by rw [if_neg (show ¬ (false = true) by decide)] at H; exact H
              clear H
              have H := H1
              clear H1
              obtain rfl := Option.some.inj H
              have p101 : 0 ≤ (x3_1 : Int) := of_decide_eq_true (by first | (with_reducible assumption) | assumption)
              have q101 : x3_1 < (l0.length : Int) := of_decide_eq_true (by first | (with_reducible assumption) | assumption)
              obtain ⟨ad101, e101, hx101_0, hx101_1⟩ := at_T23 HR0.out x3_1 p101 q101
              cases e101
              replace hx101_0 := (HB.out.cell (World.block_lt_of_cell? w _ hx101_0)).trans hx101_0
              replace hx101_1 := (HB.out.cell (World.block_lt_of_cell? w _ hx101_1)).trans hx101_1
              replace p101 := eq_true p101
              replace q101 := eq_true q101
              go_wp2_with (first | ((with_reducible refine gate_callee (f := 69) rfl ?_); refine goesL_ (some 17) rfl rfl Try.func69 (by kernel_rfl) rfl #[.agg #[.int .i64 ((rd_T23 l0 x3_1).f0), .int .i64 ((rd_T23 l0 x3_1).f1)]] rfl (by (try simp only [List.map_toArray, List.map_cons, List.map_nil]); first | done | rfl | (simp only [List.length_drop, List.length_take]; rfl)) ?_; (with_reducible refine (gooseneckref01_Is.calls ((rd_T23 l0 x3_1).f0) ((rd_T23 l0 x3_1).f1) false _ A5.out).mono ?_); rintro e w8 ⟨rfl, hb⟩; refine ⟨_, rfl, ?_⟩; have n0_ := Aside0.mk (below_step (by repeat (first | (with_reducible first | exact HB.out | apply below_alloc | apply pw_below_drewN | apply below_drew1) | exact HB.out)) hb); clear HB; have HB := n0_; clear n0_; (try clear hb); (try clear hb2); (try clear hk); (try clear hi)))
              go_ret
              exact ⟨by first | rfl | (simp [errW_none, errW_some] <;> rfl) | (simp [*, errW_none, errW_some] <;> rfl), by repeat (first | (with_reducible first | exact HB.out | apply below_alloc | apply pw_below_drewN | apply below_drew1) | exact HB.out)⟩
          · rw [if_neg c4] at H
            exact absurd H (by simp)
        · rw [if_neg c3] at H
          have c3b0 : decide (x3_1 < (l0.length : Int)) = false := decide_eq_false c3
          clear c3
          obtain rfl := Option.some.inj H
          go_wp2
          go_ret
          exact ⟨by first | rfl | (simp [errW_none, errW_some] <;> rfl) | (simp [*, errW_none, errW_some] <;> rfl), by repeat (first | (with_reducible first | exact HB.out | apply below_alloc | apply pw_below_drewN | apply below_drew1) | exact HB.out)⟩

end Go.Proofs.Ytegdcnjjelgpjaa.P
namespace Go.Proofs.Ytegdcnjjelgpjaa.P
open Go.RowKit Go.Proofs.YtegdcnjjelgpjaaW.PrintWords Go.Proofs.YtegdcnjjelgpjaaW.PrintLast Go.Proofs.YtegdcnjjelgpjaaW.PrintMore

theorem rd23_nat (l : List S23) (i : Nat) (h : i < l.length) : rd_T23 l (i : Int) = l[i] := by
  simp only [rd_T23, Int.toNat_natCast, List.getD_eq_getElem?_getD, List.getElem?_eq_getElem h, Option.getD_some]
theorem wrap_nat (i : Nat) (h : (i : Int) < 9223372036854775807) : wrap64 ((i : Int) + 1) = ((i + 1 : Nat) : Int) := by rw [w64 (by omega) (by omega)]; rfl

def okP (l : List S23) : Bool := l.all fun p => isP p.f0 p.f1
/-- The error of a list of points. -/
def errP (l : List S23) : Int := if 256 < l.length then 6 else if okP l = true then 0 else 2
theorem points_loop (l : List S23) (hl : (l.length : Int) ≤ 256) (d : Nat) : ∀ (i : Nat), l.length - i = d → i ≤ l.length →
    Ev (fun k => gooseneckref01_points.l0 k l (i : Int)) (if okP (l.drop i) = true then 0 else 2) := by
  induction d with
  | zero =>
    intro i hd hi
    have he : i = l.length := by omega
    subst he
    refine Ev.step (f := fun _ => some 0) (fun k => ?_) (by simpa [okP] using Ev.now 0)
    simp only [gooseneckref01_points.l0]
    rw [if_neg (by omega)]
  | succ d ih =>
    intro i hd hi
    have hlt : i < l.length := by omega
    have hdrop : l.drop i = l[i] :: l.drop (i + 1) := List.drop_eq_getElem_cons hlt
    refine Ev.step (f := fun k => if isP l[i].f0 l[i].f1 = true then gooseneckref01_points.l0 k l ((i + 1 : Nat) : Int) else some 2) (fun k => ?_) ?_
    · simp only [gooseneckref01_points.l0]
      rw [if_pos (by omega), if_pos (by omega), rd23_nat l i hlt, wrap_nat i (by omega), Is_eq]
      simp only [Option.bind_some]
    · rw [hdrop, okP, List.all_cons]
      cases hp : isP l[i].f0 l[i].f1
      · simpa using Ev.now 2
      · simpa [okP] using ih (i + 1) (by omega) (by omega)
theorem points_ev (l : List S23) : Ev (fun k => gooseneckref01_points.f k l) (errP l) := by
  unfold gooseneckref01_points.f errP
  by_cases h : 256 < l.length
  · rw [if_pos h]; exact Ev.congr (fun k => by rw [if_pos (by omega)]) (Ev.now _)
  · rw [if_neg h]
    exact Ev.congr (fun k => by rw [if_neg (by omega)]) (by simpa using points_loop l (by omega) l.length 0 (by omega) (by omega))

theorem rdL2_nat (l : List (List S23)) (i : Nat) (h : i < l.length) : rd_L2 l (i : Int) = l[i] := by
  simp only [rd_L2, Int.toNat_natCast, List.getD_eq_getElem?_getD, List.getElem?_eq_getElem h, Option.getD_some]
/-- The error of lists of points. -/
def errLs (ls : List (List S23)) : Int := if (ls.any fun l => decide (256 < l.length)) = true then 6 else if (ls.all okP) = true then 0 else 2
theorem checkPoints_loop1 (ls : List (List S23)) (hn : (ls.length : Int) < 9223372036854775807) (hl : ∀ l ∈ ls, l.length ≤ 256) (d : Nat) : ∀ (i : Nat), ls.length - i = d → i ≤ ls.length →
    Ev (fun k => plane_checkPoints.l1 k ls (ls.length : Int) (i : Int)) (if (ls.drop i).all okP = true then 0 else 2) := by
  induction d with
  | zero =>
    intro i hd hi
    have he : i = ls.length := by omega
    subst he
    refine Ev.step (f := fun _ => some 0) (fun k => ?_) (by simpa using Ev.now 0)
    simp only [plane_checkPoints.l1]
    rw [if_neg (by omega)]
  | succ d ih =>
    intro i hd hi
    have hlt : i < ls.length := by omega
    have hdrop : ls.drop i = ls[i] :: ls.drop (i + 1) := List.drop_eq_getElem_cons hlt
    have h256 := hl ls[i] (List.getElem_mem hlt)
    refine Ev.step (f := fun k => (plane_valid.f k ls[i]).bind fun t => if t = true then plane_checkPoints.l1 k ls (ls.length : Int) ((i + 1 : Nat) : Int) else some 2) (fun k => ?_) ?_
    · simp only [plane_checkPoints.l1]
      rw [if_pos (by omega), if_pos (by omega), if_pos (by omega), rdL2_nat ls i hlt, wrap_nat i (by omega)]
    · refine Ev.bind (valid_ev ls[i] (by omega)) ?_
      rw [hdrop, List.all_cons]
      cases hp : okP ls[i]
      · rw [okP] at hp; simpa [hp] using Ev.now 2
      · have hp2 := hp
        rw [okP] at hp2
        simpa [hp2] using ih (i + 1) (by omega) (by omega)
theorem checkPoints_loop0 (ls : List (List S23)) (hn : (ls.length : Int) < 9223372036854775807) (d : Nat) : ∀ (i : Nat), ls.length - i = d → i ≤ ls.length → (∀ l ∈ ls.take i, l.length ≤ 256) →
    Ev (fun k => plane_checkPoints.l0 k ls ls (ls.length : Int) (i : Int)) (errLs ls) := by
  induction d with
  | zero =>
    intro i hd hi hall
    have he : i = ls.length := by omega
    subst he
    rw [List.take_length] at hall
    refine Ev.step (f := fun k => plane_checkPoints.l1 k ls (ls.length : Int) ((0 : Nat) : Int)) (fun k => ?_) ?_
    · simp only [plane_checkPoints.l0]
      rw [if_neg (by omega)]
      rfl
    · have h1 : (ls.any fun l => decide (256 < l.length)) = false := by
        rw [List.any_eq_false]
        intro l hl
        have := hall l hl
        simpa using this
      have := checkPoints_loop1 ls hn hall ls.length 0 (by omega) (by omega)
      unfold errLs
      rw [h1]
      simpa using this
  | succ d ih =>
    intro i hd hi hall
    have hlt : i < ls.length := by omega
    refine Ev.step (f := fun k => if (ls[i].length : Int) > 256 then some 6 else plane_checkPoints.l0 k ls ls (ls.length : Int) ((i + 1 : Nat) : Int)) (fun k => ?_) ?_
    · simp only [plane_checkPoints.l0]
      rw [if_pos (by omega), if_pos (by omega), if_pos (by omega), rdL2_nat ls i hlt, wrap_nat i (by omega)]
    · by_cases h : (ls[i].length : Int) > 256
      · have h1 : (ls.any fun l => decide (256 < l.length)) = true := by
          rw [List.any_eq_true]
          exact ⟨ls[i], List.getElem_mem hlt, by simp; omega⟩
        simp only [if_pos h]
        unfold errLs
        rw [h1, if_pos rfl]
        exact Ev.now _
      · simp only [if_neg h]
        refine ih (i + 1) (by omega) (by omega) (fun l hl => ?_)
        rw [List.take_succ_eq_append_getElem hlt] at hl
        rcases List.mem_append.1 hl with hl | hl
        · exact hall l hl
        · rw [List.mem_singleton.1 hl]; omega
theorem checkPoints_ev (ls : List (List S23)) (hn : (ls.length : Int) < 9223372036854775807) : Ev (fun k => plane_checkPoints.f k ls) (errLs ls) := by
  unfold plane_checkPoints.f
  simpa using checkPoints_loop0 ls hn ls.length 0 (by omega) (by omega) (by simp)
theorem errLs_one (l : List S23) : errLs [l] = errP l := by
  unfold errLs errP
  simp
theorem errP_zero {l : List S23} (h : errP l = 0) : l.length ≤ 256 ∧ okP l = true := by
  unfold errP at h
  split at h
  · omega
  · split at h
    · exact ⟨by omega, by assumption⟩
    · omega

/-! ### the distance as a number -/
open Classical in
noncomputable def rootI (n : Int) : Int := if h : ∃ r, IsRoot n r then h.choose else 0
theorem rootI_of {n r : Int} (h : IsRoot n r) : rootI n = r := by
  have hx : ∃ r, IsRoot n r := ⟨r, h⟩
  unfold rootI
  rw [dif_pos hx]
  exact hx.choose_spec.unique h
noncomputable def farI (p q : S23) : Int := rootI ((q.f0 - p.f0) * (q.f0 - p.f0) + (q.f1 - p.f1) * (q.f1 - p.f1))
/-- Moderate points: no difference is greater than B. -/
theorem farI_both (p q : S23) (B : Int) (hB : 0 ≤ B) (hB1 : B ≤ 1000000000) (h1 : -B ≤ q.f0 - p.f0) (h2 : q.f0 - p.f0 ≤ B) (h3 : -B ≤ q.f1 - p.f1) (h4 : q.f1 - p.f1 ≤ B) :
    IsRoot ((q.f0 - p.f0) * (q.f0 - p.f0) + (q.f1 - p.f1) * (q.f1 - p.f1)) (farI p q) ∧ Ev (fun k => plane_far.f k p.f0 p.f1 q.f0 q.f1) (farI p q) ∧ Ev (fun k => gooseneckref01_Far.f k p.f0 p.f1 q.f0 q.f1) (farI p q) := by
  obtain ⟨r, hr, e1, e2⟩ := far_both p.f0 p.f1 q.f0 q.f1 B hB hB1 h1 h2 h3 h4
  have : farI p q = r := rootI_of hr
  rw [this]
  exact ⟨hr, e1, e2⟩
theorem farI_valid {p q : S23} (hp : isP p.f0 p.f1 = true) (hq : isP q.f0 q.f1 = true) :
    IsRoot ((q.f0 - p.f0) * (q.f0 - p.f0) + (q.f1 - p.f1) * (q.f1 - p.f1)) (farI p q) ∧ Ev (fun k => plane_far.f k p.f0 p.f1 q.f0 q.f1) (farI p q) ∧ Ev (fun k => gooseneckref01_Far.f k p.f0 p.f1 q.f0 q.f1) (farI p q) ∧ 0 ≤ farI p q ∧ farI p q ≤ 67108864 := by
  have gp := isP_iff.1 hp
  have gq := isP_iff.1 hq
  obtain ⟨h1, h2, h3⟩ := farI_both p q 33554432 (by omega) (by omega) (by omega) (by omega) (by omega) (by omega)
  have a := mul_bd (x := q.f0 - p.f0) (y := q.f0 - p.f0) (A := 33554432) (B := 33554432) (by omega) (by omega) (by omega) (by omega)
  have b := mul_bd (x := q.f1 - p.f1) (y := q.f1 - p.f1) (A := 33554432) (B := 33554432) (by omega) (by omega) (by omega) (by omega)
  have := root_le h1 (show (0 : Int) ≤ 67108864 by omega) (by omega)
  exact ⟨h1, h2, h3, h1.1, by omega⟩

end Go.Proofs.Ytegdcnjjelgpjaa.P
namespace Go.Proofs.Ytegdcnjjelgpjaa.P
open Go.RowKit Go.Proofs.YtegdcnjjelgpjaaW.PrintWords Go.Proofs.YtegdcnjjelgpjaaW.PrintLast Go.Proofs.YtegdcnjjelgpjaaW.PrintMore

theorem nearI_rest (n d : Int) (hd : 1 ≤ d) : -d ≤ 2 * (nearI n d * d - n) ∧ 2 * (nearI n d * d - n) ≤ d := by
  have hb := div_bd n d hd
  have hm : n / d * d = d * (n / d) := Int.mul_comm _ _
  unfold nearI
  split
  · rw [Int.add_mul]; omega
  · omega
theorem le_of_mul_pos {a b c : Int} (hc : 0 < c) (h : c * a ≤ c * b) : a ≤ b := Int.le_of_mul_le_mul_left h hc
/-- A root is at least each number whose square is at most its own. -/
theorem root_ge_of {n R x : Int} (h : IsRoot n R) (hx : x * x ≤ n) : x ≤ R := by
  obtain ⟨h0, h1, h2⟩ := h
  rcases Int.lt_or_le R x with h | h
  · have := Int.mul_le_mul (show R + 1 ≤ x by omega) (show R + 1 ≤ x by omega) (by omega) (by omega)
    omega
  · exact h
theorem root_le_of {n R x : Int} (h : IsRoot n R) (hx0 : 0 ≤ x) (hx : n ≤ x * x) : R ≤ x := by
  obtain ⟨h0, h1, h2⟩ := h
  rcases Int.lt_or_le x R with h | h
  · have := Int.mul_le_mul (show x + 1 ≤ R by omega) (show x + 1 ≤ R by omega) (by omega) (by omega)
    have : (x + 1) * (x + 1) = x * x + 2 * x + 1 := by grind
    omega
  · exact h
theorem Distance_ev (a b c d : Int) (h1 : isP a b = true) (h2 : isP c d = true) : ∃ r, IsRoot ((c - a) * (c - a) + (d - b) * (d - b)) r ∧ r ≤ 67108864 ∧ Ev (fun k => plane_Distance.f k a b c d) (r, 0) := by
  obtain ⟨h3, h4, _, h6, h7⟩ := farI_valid (p := ⟨a, b⟩) (q := ⟨c, d⟩) h1 h2
  refine ⟨farI ⟨a, b⟩ ⟨c, d⟩, h3, h7, ?_⟩
  unfold plane_Distance.f
  have hv := valid2 a b c d
  rw [h1, h2] at hv
  refine Ev.bind hv ?_
  simp only [Bool.and_self, if_true]
  exact Ev.bind h4 (Ev.now _)
theorem dist_eq (a b : Int) (h0 : -1000000000000000000 ≤ a - b) (h1 : a - b ≤ 1000000000000000000) : goosenecklaw01_distance.f a b = some (mx (a - b) (b - a)) := by
  unfold goosenecklaw01_distance.f
  rw [w64 (by omega) (by omega), w64 (by omega) (by omega)]

end Go.Proofs.Ytegdcnjjelgpjaa.P
namespace Go.Proofs.Ytegdcnjjelgpjaa.P
open Go.RowKit Go.Proofs.YtegdcnjjelgpjaaW.PrintWords Go.Proofs.YtegdcnjjelgpjaaW.PrintLast Go.Proofs.YtegdcnjjelgpjaaW.PrintMore

/-- What a pull leaves: P and Q are nearest 32 u l / r and 32 v l / r, r being the root of 1024 (u u + v v); the bar is not much longer than the way. -/
theorem pulled (u v l r P Q a b : Int) (hl : 1 ≤ l) (hr : 1 ≤ r) (hN : IsRoot (1024 * (u * u + v * v)) r) (h2 : 2 * l ≤ r) (hP : P * r = 32 * (u * l) + a) (hQ : Q * r = 32 * (v * l) + b) (ha0 : -r ≤ 2 * a) (ha1 : 2 * a ≤ r) (hb0 : -r ≤ 2 * b) (hb1 : 2 * b ≤ r) :
    l * l - 2 * l ≤ P * P + Q * Q ∧ P * P + Q * Q ≤ l * l + 3 * l := by
  have hu1 : 32 * u ≤ r := root_ge_of hN (by have := sq_nonneg v; have : 32 * u * (32 * u) = 1024 * (u * u) := by grind
                                             omega)
  have hu2 : -(32 * u) ≤ r := root_ge_of hN (by have := sq_nonneg v; have : -(32 * u) * -(32 * u) = 1024 * (u * u) := by grind
                                                omega)
  have hv1 : 32 * v ≤ r := root_ge_of hN (by have := sq_nonneg u; have : 32 * v * (32 * v) = 1024 * (v * v) := by grind
                                             omega)
  have hv2 : -(32 * v) ≤ r := root_ge_of hN (by have := sq_nonneg u; have : -(32 * v) * -(32 * v) = 1024 * (v * v) := by grind
                                                omega)
  have mu := mul_bd (x := 32 * u) (y := 2 * a) (A := r) (B := r) (by omega) hu1 ha0 ha1
  have mv := mul_bd (x := 32 * v) (y := 2 * b) (A := r) (B := r) (by omega) hv1 hb0 hb1
  have ma := mul_bd (x := 2 * a) (y := 2 * a) (A := r) (B := r) ha0 ha1 ha0 ha1
  have mb := mul_bd (x := 2 * b) (y := 2 * b) (A := r) (B := r) hb0 hb1 hb0 hb1
  obtain ⟨_, n1, n2⟩ := hN
  have key : r * r * (P * P + Q * Q) = l * l * (1024 * (u * u + v * v)) + l * (32 * u * (2 * a) + 32 * v * (2 * b)) + (a * a + b * b) := by
    have e1 : r * r * (P * P + Q * Q) = (P * r) * (P * r) + (Q * r) * (Q * r) := by grind
    rw [e1, hP, hQ]; grind
  have hrr : 0 < r * r := Int.mul_pos (by omega) (by omega)
  have hll : 0 ≤ l * l := sq_nonneg l
  have ea : 2 * a * (2 * a) = 4 * (a * a) := by grind
  have eb : 2 * b * (2 * b) = 4 * (b * b) := by grind
  have sa := sq_nonneg a
  have sb := sq_nonneg b
  have t1 : l * (32 * u * (2 * a) + 32 * v * (2 * b)) ≤ l * (2 * (r * r)) := Int.mul_le_mul_of_nonneg_left (by omega) (by omega)
  have t2 : l * (-(2 * (r * r))) ≤ l * (32 * u * (2 * a) + 32 * v * (2 * b)) := Int.mul_le_mul_of_nonneg_left (by omega) (by omega)
  have t3 : l * l * (r * r) ≤ l * l * (1024 * (u * u + v * v)) := Int.mul_le_mul_of_nonneg_left n1 hll
  have hN2 : 1024 * (u * u + v * v) ≤ r * r + 2 * r := by
    have : (r + 1) * (r + 1) = r * r + 2 * r + 1 := by grind
    omega
  have t4 : l * l * (1024 * (u * u + v * v)) ≤ l * l * (r * r + 2 * r) := Int.mul_le_mul_of_nonneg_left hN2 hll
  have t5 : l * l * (2 * r) ≤ l * (r * r) := by
    have : l * r * (2 * l) ≤ l * r * r := Int.mul_le_mul_of_nonneg_left h2 (Int.mul_nonneg (by omega) (by omega))
    have e1 : l * l * (2 * r) = l * r * (2 * l) := by grind
    have e2 : l * (r * r) = l * r * r := by grind
    omega
  constructor
  · refine le_of_mul_pos hrr ?_
    have e1 : r * r * (l * l - 2 * l) = l * l * (r * r) + l * (-(2 * (r * r))) := by grind
    omega
  · have h : r * r * (P * P + Q * Q) < r * r * (l * l + 3 * l + 1) := by
      have e1 : r * r * (l * l + 3 * l + 1) = l * l * (r * r) + l * (r * r) + l * (2 * (r * r)) + r * r := by grind
      have e2 : l * l * (r * r + 2 * r) = l * l * (r * r) + l * l * (2 * r) := by grind
      omega
    have := Int.lt_of_mul_lt_mul_left h (by omega)
    omega
theorem Pull_ev (ax ay hx hy l : Int) (ha : isP ax ay = true) (hh : isP hx hy = true) (h0 : 1 ≤ l) (h1 : l ≤ 16777216) (hne : ¬ (hx - ax = 0 ∧ hy - ay = 0)) :
    ∃ R, IsRoot (1024 * ((hx - ax) * (hx - ax) + (hy - ay) * (hy - ay))) R ∧ 32 ≤ R ∧ R ≤ 4294967296 ∧ Ev (fun k => plane_Pull.f k ax ay hx hy l) (resS (ax + nearI (32 * ((hx - ax) * l)) R) (ay + nearI (32 * ((hy - ay) * l)) R)) := by
  obtain ⟨R, r1, r2, r3, e1⟩ := place_ev ax ay hx hy l 0 ha hh (by omega) h1 (by omega) (by omega) hne
  refine ⟨R, r1, r2, r3, ?_⟩
  have hv := valid2 hx hy ax ay
  rw [ha, hh] at hv
  unfold plane_Pull.f
  refine Ev.bind hv ?_
  simp only [within_eq, Option.bind_some, show inR l 1 16777216 = true from inR_iff.2 ⟨h0, h1⟩, Bool.and_self, if_true]
  have : placeS ax ay (hx - ax) (hy - ay) l 0 R = resS (ax + nearI (32 * ((hx - ax) * l)) R) (ay + nearI (32 * ((hy - ay) * l)) R) := by
    unfold placeS
    rw [Int.mul_zero, Int.mul_zero, Int.sub_zero, Int.add_zero]
  rw [← this]
  exact Ev.bind e1 (Ev.now _)
/-- The pulled axle is no farther than the bar is long. -/
theorem near_le (u v l R : Int) (hR : IsRoot (1024 * (u * u + v * v)) R) (h32 : 32 ≤ R) (hl : 0 ≤ l) : -l ≤ nearI (32 * (u * l)) R ∧ nearI (32 * (u * l)) R ≤ l := by
  have hu1 : 32 * u ≤ R := root_ge_of hR (by have := sq_nonneg v; have : 32 * u * (32 * u) = 1024 * (u * u) := by grind
                                             omega)
  have hu2 : -(32 * u) ≤ R := root_ge_of hR (by have := sq_nonneg v; have : -(32 * u) * -(32 * u) = 1024 * (u * u) := by grind
                                                omega)
  have hr := nearI_rest (32 * (u * l)) R (by omega)
  have e : 32 * (u * l) = 32 * u * l := by grind
  have m1 : 32 * u * l ≤ R * l := Int.mul_le_mul_of_nonneg_right hu1 hl
  have m2 : -(32 * u) * l ≤ R * l := Int.mul_le_mul_of_nonneg_right hu2 hl
  rw [Int.neg_mul] at m2
  generalize nearI (32 * (u * l)) R = P at *
  have a1 : P < l + 1 := by
    have : R * P < R * (l + 1) := by rw [Int.mul_add, Int.mul_comm R P]; omega
    exact Int.lt_of_mul_lt_mul_left this (by omega)
  have a2 : -l - 1 < P := by
    have : R * (-l - 1) < R * P := by rw [Int.mul_sub, Int.mul_neg, Int.mul_comm R P]; omega
    exact Int.lt_of_mul_lt_mul_left this (by omega)
  omega
/-- All of it, at plain numbers: hitch (x, y), axle (s, t), bar l. -/
theorem pulls_core (x y s t l : Int) (hx : -128 ≤ x ∧ x ≤ 127) (hy : -128 ≤ y ∧ y ≤ 127) (hs : -8388608 ≤ s ∧ s ≤ 8388608) (ht : -8388608 ≤ t ∧ t ≤ 8388608) (hl : 1 ≤ l ∧ l ≤ 1048576) (hne : ¬ (s - x = 0 ∧ t - y = 0)) :
    ∃ px py d, Ev (fun k => plane_Pull.f k x y s t l) (px, py, 0) ∧ Ev (fun k => plane_Distance.f k x y s t) (d, 0) ∧ 0 ≤ d ∧ d ≤ 67108864 ∧ isP px py = true ∧ (l ≤ 16 * d → ∃ n, Ev (fun k => plane_Distance.f k x y px py) (n, 0) ∧ l - 2 ≤ n ∧ n ≤ l + 2 ∧ 0 ≤ n ∧
      (100 ≤ l → ∃ qx qy, Ev (fun k => plane_Pull.f k x y px py l) (qx, qy, 0) ∧ -2 ≤ px - qx ∧ px - qx ≤ 2 ∧ -2 ≤ py - qy ∧ py - qy ≤ 2)) := by
  have vx : isP x y = true := isP_iff.2 (by omega)
  have vs : isP s t = true := isP_iff.2 (by omega)
  obtain ⟨R, r1, r2, r3, e1⟩ := Pull_ev x y s t l vx vs hl.1 (by omega) hne
  obtain ⟨d, d1, d2, e2⟩ := Distance_ev x y s t vx vs
  generalize hu : s - x = u at *
  generalize hv : t - y = v at *
  have hP := near_le u v l R r1 r2 (by omega)
  have hQ := near_le v u l R (by rw [Int.add_comm]; exact r1) r2 (by omega)
  have rP := nearI_rest (32 * (u * l)) R (by omega)
  have rQ := nearI_rest (32 * (v * l)) R (by omega)
  generalize nearI (32 * (u * l)) R = P at *
  generalize nearI (32 * (v * l)) R = Q at *
  have vp : isP (x + P) (y + Q) = true := isP_iff.2 (by omega)
  rw [show resS (x + P) (y + Q) = (x + P, y + Q, 0) by unfold resS; rw [if_pos vp]] at e1
  refine ⟨x + P, y + Q, d, e1, e2, d1.1, d2, vp, fun h16 => ?_⟩
  obtain ⟨n, n1, n2, e3⟩ := Distance_ev x y (x + P) (y + Q) vx vp
  rw [show x + P - x = P by omega, show y + Q - y = Q by omega] at n1
  have hRd : 32 * d ≤ R := root_ge_of r1 (by
    obtain ⟨_, q1, _⟩ := d1
    have : 32 * d * (32 * d) = 1024 * (d * d) := by grind
    omega)
  have core := pulled u v l R P Q (P * R - 32 * (u * l)) (Q * R - 32 * (v * l)) hl.1 (by omega) r1 (by omega) (by omega) (by omega) rP.1 rP.2 rQ.1 rQ.2
  have nlo : l - 2 ≤ n := by
    have hn0 := n1.1
    by_cases h : l ≤ 2
    · omega
    · exact root_ge_of n1 (by
        have : (l - 2) * (l - 2) = l * l - 4 * l + 4 := by grind
        omega)
  have nhi : n ≤ l + 2 := root_le_of n1 (by omega) (by
    have : (l + 2) * (l + 2) = l * l + 4 * l + 4 := by grind
    omega)
  refine ⟨n, e3, nlo, nhi, n1.1, fun h100 => ?_⟩
  have hne2 : ¬ (x + P - x = 0 ∧ y + Q - y = 0) := by
    rintro ⟨h1, h2⟩
    have h1' : P = 0 := by omega
    have h2' : Q = 0 := by omega
    rw [h1', h2'] at core
    have : 100 * l ≤ l * l := Int.mul_le_mul_of_nonneg_right h100 (by omega)
    omega
  obtain ⟨S, s1, s2, s3, e4⟩ := Pull_ev x y (x + P) (y + Q) l vx vp hl.1 (by omega) hne2
  rw [show x + P - x = P by omega, show y + Q - y = Q by omega] at s1 e4
  have hSlo : 32 * l - 48 ≤ S := root_ge_of s1 (by
    have : (32 * l - 48) * (32 * l - 48) = 1024 * (l * l) - 3072 * l + 2304 := by grind
    omega)
  have hShi : S ≤ 32 * l + 48 := root_le_of s1 (by omega) (by
    have : (32 * l + 48) * (32 * l + 48) = 1024 * (l * l) + 3072 * l + 2304 := by grind
    omega)
  have one : ∀ P Q : Int, IsRoot (1024 * (P * P + Q * Q)) S → -2 ≤ P - nearI (32 * (P * l)) S ∧ P - nearI (32 * (P * l)) S ≤ 2 := by
    intro P Q s1
    have hp1 : 32 * P ≤ S := root_ge_of s1 (by have := sq_nonneg Q; have : 32 * P * (32 * P) = 1024 * (P * P) := by grind
                                               omega)
    have hp2 : -(32 * P) ≤ S := root_ge_of s1 (by have := sq_nonneg Q; have : -(32 * P) * -(32 * P) = 1024 * (P * P) := by grind
                                                  omega)
    have hr := nearI_rest (32 * (P * l)) S (by omega)
    have m := mul_bd (x := 32 * P) (y := S - 32 * l) (A := S) (B := 48) (by omega) hp1 (by omega) (by omega)
    have e : 32 * P * (S - 32 * l) = 32 * (P * S) - 32 * (32 * (P * l)) := by grind
    rw [e] at m
    generalize nearI (32 * (P * l)) S = E at *
    have eE : E * S = S * E := Int.mul_comm _ _
    have eP : P * S = S * P := Int.mul_comm _ _
    constructor
    · have : S * (-3) < S * (P - E) := by rw [Int.mul_sub]; omega
      have := Int.lt_of_mul_lt_mul_left this (by omega)
      omega
    · have : S * (P - E) < S * 3 := by rw [Int.mul_sub]; omega
      have := Int.lt_of_mul_lt_mul_left this (by omega)
      omega
  have oP := one P Q s1
  have oQ := one Q P (by rw [Int.add_comm]; exact s1)
  generalize nearI (32 * (P * l)) S = E at *
  generalize nearI (32 * (Q * l)) S = F at *
  have vq : isP (x + E) (y + F) = true := isP_iff.2 (by omega)
  rw [show resS (x + E) (y + F) = (x + E, y + F, 0) by unfold resS; rw [if_pos vq]] at e4
  exact ⟨x + E, y + F, e4, by omega, by omega, by omega, by omega⟩

theorem PlanePulls_pure : PlanePulls_Pure := by
  intro ⟨x, y⟩ ⟨p, q⟩ by_ len ⟨wx, wy⟩ ⟨wp, wq⟩ wb wl
  have bx := wf_i8 wx
  have by' := wf_i8 wy
  have bp := wf_i8 wp
  have bq := wf_i8 wq
  have bb := wf_u16 wb
  have bl := wf_u32 wl
  refine Ev.rounds (g := fun k => goosenecklaw01_PlanePulls.f k x y p q by_ len) ?_
  unfold goosenecklaw01_PlanePulls.f
  have bp' : -128 ≤ p ∧ p ≤ 127 := bp
  have bq' : -128 ≤ q ∧ q ≤ 127 := bq
  have bx' : -128 ≤ x ∧ x ≤ 127 := bx
  have by2 : -128 ≤ y ∧ y ≤ 127 := by'
  have m1 := mul_bd (x := p) (y := 1 + by_) (A := 128) (B := 65536) (by omega) (by omega) (by omega) (by omega)
  have m2 := mul_bd (x := q) (y := 1 + by_) (A := 128) (B := 65536) (by omega) (by omega) (by omega) (by omega)
  have hlm : Int.tmod (wrap64 len) 1048576 = len % 1048576 := by rw [w64 (by omega) (by omega), Int.tmod_eq_emod_of_nonneg (by omega)]
  rw [hlm]
  have hl0 := Int.emod_nonneg len (show (1048576 : Int) ≠ 0 by omega)
  have hl1 := Int.emod_lt_of_pos len (show (0 : Int) < 1048576 by omega)
  simp only [w64 (x := x) (by omega) (by omega), w64 (x := y) (by omega) (by omega), w64 (x := p) (by omega) (by omega), w64 (x := q) (by omega) (by omega), w64 (x := by_) (by omega) (by omega), w64 (x := 1 + by_) (by omega) (by omega), w64 (x := p * (1 + by_)) (by omega) (by omega), w64 (x := q * (1 + by_)) (by omega) (by omega), w64 (x := 1 + len % 1048576) (by omega) (by omega)]
  generalize hs : p * (1 + by_) = s at *
  generalize ht : q * (1 + by_) = t at *
  generalize hl : 1 + len % 1048576 = l at *
  by_cases hz : s - x = 0 ∧ t - y = 0
  · have vx : isP x y = true := isP_iff.2 (by omega)
    have vs : isP s t = true := isP_iff.2 (by omega)
    have hv := valid2 s t x y
    rw [vx, vs] at hv
    have e : Ev (fun k => plane_Pull.f k x y s t l) (0, 0, 9) := by
      unfold plane_Pull.f
      refine Ev.bind hv ?_
      simp only [within_eq, Option.bind_some, show inR l 1 16777216 = true from inR_iff.2 ⟨by omega, by omega⟩, Bool.and_self, if_true]
      exact Ev.bind (place_zero _ _ _ _ _ _ hz) (Ev.now _)
    refine Ev.bind e ?_
    simp only [show (x == s && y == t) = true by simp; omega, if_true]
    exact Ev.bind works_ev (Ev.now _)
  · obtain ⟨px, py, d, e1, e2, d0, d1, vp, hrest⟩ := pulls_core x y s t l bx' by2 (by omega) (by omega) (by omega) hz
    refine Ev.bind e1 ?_
    simp only [show (x == s && y == t) = false by simp; omega, Bool.false_eq_true, if_false]
    refine Ev.bind e2 ?_
    simp only [if_true, bne_self_eq_false]
    have gp := isP_iff.1 vp
    refine Ev.step (fun k => by rw [goosenecklaw01_PlanePulls.j0]) ?_
    simp only [Bool.false_eq_true, if_false, w64 (x := 16 * d) (by omega) (by omega)]
    by_cases h16 : 16 * d < l
    · simp only [if_pos h16]; exact Ev.bind works_ev (Ev.now _)
    · simp only [if_neg h16]
      obtain ⟨n, e3, n0, n1, n2, hrest2⟩ := hrest (by omega)
      refine Ev.bind e3 ?_
      have hm : mx (n - l) (l - n) ≤ 2 := by unfold mx; split <;> omega
      simp only [if_true, dist_eq n l (by omega) (by omega), Option.bind_some, show decide (mx (n - l) (l - n) > 2) = false by simp; omega]
      refine Ev.step (fun k => by rw [goosenecklaw01_PlanePulls.j1]) ?_
      simp only [Bool.false_eq_true, if_false]
      by_cases h100 : l < 100
      · simp only [if_pos h100]; exact Ev.bind works_ev (Ev.now _)
      · simp only [if_neg h100]
        obtain ⟨qx, qy, e4, q0, q1, q2, q3⟩ := hrest2 (by omega)
        refine Ev.bind e4 ?_
        have hm1 : mx (px - qx) (qx - px) ≤ 2 := by unfold mx; split <;> omega
        have hm2 : mx (py - qy) (qy - py) ≤ 2 := by unfold mx; split <;> omega
        simp only [if_true, dist_eq px qx (by omega) (by omega), dist_eq py qy (by omega) (by omega), Option.bind_some, if_pos hm1, if_pos hm2]
        exact Ev.bind works_ev (Ev.now _)
end Go.Proofs.Ytegdcnjjelgpjaa.P
namespace Go.Proofs.Ytegdcnjjelgpjaa.planePulls
open Go.ChangeShapes Go.WideShapes Go.ChangeAt Go.RowKit Go.Proofs.Ytegdcnjjelgpjaa.P
open Go.Proofs.YtegdcnjjelgpjaaW.PrintWords Go.Proofs.YtegdcnjjelgpjaaW.PrintLast Go.Proofs.YtegdcnjjelgpjaaW.PrintMore
open Go.ChangeMaps (open_string shut_string)
set_option linter.unusedVariables false
theorem own : ownKnob Try.prog.godebug = none := by kernel_rfl
theorem laidOut : laidOutB Try.prog = true := by kernel_rfl
set_option maxRecDepth 100000 in
theorem lifted (os : Os) (started : os.Started) (H : Type) (enc : TypeId × Value → H) :
    ReturnsInHanded {} Try.checked os 4 .any (Rows.planePullsSpec.pre6 enc Try.prog Try.f4 Rows.planePullsRow.domain false) (Rows.planePullsSpec.post enc Try.prog Try.f4 false true false false) := by
  refine returnsInHanded_of_change_sized (C := Try.checked) own started (by kernel_rfl) Try.func4
    (ChangeSpec.witness6 (enc := enc) (C := Try.checked) false ⟨#[], #[.agg #[.int .i8 0, .int .i8 0], .agg #[.int .i8 0, .int .i8 0], .int .u16 0, .int .u32 0], []⟩ 8 (by kernel_rfl) (by kernel_rfl) (by kernel_rfl) (by kernel_rfl)) ?_
  intro W base args ds gs before hval0 hW hcnd hsz0 _
  have hval : ∀ (j : Nat) t v, Try.f4.params[j]? = some t → args[j]? = some v → Value.okWide Try.prog W .any base t v := hval0
  have hW' := hW
  obtain ⟨p, q, hA0, hV, rfl, hfz, hnd⟩ := hW
  have hA : DataW.TrodAll enc Try.prog W 0 (fun _ => true) true Try.f4.params.toList args.toList ds p := hA0
  rw [Try.params4] at hA hval
  obtain ⟨v0, vs0, d0, ds0, p0, q0, hargs, rfl, rfl, h0, r0⟩ := trodAll_cons hA
  obtain ⟨v1, vs1, d1, ds1, p1, q1, rfl, rfl, rfl, h1, r1⟩ := trodAll_cons r0
  obtain ⟨v2, vs2, d2, ds2, p2, q2, rfl, rfl, rfl, h2, r2⟩ := trodAll_cons r1
  obtain ⟨v3, vs3, d3, ds3, p3, q3, rfl, rfl, rfl, h3, r3⟩ := trodAll_cons r2
  obtain ⟨rfl, rfl, rfl⟩ := trodAll_nil r3
  obtain rfl : args = #[v0, v1, v2, v3] := by cases args; simp_all
  obtain ⟨rfl, rfl⟩ := trodVars_none hV
  have k0 := h0
  have lt0 : ∀ x ∈ p0, x.block < W.heap.size := by obtain ⟨m, hm⟩ := k0; exact DataW.trod_lt m _ _ _ hm
  obtain ⟨cs0, rfl, hz0⟩ := okWide_struct Try.underlying32 (hval 0 32 v0 rfl rfl)
  obtain ⟨f0, hf0⟩ := h0
  obtain ⟨x0, hK0, w0⟩ := opens32 H enc W _ _ _ _ _ _ hf0
  have e0 := k32_open hK0
  obtain rfl : cs0 = #[.int .i8 x0.f0, .int .i8 x0.f1] := by apply Array.toList_inj.1; simpa [Value.cells] using e0
  have k1 := h1
  have lt1 : ∀ x ∈ p1, x.block < W.heap.size := by obtain ⟨m, hm⟩ := k1; exact DataW.trod_lt m _ _ _ hm
  obtain ⟨cs1, rfl, hz1⟩ := okWide_struct Try.underlying32 (hval 1 32 v1 rfl rfl)
  obtain ⟨f1, hf1⟩ := h1
  obtain ⟨x1, hK1, w1⟩ := opens32 H enc W _ _ _ _ _ _ hf1
  have e1 := k32_open hK1
  obtain rfl : cs1 = #[.int .i8 x1.f0, .int .i8 x1.f1] := by apply Array.toList_inj.1; simpa [Value.cells] using e1
  obtain ⟨a2, rfl, rfl, rfl, w2⟩ := open_int Try.underlying33 (hval 2 33 v2 rfl rfl) h2
  obtain ⟨a3, rfl, rfl, rfl, w3⟩ := open_int Try.underlying34 (hval 3 34 v3 rfl rfl) h3
  clear hA0 hval0 hsz0
  obtain ⟨k, hk⟩ := PlanePulls_pure x0 x1 a2 a3 w0 w1 w2 w3
  refine (goosenecklaw01_PlanePulls.calls k x0.f0 x0.f1 x1.f0 x1.f1 a2 a3 true W  ⟨rfl⟩ hk).mono fun e W' ⟨he, bel⟩ => ?_
  subst he
  exact ⟨_, rfl, _, _, _, [], _, [], hW', trodAll_mk1 (shut_bool Try.underlying4 _), (trodAll_cons_mk (Below.trod laidOut (by kernel_rfl) (of_decide_eq_true (by kernel_rfl)) k0 bel lt0) (trodAll_cons_mk (Below.trod laidOut (by kernel_rfl) (of_decide_eq_true (by kernel_rfl)) k1 bel lt1) (trodAll_cons_mk (shut_int Try.underlying33 w2) (trodAll_cons_mk (shut_int Try.underlying34 w3) trodAll_mk0)))), rfl, bel.frame _, fun h => by cases h⟩
theorem over : Rows.planePullsRow.holds Try.pinned (OpenSpec.ofChange Rows.planePullsSpec) :=
  OpenClaim.holds_of_wide 4 Try.f4 rfl rfl rfl rfl rfl rfl rfl ⟨rfl, rfl, rfl, rfl, rfl⟩ rfl rfl rfl rfl rfl (by kernel_rfl) Try.func4 (by kernel_rfl)
    (of_decide_eq_true (by kernel_rfl)) (by unfold Func.isWrapper; first | (rw [if_pos (by decide +kernel)]; kernel_rfl) | (rw [if_neg (by decide +kernel)]; exact ⟨rfl, rfl⟩))
    (fun os started H enc _ => lifted os started H enc)
theorem proved : Rows.PlanePullsSaid := over
#print axioms proved
end Go.Proofs.Ytegdcnjjelgpjaa.planePulls
namespace Go.Proofs.Ytegdcnjjelgpjaa
/-- The row, under a short name, for the claim. -/
theorem planePulls_holds : Rows.PlanePullsSaid := planePulls.proved
end Go.Proofs.Ytegdcnjjelgpjaa
