/- The law PlaneHalves answers true at every input and leaves its arguments as they were; no condition. Part 4 of 4: the row. -/
import Derived.Test.YtegdcnjjelgpjaaCPlaneHalves0
import Derived.Test.YtegdcnjjelgpjaaCPlaneHalves2
import Derived.Test.YtegdcnjjelgpjaaCPlaneHalves1
import Derived.Test.YtegdcnjjelgpjaaRows
import Derived.WalkKit
import Derived.ProofKit
import Derived.OpenShut
import Derived.ShutString
import Derived.ChangeOld
import Derived.Below
import Derived.SizedLaws
import Derived.Carry
import Derived.Lib.SmallJoins
namespace Go.Proofs.Ytegdcnjjelgpjaa.P
open Go.RowKit Go.Proofs.YtegdcnjjelgpjaaW.PrintWords Go.Proofs.YtegdcnjjelgpjaaW.PrintLast Go.Proofs.YtegdcnjjelgpjaaW.PrintMore
attribute [local go_sem] max2_int min2_int max_two min_two max_three min_three max_four min_four   -- for this text's walks alone
set_option linter.unusedVariables false
set_option linter.unusedSimpArgs false

/-! ### gooseneckref01_Is: function 69 -/
def gooseneckref01_Is.f (a0_0 : Int) (a0_1 : Int) : Option (Bool) := (gooseneckref01_In.f a0_0 (-16777216) 16777216).bind fun t102 => (if t102 = true then ((gooseneckref01_In.f a0_1 (-16777216) 16777216).bind fun t103 => (some t103)) else (some false))
set_option maxHeartbeats 8000000 in
set_option maxRecDepth 100000 in
theorem gooseneckref01_Is.calls (a0_0 : Int) (a0_1 : Int) (r : Bool) (w : World) (h : gooseneckref01_Is.f a0_0 a0_1 = some r) :
    Calls Try.prog 69 #[.agg #[.int .i64 a0_0, .int .i64 a0_1]] w fun e w' => e = .returned (.bool r) ∧ Below w.heap.size w w' := by
  have hu23 := Try.underlying23
  have HB := Aside0.mk (Below.refl w.heap.size w)
  have H : ((gooseneckref01_In.f a0_0 (-16777216) 16777216).bind fun t102 => (if t102 = true then ((gooseneckref01_In.f a0_1 (-16777216) 16777216).bind fun t103 => (some t103)) else (some false))) = some r := h
  clear h
  replace H := Option.bind_eq_some_iff.mp H
  obtain ⟨t102, A20, H⟩ := H
  replace H : (if t102 = true then ((gooseneckref01_In.f a0_1 (-16777216) 16777216).bind fun t103 => (some t103)) else (some false)) = some r := H
  have A2 := Aside0.mk A20
  clear A20
  by_cases c3 : t102 = true
  · subst c3
    have H1 : ((gooseneckref01_In.f a0_1 (-16777216) 16777216).bind fun t103 => (some t103)) = some r := by rw [if_pos rfl] at H; exact H
    clear H
    have H := H1
    clear H1
    replace H := Option.bind_eq_some_iff.mp H
    obtain ⟨t103, A40, H⟩ := H
    replace H : (some t103) = some r := H
    have A4 := Aside0.mk A40
    clear A40
    obtain rfl := Option.some.inj H
    go_enter Try.func69, Try.ntmps69
    go_wp2_with (first | ((with_reducible refine gate_dst (N := 1) rfl ?_); refine box_event ?hg (N := 1) ?hd (cs := #[.int .i64 a0_0, .int .i64 a0_1]) (t := 23) ?hr ?_; (case hd => rfl); (case hg => rfl); (case hr => first | (go_simp; done) | (go_simp; rfl)); intro gb101 hg w5 hbox hb; have n0_ := Aside0.mk (below_step (by repeat (first | (with_reducible first | exact HB.out | apply below_alloc | apply pw_below_drewN | apply below_drew1) | exact HB.out)) hb); have n1_ := Aside0.mk (hbox); have n2_ := Aside0.mk ((by rw [hg]; exact (below_size (by repeat (first | (with_reducible first | exact HB.out | apply below_alloc | apply pw_below_drewN | apply below_drew1) | exact HB.out))) : w.heap.size ≤ gb101)); have n3_ := Aside0.mk ((by rw [hg]; exact (below_size (by repeat (first | (with_reducible first | exact HB.out | apply below_alloc | apply pw_below_drewN | apply below_drew1) | exact HB.out))) : w.heap.size ≤ gb101)); clear HB; have HB := n0_; have BK101 := n1_; have GW101 := n2_; have GE101 := n3_; clear n0_ n1_ n2_ n3_; clear hb hbox hg; have hcz6_0 : w5.cell? ⟨gb101, 0, none⟩ = some (.int .i64 a0_0) := (blk_cell BK101.out 0).trans rfl; have hcz6_1 : w5.cell? ⟨gb101, 1, none⟩ = some (.int .i64 a0_1) := (blk_cell BK101.out 1).trans rfl; have hfz6_0 := blk_frozen BK101.out 0; have hfz6_1 := blk_frozen BK101.out 1) | ((with_reducible refine gate_callee (f := 70) rfl ?_); refine goesL_ (some 5) rfl rfl Try.func70 (by kernel_rfl) rfl #[.int .i64 a0_0, .int .i64 (-16777216), .int .i64 16777216] rfl (by (try simp only [List.map_toArray, List.map_cons, List.map_nil]); first | done | rfl | (simp only [List.length_drop, List.length_take]; rfl)) ?_; (with_reducible refine (gooseneckref01_In.calls a0_0 (-16777216) 16777216 true _ A2.out).mono ?_); rintro e w' ⟨rfl, ⟨nd, rfl⟩⟩; refine ⟨_, rfl, ?_⟩) | (go_at_call 70; (with_reducible refine (gooseneckref01_In.calls a0_1 (-16777216) 16777216 t103 _ A4.out).mono ?_); rintro e w' ⟨rfl, ⟨nd, rfl⟩⟩))
    go_ret
    exact ⟨by first | rfl | (simp [errW_none, errW_some] <;> rfl) | (simp [*, errW_none, errW_some] <;> rfl), by repeat (first | (with_reducible first | exact HB.out | apply below_alloc | apply pw_below_drewN | apply below_drew1 | refine below_set ?_ GE101.out) | exact HB.out)⟩
  · replace c3 := Bool.eq_false_iff.mpr c3
    subst c3
    have H1 : (some false) = some r := by rw [if_neg (show ¬ (false = true) by decide)] at H; exact H
    clear H
    have H := H1
    clear H1
    obtain rfl := Option.some.inj H
    go_enter Try.func69, Try.ntmps69
    go_wp2_with (first | ((with_reducible refine gate_dst (N := 1) rfl ?_); refine box_event ?hg (N := 1) ?hd (cs := #[.int .i64 a0_0, .int .i64 a0_1]) (t := 23) ?hr ?_; (case hd => rfl); (case hg => rfl); (case hr => first | (go_simp; done) | (go_simp; rfl)); intro gb101 hg w7 hbox hb; have n0_ := Aside0.mk (below_step (by repeat (first | (with_reducible first | exact HB.out | apply below_alloc | apply pw_below_drewN | apply below_drew1) | exact HB.out)) hb); have n1_ := Aside0.mk (hbox); have n2_ := Aside0.mk ((by rw [hg]; exact (below_size (by repeat (first | (with_reducible first | exact HB.out | apply below_alloc | apply pw_below_drewN | apply below_drew1) | exact HB.out))) : w.heap.size ≤ gb101)); have n3_ := Aside0.mk ((by rw [hg]; exact (below_size (by repeat (first | (with_reducible first | exact HB.out | apply below_alloc | apply pw_below_drewN | apply below_drew1) | exact HB.out))) : w.heap.size ≤ gb101)); clear HB; have HB := n0_; have BK101 := n1_; have GW101 := n2_; have GE101 := n3_; clear n0_ n1_ n2_ n3_; clear hb hbox hg; have hcz8_0 : w7.cell? ⟨gb101, 0, none⟩ = some (.int .i64 a0_0) := (blk_cell BK101.out 0).trans rfl; have hcz8_1 : w7.cell? ⟨gb101, 1, none⟩ = some (.int .i64 a0_1) := (blk_cell BK101.out 1).trans rfl; have hfz8_0 := blk_frozen BK101.out 0; have hfz8_1 := blk_frozen BK101.out 1) | ((with_reducible refine gate_callee (f := 70) rfl ?_); refine goesL_ (some 5) rfl rfl Try.func70 (by kernel_rfl) rfl #[.int .i64 a0_0, .int .i64 (-16777216), .int .i64 16777216] rfl (by (try simp only [List.map_toArray, List.map_cons, List.map_nil]); first | done | rfl | (simp only [List.length_drop, List.length_take]; rfl)) ?_; (with_reducible refine (gooseneckref01_In.calls a0_0 (-16777216) 16777216 false _ A2.out).mono ?_); rintro e w' ⟨rfl, ⟨nd, rfl⟩⟩; refine ⟨_, rfl, ?_⟩))
    go_ret
    exact ⟨by first | rfl | (simp [errW_none, errW_some] <;> rfl) | (simp [*, errW_none, errW_some] <;> rfl), by repeat (first | (with_reducible first | exact HB.out | apply below_alloc | apply pw_below_drewN | apply below_drew1 | refine below_set ?_ GE101.out) | exact HB.out)⟩

end Go.Proofs.Ytegdcnjjelgpjaa.P
namespace Go.Proofs.Ytegdcnjjelgpjaa.P
open Go.RowKit Go.Proofs.YtegdcnjjelgpjaaW.PrintWords Go.Proofs.YtegdcnjjelgpjaaW.PrintLast Go.Proofs.YtegdcnjjelgpjaaW.PrintMore
attribute [local go_sem] max2_int min2_int max_two min_two max_three min_three max_four min_four   -- for this text's walks alone
set_option linter.unusedVariables false
set_option linter.unusedSimpArgs false

/-! ### gooseneckref01_Down: function 80 -/
def gooseneckref01_Down.f (a0 : Int) (a1 : Int) : Option (Int) := if a1 = 0 then (none) else (if (Int.tmod a0 a1) < 0 then (some (wrap64 ((wrap64 (Int.tdiv a0 a1)) - 1))) else (some (wrap64 (Int.tdiv a0 a1))))
set_option maxHeartbeats 8000000 in
set_option maxRecDepth 100000 in
theorem gooseneckref01_Down.calls (a0 : Int) (a1 : Int) (r : Int) (w : World) (h : gooseneckref01_Down.f a0 a1 = some r) :
    Calls Try.prog 80 #[.int .i64 a0, .int .i64 a1] w fun e w' => e = .returned (.int .i64 r) ∧ Drawn0 w w' := by
  have H : (if a1 = 0 then (none) else (if (Int.tmod a0 a1) < 0 then (some (wrap64 ((wrap64 (Int.tdiv a0 a1)) - 1))) else (some (wrap64 (Int.tdiv a0 a1))))) = some r := h
  clear h
  by_cases c3 : a1 = 0
  · rw [if_pos c3] at H
    exact absurd H (by simp)
  · rw [if_neg c3] at H
    have c3b0 : (a1 == 0) = false := beq_eq_false_iff_ne.mpr c3
    have c3b1 : (a1 != 0) = true := bne_iff_ne.mpr c3
    by_cases c4 : (Int.tmod a0 a1) < 0
    · rw [if_pos c4] at H
      have c4b0 : decide ((Int.tmod a0 a1) < 0) = true := decide_eq_true c4
      clear c4
      obtain rfl := Option.some.inj H
      go_enter Try.func80, Try.ntmps80
      go_wp2
      go_ret
      exact ⟨by first | rfl | (simp; done) | (simp [*]; done), by repeat (first | exact Drawn0.refl _ | apply Drawn0.step)⟩
    · rw [if_neg c4] at H
      have c4b0 : decide ((Int.tmod a0 a1) < 0) = false := decide_eq_false c4
      clear c4
      obtain rfl := Option.some.inj H
      go_enter Try.func80, Try.ntmps80
      go_wp2
      go_ret
      exact ⟨by first | rfl | (simp; done) | (simp [*]; done), by repeat (first | exact Drawn0.refl _ | apply Drawn0.step)⟩

end Go.Proofs.Ytegdcnjjelgpjaa.P
namespace Go.Proofs.Ytegdcnjjelgpjaa.P
open Go.RowKit Go.Proofs.YtegdcnjjelgpjaaW.PrintWords Go.Proofs.YtegdcnjjelgpjaaW.PrintLast Go.Proofs.YtegdcnjjelgpjaaW.PrintMore
attribute [local go_sem] max2_int min2_int max_two min_two max_three min_three max_four min_four   -- for this text's walks alone
set_option linter.unusedVariables false
set_option linter.unusedSimpArgs false

/-! ### gooseneckref01_Near: function 81 -/
def gooseneckref01_Near.f (a0 : Int) (a1 : Int) : Option (Int) := (gooseneckref01_Down.f a0 a1).bind fun t101 => (if (wrap64 (2 * (wrap64 (a0 - (wrap64 (t101 * a1)))))) ≥ a1 then (some (wrap64 (t101 + 1))) else (some t101))
set_option maxHeartbeats 8000000 in
set_option maxRecDepth 100000 in
theorem gooseneckref01_Near.calls (a0 : Int) (a1 : Int) (r : Int) (w : World) (h : gooseneckref01_Near.f a0 a1 = some r) :
    Calls Try.prog 81 #[.int .i64 a0, .int .i64 a1] w fun e w' => e = .returned (.int .i64 r) ∧ Drawn0 w w' := by
  have H : ((gooseneckref01_Down.f a0 a1).bind fun t101 => (if (wrap64 (2 * (wrap64 (a0 - (wrap64 (t101 * a1)))))) ≥ a1 then (some (wrap64 (t101 + 1))) else (some t101))) = some r := h
  clear h
  replace H := Option.bind_eq_some_iff.mp H
  obtain ⟨t101, A30, H⟩ := H
  replace H : (if (wrap64 (2 * (wrap64 (a0 - (wrap64 (t101 * a1)))))) ≥ a1 then (some (wrap64 (t101 + 1))) else (some t101)) = some r := H
  have A3 := Aside0.mk A30
  clear A30
  by_cases c4 : (wrap64 (2 * (wrap64 (a0 - (wrap64 (t101 * a1)))))) ≥ a1
  · rw [if_pos c4] at H
    have c4b0 : decide (a1 ≤ (wrap64 (2 * (wrap64 (a0 - (wrap64 (t101 * a1))))))) = true := decide_eq_true c4
    clear c4
    obtain rfl := Option.some.inj H
    go_enter Try.func81, Try.ntmps81
    go_wp2_with (first | ((with_reducible refine gate_callee (f := 80) rfl ?_); refine goesL_ (some 8) rfl rfl Try.func80 (by kernel_rfl) rfl #[.int .i64 a0, .int .i64 a1] rfl (by (try simp only [List.map_toArray, List.map_cons, List.map_nil]); first | done | rfl | (simp only [List.length_drop, List.length_take]; rfl)) ?_; (with_reducible refine (gooseneckref01_Down.calls a0 a1 t101 _ A3.out).mono ?_); rintro e w' ⟨rfl, ⟨nd, rfl⟩⟩; refine ⟨_, rfl, ?_⟩))
    go_ret
    exact ⟨by first | rfl | (simp; done) | (simp [*]; done), by repeat (first | exact Drawn0.refl _ | apply Drawn0.step)⟩
  · rw [if_neg c4] at H
    have c4b0 : decide (a1 ≤ (wrap64 (2 * (wrap64 (a0 - (wrap64 (t101 * a1))))))) = false := decide_eq_false c4
    clear c4
    obtain rfl := Option.some.inj H
    go_enter Try.func81, Try.ntmps81
    go_wp2_with (first | ((with_reducible refine gate_callee (f := 80) rfl ?_); refine goesL_ (some 8) rfl rfl Try.func80 (by kernel_rfl) rfl #[.int .i64 a0, .int .i64 a1] rfl (by (try simp only [List.map_toArray, List.map_cons, List.map_nil]); first | done | rfl | (simp only [List.length_drop, List.length_take]; rfl)) ?_; (with_reducible refine (gooseneckref01_Down.calls a0 a1 t101 _ A3.out).mono ?_); rintro e w' ⟨rfl, ⟨nd, rfl⟩⟩; refine ⟨_, rfl, ?_⟩))
    go_ret
    exact ⟨by first | rfl | (simp; done) | (simp [*]; done), by repeat (first | exact Drawn0.refl _ | apply Drawn0.step)⟩

end Go.Proofs.Ytegdcnjjelgpjaa.P
namespace Go.Proofs.Ytegdcnjjelgpjaa.P
open Go.RowKit Go.Proofs.YtegdcnjjelgpjaaW.PrintWords Go.Proofs.YtegdcnjjelgpjaaW.PrintLast Go.Proofs.YtegdcnjjelgpjaaW.PrintMore
attribute [local go_sem] max2_int min2_int max_two min_two max_three min_three max_four min_four   -- for this text's walks alone
set_option linter.unusedVariables false
set_option linter.unusedSimpArgs false

/-! ### gooseneckref01_Sqrt: function 83 -/
def gooseneckref01_Sqrt.l0 : Nat → Int → Int → Int → Option (Int)
  | 0, _, _, _ => none
  | k + 1, x0, x3, x4 => if x4 > 0 then (if (wrap64 (x3 + x4)) ≤ 3037000499 then (if (wrap64 ((wrap64 (x3 + x4)) * (wrap64 (x3 + x4)))) ≤ x0 then (gooseneckref01_Sqrt.l0 k x0 (wrap64 (x3 + x4)) (wrap64 (Int.tdiv x4 2))) else (gooseneckref01_Sqrt.l0 k x0 x3 (wrap64 (Int.tdiv x4 2)))) else (gooseneckref01_Sqrt.l0 k x0 x3 (wrap64 (Int.tdiv x4 2)))) else (some x3)
def gooseneckref01_Sqrt.f (k : Nat) (a0 : Int) : Option (Int) := gooseneckref01_Sqrt.l0 k a0 0 2147483648
theorem gooseneckref01_Sqrt.mono_l : ∀ k, (∀ y0 y1 y2, LeO (gooseneckref01_Sqrt.l0 k y0 y1 y2) (gooseneckref01_Sqrt.l0 (k + 1) y0 y1 y2))
  | 0 => fun _ _ _ r h => by simp [gooseneckref01_Sqrt.l0] at h
  | k + 1 => by
    have ih0 := gooseneckref01_Sqrt.mono_l k
    · intro y0 y1 y2
      unfold gooseneckref01_Sqrt.l0
      repeat' first
      | (with_reducible exact ih0 _ _ _)
      | (with_reducible exact LeO.refl _)
      | (with_reducible exact LeO.none _)
      | (with_reducible refine LeO.ite ?_ ?_)
      | (with_reducible refine LeO.bind ?_ (fun _ => ?_))
      | exact ih0 _ _ _
      | exact LeO.none _
      | refine LeO.ite ?_ ?_
      | refine LeO.bind ?_ (fun _ => ?_)
theorem gooseneckref01_Sqrt.mono : ∀ a0 k, LeO (gooseneckref01_Sqrt.f k a0) (gooseneckref01_Sqrt.f (k + 1) a0) := by
  intro a0 k
  have ih0 := gooseneckref01_Sqrt.mono_l k
  unfold gooseneckref01_Sqrt.f
  repeat' first
      | (with_reducible exact ih0 _ _ _)
      | (with_reducible exact LeO.refl _)
      | (with_reducible exact LeO.none _)
      | (with_reducible refine LeO.ite ?_ ?_)
      | (with_reducible refine LeO.bind ?_ (fun _ => ?_))
      | exact ih0 _ _ _
      | exact LeO.none _
      | refine LeO.ite ?_ ?_
      | refine LeO.bind ?_ (fun _ => ?_)
set_option maxHeartbeats 8000000 in
set_option maxRecDepth 100000 in
theorem gooseneckref01_Sqrt.calls (k : Nat) (a0 : Int) (r : Int) (w : World) (h : gooseneckref01_Sqrt.f k a0 = some r) :
    Calls Try.prog 83 #[.int .i64 a0] w fun e w' => e = .returned (.int .i64 r) ∧ Drawn0 w w' := by
  have H : (gooseneckref01_Sqrt.l0 k a0 0 2147483648) = some r := h
  clear h
  have H' := Aside0.mk H
  clear H
  go_enter Try.func83, Try.ntmps83
  go_wp2
  go_loopg [3, 4] k (fun kq v3 v4 w' => ∃ (x3_1 : Int) (x4_1 : Int), v3 = .int .i64 x3_1 ∧ v4 = .int .i64 x4_1 ∧ Aside0 (gooseneckref01_Sqrt.l0 kq a0 x3_1 x4_1 = some r) ∧ Aside0 (kq ≤ k) ∧ Drawn0 w w')
  case atStart => exact ⟨(0), (2147483648), (by first | rfl | (simp; done) | (simp [*]; done)), (by first | rfl | (simp; done) | (simp [*]; done)), H', ⟨Nat.le_refl _⟩, by repeat (first | exact Drawn0.refl _ | apply Drawn0.step)⟩
  case round =>
    clear H'
    obtain ⟨x3_1, x4_1, rfl, rfl, HA, HK1, ⟨m1, rfl⟩⟩ := hrel
    cases gk with
    | zero => exact absurd HA.out (by simp [gooseneckref01_Sqrt.l0])
    | succ k1 =>
      have H := HA.out
      clear HA
      simp only [gooseneckref01_Sqrt.l0] at H
      by_cases c2 : x4_1 > 0
      · rw [if_pos c2] at H
        have c2b0 : decide (0 < x4_1) = true := decide_eq_true c2
        clear c2
        by_cases c3 : (wrap64 (x3_1 + x4_1)) ≤ 3037000499
        · rw [if_pos c3] at H
          have c3b0 : decide ((wrap64 (x3_1 + x4_1)) ≤ 3037000499) = true := decide_eq_true c3
          clear c3
          by_cases c4 : (wrap64 ((wrap64 (x3_1 + x4_1)) * (wrap64 (x3_1 + x4_1)))) ≤ a0
          · rw [if_pos c4] at H
            have c4b0 : decide ((wrap64 ((wrap64 (x3_1 + x4_1)) * (wrap64 (x3_1 + x4_1)))) ≤ a0) = true := decide_eq_true c4
            clear c4
            have H' := Aside0.mk H
            clear H
            go_wp2
            go_roundg k1
            case measure => have := HK1.out; omega
            case rel => exact ⟨(wrap64 (x3_1 + x4_1)), (wrap64 (Int.tdiv x4_1 2)), (by first | rfl | (simp; done) | (simp [*]; done)), (by first | rfl | (simp; done) | (simp [*]; done)), H', ⟨by have := HK1.out; omega⟩, by repeat (first | exact Drawn0.refl _ | apply Drawn0.step)⟩
          · rw [if_neg c4] at H
            have c4b0 : decide ((wrap64 ((wrap64 (x3_1 + x4_1)) * (wrap64 (x3_1 + x4_1)))) ≤ a0) = false := decide_eq_false c4
            clear c4
            have H' := Aside0.mk H
            clear H
            go_wp2
            go_roundg k1
            case measure => have := HK1.out; omega
            case rel => exact ⟨(x3_1), (wrap64 (Int.tdiv x4_1 2)), (by first | rfl | (simp; done) | (simp [*]; done)), (by first | rfl | (simp; done) | (simp [*]; done)), H', ⟨by have := HK1.out; omega⟩, by repeat (first | exact Drawn0.refl _ | apply Drawn0.step)⟩
        · rw [if_neg c3] at H
          have c3b0 : decide ((wrap64 (x3_1 + x4_1)) ≤ 3037000499) = false := decide_eq_false c3
          clear c3
          have H' := Aside0.mk H
          clear H
          go_wp2
          go_roundg k1
          case measure => have := HK1.out; omega
          case rel => exact ⟨(x3_1), (wrap64 (Int.tdiv x4_1 2)), (by first | rfl | (simp; done) | (simp [*]; done)), (by first | rfl | (simp; done) | (simp [*]; done)), H', ⟨by have := HK1.out; omega⟩, by repeat (first | exact Drawn0.refl _ | apply Drawn0.step)⟩
      · rw [if_neg c2] at H
        have c2b0 : decide (0 < x4_1) = false := decide_eq_false c2
        clear c2
        obtain rfl := Option.some.inj H
        go_wp2
        go_ret
        exact ⟨by first | rfl | (simp; done) | (simp [*]; done), by repeat (first | exact Drawn0.refl _ | apply Drawn0.step)⟩

end Go.Proofs.Ytegdcnjjelgpjaa.P
namespace Go.Proofs.Ytegdcnjjelgpjaa.P
open Go.RowKit Go.Proofs.YtegdcnjjelgpjaaW.PrintWords Go.Proofs.YtegdcnjjelgpjaaW.PrintLast Go.Proofs.YtegdcnjjelgpjaaW.PrintMore

theorem works_ev : Ev goosenecklaw01_works.f true := Ev.of goosenecklaw01_works.mono (k := 40) (by decide +kernel)

theorem w64 {x : Int} (h0 : -9223372036854775808 ≤ x) (h1 : x ≤ 9223372036854775807) : wrap64 x = x := by unfold wrap64; omega
theorem wu64 {x : Int} (h0 : 0 ≤ x) (h1 : x < 18446744073709551616) : IntKind.u64.wrap x = x := by
  simp [IntKind.wrap, IntKind.bits, IntKind.signed]; omega

def inR (x lo hi : Int) : Bool := decide (lo ≤ x) && decide (x ≤ hi)
theorem inR_iff {x lo hi : Int} : inR x lo hi = true ↔ lo ≤ x ∧ x ≤ hi := by simp [inR]
theorem within_eq (x lo hi : Int) : plane_within.f x lo hi = some (inR x lo hi) := by
  unfold plane_within.f inR; split <;> rename_i h <;> simp [h]
theorem In_eq (x lo hi : Int) : gooseneckref01_In.f x lo hi = some (inR x lo hi) := by
  unfold gooseneckref01_In.f inR; split <;> rename_i h
  · have : lo ≤ x := h
    simp [this]
  · have : ¬ lo ≤ x := h
    simp [this]

/-- A point is valid. -/
def isP (x y : Int) : Bool := inR x (-16777216) 16777216 && inR y (-16777216) 16777216
theorem isP_iff {x y : Int} : isP x y = true ↔ (-16777216 ≤ x ∧ x ≤ 16777216) ∧ (-16777216 ≤ y ∧ y ≤ 16777216) := by simp [isP, inR]
theorem Is_eq (x y : Int) : gooseneckref01_Is.f x y = some (isP x y) := by
  unfold gooseneckref01_Is.f isP
  rw [In_eq, In_eq]
  cases inR x (-16777216) 16777216 <;> simp

theorem valid_loop (l : List S23) (hl : (l.length : Int) < 9223372036854775807) (d : Nat) : ∀ (i : Nat), l.length - i = d → i ≤ l.length →
    Ev (fun k => plane_valid.l0 k l (l.length : Int) (i : Int)) ((l.drop i).all fun p => isP p.f0 p.f1) := by
  induction d with
  | zero =>
    intro i hd hi
    have he : i = l.length := by omega
    subst he
    refine Ev.step (f := fun _ => some true) (fun k => ?_) (by simpa using Ev.now true)
    simp only [plane_valid.l0]
    rw [if_neg (by omega)]
  | succ d ih =>
    intro i hd hi
    have hlt : i < l.length := by omega
    have hrd : rd_T23 l (i : Int) = l[i] := by
      simp only [rd_T23, Int.toNat_natCast, List.getD_eq_getElem?_getD, List.getElem?_eq_getElem hlt, Option.getD_some]
    have hdrop : l.drop i = l[i] :: l.drop (i + 1) := List.drop_eq_getElem_cons hlt
    have hw : wrap64 ((i : Int) + 1) = ((i + 1 : Nat) : Int) := by rw [w64 (by omega) (by omega)]; rfl
    refine Ev.step (f := fun k => if isP l[i].f0 l[i].f1 = true then plane_valid.l0 k l (l.length : Int) ((i + 1 : Nat) : Int) else some false) (fun k => ?_) ?_
    · simp only [plane_valid.l0]
      rw [if_pos (by omega), if_pos (by omega), if_pos (by omega), hrd, hw, within_eq, within_eq]
      simp only [Option.bind_some, isP]
      rcases Bool.eq_false_or_eq_true (inR l[i].f0 (-16777216) 16777216) with h | h
      · simp only [h, if_true, Bool.true_and]
      · simp [h]
    · rw [hdrop, List.all_cons]
      cases hp : isP l[i].f0 l[i].f1
      · simpa using Ev.now false
      · simpa using ih (i + 1) (by omega) (by omega)
theorem valid_ev (l : List S23) (hl : (l.length : Int) < 9223372036854775807) : Ev (fun k => plane_valid.f k l) (l.all fun p => isP p.f0 p.f1) := by
  have := valid_loop l hl l.length 0 (by omega) (by omega)
  simpa [plane_valid.f] using this
theorem valid1 (x y : Int) : Ev (fun k => plane_valid.f k [⟨x, y⟩]) (isP x y) := by simpa using valid_ev [⟨x, y⟩] (by simp)
theorem valid2 (x y u v : Int) : Ev (fun k => plane_valid.f k [⟨x, y⟩, ⟨u, v⟩]) (isP x y && isP u v) := by simpa using valid_ev [⟨x, y⟩, ⟨u, v⟩] (by simp)
theorem valid3 (x y u v s t : Int) : Ev (fun k => plane_valid.f k [⟨x, y⟩, ⟨u, v⟩, ⟨s, t⟩]) (isP x y && (isP u v && isP s t)) := by simpa using valid_ev [⟨x, y⟩, ⟨u, v⟩, ⟨s, t⟩] (by simp)

/-! ### the root -/
def IsRoot (n r : Int) : Prop := 0 ≤ r ∧ r * r ≤ n ∧ n < (r + 1) * (r + 1)
theorem IsRoot.unique {n r s : Int} (h : IsRoot n r) (k : IsRoot n s) : r = s := by
  obtain ⟨h0, h1, h2⟩ := h
  obtain ⟨k0, k1, k2⟩ := k
  have a : r < s + 1 := by
    rcases Int.lt_or_le r (s + 1) with h | h
    · exact h
    · have := Int.mul_le_mul h h (by omega) h0; omega
  have b : s < r + 1 := by
    rcases Int.lt_or_le s (r + 1) with h | h
    · exact h
    · have := Int.mul_le_mul h h (by omega) k0; omega
  omega
/-- the powers -/
def p2 (j : Nat) : Int := ((2 ^ j : Nat) : Int)
theorem p2_succ (j : Nat) : p2 (j + 1) = 2 * p2 j := by unfold p2; rw [Nat.pow_succ]; push_cast; omega
theorem p2_pos (j : Nat) : 1 ≤ p2 j := by unfold p2; have := Nat.one_le_two_pow (n := j); omega
theorem p2_add (i j : Nat) : p2 (i + j) = p2 i * p2 j := by unfold p2; rw [Nat.pow_add]; push_cast; rfl
theorem p2_mono {i j : Nat} (h : i ≤ j) : p2 i ≤ p2 j := by unfold p2; exact_mod_cast Nat.pow_le_pow_right (by omega) h
theorem shl_one (m : Nat) (h : m ≤ 62) : shl .u64 1 (m : Int) = p2 m := by
  have h1 := p2_mono h
  have h2 : p2 62 = 4611686018427387904 := by decide +kernel
  have h3 := p2_pos m
  unfold shl
  rw [Int.toNat_natCast, Nat.min_eq_left (by simp [IntKind.bits]; omega), Int.one_mul]
  rw [show (2 : Int) ^ m = p2 m by unfold p2; push_cast; rfl, wu64 (by omega) (by omega)]

/-- At the head of round 31-j (bit 4^j, j counted down by 'j+1' rounds still to go): root so far P, a multiple of 2^(j+1). -/
theorem root_loop (n : Int) (hn0 : 0 ≤ n) (hn : n ≤ 9223372036854775807) : ∀ (j : Nat) (m P : Int), j ≤ 32 → 0 ≤ m → P = m * p2 j → P * P ≤ n → n < (P + p2 j) * (P + p2 j) → P + p2 j ≤ 4294967296 →
    ∃ r, IsRoot n r ∧ Ev (fun k => plane_root.l0 k (n - P * P) (P * p2 j) ((32 - j : Nat) : Int)) r := by
  intro j
  induction j with
  | zero =>
    intro m P hj hm hP h1 h2 h3
    have h0 : p2 0 = 1 := rfl
    rw [h0] at h2 h3 hP
    have hP0 : 0 ≤ P := by omega
    refine ⟨P, ⟨hP0, h1, h2⟩, ?_⟩
    refine Ev.step (f := fun _ => some P) (fun k => ?_) (Ev.now P)
    simp only [plane_root.l0]
    rw [if_neg (by omega), h0, Int.mul_one, w64 (by omega) (by omega)]
  | succ j ih =>
    intro m P hj hm hP h1 h2 h3
    have hs := p2_succ j
    have hp := p2_pos j
    have hP0 : 0 ≤ P := by rw [hP]; exact Int.mul_nonneg hm (by omega)
    have hb : p2 (2 * j) = p2 j * p2 j := by rw [show 2 * j = j + j by omega, p2_add]
    have hbit : wrap64 (62 - wrap64 (2 * ((32 - (j + 1) : Nat) : Int))) = ((2 * j : Nat) : Int) := by
      rw [w64 (x := 2 * _) (by omega) (by omega), w64 (by omega) (by omega)]; omega
    have hsh := shl_one (2 * j) (by omega)
    have hlt : P + p2 j ≤ 4294967296 - p2 j := by omega
    have hsq : (P + p2 j) * (P + p2 j) < 18446744073709551616 := by
      have h5 : P + p2 j ≤ 4294967295 := by omega
      have := Int.mul_le_mul h5 h5 (by omega) (by omega)
      omega
    have hex : (P + p2 j) * (P + p2 j) = P * P + P * p2 (j + 1) + p2 j * p2 j := by rw [hs]; grind
    have hPP : 0 ≤ P * P := Int.mul_nonneg hP0 hP0
    have hPb : 0 ≤ P * p2 (j + 1) := Int.mul_nonneg hP0 (by omega)
    have hjj : 0 ≤ p2 j * p2 j := Int.mul_nonneg (by omega) (by omega)
    have hhalf : P * p2 (j + 1) / 2 = P * p2 j := by rw [hs, show P * (2 * p2 j) = 2 * (P * p2 j) by grind]; omega
    have hPj : 0 ≤ P * p2 j := Int.mul_nonneg hP0 (by omega)
    have hnext : P * p2 (j + 1) = 2 * (P * p2 j) := by rw [hs]; grind
    have hidx : wrap64 (((32 - (j + 1) : Nat) : Int) + 1) = ((32 - j : Nat) : Int) := by rw [w64 (by omega) (by omega)]; omega
    have hsum : IntKind.u64.wrap (P * p2 (j + 1) + p2 (2 * j)) = P * p2 (j + 1) + p2 j * p2 j := by rw [hb, wu64 (by omega) (by omega)]
    by_cases hc : n - P * P ≥ P * p2 (j + 1) + p2 j * p2 j
    · obtain ⟨r, hr, he⟩ := ih (2 * m + 1) (P + p2 j) (by omega) (by omega) (by rw [hP, hs]; grind) (by omega) (by rw [show P + p2 j + p2 j = P + p2 (j + 1) by omega]; exact h2) (by omega)
      refine ⟨r, hr, Ev.step (f := fun k => plane_root.l0 k (n - (P + p2 j) * (P + p2 j)) ((P + p2 j) * p2 j) ((32 - j : Nat) : Int)) (fun k => ?_) he⟩
      simp only [plane_root.l0]
      rw [hbit, hsh, if_pos (by omega), if_pos (by omega), hsum, if_pos hc, hidx, hhalf, hb]
      rw [wu64 (x := n - P * P - _) (by omega) (by omega), wu64 (by omega) (by omega)]
      congr 1
      · omega
      · grind
    · obtain ⟨r, hr, he⟩ := ih (2 * m) P (by omega) (by omega) (by rw [hP, hs]; grind) h1 (by omega) (by omega)
      refine ⟨r, hr, Ev.step (f := fun k => plane_root.l0 k (n - P * P) (P * p2 j) ((32 - j : Nat) : Int)) (fun k => ?_) he⟩
      simp only [plane_root.l0]
      rw [hbit, hsh, if_pos (by omega), if_pos (by omega), hsum, if_neg hc, hidx, hhalf]
theorem root_ev (n : Int) (hn0 : 0 ≤ n) (hn : n ≤ 9223372036854775807) : ∃ r, IsRoot n r ∧ Ev (fun k => plane_root.f k n) r := by
  have h32 : p2 32 = 4294967296 := by decide +kernel
  obtain ⟨r, hr, he⟩ := root_loop n hn0 hn 32 0 0 (by omega) (by omega) (by omega) (by omega) (by rw [h32]; omega) (by omega)
  refine ⟨r, hr, Ev.congr (fun k => ?_) he⟩
  unfold plane_root.f
  rw [wu64 hn0 (by omega)]
  simp

theorem sqrt_loop (n : Int) (hn0 : 0 ≤ n) (hn : n ≤ 9223372036854775807) : ∀ (j : Nat) (P : Int), j ≤ 32 → 0 ≤ P → P * P ≤ n → n < (P + p2 j) * (P + p2 j) → P ≤ 3037000499 →
    ∃ r, IsRoot n r ∧ Ev (fun k => gooseneckref01_Sqrt.l0 k n P (p2 j / 2)) r := by
  intro j
  induction j with
  | zero =>
    intro P hj hP0 h1 h2 h3
    have h0 : p2 0 = 1 := rfl
    rw [h0] at h2 ⊢
    refine ⟨P, ⟨hP0, h1, h2⟩, ?_⟩
    refine Ev.step (f := fun _ => some P) (fun k => ?_) (Ev.now P)
    simp only [gooseneckref01_Sqrt.l0]
    rw [if_neg (by omega)]
  | succ j ih =>
    intro P hj hP0 h1 h2 h3
    have hs := p2_succ j
    have hp := p2_pos j
    have hm := p2_mono (show j ≤ 31 by omega)
    have h31 : p2 31 = 2147483648 := by decide +kernel
    have hd : p2 (j + 1) / 2 = p2 j := by omega
    have ht : wrap64 (Int.tdiv (p2 j) 2) = p2 j / 2 := by rw [Int.tdiv_eq_ediv_of_nonneg (by omega), w64 (by omega) (by omega)]
    rw [hd]
    have hx : wrap64 (P + p2 j) = P + p2 j := w64 (by omega) (by omega)
    have hskip : n < (P + p2 j) * (P + p2 j) → (∀ k, gooseneckref01_Sqrt.l0 (k + 1) n P (p2 j) = gooseneckref01_Sqrt.l0 k n P (p2 j / 2)) → ∃ r, IsRoot n r ∧ Ev (fun k => gooseneckref01_Sqrt.l0 k n P (p2 j)) r := by
      intro h hk
      obtain ⟨r, hr, he⟩ := ih P (by omega) hP0 h1 h h3
      exact ⟨r, hr, Ev.step hk he⟩
    by_cases hc : P + p2 j ≤ 3037000499
    · have hsq : (P + p2 j) * (P + p2 j) ≤ 9223372036854775807 := by
        have := Int.mul_le_mul hc hc (by omega) (by omega)
        omega
      have hsq0 : 0 ≤ (P + p2 j) * (P + p2 j) := Int.mul_nonneg (by omega) (by omega)
      by_cases hc2 : (P + p2 j) * (P + p2 j) ≤ n
      · obtain ⟨r, hr, he⟩ := ih (P + p2 j) (by omega) (by omega) hc2 (by rw [show P + p2 j + p2 j = P + p2 (j + 1) by omega]; exact h2) hc
        refine ⟨r, hr, Ev.step (f := fun k => gooseneckref01_Sqrt.l0 k n (P + p2 j) (p2 j / 2)) (fun k => ?_) he⟩
        simp only [gooseneckref01_Sqrt.l0]
        rw [if_pos (by omega), hx, if_pos hc, w64 (by omega) hsq, if_pos hc2, ht]
      · refine hskip (by omega) (fun k => ?_)
        simp only [gooseneckref01_Sqrt.l0]
        rw [if_pos (by omega), hx, if_pos hc, w64 (by omega) hsq, if_neg hc2, ht]
    · refine hskip ?_ (fun k => ?_)
      · have h4 : 3037000500 ≤ P + p2 j := by omega
        have := Int.mul_le_mul h4 h4 (by omega) (by omega)
        omega
      · simp only [gooseneckref01_Sqrt.l0]
        rw [if_pos (by omega), hx, if_neg hc, ht]
theorem sqrt_ev (n : Int) (hn0 : 0 ≤ n) (hn : n ≤ 9223372036854775807) : ∃ r, IsRoot n r ∧ Ev (fun k => gooseneckref01_Sqrt.f k n) r := by
  have h32 : p2 32 = 4294967296 := by decide +kernel
  obtain ⟨r, hr, he⟩ := sqrt_loop n hn0 hn 32 0 (by omega) (by omega) (by omega) (by rw [h32]; omega) (by omega)
  rw [h32] at he
  exact ⟨r, hr, he⟩
/-- Both roots are one number. -/
theorem roots_ev (n : Int) (hn0 : 0 ≤ n) (hn : n ≤ 9223372036854775807) : ∃ r, IsRoot n r ∧ Ev (fun k => plane_root.f k n) r ∧ Ev (fun k => gooseneckref01_Sqrt.f k n) r := by
  obtain ⟨r, hr, he⟩ := root_ev n hn0 hn
  obtain ⟨s, hs, hf⟩ := sqrt_ev n hn0 hn
  obtain rfl := hr.unique hs
  exact ⟨r, hr, he, hf⟩

/-! ### rounded down, nearest -/
theorem div_of {n d q : Int} (hd : 1 ≤ d) (h1 : d * q ≤ n) (h2 : n < d * q + d) : n / d = q := by
  have e : n = (n - d * q) + d * q := by omega
  rw [e, Int.add_mul_ediv_left _ _ (by omega), Int.ediv_eq_zero_of_lt (by omega) (by omega)]
  omega
theorem div_bd (n d : Int) (hd : 1 ≤ d) : d * (n / d) ≤ n ∧ n < d * (n / d) + d := by
  have e1 := Int.mul_ediv_add_emod n d
  have e2 := Int.emod_nonneg n (show d ≠ 0 by omega)
  have e3 := Int.emod_lt_of_pos n (show 0 < d by omega)
  omega
theorem div_ge {n d b : Int} (hd : 1 ≤ d) (h : b * d ≤ n) : b ≤ n / d := (Int.le_ediv_iff_mul_le (by omega)).2 h
theorem div_lt {n d b : Int} (hd : 1 ≤ d) (h : n < b * d) : n / d < b := (Int.ediv_lt_iff_lt_mul (by omega)).2 h
theorem down_key (n d : Int) (hd : 1 ≤ d) (hn0 : -9223372036854775808 < n) (hn1 : n ≤ 9223372036854775807) : (if d = 0 then (none : Option Int) else (if (Int.tmod n d) < 0 then (some (wrap64 ((wrap64 (Int.tdiv n d)) - 1))) else (some (wrap64 (Int.tdiv n d))))) = some (n / d) := by
  rw [if_neg (by omega)]
  by_cases hneg : 0 ≤ n
  · have h1 : Int.tdiv n d = n / d := Int.tdiv_eq_ediv_of_nonneg hneg
    have h2 : Int.tmod n d = n % d := Int.tmod_eq_emod_of_nonneg hneg
    have h3 : 0 ≤ n / d := Int.ediv_nonneg hneg (by omega)
    have h4 : n / d ≤ n := Int.ediv_le_self _ hneg
    have e2 := Int.emod_nonneg n (show d ≠ 0 by omega)
    rw [h1, h2, if_neg (by omega), w64 (by omega) (by omega)]
  · obtain ⟨m, rfl⟩ : ∃ m, n = -m := ⟨-n, by omega⟩
    have h1 : Int.tdiv (-m) d = -(m / d) := by
      rw [← Int.tdiv_eq_ediv_of_nonneg (a := m) (by omega), Int.neg_tdiv]
    have h2 : Int.tmod (-m) d = -(m % d) := by
      rw [← Int.tmod_eq_emod_of_nonneg (a := m) (by omega), Int.neg_tmod]
    have f1 := Int.mul_ediv_add_emod m d
    have f2 := Int.emod_nonneg m (show d ≠ 0 by omega)
    have f3 := Int.emod_lt_of_pos m (show 0 < d by omega)
    have h3 : 0 ≤ m / d := Int.ediv_nonneg (by omega) (by omega)
    have h4 : m / d ≤ m := Int.ediv_le_self _ (by omega)
    rw [h1, h2]
    generalize hq : m / d = q at *
    generalize hr : m % d = r at *
    by_cases hz : r = 0
    · rw [if_neg (by omega), w64 (by omega) (by omega), div_of (q := -q) hd (by rw [Int.mul_neg]; omega) (by rw [Int.mul_neg]; omega)]
    · rw [if_pos (by omega), w64 (x := -q) (by omega) (by omega), w64 (by omega) (by omega), div_of (q := -q - 1) hd (by rw [Int.mul_sub, Int.mul_neg]; omega) (by rw [Int.mul_sub, Int.mul_neg]; omega)]
theorem down_eq (n d : Int) (hd : 1 ≤ d) (hn0 : -9223372036854775808 < n) (hn1 : n ≤ 9223372036854775807) : plane_down.f n d = some (n / d) := down_key n d hd hn0 hn1
theorem Down_eq (n d : Int) (hd : 1 ≤ d) (hn0 : -9223372036854775808 < n) (hn1 : n ≤ 9223372036854775807) : gooseneckref01_Down.f n d = some (n / d) := down_key n d hd hn0 hn1
/-- The nearest whole number. -/
def nearI (n d : Int) : Int := if 2 * (n - n / d * d) ≥ d then n / d + 1 else n / d
theorem near_eq (n d : Int) (hd : 1 ≤ d) (hd1 : d ≤ 4611686018427387904) (hn0 : -9223372036854775808 < n) (hn1 : n ≤ 9223372036854775806) : plane_near.f n d = some (nearI n d) := by
  have hb := div_bd n d hd
  have hm : n / d * d = d * (n / d) := Int.mul_comm _ _
  have h1 : n / d ≤ 9223372036854775806 := by
    have := div_lt (b := 9223372036854775807) hd (show n < 9223372036854775807 * d by omega); omega
  have h2 : -9223372036854775808 ≤ n / d := div_ge hd (by omega)
  unfold plane_near.f nearI
  rw [down_eq n d hd hn0 (by omega), Option.bind_some]
  by_cases hlow : -9223372036854775808 ≤ n / d * d
  · rw [w64 (x := n / d * d) hlow (by omega), w64 (x := n - _) (by omega) (by omega), w64 (x := d - _) (by omega) (by omega), w64 (x := n / d + 1) (by omega) (by omega)]
    by_cases hc : 2 * (n - n / d * d) ≥ d
    · rw [if_pos (by omega), if_pos hc]
    · rw [if_neg (by omega), if_neg hc]
  · have hw : wrap64 (n / d * d) = n / d * d + 18446744073709551616 := by unfold wrap64; omega
    have hw2 : wrap64 (n - wrap64 (n / d * d)) = n - n / d * d := by rw [hw]; unfold wrap64; omega
    rw [hw2, w64 (x := d - _) (by omega) (by omega), w64 (x := n / d + 1) (by omega) (by omega)]
    by_cases hc : 2 * (n - n / d * d) ≥ d
    · rw [if_pos (by omega), if_pos hc]
    · rw [if_neg (by omega), if_neg hc]
theorem Near_eq (n d : Int) (hd : 1 ≤ d) (hd1 : d ≤ 4611686018427387904) (hn0 : -9223372036854775808 < n) (hn1 : n ≤ 9223372036854775806) : gooseneckref01_Near.f n d = some (nearI n d) := by
  have hb := div_bd n d hd
  have hm : n / d * d = d * (n / d) := Int.mul_comm _ _
  have h1 : n / d ≤ 9223372036854775806 := by
    have := div_lt (b := 9223372036854775807) hd (show n < 9223372036854775807 * d by omega); omega
  have h2 : -9223372036854775808 ≤ n / d := div_ge hd (by omega)
  unfold gooseneckref01_Near.f nearI
  rw [Down_eq n d hd hn0 (by omega), Option.bind_some]
  have hw2 : wrap64 (n - wrap64 (n / d * d)) = n - n / d * d := by
    by_cases hlow : -9223372036854775808 ≤ n / d * d
    · rw [w64 (x := n / d * d) hlow (by omega), w64 (x := n - _) (by omega) (by omega)]
    · have hw : wrap64 (n / d * d) = n / d * d + 18446744073709551616 := by unfold wrap64; omega
      rw [hw]; unfold wrap64; omega
  rw [hw2, w64 (x := 2 * _) (by omega) (by omega), w64 (x := n / d + 1) (by omega) (by omega)]
  by_cases hc : 2 * (n - n / d * d) ≥ d
  · rw [if_pos hc, if_pos hc]
  · rw [if_neg hc, if_neg hc]
end Go.Proofs.Ytegdcnjjelgpjaa.P
namespace Go.Proofs.Ytegdcnjjelgpjaa.P
open Go.RowKit Go.Proofs.YtegdcnjjelgpjaaW.PrintWords Go.Proofs.YtegdcnjjelgpjaaW.PrintLast Go.Proofs.YtegdcnjjelgpjaaW.PrintMore
attribute [local go_sem] max2_int min2_int max_two min_two max_three min_three max_four min_four   -- for this text's walks alone
set_option linter.unusedVariables false
set_option linter.unusedSimpArgs false

/-! ### gooseneckref01_Far: function 87 -/
def gooseneckref01_Far.f (k : Nat) (a0_0 : Int) (a0_1 : Int) (a1_0 : Int) (a1_1 : Int) : Option (Int) := (gooseneckref01_Sqrt.f k (wrap64 ((wrap64 ((wrap64 (a1_0 - a0_0)) * (wrap64 (a1_0 - a0_0)))) + (wrap64 ((wrap64 (a1_1 - a0_1)) * (wrap64 (a1_1 - a0_1))))))).bind fun t103 => (some t103)
theorem gooseneckref01_Far.mono : ∀ a0 a1 a2 a3 k, LeO (gooseneckref01_Far.f k a0 a1 a2 a3) (gooseneckref01_Far.f (k + 1) a0 a1 a2 a3) := by
  intro a0 a1 a2 a3 k
  unfold gooseneckref01_Far.f
  repeat' first
      | (with_reducible exact gooseneckref01_Sqrt.mono _ _)
      | (with_reducible exact LeO.refl _)
      | (with_reducible exact LeO.none _)
      | (with_reducible refine LeO.ite ?_ ?_)
      | (with_reducible refine LeO.bind ?_ (fun _ => ?_))
      | exact gooseneckref01_Sqrt.mono _ _
      | exact LeO.none _
      | refine LeO.ite ?_ ?_
      | refine LeO.bind ?_ (fun _ => ?_)
set_option maxHeartbeats 8000000 in
set_option maxRecDepth 100000 in
theorem gooseneckref01_Far.calls (k : Nat) (a0_0 : Int) (a0_1 : Int) (a1_0 : Int) (a1_1 : Int) (r : Int) (w : World) (h : gooseneckref01_Far.f k a0_0 a0_1 a1_0 a1_1 = some r) :
    Calls Try.prog 87 #[.agg #[.int .i64 a0_0, .int .i64 a0_1], .agg #[.int .i64 a1_0, .int .i64 a1_1]] w fun e w' => e = .returned (.int .i64 r) ∧ Below w.heap.size w w' := by
  have hu23 := Try.underlying23
  have HB := Aside0.mk (Below.refl w.heap.size w)
  have H : ((gooseneckref01_Sqrt.f k (wrap64 ((wrap64 ((wrap64 (a1_0 - a0_0)) * (wrap64 (a1_0 - a0_0)))) + (wrap64 ((wrap64 (a1_1 - a0_1)) * (wrap64 (a1_1 - a0_1))))))).bind fun t103 => (some t103)) = some r := h
  clear h
  replace H := Option.bind_eq_some_iff.mp H
  obtain ⟨t103, A30, H⟩ := H
  replace H : (some t103) = some r := H
  have A3 := Aside0.mk A30
  clear A30
  obtain rfl := Option.some.inj H
  go_enter Try.func87, Try.ntmps87
  go_wp2_with (first | ((with_reducible refine gate_dst (N := 2) rfl ?_); refine box_event ?hg (N := 2) ?hd (cs := #[.int .i64 a0_0, .int .i64 a0_1]) (t := 23) ?hr ?_; (case hd => rfl); (case hg => rfl); (case hr => first | (go_simp; done) | (go_simp; rfl)); intro gb101 hg w4 hbox hb; have n0_ := Aside0.mk (below_step (by repeat (first | (with_reducible first | exact HB.out | apply below_alloc | apply pw_below_drewN | apply below_drew1) | exact HB.out)) hb); have n1_ := Aside0.mk (hbox); have n2_ := Aside0.mk ((by rw [hg]; exact (below_size (by repeat (first | (with_reducible first | exact HB.out | apply below_alloc | apply pw_below_drewN | apply below_drew1) | exact HB.out))) : w.heap.size ≤ gb101)); have n3_ := Aside0.mk ((by rw [hg]; exact (below_size (by repeat (first | (with_reducible first | exact HB.out | apply below_alloc | apply pw_below_drewN | apply below_drew1) | exact HB.out))) : w.heap.size ≤ gb101)); clear HB; have HB := n0_; have BK101 := n1_; have GW101 := n2_; have GE101 := n3_; clear n0_ n1_ n2_ n3_; clear hb hbox hg) | ((with_reducible refine gate_dst (N := 3) rfl ?_); refine box_event ?hg (N := 3) ?hd (cs := #[.int .i64 a1_0, .int .i64 a1_1]) (t := 23) ?hr ?_; (case hd => rfl); (case hg => rfl); (case hr => first | (go_simp; done) | (go_simp; rfl)); intro gb102 hg w5 hbox hb; have n0_ := Aside0.mk (blk_below (g := gb101) (o := .cells #[.int .i64 a0_0, .int .i64 a0_1] 23 (0, 0)) (by (with_reducible repeat (first | refine blk_drewN ?_ _ | refine blk_drew ?_ | refine blk_alloc ?_ _)); exact BK101.out) hb); have n1_ := Aside0.mk (below_step (by repeat (first | (with_reducible first | exact HB.out | apply below_alloc | apply pw_below_drewN | apply below_drew1 | refine below_set ?_ GE101.out) | exact HB.out)) hb); have n2_ := Aside0.mk (hbox); have n3_ := Aside0.mk ((by rw [hg]; exact (below_size (by repeat (first | (with_reducible first | exact HB.out | apply below_alloc | apply pw_below_drewN | apply below_drew1 | refine below_set ?_ GE101.out) | exact HB.out))) : w.heap.size ≤ gb102)); have n4_ := Aside0.mk ((by rw [hg]; exact (below_size (by repeat (first | (with_reducible first | exact HB.out | apply below_alloc | apply pw_below_drewN | apply below_drew1 | refine below_set ?_ GE101.out) | exact HB.out))) : w.heap.size ≤ gb102)); have n5_ := Aside0.mk ((by rw [hg]; exact Nat.ne_of_lt (blk_lt (g := gb101) (o := .cells #[.int .i64 a0_0, .int .i64 a0_1] 23 (0, 0)) (by (with_reducible repeat (first | refine blk_drewN ?_ _ | refine blk_drew ?_ | refine blk_alloc ?_ _)); exact BK101.out)) : gb101 ≠ gb102)); have n6_ := Aside0.mk ((by rw [hg]; exact Nat.ne_of_gt (blk_lt (g := gb101) (o := .cells #[.int .i64 a0_0, .int .i64 a0_1] 23 (0, 0)) (by (with_reducible repeat (first | refine blk_drewN ?_ _ | refine blk_drew ?_ | refine blk_alloc ?_ _)); exact BK101.out)) : gb102 ≠ gb101)); clear BK101; clear HB; have BK101 := n0_; have HB := n1_; have BK102 := n2_; have GW102 := n3_; have GE102 := n4_; have NB101_102 := n5_; have NB102_101 := n6_; clear n0_ n1_ n2_ n3_ n4_ n5_ n6_; clear hb hbox hg; have hnb6 := NB102_101.out; have hnc6 := NB101_102.out; have hcz7_0 : w5.cell? ⟨gb102, 0, none⟩ = some (.int .i64 a1_0) := (blk_cell BK102.out 0).trans rfl; have hcz7_1 : w5.cell? ⟨gb102, 1, none⟩ = some (.int .i64 a1_1) := (blk_cell BK102.out 1).trans rfl; have hfz7_0 := blk_frozen BK102.out 0; have hfz7_1 := blk_frozen BK102.out 1; have hcz8_0 : w5.cell? ⟨gb101, 0, none⟩ = some (.int .i64 a0_0) := (blk_cell BK101.out 0).trans rfl; have hcz8_1 : w5.cell? ⟨gb101, 1, none⟩ = some (.int .i64 a0_1) := (blk_cell BK101.out 1).trans rfl; have hfz8_0 := blk_frozen BK101.out 0; have hfz8_1 := blk_frozen BK101.out 1) | ((with_reducible refine gate_callee (f := 83) rfl ?_); refine goesL_ (some 28) rfl rfl Try.func83 (by kernel_rfl) rfl #[.int .i64 (wrap64 ((wrap64 ((wrap64 (a1_0 - a0_0)) * (wrap64 (a1_0 - a0_0)))) + (wrap64 ((wrap64 (a1_1 - a0_1)) * (wrap64 (a1_1 - a0_1))))))] rfl (by (try simp only [List.map_toArray, List.map_cons, List.map_nil]); first | done | rfl | (simp only [List.length_drop, List.length_take]; rfl)) ?_; (with_reducible refine (gooseneckref01_Sqrt.calls k (wrap64 ((wrap64 ((wrap64 (a1_0 - a0_0)) * (wrap64 (a1_0 - a0_0)))) + (wrap64 ((wrap64 (a1_1 - a0_1)) * (wrap64 (a1_1 - a0_1)))))) t103 _ A3.out).mono ?_); rintro e w' ⟨rfl, ⟨nd, rfl⟩⟩; refine ⟨_, rfl, ?_⟩))
  go_ret
  exact ⟨by first | rfl | (simp [errW_none, errW_some] <;> rfl) | (simp [*, errW_none, errW_some] <;> rfl), by repeat (first | (with_reducible first | exact HB.out | apply below_alloc | apply pw_below_drewN | apply below_drew1 | refine below_set ?_ GE101.out | refine below_set ?_ GE102.out) | exact HB.out)⟩

end Go.Proofs.Ytegdcnjjelgpjaa.P
namespace Go.Proofs.Ytegdcnjjelgpjaa.P
open Go.RowKit Go.Proofs.YtegdcnjjelgpjaaW.PrintWords Go.Proofs.YtegdcnjjelgpjaaW.PrintLast Go.Proofs.YtegdcnjjelgpjaaW.PrintMore

/-- The distances of points of moderate size. -/
theorem far_both (a b c d B : Int) (hB : 0 ≤ B) (hB1 : B ≤ 1000000000) (h1 : -B ≤ c - a) (h2 : c - a ≤ B) (h3 : -B ≤ d - b) (h4 : d - b ≤ B) :
    ∃ r, IsRoot ((c - a) * (c - a) + (d - b) * (d - b)) r ∧ Ev (fun k => plane_far.f k a b c d) r ∧ Ev (fun k => gooseneckref01_Far.f k a b c d) r := by
  have key : ∀ x : Int, -B ≤ x → x ≤ B → 0 ≤ x * x ∧ x * x ≤ 1000000000000000000 := by
    intro x hx hy
    have h0 : 0 ≤ x * x := by
      rcases Int.le_total 0 x with h | h
      · exact Int.mul_nonneg h h
      · exact Int.mul_nonneg_of_nonpos_of_nonpos h h
    refine ⟨h0, ?_⟩
    rcases Int.le_total 0 x with h | h
    · have := Int.mul_le_mul (show x ≤ 1000000000 by omega) (show x ≤ 1000000000 by omega) h (by omega)
      omega
    · have := Int.mul_le_mul (show -x ≤ 1000000000 by omega) (show -x ≤ 1000000000 by omega) (by omega) (by omega)
      rw [Int.neg_mul_neg] at this
      omega
  obtain ⟨p0, p1⟩ := key (c - a) h1 h2
  obtain ⟨q0, q1⟩ := key (d - b) h3 h4
  obtain ⟨r, hr, e1, e2⟩ := roots_ev ((c - a) * (c - a) + (d - b) * (d - b)) (by omega) (by omega)
  have hw : wrap64 (wrap64 (wrap64 (c - a) * wrap64 (c - a)) + wrap64 (wrap64 (d - b) * wrap64 (d - b))) = (c - a) * (c - a) + (d - b) * (d - b) := by
    rw [w64 (x := c - a) (by omega) (by omega), w64 (x := d - b) (by omega) (by omega), w64 (x := (c - a) * (c - a)) (by omega) (by omega), w64 (x := (d - b) * (d - b)) (by omega) (by omega), w64 (by omega) (by omega)]
  refine ⟨r, hr, ?_, ?_⟩
  · unfold plane_far.f
    rw [hw]
    exact Ev.bind e1 (Ev.now _)
  · unfold gooseneckref01_Far.f
    rw [hw]
    exact Ev.bind e2 (Ev.now _)
end Go.Proofs.Ytegdcnjjelgpjaa.P
namespace Go.Proofs.Ytegdcnjjelgpjaa.P
open Go.RowKit Go.Proofs.YtegdcnjjelgpjaaW.PrintWords Go.Proofs.YtegdcnjjelgpjaaW.PrintLast Go.Proofs.YtegdcnjjelgpjaaW.PrintMore

theorem mul_bd {x y A B : Int} (h1 : -A ≤ x) (h2 : x ≤ A) (h3 : -B ≤ y) (h4 : y ≤ B) : -(A * B) ≤ x * y ∧ x * y ≤ A * B := by
  have hA : 0 ≤ A := by omega
  have hB : 0 ≤ B := by omega
  have a1 := Int.mul_nonneg (show 0 ≤ A - x by omega) (show 0 ≤ B - y by omega)
  have a2 := Int.mul_nonneg (show 0 ≤ A + x by omega) (show 0 ≤ B + y by omega)
  have a3 := Int.mul_nonneg (show 0 ≤ A - x by omega) (show 0 ≤ B + y by omega)
  have a4 := Int.mul_nonneg (show 0 ≤ A + x by omega) (show 0 ≤ B - y by omega)
  constructor
  · have : (A - x) * (B + y) + (A + x) * (B - y) = 2 * (A * B) - 2 * (x * y) := by grind
    have : (A - x) * (B - y) + (A + x) * (B + y) = 2 * (A * B) + 2 * (x * y) := by grind
    omega
  · have : (A - x) * (B + y) + (A + x) * (B - y) = 2 * (A * B) - 2 * (x * y) := by grind
    omega
theorem sq_nonneg (x : Int) : 0 ≤ x * x := by
  rcases Int.le_total 0 x with h | h
  · exact Int.mul_nonneg h h
  · exact Int.mul_nonneg_of_nonpos_of_nonpos h h
theorem sq_pos {x : Int} (h : x ≠ 0) : 1 ≤ x * x := by
  have := sq_nonneg x
  have : x * x ≠ 0 := fun e => h (by rcases Int.mul_eq_zero.1 e with e | e <;> exact e)
  omega

/-- What 'result' makes of a point. -/
def resS (x y : Int) : Int × Int × Int := if isP x y = true then (x, y, 0) else (0, 0, 4)
theorem result_ev (x y : Int) : Ev (fun k => plane_result.f k x y) (resS x y) := by
  unfold plane_result.f resS
  have hv := valid1 x y
  cases h : isP x y
  · rw [h] at hv; exact Ev.bind hv (Ev.congr (fun k => by rw [if_neg (by simp), if_neg (by simp)]) (Ev.now _))
  · rw [h] at hv; exact Ev.bind hv (Ev.congr (fun k => by rw [if_pos rfl, if_pos rfl]) (Ev.now _))
/-- The nearest number of a moderate quotient. -/
theorem nearI_bd {n d B : Int} (hd : 1 ≤ d) (h1 : -B ≤ n) (h2 : n ≤ B) (hB : 0 ≤ B) : -B ≤ nearI n d ∧ nearI n d ≤ B + 1 := by
  have hb := div_bd n d hd
  have h3 : -B ≤ n / d := div_ge hd (by
    have : B * 1 ≤ B * d := Int.mul_le_mul_of_nonneg_left hd hB
    rw [Int.neg_mul]; omega)
  have h4 : n / d < B + 1 := div_lt hd (by
    have : B * 1 ≤ B * d := Int.mul_le_mul_of_nonneg_left hd hB
    rw [Int.add_mul]; omega)
  unfold nearI
  split <;> omega

structure Far (u v : Int) : Prop where
  u0 : -33554432 ≤ u
  u1 : u ≤ 33554432
  v0 : -33554432 ≤ v
  v1 : v ≤ 33554432
/-- The one root of a place. -/
theorem place_root (u v : Int) (h : Far u v) : ∃ R, IsRoot (1024 * (u * u + v * v)) R ∧ Ev (fun k => plane_root.f k (wrap64 (1024 * (wrap64 ((wrap64 (u * u)) + (wrap64 (v * v))))))) R ∧ Ev (fun k => gooseneckref01_Sqrt.f k (wrap64 (1024 * (wrap64 ((wrap64 (u * u)) + (wrap64 (v * v))))))) R := by
  have a := mul_bd h.u0 h.u1 h.u0 h.u1
  have b := mul_bd h.v0 h.v1 h.v0 h.v1
  have c := sq_nonneg u
  have d := sq_nonneg v
  rw [w64 (x := u * u) (by omega) (by omega), w64 (x := v * v) (by omega) (by omega), w64 (x := u * u + v * v) (by omega) (by omega), w64 (by omega) (by omega)]
  exact roots_ev _ (by omega) (by omega)
theorem root_ge {n R : Int} (h : IsRoot n R) (hn : 1024 ≤ n) : 32 ≤ R := by
  obtain ⟨h0, h1, h2⟩ := h
  rcases Int.lt_or_le R 32 with h | h
  · have := Int.mul_le_mul (show R + 1 ≤ 32 by omega) (show R + 1 ≤ 32 by omega) (by omega) (by omega)
    omega
  · exact h
theorem root_le {n R B : Int} (h : IsRoot n R) (hB : 0 ≤ B) (hn : n < B * B) : R < B := by
  obtain ⟨h0, h1, h2⟩ := h
  rcases Int.lt_or_le R B with h | h
  · exact h
  · have := Int.mul_le_mul h h hB h0
    omega
/-- The numbers of a place: the program's and the reference's are one. -/
theorem place_near (p q x y R : Int) (h : Far p q) (hx0 : -16777216 ≤ x) (hx1 : x ≤ 16777216) (hy0 : -16777216 ≤ y) (hy1 : y ≤ 16777216) (hR : 32 ≤ R) (hR1 : R ≤ 4294967296) :
    plane_near.f (wrap64 (32 * (wrap64 ((wrap64 (p * x)) - (wrap64 (q * y)))))) R = some (nearI (32 * (p * x - q * y)) R) ∧ gooseneckref01_Near.f (wrap64 (32 * (wrap64 ((wrap64 (p * x)) - (wrap64 (q * y)))))) R = some (nearI (32 * (p * x - q * y)) R) ∧ -36028797018963969 ≤ nearI (32 * (p * x - q * y)) R ∧ nearI (32 * (p * x - q * y)) R ≤ 36028797018963969 := by
  have a := mul_bd h.u0 h.u1 (show -(16777216 : Int) ≤ x by omega) hx1
  have b := mul_bd h.v0 h.v1 (show -(16777216 : Int) ≤ y by omega) hy1
  rw [w64 (x := p * x) (by omega) (by omega), w64 (x := q * y) (by omega) (by omega), w64 (x := p * x - q * y) (by omega) (by omega), w64 (x := 32 * _) (by omega) (by omega)]
  have c := nearI_bd (n := 32 * (p * x - q * y)) (d := R) (B := 36028797018963968) (by omega) (by omega) (by omega) (by omega)
  exact ⟨near_eq _ _ (by omega) (by omega) (by omega) (by omega), Near_eq _ _ (by omega) (by omega) (by omega) (by omega), by omega, by omega⟩
theorem place_near' (p q x y R : Int) (h : Far p q) (hx0 : -16777216 ≤ x) (hx1 : x ≤ 16777216) (hy0 : -16777216 ≤ y) (hy1 : y ≤ 16777216) (hR : 32 ≤ R) (hR1 : R ≤ 4294967296) :
    plane_near.f (wrap64 (32 * (wrap64 ((wrap64 (p * x)) + (wrap64 (q * y)))))) R = some (nearI (32 * (p * x + q * y)) R) ∧ gooseneckref01_Near.f (wrap64 (32 * (wrap64 ((wrap64 (p * x)) + (wrap64 (q * y)))))) R = some (nearI (32 * (p * x + q * y)) R) ∧ -36028797018963969 ≤ nearI (32 * (p * x + q * y)) R ∧ nearI (32 * (p * x + q * y)) R ≤ 36028797018963969 := by
  have a := mul_bd h.u0 h.u1 (show -(16777216 : Int) ≤ x by omega) hx1
  have b := mul_bd h.v0 h.v1 (show -(16777216 : Int) ≤ y by omega) hy1
  rw [w64 (x := p * x) (by omega) (by omega), w64 (x := q * y) (by omega) (by omega), w64 (x := p * x + q * y) (by omega) (by omega), w64 (x := 32 * _) (by omega) (by omega)]
  have c := nearI_bd (n := 32 * (p * x + q * y)) (d := R) (B := 36028797018963968) (by omega) (by omega) (by omega) (by omega)
  exact ⟨near_eq _ _ (by omega) (by omega) (by omega) (by omega), Near_eq _ _ (by omega) (by omega) (by omega) (by omega), by omega, by omega⟩

/-- What a place comes to, R being the root. -/
def placeS (ax ay u v x y R : Int) : Int × Int × Int := resS (ax + nearI (32 * (u * x - v * y)) R) (ay + nearI (32 * (v * x + u * y)) R)
theorem place_ev (ax ay hx hy x y : Int) (ha : isP ax ay = true) (hh : isP hx hy = true) (hx0 : -16777216 ≤ x) (hx1 : x ≤ 16777216) (hy0 : -16777216 ≤ y) (hy1 : y ≤ 16777216) (hne : ¬ (hx - ax = 0 ∧ hy - ay = 0)) :
    ∃ R, IsRoot (1024 * ((hx - ax) * (hx - ax) + (hy - ay) * (hy - ay))) R ∧ 32 ≤ R ∧ R ≤ 4294967296 ∧ Ev (fun k => plane_place.f k ax ay hx hy x y) (placeS ax ay (hx - ax) (hy - ay) x y R) := by
  have ga := isP_iff.1 ha
  have gh := isP_iff.1 hh
  generalize hu : hx - ax = u at *
  generalize hv : hy - ay = v at *
  have hf : Far u v := ⟨by omega, by omega, by omega, by omega⟩
  have hf' : Far v u := ⟨by omega, by omega, by omega, by omega⟩
  obtain ⟨R, hR, e1, e2⟩ := place_root u v hf
  have hn : 1024 ≤ 1024 * (u * u + v * v) := by
    have c := sq_nonneg u
    have d := sq_nonneg v
    by_cases h : u = 0
    · have := sq_pos (x := v) (fun e => hne ⟨h, e⟩); omega
    · have := sq_pos (x := u) h; omega
  have h32 := root_ge hR hn
  have a := mul_bd hf.u0 hf.u1 hf.u0 hf.u1
  have b := mul_bd hf.v0 hf.v1 hf.v0 hf.v1
  have hRB : R ≤ 4294967296 := Int.le_of_lt (root_le hR (by omega) (by omega))
  obtain ⟨n1, n1', n2, n3⟩ := place_near u v x y R hf hx0 hx1 hy0 hy1 h32 hRB
  obtain ⟨m1, m1', m2, m3⟩ := place_near' v u x y R hf' hx0 hx1 hy0 hy1 h32 hRB
  have hwu : wrap64 (hx - ax) = u := by rw [hu, w64 (by omega) (by omega)]
  have hwv : wrap64 (hy - ay) = v := by rw [hv, w64 (by omega) (by omega)]
  refine ⟨R, hR, h32, hRB, ?_⟩
  · have hj : Ev (fun k => plane_place.j0 k x y u v false ax ay) (placeS ax ay u v x y R) := by
      refine Ev.step (fun k => by rw [plane_place.j0]) ?_
      simp only [Bool.false_eq_true, if_false]
      refine Ev.bind e1 ?_
      simp only [n1, m1, Option.bind_some]
      rw [w64 (x := ax + _) (by omega) (by omega), w64 (x := ay + _) (by omega) (by omega)]
      exact Ev.bind (result_ev _ _) (Ev.now _)
    unfold plane_place.f
    rw [hwu, hwv]
    by_cases h : u = 0
    · simp only [if_pos h, show (v == 0) = false by simpa using fun e => hne ⟨h, e⟩]; exact hj
    · simp only [if_neg h]; exact hj
theorem place_zero (ax ay hx hy x y : Int) (h : hx - ax = 0 ∧ hy - ay = 0) : Ev (fun k => plane_place.f k ax ay hx hy x y) (0, 0, 9) := by
  unfold plane_place.f
  rw [h.1, h.2, show wrap64 0 = 0 from w64 (by omega) (by omega)]
  simp only [if_true]
  refine Ev.step (f := fun _ => some (0, 0, 9)) (fun k => ?_) (Ev.now _)
  rw [plane_place.j0]
  simp

end Go.Proofs.Ytegdcnjjelgpjaa.P
namespace Go.Proofs.Ytegdcnjjelgpjaa.P
open Go.RowKit Go.Proofs.YtegdcnjjelgpjaaW.PrintWords Go.Proofs.YtegdcnjjelgpjaaW.PrintLast Go.Proofs.YtegdcnjjelgpjaaW.PrintMore
attribute [local go_sem] max2_int min2_int max_two min_two max_three min_three max_four min_four   -- for this text's walks alone
set_option linter.unusedVariables false
set_option linter.unusedSimpArgs false

/-! ### gooseneckref01_points: function 89 -/
def gooseneckref01_points.l0 : Nat → List (S23) → Int → Option (Int)
  | 0, _, _ => none
  | k + 1, x0, x3 => if x3 < (x0.length : Int) then (if 0 ≤ x3 then ((gooseneckref01_Is.f ((rd_T23 x0 x3).f0) ((rd_T23 x0 x3).f1)).bind fun t102 => (if t102 = true then (gooseneckref01_points.l0 k x0 (wrap64 (x3 + 1))) else (some 2))) else (none)) else (some 0)
def gooseneckref01_points.f (k : Nat) (l0 : List (S23)) : Option (Int) := if (l0.length : Int) > 256 then (some 6) else (gooseneckref01_points.l0 k l0 0)
theorem gooseneckref01_points.mono_l : ∀ k, (∀ y0 y1, LeO (gooseneckref01_points.l0 k y0 y1) (gooseneckref01_points.l0 (k + 1) y0 y1))
  | 0 => fun _ _ r h => by simp [gooseneckref01_points.l0] at h
  | k + 1 => by
    have ih0 := gooseneckref01_points.mono_l k
    · intro y0 y1
      unfold gooseneckref01_points.l0
      repeat' first
      | (with_reducible exact ih0 _ _)
      | (with_reducible exact LeO.refl _)
      | (with_reducible exact LeO.none _)
      | (with_reducible refine LeO.ite ?_ ?_)
      | (with_reducible refine LeO.bind ?_ (fun _ => ?_))
      | exact ih0 _ _
      | exact LeO.none _
      | refine LeO.ite ?_ ?_
      | refine LeO.bind ?_ (fun _ => ?_)
theorem gooseneckref01_points.mono : ∀ a0 k, LeO (gooseneckref01_points.f k a0) (gooseneckref01_points.f (k + 1) a0) := by
  intro a0 k
  have ih0 := gooseneckref01_points.mono_l k
  unfold gooseneckref01_points.f
  repeat' first
      | (with_reducible exact ih0 _ _)
      | (with_reducible exact LeO.refl _)
      | (with_reducible exact LeO.none _)
      | (with_reducible refine LeO.ite ?_ ?_)
      | (with_reducible refine LeO.bind ?_ (fun _ => ?_))
      | exact ih0 _ _
      | exact LeO.none _
      | refine LeO.ite ?_ ?_
      | refine LeO.bind ?_ (fun _ => ?_)
set_option maxHeartbeats 8000000 in
set_option maxRecDepth 100000 in
theorem gooseneckref01_points.calls (k : Nat) (A0 : Option Addr) (c0 : Nat) (l0 : List (S23)) (r : Int) (w : World) (hr0 : Kd.C k23 w A0 l0.length l0) (hc0 : l0.length ≤ c0) (h : gooseneckref01_points.f k l0 = some r) :
    Calls Try.prog 89 #[.slice A0 l0.length c0] w fun e w' => e = .returned (.int .i64 r) ∧ Below w.heap.size w w' := by
  have hu23 := Try.underlying23
  have HR0 := Aside0.mk hr0
  have HC0 := Aside0.mk hc0
  clear hr0 hc0
  have HB := Aside0.mk (Below.refl w.heap.size w)
  have H : (if (l0.length : Int) > 256 then (some 6) else (gooseneckref01_points.l0 k l0 0)) = some r := h
  clear h
  by_cases c2 : (l0.length : Int) > 256
  · rw [if_pos c2] at H
    have c2b0 : decide (256 < (l0.length : Int)) = true := decide_eq_true c2
    have c2b1 : decide (256 < l0.length) = true := decide_eq_true (by omega)
    clear c2
    obtain rfl := Option.some.inj H
    go_enter Try.func89, Try.ntmps89
    go_wp2
    go_ret
    exact ⟨by first | rfl | (simp [errW_none, errW_some] <;> rfl) | (simp [*, errW_none, errW_some] <;> rfl), by repeat (first | (with_reducible first | exact HB.out | apply below_alloc | apply pw_below_drewN | apply below_drew1) | exact HB.out)⟩
  · rw [if_neg c2] at H
    have c2b0 : decide (256 < (l0.length : Int)) = false := decide_eq_false c2
    have c2b1 : decide (256 < l0.length) = false := decide_eq_false (by omega)
    clear c2
    have H' := Aside0.mk H
    clear H
    go_enter Try.func89, Try.ntmps89
    go_wp2
    go_loopg [3] k (fun kq v3 w' => ∃ (x3_1 : Int), v3 = .int .i64 x3_1 ∧ Aside0 (gooseneckref01_points.l0 kq l0 x3_1 = some r) ∧ Aside0 (kq ≤ k) ∧ Aside0 (Below w.heap.size w w'))
    case atStart => exact ⟨(0), (by first | rfl | (simp; done) | (simp [*]; done)), H', ⟨Nat.le_refl _⟩, ⟨by repeat (first | (with_reducible first | exact HB.out | apply below_alloc | apply pw_below_drewN | apply below_drew1) | exact HB.out)⟩⟩
    case round =>
      clear H'
      try clear c2
      try clear c2b0
      try clear c2b1
      try clear p2
      obtain ⟨x3_1, rfl, HA, HK1, HB⟩ := hrel
      cases gk with
      | zero => exact absurd HA.out (by simp [gooseneckref01_points.l0])
      | succ k1 =>
        have H := HA.out
        clear HA
        simp only [gooseneckref01_points.l0] at H
        by_cases c3 : x3_1 < (l0.length : Int)
        · rw [if_pos c3] at H
          have c3b0 : decide (x3_1 < (l0.length : Int)) = true := decide_eq_true c3
          clear c3
          by_cases c4 : 0 ≤ x3_1
          · rw [if_pos c4] at H
            have c4b0 : decide (0 ≤ x3_1) = true := decide_eq_true c4
            clear c4
            replace H := Option.bind_eq_some_iff.mp H
            obtain ⟨t102, A50, H⟩ := H
            replace H : (if t102 = true then (gooseneckref01_points.l0 k1 l0 (wrap64 (x3_1 + 1))) else (some 2)) = some r := H
            have A5 := Aside0.mk A50
            clear A50
            by_cases c6 : t102 = true
            · subst c6
              have H1 : (gooseneckref01_points.l0 k1 l0 (wrap64 (x3_1 + 1))) = some r := by rw [if_pos rfl] at H; exact H
              clear H
              have H := H1
              clear H1
              have H' := Aside0.mk H
              clear H
              have p101 : 0 ≤ (x3_1 : Int) := of_decide_eq_true (by first | (with_reducible assumption) | assumption)
              have q101 : x3_1 < (l0.length : Int) := of_decide_eq_true (by first | (with_reducible assumption) | assumption)
              obtain ⟨ad101, e101, hx101_0, hx101_1⟩ := at_T23 HR0.out x3_1 p101 q101
              cases e101
              replace hx101_0 := (HB.out.cell (World.block_lt_of_cell? w _ hx101_0)).trans hx101_0
              replace hx101_1 := (HB.out.cell (World.block_lt_of_cell? w _ hx101_1)).trans hx101_1
              replace p101 := eq_true p101
              replace q101 := eq_true q101
              go_wp2_with (first | ((with_reducible refine gate_callee (f := 69) rfl ?_); refine goesL_ (some 17) rfl rfl Try.func69 (by kernel_rfl) rfl #[.agg #[.int .i64 ((rd_T23 l0 x3_1).f0), .int .i64 ((rd_T23 l0 x3_1).f1)]] rfl (by (try simp only [List.map_toArray, List.map_cons, List.map_nil]); first | done | rfl | (simp only [List.length_drop, List.length_take]; rfl)) ?_; (with_reducible refine (gooseneckref01_Is.calls ((rd_T23 l0 x3_1).f0) ((rd_T23 l0 x3_1).f1) true _ A5.out).mono ?_); rintro e w7 ⟨rfl, hb⟩; refine ⟨_, rfl, ?_⟩; have n0_ := Aside0.mk (below_step (by repeat (first | (with_reducible first | exact HB.out | apply below_alloc | apply pw_below_drewN | apply below_drew1) | exact HB.out)) hb); clear HB; have HB := n0_; clear n0_; (try clear hb); (try clear hb2); (try clear hk); (try clear hi)))
              go_roundg k1
              case measure => have := HK1.out; omega
              case rel => exact ⟨(wrap64 (x3_1 + 1)), (by first | rfl | (simp; done) | (simp [*]; done)), H', ⟨by have := HK1.out; omega⟩, ⟨by repeat (first | (with_reducible first | exact HB.out | apply below_alloc | apply pw_below_drewN | apply below_drew1) | exact HB.out)⟩⟩
            · replace c6 := Bool.eq_false_iff.mpr c6
              subst c6
              have H1 : (some 2) = some r := by rw [if_neg (show ¬ (false = true) by decide)] at H; exact H
              clear H
              have H := H1
              clear H1
              obtain rfl := Option.some.inj H
              have p101 : 0 ≤ (x3_1 : Int) := of_decide_eq_true (by first | (with_reducible assumption) | assumption)
              have q101 : x3_1 < (l0.length : Int) := of_decide_eq_true (by first | (with_reducible assumption) | assumption)
              obtain ⟨ad101, e101, hx101_0, hx101_1⟩ := at_T23 HR0.out x3_1 p101 q101
              cases e101
              replace hx101_0 := (HB.out.cell (World.block_lt_of_cell? w _ hx101_0)).trans hx101_0
              replace hx101_1 := (HB.out.cell (World.block_lt_of_cell? w _ hx101_1)).trans hx101_1
              replace p101 := eq_true p101
              replace q101 := eq_true q101
              go_wp2_with (first | ((with_reducible refine gate_callee (f := 69) rfl ?_); refine goesL_ (some 17) rfl rfl Try.func69 (by kernel_rfl) rfl #[.agg #[.int .i64 ((rd_T23 l0 x3_1).f0), .int .i64 ((rd_T23 l0 x3_1).f1)]] rfl (by (try simp only [List.map_toArray, List.map_cons, List.map_nil]); first | done | rfl | (simp only [List.length_drop, List.length_take]; rfl)) ?_; (with_reducible refine (gooseneckref01_Is.calls ((rd_T23 l0 x3_1).f0) ((rd_T23 l0 x3_1).f1) false _ A5.out).mono ?_); rintro e w8 ⟨rfl, hb⟩; refine ⟨_, rfl, ?_⟩; have n0_ := Aside0.mk (below_step (by repeat (first | (with_reducible first | exact HB.out | apply below_alloc | apply pw_below_drewN | apply below_drew1) | exact HB.out)) hb); clear HB; have HB := n0_; clear n0_; (try clear hb); (try clear hb2); (try clear hk); (try clear hi)))
              go_ret
              exact ⟨by first | rfl | (simp [errW_none, errW_some] <;> rfl) | (simp [*, errW_none, errW_some] <;> rfl), by repeat (first | (with_reducible first | exact HB.out | apply below_alloc | apply pw_below_drewN | apply below_drew1) | exact HB.out)⟩
          · rw [if_neg c4] at H
            exact absurd H (by simp)
        · rw [if_neg c3] at H
          have c3b0 : decide (x3_1 < (l0.length : Int)) = false := decide_eq_false c3
          clear c3
          obtain rfl := Option.some.inj H
          go_wp2
          go_ret
          exact ⟨by first | rfl | (simp [errW_none, errW_some] <;> rfl) | (simp [*, errW_none, errW_some] <;> rfl), by repeat (first | (with_reducible first | exact HB.out | apply below_alloc | apply pw_below_drewN | apply below_drew1) | exact HB.out)⟩

end Go.Proofs.Ytegdcnjjelgpjaa.P
namespace Go.Proofs.Ytegdcnjjelgpjaa.P
open Go.RowKit Go.Proofs.YtegdcnjjelgpjaaW.PrintWords Go.Proofs.YtegdcnjjelgpjaaW.PrintLast Go.Proofs.YtegdcnjjelgpjaaW.PrintMore

theorem rd23_nat (l : List S23) (i : Nat) (h : i < l.length) : rd_T23 l (i : Int) = l[i] := by
  simp only [rd_T23, Int.toNat_natCast, List.getD_eq_getElem?_getD, List.getElem?_eq_getElem h, Option.getD_some]
theorem wrap_nat (i : Nat) (h : (i : Int) < 9223372036854775807) : wrap64 ((i : Int) + 1) = ((i + 1 : Nat) : Int) := by rw [w64 (by omega) (by omega)]; rfl

def okP (l : List S23) : Bool := l.all fun p => isP p.f0 p.f1
/-- The error of a list of points. -/
def errP (l : List S23) : Int := if 256 < l.length then 6 else if okP l = true then 0 else 2
theorem points_loop (l : List S23) (hl : (l.length : Int) ≤ 256) (d : Nat) : ∀ (i : Nat), l.length - i = d → i ≤ l.length →
    Ev (fun k => gooseneckref01_points.l0 k l (i : Int)) (if okP (l.drop i) = true then 0 else 2) := by
  induction d with
  | zero =>
    intro i hd hi
    have he : i = l.length := by omega
    subst he
    refine Ev.step (f := fun _ => some 0) (fun k => ?_) (by simpa [okP] using Ev.now 0)
    simp only [gooseneckref01_points.l0]
    rw [if_neg (by omega)]
  | succ d ih =>
    intro i hd hi
    have hlt : i < l.length := by omega
    have hdrop : l.drop i = l[i] :: l.drop (i + 1) := List.drop_eq_getElem_cons hlt
    refine Ev.step (f := fun k => if isP l[i].f0 l[i].f1 = true then gooseneckref01_points.l0 k l ((i + 1 : Nat) : Int) else some 2) (fun k => ?_) ?_
    · simp only [gooseneckref01_points.l0]
      rw [if_pos (by omega), if_pos (by omega), rd23_nat l i hlt, wrap_nat i (by omega), Is_eq]
      simp only [Option.bind_some]
    · rw [hdrop, okP, List.all_cons]
      cases hp : isP l[i].f0 l[i].f1
      · simpa using Ev.now 2
      · simpa [okP] using ih (i + 1) (by omega) (by omega)
theorem points_ev (l : List S23) : Ev (fun k => gooseneckref01_points.f k l) (errP l) := by
  unfold gooseneckref01_points.f errP
  by_cases h : 256 < l.length
  · rw [if_pos h]; exact Ev.congr (fun k => by rw [if_pos (by omega)]) (Ev.now _)
  · rw [if_neg h]
    exact Ev.congr (fun k => by rw [if_neg (by omega)]) (by simpa using points_loop l (by omega) l.length 0 (by omega) (by omega))

theorem rdL2_nat (l : List (List S23)) (i : Nat) (h : i < l.length) : rd_L2 l (i : Int) = l[i] := by
  simp only [rd_L2, Int.toNat_natCast, List.getD_eq_getElem?_getD, List.getElem?_eq_getElem h, Option.getD_some]
/-- The error of lists of points. -/
def errLs (ls : List (List S23)) : Int := if (ls.any fun l => decide (256 < l.length)) = true then 6 else if (ls.all okP) = true then 0 else 2
theorem checkPoints_loop1 (ls : List (List S23)) (hn : (ls.length : Int) < 9223372036854775807) (hl : ∀ l ∈ ls, l.length ≤ 256) (d : Nat) : ∀ (i : Nat), ls.length - i = d → i ≤ ls.length →
    Ev (fun k => plane_checkPoints.l1 k ls (ls.length : Int) (i : Int)) (if (ls.drop i).all okP = true then 0 else 2) := by
  induction d with
  | zero =>
    intro i hd hi
    have he : i = ls.length := by omega
    subst he
    refine Ev.step (f := fun _ => some 0) (fun k => ?_) (by simpa using Ev.now 0)
    simp only [plane_checkPoints.l1]
    rw [if_neg (by omega)]
  | succ d ih =>
    intro i hd hi
    have hlt : i < ls.length := by omega
    have hdrop : ls.drop i = ls[i] :: ls.drop (i + 1) := List.drop_eq_getElem_cons hlt
    have h256 := hl ls[i] (List.getElem_mem hlt)
    refine Ev.step (f := fun k => (plane_valid.f k ls[i]).bind fun t => if t = true then plane_checkPoints.l1 k ls (ls.length : Int) ((i + 1 : Nat) : Int) else some 2) (fun k => ?_) ?_
    · simp only [plane_checkPoints.l1]
      rw [if_pos (by omega), if_pos (by omega), if_pos (by omega), rdL2_nat ls i hlt, wrap_nat i (by omega)]
    · refine Ev.bind (valid_ev ls[i] (by omega)) ?_
      rw [hdrop, List.all_cons]
      cases hp : okP ls[i]
      · rw [okP] at hp; simpa [hp] using Ev.now 2
      · have hp2 := hp
        rw [okP] at hp2
        simpa [hp2] using ih (i + 1) (by omega) (by omega)
theorem checkPoints_loop0 (ls : List (List S23)) (hn : (ls.length : Int) < 9223372036854775807) (d : Nat) : ∀ (i : Nat), ls.length - i = d → i ≤ ls.length → (∀ l ∈ ls.take i, l.length ≤ 256) →
    Ev (fun k => plane_checkPoints.l0 k ls ls (ls.length : Int) (i : Int)) (errLs ls) := by
  induction d with
  | zero =>
    intro i hd hi hall
    have he : i = ls.length := by omega
    subst he
    rw [List.take_length] at hall
    refine Ev.step (f := fun k => plane_checkPoints.l1 k ls (ls.length : Int) ((0 : Nat) : Int)) (fun k => ?_) ?_
    · simp only [plane_checkPoints.l0]
      rw [if_neg (by omega)]
      rfl
    · have h1 : (ls.any fun l => decide (256 < l.length)) = false := by
        rw [List.any_eq_false]
        intro l hl
        have := hall l hl
        simpa using this
      have := checkPoints_loop1 ls hn hall ls.length 0 (by omega) (by omega)
      unfold errLs
      rw [h1]
      simpa using this
  | succ d ih =>
    intro i hd hi hall
    have hlt : i < ls.length := by omega
    refine Ev.step (f := fun k => if (ls[i].length : Int) > 256 then some 6 else plane_checkPoints.l0 k ls ls (ls.length : Int) ((i + 1 : Nat) : Int)) (fun k => ?_) ?_
    · simp only [plane_checkPoints.l0]
      rw [if_pos (by omega), if_pos (by omega), if_pos (by omega), rdL2_nat ls i hlt, wrap_nat i (by omega)]
    · by_cases h : (ls[i].length : Int) > 256
      · have h1 : (ls.any fun l => decide (256 < l.length)) = true := by
          rw [List.any_eq_true]
          exact ⟨ls[i], List.getElem_mem hlt, by simp; omega⟩
        simp only [if_pos h]
        unfold errLs
        rw [h1, if_pos rfl]
        exact Ev.now _
      · simp only [if_neg h]
        refine ih (i + 1) (by omega) (by omega) (fun l hl => ?_)
        rw [List.take_succ_eq_append_getElem hlt] at hl
        rcases List.mem_append.1 hl with hl | hl
        · exact hall l hl
        · rw [List.mem_singleton.1 hl]; omega
theorem checkPoints_ev (ls : List (List S23)) (hn : (ls.length : Int) < 9223372036854775807) : Ev (fun k => plane_checkPoints.f k ls) (errLs ls) := by
  unfold plane_checkPoints.f
  simpa using checkPoints_loop0 ls hn ls.length 0 (by omega) (by omega) (by simp)
theorem errLs_one (l : List S23) : errLs [l] = errP l := by
  unfold errLs errP
  simp
theorem errP_zero {l : List S23} (h : errP l = 0) : l.length ≤ 256 ∧ okP l = true := by
  unfold errP at h
  split at h
  · omega
  · split at h
    · exact ⟨by omega, by assumption⟩
    · omega

/-! ### the distance as a number -/
open Classical in
noncomputable def rootI (n : Int) : Int := if h : ∃ r, IsRoot n r then h.choose else 0
theorem rootI_of {n r : Int} (h : IsRoot n r) : rootI n = r := by
  have hx : ∃ r, IsRoot n r := ⟨r, h⟩
  unfold rootI
  rw [dif_pos hx]
  exact hx.choose_spec.unique h
noncomputable def farI (p q : S23) : Int := rootI ((q.f0 - p.f0) * (q.f0 - p.f0) + (q.f1 - p.f1) * (q.f1 - p.f1))
/-- Moderate points: no difference is greater than B. -/
theorem farI_both (p q : S23) (B : Int) (hB : 0 ≤ B) (hB1 : B ≤ 1000000000) (h1 : -B ≤ q.f0 - p.f0) (h2 : q.f0 - p.f0 ≤ B) (h3 : -B ≤ q.f1 - p.f1) (h4 : q.f1 - p.f1 ≤ B) :
    IsRoot ((q.f0 - p.f0) * (q.f0 - p.f0) + (q.f1 - p.f1) * (q.f1 - p.f1)) (farI p q) ∧ Ev (fun k => plane_far.f k p.f0 p.f1 q.f0 q.f1) (farI p q) ∧ Ev (fun k => gooseneckref01_Far.f k p.f0 p.f1 q.f0 q.f1) (farI p q) := by
  obtain ⟨r, hr, e1, e2⟩ := far_both p.f0 p.f1 q.f0 q.f1 B hB hB1 h1 h2 h3 h4
  have : farI p q = r := rootI_of hr
  rw [this]
  exact ⟨hr, e1, e2⟩
theorem farI_valid {p q : S23} (hp : isP p.f0 p.f1 = true) (hq : isP q.f0 q.f1 = true) :
    IsRoot ((q.f0 - p.f0) * (q.f0 - p.f0) + (q.f1 - p.f1) * (q.f1 - p.f1)) (farI p q) ∧ Ev (fun k => plane_far.f k p.f0 p.f1 q.f0 q.f1) (farI p q) ∧ Ev (fun k => gooseneckref01_Far.f k p.f0 p.f1 q.f0 q.f1) (farI p q) ∧ 0 ≤ farI p q ∧ farI p q ≤ 67108864 := by
  have gp := isP_iff.1 hp
  have gq := isP_iff.1 hq
  obtain ⟨h1, h2, h3⟩ := farI_both p q 33554432 (by omega) (by omega) (by omega) (by omega) (by omega) (by omega)
  have a := mul_bd (x := q.f0 - p.f0) (y := q.f0 - p.f0) (A := 33554432) (B := 33554432) (by omega) (by omega) (by omega) (by omega)
  have b := mul_bd (x := q.f1 - p.f1) (y := q.f1 - p.f1) (A := 33554432) (B := 33554432) (by omega) (by omega) (by omega) (by omega)
  have := root_le h1 (show (0 : Int) ≤ 67108864 by omega) (by omega)
  exact ⟨h1, h2, h3, h1.1, by omega⟩

end Go.Proofs.Ytegdcnjjelgpjaa.P
namespace Go.Proofs.Ytegdcnjjelgpjaa.P
open Go.RowKit Go.Proofs.YtegdcnjjelgpjaaW.PrintWords Go.Proofs.YtegdcnjjelgpjaaW.PrintLast Go.Proofs.YtegdcnjjelgpjaaW.PrintMore

theorem nearI_rest (n d : Int) (hd : 1 ≤ d) : -d ≤ 2 * (nearI n d * d - n) ∧ 2 * (nearI n d * d - n) ≤ d := by
  have hb := div_bd n d hd
  have hm : n / d * d = d * (n / d) := Int.mul_comm _ _
  unfold nearI
  split
  · rw [Int.add_mul]; omega
  · omega
theorem le_of_mul_pos {a b c : Int} (hc : 0 < c) (h : c * a ≤ c * b) : a ≤ b := Int.le_of_mul_le_mul_left h hc
/-- A root is at least each number whose square is at most its own. -/
theorem root_ge_of {n R x : Int} (h : IsRoot n R) (hx : x * x ≤ n) : x ≤ R := by
  obtain ⟨h0, h1, h2⟩ := h
  rcases Int.lt_or_le R x with h | h
  · have := Int.mul_le_mul (show R + 1 ≤ x by omega) (show R + 1 ≤ x by omega) (by omega) (by omega)
    omega
  · exact h
theorem root_le_of {n R x : Int} (h : IsRoot n R) (hx0 : 0 ≤ x) (hx : n ≤ x * x) : R ≤ x := by
  obtain ⟨h0, h1, h2⟩ := h
  rcases Int.lt_or_le x R with h | h
  · have := Int.mul_le_mul (show x + 1 ≤ R by omega) (show x + 1 ≤ R by omega) (by omega) (by omega)
    have : (x + 1) * (x + 1) = x * x + 2 * x + 1 := by grind
    omega
  · exact h
theorem Distance_ev (a b c d : Int) (h1 : isP a b = true) (h2 : isP c d = true) : ∃ r, IsRoot ((c - a) * (c - a) + (d - b) * (d - b)) r ∧ r ≤ 67108864 ∧ Ev (fun k => plane_Distance.f k a b c d) (r, 0) := by
  obtain ⟨h3, h4, _, h6, h7⟩ := farI_valid (p := ⟨a, b⟩) (q := ⟨c, d⟩) h1 h2
  refine ⟨farI ⟨a, b⟩ ⟨c, d⟩, h3, h7, ?_⟩
  unfold plane_Distance.f
  have hv := valid2 a b c d
  rw [h1, h2] at hv
  refine Ev.bind hv ?_
  simp only [Bool.and_self, if_true]
  exact Ev.bind h4 (Ev.now _)
theorem dist_eq (a b : Int) (h0 : -1000000000000000000 ≤ a - b) (h1 : a - b ≤ 1000000000000000000) : goosenecklaw01_distance.f a b = some (mx (a - b) (b - a)) := by
  unfold goosenecklaw01_distance.f
  rw [w64 (by omega) (by omega), w64 (by omega) (by omega)]

end Go.Proofs.Ytegdcnjjelgpjaa.P
namespace Go.Proofs.Ytegdcnjjelgpjaa.P
open Go.RowKit Go.Proofs.YtegdcnjjelgpjaaW.PrintWords Go.Proofs.YtegdcnjjelgpjaaW.PrintLast Go.Proofs.YtegdcnjjelgpjaaW.PrintMore

def isRot (c s n : Int) : Bool := inR n 1 16777216 && (inR c (-n) n && (inR s (-n) n && decide (c * c + s * s = n * n)))
theorem isRot_iff {c s n : Int} : isRot c s n = true ↔ (1 ≤ n ∧ n ≤ 16777216) ∧ (-n ≤ c ∧ c ≤ n) ∧ (-n ≤ s ∧ s ≤ n) ∧ c * c + s * s = n * n := by simp [isRot, inR]
theorem checkRot_eq (c s n : Int) : plane_CheckRot.f c s n = some (if isRot c s n = true then 0 else 2) := by
  unfold plane_CheckRot.f isRot
  simp only [within_eq, Option.bind_some]
  by_cases h1 : inR n 1 16777216 = true
  · have g := inR_iff.1 h1
    have hw : wrap64 (-n) = -n := w64 (by omega) (by omega)
    simp only [h1, if_true, hw, Bool.true_and]
    by_cases h2 : inR c (-n) n = true
    · simp only [h2, if_true, Bool.true_and]
      by_cases h3 : inR s (-n) n = true
      · have g2 := inR_iff.1 h2
        have g3 := inR_iff.1 h3
        have a := mul_bd g2.1 g2.2 g2.1 g2.2
        have b := mul_bd g3.1 g3.2 g3.1 g3.2
        have nn : n * n ≤ 16777216 * 16777216 := Int.mul_le_mul g.2 g.2 (by omega) (by omega)
        have n0 := sq_nonneg n
        simp only [h3, if_true, Bool.true_and]
        rw [w64 (x := c * c) (by omega) (by omega), w64 (x := s * s) (by omega) (by omega), w64 (x := c * c + s * s) (by omega) (by omega), w64 (x := n * n) (by omega) (by omega)]
        by_cases h : c * c + s * s = n * n
        · simp [h]
        · simp [h]
      · simp [h3]
    · simp [h2]
  · simp [h1]
theorem half_ok (n d : Int) (hn0 : -2048 ≤ n) (hn1 : n ≤ 2048) (hd0 : 1 ≤ d) (hd1 : d ≤ 2048) : ∃ A : Int × Int × Int, plane_Half.f n d = some (A.1, A.2.1, A.2.2, 0) ∧ isRot A.1 A.2.1 A.2.2 = true := by
  have a := mul_bd (x := d - n) (y := d + n) (A := 4096) (B := 4096) (by omega) (by omega) (by omega) (by omega)
  have b := mul_bd (x := 2 * n) (y := d) (A := 4096) (B := 2048) (by omega) (by omega) (by omega) (by omega)
  have c := mul_bd (x := d) (y := d) (A := 2048) (B := 2048) (by omega) (by omega) (by omega) (by omega)
  have e := mul_bd (x := n) (y := n) (A := 2048) (B := 2048) (by omega) (by omega) (by omega) (by omega)
  have d2 : 1 ≤ d * d := sq_pos (by omega)
  have n2 := sq_nonneg n
  refine ⟨((d - n) * (d + n), 2 * n * d, d * d + n * n), ?_, ?_⟩
  · unfold plane_Half.f
    simp only [within_eq, Option.bind_some, show inR d 1 2048 = true from inR_iff.2 ⟨hd0, hd1⟩, show inR n (-2048) 2048 = true from inR_iff.2 ⟨hn0, hn1⟩, if_true]
    rw [w64 (x := d - n) (by omega) (by omega), w64 (x := d + n) (by omega) (by omega), w64 (x := (d - n) * (d + n)) (by omega) (by omega), w64 (x := 2 * n) (by omega) (by omega), w64 (x := 2 * n * d) (by omega) (by omega), w64 (x := d * d) (by omega) (by omega), w64 (x := n * n) (by omega) (by omega), w64 (x := d * d + n * n) (by omega) (by omega)]
  · have s1 := sq_nonneg (d - n)
    have s2 := sq_nonneg (d + n)
    have e1 : (d - n) * (d - n) = d * d + n * n - 2 * n * d := by grind
    have e2 : (d + n) * (d + n) = d * d + n * n + 2 * n * d := by grind
    have e3 : (d - n) * (d + n) = d * d - n * n := by grind
    show isRot ((d - n) * (d + n)) (2 * n * d) (d * d + n * n) = true
    refine isRot_iff.2 ⟨⟨by omega, by omega⟩, ⟨by omega, by omega⟩, ⟨by omega, by omega⟩, ?_⟩
    grind

/-! ### the greatest common divisor -/
theorem gcd_loop (l : List Int) (n i : Int) (r : Int) : ∀ (a g : Nat), Ev (fun k => plane_divisor.l0 k ((Nat.gcd g a : Nat) : Int) l n (wrap64 (i + 1))) r → Ev (fun k => plane_divisor.l1 k (g : Int) (a : Int) l n i) r := by
  intro a
  induction a using Nat.strongRecOn with
  | _ a ih =>
    intro g h
    by_cases h0 : a = 0
    · subst h0
      rw [Nat.gcd_zero_right] at h
      refine Ev.step (fun k => ?_) h
      rw [plane_divisor.l1, if_pos (by rfl)]
    · have hg : Nat.gcd g a = Nat.gcd a (g % a) := by rw [Nat.gcd_comm g a, Nat.gcd_rec a g, Nat.gcd_comm]
      rw [hg] at h
      have := ih (g % a) (Nat.mod_lt _ (by omega)) a h
      refine Ev.step (fun k => ?_) this
      rw [plane_divisor.l1, if_neg (by omega)]
      congr 1
theorem rd_nat (l : List Int) (i : Nat) (h : i < l.length) : rd l (i : Int) = l[i] := by
  simp only [rd, Int.toNat_natCast, List.getD_eq_getElem?_getD, List.getElem?_eq_getElem h, Option.getD_some]
def gcdAll (l : List Int) (g : Nat) : Nat := l.foldl (fun g x => Nat.gcd g x.natAbs) g
theorem divisor_loop (l : List Int) (hl : l.length ≤ 1000) (hb : ∀ x ∈ l, -4611686018427387904 ≤ x ∧ x ≤ 4611686018427387904) (d : Nat) : ∀ (i g : Nat), l.length - i = d → i ≤ l.length → Ev (fun k => plane_divisor.l0 k (g : Int) l (l.length : Int) (i : Int)) ((gcdAll (l.drop i) g : Nat) : Int) := by
  induction d with
  | zero =>
    intro i g hd hi
    have he : i = l.length := by omega
    subst he
    rw [List.drop_length]
    refine Ev.step (f := fun _ => some (g : Int)) (fun k => ?_) (Ev.now _)
    rw [plane_divisor.l0, if_neg (by omega)]
  | succ d ih =>
    intro i g hd hi
    have hlt : i < l.length := by omega
    have hx := hb l[i] (List.getElem_mem hlt)
    have hm : mx l[i] (wrap64 (-l[i])) = ((l[i].natAbs : Nat) : Int) := by
      rw [w64 (by omega) (by omega)]; unfold mx; split <;> omega
    rw [List.drop_eq_getElem_cons hlt]
    have h1 := ih (i + 1) (Nat.gcd g l[i].natAbs) (by omega) (by omega)
    rw [← wrap_nat i (by omega)] at h1
    have h2 := gcd_loop l (l.length : Int) (i : Int) _ l[i].natAbs g h1
    refine Ev.step (fun k => ?_) h2
    rw [plane_divisor.l0, if_pos (by omega), if_pos (by omega), if_pos (by omega), rd_nat l i hlt, hm]
theorem divisor_ev (l : List Int) (hl : l.length ≤ 1000) (hb : ∀ x ∈ l, -4611686018427387904 ≤ x ∧ x ≤ 4611686018427387904) : Ev (fun k => plane_divisor.f k l) ((gcdAll l 0 : Nat) : Int) := by
  unfold plane_divisor.f
  exact divisor_loop l hl hb l.length 0 0 (by omega) (by omega)
/-- The divisor of three numbers, the last one from 1 on. -/
theorem divisor3 (c s n : Int) (hc : -4611686018427387904 ≤ c ∧ c ≤ 4611686018427387904) (hs : -4611686018427387904 ≤ s ∧ s ≤ 4611686018427387904) (hn : 1 ≤ n ∧ n ≤ 4611686018427387904) :
    ∃ g c' s' n' : Int, 1 ≤ g ∧ c = g * c' ∧ s = g * s' ∧ n = g * n' ∧ g = ((gcdAll [c, s, n] 0 : Nat) : Int) ∧ Ev (fun k => plane_divisor.f k [c, s, n]) g := by
  have he := divisor_ev [c, s, n] (by simp) (by simp; omega)
  have hd : gcdAll [c, s, n] 0 = Nat.gcd (Nat.gcd (Nat.gcd 0 c.natAbs) s.natAbs) n.natAbs := rfl
  have h1 : gcdAll [c, s, n] 0 ∣ n.natAbs := by rw [hd]; exact Nat.gcd_dvd_right _ _
  have h2 : gcdAll [c, s, n] 0 ∣ s.natAbs := by rw [hd]; exact Nat.dvd_trans (Nat.gcd_dvd_left _ _) (Nat.gcd_dvd_right _ _)
  have h3 : gcdAll [c, s, n] 0 ∣ c.natAbs := by rw [hd]; exact Nat.dvd_trans (Nat.gcd_dvd_left _ _) (Nat.dvd_trans (Nat.gcd_dvd_left _ _) (Nat.gcd_dvd_right _ _))
  have hpos : 0 < gcdAll [c, s, n] 0 := Nat.pos_of_dvd_of_pos h1 (by omega)
  obtain ⟨n', e1⟩ := Int.ofNat_dvd_left.2 h1
  obtain ⟨s', e2⟩ := Int.ofNat_dvd_left.2 h2
  obtain ⟨c', e3⟩ := Int.ofNat_dvd_left.2 h3
  exact ⟨_, c', s', n', by omega, e3, e2, e1, rfl, he⟩
/-- What two valid turns are, one after another. -/
theorem both_core (ac sa an bc sb bn : Int) (va : isRot ac sa an = true) (vb : isRot bc sb bn = true) :
    ∃ g c' s' n' : Int, 1 ≤ g ∧ ac * bc - sa * sb = g * c' ∧ sa * bc + ac * sb = g * s' ∧ an * bn = g * n' ∧ g = ((gcdAll [ac * bc - sa * sb, sa * bc + ac * sb, an * bn] 0 : Nat) : Int) ∧ 1 ≤ n' ∧ c' * c' + s' * s' = n' * n' ∧ -n' ≤ c' ∧ c' ≤ n' ∧ -n' ≤ s' ∧ s' ≤ n' ∧
      Ev (fun k => plane_Both.f k ac sa an bc sb bn) (if n' > 16777216 then (0, 0, 0, 4) else (c', s', n', 0)) := by
  have ga := isRot_iff.1 va
  have gb := isRot_iff.1 vb
  have m1 := mul_bd (x := ac) (y := bc) (A := 16777216) (B := 16777216) (by omega) (by omega) (by omega) (by omega)
  have m2 := mul_bd (x := sa) (y := sb) (A := 16777216) (B := 16777216) (by omega) (by omega) (by omega) (by omega)
  have m3 := mul_bd (x := sa) (y := bc) (A := 16777216) (B := 16777216) (by omega) (by omega) (by omega) (by omega)
  have m4 := mul_bd (x := ac) (y := sb) (A := 16777216) (B := 16777216) (by omega) (by omega) (by omega) (by omega)
  have m5 := mul_bd (x := an) (y := bn) (A := 16777216) (B := 16777216) (by omega) (by omega) (by omega) (by omega)
  have m6 : 1 ≤ an * bn := Int.mul_pos (by omega) (by omega)
  have hid : (ac * bc - sa * sb) * (ac * bc - sa * sb) + (sa * bc + ac * sb) * (sa * bc + ac * sb) = (an * bn) * (an * bn) := by
    have e1 := ga.2.2.2
    have e2 := gb.2.2.2
    have : (ac * bc - sa * sb) * (ac * bc - sa * sb) + (sa * bc + ac * sb) * (sa * bc + ac * sb) = (ac * ac + sa * sa) * (bc * bc + sb * sb) := by grind
    rw [this, e1, e2]; grind
  generalize hc : ac * bc - sa * sb = c at *
  generalize hs : sa * bc + ac * sb = s at *
  generalize hn : an * bn = n at *
  obtain ⟨g, c', s', n', g1, e1, e2, e3, e4, he⟩ := divisor3 c s n (by omega) (by omega) (by omega)
  have gg : 0 < g * g := Int.mul_pos (by omega) (by omega)
  have hn' : 1 ≤ n' := by
    rcases Int.lt_or_le n' 1 with h | h
    · have : g * n' ≤ g * 0 := Int.mul_le_mul_of_nonneg_left (by omega) (by omega)
      omega
    · exact h
  have hsq : c' * c' + s' * s' = n' * n' := by
    have : g * g * (c' * c' + s' * s') = g * g * (n' * n') := by
      rw [e1, e2, e3] at hid; grind
    exact Int.eq_of_mul_eq_mul_left (by omega) this
  have bnd : ∀ z w : Int, z * z + w * w = n' * n' → -n' ≤ z ∧ z ≤ n' := by
    intro z w h
    have sw := sq_nonneg w
    constructor
    · rcases Int.lt_or_le z (-n') with h' | h'
      · have := Int.mul_le_mul (show n' + 1 ≤ -z by omega) (show n' + 1 ≤ -z by omega) (by omega) (by omega)
        have e : (n' + 1) * (n' + 1) = n' * n' + 2 * n' + 1 := by grind
        rw [Int.neg_mul_neg] at this
        omega
      · exact h'
    · rcases Int.lt_or_le n' z with h' | h'
      · have := Int.mul_le_mul (show n' + 1 ≤ z by omega) (show n' + 1 ≤ z by omega) (by omega) (by omega)
        have e : (n' + 1) * (n' + 1) = n' * n' + 2 * n' + 1 := by grind
        omega
      · exact h'
  have b1 := bnd c' s' hsq
  have b2 := bnd s' c' (by omega)
  have hle : n' ≤ n := by
    have : 1 * n' ≤ g * n' := Int.mul_le_mul_of_nonneg_right g1 (by omega)
    omega
  refine ⟨g, c', s', n', g1, e1, e2, e3, e4, hn', hsq, b1.1, b1.2, b2.1, b2.2, ?_⟩
  unfold plane_Both.f
  simp only [checkRot_eq, va, vb, if_true, Option.bind_some, bne_self_eq_false]
  refine Ev.step (fun k => by rw [plane_Both.j0]) ?_
  simp only [Bool.false_eq_true, if_false]
  rw [w64 (x := ac * bc) (by omega) (by omega), w64 (x := sa * sb) (by omega) (by omega), w64 (x := sa * bc) (by omega) (by omega), w64 (x := ac * sb) (by omega) (by omega), hc, hs, hn, w64 (x := c) (by omega) (by omega), w64 (x := s) (by omega) (by omega), w64 (x := n) (by omega) (by omega)]
  refine Ev.bind he ?_
  have q1 : Int.tdiv n g = n' := by rw [e3, Int.mul_tdiv_cancel_left _ (by omega)]
  have q2 : Int.tdiv c g = c' := by rw [e1, Int.mul_tdiv_cancel_left _ (by omega)]
  have q3 : Int.tdiv s g = s' := by rw [e2, Int.mul_tdiv_cancel_left _ (by omega)]
  rw [q1, q2, q3, w64 (x := n') (by omega) (by omega), w64 (x := c') (by omega) (by omega), w64 (x := s') (by omega) (by omega)]
  refine Ev.congr (f := fun _ => some (if n' > 16777216 then (0, 0, 0, 4) else (c', s', n', 0))) (fun k => ?_) (Ev.now _)
  rw [if_neg (by omega)]
  by_cases h : n' > 16777216
  · rw [if_pos h, if_pos h]
  · rw [if_neg h, if_neg h]
theorem both_ok (ac sa an bc sb bn : Int) (va : isRot ac sa an = true) (vb : isRot bc sb bn = true) :
    ∃ r, Ev (fun k => plane_Both.f k ac sa an bc sb bn) r ∧ ((r.2.2.2 = 0 ∧ plane_CheckRot.f r.1 r.2.1 r.2.2.1 = some 0) ∨ r.2.2.2 = 4) := by
  obtain ⟨g, c', s', n', _, _, _, _, _, h1, h2, h3, h4, h5, h6, he⟩ := both_core ac sa an bc sb bn va vb
  by_cases h : n' > 16777216
  · rw [if_pos h] at he; exact ⟨_, he, .inr rfl⟩
  · rw [if_neg h] at he
    refine ⟨_, he, .inl ⟨rfl, ?_⟩⟩
    rw [checkRot_eq, if_pos (isRot_iff.2 ⟨⟨h1, by omega⟩, ⟨h3, h4⟩, ⟨h5, h6⟩, h2⟩)]
theorem back_ok (ac sa an : Int) (va : isRot ac sa an = true) : Ev (fun k => plane_Both.f k ac sa an ac (-sa) an) (1, 0, 1, 0) := by
  have ga := isRot_iff.1 va
  have vb : isRot ac (-sa) an = true := isRot_iff.2 ⟨ga.1, ga.2.1, ⟨by omega, by omega⟩, by rw [Int.neg_mul_neg]; exact ga.2.2.2⟩
  obtain ⟨g, c', s', n', g1, e1, e2, e3, e4, h1, h2, h3, h4, h5, h6, he⟩ := both_core ac sa an ac (-sa) an va vb
  have hc : ac * ac - sa * -sa = an * an := by have := ga.2.2.2; rw [Int.mul_neg]; omega
  have hs : sa * ac + ac * -sa = 0 := by rw [Int.mul_neg, Int.mul_comm]; omega
  rw [hc, hs] at e4
  have h0 : 1 ≤ an * an := Int.mul_pos (by omega) (by omega)
  have hg : g = an * an := by
    rw [e4]
    have : gcdAll [an * an, 0, an * an] 0 = (an * an).natAbs := by
      show Nat.gcd (Nat.gcd (Nat.gcd 0 (an * an).natAbs) (0 : Int).natAbs) (an * an).natAbs = _
      simp
    rw [this]; omega
  have hn1 : n' = 1 := by
    have : g * n' = g * 1 := by rw [← e3, hg]; omega
    exact Int.eq_of_mul_eq_mul_left (by omega) this
  have hs0 : s' = 0 := by
    have : g * s' = g * 0 := by rw [← e2, hs]; omega
    exact Int.eq_of_mul_eq_mul_left (by omega) this
  have hc1 : c' = 1 := by
    have : g * c' = g * 1 := by rw [← e1, hc, hg]; omega
    exact Int.eq_of_mul_eq_mul_left (by omega) this
  rw [hn1, hs0, hc1] at he
  simpa using he
/-- A turned point, by the nearest numbers. -/
def rotS (s t ox oy c sn n : Int) : Int × Int × Int := resS (ox + nearI ((s - ox) * c - (t - oy) * sn) n) (oy + nearI ((s - ox) * sn + (t - oy) * c) n)
theorem rotate_ev (s t ox oy c sn n : Int) (vs : isP s t = true) (vo : isP ox oy = true) (va : isRot c sn n = true) : Ev (fun k => plane_Rotate.f k s t ox oy c sn n) (rotS s t ox oy c sn n) ∧
    plane_near.f (wrap64 ((wrap64 ((wrap64 (s - ox)) * c)) - (wrap64 ((wrap64 (t - oy)) * sn)))) n = some (nearI ((s - ox) * c - (t - oy) * sn) n) ∧ gooseneckref01_Near.f (wrap64 ((wrap64 ((wrap64 (s - ox)) * c)) - (wrap64 ((wrap64 (t - oy)) * sn)))) n = some (nearI ((s - ox) * c - (t - oy) * sn) n) ∧
    gooseneckref01_Near.f (wrap64 ((wrap64 ((wrap64 (s - ox)) * sn)) + (wrap64 ((wrap64 (t - oy)) * c)))) n = some (nearI ((s - ox) * sn + (t - oy) * c) n) ∧
    wrap64 (ox + nearI ((s - ox) * c - (t - oy) * sn) n) = ox + nearI ((s - ox) * c - (t - oy) * sn) n ∧ wrap64 (oy + nearI ((s - ox) * sn + (t - oy) * c) n) = oy + nearI ((s - ox) * sn + (t - oy) * c) n := by
  have gs := isP_iff.1 vs
  have go := isP_iff.1 vo
  have ga := isRot_iff.1 va
  have m1 := mul_bd (x := s - ox) (y := c) (A := 33554432) (B := 16777216) (by omega) (by omega) (by omega) (by omega)
  have m2 := mul_bd (x := t - oy) (y := sn) (A := 33554432) (B := 16777216) (by omega) (by omega) (by omega) (by omega)
  have m3 := mul_bd (x := s - ox) (y := sn) (A := 33554432) (B := 16777216) (by omega) (by omega) (by omega) (by omega)
  have m4 := mul_bd (x := t - oy) (y := c) (A := 33554432) (B := 16777216) (by omega) (by omega) (by omega) (by omega)
  have n1 := nearI_bd (n := (s - ox) * c - (t - oy) * sn) (d := n) (B := 1125899906842624) (by omega) (by omega) (by omega) (by omega)
  have n2 := nearI_bd (n := (s - ox) * sn + (t - oy) * c) (d := n) (B := 1125899906842624) (by omega) (by omega) (by omega) (by omega)
  have w1 : wrap64 ((wrap64 ((wrap64 (s - ox)) * c)) - (wrap64 ((wrap64 (t - oy)) * sn))) = (s - ox) * c - (t - oy) * sn := by
    rw [w64 (x := s - ox) (by omega) (by omega), w64 (x := t - oy) (by omega) (by omega), w64 (x := (s - ox) * c) (by omega) (by omega), w64 (x := (t - oy) * sn) (by omega) (by omega), w64 (by omega) (by omega)]
  have w2 : wrap64 ((wrap64 ((wrap64 (s - ox)) * sn)) + (wrap64 ((wrap64 (t - oy)) * c))) = (s - ox) * sn + (t - oy) * c := by
    rw [w64 (x := s - ox) (by omega) (by omega), w64 (x := t - oy) (by omega) (by omega), w64 (x := (s - ox) * sn) (by omega) (by omega), w64 (x := (t - oy) * c) (by omega) (by omega), w64 (by omega) (by omega)]
  have e1 := near_eq ((s - ox) * c - (t - oy) * sn) n (by omega) (by omega) (by omega) (by omega)
  have e1' := Near_eq ((s - ox) * c - (t - oy) * sn) n (by omega) (by omega) (by omega) (by omega)
  have e2 := near_eq ((s - ox) * sn + (t - oy) * c) n (by omega) (by omega) (by omega) (by omega)
  have e2' := Near_eq ((s - ox) * sn + (t - oy) * c) n (by omega) (by omega) (by omega) (by omega)
  have f1 : wrap64 (ox + nearI ((s - ox) * c - (t - oy) * sn) n) = ox + nearI ((s - ox) * c - (t - oy) * sn) n := w64 (by omega) (by omega)
  have f2 : wrap64 (oy + nearI ((s - ox) * sn + (t - oy) * c) n) = oy + nearI ((s - ox) * sn + (t - oy) * c) n := w64 (by omega) (by omega)
  rw [w1, w2]
  refine ⟨?_, e1, e1', e2', f1, f2⟩
  unfold plane_Rotate.f rotS
  have hv := valid2 s t ox oy
  rw [vs, vo] at hv
  refine Ev.bind hv ?_
  simp only [Bool.and_self, if_true, checkRot_eq, va, Option.bind_some, bne_self_eq_false]
  refine Ev.step (fun k => by rw [plane_Rotate.j0]) ?_
  simp only [Bool.false_eq_true, if_false, w1, w2, e1, e2, Option.bind_some, f1, f2]
  exact Ev.bind (result_ev _ _) (Ev.now _)
theorem rotate_ok (s t ox oy c sn n : Int) (va : isRot c sn n = true) (hs : -32768 ≤ s ∧ s ≤ 32768) (ht : -32768 ≤ t ∧ t ≤ 32768) (ho : -128 ≤ ox ∧ ox ≤ 127) (hp : -128 ≤ oy ∧ oy ≤ 127) :
    ∃ zx zy, Ev (fun k => plane_Rotate.f k s t ox oy c sn n) (zx, zy, 0) ∧ -16777216 ≤ zx ∧ zx ≤ 16777216 ∧ -16777216 ≤ zy ∧ zy ≤ 16777216 ∧
      (-n ≤ 2 * ((zx - ox) * n - ((s - ox) * c - (t - oy) * sn)) ∧ 2 * ((zx - ox) * n - ((s - ox) * c - (t - oy) * sn)) ≤ n) ∧ (-n ≤ 2 * ((zy - oy) * n - ((s - ox) * sn + (t - oy) * c)) ∧ 2 * ((zy - oy) * n - ((s - ox) * sn + (t - oy) * c)) ≤ n) := by
  have vs : isP s t = true := isP_iff.2 (by omega)
  have vo : isP ox oy = true := isP_iff.2 (by omega)
  have ga := isRot_iff.1 va
  have he := (rotate_ev s t ox oy c sn n vs vo va).1
  have r1 := nearI_rest ((s - ox) * c - (t - oy) * sn) n (by omega)
  have r2 := nearI_rest ((s - ox) * sn + (t - oy) * c) n (by omega)
  have m1 := mul_bd (x := s - ox) (y := c) (A := 32896) (B := n) (by omega) (by omega) (by omega) (by omega)
  have m2 := mul_bd (x := t - oy) (y := sn) (A := 32896) (B := n) (by omega) (by omega) (by omega) (by omega)
  have m3 := mul_bd (x := s - ox) (y := sn) (A := 32896) (B := n) (by omega) (by omega) (by omega) (by omega)
  have m4 := mul_bd (x := t - oy) (y := c) (A := 32896) (B := n) (by omega) (by omega) (by omega) (by omega)
  have hp : -(65792 * n) ≤ (s - ox) * c - (t - oy) * sn ∧ (s - ox) * c - (t - oy) * sn ≤ 65792 * n := by omega
  have hq : -(65792 * n) ≤ (s - ox) * sn + (t - oy) * c ∧ (s - ox) * sn + (t - oy) * c ≤ 65792 * n := by omega
  unfold rotS at he
  generalize (s - ox) * c - (t - oy) * sn = p at *
  generalize (s - ox) * sn + (t - oy) * c = q at *
  have bnd : ∀ z : Int, -(65792 * n) ≤ z → z ≤ 65792 * n → -n ≤ 2 * (nearI z n * n - z) → 2 * (nearI z n * n - z) ≤ n → -65793 ≤ nearI z n ∧ nearI z n ≤ 65793 := by
    intro z h1 h2 h3 h4
    generalize nearI z n = E at *
    have eE : E * n = n * E := Int.mul_comm _ _
    constructor
    · have : n * (-65794) < n * E := by omega
      have := Int.lt_of_mul_lt_mul_left this (by omega)
      omega
    · have : n * E < n * 65794 := by omega
      have := Int.lt_of_mul_lt_mul_left this (by omega)
      omega
  have b1 := bnd p hp.1 hp.2 r1.1 r1.2
  have b2 := bnd q hq.1 hq.2 r2.1 r2.2
  generalize nearI p n = E at *
  generalize nearI q n = F at *
  have vz : isP (ox + E) (oy + F) = true := isP_iff.2 (by omega)
  rw [show resS (ox + E) (oy + F) = (ox + E, oy + F, 0) by unfold resS; rw [if_pos vz]] at he
  refine ⟨ox + E, oy + F, he, by omega, by omega, by omega, by omega, ?_, ?_⟩
  · rw [show ox + E - ox = E by omega]; exact r1
  · rw [show oy + F - oy = F by omega]; exact r2
end Go.Proofs.Ytegdcnjjelgpjaa.P
namespace Go.Proofs.Ytegdcnjjelgpjaa.P
open Go.RowKit Go.Proofs.YtegdcnjjelgpjaaW.PrintWords Go.Proofs.YtegdcnjjelgpjaaW.PrintLast Go.Proofs.YtegdcnjjelgpjaaW.PrintMore

/-- A turned point, relative to the centre: (A, B) nearest to the turn of (x, y). -/
theorem turned (x y C S N A B : Int) (hN : 1 ≤ N) (h : C * C + S * S = N * N) (hA : -N ≤ 2 * (A * N - (x * C - y * S)) ∧ 2 * (A * N - (x * C - y * S)) ≤ N) (hB : -N ≤ 2 * (B * N - (x * S + y * C)) ∧ 2 * (B * N - (x * S + y * C)) ≤ N)
    (g : Int) (hg : IsRoot (x * x + y * y) g) : x * x + y * y - 2 * (g + 1) ≤ A * A + B * B ∧ A * A + B * B ≤ x * x + y * y + 2 * (g + 1) := by
  obtain ⟨g0, g1, g2⟩ := hg
  generalize hp : x * C - y * S = p at *
  generalize hq : x * S + y * C = q at *
  have hpq : p * p + q * q = (x * x + y * y) * (N * N) := by
    rw [← h, ← hp, ← hq]; grind
  have hNN : 0 < N * N := Int.mul_pos (by omega) (by omega)
  have bound : ∀ z : Int, z * z ≤ (x * x + y * y) * (N * N) → -(N * (g + 1)) ≤ z ∧ z ≤ N * (g + 1) := by
    intro z hz
    have h1 : (x * x + y * y) * (N * N) ≤ (g + 1) * (g + 1) * (N * N) := Int.mul_le_mul_of_nonneg_right (by omega) (by omega)
    have h2 : z * z ≤ (N * (g + 1)) * (N * (g + 1)) := by
      have : (N * (g + 1)) * (N * (g + 1)) = (g + 1) * (g + 1) * (N * N) := by grind
      omega
    have h3 : 0 ≤ N * (g + 1) := Int.mul_nonneg (by omega) (by omega)
    constructor
    · rcases Int.lt_or_le z (-(N * (g + 1))) with h | h
      · have := Int.mul_le_mul (show N * (g + 1) + 1 ≤ -z by omega) (show N * (g + 1) + 1 ≤ -z by omega) (by omega) (by omega)
        have e : (N * (g + 1) + 1) * (N * (g + 1) + 1) = N * (g + 1) * (N * (g + 1)) + 2 * (N * (g + 1)) + 1 := by grind
        rw [Int.neg_mul_neg] at this
        omega
      · exact h
    · rcases Int.lt_or_le (N * (g + 1)) z with h | h
      · have := Int.mul_le_mul (show N * (g + 1) + 1 ≤ z by omega) (show N * (g + 1) + 1 ≤ z by omega) (by omega) (by omega)
        have e : (N * (g + 1) + 1) * (N * (g + 1) + 1) = N * (g + 1) * (N * (g + 1)) + 2 * (N * (g + 1)) + 1 := by grind
        omega
      · exact h
  have sp := sq_nonneg p
  have sq := sq_nonneg q
  have bp := bound p (by omega)
  have bq := bound q (by omega)
  generalize ha : A * N - p = a at *
  generalize hb : B * N - q = b at *
  have mp := mul_bd (x := 2 * a) (y := p) (A := N) (B := N * (g + 1)) (by omega) (by omega) bp.1 bp.2
  have mq := mul_bd (x := 2 * b) (y := q) (A := N) (B := N * (g + 1)) (by omega) (by omega) bq.1 bq.2
  have ma := mul_bd (x := 2 * a) (y := 2 * a) (A := N) (B := N) (by omega) (by omega) (by omega) (by omega)
  have mb := mul_bd (x := 2 * b) (y := 2 * b) (A := N) (B := N) (by omega) (by omega) (by omega) (by omega)
  have key : N * N * (A * A + B * B) = (x * x + y * y) * (N * N) + (2 * a * p + 2 * b * q) + (a * a + b * b) := by
    have e1 : N * N * (A * A + B * B) = (A * N) * (A * N) + (B * N) * (B * N) := by grind
    rw [e1, show A * N = p + a by omega, show B * N = q + b by omega, ← hpq]; grind
  have ea : 2 * a * (2 * a) = 4 * (a * a) := by grind
  have eb : 2 * b * (2 * b) = 4 * (b * b) := by grind
  have sa := sq_nonneg a
  have sb := sq_nonneg b
  have eg : N * (N * (g + 1)) = N * N * (g + 1) := by grind
  constructor
  · refine le_of_mul_pos hNN ?_
    have : N * N * (x * x + y * y - 2 * (g + 1)) = (x * x + y * y) * (N * N) - 2 * (N * N * (g + 1)) := by grind
    omega
  · have : N * N * (A * A + B * B) < N * N * (x * x + y * y + 2 * (g + 1) + 1) := by
      have : N * N * (x * x + y * y + 2 * (g + 1) + 1) = (x * x + y * y) * (N * N) + 2 * (N * N * (g + 1)) + N * N := by grind
      omega
    have := Int.lt_of_mul_lt_mul_left this (by omega)
    omega
theorem tmod_small (n m : Int) (hm : 0 < m) : -m < Int.tmod n m ∧ Int.tmod n m < m := by
  rcases Int.le_total 0 n with h | h
  · have h1 := Int.tmod_nonneg m h
    have h2 := Int.tmod_lt_of_pos n hm
    omega
  · have h1 := Int.tmod_nonneg m (show 0 ≤ -n by omega)
    have h2 := Int.tmod_lt_of_pos (-n) hm
    rw [Int.neg_tmod] at h1 h2
    omega
theorem dist_root (x y u v g h : Int) (hg : IsRoot (x * x + y * y) g) (hh : IsRoot (u * u + v * v) h) (h1 : x * x + y * y - 2 * (g + 1) ≤ u * u + v * v) (h2 : u * u + v * v ≤ x * x + y * y + 2 * (g + 1)) : g - 2 ≤ h ∧ h ≤ g + 2 := by
  obtain ⟨g0, g1, g2⟩ := hg
  have e0 : (g + 1) * (g + 1) = g * g + 2 * g + 1 := by grind
  constructor
  · by_cases hg3 : g ≤ 2
    · have := hh.1; omega
    · exact root_ge_of hh (by
        have : (g - 2) * (g - 2) = g * g - 4 * g + 4 := by grind
        omega)
  · exact root_le_of hh (by omega) (by
      have : (g + 2) * (g + 2) = g * g + 4 * g + 4 := by grind
      omega)

theorem PlaneHalves_pure : PlaneHalves_Pure := by
  intro n m d k_ ⟨px, py⟩ ⟨ox, oy⟩ by_ wn wm wd wk ⟨wpx, wpy⟩ ⟨wox, woy⟩ wb
  have bn := wf_i16 wn
  have bm := wf_i16 wm
  have bd := wf_u16 wd
  have bk := wf_u16 wk
  have bpx : -128 ≤ px ∧ px ≤ 127 := wf_i8 wpx
  have bpy : -128 ≤ py ∧ py ≤ 127 := wf_i8 wpy
  have box_ : -128 ≤ ox ∧ ox ≤ 127 := wf_i8 wox
  have boy : -128 ≤ oy ∧ oy ≤ 127 := wf_i8 woy
  have bb := wf_u8 wb
  refine Ev.rounds (g := fun k => goosenecklaw01_PlaneHalves.f k n m d k_ px py ox oy by_) ?_
  unfold goosenecklaw01_PlaneHalves.f
  have tn := tmod_small (wrap64 n) 2049 (by omega)
  have tm := tmod_small (wrap64 m) 2049 (by omega)
  have td := tmod_small (wrap64 d) 2048 (by omega)
  have tk := tmod_small (wrap64 k_) 2048 (by omega)
  have td0 : 0 ≤ Int.tmod (wrap64 d) 2048 := by rw [w64 (by omega) (by omega)]; exact Int.tmod_nonneg _ (by omega)
  have tk0 : 0 ≤ Int.tmod (wrap64 k_) 2048 := by rw [w64 (by omega) (by omega)]; exact Int.tmod_nonneg _ (by omega)
  simp only [w64 (x := 1 + Int.tmod (wrap64 d) 2048) (by omega) (by omega), w64 (x := 1 + Int.tmod (wrap64 k_) 2048) (by omega) (by omega)]
  generalize hn : Int.tmod (wrap64 n) 2049 = n' at *
  generalize hm : Int.tmod (wrap64 m) 2049 = m' at *
  generalize hd : 1 + Int.tmod (wrap64 d) 2048 = d' at *
  generalize hk : 1 + Int.tmod (wrap64 k_) 2048 = k' at *
  obtain ⟨A, ha, va⟩ := half_ok n' d' (by omega) (by omega) (by omega) (by omega)
  obtain ⟨B, hb, vb⟩ := half_ok m' k' (by omega) (by omega) (by omega) (by omega)
  obtain ⟨ac, sa, an⟩ := A
  obtain ⟨bc, bs, bn'⟩ := B
  replace va : isRot ac sa an = true := va
  replace vb : isRot bc bs bn' = true := vb
  replace ha : plane_Half.f n' d' = some (ac, sa, an, 0) := ha
  replace hb : plane_Half.f m' k' = some (bc, bs, bn', 0) := hb
  simp only [ha, hb, Option.bind_some, if_true, checkRot_eq, va, vb, bne_self_eq_false]
  refine Ev.step (fun k => by rw [goosenecklaw01_PlaneHalves.j0]) ?_
  simp only [Bool.false_eq_true, if_false]
  obtain ⟨r, hr, hcase⟩ := both_ok ac sa an bc bs bn' va vb
  refine Ev.bind hr ?_
  have hj1 : Ev (fun k => goosenecklaw01_PlaneHalves.j1 k by_ false px py ox oy ac sa an) true := by
    refine Ev.step (fun k => by rw [goosenecklaw01_PlaneHalves.j1]) ?_
    simp only [Bool.false_eq_true, if_false]
    have va' := isRot_iff.1 va
    have hneg : wrap64 (-sa) = -sa := w64 (by omega) (by omega)
    rw [hneg]
    refine Ev.bind (back_ok ac sa an va) ?_
    simp only [if_true, beq_self_eq_true, Bool.not_true, Bool.or_self]
    refine Ev.step (fun k => by rw [goosenecklaw01_PlaneHalves.j2]) ?_
    simp only [Bool.false_eq_true, if_false]
    have mx1 := mul_bd (x := px) (y := 1 + by_) (A := 128) (B := 256) (by omega) (by omega) (by omega) (by omega)
    have my1 := mul_bd (x := py) (y := 1 + by_) (A := 128) (B := 256) (by omega) (by omega) (by omega) (by omega)
    simp only [w64 (x := px) (by omega) (by omega), w64 (x := py) (by omega) (by omega), w64 (x := ox) (by omega) (by omega), w64 (x := oy) (by omega) (by omega), w64 (x := by_) (by omega) (by omega), w64 (x := 1 + by_) (by omega) (by omega), w64 (x := px * (1 + by_)) (by omega) (by omega), w64 (x := py * (1 + by_)) (by omega) (by omega)]
    generalize hs : px * (1 + by_) = s at *
    generalize ht : py * (1 + by_) = t at *
    obtain ⟨zx, zy, hz, b1, b2, b3, b4, hz1, hz2⟩ := rotate_ok s t ox oy ac sa an va (by omega) (by omega) (by omega) (by omega)
    have vs : isP s t = true := isP_iff.2 (by omega)
    have vo : isP ox oy = true := isP_iff.2 (by omega)
    have vz : isP zx zy = true := isP_iff.2 (by omega)
    obtain ⟨g, g1, g2, e1⟩ := Distance_ev s t ox oy vs vo
    obtain ⟨h, h1, h2, e2⟩ := Distance_ev zx zy ox oy vz vo
    refine Ev.bind hz (Ev.bind e1 (Ev.bind e2 ?_))
    simp only [if_true]
    have hg' : IsRoot ((s - ox) * (s - ox) + (t - oy) * (t - oy)) g := by
      rw [show (s - ox) * (s - ox) + (t - oy) * (t - oy) = (ox - s) * (ox - s) + (oy - t) * (oy - t) by grind]; exact g1
    have hh' : IsRoot ((zx - ox) * (zx - ox) + (zy - oy) * (zy - oy)) h := by
      rw [show (zx - ox) * (zx - ox) + (zy - oy) * (zy - oy) = (ox - zx) * (ox - zx) + (oy - zy) * (oy - zy) by grind]; exact h1
    have tt := turned (s - ox) (t - oy) ac sa an (zx - ox) (zy - oy) (by omega) va'.2.2.2 hz1 hz2 g hg'
    have dd := dist_root (s - ox) (t - oy) (zx - ox) (zy - oy) g h hg' hh' tt.1 tt.2
    have hm2 : mx (g - h) (h - g) ≤ 2 := by unfold mx; split <;> omega
    have g0 := g1.1
    have h0 := h1.1
    simp only [dist_eq g h (by omega) (by omega), Option.bind_some, if_pos hm2]
    exact Ev.bind works_ev (Ev.now _)
  rcases hcase with ⟨h0, hv⟩ | h4
  · simp only [h0, if_true, hv, Option.bind_some, bne_self_eq_false]
    exact hj1
  · simp only [h4, show ¬ ((4 : Int) = 0) by omega, if_true, if_false]
    exact hj1
end Go.Proofs.Ytegdcnjjelgpjaa.P
namespace Go.Proofs.Ytegdcnjjelgpjaa.planeHalves
open Go.ChangeShapes Go.WideShapes Go.ChangeAt Go.RowKit Go.Proofs.Ytegdcnjjelgpjaa.P
open Go.Proofs.YtegdcnjjelgpjaaW.PrintWords Go.Proofs.YtegdcnjjelgpjaaW.PrintLast Go.Proofs.YtegdcnjjelgpjaaW.PrintMore
open Go.ChangeMaps (open_string shut_string)
set_option linter.unusedVariables false
theorem own : ownKnob Try.prog.godebug = none := by kernel_rfl
theorem laidOut : laidOutB Try.prog = true := by kernel_rfl
set_option maxRecDepth 100000 in
theorem lifted (os : Os) (started : os.Started) (H : Type) (enc : TypeId × Value → H) :
    ReturnsInHanded {} Try.checked os 9 .any (Rows.planeHalvesSpec.pre6 enc Try.prog Try.f9 Rows.planeHalvesRow.domain false) (Rows.planeHalvesSpec.post enc Try.prog Try.f9 false true false false) := by
  refine returnsInHanded_of_change_sized (C := Try.checked) own started (by kernel_rfl) Try.func9
    (ChangeSpec.witness6 (enc := enc) (C := Try.checked) false ⟨#[], #[.int .i16 0, .int .i16 0, .int .u16 0, .int .u16 0, .agg #[.int .i8 0, .int .i8 0], .agg #[.int .i8 0, .int .i8 0], .int .u8 0], []⟩ 8 (by kernel_rfl) (by kernel_rfl) (by kernel_rfl) (by kernel_rfl)) ?_
  intro W base args ds gs before hval0 hW hcnd hsz0 _
  have hval : ∀ (j : Nat) t v, Try.f9.params[j]? = some t → args[j]? = some v → Value.okWide Try.prog W .any base t v := hval0
  have hW' := hW
  obtain ⟨p, q, hA0, hV, rfl, hfz, hnd⟩ := hW
  have hA : DataW.TrodAll enc Try.prog W 0 (fun _ => true) true Try.f9.params.toList args.toList ds p := hA0
  rw [Try.params9] at hA hval
  obtain ⟨v0, vs0, d0, ds0, p0, q0, hargs, rfl, rfl, h0, r0⟩ := trodAll_cons hA
  obtain ⟨v1, vs1, d1, ds1, p1, q1, rfl, rfl, rfl, h1, r1⟩ := trodAll_cons r0
  obtain ⟨v2, vs2, d2, ds2, p2, q2, rfl, rfl, rfl, h2, r2⟩ := trodAll_cons r1
  obtain ⟨v3, vs3, d3, ds3, p3, q3, rfl, rfl, rfl, h3, r3⟩ := trodAll_cons r2
  obtain ⟨v4, vs4, d4, ds4, p4, q4, rfl, rfl, rfl, h4, r4⟩ := trodAll_cons r3
  obtain ⟨v5, vs5, d5, ds5, p5, q5, rfl, rfl, rfl, h5, r5⟩ := trodAll_cons r4
  obtain ⟨v6, vs6, d6, ds6, p6, q6, rfl, rfl, rfl, h6, r6⟩ := trodAll_cons r5
  obtain ⟨rfl, rfl, rfl⟩ := trodAll_nil r6
  obtain rfl : args = #[v0, v1, v2, v3, v4, v5, v6] := by cases args; simp_all
  obtain ⟨rfl, rfl⟩ := trodVars_none hV
  obtain ⟨a0, rfl, rfl, rfl, w0⟩ := open_int Try.underlying61 (hval 0 61 v0 rfl rfl) h0
  obtain ⟨a1, rfl, rfl, rfl, w1⟩ := open_int Try.underlying61 (hval 1 61 v1 rfl rfl) h1
  obtain ⟨a2, rfl, rfl, rfl, w2⟩ := open_int Try.underlying33 (hval 2 33 v2 rfl rfl) h2
  obtain ⟨a3, rfl, rfl, rfl, w3⟩ := open_int Try.underlying33 (hval 3 33 v3 rfl rfl) h3
  have k4 := h4
  have lt4 : ∀ x ∈ p4, x.block < W.heap.size := by obtain ⟨m, hm⟩ := k4; exact DataW.trod_lt m _ _ _ hm
  obtain ⟨cs4, rfl, hz4⟩ := okWide_struct Try.underlying32 (hval 4 32 v4 rfl rfl)
  obtain ⟨f4, hf4⟩ := h4
  obtain ⟨x4, hK4, w4⟩ := opens32 H enc W _ _ _ _ _ _ hf4
  have e4 := k32_open hK4
  obtain rfl : cs4 = #[.int .i8 x4.f0, .int .i8 x4.f1] := by apply Array.toList_inj.1; simpa [Value.cells] using e4
  have k5 := h5
  have lt5 : ∀ x ∈ p5, x.block < W.heap.size := by obtain ⟨m, hm⟩ := k5; exact DataW.trod_lt m _ _ _ hm
  obtain ⟨cs5, rfl, hz5⟩ := okWide_struct Try.underlying32 (hval 5 32 v5 rfl rfl)
  obtain ⟨f5, hf5⟩ := h5
  obtain ⟨x5, hK5, w5⟩ := opens32 H enc W _ _ _ _ _ _ hf5
  have e5 := k32_open hK5
  obtain rfl : cs5 = #[.int .i8 x5.f0, .int .i8 x5.f1] := by apply Array.toList_inj.1; simpa [Value.cells] using e5
  obtain ⟨a6, rfl, rfl, rfl, w6⟩ := open_int Try.underlying5 (hval 6 5 v6 rfl rfl) h6
  clear hA0 hval0 hsz0
  obtain ⟨k, hk⟩ := PlaneHalves_pure a0 a1 a2 a3 x4 x5 a6 w0 w1 w2 w3 w4 w5 w6
  refine (goosenecklaw01_PlaneHalves.calls k a0 a1 a2 a3 x4.f0 x4.f1 x5.f0 x5.f1 a6 true W  ⟨rfl⟩ hk).mono fun e W' ⟨he, bel⟩ => ?_
  subst he
  exact ⟨_, rfl, _, _, _, [], _, [], hW', trodAll_mk1 (shut_bool Try.underlying4 _), (trodAll_cons_mk (shut_int Try.underlying61 w0) (trodAll_cons_mk (shut_int Try.underlying61 w1) (trodAll_cons_mk (shut_int Try.underlying33 w2) (trodAll_cons_mk (shut_int Try.underlying33 w3) (trodAll_cons_mk (Below.trod laidOut (by kernel_rfl) (of_decide_eq_true (by kernel_rfl)) k4 bel lt4) (trodAll_cons_mk (Below.trod laidOut (by kernel_rfl) (of_decide_eq_true (by kernel_rfl)) k5 bel lt5) (trodAll_cons_mk (shut_int Try.underlying5 w6) trodAll_mk0))))))), rfl, bel.frame _, fun h => by cases h⟩
theorem over : Rows.planeHalvesRow.holds Try.pinned (OpenSpec.ofChange Rows.planeHalvesSpec) :=
  OpenClaim.holds_of_wide 9 Try.f9 rfl rfl rfl rfl rfl rfl rfl ⟨rfl, rfl, rfl, rfl, rfl⟩ rfl rfl rfl rfl rfl (by kernel_rfl) Try.func9 (by kernel_rfl)
    (of_decide_eq_true (by kernel_rfl)) (by unfold Func.isWrapper; first | (rw [if_pos (by decide +kernel)]; kernel_rfl) | (rw [if_neg (by decide +kernel)]; exact ⟨rfl, rfl⟩))
    (fun os started H enc _ => lifted os started H enc)
theorem proved : Rows.PlaneHalvesSaid := over
#print axioms proved
end Go.Proofs.Ytegdcnjjelgpjaa.planeHalves
namespace Go.Proofs.Ytegdcnjjelgpjaa
/-- The row, under a short name, for the claim. -/
theorem planeHalves_holds : Rows.PlaneHalvesSaid := planeHalves.proved
end Go.Proofs.Ytegdcnjjelgpjaa
