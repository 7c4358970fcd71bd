/- The law BridgeBorne answers true at every input and leaves its arguments as they were; no condition. Part 2 of 6. -/
import Derived.Test.YtiklpefckadgdaaCBridgeBorne0
import Derived.Laws.BitsLemmas
noncomputable section
namespace Go.Proofs.Ytiklpefckadgdaa.P
open Go.RowKit Go.Proofs.YtiklpefckadgdaaW.PrintWords Go.Proofs.YtiklpefckadgdaaW.PrintLast Go.Proofs.YtiklpefckadgdaaW.PrintMore
attribute [local go_sem] max2_int min2_int max_two min_two max_three min_three max_four min_four   -- for this text's walks alone
set_option linter.unusedVariables false
set_option linter.unusedSimpArgs false
mutual
def bridge_CheckTrain.j0 : Nat → List (S35) → Bool → Option (Int)
 | 0, _, _ => none
 | k + 1, x0, x13 => if x13 = true then (some 6) else (bridge_CheckTrain.l0 k 0 x0 (x0.length : Int) 0)
def bridge_CheckTrain.l0 : Nat → Int → List (S35) → Int → Int → Option (Int)
 | 0, _, _, _, _ => none
 | k + 1, x3, x14, x15, x16 => if x16 < x15 then (if 0 ≤ x16 then (if x16 < (x14.length : Int) then (if ((rd_T35 x14 x16).f0) < x3 then (some 2) else (if ((rd_T35 x14 x16).f0) > 262144 then (some 2) else (if x16 = 0 then (if ((rd_T35 x14 x16).f0) = 0 then ((bridge_between.f ((rd_T35 x14 x16).f1) 0 1048576).bind fun t103 => (if t103 = true then (bridge_CheckTrain.l0 k ((rd_T35 x14 x16).f0) x14 x15 (wrap64 (x16 + 1))) else (some 2))) else (some 2)) else ((bridge_between.f ((rd_T35 x14 x16).f1) 0 1048576).bind fun t104 => (if t104 = true then (bridge_CheckTrain.l0 k ((rd_T35 x14 x16).f0) x14 x15 (wrap64 (x16 + 1))) else (some 2)))))) else (none)) else (none)) else (some 0)
end
def bridge_CheckTrain.f (k : Nat) (l0 : List (S35)) : Option (Int) := if (l0.length : Int) < 1 then (bridge_CheckTrain.j0 k l0 true) else (bridge_CheckTrain.j0 k l0 (decide ((l0.length : Int) > 64)))
theorem bridge_CheckTrain.mono_l : ∀ k, (∀ y0 y1, LeO (bridge_CheckTrain.j0 k y0 y1) (bridge_CheckTrain.j0 (k + 1) y0 y1)) ∧ (∀ y0 y1 y2 y3, LeO (bridge_CheckTrain.l0 k y0 y1 y2 y3) (bridge_CheckTrain.l0 (k + 1) y0 y1 y2 y3))
 | 0 => ⟨fun _ _ r h => by simp [bridge_CheckTrain.j0] at h, fun _ _ _ _ r h => by simp [bridge_CheckTrain.l0] at h⟩
 | k + 1 => by
  obtain ⟨ih0, ih1⟩ := bridge_CheckTrain.mono_l k
  refine ⟨?_, ?_⟩
  ·intro y0 y1
   unfold bridge_CheckTrain.j0
   repeat' first
   | (with_reducible exact ih0 _ _)
   | (with_reducible exact ih1 _ _ _ _)
   | (with_reducible exact LeO.refl _)
   | (with_reducible exact LeO.none _)
   | (with_reducible refine LeO.ite ?_ ?_)
   | (with_reducible refine LeO.bind ?_ (fun _ => ?_))
   | exact ih0 _ _
   | exact ih1 _ _ _ _
   | exact LeO.none _
   | refine LeO.ite ?_ ?_
   | refine LeO.bind ?_ (fun _ => ?_)
  ·intro y0 y1 y2 y3
   unfold bridge_CheckTrain.l0
   repeat' first
   | (with_reducible exact ih0 _ _)
   | (with_reducible exact ih1 _ _ _ _)
   | (with_reducible exact LeO.refl _)
   | (with_reducible exact LeO.none _)
   | (with_reducible refine LeO.ite ?_ ?_)
   | (with_reducible refine LeO.bind ?_ (fun _ => ?_))
   | exact ih0 _ _
   | exact ih1 _ _ _ _
   | exact LeO.none _
   | refine LeO.ite ?_ ?_
   | refine LeO.bind ?_ (fun _ => ?_)
theorem bridge_CheckTrain.mono : ∀ a0 k, LeO (bridge_CheckTrain.f k a0) (bridge_CheckTrain.f (k + 1) a0) := by
 intro a0 k
 obtain ⟨ih0, ih1⟩ := bridge_CheckTrain.mono_l k
 unfold bridge_CheckTrain.f
 repeat' first
   | (with_reducible exact ih0 _ _)
   | (with_reducible exact ih1 _ _ _ _)
   | (with_reducible exact LeO.refl _)
   | (with_reducible exact LeO.none _)
   | (with_reducible refine LeO.ite ?_ ?_)
   | (with_reducible refine LeO.bind ?_ (fun _ => ?_))
   | exact ih0 _ _
   | exact ih1 _ _ _ _
   | exact LeO.none _
   | refine LeO.ite ?_ ?_
   | refine LeO.bind ?_ (fun _ => ?_)
set_option maxHeartbeats 8000000 in
set_option maxRecDepth 100000 in
theorem bridge_CheckTrain.calls (k : Nat) (A0 : Option Addr) (c0 : Nat) (l0 : List (S35)) (r : Int) (w : World) (hr0 : Kd.C k35 w A0 l0.length l0) (hc0 : l0.length ≤ c0) (h : bridge_CheckTrain.f k l0 = some r) :
  Calls Try.prog 29 #[.slice A0 l0.length c0] w fun e w' => e = .returned (.int .i64 r) ∧ Below w.heap.size w w' := by
 have hu35 := Try.underlying35
 have HR0 := Aside0.mk hr0
 have HC0 := Aside0.mk hc0
 clear hr0 hc0
 have HB := Aside0.mk (Below.refl w.heap.size w)
 have H : (if (l0.length : Int) < 1 then (bridge_CheckTrain.j0 k l0 true) else (bridge_CheckTrain.j0 k l0 (decide ((l0.length : Int) > 64)))) = some r := h
 clear h
 have HC2 := Aside0.mk H
 clear H
 go_enter Try.func29, Try.ntmps29
 go_upto_region 1 with (fail)
 go_cut [13] (fun v13 wc => ∃ (kq : Nat) (x13_1 : Bool), v13 = .bool x13_1 ∧ Aside0 (bridge_CheckTrain.j0 kq l0 x13_1 = some r) ∧ Aside0 (kq ≤ k) ∧ Aside0 (Below w.heap.size w wc))
 case first =>
  have H := HC2.out
  clear HC2
  by_cases c3 : (l0.length : Int) < 1
  ·rw [if_pos c3] at H
   have c3b0 : decide ((l0.length : Int) < 1) = true := decide_eq_true c3
   have c3b1 : decide (l0.length < 1) = true := decide_eq_true (by omega)
   clear c3
   (first | rw [c3b0] | (simp only [i64_w, i32_w]; rw [c3b0]) | skip)
   have H' := Aside0.mk H
   clear H
   go_wp2
   go_meet
   case rel => exact ⟨_, (true), (by first | rfl | (simp; done) | (simp [*]; done)), H', ⟨by first | omega | exact Nat.le_refl _⟩, ⟨by repeat (first | (with_reducible first | exact HB.out | apply below_alloc | apply pw_below_drewN | apply below_drew1) | exact HB.out)⟩⟩
  ·rw [if_neg c3] at H
   have c3b0 : decide ((l0.length : Int) < 1) = false := decide_eq_false c3
   have c3b1 : decide (l0.length < 1) = false := decide_eq_false (by omega)
   clear c3
   (first | rw [c3b0] | (simp only [i64_w, i32_w]; rw [c3b0]) | skip)
   have H' := Aside0.mk H
   clear H
   go_wp2
   go_meet
   case rel => exact ⟨_, (decide ((l0.length : Int) > 64)), (by first | rfl | (simp; done) | (simp [*]; done)), H', ⟨by first | omega | exact Nat.le_refl _⟩, ⟨by repeat (first | (with_reducible first | exact HB.out | apply below_alloc | apply pw_below_drewN | apply below_drew1) | exact HB.out)⟩⟩
 case rest =>
  clear HC2
  try clear c2
  try clear p2
  try clear c3
  try clear c3b0
  try clear c3b1
  obtain ⟨kq, x13_1, rfl, HA, HJ1, HB⟩ := hcut
  cases kq with
  | zero => exact absurd HA.out (by simp [bridge_CheckTrain.j0])
  | succ kj1 =>
   have H := HA.out
   clear HA
   simp only [bridge_CheckTrain.j0] at H
   by_cases c4 : x13_1 = true
   ·subst c4
    have H1 : (some 6) = some r := by rw [if_pos rfl] at H; exact H
    clear H
    have H := H1
    clear H1
    obtain rfl := Option.some.inj H
    go_wp2
    go_ret
    exact ⟨by first | rfl | (simp [errW_none, errW_some] <;> rfl) | (simp [*, errW_none, errW_some] <;> rfl), by repeat (first | (with_reducible first | exact HB.out | apply below_alloc | apply pw_below_drewN | apply below_drew1) | exact HB.out)⟩
   ·replace c4 := Bool.eq_false_iff.mpr c4
    subst c4
    have H1 : (bridge_CheckTrain.l0 kj1 0 l0 (l0.length : Int) 0) = some r := by rw [if_neg (show ¬ (false = true) by decide)] at H; exact H
    clear H
    have H := H1
    clear H1
    have H' := Aside0.mk H
    clear H
    go_wp2
    go_loopg [3, 16] kj1 (fun kq v3 v16 w' => ∃ (x3_2 : Int) (x16_2 : Int), v3 = .int .i64 x3_2 ∧ v16 = .int .i64 x16_2 ∧ Aside0 (bridge_CheckTrain.l0 kq x3_2 l0 (l0.length : Int) x16_2 = some r) ∧ Aside0 (kq ≤ kj1) ∧ Aside0 (Below w.heap.size w w'))
    case atStart => exact ⟨(0), (0), (by first | rfl | (simp; done) | (simp [*]; done)), (by first | rfl | (simp; done) | (simp [*]; done)), H', ⟨Nat.le_refl _⟩, ⟨by repeat (first | (with_reducible first | exact HB.out | apply below_alloc | apply pw_below_drewN | apply below_drew1) | exact HB.out)⟩⟩
    case round =>
     clear H'
     try clear c2
     try clear p2
     try clear c3
     try clear c3b0
     try clear c3b1
     try clear c4
     try clear p2
     obtain ⟨x3_2, x16_2, rfl, rfl, HA, HK2, HB⟩ := hrel
     cases gk with
     | zero => exact absurd HA.out (by simp [bridge_CheckTrain.l0])
     | succ k2 =>
      have H := HA.out
      clear HA
      simp only [bridge_CheckTrain.l0] at H
      by_cases c5 : x16_2 < (l0.length : Int)
      ·rw [if_pos c5] at H
       have c5b0 : decide (x16_2 < (l0.length : Int)) = true := decide_eq_true c5
       clear c5
       by_cases c6 : 0 ≤ x16_2
       ·rw [if_pos c6] at H
        have c6b0 : decide (0 ≤ x16_2) = true := decide_eq_true c6
        clear c6
        by_cases c7 : x16_2 < (l0.length : Int)
        ·rw [if_pos c7] at H
         have c7b0 : decide (x16_2 < (l0.length : Int)) = true := decide_eq_true c7
         clear c7
         by_cases c8 : ((rd_T35 l0 x16_2).f0) < x3_2
         ·rw [if_pos c8] at H
          have c8b0 : decide (((rd_T35 l0 x16_2).f0) < x3_2) = true := decide_eq_true c8
          clear c8
          obtain rfl := Option.some.inj H
          have p101 : 0 ≤ (x16_2 : Int) := of_decide_eq_true (by first | (with_reducible assumption) | assumption)
          have q101 : x16_2 < (l0.length : Int) := of_decide_eq_true (by first | (with_reducible assumption) | assumption)
          obtain ⟨ad101, e101, hx101_0, hx101_1⟩ := at_T35 HR0.out x16_2 p101 q101
          cases e101
          replace hx101_0 := (HB.out.cell (World.block_lt_of_cell? w _ hx101_0)).trans hx101_0
          replace hx101_1 := (HB.out.cell (World.block_lt_of_cell? w _ hx101_1)).trans hx101_1
          replace p101 := eq_true p101
          replace q101 := eq_true q101
          go_wp2_with (first | ((with_reducible refine gate_dst (N := 5) rfl ?_); (try (refine gate_guard (by rfl) ?_; dsimp only)); refine box_event ?hg (N := 5) ?hd (cs := #[.int .i64 0, .int .i64 0]) (t := 35) ?hr ?_; (case hd => rfl); (case hg => rfl); (case hr => first | (go_simp; done) | (go_simp; rfl)); intro gb102 hg w9 hbox hb; have n0_ := Aside0.mk (below_step (by repeat (first | (with_reducible first | exact HB.out | apply below_alloc | apply pw_below_drewN | apply below_drew1) | exact HB.out)) hb); have n1_ := Aside0.mk (hbox); have n2_ := Aside0.mk ((by rw [hg]; exact (below_size (by repeat (first | (with_reducible first | exact HB.out | apply below_alloc | apply pw_below_drewN | apply below_drew1) | exact HB.out))) : w.heap.size ≤ gb102)); have n3_ := Aside0.mk ((by rw [hg]; exact (below_size (by repeat (first | (with_reducible first | exact HB.out | apply below_alloc | apply pw_below_drewN | apply below_drew1) | exact HB.out))) : w.heap.size ≤ gb102)); clear HB; have HB := n0_; have BK102 := n1_; have GW102 := n2_; have GE102 := n3_; clear n0_ n1_ n2_ n3_; clear hb hbox hg; have hcz10_0 : w9.cell? ⟨gb102, 0, none⟩ = some (.int .i64 0) := (blk_cell BK102.out 0).trans rfl; have hcz10_1 : w9.cell? ⟨gb102, 1, none⟩ = some (.int .i64 0) := (blk_cell BK102.out 1).trans rfl; have hfz10_0 := blk_frozen BK102.out 0; have hfz10_1 := blk_frozen BK102.out 1))
          go_ret
          exact ⟨by first | rfl | (simp [errW_none, errW_some] <;> rfl) | (simp [*, errW_none, errW_some] <;> rfl), by repeat (first | (with_reducible first | exact HB.out | apply below_alloc | apply pw_below_drewN | apply below_drew1 | refine below_set ?_ GE102.out) | exact HB.out)⟩
         ·rw [if_neg c8] at H
          have c8b0 : decide (((rd_T35 l0 x16_2).f0) < x3_2) = false := decide_eq_false c8
          clear c8
          by_cases c11 : ((rd_T35 l0 x16_2).f0) > 262144
          ·rw [if_pos c11] at H
           have c11b0 : decide (262144 < ((rd_T35 l0 x16_2).f0)) = true := decide_eq_true c11
           clear c11
           obtain rfl := Option.some.inj H
           have p101 : 0 ≤ (x16_2 : Int) := of_decide_eq_true (by first | (with_reducible assumption) | assumption)
           have q101 : x16_2 < (l0.length : Int) := of_decide_eq_true (by first | (with_reducible assumption) | assumption)
           obtain ⟨ad101, e101, hx101_0, hx101_1⟩ := at_T35 HR0.out x16_2 p101 q101
           cases e101
           replace hx101_0 := (HB.out.cell (World.block_lt_of_cell? w _ hx101_0)).trans hx101_0
           replace hx101_1 := (HB.out.cell (World.block_lt_of_cell? w _ hx101_1)).trans hx101_1
           replace p101 := eq_true p101
           replace q101 := eq_true q101
           go_wp2_with (first | ((with_reducible refine gate_dst (N := 5) rfl ?_); (try (refine gate_guard (by rfl) ?_; dsimp only)); refine box_event ?hg (N := 5) ?hd (cs := #[.int .i64 0, .int .i64 0]) (t := 35) ?hr ?_; (case hd => rfl); (case hg => rfl); (case hr => first | (go_simp; done) | (go_simp; rfl)); intro gb102 hg w12 hbox hb; have n0_ := Aside0.mk (below_step (by repeat (first | (with_reducible first | exact HB.out | apply below_alloc | apply pw_below_drewN | apply below_drew1) | exact HB.out)) hb); have n1_ := Aside0.mk (hbox); have n2_ := Aside0.mk ((by rw [hg]; exact (below_size (by repeat (first | (with_reducible first | exact HB.out | apply below_alloc | apply pw_below_drewN | apply below_drew1) | exact HB.out))) : w.heap.size ≤ gb102)); have n3_ := Aside0.mk ((by rw [hg]; exact (below_size (by repeat (first | (with_reducible first | exact HB.out | apply below_alloc | apply pw_below_drewN | apply below_drew1) | exact HB.out))) : w.heap.size ≤ gb102)); clear HB; have HB := n0_; have BK102 := n1_; have GW102 := n2_; have GE102 := n3_; clear n0_ n1_ n2_ n3_; clear hb hbox hg; have hcz13_0 : w12.cell? ⟨gb102, 0, none⟩ = some (.int .i64 0) := (blk_cell BK102.out 0).trans rfl; have hcz13_1 : w12.cell? ⟨gb102, 1, none⟩ = some (.int .i64 0) := (blk_cell BK102.out 1).trans rfl; have hfz13_0 := blk_frozen BK102.out 0; have hfz13_1 := blk_frozen BK102.out 1))
           go_ret
           exact ⟨by first | rfl | (simp [errW_none, errW_some] <;> rfl) | (simp [*, errW_none, errW_some] <;> rfl), by repeat (first | (with_reducible first | exact HB.out | apply below_alloc | apply pw_below_drewN | apply below_drew1 | refine below_set ?_ GE102.out) | exact HB.out)⟩
          ·rw [if_neg c11] at H
           have c11b0 : decide (262144 < ((rd_T35 l0 x16_2).f0)) = false := decide_eq_false c11
           clear c11
           by_cases c14 : x16_2 = 0
           ·rw [if_pos c14] at H
            have c14b0 : (x16_2 == 0) = true := beq_iff_eq.mpr c14
            have c14b1 : (x16_2 != 0) = false := bne_eq_false_iff_eq.mpr c14
            clear c14
            by_cases c15 : ((rd_T35 l0 x16_2).f0) = 0
            ·rw [if_pos c15] at H
             have c15b0 : (((rd_T35 l0 x16_2).f0) == 0) = true := beq_iff_eq.mpr c15
             have c15b1 : (((rd_T35 l0 x16_2).f0) != 0) = false := bne_eq_false_iff_eq.mpr c15
             clear c15
             replace H := Option.bind_eq_some_iff.mp H
             obtain ⟨t103, A160, H⟩ := H
             replace H : (if t103 = true then (bridge_CheckTrain.l0 k2 ((rd_T35 l0 x16_2).f0) l0 (l0.length : Int) (wrap64 (x16_2 + 1))) else (some 2)) = some r := H
             have A16 := Aside0.mk A160
             clear A160
             by_cases c17 : t103 = true
             ·subst c17
              have H1 : (bridge_CheckTrain.l0 k2 ((rd_T35 l0 x16_2).f0) l0 (l0.length : Int) (wrap64 (x16_2 + 1))) = some r := by rw [if_pos rfl] at H; exact H
              clear H
              have H := H1
              clear H1
              have H' := Aside0.mk H
              clear H
              have p101 : 0 ≤ (x16_2 : Int) := of_decide_eq_true (by first | (with_reducible assumption) | assumption)
              have q101 : x16_2 < (l0.length : Int) := of_decide_eq_true (by first | (with_reducible assumption) | assumption)
              obtain ⟨ad101, e101, hx101_0, hx101_1⟩ := at_T35 HR0.out x16_2 p101 q101
              cases e101
              replace hx101_0 := (HB.out.cell (World.block_lt_of_cell? w _ hx101_0)).trans hx101_0
              replace hx101_1 := (HB.out.cell (World.block_lt_of_cell? w _ hx101_1)).trans hx101_1
              replace p101 := eq_true p101
              replace q101 := eq_true q101
              go_wp2_with (first | ((with_reducible refine gate_dst (N := 5) rfl ?_); (try (refine gate_guard (by rfl) ?_; dsimp only)); refine box_event ?hg (N := 5) ?hd (cs := #[.int .i64 0, .int .i64 0]) (t := 35) ?hr ?_; (case hd => rfl); (case hg => rfl); (case hr => first | (go_simp; done) | (go_simp; rfl)); intro gb102 hg w18 hbox hb; have n0_ := Aside0.mk (below_step (by repeat (first | (with_reducible first | exact HB.out | apply below_alloc | apply pw_below_drewN | apply below_drew1) | exact HB.out)) hb); have n1_ := Aside0.mk (hbox); have n2_ := Aside0.mk ((by rw [hg]; exact (below_size (by repeat (first | (with_reducible first | exact HB.out | apply below_alloc | apply pw_below_drewN | apply below_drew1) | exact HB.out))) : w.heap.size ≤ gb102)); have n3_ := Aside0.mk ((by rw [hg]; exact (below_size (by repeat (first | (with_reducible first | exact HB.out | apply below_alloc | apply pw_below_drewN | apply below_drew1) | exact HB.out))) : w.heap.size ≤ gb102)); clear HB; have HB := n0_; have BK102 := n1_; have GW102 := n2_; have GE102 := n3_; clear n0_ n1_ n2_ n3_; clear hb hbox hg; have hcz19_0 : w18.cell? ⟨gb102, 0, none⟩ = some (.int .i64 0) := (blk_cell BK102.out 0).trans rfl; have hcz19_1 : w18.cell? ⟨gb102, 1, none⟩ = some (.int .i64 0) := (blk_cell BK102.out 1).trans rfl; have hfz19_0 := blk_frozen BK102.out 0; have hfz19_1 := blk_frozen BK102.out 1) | (go_at_call 44; (with_reducible refine (bridge_between.calls ((rd_T35 l0 x16_2).f1) 0 1048576 true _ A16.out).mono ?_); rintro e w' ⟨rfl, ⟨nd, rfl⟩⟩))
              go_roundg k2
              case measure => have := HJ1.out; have := HK2.out; omega
              case rel => exact ⟨((rd_T35 l0 x16_2).f0), (wrap64 (x16_2 + 1)), (by first | rfl | (simp; done) | (simp [*]; done)), (by first | rfl | (simp; done) | (simp [*]; done)), H', ⟨by have := HJ1.out; have := HK2.out; omega⟩, ⟨by repeat (first | (with_reducible first | exact HB.out | apply below_alloc | apply pw_below_drewN | apply below_drew1 | refine below_set ?_ GE102.out) | exact HB.out)⟩⟩
             ·replace c17 := Bool.eq_false_iff.mpr c17
              subst c17
              have H1 : (some 2) = some r := by rw [if_neg (show ¬ (false = true) by decide)] at H; exact H
              clear H
              have H := H1
              clear H1
              obtain rfl := Option.some.inj H
              have p101 : 0 ≤ (x16_2 : Int) := of_decide_eq_true (by first | (with_reducible assumption) | assumption)
              have q101 : x16_2 < (l0.length : Int) := of_decide_eq_true (by first | (with_reducible assumption) | assumption)
              obtain ⟨ad101, e101, hx101_0, hx101_1⟩ := at_T35 HR0.out x16_2 p101 q101
              cases e101
              replace hx101_0 := (HB.out.cell (World.block_lt_of_cell? w _ hx101_0)).trans hx101_0
              replace hx101_1 := (HB.out.cell (World.block_lt_of_cell? w _ hx101_1)).trans hx101_1
              replace p101 := eq_true p101
              replace q101 := eq_true q101
              go_wp2_with (first | ((with_reducible refine gate_dst (N := 5) rfl ?_); (try (refine gate_guard (by rfl) ?_; dsimp only)); refine box_event ?hg (N := 5) ?hd (cs := #[.int .i64 0, .int .i64 0]) (t := 35) ?hr ?_; (case hd => rfl); (case hg => rfl); (case hr => first | (go_simp; done) | (go_simp; rfl)); intro gb102 hg w20 hbox hb; have n0_ := Aside0.mk (below_step (by repeat (first | (with_reducible first | exact HB.out | apply below_alloc | apply pw_below_drewN | apply below_drew1) | exact HB.out)) hb); have n1_ := Aside0.mk (hbox); have n2_ := Aside0.mk ((by rw [hg]; exact (below_size (by repeat (first | (with_reducible first | exact HB.out | apply below_alloc | apply pw_below_drewN | apply below_drew1) | exact HB.out))) : w.heap.size ≤ gb102)); have n3_ := Aside0.mk ((by rw [hg]; exact (below_size (by repeat (first | (with_reducible first | exact HB.out | apply below_alloc | apply pw_below_drewN | apply below_drew1) | exact HB.out))) : w.heap.size ≤ gb102)); clear HB; have HB := n0_; have BK102 := n1_; have GW102 := n2_; have GE102 := n3_; clear n0_ n1_ n2_ n3_; clear hb hbox hg; have hcz21_0 : w20.cell? ⟨gb102, 0, none⟩ = some (.int .i64 0) := (blk_cell BK102.out 0).trans rfl; have hcz21_1 : w20.cell? ⟨gb102, 1, none⟩ = some (.int .i64 0) := (blk_cell BK102.out 1).trans rfl; have hfz21_0 := blk_frozen BK102.out 0; have hfz21_1 := blk_frozen BK102.out 1) | (go_at_call 44; (with_reducible refine (bridge_between.calls ((rd_T35 l0 x16_2).f1) 0 1048576 false _ A16.out).mono ?_); rintro e w' ⟨rfl, ⟨nd, rfl⟩⟩))
              go_ret
              exact ⟨by first | rfl | (simp [errW_none, errW_some] <;> rfl) | (simp [*, errW_none, errW_some] <;> rfl), by repeat (first | (with_reducible first | exact HB.out | apply below_alloc | apply pw_below_drewN | apply below_drew1 | refine below_set ?_ GE102.out) | exact HB.out)⟩
            ·rw [if_neg c15] at H
             have c15b0 : (((rd_T35 l0 x16_2).f0) == 0) = false := beq_eq_false_iff_ne.mpr c15
             have c15b1 : (((rd_T35 l0 x16_2).f0) != 0) = true := bne_iff_ne.mpr c15
             obtain rfl := Option.some.inj H
             have p101 : 0 ≤ (x16_2 : Int) := of_decide_eq_true (by first | (with_reducible assumption) | assumption)
             have q101 : x16_2 < (l0.length : Int) := of_decide_eq_true (by first | (with_reducible assumption) | assumption)
             obtain ⟨ad101, e101, hx101_0, hx101_1⟩ := at_T35 HR0.out x16_2 p101 q101
             cases e101
             replace hx101_0 := (HB.out.cell (World.block_lt_of_cell? w _ hx101_0)).trans hx101_0
             replace hx101_1 := (HB.out.cell (World.block_lt_of_cell? w _ hx101_1)).trans hx101_1
             replace p101 := eq_true p101
             replace q101 := eq_true q101
             go_wp2_with (first | ((with_reducible refine gate_dst (N := 5) rfl ?_); (try (refine gate_guard (by rfl) ?_; dsimp only)); refine box_event ?hg (N := 5) ?hd (cs := #[.int .i64 0, .int .i64 0]) (t := 35) ?hr ?_; (case hd => rfl); (case hg => rfl); (case hr => first | (go_simp; done) | (go_simp; rfl)); intro gb102 hg w22 hbox hb; have n0_ := Aside0.mk (below_step (by repeat (first | (with_reducible first | exact HB.out | apply below_alloc | apply pw_below_drewN | apply below_drew1) | exact HB.out)) hb); have n1_ := Aside0.mk (hbox); have n2_ := Aside0.mk ((by rw [hg]; exact (below_size (by repeat (first | (with_reducible first | exact HB.out | apply below_alloc | apply pw_below_drewN | apply below_drew1) | exact HB.out))) : w.heap.size ≤ gb102)); have n3_ := Aside0.mk ((by rw [hg]; exact (below_size (by repeat (first | (with_reducible first | exact HB.out | apply below_alloc | apply pw_below_drewN | apply below_drew1) | exact HB.out))) : w.heap.size ≤ gb102)); clear HB; have HB := n0_; have BK102 := n1_; have GW102 := n2_; have GE102 := n3_; clear n0_ n1_ n2_ n3_; clear hb hbox hg; have hcz23_0 : w22.cell? ⟨gb102, 0, none⟩ = some (.int .i64 0) := (blk_cell BK102.out 0).trans rfl; have hcz23_1 : w22.cell? ⟨gb102, 1, none⟩ = some (.int .i64 0) := (blk_cell BK102.out 1).trans rfl; have hfz23_0 := blk_frozen BK102.out 0; have hfz23_1 := blk_frozen BK102.out 1))
             go_ret
             exact ⟨by first | rfl | (simp [errW_none, errW_some] <;> rfl) | (simp [*, errW_none, errW_some] <;> rfl), by repeat (first | (with_reducible first | exact HB.out | apply below_alloc | apply pw_below_drewN | apply below_drew1 | refine below_set ?_ GE102.out) | exact HB.out)⟩
           ·rw [if_neg c14] at H
            have c14b0 : (x16_2 == 0) = false := beq_eq_false_iff_ne.mpr c14
            have c14b1 : (x16_2 != 0) = true := bne_iff_ne.mpr c14
            replace H := Option.bind_eq_some_iff.mp H
            obtain ⟨t104, A240, H⟩ := H
            replace H : (if t104 = true then (bridge_CheckTrain.l0 k2 ((rd_T35 l0 x16_2).f0) l0 (l0.length : Int) (wrap64 (x16_2 + 1))) else (some 2)) = some r := H
            have A24 := Aside0.mk A240
            clear A240
            by_cases c25 : t104 = true
            ·subst c25
             have H1 : (bridge_CheckTrain.l0 k2 ((rd_T35 l0 x16_2).f0) l0 (l0.length : Int) (wrap64 (x16_2 + 1))) = some r := by rw [if_pos rfl] at H; exact H
             clear H
             have H := H1
             clear H1
             have H' := Aside0.mk H
             clear H
             have p101 : 0 ≤ (x16_2 : Int) := of_decide_eq_true (by first | (with_reducible assumption) | assumption)
             have q101 : x16_2 < (l0.length : Int) := of_decide_eq_true (by first | (with_reducible assumption) | assumption)
             obtain ⟨ad101, e101, hx101_0, hx101_1⟩ := at_T35 HR0.out x16_2 p101 q101
             cases e101
             replace hx101_0 := (HB.out.cell (World.block_lt_of_cell? w _ hx101_0)).trans hx101_0
             replace hx101_1 := (HB.out.cell (World.block_lt_of_cell? w _ hx101_1)).trans hx101_1
             replace p101 := eq_true p101
             replace q101 := eq_true q101
             go_wp2_with (first | ((with_reducible refine gate_dst (N := 5) rfl ?_); (try (refine gate_guard (by rfl) ?_; dsimp only)); refine box_event ?hg (N := 5) ?hd (cs := #[.int .i64 0, .int .i64 0]) (t := 35) ?hr ?_; (case hd => rfl); (case hg => rfl); (case hr => first | (go_simp; done) | (go_simp; rfl)); intro gb102 hg w26 hbox hb; have n0_ := Aside0.mk (below_step (by repeat (first | (with_reducible first | exact HB.out | apply below_alloc | apply pw_below_drewN | apply below_drew1) | exact HB.out)) hb); have n1_ := Aside0.mk (hbox); have n2_ := Aside0.mk ((by rw [hg]; exact (below_size (by repeat (first | (with_reducible first | exact HB.out | apply below_alloc | apply pw_below_drewN | apply below_drew1) | exact HB.out))) : w.heap.size ≤ gb102)); have n3_ := Aside0.mk ((by rw [hg]; exact (below_size (by repeat (first | (with_reducible first | exact HB.out | apply below_alloc | apply pw_below_drewN | apply below_drew1) | exact HB.out))) : w.heap.size ≤ gb102)); clear HB; have HB := n0_; have BK102 := n1_; have GW102 := n2_; have GE102 := n3_; clear n0_ n1_ n2_ n3_; clear hb hbox hg; have hcz27_0 : w26.cell? ⟨gb102, 0, none⟩ = some (.int .i64 0) := (blk_cell BK102.out 0).trans rfl; have hcz27_1 : w26.cell? ⟨gb102, 1, none⟩ = some (.int .i64 0) := (blk_cell BK102.out 1).trans rfl; have hfz27_0 := blk_frozen BK102.out 0; have hfz27_1 := blk_frozen BK102.out 1) | (go_at_call 44; (with_reducible refine (bridge_between.calls ((rd_T35 l0 x16_2).f1) 0 1048576 true _ A24.out).mono ?_); rintro e w' ⟨rfl, ⟨nd, rfl⟩⟩))
             go_roundg k2
             case measure => have := HJ1.out; have := HK2.out; omega
             case rel => exact ⟨((rd_T35 l0 x16_2).f0), (wrap64 (x16_2 + 1)), (by first | rfl | (simp; done) | (simp [*]; done)), (by first | rfl | (simp; done) | (simp [*]; done)), H', ⟨by have := HJ1.out; have := HK2.out; omega⟩, ⟨by repeat (first | (with_reducible first | exact HB.out | apply below_alloc | apply pw_below_drewN | apply below_drew1 | refine below_set ?_ GE102.out) | exact HB.out)⟩⟩
            ·replace c25 := Bool.eq_false_iff.mpr c25
             subst c25
             have H1 : (some 2) = some r := by rw [if_neg (show ¬ (false = true) by decide)] at H; exact H
             clear H
             have H := H1
             clear H1
             obtain rfl := Option.some.inj H
             have p101 : 0 ≤ (x16_2 : Int) := of_decide_eq_true (by first | (with_reducible assumption) | assumption)
             have q101 : x16_2 < (l0.length : Int) := of_decide_eq_true (by first | (with_reducible assumption) | assumption)
             obtain ⟨ad101, e101, hx101_0, hx101_1⟩ := at_T35 HR0.out x16_2 p101 q101
             cases e101
             replace hx101_0 := (HB.out.cell (World.block_lt_of_cell? w _ hx101_0)).trans hx101_0
             replace hx101_1 := (HB.out.cell (World.block_lt_of_cell? w _ hx101_1)).trans hx101_1
             replace p101 := eq_true p101
             replace q101 := eq_true q101
             go_wp2_with (first | ((with_reducible refine gate_dst (N := 5) rfl ?_); (try (refine gate_guard (by rfl) ?_; dsimp only)); refine box_event ?hg (N := 5) ?hd (cs := #[.int .i64 0, .int .i64 0]) (t := 35) ?hr ?_; (case hd => rfl); (case hg => rfl); (case hr => first | (go_simp; done) | (go_simp; rfl)); intro gb102 hg w28 hbox hb; have n0_ := Aside0.mk (below_step (by repeat (first | (with_reducible first | exact HB.out | apply below_alloc | apply pw_below_drewN | apply below_drew1) | exact HB.out)) hb); have n1_ := Aside0.mk (hbox); have n2_ := Aside0.mk ((by rw [hg]; exact (below_size (by repeat (first | (with_reducible first | exact HB.out | apply below_alloc | apply pw_below_drewN | apply below_drew1) | exact HB.out))) : w.heap.size ≤ gb102)); have n3_ := Aside0.mk ((by rw [hg]; exact (below_size (by repeat (first | (with_reducible first | exact HB.out | apply below_alloc | apply pw_below_drewN | apply below_drew1) | exact HB.out))) : w.heap.size ≤ gb102)); clear HB; have HB := n0_; have BK102 := n1_; have GW102 := n2_; have GE102 := n3_; clear n0_ n1_ n2_ n3_; clear hb hbox hg; have hcz29_0 : w28.cell? ⟨gb102, 0, none⟩ = some (.int .i64 0) := (blk_cell BK102.out 0).trans rfl; have hcz29_1 : w28.cell? ⟨gb102, 1, none⟩ = some (.int .i64 0) := (blk_cell BK102.out 1).trans rfl; have hfz29_0 := blk_frozen BK102.out 0; have hfz29_1 := blk_frozen BK102.out 1) | (go_at_call 44; (with_reducible refine (bridge_between.calls ((rd_T35 l0 x16_2).f1) 0 1048576 false _ A24.out).mono ?_); rintro e w' ⟨rfl, ⟨nd, rfl⟩⟩))
             go_ret
             exact ⟨by first | rfl | (simp [errW_none, errW_some] <;> rfl) | (simp [*, errW_none, errW_some] <;> rfl), by repeat (first | (with_reducible first | exact HB.out | apply below_alloc | apply pw_below_drewN | apply below_drew1 | refine below_set ?_ GE102.out) | exact HB.out)⟩
        ·rw [if_neg c7] at H
         exact absurd H (by simp)
       ·rw [if_neg c6] at H
        exact absurd H (by simp)
      ·rw [if_neg c5] at H
       have c5b0 : decide (x16_2 < (l0.length : Int)) = false := decide_eq_false c5
       clear c5
       obtain rfl := Option.some.inj H
       go_wp2
       go_ret
       exact ⟨by first | rfl | (simp [errW_none, errW_some] <;> rfl) | (simp [*, errW_none, errW_some] <;> rfl), by repeat (first | (with_reducible first | exact HB.out | apply below_alloc | apply pw_below_drewN | apply below_drew1) | exact HB.out)⟩
end Go.Proofs.Ytiklpefckadgdaa.P
noncomputable section
namespace Go.Proofs.Ytiklpefckadgdaa.P
open Go.RowKit Go.Proofs.YtiklpefckadgdaaW.PrintWords Go.Proofs.YtiklpefckadgdaaW.PrintLast Go.Proofs.YtiklpefckadgdaaW.PrintMore
attribute [local go_sem] max2_int min2_int max_two min_two max_three min_three max_four min_four   -- for this text's walks alone
set_option linter.unusedVariables false
set_option linter.unusedSimpArgs false
def cmp_Or_80.l0 : Nat → Int → List Int → Int → Int → Option (Int)
 | 0, _, _, _, _ => none
 | k + 1, x3, x6, x7, x8 => if x8 < x7 then (if 0 ≤ x8 then (if x8 < (x6.length : Int) then (if (rd x6 x8) = x3 then (cmp_Or_80.l0 k x3 x6 x7 (wrap64 (x8 + 1))) else (some (rd x6 x8))) else (none)) else (none)) else (some x3)
def cmp_Or_80.f (k : Nat) (l0 : List Int) : Option (Int) := cmp_Or_80.l0 k 0 l0 (l0.length : Int) 0
theorem cmp_Or_80.mono_l : ∀ k, (∀ y0 y1 y2 y3, LeO (cmp_Or_80.l0 k y0 y1 y2 y3) (cmp_Or_80.l0 (k + 1) y0 y1 y2 y3))
 | 0 => fun _ _ _ _ r h => by simp [cmp_Or_80.l0] at h
 | k + 1 => by
  have ih0 := cmp_Or_80.mono_l k
  ·intro y0 y1 y2 y3
   unfold cmp_Or_80.l0
   repeat' first
   | (with_reducible exact ih0 _ _ _ _)
   | (with_reducible exact LeO.refl _)
   | (with_reducible exact LeO.none _)
   | (with_reducible refine LeO.ite ?_ ?_)
   | (with_reducible refine LeO.bind ?_ (fun _ => ?_))
   | exact ih0 _ _ _ _
   | exact LeO.none _
   | refine LeO.ite ?_ ?_
   | refine LeO.bind ?_ (fun _ => ?_)
theorem cmp_Or_80.mono : ∀ a0 k, LeO (cmp_Or_80.f k a0) (cmp_Or_80.f (k + 1) a0) := by
 intro a0 k
 have ih0 := cmp_Or_80.mono_l k
 unfold cmp_Or_80.f
 repeat' first
   | (with_reducible exact ih0 _ _ _ _)
   | (with_reducible exact LeO.refl _)
   | (with_reducible exact LeO.none _)
   | (with_reducible refine LeO.ite ?_ ?_)
   | (with_reducible refine LeO.bind ?_ (fun _ => ?_))
   | exact ih0 _ _ _ _
   | exact LeO.none _
   | refine LeO.ite ?_ ?_
   | refine LeO.bind ?_ (fun _ => ?_)
set_option maxHeartbeats 8000000 in
set_option maxRecDepth 100000 in
theorem cmp_Or_80.calls (k : Nat) (A0 : Option Addr) (c0 : Nat) (l0 : List Int) (r : Int) (w : World) (hr0 : Kd.C (Kd.int .i64) w A0 l0.length l0) (hc0 : l0.length ≤ c0) (h : cmp_Or_80.f k l0 = some r) :
  Calls Try.prog 80 #[.slice A0 l0.length c0] w fun e w' => e = .returned (.int .i64 r) ∧ Drawn0 w w' := by
 have HR0 := Aside0.mk hr0
 have HC0 := Aside0.mk hc0
 clear hr0 hc0
 have H : (cmp_Or_80.l0 k 0 l0 (l0.length : Int) 0) = some r := h
 clear h
 have H' := Aside0.mk H
 clear H
 go_enter Try.func80, Try.ntmps80
 go_wp2
 go_loopg [8] k (fun kq v8 w' => ∃ (x8_1 : Int), v8 = .int .i64 x8_1 ∧ Aside0 (cmp_Or_80.l0 kq 0 l0 (l0.length : Int) x8_1 = some r) ∧ Aside0 (kq ≤ k) ∧ Drawn0 w w')
 case atStart => exact ⟨(0), (by first | rfl | (simp; done) | (simp [*]; done)), H', ⟨Nat.le_refl _⟩, by repeat (first | exact Drawn0.refl _ | apply Drawn0.step)⟩
 case round =>
  clear H'
  obtain ⟨x8_1, rfl, HA, HK1, ⟨m1, rfl⟩⟩ := hrel
  cases gk with
  | zero => exact absurd HA.out (by simp [cmp_Or_80.l0])
  | succ k1 =>
   have H := HA.out
   clear HA
   simp only [cmp_Or_80.l0] at H
   by_cases c2 : x8_1 < (l0.length : Int)
   ·rw [if_pos c2] at H
    have c2b0 : decide (x8_1 < (l0.length : Int)) = true := decide_eq_true c2
    clear c2
    by_cases c3 : 0 ≤ x8_1
    ·rw [if_pos c3] at H
     have c3b0 : decide (0 ≤ x8_1) = true := decide_eq_true c3
     clear c3
     by_cases c4 : x8_1 < (l0.length : Int)
     ·rw [if_pos c4] at H
      have c4b0 : decide (x8_1 < (l0.length : Int)) = true := decide_eq_true c4
      clear c4
      by_cases c5 : (rd l0 x8_1) = 0
      ·rw [if_pos c5] at H
       have c5b0 : ((rd l0 x8_1) == 0) = true := beq_iff_eq.mpr c5
       have c5b1 : ((rd l0 x8_1) != 0) = false := bne_eq_false_iff_eq.mpr c5
       clear c5
       have H' := Aside0.mk H
       clear H
       have p101 : 0 ≤ (x8_1 : Int) := of_decide_eq_true (by first | (with_reducible assumption) | assumption)
       have q101 : x8_1 < (l0.length : Int) := of_decide_eq_true (by first | (with_reducible assumption) | assumption)
       obtain ⟨ad101, e101, hx101_0⟩ := Kd.at_int HR0.out x8_1 p101 q101
       cases e101
       replace p101 := eq_true p101
       replace q101 := eq_true q101
       go_wp2
       go_roundg k1
       case measure => have := HK1.out; omega
       case rel => exact ⟨(wrap64 (x8_1 + 1)), (by first | rfl | (simp; done) | (simp [*]; done)), H', ⟨by have := HK1.out; omega⟩, by repeat (first | exact Drawn0.refl _ | apply Drawn0.step)⟩
      ·rw [if_neg c5] at H
       have c5b0 : ((rd l0 x8_1) == 0) = false := beq_eq_false_iff_ne.mpr c5
       have c5b1 : ((rd l0 x8_1) != 0) = true := bne_iff_ne.mpr c5
       obtain rfl := Option.some.inj H
       have p101 : 0 ≤ (x8_1 : Int) := of_decide_eq_true (by first | (with_reducible assumption) | assumption)
       have q101 : x8_1 < (l0.length : Int) := of_decide_eq_true (by first | (with_reducible assumption) | assumption)
       obtain ⟨ad101, e101, hx101_0⟩ := Kd.at_int HR0.out x8_1 p101 q101
       cases e101
       replace p101 := eq_true p101
       replace q101 := eq_true q101
       go_wp2
       go_ret
       exact ⟨by first | rfl | (simp; done) | (simp [*]; done), by repeat (first | exact Drawn0.refl _ | apply Drawn0.step)⟩
     ·rw [if_neg c4] at H
      exact absurd H (by simp)
    ·rw [if_neg c3] at H
     exact absurd H (by simp)
   ·rw [if_neg c2] at H
    have c2b0 : decide (x8_1 < (l0.length : Int)) = false := decide_eq_false c2
    clear c2
    obtain rfl := Option.some.inj H
    go_wp2
    go_ret
    exact ⟨by first | rfl | (simp; done) | (simp [*]; done), by repeat (first | exact Drawn0.refl _ | apply Drawn0.step)⟩
end Go.Proofs.Ytiklpefckadgdaa.P
noncomputable section
namespace Go.Proofs.Ytiklpefckadgdaa.P
open Go.RowKit Go.Proofs.YtiklpefckadgdaaW.PrintWords Go.Proofs.YtiklpefckadgdaaW.PrintLast Go.Proofs.YtiklpefckadgdaaW.PrintMore
attribute [local go_sem] max2_int min2_int max_two min_two max_three min_three max_four min_four   -- for this text's walks alone
set_option linter.unusedVariables false
set_option linter.unusedSimpArgs false
def bridge_both.f (k : Nat) (l0_0 : List Int) (l0_1 : List Int) (l0_2 : List Int) (a0_3 : Int) (a0_4 : Int) (a0_5 : Int) (l1 : List (S35)) : Option (Int) := (bridge_Check.f k l0_0 l0_1 l0_2 a0_3 a0_4 a0_5).bind fun t102 => ((bridge_CheckTrain.f k l1).bind fun t103 => ((cmp_Or_80.f k (([t102, t103] : List Int))).bind fun t107 => (some t107)))
theorem bridge_both.mono : ∀ a0 a1 a2 a3 a4 a5 a6 k, LeO (bridge_both.f k a0 a1 a2 a3 a4 a5 a6) (bridge_both.f (k + 1) a0 a1 a2 a3 a4 a5 a6) := by
 intro a0 a1 a2 a3 a4 a5 a6 k
 unfold bridge_both.f
 repeat' first
   | (with_reducible exact bridge_Check.mono _ _ _ _ _ _ _)
   | (with_reducible exact bridge_CheckTrain.mono _ _)
   | (with_reducible exact cmp_Or_80.mono _ _)
   | (with_reducible exact LeO.refl _)
   | (with_reducible exact LeO.none _)
   | (with_reducible refine LeO.ite ?_ ?_)
   | (with_reducible refine LeO.bind ?_ (fun _ => ?_))
   | exact bridge_Check.mono _ _ _ _ _ _ _
   | exact bridge_CheckTrain.mono _ _
   | exact cmp_Or_80.mono _ _
   | exact LeO.none _
   | refine LeO.ite ?_ ?_
   | refine LeO.bind ?_ (fun _ => ?_)
set_option maxHeartbeats 8000000 in
set_option maxRecDepth 100000 in
theorem bridge_both.calls (k : Nat) (A0_0 : Option Addr) (c0_0 : Nat) (l0_0 : List Int) (A0_1 : Option Addr) (c0_1 : Nat) (l0_1 : List Int) (A0_2 : Option Addr) (c0_2 : Nat) (l0_2 : List Int) (a0_3 : Int) (a0_4 : Int) (a0_5 : Int) (A1 : Option Addr) (c1 : Nat) (l1 : List (S35)) (r : Int) (w : World) (hr0_0 : Kd.C (Kd.int .i64) w A0_0 l0_0.length l0_0) (hc0_0 : l0_0.length ≤ c0_0) (hr0_1 : Kd.C (Kd.int .i64) w A0_1 l0_1.length l0_1) (hc0_1 : l0_1.length ≤ c0_1) (hr0_2 : Kd.C (Kd.int .i64) w A0_2 l0_2.length l0_2) (hc0_2 : l0_2.length ≤ c0_2) (hr1 : Kd.C k35 w A1 l1.length l1) (hc1 : l1.length ≤ c1) (h : bridge_both.f k l0_0 l0_1 l0_2 a0_3 a0_4 a0_5 l1 = some r) :
  Calls Try.prog 61 #[.agg #[.slice A0_0 l0_0.length c0_0, .slice A0_1 l0_1.length c0_1, .slice A0_2 l0_2.length c0_2, .int .i64 a0_3, .int .i64 a0_4, .int .i64 a0_5], .slice A1 l1.length c1] w fun e w' => e = .returned (.int .i64 r) ∧ Below w.heap.size w w' := by
 have hu24 := Try.underlying24
 have HR0_0 := Aside0.mk hr0_0
 have HC0_0 := Aside0.mk hc0_0
 clear hr0_0 hc0_0
 have HR0_1 := Aside0.mk hr0_1
 have HC0_1 := Aside0.mk hc0_1
 clear hr0_1 hc0_1
 have HR0_2 := Aside0.mk hr0_2
 have HC0_2 := Aside0.mk hc0_2
 clear hr0_2 hc0_2
 have HR1 := Aside0.mk hr1
 have HC1 := Aside0.mk hc1
 clear hr1 hc1
 have HB := Aside0.mk (Below.refl w.heap.size w)
 have H : ((bridge_Check.f k l0_0 l0_1 l0_2 a0_3 a0_4 a0_5).bind fun t102 => ((bridge_CheckTrain.f k l1).bind fun t103 => ((cmp_Or_80.f k (([t102, t103] : List Int))).bind fun t107 => (some t107)))) = some r := h
 clear h
 replace H := Option.bind_eq_some_iff.mp H
 obtain ⟨t102, A30, H⟩ := H
 replace H : ((bridge_CheckTrain.f k l1).bind fun t103 => ((cmp_Or_80.f k (([t102, t103] : List Int))).bind fun t107 => (some t107))) = some r := H
 have A3 := Aside0.mk A30
 clear A30
 replace H := Option.bind_eq_some_iff.mp H
 obtain ⟨t103, A40, H⟩ := H
 replace H : ((cmp_Or_80.f k (([t102, t103] : List Int))).bind fun t107 => (some t107)) = some r := H
 have A4 := Aside0.mk A40
 clear A40
 obtain ⟨y104, hy104⟩ : ∃ y_ : List Int, y_ = (([t102, t103] : List Int)) := ⟨_, rfl⟩
 replace H : ((cmp_Or_80.f k y104).bind fun t107 => (some t107)) = some r := by first | (rw [hy104]; with_reducible exact H) | (have H2_ := (Option.bind_some _ _).symm.trans H; rw [hy104]; with_reducible exact H2_) | (have H2_ := (Option.bind_some _ _).symm.trans H; with_reducible exact H2_) | with_reducible exact H | (rw [hy104]; exact H) | exact H
 have Ny104 := Aside0.mk hy104
 clear hy104
 replace H := Option.bind_eq_some_iff.mp H
 obtain ⟨t107, A50, H⟩ := H
 replace H : (some t107) = some r := H
 have A5 := Aside0.mk A50
 clear A50
 obtain rfl := Option.some.inj H
 go_enter Try.func61, Try.ntmps61
 go_wp2_with (first | ((with_reducible refine gate_dst (N := 2) rfl ?_); refine box_event ?hg (N := 2) ?hd (cs := #[.slice A0_0 l0_0.length c0_0, .slice A0_1 l0_1.length c0_1, .slice A0_2 l0_2.length c0_2, .int .i64 a0_3, .int .i64 a0_4, .int .i64 a0_5]) (t := 24) ?hr ?_; (case hd => rfl); (case hg => rfl); (case hr => first | (go_simp; done) | (go_simp; rfl)); intro gb101 hg w6 hbox hb; have n0_ := Aside0.mk (below_step (by repeat (first | (with_reducible first | exact HB.out | apply below_alloc | apply pw_below_drewN | apply below_drew1) | exact HB.out)) hb); have n1_ := Aside0.mk (hbox); have n2_ := Aside0.mk ((by rw [hg]; exact (below_size (by repeat (first | (with_reducible first | exact HB.out | apply below_alloc | apply pw_below_drewN | apply below_drew1) | exact HB.out))) : w.heap.size ≤ gb101)); have n3_ := Aside0.mk ((by rw [hg]; exact (below_size (by repeat (first | (with_reducible first | exact HB.out | apply below_alloc | apply pw_below_drewN | apply below_drew1) | exact HB.out))) : w.heap.size ≤ gb101)); clear HB; have HB := n0_; have BK101 := n1_; have GW101 := n2_; have GE101 := n3_; clear n0_ n1_ n2_ n3_; clear hb hbox hg; have hcz7_0 : w6.cell? ⟨gb101, 0, none⟩ = some (.slice A0_0 l0_0.length c0_0) := (blk_cell BK101.out 0).trans rfl; have hcz7_1 : w6.cell? ⟨gb101, 1, none⟩ = some (.slice A0_1 l0_1.length c0_1) := (blk_cell BK101.out 1).trans rfl; have hcz7_2 : w6.cell? ⟨gb101, 2, none⟩ = some (.slice A0_2 l0_2.length c0_2) := (blk_cell BK101.out 2).trans rfl; have hcz7_3 : w6.cell? ⟨gb101, 3, none⟩ = some (.int .i64 a0_3) := (blk_cell BK101.out 3).trans rfl; have hcz7_4 : w6.cell? ⟨gb101, 4, none⟩ = some (.int .i64 a0_4) := (blk_cell BK101.out 4).trans rfl; have hcz7_5 : w6.cell? ⟨gb101, 5, none⟩ = some (.int .i64 a0_5) := (blk_cell BK101.out 5).trans rfl; have hfz7_0 := blk_frozen BK101.out 0; have hfz7_1 := blk_frozen BK101.out 1; have hfz7_2 := blk_frozen BK101.out 2; have hfz7_3 := blk_frozen BK101.out 3; have hfz7_4 := blk_frozen BK101.out 4; have hfz7_5 := blk_frozen BK101.out 5) | ((with_reducible refine gate_callee (f := 28) rfl ?_); refine goesL_ (some 6) rfl rfl Try.func28 (by kernel_rfl) rfl #[.agg #[.slice A0_0 l0_0.length c0_0, .slice A0_1 l0_1.length c0_1, .slice A0_2 l0_2.length c0_2, .int .i64 a0_3, .int .i64 a0_4, .int .i64 a0_5]] rfl (by (try simp only [List.map_toArray, List.map_cons, List.map_nil]); first | done | rfl | (simp only [List.length_drop, List.length_take]; rfl)) ?_; (with_reducible refine (bridge_Check.calls k _ _ l0_0 _ _ l0_1 _ _ l0_2 a0_3 a0_4 a0_5 t102 _ ?side1 ?side2 ?side3 ?side4 ?side5 ?side6 A3.out).mono ?_); (case side1 => repeat (first | exact (Kd.C_below HR0_0.out HB.out) | (with_reducible refine Kd.C_alloc ?_ _) | (with_reducible refine Kd.C_drewN ?_ _) | (with_reducible refine Kd.C_drew ?_))); (case side2 => exact HC0_0.out); (case side3 => repeat (first | exact (Kd.C_below HR0_1.out HB.out) | (with_reducible refine Kd.C_alloc ?_ _) | (with_reducible refine Kd.C_drewN ?_ _) | (with_reducible refine Kd.C_drew ?_))); (case side4 => exact HC0_1.out); (case side5 => repeat (first | exact (Kd.C_below HR0_2.out HB.out) | (with_reducible refine Kd.C_alloc ?_ _) | (with_reducible refine Kd.C_drewN ?_ _) | (with_reducible refine Kd.C_drew ?_))); (case side6 => exact HC0_2.out); rintro e w8 ⟨rfl, hb⟩; refine ⟨_, rfl, ?_⟩; have n0_ := Aside0.mk (blk_below (g := gb101) (o := .cells #[.slice A0_0 l0_0.length c0_0, .slice A0_1 l0_1.length c0_1, .slice A0_2 l0_2.length c0_2, .int .i64 a0_3, .int .i64 a0_4, .int .i64 a0_5] 24 (0, 0)) (by (with_reducible repeat (first | refine blk_drewN ?_ _ | refine blk_drew ?_ | refine blk_alloc ?_ _)); exact BK101.out) hb); have n1_ := Aside0.mk (below_step (by repeat (first | (with_reducible first | exact HB.out | apply below_alloc | apply pw_below_drewN | apply below_drew1 | refine below_set ?_ GE101.out) | exact HB.out)) hb); clear BK101; clear HB; have BK101 := n0_; have HB := n1_; clear n0_ n1_; (try clear hb); (try clear hb2); (try clear hk); (try clear hi)) | ((with_reducible refine gate_callee (f := 29) rfl ?_); refine goesL_ (some 8) rfl rfl Try.func29 (by kernel_rfl) rfl #[.slice A1 l1.length c1] rfl (by (try simp only [List.map_toArray, List.map_cons, List.map_nil]); first | done | rfl | (simp only [List.length_drop, List.length_take]; rfl)) ?_; (with_reducible refine (bridge_CheckTrain.calls k _ _ l1 t103 _ ?side1 ?side2 A4.out).mono ?_); (case side1 => repeat (first | exact (Kd.C_below HR1.out HB.out) | (with_reducible refine Kd.C_alloc ?_ _) | (with_reducible refine Kd.C_drewN ?_ _) | (with_reducible refine Kd.C_drew ?_))); (case side2 => exact HC1.out); rintro e w9 ⟨rfl, hb⟩; refine ⟨_, rfl, ?_⟩; have n0_ := Aside0.mk (blk_below (g := gb101) (o := .cells #[.slice A0_0 l0_0.length c0_0, .slice A0_1 l0_1.length c0_1, .slice A0_2 l0_2.length c0_2, .int .i64 a0_3, .int .i64 a0_4, .int .i64 a0_5] 24 (0, 0)) (by (with_reducible repeat (first | refine blk_drewN ?_ _ | refine blk_drew ?_ | refine blk_alloc ?_ _)); exact BK101.out) hb); have n1_ := Aside0.mk (below_step (by repeat (first | (with_reducible first | exact HB.out | apply below_alloc | apply pw_below_drewN | apply below_drew1 | refine below_set ?_ GE101.out) | exact HB.out)) hb); clear BK101; clear HB; have BK101 := n0_; have HB := n1_; clear n0_ n1_; (try clear hb); (try clear hb2); (try clear hk); (try clear hi)) | ((with_reducible refine gate_dst (N := 9) rfl ?_); refine Kd.R_lit (Kd.int .i64) _ 30 ?hg (N := 9) ?hd (xs := ([t102, t103] : List Int)) (inner := [.int .i64 t102, .int .i64 t103]) (ok := fun _ => True) (okp := fun _ => True) ?hr ?hp (fun _ hk => hk) trivial (Below.refl _ _) (Nat.le_refl _) (by simp) ?_; (case hd => rfl); (case hg => rfl); (case hr => first | (go_simp; done) | (go_simp; rfl)); (case hp => exact (Reps.one (show Kd.M (Kd.int .i64) _ _ _ t102 [.int .i64 t102] from rfl) (Reps.one (show Kd.M (Kd.int .i64) _ _ _ t103 [.int .i64 t103] from rfl) (Reps.none _ _)))); intro v105 w10 ho11 hb hg_ hnew_; clear hg_ hnew_; (first | rw [← Ny104.out] at ho11 | (simp only [Int.reduceToNat] at ho11; rw [← Ny104.out] at ho11)); have n0_ := Aside0.mk (Kd.R_lower ho11 (below_size (by repeat (first | (with_reducible first | exact HB.out | apply below_alloc | apply pw_below_drewN | apply below_drew1 | refine below_set ?_ GE101.out) | exact HB.out)))); have n1_ := Aside0.mk (blk_below (g := gb101) (o := .cells #[.slice A0_0 l0_0.length c0_0, .slice A0_1 l0_1.length c0_1, .slice A0_2 l0_2.length c0_2, .int .i64 a0_3, .int .i64 a0_4, .int .i64 a0_5] 24 (0, 0)) (by (with_reducible repeat (first | refine blk_drewN ?_ _ | refine blk_drew ?_ | refine blk_alloc ?_ _)); exact BK101.out) hb); have n2_ := Aside0.mk (below_step (by repeat (first | (with_reducible first | exact HB.out | apply below_alloc | apply pw_below_drewN | apply below_drew1 | refine below_set ?_ GE101.out) | exact HB.out)) hb); clear BK101; clear HB; have HO106 := n0_; have BK101 := n1_; have HB := n2_; clear n0_ n1_ n2_; clear hb ho11; obtain ⟨Ao12, co12, eo12⟩ := Kd.R_slice HO106.out; subst eo12) | ((with_reducible refine gate_callee (f := 80) rfl ?_); refine goesL_ (some 10) rfl rfl Try.func80 (by kernel_rfl) rfl #[.slice Ao12 y104.length co12] rfl (by (try simp only [List.map_toArray, List.map_cons, List.map_nil]); first | done | rfl | (simp only [List.length_drop, List.length_take]; rfl)) ?_; (with_reducible refine (cmp_Or_80.calls k _ _ y104 t107 _ ?side1 ?side2 A5.out).mono ?_); (case side1 => repeat (first | exact (Kd.R_reads' HO106.out).2.2 | (with_reducible refine Kd.C_alloc ?_ _) | (with_reducible refine Kd.C_drewN ?_ _) | (with_reducible refine Kd.C_drew ?_))); (case side2 => exact (Kd.R_reads' HO106.out).2.1); rintro e w' ⟨rfl, ⟨nd, rfl⟩⟩; refine ⟨_, rfl, ?_⟩))
 go_ret
 exact ⟨by first | rfl | (simp [errW_none, errW_some] <;> rfl) | (simp [*, errW_none, errW_some] <;> rfl), by repeat (first | (with_reducible first | exact HB.out | apply below_alloc | apply pw_below_drewN | apply below_drew1 | refine below_set ?_ GE101.out) | exact HB.out)⟩
end Go.Proofs.Ytiklpefckadgdaa.P
noncomputable section
namespace Go.Proofs.Ytiklpefckadgdaa.P
open Go.RowKit Go.Proofs.YtiklpefckadgdaaW.PrintWords Go.Proofs.YtiklpefckadgdaaW.PrintLast Go.Proofs.YtiklpefckadgdaaW.PrintMore
attribute [local go_sem] max2_int min2_int max_two min_two max_three min_three max_four min_four   -- for this text's walks alone
set_option linter.unusedVariables false
set_option linter.unusedSimpArgs false
def bridge_span.f (k : Nat) (l0_0 : List Int) (l0_1 : List Int) (l0_2 : List Int) (a0_3 : Int) (a0_4 : Int) (a0_5 : Int) (l1 : List (S35)) (a2 : Int) : Option (Int) := (bridge_both.f k l0_0 l0_1 l0_2 a0_3 a0_4 a0_5 l1).bind fun t102 => (if t102 = 0 then (if a2 < 0 then (some 5) else (if a2 ≥ (l0_0.length : Int) then (some 5) else (some 0))) else (some t102))
theorem bridge_span.mono : ∀ a0 a1 a2 a3 a4 a5 a6 a7 k, LeO (bridge_span.f k a0 a1 a2 a3 a4 a5 a6 a7) (bridge_span.f (k + 1) a0 a1 a2 a3 a4 a5 a6 a7) := by
 intro a0 a1 a2 a3 a4 a5 a6 a7 k
 unfold bridge_span.f
 repeat' first
   | (with_reducible exact bridge_both.mono _ _ _ _ _ _ _ _)
   | (with_reducible exact LeO.refl _)
   | (with_reducible exact LeO.none _)
   | (with_reducible refine LeO.ite ?_ ?_)
   | (with_reducible refine LeO.bind ?_ (fun _ => ?_))
   | exact bridge_both.mono _ _ _ _ _ _ _ _
   | exact LeO.none _
   | refine LeO.ite ?_ ?_
   | refine LeO.bind ?_ (fun _ => ?_)
set_option maxHeartbeats 8000000 in
set_option maxRecDepth 100000 in
theorem bridge_span.calls (k : Nat) (A0_0 : Option Addr) (c0_0 : Nat) (l0_0 : List Int) (A0_1 : Option Addr) (c0_1 : Nat) (l0_1 : List Int) (A0_2 : Option Addr) (c0_2 : Nat) (l0_2 : List Int) (a0_3 : Int) (a0_4 : Int) (a0_5 : Int) (A1 : Option Addr) (c1 : Nat) (l1 : List (S35)) (a2 : Int) (r : Int) (w : World) (hr0_0 : Kd.C (Kd.int .i64) w A0_0 l0_0.length l0_0) (hc0_0 : l0_0.length ≤ c0_0) (hr0_1 : Kd.C (Kd.int .i64) w A0_1 l0_1.length l0_1) (hc0_1 : l0_1.length ≤ c0_1) (hr0_2 : Kd.C (Kd.int .i64) w A0_2 l0_2.length l0_2) (hc0_2 : l0_2.length ≤ c0_2) (hr1 : Kd.C k35 w A1 l1.length l1) (hc1 : l1.length ≤ c1) (h : bridge_span.f k l0_0 l0_1 l0_2 a0_3 a0_4 a0_5 l1 a2 = some r) :
  Calls Try.prog 43 #[.agg #[.slice A0_0 l0_0.length c0_0, .slice A0_1 l0_1.length c0_1, .slice A0_2 l0_2.length c0_2, .int .i64 a0_3, .int .i64 a0_4, .int .i64 a0_5], .slice A1 l1.length c1, .int .i64 a2] w fun e w' => e = .returned (.int .i64 r) ∧ Below w.heap.size w w' := by
 have hu24 := Try.underlying24
 have HR0_0 := Aside0.mk hr0_0
 have HC0_0 := Aside0.mk hc0_0
 clear hr0_0 hc0_0
 have HR0_1 := Aside0.mk hr0_1
 have HC0_1 := Aside0.mk hc0_1
 clear hr0_1 hc0_1
 have HR0_2 := Aside0.mk hr0_2
 have HC0_2 := Aside0.mk hc0_2
 clear hr0_2 hc0_2
 have HR1 := Aside0.mk hr1
 have HC1 := Aside0.mk hc1
 clear hr1 hc1
 have HB := Aside0.mk (Below.refl w.heap.size w)
 have H : ((bridge_both.f k l0_0 l0_1 l0_2 a0_3 a0_4 a0_5 l1).bind fun t102 => (if t102 = 0 then (if a2 < 0 then (some 5) else (if a2 ≥ (l0_0.length : Int) then (some 5) else (some 0))) else (some t102))) = some r := h
 clear h
 replace H := Option.bind_eq_some_iff.mp H
 obtain ⟨t102, A40, H⟩ := H
 replace H : (if t102 = 0 then (if a2 < 0 then (some 5) else (if a2 ≥ (l0_0.length : Int) then (some 5) else (some 0))) else (some t102)) = some r := H
 have A4 := Aside0.mk A40
 clear A40
 by_cases c5 : t102 = 0
 ·rw [if_pos c5] at H
  have c5b0 : (t102 == 0) = true := beq_iff_eq.mpr c5
  have c5b1 : (t102 != 0) = false := bne_eq_false_iff_eq.mpr c5
  clear c5
  by_cases c6 : a2 < 0
  ·rw [if_pos c6] at H
   have c6b0 : decide (a2 < 0) = true := decide_eq_true c6
   clear c6
   obtain rfl := Option.some.inj H
   go_enter Try.func43, Try.ntmps43
   go_wp2_with (first | ((with_reducible refine gate_dst (N := 3) rfl ?_); (try (refine gate_guard (by rfl) ?_; dsimp only)); refine box_event ?hg (N := 3) ?hd (cs := #[.slice A0_0 l0_0.length c0_0, .slice A0_1 l0_1.length c0_1, .slice A0_2 l0_2.length c0_2, .int .i64 a0_3, .int .i64 a0_4, .int .i64 a0_5]) (t := 24) ?hr ?_; (case hd => rfl); (case hg => rfl); (case hr => first | (go_simp; done) | (go_simp; rfl)); intro gb101 hg w7 hbox hb; have n0_ := Aside0.mk (below_step (by repeat (first | (with_reducible first | exact HB.out | apply below_alloc | apply pw_below_drewN | apply below_drew1) | exact HB.out)) hb); have n1_ := Aside0.mk (hbox); have n2_ := Aside0.mk ((by rw [hg]; exact (below_size (by repeat (first | (with_reducible first | exact HB.out | apply below_alloc | apply pw_below_drewN | apply below_drew1) | exact HB.out))) : w.heap.size ≤ gb101)); have n3_ := Aside0.mk ((by rw [hg]; exact (below_size (by repeat (first | (with_reducible first | exact HB.out | apply below_alloc | apply pw_below_drewN | apply below_drew1) | exact HB.out))) : w.heap.size ≤ gb101)); clear HB; have HB := n0_; have BK101 := n1_; have GW101 := n2_; have GE101 := n3_; clear n0_ n1_ n2_ n3_; clear hb hbox hg; have hcz8_0 : w7.cell? ⟨gb101, 0, none⟩ = some (.slice A0_0 l0_0.length c0_0) := (blk_cell BK101.out 0).trans rfl; have hcz8_1 : w7.cell? ⟨gb101, 1, none⟩ = some (.slice A0_1 l0_1.length c0_1) := (blk_cell BK101.out 1).trans rfl; have hcz8_2 : w7.cell? ⟨gb101, 2, none⟩ = some (.slice A0_2 l0_2.length c0_2) := (blk_cell BK101.out 2).trans rfl; have hcz8_3 : w7.cell? ⟨gb101, 3, none⟩ = some (.int .i64 a0_3) := (blk_cell BK101.out 3).trans rfl; have hcz8_4 : w7.cell? ⟨gb101, 4, none⟩ = some (.int .i64 a0_4) := (blk_cell BK101.out 4).trans rfl; have hcz8_5 : w7.cell? ⟨gb101, 5, none⟩ = some (.int .i64 a0_5) := (blk_cell BK101.out 5).trans rfl; have hfz8_0 := blk_frozen BK101.out 0; have hfz8_1 := blk_frozen BK101.out 1; have hfz8_2 := blk_frozen BK101.out 2; have hfz8_3 := blk_frozen BK101.out 3; have hfz8_4 := blk_frozen BK101.out 4; have hfz8_5 := blk_frozen BK101.out 5) | ((with_reducible refine gate_callee (f := 61) rfl ?_); refine goesL_ (some 10) rfl rfl Try.func61 (by kernel_rfl) rfl #[.agg #[.slice A0_0 l0_0.length c0_0, .slice A0_1 l0_1.length c0_1, .slice A0_2 l0_2.length c0_2, .int .i64 a0_3, .int .i64 a0_4, .int .i64 a0_5], .slice A1 l1.length c1] rfl (by (try simp only [List.map_toArray, List.map_cons, List.map_nil]); first | done | rfl | (simp only [List.length_drop, List.length_take]; rfl)) ?_; (with_reducible refine (bridge_both.calls k _ _ l0_0 _ _ l0_1 _ _ l0_2 a0_3 a0_4 a0_5 _ _ l1 t102 _ ?side1 ?side2 ?side3 ?side4 ?side5 ?side6 ?side7 ?side8 A4.out).mono ?_); (case side1 => repeat (first | exact (Kd.C_below HR0_0.out HB.out) | (with_reducible refine Kd.C_alloc ?_ _) | (with_reducible refine Kd.C_drewN ?_ _) | (with_reducible refine Kd.C_drew ?_))); (case side2 => exact HC0_0.out); (case side3 => repeat (first | exact (Kd.C_below HR0_1.out HB.out) | (with_reducible refine Kd.C_alloc ?_ _) | (with_reducible refine Kd.C_drewN ?_ _) | (with_reducible refine Kd.C_drew ?_))); (case side4 => exact HC0_1.out); (case side5 => repeat (first | exact (Kd.C_below HR0_2.out HB.out) | (with_reducible refine Kd.C_alloc ?_ _) | (with_reducible refine Kd.C_drewN ?_ _) | (with_reducible refine Kd.C_drew ?_))); (case side6 => exact HC0_2.out); (case side7 => repeat (first | exact (Kd.C_below HR1.out HB.out) | (with_reducible refine Kd.C_alloc ?_ _) | (with_reducible refine Kd.C_drewN ?_ _) | (with_reducible refine Kd.C_drew ?_))); (case side8 => exact HC1.out); rintro e w9 ⟨rfl, hb⟩; refine ⟨_, rfl, ?_⟩; have n0_ := Aside0.mk (blk_below (g := gb101) (o := .cells #[.slice A0_0 l0_0.length c0_0, .slice A0_1 l0_1.length c0_1, .slice A0_2 l0_2.length c0_2, .int .i64 a0_3, .int .i64 a0_4, .int .i64 a0_5] 24 (0, 0)) (by (with_reducible repeat (first | refine blk_drewN ?_ _ | refine blk_drew ?_ | refine blk_alloc ?_ _)); exact BK101.out) hb); have n1_ := Aside0.mk (below_step (by repeat (first | (with_reducible first | exact HB.out | apply below_alloc | apply pw_below_drewN | apply below_drew1 | refine below_set ?_ GE101.out) | exact HB.out)) hb); clear BK101; clear HB; have BK101 := n0_; have HB := n1_; clear n0_ n1_; (try clear hb); (try clear hb2); (try clear hk); (try clear hi)))
   go_ret
   exact ⟨by first | rfl | (simp [errW_none, errW_some] <;> rfl) | (simp [*, errW_none, errW_some] <;> rfl), by repeat (first | (with_reducible first | exact HB.out | apply below_alloc | apply pw_below_drewN | apply below_drew1 | refine below_set ?_ GE101.out) | exact HB.out)⟩
  ·rw [if_neg c6] at H
   have c6b0 : decide (a2 < 0) = false := decide_eq_false c6
   clear c6
   by_cases c10 : a2 ≥ (l0_0.length : Int)
   ·rw [if_pos c10] at H
    have c10b0 : decide ((l0_0.length : Int) ≤ a2) = true := decide_eq_true c10
    clear c10
    obtain rfl := Option.some.inj H
    go_enter Try.func43, Try.ntmps43
    go_wp2_with (first | ((with_reducible refine gate_dst (N := 3) rfl ?_); (try (refine gate_guard (by rfl) ?_; dsimp only)); refine box_event ?hg (N := 3) ?hd (cs := #[.slice A0_0 l0_0.length c0_0, .slice A0_1 l0_1.length c0_1, .slice A0_2 l0_2.length c0_2, .int .i64 a0_3, .int .i64 a0_4, .int .i64 a0_5]) (t := 24) ?hr ?_; (case hd => rfl); (case hg => rfl); (case hr => first | (go_simp; done) | (go_simp; rfl)); intro gb101 hg w11 hbox hb; have n0_ := Aside0.mk (below_step (by repeat (first | (with_reducible first | exact HB.out | apply below_alloc | apply pw_below_drewN | apply below_drew1) | exact HB.out)) hb); have n1_ := Aside0.mk (hbox); have n2_ := Aside0.mk ((by rw [hg]; exact (below_size (by repeat (first | (with_reducible first | exact HB.out | apply below_alloc | apply pw_below_drewN | apply below_drew1) | exact HB.out))) : w.heap.size ≤ gb101)); have n3_ := Aside0.mk ((by rw [hg]; exact (below_size (by repeat (first | (with_reducible first | exact HB.out | apply below_alloc | apply pw_below_drewN | apply below_drew1) | exact HB.out))) : w.heap.size ≤ gb101)); clear HB; have HB := n0_; have BK101 := n1_; have GW101 := n2_; have GE101 := n3_; clear n0_ n1_ n2_ n3_; clear hb hbox hg; have hcz12_0 : w11.cell? ⟨gb101, 0, none⟩ = some (.slice A0_0 l0_0.length c0_0) := (blk_cell BK101.out 0).trans rfl; have hcz12_1 : w11.cell? ⟨gb101, 1, none⟩ = some (.slice A0_1 l0_1.length c0_1) := (blk_cell BK101.out 1).trans rfl; have hcz12_2 : w11.cell? ⟨gb101, 2, none⟩ = some (.slice A0_2 l0_2.length c0_2) := (blk_cell BK101.out 2).trans rfl; have hcz12_3 : w11.cell? ⟨gb101, 3, none⟩ = some (.int .i64 a0_3) := (blk_cell BK101.out 3).trans rfl; have hcz12_4 : w11.cell? ⟨gb101, 4, none⟩ = some (.int .i64 a0_4) := (blk_cell BK101.out 4).trans rfl; have hcz12_5 : w11.cell? ⟨gb101, 5, none⟩ = some (.int .i64 a0_5) := (blk_cell BK101.out 5).trans rfl; have hfz12_0 := blk_frozen BK101.out 0; have hfz12_1 := blk_frozen BK101.out 1; have hfz12_2 := blk_frozen BK101.out 2; have hfz12_3 := blk_frozen BK101.out 3; have hfz12_4 := blk_frozen BK101.out 4; have hfz12_5 := blk_frozen BK101.out 5) | ((with_reducible refine gate_callee (f := 61) rfl ?_); refine goesL_ (some 10) rfl rfl Try.func61 (by kernel_rfl) rfl #[.agg #[.slice A0_0 l0_0.length c0_0, .slice A0_1 l0_1.length c0_1, .slice A0_2 l0_2.length c0_2, .int .i64 a0_3, .int .i64 a0_4, .int .i64 a0_5], .slice A1 l1.length c1] rfl (by (try simp only [List.map_toArray, List.map_cons, List.map_nil]); first | done | rfl | (simp only [List.length_drop, List.length_take]; rfl)) ?_; (with_reducible refine (bridge_both.calls k _ _ l0_0 _ _ l0_1 _ _ l0_2 a0_3 a0_4 a0_5 _ _ l1 t102 _ ?side1 ?side2 ?side3 ?side4 ?side5 ?side6 ?side7 ?side8 A4.out).mono ?_); (case side1 => repeat (first | exact (Kd.C_below HR0_0.out HB.out) | (with_reducible refine Kd.C_alloc ?_ _) | (with_reducible refine Kd.C_drewN ?_ _) | (with_reducible refine Kd.C_drew ?_))); (case side2 => exact HC0_0.out); (case side3 => repeat (first | exact (Kd.C_below HR0_1.out HB.out) | (with_reducible refine Kd.C_alloc ?_ _) | (with_reducible refine Kd.C_drewN ?_ _) | (with_reducible refine Kd.C_drew ?_))); (case side4 => exact HC0_1.out); (case side5 => repeat (first | exact (Kd.C_below HR0_2.out HB.out) | (with_reducible refine Kd.C_alloc ?_ _) | (with_reducible refine Kd.C_drewN ?_ _) | (with_reducible refine Kd.C_drew ?_))); (case side6 => exact HC0_2.out); (case side7 => repeat (first | exact (Kd.C_below HR1.out HB.out) | (with_reducible refine Kd.C_alloc ?_ _) | (with_reducible refine Kd.C_drewN ?_ _) | (with_reducible refine Kd.C_drew ?_))); (case side8 => exact HC1.out); rintro e w13 ⟨rfl, hb⟩; refine ⟨_, rfl, ?_⟩; have n0_ := Aside0.mk (blk_below (g := gb101) (o := .cells #[.slice A0_0 l0_0.length c0_0, .slice A0_1 l0_1.length c0_1, .slice A0_2 l0_2.length c0_2, .int .i64 a0_3, .int .i64 a0_4, .int .i64 a0_5] 24 (0, 0)) (by (with_reducible repeat (first | refine blk_drewN ?_ _ | refine blk_drew ?_ | refine blk_alloc ?_ _)); exact BK101.out) hb); have n1_ := Aside0.mk (below_step (by repeat (first | (with_reducible first | exact HB.out | apply below_alloc | apply pw_below_drewN | apply below_drew1 | refine below_set ?_ GE101.out) | exact HB.out)) hb); clear BK101; clear HB; have BK101 := n0_; have HB := n1_; clear n0_ n1_; (try clear hb); (try clear hb2); (try clear hk); (try clear hi); have hcz14_0 : w13.cell? ⟨gb101, 0, none⟩ = some (.slice A0_0 l0_0.length c0_0) := (blk_cell BK101.out 0).trans rfl; have hcz14_1 : w13.cell? ⟨gb101, 1, none⟩ = some (.slice A0_1 l0_1.length c0_1) := (blk_cell BK101.out 1).trans rfl; have hcz14_2 : w13.cell? ⟨gb101, 2, none⟩ = some (.slice A0_2 l0_2.length c0_2) := (blk_cell BK101.out 2).trans rfl; have hcz14_3 : w13.cell? ⟨gb101, 3, none⟩ = some (.int .i64 a0_3) := (blk_cell BK101.out 3).trans rfl; have hcz14_4 : w13.cell? ⟨gb101, 4, none⟩ = some (.int .i64 a0_4) := (blk_cell BK101.out 4).trans rfl; have hcz14_5 : w13.cell? ⟨gb101, 5, none⟩ = some (.int .i64 a0_5) := (blk_cell BK101.out 5).trans rfl; have hfz14_0 := blk_frozen BK101.out 0; have hfz14_1 := blk_frozen BK101.out 1; have hfz14_2 := blk_frozen BK101.out 2; have hfz14_3 := blk_frozen BK101.out 3; have hfz14_4 := blk_frozen BK101.out 4; have hfz14_5 := blk_frozen BK101.out 5))
    go_ret
    exact ⟨by first | rfl | (simp [errW_none, errW_some] <;> rfl) | (simp [*, errW_none, errW_some] <;> rfl), by repeat (first | (with_reducible first | exact HB.out | apply below_alloc | apply pw_below_drewN | apply below_drew1 | refine below_set ?_ GE101.out) | exact HB.out)⟩
   ·rw [if_neg c10] at H
    have c10b0 : decide ((l0_0.length : Int) ≤ a2) = false := decide_eq_false c10
    clear c10
    obtain rfl := Option.some.inj H
    go_enter Try.func43, Try.ntmps43
    go_wp2_with (first | ((with_reducible refine gate_dst (N := 3) rfl ?_); (try (refine gate_guard (by rfl) ?_; dsimp only)); refine box_event ?hg (N := 3) ?hd (cs := #[.slice A0_0 l0_0.length c0_0, .slice A0_1 l0_1.length c0_1, .slice A0_2 l0_2.length c0_2, .int .i64 a0_3, .int .i64 a0_4, .int .i64 a0_5]) (t := 24) ?hr ?_; (case hd => rfl); (case hg => rfl); (case hr => first | (go_simp; done) | (go_simp; rfl)); intro gb101 hg w15 hbox hb; have n0_ := Aside0.mk (below_step (by repeat (first | (with_reducible first | exact HB.out | apply below_alloc | apply pw_below_drewN | apply below_drew1) | exact HB.out)) hb); have n1_ := Aside0.mk (hbox); have n2_ := Aside0.mk ((by rw [hg]; exact (below_size (by repeat (first | (with_reducible first | exact HB.out | apply below_alloc | apply pw_below_drewN | apply below_drew1) | exact HB.out))) : w.heap.size ≤ gb101)); have n3_ := Aside0.mk ((by rw [hg]; exact (below_size (by repeat (first | (with_reducible first | exact HB.out | apply below_alloc | apply pw_below_drewN | apply below_drew1) | exact HB.out))) : w.heap.size ≤ gb101)); clear HB; have HB := n0_; have BK101 := n1_; have GW101 := n2_; have GE101 := n3_; clear n0_ n1_ n2_ n3_; clear hb hbox hg; have hcz16_0 : w15.cell? ⟨gb101, 0, none⟩ = some (.slice A0_0 l0_0.length c0_0) := (blk_cell BK101.out 0).trans rfl; have hcz16_1 : w15.cell? ⟨gb101, 1, none⟩ = some (.slice A0_1 l0_1.length c0_1) := (blk_cell BK101.out 1).trans rfl; have hcz16_2 : w15.cell? ⟨gb101, 2, none⟩ = some (.slice A0_2 l0_2.length c0_2) := (blk_cell BK101.out 2).trans rfl; have hcz16_3 : w15.cell? ⟨gb101, 3, none⟩ = some (.int .i64 a0_3) := (blk_cell BK101.out 3).trans rfl; have hcz16_4 : w15.cell? ⟨gb101, 4, none⟩ = some (.int .i64 a0_4) := (blk_cell BK101.out 4).trans rfl; have hcz16_5 : w15.cell? ⟨gb101, 5, none⟩ = some (.int .i64 a0_5) := (blk_cell BK101.out 5).trans rfl; have hfz16_0 := blk_frozen BK101.out 0; have hfz16_1 := blk_frozen BK101.out 1; have hfz16_2 := blk_frozen BK101.out 2; have hfz16_3 := blk_frozen BK101.out 3; have hfz16_4 := blk_frozen BK101.out 4; have hfz16_5 := blk_frozen BK101.out 5) | ((with_reducible refine gate_callee (f := 61) rfl ?_); refine goesL_ (some 10) rfl rfl Try.func61 (by kernel_rfl) rfl #[.agg #[.slice A0_0 l0_0.length c0_0, .slice A0_1 l0_1.length c0_1, .slice A0_2 l0_2.length c0_2, .int .i64 a0_3, .int .i64 a0_4, .int .i64 a0_5], .slice A1 l1.length c1] rfl (by (try simp only [List.map_toArray, List.map_cons, List.map_nil]); first | done | rfl | (simp only [List.length_drop, List.length_take]; rfl)) ?_; (with_reducible refine (bridge_both.calls k _ _ l0_0 _ _ l0_1 _ _ l0_2 a0_3 a0_4 a0_5 _ _ l1 t102 _ ?side1 ?side2 ?side3 ?side4 ?side5 ?side6 ?side7 ?side8 A4.out).mono ?_); (case side1 => repeat (first | exact (Kd.C_below HR0_0.out HB.out) | (with_reducible refine Kd.C_alloc ?_ _) | (with_reducible refine Kd.C_drewN ?_ _) | (with_reducible refine Kd.C_drew ?_))); (case side2 => exact HC0_0.out); (case side3 => repeat (first | exact (Kd.C_below HR0_1.out HB.out) | (with_reducible refine Kd.C_alloc ?_ _) | (with_reducible refine Kd.C_drewN ?_ _) | (with_reducible refine Kd.C_drew ?_))); (case side4 => exact HC0_1.out); (case side5 => repeat (first | exact (Kd.C_below HR0_2.out HB.out) | (with_reducible refine Kd.C_alloc ?_ _) | (with_reducible refine Kd.C_drewN ?_ _) | (with_reducible refine Kd.C_drew ?_))); (case side6 => exact HC0_2.out); (case side7 => repeat (first | exact (Kd.C_below HR1.out HB.out) | (with_reducible refine Kd.C_alloc ?_ _) | (with_reducible refine Kd.C_drewN ?_ _) | (with_reducible refine Kd.C_drew ?_))); (case side8 => exact HC1.out); rintro e w17 ⟨rfl, hb⟩; refine ⟨_, rfl, ?_⟩; have n0_ := Aside0.mk (blk_below (g := gb101) (o := .cells #[.slice A0_0 l0_0.length c0_0, .slice A0_1 l0_1.length c0_1, .slice A0_2 l0_2.length c0_2, .int .i64 a0_3, .int .i64 a0_4, .int .i64 a0_5] 24 (0, 0)) (by (with_reducible repeat (first | refine blk_drewN ?_ _ | refine blk_drew ?_ | refine blk_alloc ?_ _)); exact BK101.out) hb); have n1_ := Aside0.mk (below_step (by repeat (first | (with_reducible first | exact HB.out | apply below_alloc | apply pw_below_drewN | apply below_drew1 | refine below_set ?_ GE101.out) | exact HB.out)) hb); clear BK101; clear HB; have BK101 := n0_; have HB := n1_; clear n0_ n1_; (try clear hb); (try clear hb2); (try clear hk); (try clear hi); have hcz18_0 : w17.cell? ⟨gb101, 0, none⟩ = some (.slice A0_0 l0_0.length c0_0) := (blk_cell BK101.out 0).trans rfl; have hcz18_1 : w17.cell? ⟨gb101, 1, none⟩ = some (.slice A0_1 l0_1.length c0_1) := (blk_cell BK101.out 1).trans rfl; have hcz18_2 : w17.cell? ⟨gb101, 2, none⟩ = some (.slice A0_2 l0_2.length c0_2) := (blk_cell BK101.out 2).trans rfl; have hcz18_3 : w17.cell? ⟨gb101, 3, none⟩ = some (.int .i64 a0_3) := (blk_cell BK101.out 3).trans rfl; have hcz18_4 : w17.cell? ⟨gb101, 4, none⟩ = some (.int .i64 a0_4) := (blk_cell BK101.out 4).trans rfl; have hcz18_5 : w17.cell? ⟨gb101, 5, none⟩ = some (.int .i64 a0_5) := (blk_cell BK101.out 5).trans rfl; have hfz18_0 := blk_frozen BK101.out 0; have hfz18_1 := blk_frozen BK101.out 1; have hfz18_2 := blk_frozen BK101.out 2; have hfz18_3 := blk_frozen BK101.out 3; have hfz18_4 := blk_frozen BK101.out 4; have hfz18_5 := blk_frozen BK101.out 5))
    go_ret
    exact ⟨by first | rfl | (simp [errW_none, errW_some] <;> rfl) | (simp [*, errW_none, errW_some] <;> rfl), by repeat (first | (with_reducible first | exact HB.out | apply below_alloc | apply pw_below_drewN | apply below_drew1 | refine below_set ?_ GE101.out) | exact HB.out)⟩
 ·rw [if_neg c5] at H
  have c5b0 : (t102 == 0) = false := beq_eq_false_iff_ne.mpr c5
  have c5b1 : (t102 != 0) = true := bne_iff_ne.mpr c5
  obtain rfl := Option.some.inj H
  go_enter Try.func43, Try.ntmps43
  go_wp2_with (first | ((with_reducible refine gate_dst (N := 3) rfl ?_); (try (refine gate_guard (by rfl) ?_; dsimp only)); refine box_event ?hg (N := 3) ?hd (cs := #[.slice A0_0 l0_0.length c0_0, .slice A0_1 l0_1.length c0_1, .slice A0_2 l0_2.length c0_2, .int .i64 a0_3, .int .i64 a0_4, .int .i64 a0_5]) (t := 24) ?hr ?_; (case hd => rfl); (case hg => rfl); (case hr => first | (go_simp; done) | (go_simp; rfl)); intro gb101 hg w19 hbox hb; have n0_ := Aside0.mk (below_step (by repeat (first | (with_reducible first | exact HB.out | apply below_alloc | apply pw_below_drewN | apply below_drew1) | exact HB.out)) hb); have n1_ := Aside0.mk (hbox); have n2_ := Aside0.mk ((by rw [hg]; exact (below_size (by repeat (first | (with_reducible first | exact HB.out | apply below_alloc | apply pw_below_drewN | apply below_drew1) | exact HB.out))) : w.heap.size ≤ gb101)); have n3_ := Aside0.mk ((by rw [hg]; exact (below_size (by repeat (first | (with_reducible first | exact HB.out | apply below_alloc | apply pw_below_drewN | apply below_drew1) | exact HB.out))) : w.heap.size ≤ gb101)); clear HB; have HB := n0_; have BK101 := n1_; have GW101 := n2_; have GE101 := n3_; clear n0_ n1_ n2_ n3_; clear hb hbox hg; have hcz20_0 : w19.cell? ⟨gb101, 0, none⟩ = some (.slice A0_0 l0_0.length c0_0) := (blk_cell BK101.out 0).trans rfl; have hcz20_1 : w19.cell? ⟨gb101, 1, none⟩ = some (.slice A0_1 l0_1.length c0_1) := (blk_cell BK101.out 1).trans rfl; have hcz20_2 : w19.cell? ⟨gb101, 2, none⟩ = some (.slice A0_2 l0_2.length c0_2) := (blk_cell BK101.out 2).trans rfl; have hcz20_3 : w19.cell? ⟨gb101, 3, none⟩ = some (.int .i64 a0_3) := (blk_cell BK101.out 3).trans rfl; have hcz20_4 : w19.cell? ⟨gb101, 4, none⟩ = some (.int .i64 a0_4) := (blk_cell BK101.out 4).trans rfl; have hcz20_5 : w19.cell? ⟨gb101, 5, none⟩ = some (.int .i64 a0_5) := (blk_cell BK101.out 5).trans rfl; have hfz20_0 := blk_frozen BK101.out 0; have hfz20_1 := blk_frozen BK101.out 1; have hfz20_2 := blk_frozen BK101.out 2; have hfz20_3 := blk_frozen BK101.out 3; have hfz20_4 := blk_frozen BK101.out 4; have hfz20_5 := blk_frozen BK101.out 5) | ((with_reducible refine gate_callee (f := 61) rfl ?_); refine goesL_ (some 10) rfl rfl Try.func61 (by kernel_rfl) rfl #[.agg #[.slice A0_0 l0_0.length c0_0, .slice A0_1 l0_1.length c0_1, .slice A0_2 l0_2.length c0_2, .int .i64 a0_3, .int .i64 a0_4, .int .i64 a0_5], .slice A1 l1.length c1] rfl (by (try simp only [List.map_toArray, List.map_cons, List.map_nil]); first | done | rfl | (simp only [List.length_drop, List.length_take]; rfl)) ?_; (with_reducible refine (bridge_both.calls k _ _ l0_0 _ _ l0_1 _ _ l0_2 a0_3 a0_4 a0_5 _ _ l1 t102 _ ?side1 ?side2 ?side3 ?side4 ?side5 ?side6 ?side7 ?side8 A4.out).mono ?_); (case side1 => repeat (first | exact (Kd.C_below HR0_0.out HB.out) | (with_reducible refine Kd.C_alloc ?_ _) | (with_reducible refine Kd.C_drewN ?_ _) | (with_reducible refine Kd.C_drew ?_))); (case side2 => exact HC0_0.out); (case side3 => repeat (first | exact (Kd.C_below HR0_1.out HB.out) | (with_reducible refine Kd.C_alloc ?_ _) | (with_reducible refine Kd.C_drewN ?_ _) | (with_reducible refine Kd.C_drew ?_))); (case side4 => exact HC0_1.out); (case side5 => repeat (first | exact (Kd.C_below HR0_2.out HB.out) | (with_reducible refine Kd.C_alloc ?_ _) | (with_reducible refine Kd.C_drewN ?_ _) | (with_reducible refine Kd.C_drew ?_))); (case side6 => exact HC0_2.out); (case side7 => repeat (first | exact (Kd.C_below HR1.out HB.out) | (with_reducible refine Kd.C_alloc ?_ _) | (with_reducible refine Kd.C_drewN ?_ _) | (with_reducible refine Kd.C_drew ?_))); (case side8 => exact HC1.out); rintro e w21 ⟨rfl, hb⟩; refine ⟨_, rfl, ?_⟩; have n0_ := Aside0.mk (blk_below (g := gb101) (o := .cells #[.slice A0_0 l0_0.length c0_0, .slice A0_1 l0_1.length c0_1, .slice A0_2 l0_2.length c0_2, .int .i64 a0_3, .int .i64 a0_4, .int .i64 a0_5] 24 (0, 0)) (by (with_reducible repeat (first | refine blk_drewN ?_ _ | refine blk_drew ?_ | refine blk_alloc ?_ _)); exact BK101.out) hb); have n1_ := Aside0.mk (below_step (by repeat (first | (with_reducible first | exact HB.out | apply below_alloc | apply pw_below_drewN | apply below_drew1 | refine below_set ?_ GE101.out) | exact HB.out)) hb); clear BK101; clear HB; have BK101 := n0_; have HB := n1_; clear n0_ n1_; (try clear hb); (try clear hb2); (try clear hk); (try clear hi)))
  go_ret
  exact ⟨by first | rfl | (simp [errW_none, errW_some] <;> rfl) | (simp [*, errW_none, errW_some] <;> rfl), by repeat (first | (with_reducible first | exact HB.out | apply below_alloc | apply pw_below_drewN | apply below_drew1 | refine below_set ?_ GE101.out) | exact HB.out)⟩
end Go.Proofs.Ytiklpefckadgdaa.P
namespace Go.Proofs.Ytiklpefckadgdaa.P
open Go.RowKit Go.Shelf Go.Proofs.Ytiklpefckadgdaa.O Go.Proofs.YtiklpefckadgdaaW.PrintWords Go.Proofs.YtiklpefckadgdaaW.PrintLast Go.Proofs.YtiklpefckadgdaaW.PrintMore
attribute [local go_sem] run_store_func_
noncomputable def limO {α : Type} (g : Nat → Option α) : Option α := by
 classical exact if h : ∃ k, (g k).isSome = true then g (Classical.choose h) else none
theorem limO_some {α : Type} {g : Nat → Option α} {r : α} (h : limO g = some r) : ∃ k, g k = some r := by
 classical
 unfold limO at h
 split at h
 ·exact ⟨_, h⟩
 ·cases h
theorem limO_ev {α : Type} {g : Nat → Option α} {r : α} (hm : ∀ k, LeO (g k) (g (k + 1))) (h : Ev g r) : limO g = some r := by
 classical
 obtain ⟨K, hK⟩ := h
 unfold limO
 have he : ∃ k, (g k).isSome = true := ⟨K, by rw [hK K (Nat.le_refl _)]; rfl⟩
 rw [dif_pos he]
 have hs := Classical.choose_spec he
 obtain ⟨v, hv⟩ := Option.isSome_iff_exists.1 hs
 have h1 := at_rounds hm (Nat.le_max_left (Classical.choose he) K) hv
 rw [hK _ (Nat.le_max_right _ _)] at h1
 rw [hv, h1]
def ltW (a b : S29) : Bool := decide (a.f0 < b.f0) || (decide (a.f0 = b.f0) && decide (b.f3 < a.f3))
theorem compare_eq (a b : Int) : cmp_Compare_77.f a b = some (if a < b then -1 else if a > b then 1 else 0) := by
 have h : ∀ x : Int, cmp_isNaN_91.f x = some false := fun x => by simp [cmp_isNaN_91.f]
 simp only [cmp_Compare_77.f, h, Option.bind_some]
 rw [if_neg (by decide), if_neg (by decide)]
 by_cases h1 : a < b
 ·rw [if_pos h1, if_pos h1]
 ·rw [if_neg h1, if_neg h1]
  by_cases h2 : a > b
  ·rw [if_pos h2, if_pos h2]
  ·rw [if_neg h2, if_neg h2]
theorem or2_eq (a b : Int) : cmp_Or_76.f 3 [a, b] = some (if a ≠ 0 then a else b) := by
 by_cases h : a = 0
 ·subst h
  by_cases h2 : b = 0
  ·subst h2; decide +kernel
  ·simp [cmp_Or_76.f, cmp_Or_76.l0, h2, rd, wrap64]
 ·simp [cmp_Or_76.f, cmp_Or_76.l0, h, rd]
theorem less_eq (a b : S29) : bridge_influence_worst_2.f 3 a.f0 a.f1 a.f2 a.f3 b.f0 b.f1 b.f2 b.f3 = some (ltW a b) := by
 simp only [bridge_influence_worst_2.f, compare_eq, Option.bind_some, or2_eq]
 congr 1
 unfold ltW
 by_cases h1 : a.f0 < b.f0
 ·simp [h1]
 ·by_cases h2 : b.f0 < a.f0
  ·simp [h1, h2]; omega
  ·have h3 : a.f0 = b.f0 := by omega
   by_cases h4 : b.f3 < a.f3
   ·simp [h1, h2, h3, h4]
   ·by_cases h5 : a.f3 < b.f3
    ·simp [h1, h2, h3, h4, h5]
    ·simp [h1, h2, h3, h4, h5]
theorem less_fn : LessFn 75 ltW :=
 ⟨enters_of Try.func75 (by kernel_rfl) rfl, fun a b W => bridge_influence_worst_2.calls 3 a.f0 a.f1 a.f2 a.f3 b.f0 b.f1 b.f2 b.f3 _ W (less_eq a b)⟩
def worstW (line : Int → Int) (l : List S35) (ks : List Int) (span point : Int) : S29 := (bestO ltW (effectsL line l ks span point)).getD z29
set_option maxRecDepth 100000 in
set_option maxHeartbeats 4000000 in
theorem worst_in (g : Nat) (lb : Array Value) (line : Int → Int) (c1 c2 n2 : Nat) (A1 A2 : Option Addr) (l1 : List S35) (ks : List Int) (span point : Int) (w : World)
  (hl : LineFn g lb line w) (hlen : l1.length ≤ 1000) (hr1 : Kd.C k35 w A1 l1.length l1) (hn : n2 = ks.length) (hr2 : Kd.C (Kd.int .i64) w A2 ks.length ks) :
  CallsIn Fence.wide 0 Try.prog 46 #[.agg #[.func (.func g) #[] lb, .slice A2 n2 c2], .slice A1 l1.length c1, .int .i64 span, .int .i64 point] w fun e W' =>
   e = .returned (.agg (effC (worstW line l1 ks span point))) ∧ Below w.heap.size w W' := by
 subst hn
 have hu29 := Try.underlying29
 have hu69 := Try.underlying69
 obtain ⟨w1, hw1⟩ : ∃ w1, ((((w.alloc (.cells #[.func (.func g) #[] lb, .slice A2 ks.length c2] 69 (0, 0))).alloc (.cells #[.slice A1 l1.length c1] 25 (0, 0))).alloc (.cells #[.int .i64 span] 3 (0, 0))).alloc (.cells #[.int .i64 point] 2 (0, 0))).alloc (.cells (effC z29) 29 (0, 0)) = w1 := ⟨_, rfl⟩
 have hb1 : Below w.heap.size w w1 := by rw [← hw1]; exact (((((Below.refl _ _).alloc (Nat.le_refl _) _).alloc (by simp) _).alloc (by simp; omega) _).alloc (by simp; omega) _).alloc (by simp; omega) _
 have hz1 : w1.heap.size = w.heap.size + 5 := by rw [← hw1]; simp
 have h1 : w1.heap[w.heap.size]? = some (.cells #[.func (.func g) #[] lb, .slice A2 ks.length c2] 69 (0, 0)) := by rw [← hw1]; exact blk_alloc (blk_alloc (blk_alloc (blk_alloc (blk_new _ _) _) _) _) _
 have h2 : w1.heap[w.heap.size + 1]? = some (.cells #[.slice A1 l1.length c1] 25 (0, 0)) := by
  rw [← hw1]; refine blk_alloc (blk_alloc (blk_alloc ?_ _) _) _; have := blk_new (w.alloc (.cells #[.func (.func g) #[] lb, .slice A2 ks.length c2] 69 (0, 0))) (.cells #[.slice A1 l1.length c1] 25 (0, 0)); rwa [World.size_alloc] at this
 have h3 : w1.heap[w.heap.size + 1 + 1]? = some (.cells #[.int .i64 span] 3 (0, 0)) := by
  rw [← hw1]; refine blk_alloc (blk_alloc ?_ _) _; have := blk_new ((w.alloc (.cells #[.func (.func g) #[] lb, .slice A2 ks.length c2] 69 (0, 0))).alloc (.cells #[.slice A1 l1.length c1] 25 (0, 0))) (.cells #[.int .i64 span] 3 (0, 0)); rwa [World.size_alloc, World.size_alloc] at this
 have h4 : w1.heap[w.heap.size + 1 + 1 + 1]? = some (.cells #[.int .i64 point] 2 (0, 0)) := by
  rw [← hw1]; refine blk_alloc ?_ _; have := blk_new (((w.alloc (.cells #[.func (.func g) #[] lb, .slice A2 ks.length c2] 69 (0, 0))).alloc (.cells #[.slice A1 l1.length c1] 25 (0, 0))).alloc (.cells #[.int .i64 span] 3 (0, 0))) (.cells #[.int .i64 point] 2 (0, 0)); rwa [World.size_alloc, World.size_alloc, World.size_alloc] at this
 have h5 : w1.heap[w.heap.size + 1 + 1 + 1 + 1]? = some (.cells (effC z29) 29 (0, 0)) := by
  rw [← hw1]; have := blk_new ((((w.alloc (.cells #[.func (.func g) #[] lb, .slice A2 ks.length c2] 69 (0, 0))).alloc (.cells #[.slice A1 l1.length c1] 25 (0, 0))).alloc (.cells #[.int .i64 span] 3 (0, 0))).alloc (.cells #[.int .i64 point] 2 (0, 0))) (.cells (effC z29) 29 (0, 0)); rwa [World.size_alloc, World.size_alloc, World.size_alloc, World.size_alloc] at this
 simp only [effC, z29] at hw1
 refine callsIn_of_wp Try.func46 rfl trivial ?_ rfl
 simp only [Try.ntmps46, List.size_toArray, List.length_cons, List.length_nil, Nat.reduceAdd, Nat.reduceSub, Array.replicate_succ, Array.replicate_zero, List.push_toArray, List.append_toArray, List.nil_append, List.cons_append]
 gi_wp2
 refine ⟨trivial, rfl, (best_in 73 75 _ (effectsL line l1 ks span point) ltW w1 (enters_of Try.func73 (by kernel_rfl) rfl) (worst_seq g lb line (w.heap.size) (w.heap.size + 1) (w.heap.size + 1 + 1) (w.heap.size + 1 + 1 + 1) c1 c2 A1 A2 l1 ks span point w1 (hl.below hb1) hlen h1 h2 h3 h4 (Kd.C_below hr1 hb1) (Kd.C_below hr2 hb1)) less_fn).mono ?_⟩
 rintro e w2 ⟨rfl, hb2⟩
 have h6 := keep_below hb2 (blk_lt h5) h5
 obtain ⟨⟨o0, o1, o2, o3⟩, f0, f1, f2, f3⟩ := cells4 h6
 have hb3 : Below w.heap.size w w2 := hb1.trans (hb2.mono (by omega))
 obtain ⟨x, hx⟩ : ∃ x, (bestO ltW (effectsL line l1 ks span point)).getD z29 = x := ⟨_, rfl⟩
 rw [hx]
 have hput := put4_blk x h6
 have hbp : Below w.heap.size w (put4 w2 (w.heap.size + 1 + 1 + 1 + 1) x) := hb3.trans (put4_below (by omega))
 dsimp only [effC]
 gi_wp2
 refine bodyPost_ret (results_single rfl (.cell (w.heap.size + 1 + 1 + 1 + 1) 29 (effC x) (0, 0) _ rfl hput Try.underlying29 rfl (by kernel_rfl) .nil)) rfl ?_
 exact ⟨by rw [worstW, hx], hbp⟩
theorem cells6 {V : World} {B : Nat} {v0 v1 v2 : Value} {a b c : Int} (h : V.heap[B]? = some (.cells #[v0, v1, v2, .int .i64 a, .int .i64 b, .int .i64 c] 24 (0, 0))) :
  V.cell? ⟨B, 0, none⟩ = some v0 ∧ V.cell? ⟨B, 1, none⟩ = some v1 ∧ V.cell? ⟨B, 2, none⟩ = some v2 ∧ V.cell? ⟨B, 3, none⟩ = some (.int .i64 a) ∧ V.cell? ⟨B, 4, none⟩ = some (.int .i64 b) ∧ V.cell? ⟨B, 5, none⟩ = some (.int .i64 c) :=
 ⟨(blk_cell h 0).trans rfl, (blk_cell h 1).trans rfl, (blk_cell h 2).trans rfl, (blk_cell h 3).trans rfl, (blk_cell h 4).trans rfl, (blk_cell h 5).trans rfl⟩
def effT (x : S29) (e : Int) : Int × Int × Int × Int × Int := (x.f0, x.f1, x.f2, x.f3, e)
def momentWorst (spans : List Int) (l : List S35) (k : Nat) (L x : Int) : S29 := worstW (momentW (startW spans k) L x) l [startW spans k, wrap64 (startW spans k + x), wrap64 (startW spans k + L)] (k : Int) x
def endWorst (spans : List Int) (l : List S35) (k : Nat) (L : Int) (right : Bool) (point : Int) : S29 := worstW (endW (startW spans k) L right) l [startW spans k, wrap64 (startW spans k + L)] (k : Int) point
noncomputable def bridge_WorstMoment.f (l0_0 : List Int) (l0_1 : List Int) (l0_2 : List Int) (a0_3 : Int) (a0_4 : Int) (a0_5 : Int) (l1 : List (S35)) (a2 : Int) (a3 : Int) : Option (Int × Int × Int × Int × Int) :=
 (limO fun n => bridge_span.f n l0_0 l0_1 l0_2 a0_3 a0_4 a0_5 l1 a2).bind fun e => if e = 0 then (if 0 ≤ a2 ∧ a2 < (l0_0.length : Int) ∧ l0_0.length ≤ 1000000 ∧ l1.length ≤ 1000 then (bridge_between.f a3 0 (rd l0_0 a2)).bind fun ok => if ok = true then some (effT (momentWorst l0_0 l1 a2.toNat (rd l0_0 a2) a3) 0) else some (effT z29 3) else none) else some (effT z29 e)
noncomputable def bridge_WorstEnd.f (l0_0 : List Int) (l0_1 : List Int) (l0_2 : List Int) (a0_3 : Int) (a0_4 : Int) (a0_5 : Int) (l1 : List (S35)) (a2 : Int) (a3 : Bool) : Option (Int × Int × Int × Int × Int) :=
 (limO fun n => bridge_span.f n l0_0 l0_1 l0_2 a0_3 a0_4 a0_5 l1 a2).bind fun e => if e = 0 then (if 0 ≤ a2 ∧ a2 < (l0_0.length : Int) ∧ l0_0.length ≤ 1000000 ∧ l1.length ≤ 1000 then some (effT (endWorst l0_0 l1 a2.toNat (rd l0_0 a2) a3 (if a3 = true then rd l0_0 a2 else 0)) 0) else none) else some (effT z29 e)
set_option maxRecDepth 100000 in
set_option maxHeartbeats 4000000 in
theorem bridge_WorstMoment.calls (A0_0 : Option Addr) (c0_0 : Nat) (l0_0 : List Int) (A0_1 : Option Addr) (c0_1 : Nat) (l0_1 : List Int) (A0_2 : Option Addr) (c0_2 : Nat) (l0_2 : List Int) (a0_3 : Int) (a0_4 : Int) (a0_5 : Int) (A1 : Option Addr) (c1 : Nat) (l1 : List (S35)) (a2 : Int) (a3 : Int) (r1 : Int) (r2 : Int) (r3 : Int) (r4 : Int) (r5 : Int) (w : World) (hr0_0 : Kd.C (Kd.int .i64) w A0_0 l0_0.length l0_0) (hc0_0 : l0_0.length ≤ c0_0) (hr0_1 : Kd.C (Kd.int .i64) w A0_1 l0_1.length l0_1) (hc0_1 : l0_1.length ≤ c0_1) (hr0_2 : Kd.C (Kd.int .i64) w A0_2 l0_2.length l0_2) (hc0_2 : l0_2.length ≤ c0_2) (hr1 : Kd.C k35 w A1 l1.length l1) (hc1 : l1.length ≤ c1) (h : bridge_WorstMoment.f l0_0 l0_1 l0_2 a0_3 a0_4 a0_5 l1 a2 a3 = some (r1, r2, r3, r4, r5)) :
  Calls Try.prog 13 #[.agg #[.slice A0_0 l0_0.length c0_0, .slice A0_1 l0_1.length c0_1, .slice A0_2 l0_2.length c0_2, .int .i64 a0_3, .int .i64 a0_4, .int .i64 a0_5], .slice A1 l1.length c1, .int .i64 a2, .int .i64 a3] w fun e w' => e = .returned (.tuple #[.agg #[.int .i64 r1, .int .i64 r2, .int .i64 r3, .int .i64 r4], .int .i64 r5]) ∧ Below w.heap.size w w' := by
 unfold bridge_WorstMoment.f at h
 have hu24 := Try.underlying24
 have hu29 := Try.underlying29
 obtain ⟨e0, he0, h⟩ := Option.bind_eq_some_iff.1 h
 obtain ⟨n, hn⟩ := limO_some he0
 obtain ⟨w1, hw1⟩ : ∃ w1, (w.alloc (.cells #[.slice A0_0 l0_0.length c0_0, .slice A0_1 l0_1.length c0_1, .slice A0_2 l0_2.length c0_2, .int .i64 a0_3, .int .i64 a0_4, .int .i64 a0_5] 24 (0, 0))).alloc (.cells (effC z29) 29 (0, 0)) = w1 := ⟨_, rfl⟩
 have hb1 : Below w.heap.size w w1 := by rw [← hw1]; exact ((Below.refl _ _).alloc (Nat.le_refl _) _).alloc (by simp) _
 have hz1 : w1.heap.size = w.heap.size + 2 := by rw [← hw1]; simp
 have h1 : w1.heap[w.heap.size]? = some (.cells #[.slice A0_0 l0_0.length c0_0, .slice A0_1 l0_1.length c0_1, .slice A0_2 l0_2.length c0_2, .int .i64 a0_3, .int .i64 a0_4, .int .i64 a0_5] 24 (0, 0)) := by rw [← hw1]; exact blk_alloc (blk_new _ _) _
 have h2 : w1.heap[w.heap.size + 1]? = some (.cells (effC z29) 29 (0, 0)) := by
  rw [← hw1]; have := blk_new (w.alloc (.cells #[.slice A0_0 l0_0.length c0_0, .slice A0_1 l0_1.length c0_1, .slice A0_2 l0_2.length c0_2, .int .i64 a0_3, .int .i64 a0_4, .int .i64 a0_5] 24 (0, 0))) (.cells (effC z29) 29 (0, 0)); rwa [World.size_alloc] at this
 simp only [effC, z29] at hw1
 obtain ⟨b0, b1, b2, b3, b4, b5⟩ := cells6 h1
 refine (callsIn_wide (n := 0)).1 (callsIn_of_wp Try.func13 rfl trivial ?_ rfl)
 simp only [Try.ntmps13, List.size_toArray, List.length_cons, List.length_nil, Nat.reduceAdd, Nat.reduceSub, Array.replicate_succ, Array.replicate_zero, List.push_toArray, List.append_toArray, List.nil_append, List.cons_append]
 gi_wp2
 refine ⟨trivial, rfl, (callsIn_w (bridge_span.calls n A0_0 c0_0 l0_0 A0_1 c0_1 l0_1 A0_2 c0_2 l0_2 a0_3 a0_4 a0_5 A1 c1 l1 a2 e0 w1 (Kd.C_below hr0_0 hb1) hc0_0 (Kd.C_below hr0_1 hb1) hc0_1 (Kd.C_below hr0_2 hb1) hc0_2 (Kd.C_below hr1 hb1) hc1 hn)).mono ?_⟩
 clear b0 b1 b2 b3 b4 b5
 rintro e w2 ⟨rfl, hb2⟩
 have h1' := keep_below hb2 (blk_lt h1) h1
 have h2' := keep_below hb2 (blk_lt h2) h2
 have hb3 : Below w.heap.size w w2 := hb1.trans (hb2.mono (by omega))
 have hz3 := hb2.size
 -- a store of an effect into the result, and the end
 have fin : ∀ (W : World) (x : S29), Below w.heap.size w W → W.heap[w.heap.size + 1]? = some (.cells (effC z29) 29 (0, 0)) → (put4 W (w.heap.size + 1) x).heap[w.heap.size + 1]? = some (.cells (effC x) 29 (0, 0)) ∧ Below w.heap.size w (put4 W (w.heap.size + 1) x) := fun W x hb hW => ⟨put4_blk x hW, hb.trans (put4_below (by omega))⟩
 by_cases he : e0 = 0
 ·rw [if_pos he] at h
  subst he
  by_cases hg : 0 ≤ a2 ∧ a2 < (l0_0.length : Int) ∧ l0_0.length ≤ 1000000 ∧ l1.length ≤ 1000
  ·rw [if_pos hg] at h
   obtain ⟨k, rfl⟩ : ∃ k : Nat, a2 = (k : Int) := ⟨a2.toNat, by omega⟩
   have hk : k < l0_0.length := by omega
   obtain ⟨ad, rfl, hx0⟩ := Kd.at_int hr0_0 (k : Int) (by omega) (by omega)
   rw [rd_get l0_0 k hk, Int.toNat_natCast] at hx0
   simp only [rd_get l0_0 k hk, Int.toNat_natCast] at h
   obtain ⟨ok, hok, h⟩ := Option.bind_eq_some_iff.1 h
   obtain ⟨b0, b1, b2, b3, b4, b5⟩ := cells6 h1'
   have hx2 := (hb3.cell (World.block_lt_of_cell? w _ hx0)).trans hx0
   gi_wp2
   refine ⟨trivial, rfl, (callsIn_w (bridge_between.calls a3 0 l0_0[k] ok w2 hok)).mono ?_⟩
   clear b0 b1 b2 b3 b4 b5 hx2
   rintro e w3 ⟨rfl, ⟨m, hw3⟩⟩
   have hb4 : Below w2.heap.size w2 w3 := by rw [hw3]; exact pw_below_drewN (Below.refl _ _) m
   have hb5 : Below w.heap.size w w3 := hb3.trans (hb4.mono hb3.size)
   have h1'' := keep_below hb4 (blk_lt h1') h1'
   have h2'' := keep_below hb4 (blk_lt h2') h2'
   clear hw3
   cases ok with
   | false =>
    rw [if_neg (by decide)] at h
    simp only [effT, Option.some.injEq, Prod.mk.injEq] at h
    obtain ⟨rfl, rfl, rfl, rfl, rfl⟩ := h
    obtain ⟨⟨o0, o1, o2, o3⟩, f0, f1, f2, f3⟩ := cells4 h2''
    obtain ⟨hp1, hp2⟩ := fin _ z29 hb5 h2''
    gi_wp2
    refine bodyPost_ret (results_ct rfl _ _ (w.heap.size + 1) 29 (effC z29) (0, 0) _ rfl hp1 Try.underlying29 rfl (by kernel_rfl)) rfl ?_
    exact ⟨rfl, hp2⟩
   | true =>
    rw [if_pos rfl] at h
    obtain ⟨b0, b1, b2, b3, b4, b5⟩ := cells6 h1''
    gi_wp2
    refine ⟨trivial, rfl, (callsIn_w (moment_calls (some ad) A0_1 A0_2 c0_0 c0_1 c0_2 l0_0 l0_1 l0_2 a0_3 a0_4 a0_5 k a3 w3 hk hg.2.2.1 (Kd.C_below hr0_0 hb5) hc0_0 (Kd.C_below hr0_1 hb5) hc0_1 (Kd.C_below hr0_2 hb5) hc0_2)).mono ?_⟩
    clear b0 b1 b2 b3 b4 b5
    rintro e w4 ⟨lb, A, c, rfl, hl4, hk4, hb6⟩
    have hb7 : Below w.heap.size w w4 := hb5.trans (hb6.mono hb5.size)
    have h24 := keep_below hb6 (blk_lt h2'') h2''
    gi_wp2
    refine ⟨trivial, rfl, (worst_in 72 lb _ c1 c 3 A1 A l1 _ (k : Int) a3 w4 hl4 hg.2.2.2 (Kd.C_below hr1 hb7) rfl hk4).mono ?_⟩
    rintro e w5 ⟨rfl, hb8⟩
    have hb9 : Below w.heap.size w w5 := hb7.trans (hb8.mono hb7.size)
    have h25 := keep_below hb8 (blk_lt h24) h24
    obtain ⟨x, hx⟩ : ∃ x, momentWorst l0_0 l1 k l0_0[k] a3 = x := ⟨_, rfl⟩
    rw [hx] at h
    unfold momentWorst at hx
    rw [hx]
    simp only [effT, Option.some.injEq, Prod.mk.injEq] at h
    obtain ⟨rfl, rfl, rfl, rfl, rfl⟩ := h
    obtain ⟨⟨o0, o1, o2, o3⟩, f0, f1, f2, f3⟩ := cells4 h25
    obtain ⟨hp1, hp2⟩ := fin _ x hb9 h25
    dsimp only [effC]
    gi_wp2
    refine bodyPost_ret (results_ct rfl _ _ (w.heap.size + 1) 29 (effC x) (0, 0) _ rfl hp1 Try.underlying29 rfl (by kernel_rfl)) rfl ?_
    exact ⟨rfl, hp2⟩
  ·rw [if_neg hg] at h; cases h
 ·rw [if_neg he] at h
  simp only [effT, Option.some.injEq, Prod.mk.injEq] at h
  obtain ⟨rfl, rfl, rfl, rfl, rfl⟩ := h
  obtain ⟨⟨o0, o1, o2, o3⟩, f0, f1, f2, f3⟩ := cells4 h2'
  obtain ⟨hp1, hp2⟩ := fin _ z29 hb3 h2'
  gi_wp2
  refine bodyPost_ret (results_ct rfl _ _ (w.heap.size + 1) 29 (effC z29) (0, 0) _ rfl hp1 Try.underlying29 rfl (by kernel_rfl)) rfl ?_
  exact ⟨rfl, hp2⟩
set_option maxRecDepth 100000 in
set_option maxHeartbeats 4000000 in
theorem bridge_WorstEnd.calls (A0_0 : Option Addr) (c0_0 : Nat) (l0_0 : List Int) (A0_1 : Option Addr) (c0_1 : Nat) (l0_1 : List Int) (A0_2 : Option Addr) (c0_2 : Nat) (l0_2 : List Int) (a0_3 : Int) (a0_4 : Int) (a0_5 : Int) (A1 : Option Addr) (c1 : Nat) (l1 : List (S35)) (a2 : Int) (a3 : Bool) (r1 : Int) (r2 : Int) (r3 : Int) (r4 : Int) (r5 : Int) (w : World) (hr0_0 : Kd.C (Kd.int .i64) w A0_0 l0_0.length l0_0) (hc0_0 : l0_0.length ≤ c0_0) (hr0_1 : Kd.C (Kd.int .i64) w A0_1 l0_1.length l0_1) (hc0_1 : l0_1.length ≤ c0_1) (hr0_2 : Kd.C (Kd.int .i64) w A0_2 l0_2.length l0_2) (hc0_2 : l0_2.length ≤ c0_2) (hr1 : Kd.C k35 w A1 l1.length l1) (hc1 : l1.length ≤ c1) (h : bridge_WorstEnd.f l0_0 l0_1 l0_2 a0_3 a0_4 a0_5 l1 a2 a3 = some (r1, r2, r3, r4, r5)) :
  Calls Try.prog 14 #[.agg #[.slice A0_0 l0_0.length c0_0, .slice A0_1 l0_1.length c0_1, .slice A0_2 l0_2.length c0_2, .int .i64 a0_3, .int .i64 a0_4, .int .i64 a0_5], .slice A1 l1.length c1, .int .i64 a2, .bool a3] w fun e w' => e = .returned (.tuple #[.agg #[.int .i64 r1, .int .i64 r2, .int .i64 r3, .int .i64 r4], .int .i64 r5]) ∧ Below w.heap.size w w' := by
 unfold bridge_WorstEnd.f at h
 have hu24 := Try.underlying24
 have hu29 := Try.underlying29
 obtain ⟨e0, he0, h⟩ := Option.bind_eq_some_iff.1 h
 obtain ⟨n, hn⟩ := limO_some he0
 obtain ⟨w1, hw1⟩ : ∃ w1, (w.alloc (.cells #[.slice A0_0 l0_0.length c0_0, .slice A0_1 l0_1.length c0_1, .slice A0_2 l0_2.length c0_2, .int .i64 a0_3, .int .i64 a0_4, .int .i64 a0_5] 24 (0, 0))).alloc (.cells (effC z29) 29 (0, 0)) = w1 := ⟨_, rfl⟩
 have hb1 : Below w.heap.size w w1 := by rw [← hw1]; exact ((Below.refl _ _).alloc (Nat.le_refl _) _).alloc (by simp) _
 have hz1 : w1.heap.size = w.heap.size + 2 := by rw [← hw1]; simp
 have h1 : w1.heap[w.heap.size]? = some (.cells #[.slice A0_0 l0_0.length c0_0, .slice A0_1 l0_1.length c0_1, .slice A0_2 l0_2.length c0_2, .int .i64 a0_3, .int .i64 a0_4, .int .i64 a0_5] 24 (0, 0)) := by rw [← hw1]; exact blk_alloc (blk_new _ _) _
 have h2 : w1.heap[w.heap.size + 1]? = some (.cells (effC z29) 29 (0, 0)) := by
  rw [← hw1]; have := blk_new (w.alloc (.cells #[.slice A0_0 l0_0.length c0_0, .slice A0_1 l0_1.length c0_1, .slice A0_2 l0_2.length c0_2, .int .i64 a0_3, .int .i64 a0_4, .int .i64 a0_5] 24 (0, 0))) (.cells (effC z29) 29 (0, 0)); rwa [World.size_alloc] at this
 simp only [effC, z29] at hw1
 obtain ⟨b0, b1, b2, b3, b4, b5⟩ := cells6 h1
 refine (callsIn_wide (n := 0)).1 (callsIn_of_wp Try.func14 rfl trivial ?_ rfl)
 simp only [Try.ntmps14, List.size_toArray, List.length_cons, List.length_nil, Nat.reduceAdd, Nat.reduceSub, Array.replicate_succ, Array.replicate_zero, List.push_toArray, List.append_toArray, List.nil_append, List.cons_append]
 gi_wp2
 refine ⟨trivial, rfl, (callsIn_w (bridge_span.calls n A0_0 c0_0 l0_0 A0_1 c0_1 l0_1 A0_2 c0_2 l0_2 a0_3 a0_4 a0_5 A1 c1 l1 a2 e0 w1 (Kd.C_below hr0_0 hb1) hc0_0 (Kd.C_below hr0_1 hb1) hc0_1 (Kd.C_below hr0_2 hb1) hc0_2 (Kd.C_below hr1 hb1) hc1 hn)).mono ?_⟩
 clear b0 b1 b2 b3 b4 b5
 rintro e w2 ⟨rfl, hb2⟩
 have h1' := keep_below hb2 (blk_lt h1) h1
 have h2' := keep_below hb2 (blk_lt h2) h2
 have hb3 : Below w.heap.size w w2 := hb1.trans (hb2.mono (by omega))
 have hz3 := hb2.size
 -- a store of an effect into the result, and the end
 have fin : ∀ (W : World) (x : S29), Below w.heap.size w W → W.heap[w.heap.size + 1]? = some (.cells (effC z29) 29 (0, 0)) → (put4 W (w.heap.size + 1) x).heap[w.heap.size + 1]? = some (.cells (effC x) 29 (0, 0)) ∧ Below w.heap.size w (put4 W (w.heap.size + 1) x) := fun W x hb hW => ⟨put4_blk x hW, hb.trans (put4_below (by omega))⟩
 by_cases he : e0 = 0
 ·rw [if_pos he] at h
  subst he
  by_cases hg : 0 ≤ a2 ∧ a2 < (l0_0.length : Int) ∧ l0_0.length ≤ 1000000 ∧ l1.length ≤ 1000
  ·rw [if_pos hg] at h
   obtain ⟨k, rfl⟩ : ∃ k : Nat, a2 = (k : Int) := ⟨a2.toNat, by omega⟩
   have hk : k < l0_0.length := by omega
   obtain ⟨ad, rfl, hx0⟩ := Kd.at_int hr0_0 (k : Int) (by omega) (by omega)
   rw [rd_get l0_0 k hk, Int.toNat_natCast] at hx0
   simp only [rd_get l0_0 k hk, Int.toNat_natCast] at h
   have hx2 := (hb3.cell (World.block_lt_of_cell? w _ hx0)).trans hx0
   obtain ⟨x, hx⟩ : ∃ x, endWorst l0_0 l1 k l0_0[k] a3 (if a3 = true then l0_0[k] else 0) = x := ⟨_, rfl⟩
   rw [hx] at h
   unfold endWorst at hx
   simp only [effT, Option.some.injEq, Prod.mk.injEq] at h
   obtain ⟨rfl, rfl, rfl, rfl, rfl⟩ := h
   obtain ⟨b0, b1, b2, b3, b4, b5⟩ := cells6 h1'
   cases a3 with
   | false =>
    simp only [Bool.false_eq_true, if_false, if_true] at hx
    gi_wp2
    refine ⟨trivial, rfl, (callsIn_w (end_calls (some ad) A0_1 A0_2 c0_0 c0_1 c0_2 l0_0 l0_1 l0_2 a0_3 a0_4 a0_5 k false w2 hk hg.2.2.1 (Kd.C_below hr0_0 hb3) hc0_0 (Kd.C_below hr0_1 hb3) hc0_1 (Kd.C_below hr0_2 hb3) hc0_2)).mono ?_⟩
    clear b0 b1 b2 b3 b4 b5 hx2
    rintro e w4 ⟨lb, A, c, rfl, hl4, hk4, hb6⟩
    have hb7 : Below w.heap.size w w4 := hb3.trans (hb6.mono hb3.size)
    have h24 := keep_below hb6 (blk_lt h2') h2'
    gi_wp2
    refine ⟨trivial, rfl, (worst_in 78 lb _ c1 c 2 A1 A l1 _ (k : Int) 0 w4 hl4 hg.2.2.2 (Kd.C_below hr1 hb7) rfl hk4).mono ?_⟩
    rintro e w5 ⟨rfl, hb8⟩
    have hb9 : Below w.heap.size w w5 := hb7.trans (hb8.mono hb7.size)
    have h25 := keep_below hb8 (blk_lt h24) h24
    rw [hx]
    obtain ⟨⟨o0, o1, o2, o3⟩, f0, f1, f2, f3⟩ := cells4 h25
    obtain ⟨hp1, hp2⟩ := fin _ x hb9 h25
    dsimp only [effC]
    gi_wp2
    refine bodyPost_ret (results_ct rfl _ _ (w.heap.size + 1) 29 (effC x) (0, 0) _ rfl hp1 Try.underlying29 rfl (by kernel_rfl)) rfl ?_
    exact ⟨rfl, hp2⟩
   | true =>
    simp only [eq_self, if_false, if_true] at hx
    gi_wp2
    refine ⟨trivial, rfl, (callsIn_w (end_calls (some ad) A0_1 A0_2 c0_0 c0_1 c0_2 l0_0 l0_1 l0_2 a0_3 a0_4 a0_5 k true w2 hk hg.2.2.1 (Kd.C_below hr0_0 hb3) hc0_0 (Kd.C_below hr0_1 hb3) hc0_1 (Kd.C_below hr0_2 hb3) hc0_2)).mono ?_⟩
    clear b0 b1 b2 b3 b4 b5 hx2
    rintro e w4 ⟨lb, A, c, rfl, hl4, hk4, hb6⟩
    have hb7 : Below w.heap.size w w4 := hb3.trans (hb6.mono hb3.size)
    have h24 := keep_below hb6 (blk_lt h2') h2'
    gi_wp2
    refine ⟨trivial, rfl, (worst_in 78 lb _ c1 c 2 A1 A l1 _ (k : Int) l0_0[k] w4 hl4 hg.2.2.2 (Kd.C_below hr1 hb7) rfl hk4).mono ?_⟩
    rintro e w5 ⟨rfl, hb8⟩
    have hb9 : Below w.heap.size w w5 := hb7.trans (hb8.mono hb7.size)
    have h25 := keep_below hb8 (blk_lt h24) h24
    rw [hx]
    obtain ⟨⟨o0, o1, o2, o3⟩, f0, f1, f2, f3⟩ := cells4 h25
    obtain ⟨hp1, hp2⟩ := fin _ x hb9 h25
    dsimp only [effC]
    gi_wp2
    refine bodyPost_ret (results_ct rfl _ _ (w.heap.size + 1) 29 (effC x) (0, 0) _ rfl hp1 Try.underlying29 rfl (by kernel_rfl)) rfl ?_
    exact ⟨rfl, hp2⟩
  ·rw [if_neg hg] at h; cases h
 ·rw [if_neg he] at h
  simp only [effT, Option.some.injEq, Prod.mk.injEq] at h
  obtain ⟨rfl, rfl, rfl, rfl, rfl⟩ := h
  obtain ⟨⟨o0, o1, o2, o3⟩, f0, f1, f2, f3⟩ := cells4 h2'
  obtain ⟨hp1, hp2⟩ := fin _ z29 hb3 h2'
  gi_wp2
  refine bodyPost_ret (results_ct rfl _ _ (w.heap.size + 1) 29 (effC z29) (0, 0) _ rfl hp1 Try.underlying29 rfl (by kernel_rfl)) rfl ?_
  exact ⟨rfl, hp2⟩
end Go.Proofs.Ytiklpefckadgdaa.P
noncomputable section
namespace Go.Proofs.Ytiklpefckadgdaa.P
open Go.RowKit Go.Proofs.YtiklpefckadgdaaW.PrintWords Go.Proofs.YtiklpefckadgdaaW.PrintLast Go.Proofs.YtiklpefckadgdaaW.PrintMore
attribute [local go_sem] max2_int min2_int max_two min_two max_three min_three max_four min_four   -- for this text's walks alone
set_option linter.unusedVariables false
set_option linter.unusedSimpArgs false
def bridge_validPlace.f (a0 : Int) : Option (Bool) := (bridge_between.f a0 (-4194304) 4194304).bind fun t101 => (some t101)
set_option maxHeartbeats 8000000 in
set_option maxRecDepth 100000 in
theorem bridge_validPlace.calls (a0 : Int) (r : Bool) (w : World) (h : bridge_validPlace.f a0 = some r) :
  Calls Try.prog 48 #[.int .i64 a0] w fun e w' => e = .returned (.bool r) ∧ Drawn0 w w' := by
 have H : ((bridge_between.f a0 (-4194304) 4194304).bind fun t101 => (some t101)) = some r := h
 clear h
 replace H := Option.bind_eq_some_iff.mp H
 obtain ⟨t101, A20, H⟩ := H
 replace H : (some t101) = some r := H
 have A2 := Aside0.mk A20
 clear A20
 obtain rfl := Option.some.inj H
 go_enter Try.func48, Try.ntmps48
 go_wp2_with (first | ((with_reducible refine gate_callee (f := 44) rfl ?_); refine goesL_ (some 4) rfl rfl Try.func44 (by kernel_rfl) rfl #[.int .i64 a0, .int .i64 (-4194304), .int .i64 4194304] rfl (by (try simp only [List.map_toArray, List.map_cons, List.map_nil]); first | done | rfl | (simp only [List.length_drop, List.length_take]; rfl)) ?_; (with_reducible refine (bridge_between.calls a0 (-4194304) 4194304 t101 _ A2.out).mono ?_); rintro e w' ⟨rfl, ⟨nd, rfl⟩⟩; refine ⟨_, rfl, ?_⟩))
 go_ret
 exact ⟨by first | rfl | (simp; done) | (simp [*]; done), by repeat (first | exact Drawn0.refl _ | apply Drawn0.step)⟩
end Go.Proofs.Ytiklpefckadgdaa.P
namespace Go.Proofs.Ytiklpefckadgdaa.P
open Go.RowKit Go.Shelf Go.Proofs.Ytiklpefckadgdaa.O Go.Proofs.YtiklpefckadgdaaW.PrintWords Go.Proofs.YtiklpefckadgdaaW.PrintLast Go.Proofs.YtiklpefckadgdaaW.PrintMore
theorem effect_in (g : Nat) (lb : Array Value) (line : Int → Int) (vk : Value) (A1 : Option Addr) (c1 : Nat) (l1 : List S35) (s : Int) (w : World)
  (hl : LineFn g lb line w) (hr1 : Kd.C k35 w A1 l1.length l1) (hlen : l1.length ≤ 1000) :
  CallsIn Fence.wide 0 Try.prog 49 #[.agg #[.func (.func g) #[] lb, vk], .slice A1 l1.length c1, .int .i64 s] w fun e W' => e = .returned (.int .i64 (effW line l1 s)) ∧ Below w.heap.size w W' := callsIn_w (effect_calls g lb line vk A1 c1 l1 s w hl hr1 hlen)
noncomputable def bridge_Moment.f (l0_0 : List Int) (l0_1 : List Int) (l0_2 : List Int) (a0_3 : Int) (a0_4 : Int) (a0_5 : Int) (l1 : List (S35)) (a2 : Int) (a3 : Int) (a4 : Int) : Option (Int × Int) :=
 (limO fun n => bridge_span.f n l0_0 l0_1 l0_2 a0_3 a0_4 a0_5 l1 a2).bind fun e => if e = 0 then (if 0 ≤ a2 ∧ a2 < (l0_0.length : Int) ∧ l0_0.length ≤ 1000000 ∧ l1.length ≤ 1000 then (bridge_between.f a3 0 (rd l0_0 a2)).bind fun ok => if ok = true then ((bridge_validPlace.f a4).bind fun ok2 => if ok2 = true then some (effW (momentW (startW l0_0 a2.toNat) (rd l0_0 a2) a3) l1 a4, 0) else some (0, 3)) else some (0, 3) else none) else some (0, e)
noncomputable def bridge_End.f (l0_0 : List Int) (l0_1 : List Int) (l0_2 : List Int) (a0_3 : Int) (a0_4 : Int) (a0_5 : Int) (l1 : List (S35)) (a2 : Int) (a3 : Bool) (a4 : Int) : Option (Int × Int) :=
 (limO fun n => bridge_span.f n l0_0 l0_1 l0_2 a0_3 a0_4 a0_5 l1 a2).bind fun e => if e = 0 then (if 0 ≤ a2 ∧ a2 < (l0_0.length : Int) ∧ l0_0.length ≤ 1000000 ∧ l1.length ≤ 1000 then (bridge_validPlace.f a4).bind fun ok2 => if ok2 = true then some (effW (endW (startW l0_0 a2.toNat) (rd l0_0 a2) a3) l1 a4, 0) else some (0, 3) else none) else some (0, e)
set_option maxRecDepth 100000 in
set_option maxHeartbeats 4000000 in
theorem bridge_Moment.calls (A0_0 : Option Addr) (c0_0 : Nat) (l0_0 : List Int) (A0_1 : Option Addr) (c0_1 : Nat) (l0_1 : List Int) (A0_2 : Option Addr) (c0_2 : Nat) (l0_2 : List Int) (a0_3 : Int) (a0_4 : Int) (a0_5 : Int) (A1 : Option Addr) (c1 : Nat) (l1 : List (S35)) (a2 : Int) (a3 : Int) (a4 : Int) (r1 : Int) (r2 : Int) (w : World) (hr0_0 : Kd.C (Kd.int .i64) w A0_0 l0_0.length l0_0) (hc0_0 : l0_0.length ≤ c0_0) (hr0_1 : Kd.C (Kd.int .i64) w A0_1 l0_1.length l0_1) (hc0_1 : l0_1.length ≤ c0_1) (hr0_2 : Kd.C (Kd.int .i64) w A0_2 l0_2.length l0_2) (hc0_2 : l0_2.length ≤ c0_2) (hr1 : Kd.C k35 w A1 l1.length l1) (hc1 : l1.length ≤ c1) (h : bridge_Moment.f l0_0 l0_1 l0_2 a0_3 a0_4 a0_5 l1 a2 a3 a4 = some (r1, r2)) :
  Calls Try.prog 15 #[.agg #[.slice A0_0 l0_0.length c0_0, .slice A0_1 l0_1.length c0_1, .slice A0_2 l0_2.length c0_2, .int .i64 a0_3, .int .i64 a0_4, .int .i64 a0_5], .slice A1 l1.length c1, .int .i64 a2, .int .i64 a3, .int .i64 a4] w fun e w' => e = .returned (.tuple #[.int .i64 r1, .int .i64 r2]) ∧ Below w.heap.size w w' := by
 unfold bridge_Moment.f at h
 have hu24 := Try.underlying24
 obtain ⟨e0, he0, h⟩ := Option.bind_eq_some_iff.1 h
 obtain ⟨n, hn⟩ := limO_some he0
 obtain ⟨w1, hw1⟩ : ∃ w1, w.alloc (.cells #[.slice A0_0 l0_0.length c0_0, .slice A0_1 l0_1.length c0_1, .slice A0_2 l0_2.length c0_2, .int .i64 a0_3, .int .i64 a0_4, .int .i64 a0_5] 24 (0, 0)) = w1 := ⟨_, rfl⟩
 have hb1 : Below w.heap.size w w1 := by rw [← hw1]; exact (Below.refl _ _).alloc (Nat.le_refl _) _
 have h1 : w1.heap[w.heap.size]? = some (.cells #[.slice A0_0 l0_0.length c0_0, .slice A0_1 l0_1.length c0_1, .slice A0_2 l0_2.length c0_2, .int .i64 a0_3, .int .i64 a0_4, .int .i64 a0_5] 24 (0, 0)) := by rw [← hw1]; exact blk_new _ _
 obtain ⟨b0, b1, b2, b3, b4, b5⟩ := cells6 h1
 refine (callsIn_wide (n := 0)).1 (callsIn_of_wp Try.func15 rfl trivial ?_ rfl)
 simp only [Try.ntmps15, List.size_toArray, List.length_cons, List.length_nil, Nat.reduceAdd, Nat.reduceSub, Array.replicate_succ, Array.replicate_zero, List.push_toArray, List.append_toArray, List.nil_append, List.cons_append]
 gi_wp2
 refine ⟨trivial, rfl, (callsIn_w (bridge_span.calls n A0_0 c0_0 l0_0 A0_1 c0_1 l0_1 A0_2 c0_2 l0_2 a0_3 a0_4 a0_5 A1 c1 l1 a2 e0 w1 (Kd.C_below hr0_0 hb1) hc0_0 (Kd.C_below hr0_1 hb1) hc0_1 (Kd.C_below hr0_2 hb1) hc0_2 (Kd.C_below hr1 hb1) hc1 hn)).mono ?_⟩
 clear b0 b1 b2 b3 b4 b5
 rintro e w2 ⟨rfl, hb2⟩
 have h1' := keep_below hb2 (blk_lt h1) h1
 have hb3 : Below w.heap.size w w2 := hb1.trans (hb2.mono hb1.size)
 by_cases he : e0 = 0
 ·rw [if_pos he] at h
  subst he
  by_cases hg : 0 ≤ a2 ∧ a2 < (l0_0.length : Int) ∧ l0_0.length ≤ 1000000 ∧ l1.length ≤ 1000
  ·rw [if_pos hg] at h
   obtain ⟨k, rfl⟩ : ∃ k : Nat, a2 = (k : Int) := ⟨a2.toNat, by omega⟩
   have hk : k < l0_0.length := by omega
   obtain ⟨ad, rfl, hx0⟩ := Kd.at_int hr0_0 (k : Int) (by omega) (by omega)
   rw [rd_get l0_0 k hk, Int.toNat_natCast] at hx0
   simp only [rd_get l0_0 k hk, Int.toNat_natCast] at h
   obtain ⟨ok, hok, h⟩ := Option.bind_eq_some_iff.1 h
   obtain ⟨b0, b1, b2, b3, b4, b5⟩ := cells6 h1'
   have hx2 := (hb3.cell (World.block_lt_of_cell? w _ hx0)).trans hx0
   gi_wp2
   refine ⟨trivial, rfl, (callsIn_w (bridge_between.calls a3 0 l0_0[k] ok w2 hok)).mono ?_⟩
   clear b0 b1 b2 b3 b4 b5 hx2
   rintro e w3 ⟨rfl, hd3⟩
   have hb4 := hd3.below
   have hb5 : Below w.heap.size w w3 := hb3.trans (hb4.mono hb3.size)
   have h1'' := keep_below hb4 (blk_lt h1') h1'
   clear hd3
   cases ok with
   | false =>
    rw [if_neg (by decide)] at h
    simp only [Option.some.injEq, Prod.mk.injEq] at h
    obtain ⟨rfl, rfl⟩ := h
    gi_wp2
    refine ⟨trivial, ?_⟩
    gi_wp2
    refine bodyPost_ret (results_tmp2 rfl _ _ _) rfl ?_
    exact ⟨rfl, hb5⟩
   | true =>
    rw [if_pos rfl] at h
    obtain ⟨ok2, hok2, h⟩ := Option.bind_eq_some_iff.1 h
    gi_wp2
    refine ⟨trivial, rfl, (callsIn_w (bridge_validPlace.calls a4 ok2 w3 hok2)).mono ?_⟩
    rintro e w4 ⟨rfl, hd4⟩
    have hb6 := hd4.below
    have hb7 : Below w.heap.size w w4 := hb5.trans (hb6.mono hb5.size)
    have h14 := keep_below hb6 (blk_lt h1'') h1''
    clear hd4
    cases ok2 with
    | false =>
     rw [if_neg (by decide)] at h
     simp only [Option.some.injEq, Prod.mk.injEq] at h
     obtain ⟨rfl, rfl⟩ := h
     gi_wp2
     refine bodyPost_ret (results_tmp2 rfl _ _ _) rfl ?_
     exact ⟨rfl, hb7⟩
    | true =>
     rw [if_pos rfl] at h
     simp only [Option.some.injEq, Prod.mk.injEq] at h
     obtain ⟨rfl, rfl⟩ := h
     obtain ⟨b0, b1, b2, b3, b4, b5⟩ := cells6 h14
     gi_wp2
     refine ⟨trivial, rfl, (callsIn_w (moment_calls (some ad) A0_1 A0_2 c0_0 c0_1 c0_2 l0_0 l0_1 l0_2 a0_3 a0_4 a0_5 k a3 w4 hk hg.2.2.1 (Kd.C_below hr0_0 hb7) hc0_0 (Kd.C_below hr0_1 hb7) hc0_1 (Kd.C_below hr0_2 hb7) hc0_2)).mono ?_⟩
     clear b0 b1 b2 b3 b4 b5
     rintro e w5 ⟨lb, A, c, rfl, hl5, hk5, hb8⟩
     have hb9 : Below w.heap.size w w5 := hb7.trans (hb8.mono hb7.size)
     gi_wp2
     refine ⟨trivial, rfl, (effect_in 72 lb _ _ A1 c1 l1 a4 w5 hl5 (Kd.C_below hr1 hb9) hg.2.2.2).mono ?_⟩
     rintro e w6 ⟨rfl, hb10⟩
     gi_wp2
     refine bodyPost_ret (results_tmp2 rfl _ _ _) rfl ?_
     exact ⟨rfl, hb9.trans (hb10.mono hb9.size)⟩
  ·rw [if_neg hg] at h; cases h
 ·rw [if_neg he] at h
  simp only [Option.some.injEq, Prod.mk.injEq] at h
  obtain ⟨rfl, rfl⟩ := h
  have x1 : (e0 == 0) = false := by simpa using he
  gi_wp2
  refine bodyPost_ret (results_tmp2 rfl _ _ _) rfl ?_
  exact ⟨rfl, hb3⟩
set_option maxRecDepth 100000 in
set_option maxHeartbeats 4000000 in
theorem bridge_End.calls (A0_0 : Option Addr) (c0_0 : Nat) (l0_0 : List Int) (A0_1 : Option Addr) (c0_1 : Nat) (l0_1 : List Int) (A0_2 : Option Addr) (c0_2 : Nat) (l0_2 : List Int) (a0_3 : Int) (a0_4 : Int) (a0_5 : Int) (A1 : Option Addr) (c1 : Nat) (l1 : List (S35)) (a2 : Int) (a3 : Bool) (a4 : Int) (r1 : Int) (r2 : Int) (w : World) (hr0_0 : Kd.C (Kd.int .i64) w A0_0 l0_0.length l0_0) (hc0_0 : l0_0.length ≤ c0_0) (hr0_1 : Kd.C (Kd.int .i64) w A0_1 l0_1.length l0_1) (hc0_1 : l0_1.length ≤ c0_1) (hr0_2 : Kd.C (Kd.int .i64) w A0_2 l0_2.length l0_2) (hc0_2 : l0_2.length ≤ c0_2) (hr1 : Kd.C k35 w A1 l1.length l1) (hc1 : l1.length ≤ c1) (h : bridge_End.f l0_0 l0_1 l0_2 a0_3 a0_4 a0_5 l1 a2 a3 a4 = some (r1, r2)) :
  Calls Try.prog 16 #[.agg #[.slice A0_0 l0_0.length c0_0, .slice A0_1 l0_1.length c0_1, .slice A0_2 l0_2.length c0_2, .int .i64 a0_3, .int .i64 a0_4, .int .i64 a0_5], .slice A1 l1.length c1, .int .i64 a2, .bool a3, .int .i64 a4] w fun e w' => e = .returned (.tuple #[.int .i64 r1, .int .i64 r2]) ∧ Below w.heap.size w w' := by
 unfold bridge_End.f at h
 have hu24 := Try.underlying24
 obtain ⟨e0, he0, h⟩ := Option.bind_eq_some_iff.1 h
 obtain ⟨n, hn⟩ := limO_some he0
 obtain ⟨w1, hw1⟩ : ∃ w1, w.alloc (.cells #[.slice A0_0 l0_0.length c0_0, .slice A0_1 l0_1.length c0_1, .slice A0_2 l0_2.length c0_2, .int .i64 a0_3, .int .i64 a0_4, .int .i64 a0_5] 24 (0, 0)) = w1 := ⟨_, rfl⟩
 have hb1 : Below w.heap.size w w1 := by rw [← hw1]; exact (Below.refl _ _).alloc (Nat.le_refl _) _
 have h1 : w1.heap[w.heap.size]? = some (.cells #[.slice A0_0 l0_0.length c0_0, .slice A0_1 l0_1.length c0_1, .slice A0_2 l0_2.length c0_2, .int .i64 a0_3, .int .i64 a0_4, .int .i64 a0_5] 24 (0, 0)) := by rw [← hw1]; exact blk_new _ _
 obtain ⟨b0, b1, b2, b3, b4, b5⟩ := cells6 h1
 refine (callsIn_wide (n := 0)).1 (callsIn_of_wp Try.func16 rfl trivial ?_ rfl)
 simp only [Try.ntmps16, List.size_toArray, List.length_cons, List.length_nil, Nat.reduceAdd, Nat.reduceSub, Array.replicate_succ, Array.replicate_zero, List.push_toArray, List.append_toArray, List.nil_append, List.cons_append]
 gi_wp2
 refine ⟨trivial, rfl, (callsIn_w (bridge_span.calls n A0_0 c0_0 l0_0 A0_1 c0_1 l0_1 A0_2 c0_2 l0_2 a0_3 a0_4 a0_5 A1 c1 l1 a2 e0 w1 (Kd.C_below hr0_0 hb1) hc0_0 (Kd.C_below hr0_1 hb1) hc0_1 (Kd.C_below hr0_2 hb1) hc0_2 (Kd.C_below hr1 hb1) hc1 hn)).mono ?_⟩
 clear b0 b1 b2 b3 b4 b5
 rintro e w2 ⟨rfl, hb2⟩
 have h1' := keep_below hb2 (blk_lt h1) h1
 have hb3 : Below w.heap.size w w2 := hb1.trans (hb2.mono hb1.size)
 by_cases he : e0 = 0
 ·rw [if_pos he] at h
  subst he
  by_cases hg : 0 ≤ a2 ∧ a2 < (l0_0.length : Int) ∧ l0_0.length ≤ 1000000 ∧ l1.length ≤ 1000
  ·rw [if_pos hg] at h
   obtain ⟨k, rfl⟩ : ∃ k : Nat, a2 = (k : Int) := ⟨a2.toNat, by omega⟩
   have hk : k < l0_0.length := by omega
   obtain ⟨ad, rfl, hx0⟩ := Kd.at_int hr0_0 (k : Int) (by omega) (by omega)
   rw [rd_get l0_0 k hk, Int.toNat_natCast] at hx0
   simp only [rd_get l0_0 k hk, Int.toNat_natCast] at h
   obtain ⟨ok2, hok2, h⟩ := Option.bind_eq_some_iff.1 h
   gi_wp2
   refine ⟨trivial, rfl, (callsIn_w (bridge_validPlace.calls a4 ok2 w2 hok2)).mono ?_⟩
   rintro e w4 ⟨rfl, hd4⟩
   have hb6 := hd4.below
   have hb7 : Below w.heap.size w w4 := hb3.trans (hb6.mono hb3.size)
   have h14 := keep_below hb6 (blk_lt h1') h1'
   clear hd4
   cases ok2 with
   | false =>
    rw [if_neg (by decide)] at h
    simp only [Option.some.injEq, Prod.mk.injEq] at h
    obtain ⟨rfl, rfl⟩ := h
    gi_wp2
    refine bodyPost_ret (results_tmp2 rfl _ _ _) rfl ?_
    exact ⟨rfl, hb7⟩
   | true =>
    rw [if_pos rfl] at h
    simp only [Option.some.injEq, Prod.mk.injEq] at h
    obtain ⟨rfl, rfl⟩ := h
    obtain ⟨b0, b1, b2, b3, b4, b5⟩ := cells6 h14
    gi_wp2
    refine ⟨trivial, rfl, (callsIn_w (end_calls (some ad) A0_1 A0_2 c0_0 c0_1 c0_2 l0_0 l0_1 l0_2 a0_3 a0_4 a0_5 k a3 w4 hk hg.2.2.1 (Kd.C_below hr0_0 hb7) hc0_0 (Kd.C_below hr0_1 hb7) hc0_1 (Kd.C_below hr0_2 hb7) hc0_2)).mono ?_⟩
    clear b0 b1 b2 b3 b4 b5
    rintro e w5 ⟨lb, A, c, rfl, hl5, hk5, hb8⟩
    have hb9 : Below w.heap.size w w5 := hb7.trans (hb8.mono hb7.size)
    gi_wp2
    refine ⟨trivial, rfl, (effect_in 78 lb _ _ A1 c1 l1 a4 w5 hl5 (Kd.C_below hr1 hb9) hg.2.2.2).mono ?_⟩
    rintro e w6 ⟨rfl, hb10⟩
    gi_wp2
    refine bodyPost_ret (results_tmp2 rfl _ _ _) rfl ?_
    exact ⟨rfl, hb9.trans (hb10.mono hb9.size)⟩
  ·rw [if_neg hg] at h; cases h
 ·rw [if_neg he] at h
  simp only [Option.some.injEq, Prod.mk.injEq] at h
  obtain ⟨rfl, rfl⟩ := h
  have x1 : (e0 == 0) = false := by simpa using he
  gi_wp2
  refine bodyPost_ret (results_tmp2 rfl _ _ _) rfl ?_
  exact ⟨rfl, hb3⟩
theorem none_C {W : World} {g : Nat} (h : W.heap[g]? = some (.cells #[.int .i64 0, .int .i64 0] 35 (0, 0))) : Kd.C k35 W (some ⟨g, 0, none⟩) [(⟨0, 0⟩ : S35)].length [⟨0, 0⟩] := by
 refine ⟨rfl, by decide, fun _ => ⟨_, rfl, fun j p hj => ?_⟩⟩
 cases j with
 | succ j => simp at hj
 | zero =>
  simp only [List.getElem?_cons_zero, Option.some.injEq] at hj
  subst hj
  refine ⟨[.int .i64 0, .int .i64 0], rfl, k35_mk W ⟨0, 0⟩, fun i u hu => ?_⟩
  cases i with
  | zero => simp at hu; subst hu; exact (blk_cell h 0).trans rfl
  | succ i =>
   cases i with
   | zero => simp at hu; subst hu; exact (blk_cell h 1).trans rfl
   | succ i => simp at hu
noncomputable def bridge_Line.f (l0_0 : List Int) (l0_1 : List Int) (l0_2 : List Int) (a0_3 : Int) (a0_4 : Int) (a0_5 : Int) (a1 : Int) (a2 : Int) (a3 : Int) : Option (Int × Int) :=
 (limO fun n => bridge_span.f n l0_0 l0_1 l0_2 a0_3 a0_4 a0_5 [⟨0, 0⟩] a1).bind fun e => if e = 0 then (if 0 ≤ a1 ∧ a1 < (l0_0.length : Int) ∧ l0_0.length ≤ 1000000 then (bridge_between.f a2 0 (rd l0_0 a1)).bind fun ok => if ok = true then ((bridge_validPlace.f a3).bind fun ok2 => if ok2 = true then some (momentW (startW l0_0 a1.toNat) (rd l0_0 a1) a2 (wrap64 (startW l0_0 a1.toNat + a3)), 0) else some (0, 3)) else some (0, 3) else none) else some (0, e)
def LineInv (tm : Array Bool → Array Value → Option Addr → Nat → Array Value) (w2 : World) (line : Int → Int) (listed : Array Bool) (a : Act) (V : World) : Prop :=
 ∃ lb A c, a = { tmps := tm listed lb A c, defers := [] } ∧ Below w2.heap.size w2 V ∧ (listed.getD 3 false = true → LineFn 72 lb line V)
set_option maxRecDepth 100000 in
set_option maxHeartbeats 4000000 in
theorem bridge_Line.calls (A0_0 : Option Addr) (c0_0 : Nat) (l0_0 : List Int) (A0_1 : Option Addr) (c0_1 : Nat) (l0_1 : List Int) (A0_2 : Option Addr) (c0_2 : Nat) (l0_2 : List Int) (a0_3 : Int) (a0_4 : Int) (a0_5 : Int) (a1 : Int) (a2 : Int) (a3 : Int) (r1 : Int) (r2 : Int) (w : World) (hr0_0 : Kd.C (Kd.int .i64) w A0_0 l0_0.length l0_0) (hc0_0 : l0_0.length ≤ c0_0) (hr0_1 : Kd.C (Kd.int .i64) w A0_1 l0_1.length l0_1) (hc0_1 : l0_1.length ≤ c0_1) (hr0_2 : Kd.C (Kd.int .i64) w A0_2 l0_2.length l0_2) (hc0_2 : l0_2.length ≤ c0_2) (h : bridge_Line.f l0_0 l0_1 l0_2 a0_3 a0_4 a0_5 a1 a2 a3 = some (r1, r2)) :
  Calls Try.prog 17 #[.agg #[.slice A0_0 l0_0.length c0_0, .slice A0_1 l0_1.length c0_1, .slice A0_2 l0_2.length c0_2, .int .i64 a0_3, .int .i64 a0_4, .int .i64 a0_5], .int .i64 a1, .int .i64 a2, .int .i64 a3] w fun e w' => e = .returned (.tuple #[.int .i64 r1, .int .i64 r2]) ∧ Below w.heap.size w w' := by
 unfold bridge_Line.f at h
 have hu24 := Try.underlying24
 have hu35 := Try.underlying35
 have hu69 := Try.underlying69
 obtain ⟨e0, he0, h⟩ := Option.bind_eq_some_iff.1 h
 obtain ⟨n, hn⟩ := limO_some he0
 obtain ⟨w1, hw1⟩ : ∃ w1, w.alloc (.cells #[.slice A0_0 l0_0.length c0_0, .slice A0_1 l0_1.length c0_1, .slice A0_2 l0_2.length c0_2, .int .i64 a0_3, .int .i64 a0_4, .int .i64 a0_5] 24 (0, 0)) = w1 := ⟨_, rfl⟩
 have hb1 : Below w.heap.size w w1 := by rw [← hw1]; exact (Below.refl _ _).alloc (Nat.le_refl _) _
 have h1 : w1.heap[w.heap.size]? = some (.cells #[.slice A0_0 l0_0.length c0_0, .slice A0_1 l0_1.length c0_1, .slice A0_2 l0_2.length c0_2, .int .i64 a0_3, .int .i64 a0_4, .int .i64 a0_5] 24 (0, 0)) := by rw [← hw1]; exact blk_new _ _
 obtain ⟨b0, b1, b2, b3, b4, b5⟩ := cells6 h1
 obtain ⟨w1', hw1'⟩ : ∃ w1', w1.alloc (.cells #[.int .i64 0, .int .i64 0] 35 (0, 0)) = w1' := ⟨_, rfl⟩
 have hb1' : Below w1.heap.size w1 w1' := by rw [← hw1']; exact (Below.refl _ _).alloc (Nat.le_refl _) _
 have hbb : Below w.heap.size w w1' := hb1.trans (hb1'.mono hb1.size)
 have ht : w1'.heap[w1.heap.size]? = some (.cells #[.int .i64 0, .int .i64 0] 35 (0, 0)) := by rw [← hw1']; exact blk_new _ _
 have hz1 : w1.heap.size = w.heap.size + 1 := by rw [← hw1]; simp
 rw [hz1] at ht
 refine (callsIn_wide (n := 0)).1 (callsIn_of_wp Try.func17 rfl trivial ?_ rfl)
 simp only [Try.ntmps17, List.size_toArray, List.length_cons, List.length_nil, Nat.reduceAdd, Nat.reduceSub, Array.replicate_succ, Array.replicate_zero, List.push_toArray, List.append_toArray, List.nil_append, List.cons_append]
 gi_wp2
 refine ⟨trivial, rfl, (callsIn_w (bridge_span.calls n A0_0 c0_0 l0_0 A0_1 c0_1 l0_1 A0_2 c0_2 l0_2 a0_3 a0_4 a0_5 (some ⟨w.heap.size + 1, 0, none⟩) 1 [⟨0, 0⟩] a1 e0 w1' (Kd.C_below hr0_0 hbb) hc0_0 (Kd.C_below hr0_1 hbb) hc0_1 (Kd.C_below hr0_2 hbb) hc0_2 (none_C ht) (by simp) hn)).mono ?_⟩
 clear b0 b1 b2 b3 b4 b5
 rintro e w2 ⟨rfl, hb2⟩
 have h1' := keep_below hb2 (blk_lt (keep_below hb1' (blk_lt h1) h1)) (keep_below hb1' (blk_lt h1) h1)
 have hb3 : Below w.heap.size w w2 := hbb.trans (hb2.mono hbb.size)
 by_cases he : e0 = 0
 ·rw [if_pos he] at h
  subst he
  by_cases hg : 0 ≤ a1 ∧ a1 < (l0_0.length : Int) ∧ l0_0.length ≤ 1000000
  ·rw [if_pos hg] at h
   obtain ⟨k, rfl⟩ : ∃ k : Nat, a1 = (k : Int) := ⟨a1.toNat, by omega⟩
   have hk : k < l0_0.length := by omega
   obtain ⟨ad, rfl, hx0⟩ := Kd.at_int hr0_0 (k : Int) (by omega) (by omega)
   rw [rd_get l0_0 k hk, Int.toNat_natCast] at hx0
   simp only [rd_get l0_0 k hk, Int.toNat_natCast] at h
   obtain ⟨ok, hok, h⟩ := Option.bind_eq_some_iff.1 h
   obtain ⟨b0, b1, b2, b3, b4, b5⟩ := cells6 h1'
   have hx2 := (hb3.cell (World.block_lt_of_cell? w _ hx0)).trans hx0
   gi_wp2
   refine ⟨trivial, rfl, (callsIn_w (bridge_between.calls a2 0 l0_0[k] ok w2 hok)).mono ?_⟩
   clear b0 b1 b2 b3 b4 b5 hx2
   rintro e w3 ⟨rfl, hd3⟩
   have hb4 := hd3.below
   have hb5 : Below w.heap.size w w3 := hb3.trans (hb4.mono hb3.size)
   have h1'' := keep_below hb4 (blk_lt h1') h1'
   clear hd3
   cases ok with
   | false =>
    rw [if_neg (by decide)] at h
    simp only [Option.some.injEq, Prod.mk.injEq] at h
    obtain ⟨rfl, rfl⟩ := h
    gi_wp2
    refine ⟨trivial, ?_⟩
    gi_wp2
    refine bodyPost_ret (results_tmp2 rfl _ _ _) rfl ?_
    exact ⟨rfl, hb5⟩
   | true =>
    rw [if_pos rfl] at h
    obtain ⟨ok2, hok2, h⟩ := Option.bind_eq_some_iff.1 h
    gi_wp2
    refine ⟨trivial, rfl, (callsIn_w (bridge_validPlace.calls a3 ok2 w3 hok2)).mono ?_⟩
    rintro e w4 ⟨rfl, hd4⟩
    have hb6 := hd4.below
    have hb7 : Below w.heap.size w w4 := hb5.trans (hb6.mono hb5.size)
    have h14 := keep_below hb6 (blk_lt h1'') h1''
    clear hd4
    cases ok2 with
    | false =>
     rw [if_neg (by decide)] at h
     simp only [Option.some.injEq, Prod.mk.injEq] at h
     obtain ⟨rfl, rfl⟩ := h
     gi_wp2
     refine bodyPost_ret (results_tmp2 rfl _ _ _) rfl ?_
     exact ⟨rfl, hb7⟩
    | true =>
     rw [if_pos rfl] at h
     simp only [Option.some.injEq, Prod.mk.injEq] at h
     obtain ⟨rfl, rfl⟩ := h
     obtain ⟨sn, hsn⟩ := start_ev l0_0 l0_1 l0_2 a0_3 a0_4 a0_5 k (by omega) hg.2.2
     gi_wp2
     refine wpIn_region_any (by kernel_rfl) ?_
     change wpAnyIn _ _ _ _ _ _ _ _ _ (World.drew w4)
     refine wpAnyIn_inv (LineInv (fun listed lb A c => #[.agg #[.slice (some ad) l0_0.length c0_0, .slice A0_1 l0_1.length c0_1, .slice A0_2 l0_2.length c0_2, .int .i64 a0_3, .int .i64 a0_4, .int .i64 a0_5], .int .i64 (k : Int), .int .i64 a2, .int .i64 a3, .pointer (some ⟨w.heap.size, 0, none⟩), undef, undef, undef, selOr listed 11 (.int .i64 (momentW (startW l0_0 k) l0_0[k] a2 (wrap64 (startW l0_0 k + a3)))) (.int .i64 0), .int .i64 0, .int .i64 0, .agg #[.slice (some ad) l0_0.length c0_0, .slice A0_1 l0_1.length c0_1, .slice A0_2 l0_2.length c0_2, .int .i64 a0_3, .int .i64 a0_4, .int .i64 a0_5], .agg #[.int .i64 0, .int .i64 0], .slice (some ⟨w.heap.size + 1, 0, none⟩) 1 1, .int .i64 (k : Int), .int .i64 0, .int .i64 0, .bool false, undef, .int .i64 a2, .pointer (some ⟨w.heap.size, 0, none⟩), .slice (some ad) l0_0.length c0_0, .int .i64 (k : Int), .pointer (some (ad.add k)), .int .i64 l0_0[k], .bool true, .bool false, .bool false, .int .i64 a3, .bool true, .bool false, .bool false, sel listed 0 (.agg #[.slice (some ad) l0_0.length c0_0, .slice A0_1 l0_1.length c0_1, .slice A0_2 l0_2.length c0_2, .int .i64 a0_3, .int .i64 a0_4, .int .i64 a0_5]), sel listed 1 (.int .i64 (k : Int)), sel listed 2 (.int .i64 a2), sel listed 3 (.agg #[.func (.func 72) #[] lb, .slice A 3 c]), sel listed 4 (.func (.func 72) #[] lb), sel listed 5 (.agg #[.slice (some ad) l0_0.length c0_0, .slice A0_1 l0_1.length c0_1, .slice A0_2 l0_2.length c0_2, .int .i64 a0_3, .int .i64 a0_4, .int .i64 a0_5]), sel listed 6 (.int .i64 (k : Int)), sel listed 7 (.int .i64 (startW l0_0 k)), sel listed 8 (.int .i64 a3), sel listed 9 (.int .i64 (wrap64 (startW l0_0 k + a3))), sel listed 10 (.int .i64 (momentW (startW l0_0 k) l0_0[k] a2 (wrap64 (startW l0_0 k + a3))))]) w4 (momentW (startW l0_0 k) l0_0[k] a2)) 13 ?step ?stop ?fin 13 _ _ _ (by simp) (closed_none _) ⟨#[], none, 0, by simp [sel, selOr], (Below.refl _ _).drew, by simp⟩ (by simp)
     case stop =>
      intro listed a V fuel hs hc hi hr
      have := (ready_lt hr).1
      simp at hs
      omega
     case step =>
      rintro listed a V i hs hc ⟨lb, A, c, rfl, k1, k2⟩ hr hne K hK
      obtain ⟨hlt, hl0⟩ := ready_lt hr
      have hbV := keep_below k1 (blk_lt h14) h14
      have hVs := k1.size
      have hwV : Below w.heap.size w V := hb7.trans (k1.mono hb7.size)
      have hi : i = 0 ∨ i = 1 ∨ i = 2 ∨ i = 3 ∨ i = 4 ∨ i = 5 ∨ i = 6 ∨ i = 7 ∨ i = 8 ∨ i = 9 ∨ i = 10 ∨ i = 11 ∨ i = 12 := by simp at hs; omega
      rcases hi with rfl | rfl | rfl | rfl | rfl | rfl | rfl | rfl | rfl | rfl | rfl | rfl | rfl
      ·refine wpOpIn_of rfl rfl ?_
       obtain ⟨b0, b1, b2, b3, b4, b5⟩ := cells6 hbV
       clear hr
       gi_wp2
       refine ⟨lb, A, c, ?_, k1, by rw [getD_other hlt (by decide)]; exact k2⟩
       simp (disch := decide) only [sel_same hlt, sel_other hlt, selOr_same hlt, selOr_other hlt]
      ·refine wpOpIn_of rfl rfl ?_
       clear hr
       gi_wp2
       refine ⟨lb, A, c, ?_, k1, by rw [getD_other hlt (by decide)]; exact k2⟩
       simp (disch := decide) only [sel_same hlt, sel_other hlt, selOr_same hlt, selOr_other hlt]
      ·refine wpOpIn_of rfl rfl ?_
       clear hr
       gi_wp2
       refine ⟨lb, A, c, ?_, k1, by rw [getD_other hlt (by decide)]; exact k2⟩
       simp (disch := decide) only [sel_same hlt, sel_other hlt, selOr_same hlt, selOr_other hlt]
      ·refine wpOpIn_of rfl rfl ?_
       have d0 : listed.getD 0 false = true := ready_after hr rfl { on := 0, ground := .data } (by simp) rfl
       have d1 : listed.getD 1 false = true := ready_after hr rfl { on := 1, ground := .data } (by simp) rfl
       have d2 : listed.getD 2 false = true := ready_after hr rfl { on := 2, ground := .data } (by simp) rfl
       simp only [sel_on d0, sel_on d1, sel_on d2]
       clear hr
       gi_wp2
       refine ⟨trivial, rfl, (callsIn_w (moment_calls (some ad) A0_1 A0_2 c0_0 c0_1 c0_2 l0_0 l0_1 l0_2 a0_3 a0_4 a0_5 k a2 V hk hg.2.2 (Kd.C_below hr0_0 hwV) hc0_0 (Kd.C_below hr0_1 hwV) hc0_1 (Kd.C_below hr0_2 hwV) hc0_2)).mono ?_⟩
       rintro e V5 ⟨lb5, A5, c5, rfl, hl5, hk5, hb5'⟩
       gi_wp2
       have d4 : listed.getD 4 false = false := by
        cases q : listed.getD 4 false
        ·rfl
        ·have := hc 4 _ rfl q { on := 3, ground := .data } (by simp) rfl
         rw [hl0] at this; cases this
       have hs4 : ∀ v, sel listed 4 v = undef := fun v => by unfold sel; rw [d4, if_neg (by decide)]
       refine ⟨lb5, A5, c5, ?_, k1.trans (hb5'.mono hVs), fun _ => hl5⟩
       simp (disch := decide) only [sel_same hlt, sel_other hlt, selOr_same hlt, selOr_other hlt, sel_on d0, sel_on d1, sel_on d2, hs4]
      ·refine wpOpIn_of rfl rfl ?_
       have d3 : listed.getD 3 false = true := ready_after hr rfl { on := 3, ground := .data } (by simp) rfl
       simp only [sel_on d3]
       clear hr
       gi_wp2
       refine hK _ _ ⟨lb, A, c, ?_, k1, by rw [getD_other hlt (by decide)]; exact k2⟩
       simp (disch := decide) only [Act.put, List.setIfInBounds_toArray, List.set_cons_zero, List.set_cons_succ, sel_same hlt, sel_other hlt, selOr_same hlt, selOr_other hlt, sel_on d3]
       rfl
      ·refine wpOpIn_of rfl rfl ?_
       obtain ⟨b0, b1, b2, b3, b4, b5⟩ := cells6 hbV
       clear hr
       gi_wp2
       refine ⟨lb, A, c, ?_, k1, by rw [getD_other hlt (by decide)]; exact k2⟩
       simp (disch := decide) only [sel_same hlt, sel_other hlt, selOr_same hlt, selOr_other hlt]
      ·refine wpOpIn_of rfl rfl ?_
       clear hr
       gi_wp2
       refine ⟨lb, A, c, ?_, k1, by rw [getD_other hlt (by decide)]; exact k2⟩
       simp (disch := decide) only [sel_same hlt, sel_other hlt, selOr_same hlt, selOr_other hlt]
      ·refine wpOpIn_of rfl rfl ?_
       have d5 : listed.getD 5 false = true := ready_after hr rfl { on := 5, ground := .data } (by simp) rfl
       have d6 : listed.getD 6 false = true := ready_after hr rfl { on := 6, ground := .data } (by simp) rfl
       simp only [sel_on d5, sel_on d6]
       clear hr
       gi_wp2
       refine ⟨trivial, rfl, (callsIn_w (bridge_start.calls sn (some ad) c0_0 l0_0 A0_1 c0_1 l0_1 A0_2 c0_2 l0_2 a0_3 a0_4 a0_5 (k : Int) _ V (Kd.C_below hr0_0 hwV) hc0_0 (Kd.C_below hr0_1 hwV) hc0_1 (Kd.C_below hr0_2 hwV) hc0_2 hsn)).mono ?_⟩
       rintro e V5 ⟨rfl, hb5'⟩
       gi_wp2
       refine ⟨lb, A, c, ?_, k1.trans (hb5'.mono hVs), ?_⟩
       ·simp (disch := decide) only [sel_same hlt, sel_other hlt, selOr_same hlt, selOr_other hlt, sel_on d5, sel_on d6]
       ·rw [getD_other hlt (by decide)]; exact fun q => (k2 q).below hb5'
      ·refine wpOpIn_of rfl rfl ?_
       clear hr
       gi_wp2
       refine ⟨lb, A, c, ?_, k1, by rw [getD_other hlt (by decide)]; exact k2⟩
       simp (disch := decide) only [sel_same hlt, sel_other hlt, selOr_same hlt, selOr_other hlt]
      ·refine wpOpIn_of rfl rfl ?_
       have d7 : listed.getD 7 false = true := ready_after hr rfl { on := 7, ground := .data } (by simp) rfl
       have d8 : listed.getD 8 false = true := ready_after hr rfl { on := 8, ground := .data } (by simp) rfl
       simp only [sel_on d7, sel_on d8]
       clear hr
       gi_wp2
       refine ⟨lb, A, c, ?_, k1, by rw [getD_other hlt (by decide)]; exact k2⟩
       simp (disch := decide) only [sel_same hlt, sel_other hlt, selOr_same hlt, selOr_other hlt, sel_on d7, sel_on d8]
      ·refine wpOpIn_of rfl rfl ?_
       have d4 : listed.getD 4 false = true := ready_after hr rfl { on := 4, ground := .data } (by simp) rfl
       have d9 : listed.getD 9 false = true := ready_after hr rfl { on := 9, ground := .data } (by simp) rfl
       have d3 : listed.getD 3 false = true := hc 4 _ rfl d4 { on := 3, ground := .data } (by simp) rfl
       have hfn := k2 d3
       have he1 := hfn.1
       simp only [sel_on d4, sel_on d9]
       clear hr
       gi_wp2
       refine ⟨trivial, rfl, (callsIn_w (hfn.2 (wrap64 (startW l0_0 k + a3)) V (Below.refl _ _))).mono ?_⟩
       rintro e V5 ⟨rfl, hb5'⟩
       gi_wp2
       refine ⟨lb, A, c, ?_, k1.trans (hb5'.mono hVs), ?_⟩
       ·simp (disch := decide) only [sel_same hlt, sel_other hlt, selOr_same hlt, selOr_other hlt, sel_on d4, sel_on d9]
       ·rw [getD_other hlt (by decide)]; exact fun q => (k2 q).below hb5'
      ·refine wpOpIn_of rfl rfl ?_
       have d10 : listed.getD 10 false = true := ready_after hr rfl { on := 10, ground := .data } (by simp) rfl
       simp only [sel_on d10]
       clear hr
       gi_wp2
       refine ⟨lb, A, c, ?_, k1, by rw [getD_other hlt (by decide)]; exact k2⟩
       simp (disch := decide) only [sel_same hlt, sel_other hlt, selOr_same hlt, selOr_other hlt, sel_on d10]
      ·refine wpOpIn_of rfl rfl ?_
       clear hr
       gi_wp2
       refine ⟨lb, A, c, ?_, k1, by rw [getD_other hlt (by decide)]; exact k2⟩
       simp (disch := decide) only [sel_same hlt, sel_other hlt, selOr_same hlt, selOr_other hlt]
     case fin =>
      rintro listed a V hs ⟨lb, A, c, rfl, k1, k2⟩ hr
      have d11 : listed.getD 11 false = true := by
       cases q : listed.getD 11 false
       ·exact absurd hr (ready_ne hs (by kernel_rfl) 11 (by simp) q)
       ·rfl
      simp only [selOr_on d11]
      clear hr
      gi_wp2
      refine bodyPost_ret (results_tmp2 rfl _ _ _) rfl ?_
      exact ⟨rfl, hb7.trans (k1.mono hb7.size)⟩
  ·rw [if_neg hg] at h; cases h
 ·rw [if_neg he] at h
  simp only [Option.some.injEq, Prod.mk.injEq] at h
  obtain ⟨rfl, rfl⟩ := h
  have x1 : (e0 == 0) = false := by simpa using he
  gi_wp2
  refine bodyPost_ret (results_tmp2 rfl _ _ _) rfl ?_
  exact ⟨rfl, hb3⟩
end Go.Proofs.Ytiklpefckadgdaa.P
noncomputable section
namespace Go.Proofs.Ytiklpefckadgdaa.P
open Go.RowKit Go.Proofs.YtiklpefckadgdaaW.PrintWords Go.Proofs.YtiklpefckadgdaaW.PrintLast Go.Proofs.YtiklpefckadgdaaW.PrintMore
attribute [local go_sem] max2_int min2_int max_two min_two max_three min_three max_four min_four   -- for this text's walks alone
set_option linter.unusedVariables false
set_option linter.unusedSimpArgs false
def goosenecklaw06_great.f (l0_0 : List Int) (l0_1 : List Int) (l0_2 : List Int) (a0_3 : Int) (a0_4 : Int) (a0_5 : Int) (l1 : List (S35)) : Option (Bool) := if (l0_0.length : Int) > 10 then (some true) else (if (l0_1.length : Int) > 10 then (some true) else (if (l0_2.length : Int) > 10 then (some true) else (some (decide ((l1.length : Int) > 70)))))
set_option maxHeartbeats 8000000 in
set_option maxRecDepth 100000 in
theorem goosenecklaw06_great.calls (A0_0 : Option Addr) (c0_0 : Nat) (l0_0 : List Int) (A0_1 : Option Addr) (c0_1 : Nat) (l0_1 : List Int) (A0_2 : Option Addr) (c0_2 : Nat) (l0_2 : List Int) (a0_3 : Int) (a0_4 : Int) (a0_5 : Int) (A1 : Option Addr) (c1 : Nat) (l1 : List (S35)) (r : Bool) (w : World) (hr0_0 : Kd.C (Kd.int .i64) w A0_0 l0_0.length l0_0) (hc0_0 : l0_0.length ≤ c0_0) (hr0_1 : Kd.C (Kd.int .i64) w A0_1 l0_1.length l0_1) (hc0_1 : l0_1.length ≤ c0_1) (hr0_2 : Kd.C (Kd.int .i64) w A0_2 l0_2.length l0_2) (hc0_2 : l0_2.length ≤ c0_2) (hr1 : Kd.C k35 w A1 l1.length l1) (hc1 : l1.length ≤ c1) (h : goosenecklaw06_great.f l0_0 l0_1 l0_2 a0_3 a0_4 a0_5 l1 = some r) :
  Calls Try.prog 11 #[.agg #[.slice A0_0 l0_0.length c0_0, .slice A0_1 l0_1.length c0_1, .slice A0_2 l0_2.length c0_2, .int .i64 a0_3, .int .i64 a0_4, .int .i64 a0_5], .slice A1 l1.length c1] w fun e w' => e = .returned (.bool r) ∧ Below w.heap.size w w' := by
 have hu24 := Try.underlying24
 have HR0_0 := Aside0.mk hr0_0
 have HC0_0 := Aside0.mk hc0_0
 clear hr0_0 hc0_0
 have HR0_1 := Aside0.mk hr0_1
 have HC0_1 := Aside0.mk hc0_1
 clear hr0_1 hc0_1
 have HR0_2 := Aside0.mk hr0_2
 have HC0_2 := Aside0.mk hc0_2
 clear hr0_2 hc0_2
 have HR1 := Aside0.mk hr1
 have HC1 := Aside0.mk hc1
 clear hr1 hc1
 have HB := Aside0.mk (Below.refl w.heap.size w)
 have H : (if (l0_0.length : Int) > 10 then (some true) else (if (l0_1.length : Int) > 10 then (some true) else (if (l0_2.length : Int) > 10 then (some true) else (some (decide ((l1.length : Int) > 70)))))) = some r := h
 clear h
 by_cases c3 : (l0_0.length : Int) > 10
 ·rw [if_pos c3] at H
  have c3b0 : decide (10 < (l0_0.length : Int)) = true := decide_eq_true c3
  have c3b1 : decide (10 < l0_0.length) = true := decide_eq_true (by omega)
  clear c3
  obtain rfl := Option.some.inj H
  go_enter Try.func11, Try.ntmps11
  go_wp2_with (first | ((with_reducible refine gate_dst (N := 2) rfl ?_); (try (refine gate_guard (by rfl) ?_; dsimp only)); refine box_event ?hg (N := 2) ?hd (cs := #[.slice A0_0 l0_0.length c0_0, .slice A0_1 l0_1.length c0_1, .slice A0_2 l0_2.length c0_2, .int .i64 a0_3, .int .i64 a0_4, .int .i64 a0_5]) (t := 24) ?hr ?_; (case hd => rfl); (case hg => rfl); (case hr => first | (go_simp; done) | (go_simp; rfl)); intro gb101 hg w4 hbox hb; have n0_ := Aside0.mk (below_step (by repeat (first | (with_reducible first | exact HB.out | apply below_alloc | apply pw_below_drewN | apply below_drew1) | exact HB.out)) hb); have n1_ := Aside0.mk (hbox); have n2_ := Aside0.mk ((by rw [hg]; exact (below_size (by repeat (first | (with_reducible first | exact HB.out | apply below_alloc | apply pw_below_drewN | apply below_drew1) | exact HB.out))) : w.heap.size ≤ gb101)); have n3_ := Aside0.mk ((by rw [hg]; exact (below_size (by repeat (first | (with_reducible first | exact HB.out | apply below_alloc | apply pw_below_drewN | apply below_drew1) | exact HB.out))) : w.heap.size ≤ gb101)); clear HB; have HB := n0_; have BK101 := n1_; have GW101 := n2_; have GE101 := n3_; clear n0_ n1_ n2_ n3_; clear hb hbox hg; have hcz5_0 : w4.cell? ⟨gb101, 0, none⟩ = some (.slice A0_0 l0_0.length c0_0) := (blk_cell BK101.out 0).trans rfl; have hcz5_1 : w4.cell? ⟨gb101, 1, none⟩ = some (.slice A0_1 l0_1.length c0_1) := (blk_cell BK101.out 1).trans rfl; have hcz5_2 : w4.cell? ⟨gb101, 2, none⟩ = some (.slice A0_2 l0_2.length c0_2) := (blk_cell BK101.out 2).trans rfl; have hcz5_3 : w4.cell? ⟨gb101, 3, none⟩ = some (.int .i64 a0_3) := (blk_cell BK101.out 3).trans rfl; have hcz5_4 : w4.cell? ⟨gb101, 4, none⟩ = some (.int .i64 a0_4) := (blk_cell BK101.out 4).trans rfl; have hcz5_5 : w4.cell? ⟨gb101, 5, none⟩ = some (.int .i64 a0_5) := (blk_cell BK101.out 5).trans rfl; have hfz5_0 := blk_frozen BK101.out 0; have hfz5_1 := blk_frozen BK101.out 1; have hfz5_2 := blk_frozen BK101.out 2; have hfz5_3 := blk_frozen BK101.out 3; have hfz5_4 := blk_frozen BK101.out 4; have hfz5_5 := blk_frozen BK101.out 5))
  go_ret
  exact ⟨by first | rfl | (simp [errW_none, errW_some] <;> rfl) | (simp [*, errW_none, errW_some] <;> rfl), by repeat (first | (with_reducible first | exact HB.out | apply below_alloc | apply pw_below_drewN | apply below_drew1 | refine below_set ?_ GE101.out) | exact HB.out)⟩
 ·rw [if_neg c3] at H
  have c3b0 : decide (10 < (l0_0.length : Int)) = false := decide_eq_false c3
  have c3b1 : decide (10 < l0_0.length) = false := decide_eq_false (by omega)
  clear c3
  by_cases c6 : (l0_1.length : Int) > 10
  ·rw [if_pos c6] at H
   have c6b0 : decide (10 < (l0_1.length : Int)) = true := decide_eq_true c6
   have c6b1 : decide (10 < l0_1.length) = true := decide_eq_true (by omega)
   clear c6
   obtain rfl := Option.some.inj H
   go_enter Try.func11, Try.ntmps11
   go_wp2_with (first | ((with_reducible refine gate_dst (N := 2) rfl ?_); (try (refine gate_guard (by rfl) ?_; dsimp only)); refine box_event ?hg (N := 2) ?hd (cs := #[.slice A0_0 l0_0.length c0_0, .slice A0_1 l0_1.length c0_1, .slice A0_2 l0_2.length c0_2, .int .i64 a0_3, .int .i64 a0_4, .int .i64 a0_5]) (t := 24) ?hr ?_; (case hd => rfl); (case hg => rfl); (case hr => first | (go_simp; done) | (go_simp; rfl)); intro gb101 hg w7 hbox hb; have n0_ := Aside0.mk (below_step (by repeat (first | (with_reducible first | exact HB.out | apply below_alloc | apply pw_below_drewN | apply below_drew1) | exact HB.out)) hb); have n1_ := Aside0.mk (hbox); have n2_ := Aside0.mk ((by rw [hg]; exact (below_size (by repeat (first | (with_reducible first | exact HB.out | apply below_alloc | apply pw_below_drewN | apply below_drew1) | exact HB.out))) : w.heap.size ≤ gb101)); have n3_ := Aside0.mk ((by rw [hg]; exact (below_size (by repeat (first | (with_reducible first | exact HB.out | apply below_alloc | apply pw_below_drewN | apply below_drew1) | exact HB.out))) : w.heap.size ≤ gb101)); clear HB; have HB := n0_; have BK101 := n1_; have GW101 := n2_; have GE101 := n3_; clear n0_ n1_ n2_ n3_; clear hb hbox hg; have hcz8_0 : w7.cell? ⟨gb101, 0, none⟩ = some (.slice A0_0 l0_0.length c0_0) := (blk_cell BK101.out 0).trans rfl; have hcz8_1 : w7.cell? ⟨gb101, 1, none⟩ = some (.slice A0_1 l0_1.length c0_1) := (blk_cell BK101.out 1).trans rfl; have hcz8_2 : w7.cell? ⟨gb101, 2, none⟩ = some (.slice A0_2 l0_2.length c0_2) := (blk_cell BK101.out 2).trans rfl; have hcz8_3 : w7.cell? ⟨gb101, 3, none⟩ = some (.int .i64 a0_3) := (blk_cell BK101.out 3).trans rfl; have hcz8_4 : w7.cell? ⟨gb101, 4, none⟩ = some (.int .i64 a0_4) := (blk_cell BK101.out 4).trans rfl; have hcz8_5 : w7.cell? ⟨gb101, 5, none⟩ = some (.int .i64 a0_5) := (blk_cell BK101.out 5).trans rfl; have hfz8_0 := blk_frozen BK101.out 0; have hfz8_1 := blk_frozen BK101.out 1; have hfz8_2 := blk_frozen BK101.out 2; have hfz8_3 := blk_frozen BK101.out 3; have hfz8_4 := blk_frozen BK101.out 4; have hfz8_5 := blk_frozen BK101.out 5))
   go_ret
   exact ⟨by first | rfl | (simp [errW_none, errW_some] <;> rfl) | (simp [*, errW_none, errW_some] <;> rfl), by repeat (first | (with_reducible first | exact HB.out | apply below_alloc | apply pw_below_drewN | apply below_drew1 | refine below_set ?_ GE101.out) | exact HB.out)⟩
  ·rw [if_neg c6] at H
   have c6b0 : decide (10 < (l0_1.length : Int)) = false := decide_eq_false c6
   have c6b1 : decide (10 < l0_1.length) = false := decide_eq_false (by omega)
   clear c6
   by_cases c9 : (l0_2.length : Int) > 10
   ·rw [if_pos c9] at H
    have c9b0 : decide (10 < (l0_2.length : Int)) = true := decide_eq_true c9
    have c9b1 : decide (10 < l0_2.length) = true := decide_eq_true (by omega)
    clear c9
    obtain rfl := Option.some.inj H
    go_enter Try.func11, Try.ntmps11
    go_wp2_with (first | ((with_reducible refine gate_dst (N := 2) rfl ?_); (try (refine gate_guard (by rfl) ?_; dsimp only)); refine box_event ?hg (N := 2) ?hd (cs := #[.slice A0_0 l0_0.length c0_0, .slice A0_1 l0_1.length c0_1, .slice A0_2 l0_2.length c0_2, .int .i64 a0_3, .int .i64 a0_4, .int .i64 a0_5]) (t := 24) ?hr ?_; (case hd => rfl); (case hg => rfl); (case hr => first | (go_simp; done) | (go_simp; rfl)); intro gb101 hg w10 hbox hb; have n0_ := Aside0.mk (below_step (by repeat (first | (with_reducible first | exact HB.out | apply below_alloc | apply pw_below_drewN | apply below_drew1) | exact HB.out)) hb); have n1_ := Aside0.mk (hbox); have n2_ := Aside0.mk ((by rw [hg]; exact (below_size (by repeat (first | (with_reducible first | exact HB.out | apply below_alloc | apply pw_below_drewN | apply below_drew1) | exact HB.out))) : w.heap.size ≤ gb101)); have n3_ := Aside0.mk ((by rw [hg]; exact (below_size (by repeat (first | (with_reducible first | exact HB.out | apply below_alloc | apply pw_below_drewN | apply below_drew1) | exact HB.out))) : w.heap.size ≤ gb101)); clear HB; have HB := n0_; have BK101 := n1_; have GW101 := n2_; have GE101 := n3_; clear n0_ n1_ n2_ n3_; clear hb hbox hg; have hcz11_0 : w10.cell? ⟨gb101, 0, none⟩ = some (.slice A0_0 l0_0.length c0_0) := (blk_cell BK101.out 0).trans rfl; have hcz11_1 : w10.cell? ⟨gb101, 1, none⟩ = some (.slice A0_1 l0_1.length c0_1) := (blk_cell BK101.out 1).trans rfl; have hcz11_2 : w10.cell? ⟨gb101, 2, none⟩ = some (.slice A0_2 l0_2.length c0_2) := (blk_cell BK101.out 2).trans rfl; have hcz11_3 : w10.cell? ⟨gb101, 3, none⟩ = some (.int .i64 a0_3) := (blk_cell BK101.out 3).trans rfl; have hcz11_4 : w10.cell? ⟨gb101, 4, none⟩ = some (.int .i64 a0_4) := (blk_cell BK101.out 4).trans rfl; have hcz11_5 : w10.cell? ⟨gb101, 5, none⟩ = some (.int .i64 a0_5) := (blk_cell BK101.out 5).trans rfl; have hfz11_0 := blk_frozen BK101.out 0; have hfz11_1 := blk_frozen BK101.out 1; have hfz11_2 := blk_frozen BK101.out 2; have hfz11_3 := blk_frozen BK101.out 3; have hfz11_4 := blk_frozen BK101.out 4; have hfz11_5 := blk_frozen BK101.out 5))
    go_ret
    exact ⟨by first | rfl | (simp [errW_none, errW_some] <;> rfl) | (simp [*, errW_none, errW_some] <;> rfl), by repeat (first | (with_reducible first | exact HB.out | apply below_alloc | apply pw_below_drewN | apply below_drew1 | refine below_set ?_ GE101.out) | exact HB.out)⟩
   ·rw [if_neg c9] at H
    have c9b0 : decide (10 < (l0_2.length : Int)) = false := decide_eq_false c9
    have c9b1 : decide (10 < l0_2.length) = false := decide_eq_false (by omega)
    clear c9
    obtain rfl := Option.some.inj H
    go_enter Try.func11, Try.ntmps11
    go_wp2_with (first | ((with_reducible refine gate_dst (N := 2) rfl ?_); (try (refine gate_guard (by rfl) ?_; dsimp only)); refine box_event ?hg (N := 2) ?hd (cs := #[.slice A0_0 l0_0.length c0_0, .slice A0_1 l0_1.length c0_1, .slice A0_2 l0_2.length c0_2, .int .i64 a0_3, .int .i64 a0_4, .int .i64 a0_5]) (t := 24) ?hr ?_; (case hd => rfl); (case hg => rfl); (case hr => first | (go_simp; done) | (go_simp; rfl)); intro gb101 hg w12 hbox hb; have n0_ := Aside0.mk (below_step (by repeat (first | (with_reducible first | exact HB.out | apply below_alloc | apply pw_below_drewN | apply below_drew1) | exact HB.out)) hb); have n1_ := Aside0.mk (hbox); have n2_ := Aside0.mk ((by rw [hg]; exact (below_size (by repeat (first | (with_reducible first | exact HB.out | apply below_alloc | apply pw_below_drewN | apply below_drew1) | exact HB.out))) : w.heap.size ≤ gb101)); have n3_ := Aside0.mk ((by rw [hg]; exact (below_size (by repeat (first | (with_reducible first | exact HB.out | apply below_alloc | apply pw_below_drewN | apply below_drew1) | exact HB.out))) : w.heap.size ≤ gb101)); clear HB; have HB := n0_; have BK101 := n1_; have GW101 := n2_; have GE101 := n3_; clear n0_ n1_ n2_ n3_; clear hb hbox hg; have hcz13_0 : w12.cell? ⟨gb101, 0, none⟩ = some (.slice A0_0 l0_0.length c0_0) := (blk_cell BK101.out 0).trans rfl; have hcz13_1 : w12.cell? ⟨gb101, 1, none⟩ = some (.slice A0_1 l0_1.length c0_1) := (blk_cell BK101.out 1).trans rfl; have hcz13_2 : w12.cell? ⟨gb101, 2, none⟩ = some (.slice A0_2 l0_2.length c0_2) := (blk_cell BK101.out 2).trans rfl; have hcz13_3 : w12.cell? ⟨gb101, 3, none⟩ = some (.int .i64 a0_3) := (blk_cell BK101.out 3).trans rfl; have hcz13_4 : w12.cell? ⟨gb101, 4, none⟩ = some (.int .i64 a0_4) := (blk_cell BK101.out 4).trans rfl; have hcz13_5 : w12.cell? ⟨gb101, 5, none⟩ = some (.int .i64 a0_5) := (blk_cell BK101.out 5).trans rfl; have hfz13_0 := blk_frozen BK101.out 0; have hfz13_1 := blk_frozen BK101.out 1; have hfz13_2 := blk_frozen BK101.out 2; have hfz13_3 := blk_frozen BK101.out 3; have hfz13_4 := blk_frozen BK101.out 4; have hfz13_5 := blk_frozen BK101.out 5))
    go_ret
    exact ⟨by first | rfl | (simp [errW_none, errW_some] <;> rfl) | (simp [*, errW_none, errW_some] <;> rfl), by repeat (first | (with_reducible first | exact HB.out | apply below_alloc | apply pw_below_drewN | apply below_drew1 | refine below_set ?_ GE101.out) | exact HB.out)⟩
end Go.Proofs.Ytiklpefckadgdaa.P
noncomputable section
namespace Go.Proofs.Ytiklpefckadgdaa.P
open Go.RowKit Go.Proofs.YtiklpefckadgdaaW.PrintWords Go.Proofs.YtiklpefckadgdaaW.PrintLast Go.Proofs.YtiklpefckadgdaaW.PrintMore
attribute [local go_sem] max2_int min2_int max_two min_two max_three min_three max_four min_four   -- for this text's walks alone
set_option linter.unusedVariables false
set_option linter.unusedSimpArgs false
theorem eqA29 (d : Nat) (w : World) (x0 y0 : Int) (x1 y1 : Int) (x2 y2 : Int) (x3 y3 : Int) :
  (Op.equalIn (d + 2) 29 (.agg #[.int .i64 x0, .int .i64 x1, .int .i64 x2, .int .i64 x3]) (.agg #[.int .i64 y0, .int .i64 y1, .int .i64 y2, .int .i64 y3])).run Try.prog w = .ok (x0 == y0 && (x1 == y1 && (x2 == y2 && (x3 == y3)))) w := by
 refine eqA_of Try.underlying29 (by kernel_rfl) ?_
 refine eqf_cons (by rfl) (by go_simp; rfl) (by go_simp; rfl) (by go_simp) ?_
 refine eqf_cons (by rfl) (by go_simp; rfl) (by go_simp; rfl) (by go_simp) ?_
 refine eqf_cons (by rfl) (by go_simp; rfl) (by go_simp; rfl) (by go_simp) ?_
 exact eqf_last (by rfl) (by go_simp; rfl) (by go_simp; rfl) (by go_simp)
end Go.Proofs.Ytiklpefckadgdaa.P
noncomputable section
namespace Go.Proofs.Ytiklpefckadgdaa.P
open Go.RowKit Go.Proofs.YtiklpefckadgdaaW.PrintWords Go.Proofs.YtiklpefckadgdaaW.PrintLast Go.Proofs.YtiklpefckadgdaaW.PrintMore
attribute [local go_sem] max2_int min2_int max_two min_two max_three min_three max_four min_four   -- for this text's walks alone
set_option linter.unusedVariables false
set_option linter.unusedSimpArgs false
def bits_Mul64.f (a0 : Int) (a1 : Int) : Option (Int × Int) := some (IntKind.u64.wrap ((IntKind.u64.wrap ((IntKind.u64.wrap ((a0 / 4294967296) * (a1 / 4294967296))) + ((IntKind.u64.wrap ((IntKind.u64.wrap ((a0 / 4294967296) * (Go.bits .and .u64 a1 4294967295))) + ((IntKind.u64.wrap ((Go.bits .and .u64 a0 4294967295) * (Go.bits .and .u64 a1 4294967295))) / 4294967296))) / 4294967296))) + ((IntKind.u64.wrap ((Go.bits .and .u64 (IntKind.u64.wrap ((IntKind.u64.wrap ((a0 / 4294967296) * (Go.bits .and .u64 a1 4294967295))) + ((IntKind.u64.wrap ((Go.bits .and .u64 a0 4294967295) * (Go.bits .and .u64 a1 4294967295))) / 4294967296))) 4294967295) + (IntKind.u64.wrap ((Go.bits .and .u64 a0 4294967295) * (a1 / 4294967296))))) / 4294967296)), IntKind.u64.wrap (a0 * a1))
set_option maxHeartbeats 8000000 in
set_option maxRecDepth 100000 in
theorem bits_Mul64.calls (a0 : Int) (a1 : Int) (r1 : Int) (r2 : Int) (w : World) (h : bits_Mul64.f a0 a1 = some (r1, r2)) :
  Calls Try.prog 81 #[.int .u64 a0, .int .u64 a1] w fun e w' => e = .returned (.tuple #[.int .u64 r1, .int .u64 r2]) ∧ Drawn0 w w' := by
 have H : (some (IntKind.u64.wrap ((IntKind.u64.wrap ((IntKind.u64.wrap ((a0 / 4294967296) * (a1 / 4294967296))) + ((IntKind.u64.wrap ((IntKind.u64.wrap ((a0 / 4294967296) * (Go.bits .and .u64 a1 4294967295))) + ((IntKind.u64.wrap ((Go.bits .and .u64 a0 4294967295) * (Go.bits .and .u64 a1 4294967295))) / 4294967296))) / 4294967296))) + ((IntKind.u64.wrap ((Go.bits .and .u64 (IntKind.u64.wrap ((IntKind.u64.wrap ((a0 / 4294967296) * (Go.bits .and .u64 a1 4294967295))) + ((IntKind.u64.wrap ((Go.bits .and .u64 a0 4294967295) * (Go.bits .and .u64 a1 4294967295))) / 4294967296))) 4294967295) + (IntKind.u64.wrap ((Go.bits .and .u64 a0 4294967295) * (a1 / 4294967296))))) / 4294967296)), IntKind.u64.wrap (a0 * a1))) = some (r1, r2) := h
 clear h
 simp only [Option.some.injEq, Prod.mk.injEq] at H
 obtain ⟨rfl, rfl⟩ := H
 go_enter Try.func81, Try.ntmps81
 go_wp2
 go_ret2
 exact ⟨by first | rfl | (simp; done) | (simp [*]; done), by repeat (first | exact Drawn0.refl _ | apply Drawn0.step)⟩
end Go.Proofs.Ytiklpefckadgdaa.P
namespace Go.Proofs.Ytiklpefckadgdaa.P
open Go.RowKit Go.Shelf Go.Proofs.YtiklpefckadgdaaW.PrintWords Go.Proofs.YtiklpefckadgdaaW.PrintLast Go.Proofs.YtiklpefckadgdaaW.PrintMore
theorem u64_id {x : Int} (h0 : 0 ≤ x) (h1 : x < 18446744073709551616) : IntKind.u64.wrap x = x := by
 simp [IntKind.wrap, IntKind.bits, IntKind.signed]; omega
theorem u64_and32 (x : Int) (h0 : 0 ≤ x) (h1 : x < 18446744073709551616) : Go.bits .and .u64 x 4294967295 = x % 4294967296 :=
 bits_mask .u64 64 (by decide) (fun y h h' => u64_id h (by omega)) 32 (by decide) x h0 (by omega)
theorem mul_lt {x y : Int} (hx0 : 0 ≤ x) (hy0 : 0 ≤ y) (hx : x ≤ 4294967295) (hy : y ≤ 4294967295) : 0 ≤ x * y ∧ x * y ≤ 18446744065119617025 := by
 have h1 := Int.mul_nonneg hx0 hy0
 have h2 := Int.mul_le_mul hx hy hy0 (by omega)
 omega
theorem mul64_eq (a b : Int) (ha0 : 0 ≤ a) (ha1 : a < 18446744073709551616) (hb0 : 0 ≤ b) (hb1 : b < 18446744073709551616) :
  bits_Mul64.f a b = some (a * b / 18446744073709551616, a * b % 18446744073709551616) := by
 unfold bits_Mul64.f
 rw [u64_and32 a ha0 ha1, u64_and32 b hb0 hb1]
 have ea : a = a / 4294967296 * 4294967296 + a % 4294967296 := by omega
 have eb : b = b / 4294967296 * 4294967296 + b % 4294967296 := by omega
 have x10 : 0 ≤ a / 4294967296 := by omega
 have x11 : a / 4294967296 ≤ 4294967295 := by omega
 have x00 : 0 ≤ a % 4294967296 := by omega
 have x01 : a % 4294967296 ≤ 4294967295 := by omega
 have y10 : 0 ≤ b / 4294967296 := by omega
 have y11 : b / 4294967296 ≤ 4294967295 := by omega
 have y00 : 0 ≤ b % 4294967296 := by omega
 have y01 : b % 4294967296 ≤ 4294967295 := by omega
 generalize a / 4294967296 = x1 at *
 generalize a % 4294967296 = x0 at *
 generalize b / 4294967296 = y1 at *
 generalize b % 4294967296 = y0 at *
 have hab : a * b = x1 * y1 * 18446744073709551616 + (x1 * y0 + x0 * y1) * 4294967296 + x0 * y0 := by
  subst ea; subst eb
  simp only [Int.add_mul, Int.mul_add]
  have e1 : x1 * 4294967296 * (y1 * 4294967296) = x1 * y1 * 18446744073709551616 := by
   rw [Int.mul_assoc, Int.mul_left_comm 4294967296 y1 4294967296, ← Int.mul_assoc]; rfl
  have e2 : x1 * 4294967296 * y0 = x1 * y0 * 4294967296 := by rw [Int.mul_assoc, Int.mul_comm 4294967296 y0, ← Int.mul_assoc]
  have e3 : x0 * (y1 * 4294967296) = x0 * y1 * 4294967296 := by rw [← Int.mul_assoc]
  omega
 obtain ⟨p0, p1⟩ := mul_lt x10 y10 x11 y11
 obtain ⟨q0, q1⟩ := mul_lt x10 y00 x11 y01
 obtain ⟨r0, r1⟩ := mul_lt x00 y10 x01 y11
 obtain ⟨s0, s1⟩ := mul_lt x00 y00 x01 y01
 rw [hab]
 generalize x1 * y1 = P at *
 generalize x1 * y0 = Q at *
 generalize x0 * y1 = R at *
 generalize x0 * y0 = S at *
 rw [u64_id p0 (by omega), u64_id q0 (by omega), u64_id r0 (by omega), u64_id s0 (by omega)]
 have t0 : 0 ≤ Q + S / 4294967296 := by omega
 have t1 : Q + S / 4294967296 < 18446744073709551616 := by omega
 rw [u64_id t0 t1, u64_and32 _ t0 t1]
 have v0 : 0 ≤ (Q + S / 4294967296) % 4294967296 + R := by omega
 have v1 : (Q + S / 4294967296) % 4294967296 + R < 18446744073709551616 := by omega
 rw [u64_id v0 v1]
 rw [u64_id (x := P + _) (by omega) (by omega), u64_id (x := P + _ + _) (by omega) (by omega)]
 have hw : IntKind.u64.wrap (P * 18446744073709551616 + (Q + R) * 4294967296 + S) = (P * 18446744073709551616 + (Q + R) * 4294967296 + S) % 18446744073709551616 := by
  simp [IntKind.wrap, IntKind.bits, IntKind.signed]
 rw [hw]
 simp only [Option.some.injEq, Prod.mk.injEq, and_true]
 omega
set_option maxRecDepth 100000 in
set_option maxHeartbeats 4000000 in
theorem div64_low (lo y : Int) (hl0 : 0 ≤ lo) (hl1 : lo < 18446744073709551616) (hy0 : 0 < y) (hy1 : y < 18446744073709551616) (w : World) :
  Calls Try.prog 82 #[.int .u64 0, .int .u64 lo, .int .u64 y] w fun e w' => e = .returned (.tuple #[.int .u64 (lo / y), .int .u64 (lo % y)]) ∧ Drawn0 w w' := by
 have h1 : ¬ y = 0 := by omega
 have h2 : ¬ y ≤ 0 := by omega
 refine calls_of_wp Try.func82 rfl ?_
 simp only [Try.ntmps82, List.size_toArray, List.length_cons, List.length_nil, Nat.reduceAdd, Nat.reduceSub, Array.replicate_succ, Array.replicate_zero, List.push_toArray, List.append_toArray, List.nil_append, List.cons_append]
 go_wp2
 refine start_ (n := 8) (S := fun _ => True) (ds := []) #[false, false, false, false, false, false, false, false] (by kernel_rfl) rfl rfl trivial (fun hHeld => ?_)
 refine pure_ (i := 0) (N := some 28) (v := ?_) (a' := ?_) #[true, false, false, false, false, false, false, false] rfl rfl (by kernel_rfl) (fun _ _ _ h => h) (Or.inl ⟨by rfl, ?_⟩) ?_ ?_
 rotate_left
 ·intro w'
  go_simp
  with_reducible rfl
 rotate_left
 ·simp only [Act.put, List.setIfInBounds_toArray, List.set_cons_zero, List.set_cons_succ, i64_w, i32_w]
  rfl
 refine pure_ (i := 1) (N := some 29) (v := ?_) (a' := ?_) #[true, true, false, false, false, false, false, false] rfl rfl (by kernel_rfl) (fun _ _ _ h => h) (Or.inl ⟨by rfl, ?_⟩) ?_ ?_
 rotate_left
 ·intro w'
  go_simp
  with_reducible rfl
 rotate_left
 ·simp only [Act.put, List.setIfInBounds_toArray, List.set_cons_zero, List.set_cons_succ, i64_w, i32_w]
  rfl
 refine pure_ (i := 2) (N := some 30) (v := ?_) (a' := ?_) #[true, true, true, false, false, false, false, false] rfl rfl (by kernel_rfl) (fun _ _ _ h => h) (Or.inl ⟨by rfl, ?_⟩) ?_ ?_
 rotate_left
 ·intro w'
  go_simp
  with_reducible rfl
 rotate_left
 ·simp only [Act.put, List.setIfInBounds_toArray, List.set_cons_zero, List.set_cons_succ, i64_w, i32_w]
  rfl
 refine pure_ (i := 3) (N := some 31) (v := ?_) (a' := ?_) #[true, true, true, true, false, false, false, false] rfl rfl (by kernel_rfl) (fun _ _ _ h => h) (Or.inl ⟨by rfl, ?_⟩) ?_ ?_
 rotate_left
 ·intro w'
  go_simp
  with_reducible rfl
 rotate_left
 ·simp only [Act.put, List.setIfInBounds_toArray, List.set_cons_zero, List.set_cons_succ, i64_w, i32_w]
  rfl
 refine pure_ (i := 4) (N := some 32) (v := ?_) (a' := ?_) #[true, true, true, true, true, false, false, false] rfl rfl (by kernel_rfl) (fun _ _ _ h => h) (Or.inl ⟨by rfl, ?_⟩) ?_ ?_
 rotate_left
 ·intro w'
  go_simp
  with_reducible rfl
 rotate_left
 ·simp only [Act.put, List.setIfInBounds_toArray, List.set_cons_zero, List.set_cons_succ, i64_w, i32_w]
  rfl
 refine pure_ (i := 5) (N := some 33) (v := ?_) (a' := ?_) #[true, true, true, true, true, true, false, false] rfl rfl (by kernel_rfl) (fun _ _ _ h => h) (Or.inl ⟨by rfl, ?_⟩) ?_ ?_
 rotate_left
 ·intro w'
  go_simp
  with_reducible rfl
 rotate_left
 ·simp only [Act.put, List.setIfInBounds_toArray, List.set_cons_zero, List.set_cons_succ, i64_w, i32_w]
  rfl
 refine pure_ (i := 6) (N := some 6) (v := ?_) (a' := ?_) #[true, true, true, true, true, true, true, false] rfl rfl (by kernel_rfl) (fun _ _ _ h => h) (Or.inl ⟨by rfl, ?_⟩) ?_ ?_
 rotate_left
 ·intro w'
  go_simp
  with_reducible rfl
 rotate_left
 ·simp only [Act.put, List.setIfInBounds_toArray, List.set_cons_zero, List.set_cons_succ, i64_w, i32_w]
  rfl
 refine pure_ (i := 7) (N := some 7) (v := ?_) (a' := ?_) #[true, true, true, true, true, true, true, true] rfl rfl (by kernel_rfl) (fun _ _ _ h => h) (Or.inl ⟨by rfl, ?_⟩) ?_ ?_
 rotate_left
 ·intro w'
  go_simp
  with_reducible rfl
 rotate_left
 ·simp only [Act.put, List.setIfInBounds_toArray, List.set_cons_zero, List.set_cons_succ, i64_w, i32_w]
  rfl
 refine done_ (by kernel_rfl) ?_
 go_wp2
 refine bodyPost_ret (results_tmp2 rfl _ _ _) rfl ?_
 have q1 : IntKind.u64.wrap (lo / y) = lo / y := u64_id (Int.ediv_nonneg hl0 (by omega)) (by have := Int.ediv_le_self y hl0; omega)
 have q2 : IntKind.u64.wrap (lo % y) = lo % y := u64_id (Int.emod_nonneg _ (by omega)) (by have := Int.emod_lt_of_pos lo hy0; omega)
 refine ⟨?_, ⟨⟨1, rfl⟩⟩⟩
 simp [Int.tdiv_eq_ediv_of_nonneg hl0, Int.tmod_eq_emod_of_nonneg hl0, q1, q2]
end Go.Proofs.Ytiklpefckadgdaa.P
noncomputable section
namespace Go.Proofs.Ytiklpefckadgdaa.P
open Go.RowKit Go.Proofs.YtiklpefckadgdaaW.PrintWords Go.Proofs.YtiklpefckadgdaaW.PrintLast Go.Proofs.YtiklpefckadgdaaW.PrintMore
attribute [local go_sem] max2_int min2_int max_two min_two max_three min_three max_four min_four   -- for this text's walks alone
set_option linter.unusedVariables false
set_option linter.unusedSimpArgs false
def bits_Len64.j0 : Nat → Int → Int → Option (Int)
 | 0, _, _ => none
 | k + 1, x0, x2 => if x0 ≥ 65536 then (if (x0 / 65536) ≥ 256 then (if 0 ≤ (((x0 / 65536) / 256) % 256) then (if (((x0 / 65536) / 256) % 256) < 256 then (some (wrap64 ((wrap64 ((wrap64 (x2 + 16)) + 8)) + (wrap64 (bt (⟨#[0, 1, 2, 2, 3, 3, 3, 3, 4, 4, 4, 4, 4, 4, 4, 4, 5, 5, 5, 5, 5, 5, 5, 5, 5, 5, 5, 5, 5, 5, 5, 5, 6, 6, 6, 6, 6, 6, 6, 6, 6, 6, 6, 6, 6, 6, 6, 6, 6, 6, 6, 6, 6, 6, 6, 6, 6, 6, 6, 6, 6, 6, 6, 6, 7, 7, 7, 7, 7, 7, 7, 7, 7, 7, 7, 7, 7, 7, 7, 7, 7, 7, 7, 7, 7, 7, 7, 7, 7, 7, 7, 7, 7, 7, 7, 7, 7, 7, 7, 7, 7, 7, 7, 7, 7, 7, 7, 7, 7, 7, 7, 7, 7, 7, 7, 7, 7, 7, 7, 7, 7, 7, 7, 7, 7, 7, 7, 7, 8, 8, 8, 8, 8, 8, 8, 8, 8, 8, 8, 8, 8, 8, 8, 8, 8, 8, 8, 8, 8, 8, 8, 8, 8, 8, 8, 8, 8, 8, 8, 8, 8, 8, 8, 8, 8, 8, 8, 8, 8, 8, 8, 8, 8, 8, 8, 8, 8, 8, 8, 8, 8, 8, 8, 8, 8, 8, 8, 8, 8, 8, 8, 8, 8, 8, 8, 8, 8, 8, 8, 8, 8, 8, 8, 8, 8, 8, 8, 8, 8, 8, 8, 8, 8, 8, 8, 8, 8, 8, 8, 8, 8, 8, 8, 8, 8, 8, 8, 8, 8, 8, 8, 8, 8, 8, 8, 8, 8, 8, 8, 8, 8, 8, 8, 8, 8, 8, 8, 8, 8, 8, 8, 8, 8, 8, 8, 8]⟩ : ByteArray) (((x0 / 65536) / 256) % 256)))))) else (none)) else (none)) else (if 0 ≤ ((x0 / 65536) % 256) then (if ((x0 / 65536) % 256) < 256 then (some (wrap64 ((wrap64 (x2 + 16)) + (wrap64 (bt (⟨#[0, 1, 2, 2, 3, 3, 3, 3, 4, 4, 4, 4, 4, 4, 4, 4, 5, 5, 5, 5, 5, 5, 5, 5, 5, 5, 5, 5, 5, 5, 5, 5, 6, 6, 6, 6, 6, 6, 6, 6, 6, 6, 6, 6, 6, 6, 6, 6, 6, 6, 6, 6, 6, 6, 6, 6, 6, 6, 6, 6, 6, 6, 6, 6, 7, 7, 7, 7, 7, 7, 7, 7, 7, 7, 7, 7, 7, 7, 7, 7, 7, 7, 7, 7, 7, 7, 7, 7, 7, 7, 7, 7, 7, 7, 7, 7, 7, 7, 7, 7, 7, 7, 7, 7, 7, 7, 7, 7, 7, 7, 7, 7, 7, 7, 7, 7, 7, 7, 7, 7, 7, 7, 7, 7, 7, 7, 7, 7, 8, 8, 8, 8, 8, 8, 8, 8, 8, 8, 8, 8, 8, 8, 8, 8, 8, 8, 8, 8, 8, 8, 8, 8, 8, 8, 8, 8, 8, 8, 8, 8, 8, 8, 8, 8, 8, 8, 8, 8, 8, 8, 8, 8, 8, 8, 8, 8, 8, 8, 8, 8, 8, 8, 8, 8, 8, 8, 8, 8, 8, 8, 8, 8, 8, 8, 8, 8, 8, 8, 8, 8, 8, 8, 8, 8, 8, 8, 8, 8, 8, 8, 8, 8, 8, 8, 8, 8, 8, 8, 8, 8, 8, 8, 8, 8, 8, 8, 8, 8, 8, 8, 8, 8, 8, 8, 8, 8, 8, 8, 8, 8, 8, 8, 8, 8, 8, 8, 8, 8, 8, 8, 8, 8, 8, 8, 8, 8]⟩ : ByteArray) ((x0 / 65536) % 256)))))) else (none)) else (none))) else (if x0 ≥ 256 then (if 0 ≤ ((x0 / 256) % 256) then (if ((x0 / 256) % 256) < 256 then (some (wrap64 ((wrap64 (x2 + 8)) + (wrap64 (bt (⟨#[0, 1, 2, 2, 3, 3, 3, 3, 4, 4, 4, 4, 4, 4, 4, 4, 5, 5, 5, 5, 5, 5, 5, 5, 5, 5, 5, 5, 5, 5, 5, 5, 6, 6, 6, 6, 6, 6, 6, 6, 6, 6, 6, 6, 6, 6, 6, 6, 6, 6, 6, 6, 6, 6, 6, 6, 6, 6, 6, 6, 6, 6, 6, 6, 7, 7, 7, 7, 7, 7, 7, 7, 7, 7, 7, 7, 7, 7, 7, 7, 7, 7, 7, 7, 7, 7, 7, 7, 7, 7, 7, 7, 7, 7, 7, 7, 7, 7, 7, 7, 7, 7, 7, 7, 7, 7, 7, 7, 7, 7, 7, 7, 7, 7, 7, 7, 7, 7, 7, 7, 7, 7, 7, 7, 7, 7, 7, 7, 8, 8, 8, 8, 8, 8, 8, 8, 8, 8, 8, 8, 8, 8, 8, 8, 8, 8, 8, 8, 8, 8, 8, 8, 8, 8, 8, 8, 8, 8, 8, 8, 8, 8, 8, 8, 8, 8, 8, 8, 8, 8, 8, 8, 8, 8, 8, 8, 8, 8, 8, 8, 8, 8, 8, 8, 8, 8, 8, 8, 8, 8, 8, 8, 8, 8, 8, 8, 8, 8, 8, 8, 8, 8, 8, 8, 8, 8, 8, 8, 8, 8, 8, 8, 8, 8, 8, 8, 8, 8, 8, 8, 8, 8, 8, 8, 8, 8, 8, 8, 8, 8, 8, 8, 8, 8, 8, 8, 8, 8, 8, 8, 8, 8, 8, 8, 8, 8, 8, 8, 8, 8, 8, 8, 8, 8, 8, 8]⟩ : ByteArray) ((x0 / 256) % 256)))))) else (none)) else (none)) else (if 0 ≤ ((x0) % 256) then (if ((x0) % 256) < 256 then (some (wrap64 (x2 + (wrap64 (bt (⟨#[0, 1, 2, 2, 3, 3, 3, 3, 4, 4, 4, 4, 4, 4, 4, 4, 5, 5, 5, 5, 5, 5, 5, 5, 5, 5, 5, 5, 5, 5, 5, 5, 6, 6, 6, 6, 6, 6, 6, 6, 6, 6, 6, 6, 6, 6, 6, 6, 6, 6, 6, 6, 6, 6, 6, 6, 6, 6, 6, 6, 6, 6, 6, 6, 7, 7, 7, 7, 7, 7, 7, 7, 7, 7, 7, 7, 7, 7, 7, 7, 7, 7, 7, 7, 7, 7, 7, 7, 7, 7, 7, 7, 7, 7, 7, 7, 7, 7, 7, 7, 7, 7, 7, 7, 7, 7, 7, 7, 7, 7, 7, 7, 7, 7, 7, 7, 7, 7, 7, 7, 7, 7, 7, 7, 7, 7, 7, 7, 8, 8, 8, 8, 8, 8, 8, 8, 8, 8, 8, 8, 8, 8, 8, 8, 8, 8, 8, 8, 8, 8, 8, 8, 8, 8, 8, 8, 8, 8, 8, 8, 8, 8, 8, 8, 8, 8, 8, 8, 8, 8, 8, 8, 8, 8, 8, 8, 8, 8, 8, 8, 8, 8, 8, 8, 8, 8, 8, 8, 8, 8, 8, 8, 8, 8, 8, 8, 8, 8, 8, 8, 8, 8, 8, 8, 8, 8, 8, 8, 8, 8, 8, 8, 8, 8, 8, 8, 8, 8, 8, 8, 8, 8, 8, 8, 8, 8, 8, 8, 8, 8, 8, 8, 8, 8, 8, 8, 8, 8, 8, 8, 8, 8, 8, 8, 8, 8, 8, 8, 8, 8, 8, 8, 8, 8, 8, 8]⟩ : ByteArray) ((x0) % 256)))))) else (none)) else (none)))
def bits_Len64.f (k : Nat) (a0 : Int) : Option (Int) := if a0 ≥ 4294967296 then (bits_Len64.j0 k (a0 / 4294967296) 32) else (bits_Len64.j0 k a0 0)
theorem bits_Len64.mono_l : ∀ k, (∀ y0 y1, LeO (bits_Len64.j0 k y0 y1) (bits_Len64.j0 (k + 1) y0 y1))
 | 0 => fun _ _ r h => by simp [bits_Len64.j0] at h
 | k + 1 => by
  have ih0 := bits_Len64.mono_l k
  ·intro y0 y1
   unfold bits_Len64.j0
   repeat' first
   | (with_reducible exact ih0 _ _)
   | (with_reducible exact LeO.refl _)
   | (with_reducible exact LeO.none _)
   | (with_reducible refine LeO.ite ?_ ?_)
   | (with_reducible refine LeO.bind ?_ (fun _ => ?_))
   | exact ih0 _ _
   | exact LeO.none _
   | refine LeO.ite ?_ ?_
   | refine LeO.bind ?_ (fun _ => ?_)
theorem bits_Len64.mono : ∀ a0 k, LeO (bits_Len64.f k a0) (bits_Len64.f (k + 1) a0) := by
 intro a0 k
 have ih0 := bits_Len64.mono_l k
 unfold bits_Len64.f
 repeat' first
   | (with_reducible exact ih0 _ _)
   | (with_reducible exact LeO.refl _)
   | (with_reducible exact LeO.none _)
   | (with_reducible refine LeO.ite ?_ ?_)
   | (with_reducible refine LeO.bind ?_ (fun _ => ?_))
   | exact ih0 _ _
   | exact LeO.none _
   | refine LeO.ite ?_ ?_
   | refine LeO.bind ?_ (fun _ => ?_)
set_option maxHeartbeats 8000000 in
set_option maxRecDepth 100000 in
theorem bits_Len64.calls (k : Nat) (a0 : Int) (r : Int) (w : World) (h : bits_Len64.f k a0 = some r) :
  Calls Try.prog 96 #[.int .u64 a0] w fun e w' => e = .returned (.int .i64 r) ∧ Drawn0 w w' := by
 have H : (if a0 ≥ 4294967296 then (bits_Len64.j0 k (a0 / 4294967296) 32) else (bits_Len64.j0 k a0 0)) = some r := h
 clear h
 have HC2 := Aside0.mk H
 clear H
 go_enter Try.func96, Try.ntmps96
 go_upto_if 4 with (fail)
 go_cut [0, 2] (fun v0 v2 wc => ∃ (kq : Nat) (x0_1 : Int) (x2_1 : Int), v0 = .int .u64 x0_1 ∧ v2 = .int .i64 x2_1 ∧ Aside0 (bits_Len64.j0 kq x0_1 x2_1 = some r) ∧ Aside0 (kq ≤ k) ∧ Drawn0 w wc)
 case first =>
  have H := HC2.out
  clear HC2
  by_cases c3 : a0 ≥ 4294967296
  ·rw [if_pos c3] at H
   have c3b0 : decide (4294967296 ≤ a0) = true := decide_eq_true c3
   clear c3
   (first | rw [c3b0] | (simp only [i64_w, i32_w]; rw [c3b0]) | skip)
   have H' := Aside0.mk H
   clear H
   go_wp2
   go_meet
   case rel => exact ⟨_, (a0 / 4294967296), (32), (by first | rfl | (simp; done) | (simp [*]; done)), (by first | rfl | (simp; done) | (simp [*]; done)), H', ⟨by first | omega | exact Nat.le_refl _⟩, by repeat (first | exact Drawn0.refl _ | apply Drawn0.step)⟩
  ·rw [if_neg c3] at H
   have c3b0 : decide (4294967296 ≤ a0) = false := decide_eq_false c3
   clear c3
   (first | rw [c3b0] | (simp only [i64_w, i32_w]; rw [c3b0]) | skip)
   have H' := Aside0.mk H
   clear H
   go_wp2
   go_meet
   case rel => exact ⟨_, (a0), (0), (by first | rfl | (simp; done) | (simp [*]; done)), (by first | rfl | (simp; done) | (simp [*]; done)), H', ⟨by first | omega | exact Nat.le_refl _⟩, by repeat (first | exact Drawn0.refl _ | apply Drawn0.step)⟩
 case rest =>
  clear HC2
  try clear p2
  try clear c3
  try clear c3b0
  obtain ⟨kq, x0_1, x2_1, rfl, rfl, HA, HJ1, ⟨mc1, rfl⟩⟩ := hcut
  cases kq with
  | zero => exact absurd HA.out (by simp [bits_Len64.j0])
  | succ kj1 =>
   have H := HA.out
   clear HA
   simp only [bits_Len64.j0] at H
   by_cases c4 : x0_1 ≥ 65536
   ·rw [if_pos c4] at H
    have c4b0 : decide (65536 ≤ x0_1) = true := decide_eq_true c4
    clear c4
    by_cases c5 : (x0_1 / 65536) ≥ 256
    ·rw [if_pos c5] at H
     have c5b0 : decide (256 ≤ (x0_1 / 65536)) = true := decide_eq_true c5
     clear c5
     obtain ⟨ji6, hji6⟩ : ∃ j_ : Int, (((x0_1 / 65536) / 256) % 256) = j_ := ⟨_, rfl⟩
     replace H : (if 0 ≤ (ji6) then (if (ji6) < 256 then (some (wrap64 ((wrap64 ((wrap64 (x2_1 + 16)) + 8)) + (wrap64 (bt (⟨#[0, 1, 2, 2, 3, 3, 3, 3, 4, 4, 4, 4, 4, 4, 4, 4, 5, 5, 5, 5, 5, 5, 5, 5, 5, 5, 5, 5, 5, 5, 5, 5, 6, 6, 6, 6, 6, 6, 6, 6, 6, 6, 6, 6, 6, 6, 6, 6, 6, 6, 6, 6, 6, 6, 6, 6, 6, 6, 6, 6, 6, 6, 6, 6, 7, 7, 7, 7, 7, 7, 7, 7, 7, 7, 7, 7, 7, 7, 7, 7, 7, 7, 7, 7, 7, 7, 7, 7, 7, 7, 7, 7, 7, 7, 7, 7, 7, 7, 7, 7, 7, 7, 7, 7, 7, 7, 7, 7, 7, 7, 7, 7, 7, 7, 7, 7, 7, 7, 7, 7, 7, 7, 7, 7, 7, 7, 7, 7, 8, 8, 8, 8, 8, 8, 8, 8, 8, 8, 8, 8, 8, 8, 8, 8, 8, 8, 8, 8, 8, 8, 8, 8, 8, 8, 8, 8, 8, 8, 8, 8, 8, 8, 8, 8, 8, 8, 8, 8, 8, 8, 8, 8, 8, 8, 8, 8, 8, 8, 8, 8, 8, 8, 8, 8, 8, 8, 8, 8, 8, 8, 8, 8, 8, 8, 8, 8, 8, 8, 8, 8, 8, 8, 8, 8, 8, 8, 8, 8, 8, 8, 8, 8, 8, 8, 8, 8, 8, 8, 8, 8, 8, 8, 8, 8, 8, 8, 8, 8, 8, 8, 8, 8, 8, 8, 8, 8, 8, 8, 8, 8, 8, 8, 8, 8, 8, 8, 8, 8, 8, 8, 8, 8, 8, 8, 8, 8]⟩ : ByteArray) (ji6)))))) else (none)) else (none)) = some r := by first | (rw [hji6] at H; exact H) | (simp only [hji6] at H ⊢; exact H)
     by_cases c7 : 0 ≤ (ji6)
     ·rw [if_pos c7] at H
      have c7b0 : decide (0 ≤ (ji6)) = true := decide_eq_true c7
      clear c7
      by_cases c8 : (ji6) < 256
      ·rw [if_pos c8] at H
       have c8b0 : decide ((ji6) < 256) = true := decide_eq_true c8
       clear c8
       obtain rfl := Option.some.inj H
       have p9 : 0 ≤ ((ji6) : Int) := of_decide_eq_true (by first | (with_reducible assumption) | assumption)
       have q9 : (ji6) < (256 : Int) := of_decide_eq_true (by first | (with_reducible assumption) | assumption)
       have hx9 := bt_at (⟨#[0, 1, 2, 2, 3, 3, 3, 3, 4, 4, 4, 4, 4, 4, 4, 4, 5, 5, 5, 5, 5, 5, 5, 5, 5, 5, 5, 5, 5, 5, 5, 5, 6, 6, 6, 6, 6, 6, 6, 6, 6, 6, 6, 6, 6, 6, 6, 6, 6, 6, 6, 6, 6, 6, 6, 6, 6, 6, 6, 6, 6, 6, 6, 6, 7, 7, 7, 7, 7, 7, 7, 7, 7, 7, 7, 7, 7, 7, 7, 7, 7, 7, 7, 7, 7, 7, 7, 7, 7, 7, 7, 7, 7, 7, 7, 7, 7, 7, 7, 7, 7, 7, 7, 7, 7, 7, 7, 7, 7, 7, 7, 7, 7, 7, 7, 7, 7, 7, 7, 7, 7, 7, 7, 7, 7, 7, 7, 7, 8, 8, 8, 8, 8, 8, 8, 8, 8, 8, 8, 8, 8, 8, 8, 8, 8, 8, 8, 8, 8, 8, 8, 8, 8, 8, 8, 8, 8, 8, 8, 8, 8, 8, 8, 8, 8, 8, 8, 8, 8, 8, 8, 8, 8, 8, 8, 8, 8, 8, 8, 8, 8, 8, 8, 8, 8, 8, 8, 8, 8, 8, 8, 8, 8, 8, 8, 8, 8, 8, 8, 8, 8, 8, 8, 8, 8, 8, 8, 8, 8, 8, 8, 8, 8, 8, 8, 8, 8, 8, 8, 8, 8, 8, 8, 8, 8, 8, 8, 8, 8, 8, 8, 8, 8, 8, 8, 8, 8, 8, 8, 8, 8, 8, 8, 8, 8, 8, 8, 8, 8, 8, 8, 8, 8, 8, 8, 8]⟩ : ByteArray) (ji6)
       replace p9 := eq_true p9
       replace q9 := eq_true q9
       go_wp2
       go_ret
       exact ⟨by first | rfl | (simp; done) | (simp only [← hji6] <;> (first | rfl | simp)) | (simp [*]; done), by repeat (first | exact Drawn0.refl _ | apply Drawn0.step)⟩
      ·rw [if_neg c8] at H
       exact absurd H (by simp)
     ·rw [if_neg c7] at H
      exact absurd H (by simp)
    ·rw [if_neg c5] at H
     have c5b0 : decide (256 ≤ (x0_1 / 65536)) = false := decide_eq_false c5
     clear c5
     obtain ⟨ji10, hji10⟩ : ∃ j_ : Int, ((x0_1 / 65536) % 256) = j_ := ⟨_, rfl⟩
     replace H : (if 0 ≤ (ji10) then (if (ji10) < 256 then (some (wrap64 ((wrap64 (x2_1 + 16)) + (wrap64 (bt (⟨#[0, 1, 2, 2, 3, 3, 3, 3, 4, 4, 4, 4, 4, 4, 4, 4, 5, 5, 5, 5, 5, 5, 5, 5, 5, 5, 5, 5, 5, 5, 5, 5, 6, 6, 6, 6, 6, 6, 6, 6, 6, 6, 6, 6, 6, 6, 6, 6, 6, 6, 6, 6, 6, 6, 6, 6, 6, 6, 6, 6, 6, 6, 6, 6, 7, 7, 7, 7, 7, 7, 7, 7, 7, 7, 7, 7, 7, 7, 7, 7, 7, 7, 7, 7, 7, 7, 7, 7, 7, 7, 7, 7, 7, 7, 7, 7, 7, 7, 7, 7, 7, 7, 7, 7, 7, 7, 7, 7, 7, 7, 7, 7, 7, 7, 7, 7, 7, 7, 7, 7, 7, 7, 7, 7, 7, 7, 7, 7, 8, 8, 8, 8, 8, 8, 8, 8, 8, 8, 8, 8, 8, 8, 8, 8, 8, 8, 8, 8, 8, 8, 8, 8, 8, 8, 8, 8, 8, 8, 8, 8, 8, 8, 8, 8, 8, 8, 8, 8, 8, 8, 8, 8, 8, 8, 8, 8, 8, 8, 8, 8, 8, 8, 8, 8, 8, 8, 8, 8, 8, 8, 8, 8, 8, 8, 8, 8, 8, 8, 8, 8, 8, 8, 8, 8, 8, 8, 8, 8, 8, 8, 8, 8, 8, 8, 8, 8, 8, 8, 8, 8, 8, 8, 8, 8, 8, 8, 8, 8, 8, 8, 8, 8, 8, 8, 8, 8, 8, 8, 8, 8, 8, 8, 8, 8, 8, 8, 8, 8, 8, 8, 8, 8, 8, 8, 8, 8]⟩ : ByteArray) (ji10)))))) else (none)) else (none)) = some r := by first | (rw [hji10] at H; exact H) | (simp only [hji10] at H ⊢; exact H)
     by_cases c11 : 0 ≤ (ji10)
     ·rw [if_pos c11] at H
      have c11b0 : decide (0 ≤ (ji10)) = true := decide_eq_true c11
      clear c11
      by_cases c12 : (ji10) < 256
      ·rw [if_pos c12] at H
       have c12b0 : decide ((ji10) < 256) = true := decide_eq_true c12
       clear c12
       obtain rfl := Option.some.inj H
       have p13 : 0 ≤ ((ji10) : Int) := of_decide_eq_true (by first | (with_reducible assumption) | assumption)
       have q13 : (ji10) < (256 : Int) := of_decide_eq_true (by first | (with_reducible assumption) | assumption)
       have hx13 := bt_at (⟨#[0, 1, 2, 2, 3, 3, 3, 3, 4, 4, 4, 4, 4, 4, 4, 4, 5, 5, 5, 5, 5, 5, 5, 5, 5, 5, 5, 5, 5, 5, 5, 5, 6, 6, 6, 6, 6, 6, 6, 6, 6, 6, 6, 6, 6, 6, 6, 6, 6, 6, 6, 6, 6, 6, 6, 6, 6, 6, 6, 6, 6, 6, 6, 6, 7, 7, 7, 7, 7, 7, 7, 7, 7, 7, 7, 7, 7, 7, 7, 7, 7, 7, 7, 7, 7, 7, 7, 7, 7, 7, 7, 7, 7, 7, 7, 7, 7, 7, 7, 7, 7, 7, 7, 7, 7, 7, 7, 7, 7, 7, 7, 7, 7, 7, 7, 7, 7, 7, 7, 7, 7, 7, 7, 7, 7, 7, 7, 7, 8, 8, 8, 8, 8, 8, 8, 8, 8, 8, 8, 8, 8, 8, 8, 8, 8, 8, 8, 8, 8, 8, 8, 8, 8, 8, 8, 8, 8, 8, 8, 8, 8, 8, 8, 8, 8, 8, 8, 8, 8, 8, 8, 8, 8, 8, 8, 8, 8, 8, 8, 8, 8, 8, 8, 8, 8, 8, 8, 8, 8, 8, 8, 8, 8, 8, 8, 8, 8, 8, 8, 8, 8, 8, 8, 8, 8, 8, 8, 8, 8, 8, 8, 8, 8, 8, 8, 8, 8, 8, 8, 8, 8, 8, 8, 8, 8, 8, 8, 8, 8, 8, 8, 8, 8, 8, 8, 8, 8, 8, 8, 8, 8, 8, 8, 8, 8, 8, 8, 8, 8, 8, 8, 8, 8, 8, 8, 8]⟩ : ByteArray) (ji10)
       replace p13 := eq_true p13
       replace q13 := eq_true q13
       go_wp2
       go_ret
       exact ⟨by first | rfl | (simp; done) | (simp only [← hji10] <;> (first | rfl | simp)) | (simp [*]; done), by repeat (first | exact Drawn0.refl _ | apply Drawn0.step)⟩
      ·rw [if_neg c12] at H
       exact absurd H (by simp)
     ·rw [if_neg c11] at H
      exact absurd H (by simp)
   ·rw [if_neg c4] at H
    have c4b0 : decide (65536 ≤ x0_1) = false := decide_eq_false c4
    clear c4
    by_cases c14 : x0_1 ≥ 256
    ·rw [if_pos c14] at H
     have c14b0 : decide (256 ≤ x0_1) = true := decide_eq_true c14
     clear c14
     obtain ⟨ji15, hji15⟩ : ∃ j_ : Int, ((x0_1 / 256) % 256) = j_ := ⟨_, rfl⟩
     replace H : (if 0 ≤ (ji15) then (if (ji15) < 256 then (some (wrap64 ((wrap64 (x2_1 + 8)) + (wrap64 (bt (⟨#[0, 1, 2, 2, 3, 3, 3, 3, 4, 4, 4, 4, 4, 4, 4, 4, 5, 5, 5, 5, 5, 5, 5, 5, 5, 5, 5, 5, 5, 5, 5, 5, 6, 6, 6, 6, 6, 6, 6, 6, 6, 6, 6, 6, 6, 6, 6, 6, 6, 6, 6, 6, 6, 6, 6, 6, 6, 6, 6, 6, 6, 6, 6, 6, 7, 7, 7, 7, 7, 7, 7, 7, 7, 7, 7, 7, 7, 7, 7, 7, 7, 7, 7, 7, 7, 7, 7, 7, 7, 7, 7, 7, 7, 7, 7, 7, 7, 7, 7, 7, 7, 7, 7, 7, 7, 7, 7, 7, 7, 7, 7, 7, 7, 7, 7, 7, 7, 7, 7, 7, 7, 7, 7, 7, 7, 7, 7, 7, 8, 8, 8, 8, 8, 8, 8, 8, 8, 8, 8, 8, 8, 8, 8, 8, 8, 8, 8, 8, 8, 8, 8, 8, 8, 8, 8, 8, 8, 8, 8, 8, 8, 8, 8, 8, 8, 8, 8, 8, 8, 8, 8, 8, 8, 8, 8, 8, 8, 8, 8, 8, 8, 8, 8, 8, 8, 8, 8, 8, 8, 8, 8, 8, 8, 8, 8, 8, 8, 8, 8, 8, 8, 8, 8, 8, 8, 8, 8, 8, 8, 8, 8, 8, 8, 8, 8, 8, 8, 8, 8, 8, 8, 8, 8, 8, 8, 8, 8, 8, 8, 8, 8, 8, 8, 8, 8, 8, 8, 8, 8, 8, 8, 8, 8, 8, 8, 8, 8, 8, 8, 8, 8, 8, 8, 8, 8, 8]⟩ : ByteArray) (ji15)))))) else (none)) else (none)) = some r := by first | (rw [hji15] at H; exact H) | (simp only [hji15] at H ⊢; exact H)
     by_cases c16 : 0 ≤ (ji15)
     ·rw [if_pos c16] at H
      have c16b0 : decide (0 ≤ (ji15)) = true := decide_eq_true c16
      clear c16
      by_cases c17 : (ji15) < 256
      ·rw [if_pos c17] at H
       have c17b0 : decide ((ji15) < 256) = true := decide_eq_true c17
       clear c17
       obtain rfl := Option.some.inj H
       have p18 : 0 ≤ ((ji15) : Int) := of_decide_eq_true (by first | (with_reducible assumption) | assumption)
       have q18 : (ji15) < (256 : Int) := of_decide_eq_true (by first | (with_reducible assumption) | assumption)
       have hx18 := bt_at (⟨#[0, 1, 2, 2, 3, 3, 3, 3, 4, 4, 4, 4, 4, 4, 4, 4, 5, 5, 5, 5, 5, 5, 5, 5, 5, 5, 5, 5, 5, 5, 5, 5, 6, 6, 6, 6, 6, 6, 6, 6, 6, 6, 6, 6, 6, 6, 6, 6, 6, 6, 6, 6, 6, 6, 6, 6, 6, 6, 6, 6, 6, 6, 6, 6, 7, 7, 7, 7, 7, 7, 7, 7, 7, 7, 7, 7, 7, 7, 7, 7, 7, 7, 7, 7, 7, 7, 7, 7, 7, 7, 7, 7, 7, 7, 7, 7, 7, 7, 7, 7, 7, 7, 7, 7, 7, 7, 7, 7, 7, 7, 7, 7, 7, 7, 7, 7, 7, 7, 7, 7, 7, 7, 7, 7, 7, 7, 7, 7, 8, 8, 8, 8, 8, 8, 8, 8, 8, 8, 8, 8, 8, 8, 8, 8, 8, 8, 8, 8, 8, 8, 8, 8, 8, 8, 8, 8, 8, 8, 8, 8, 8, 8, 8, 8, 8, 8, 8, 8, 8, 8, 8, 8, 8, 8, 8, 8, 8, 8, 8, 8, 8, 8, 8, 8, 8, 8, 8, 8, 8, 8, 8, 8, 8, 8, 8, 8, 8, 8, 8, 8, 8, 8, 8, 8, 8, 8, 8, 8, 8, 8, 8, 8, 8, 8, 8, 8, 8, 8, 8, 8, 8, 8, 8, 8, 8, 8, 8, 8, 8, 8, 8, 8, 8, 8, 8, 8, 8, 8, 8, 8, 8, 8, 8, 8, 8, 8, 8, 8, 8, 8, 8, 8, 8, 8, 8, 8]⟩ : ByteArray) (ji15)
       replace p18 := eq_true p18
       replace q18 := eq_true q18
       go_wp2
       go_ret
       exact ⟨by first | rfl | (simp; done) | (simp only [← hji15] <;> (first | rfl | simp)) | (simp [*]; done), by repeat (first | exact Drawn0.refl _ | apply Drawn0.step)⟩
      ·rw [if_neg c17] at H
       exact absurd H (by simp)
     ·rw [if_neg c16] at H
      exact absurd H (by simp)
    ·rw [if_neg c14] at H
     have c14b0 : decide (256 ≤ x0_1) = false := decide_eq_false c14
     clear c14
     obtain ⟨ji19, hji19⟩ : ∃ j_ : Int, ((x0_1) % 256) = j_ := ⟨_, rfl⟩
     replace H : (if 0 ≤ (ji19) then (if (ji19) < 256 then (some (wrap64 (x2_1 + (wrap64 (bt (⟨#[0, 1, 2, 2, 3, 3, 3, 3, 4, 4, 4, 4, 4, 4, 4, 4, 5, 5, 5, 5, 5, 5, 5, 5, 5, 5, 5, 5, 5, 5, 5, 5, 6, 6, 6, 6, 6, 6, 6, 6, 6, 6, 6, 6, 6, 6, 6, 6, 6, 6, 6, 6, 6, 6, 6, 6, 6, 6, 6, 6, 6, 6, 6, 6, 7, 7, 7, 7, 7, 7, 7, 7, 7, 7, 7, 7, 7, 7, 7, 7, 7, 7, 7, 7, 7, 7, 7, 7, 7, 7, 7, 7, 7, 7, 7, 7, 7, 7, 7, 7, 7, 7, 7, 7, 7, 7, 7, 7, 7, 7, 7, 7, 7, 7, 7, 7, 7, 7, 7, 7, 7, 7, 7, 7, 7, 7, 7, 7, 8, 8, 8, 8, 8, 8, 8, 8, 8, 8, 8, 8, 8, 8, 8, 8, 8, 8, 8, 8, 8, 8, 8, 8, 8, 8, 8, 8, 8, 8, 8, 8, 8, 8, 8, 8, 8, 8, 8, 8, 8, 8, 8, 8, 8, 8, 8, 8, 8, 8, 8, 8, 8, 8, 8, 8, 8, 8, 8, 8, 8, 8, 8, 8, 8, 8, 8, 8, 8, 8, 8, 8, 8, 8, 8, 8, 8, 8, 8, 8, 8, 8, 8, 8, 8, 8, 8, 8, 8, 8, 8, 8, 8, 8, 8, 8, 8, 8, 8, 8, 8, 8, 8, 8, 8, 8, 8, 8, 8, 8, 8, 8, 8, 8, 8, 8, 8, 8, 8, 8, 8, 8, 8, 8, 8, 8, 8, 8]⟩ : ByteArray) (ji19)))))) else (none)) else (none)) = some r := by first | (rw [hji19] at H; exact H) | (simp only [hji19] at H ⊢; exact H)
     by_cases c20 : 0 ≤ (ji19)
     ·rw [if_pos c20] at H
      have c20b0 : decide (0 ≤ (ji19)) = true := decide_eq_true c20
      clear c20
      by_cases c21 : (ji19) < 256
      ·rw [if_pos c21] at H
       have c21b0 : decide ((ji19) < 256) = true := decide_eq_true c21
       clear c21
       obtain rfl := Option.some.inj H
       have p22 : 0 ≤ ((ji19) : Int) := of_decide_eq_true (by first | (with_reducible assumption) | assumption)
       have q22 : (ji19) < (256 : Int) := of_decide_eq_true (by first | (with_reducible assumption) | assumption)
       have hx22 := bt_at (⟨#[0, 1, 2, 2, 3, 3, 3, 3, 4, 4, 4, 4, 4, 4, 4, 4, 5, 5, 5, 5, 5, 5, 5, 5, 5, 5, 5, 5, 5, 5, 5, 5, 6, 6, 6, 6, 6, 6, 6, 6, 6, 6, 6, 6, 6, 6, 6, 6, 6, 6, 6, 6, 6, 6, 6, 6, 6, 6, 6, 6, 6, 6, 6, 6, 7, 7, 7, 7, 7, 7, 7, 7, 7, 7, 7, 7, 7, 7, 7, 7, 7, 7, 7, 7, 7, 7, 7, 7, 7, 7, 7, 7, 7, 7, 7, 7, 7, 7, 7, 7, 7, 7, 7, 7, 7, 7, 7, 7, 7, 7, 7, 7, 7, 7, 7, 7, 7, 7, 7, 7, 7, 7, 7, 7, 7, 7, 7, 7, 8, 8, 8, 8, 8, 8, 8, 8, 8, 8, 8, 8, 8, 8, 8, 8, 8, 8, 8, 8, 8, 8, 8, 8, 8, 8, 8, 8, 8, 8, 8, 8, 8, 8, 8, 8, 8, 8, 8, 8, 8, 8, 8, 8, 8, 8, 8, 8, 8, 8, 8, 8, 8, 8, 8, 8, 8, 8, 8, 8, 8, 8, 8, 8, 8, 8, 8, 8, 8, 8, 8, 8, 8, 8, 8, 8, 8, 8, 8, 8, 8, 8, 8, 8, 8, 8, 8, 8, 8, 8, 8, 8, 8, 8, 8, 8, 8, 8, 8, 8, 8, 8, 8, 8, 8, 8, 8, 8, 8, 8, 8, 8, 8, 8, 8, 8, 8, 8, 8, 8, 8, 8, 8, 8, 8, 8, 8, 8]⟩ : ByteArray) (ji19)
       replace p22 := eq_true p22
       replace q22 := eq_true q22
       go_wp2
       go_ret
       exact ⟨by first | rfl | (simp; done) | (simp only [← hji19] <;> (first | rfl | simp)) | (simp [*]; done), by repeat (first | exact Drawn0.refl _ | apply Drawn0.step)⟩
      ·rw [if_neg c21] at H
       exact absurd H (by simp)
     ·rw [if_neg c20] at H
      exact absurd H (by simp)
end Go.Proofs.Ytiklpefckadgdaa.P
noncomputable section
namespace Go.Proofs.Ytiklpefckadgdaa.P
open Go.RowKit Go.Proofs.YtiklpefckadgdaaW.PrintWords Go.Proofs.YtiklpefckadgdaaW.PrintLast Go.Proofs.YtiklpefckadgdaaW.PrintMore
attribute [local go_sem] max2_int min2_int max_two min_two max_three min_three max_four min_four   -- for this text's walks alone
set_option linter.unusedVariables false
set_option linter.unusedSimpArgs false
def bits_LeadingZeros64.f (k : Nat) (a0 : Int) : Option (Int) := (bits_Len64.f k a0).bind fun t101 => (some (wrap64 (64 - t101)))
theorem bits_LeadingZeros64.mono : ∀ a0 k, LeO (bits_LeadingZeros64.f k a0) (bits_LeadingZeros64.f (k + 1) a0) := by
 intro a0 k
 unfold bits_LeadingZeros64.f
 repeat' first
   | (with_reducible exact bits_Len64.mono _ _)
   | (with_reducible exact LeO.refl _)
   | (with_reducible exact LeO.none _)
   | (with_reducible refine LeO.ite ?_ ?_)
   | (with_reducible refine LeO.bind ?_ (fun _ => ?_))
   | exact bits_Len64.mono _ _
   | exact LeO.none _
   | refine LeO.ite ?_ ?_
   | refine LeO.bind ?_ (fun _ => ?_)
set_option maxHeartbeats 8000000 in
set_option maxRecDepth 100000 in
theorem bits_LeadingZeros64.calls (k : Nat) (a0 : Int) (r : Int) (w : World) (h : bits_LeadingZeros64.f k a0 = some r) :
  Calls Try.prog 92 #[.int .u64 a0] w fun e w' => e = .returned (.int .i64 r) ∧ Drawn0 w w' := by
 have H : ((bits_Len64.f k a0).bind fun t101 => (some (wrap64 (64 - t101)))) = some r := h
 clear h
 replace H := Option.bind_eq_some_iff.mp H
 obtain ⟨t101, A20, H⟩ := H
 replace H : (some (wrap64 (64 - t101))) = some r := H
 have A2 := Aside0.mk A20
 clear A20
 obtain rfl := Option.some.inj H
 go_enter Try.func92, Try.ntmps92
 go_wp2_with (first | ((with_reducible refine gate_callee (f := 96) rfl ?_); refine goesL_ (some 4) rfl rfl Try.func96 (by kernel_rfl) rfl #[.int .u64 a0] rfl (by (try simp only [List.map_toArray, List.map_cons, List.map_nil]); first | done | rfl | (simp only [List.length_drop, List.length_take]; rfl)) ?_; (with_reducible refine (bits_Len64.calls k a0 t101 _ A2.out).mono ?_); rintro e w' ⟨rfl, ⟨nd, rfl⟩⟩; refine ⟨_, rfl, ?_⟩))
 go_ret
 exact ⟨by first | rfl | (simp; done) | (simp [*]; done), by repeat (first | exact Drawn0.refl _ | apply Drawn0.step)⟩
end Go.Proofs.Ytiklpefckadgdaa.P
namespace Go.Proofs.Ytiklpefckadgdaa.P
open Go.RowKit Go.Proofs.YtiklpefckadgdaaW.PrintWords Go.Proofs.YtiklpefckadgdaaW.PrintLast Go.Proofs.YtiklpefckadgdaaW.PrintMore
def tabOk (T : ByteArray) : Bool := (List.range 256).all fun i => i == 0 || (decide (1 ≤ bt T (i : Int)) && decide (bt T (i : Int) ≤ 8) && decide (2 ^ ((bt T (i : Int)).toNat - 1) ≤ i) && decide (i < 2 ^ (bt T (i : Int)).toNat))
theorem tab_at {T : ByteArray} (h : tabOk T = true) {i : Int} (h0 : 1 ≤ i) (h1 : i < 256) : (1 ≤ bt T i ∧ bt T i ≤ 8) ∧ 2 ^ ((bt T i).toNat - 1) ≤ i.toNat ∧ i.toNat < 2 ^ (bt T i).toNat := by
 have e : ((i.toNat : Nat) : Int) = i := by omega
 have := List.all_eq_true.1 h i.toNat (List.mem_range.2 (by omega))
 rw [e] at this
 simp only [Bool.or_eq_true, Bool.and_eq_true, decide_eq_true_eq, beq_iff_eq] at this
 rcases this with g | ⟨⟨⟨g1, g2⟩, g3⟩, g4⟩
 ·omega
 ·exact ⟨⟨g1, g2⟩, g3, g4⟩
theorem lz_fin {y i m : Int} {B : Nat} (hB : B = 0 ∨ B = 8 ∨ B = 16 ∨ B = 24 ∨ B = 32 ∨ B = 40 ∨ B = 48 ∨ B = 56) (hi : i = y / 2 ^ B) (hm : 1 ≤ m ∧ m ≤ 8) (h1 : 2 ^ (m.toNat - 1) ≤ i.toNat) (h2 : i.toNat < 2 ^ m.toNat) (hy : 0 ≤ y) :
  0 ≤ 64 - ((B : Int) + m) ∧ 64 - ((B : Int) + m) ≤ 63 ∧ 9223372036854775808 ≤ y * 2 ^ (64 - ((B : Int) + m)).toNat ∧ y * 2 ^ (64 - ((B : Int) + m)).toNat < 18446744073709551616 := by
 have hc : m = 1 ∨ m = 2 ∨ m = 3 ∨ m = 4 ∨ m = 5 ∨ m = 6 ∨ m = 7 ∨ m = 8 := by omega
 rcases hB with rfl | rfl | rfl | rfl | rfl | rfl | rfl | rfl <;> rcases hc with rfl | rfl | rfl | rfl | rfl | rfl | rfl | rfl <;> simp at hi h1 h2 ⊢ <;> omega
theorem lz_eq {y : Int} (h1 : 1 ≤ y) (h2 : y < 18446744073709551616) : ∃ s : Int, bits_LeadingZeros64.f 3 y = some s ∧ 0 ≤ s ∧ s ≤ 63 ∧ 9223372036854775808 ≤ y * 2 ^ s.toNat ∧ y * 2 ^ s.toNat < 18446744073709551616 := by
 have w : ∀ {x : Int}, 0 ≤ x → x ≤ 1000 → wrap64 x = x := fun h0 h1 => by unfold wrap64; omega
 have main : ∀ (x B : Int) (Bn : Nat), (Bn : Int) = B → x = y / 2 ^ Bn → (Bn = 0 ∨ Bn = 32) → 1 ≤ x → x < 4294967296 → ∃ n : Int, bits_Len64.j0 3 x B = some n ∧ 0 ≤ n ∧ n ≤ 64 ∧ 0 ≤ 64 - n ∧ 64 - n ≤ 63 ∧ 9223372036854775808 ≤ y * 2 ^ (64 - n).toNat ∧ y * 2 ^ (64 - n).toNat < 18446744073709551616 := by
  intro x B Bn hB hx hBn x1 x2
  rw [bits_Len64.j0]
  by_cases c1 : x ≥ 65536
  ·rw [if_pos c1]
   by_cases c2 : x / 65536 ≥ 256
   ·rw [if_pos c2, if_pos (by omega), if_pos (by omega)]
    obtain ⟨⟨t1, t2⟩, t3, t4⟩ := tab_at (T := ⟨#[0, 1, 2, 2, 3, 3, 3, 3, 4, 4, 4, 4, 4, 4, 4, 4, 5, 5, 5, 5, 5, 5, 5, 5, 5, 5, 5, 5, 5, 5, 5, 5, 6, 6, 6, 6, 6, 6, 6, 6, 6, 6, 6, 6, 6, 6, 6, 6, 6, 6, 6, 6, 6, 6, 6, 6, 6, 6, 6, 6, 6, 6, 6, 6, 7, 7, 7, 7, 7, 7, 7, 7, 7, 7, 7, 7, 7, 7, 7, 7, 7, 7, 7, 7, 7, 7, 7, 7, 7, 7, 7, 7, 7, 7, 7, 7, 7, 7, 7, 7, 7, 7, 7, 7, 7, 7, 7, 7, 7, 7, 7, 7, 7, 7, 7, 7, 7, 7, 7, 7, 7, 7, 7, 7, 7, 7, 7, 7, 8, 8, 8, 8, 8, 8, 8, 8, 8, 8, 8, 8, 8, 8, 8, 8, 8, 8, 8, 8, 8, 8, 8, 8, 8, 8, 8, 8, 8, 8, 8, 8, 8, 8, 8, 8, 8, 8, 8, 8, 8, 8, 8, 8, 8, 8, 8, 8, 8, 8, 8, 8, 8, 8, 8, 8, 8, 8, 8, 8, 8, 8, 8, 8, 8, 8, 8, 8, 8, 8, 8, 8, 8, 8, 8, 8, 8, 8, 8, 8, 8, 8, 8, 8, 8, 8, 8, 8, 8, 8, 8, 8, 8, 8, 8, 8, 8, 8, 8, 8, 8, 8, 8, 8, 8, 8, 8, 8, 8, 8, 8, 8, 8, 8, 8, 8, 8, 8, 8, 8, 8, 8, 8, 8, 8, 8, 8, 8]⟩) (by decide +kernel) (i := x / 65536 / 256 % 256) (by omega) (by omega)
    refine ⟨_, rfl, ?_⟩
    rw [w (x := B + 16) (by omega) (by omega), w (x := B + 16 + 8) (by omega) (by omega)]
    generalize bt _ (x / 65536 / 256 % 256) = m at *
    rw [w (x := m) (by omega) (by omega), w (by omega) (by omega)]
    have := lz_fin (y := y) (i := x / 65536 / 256 % 256) (m := m) (B := Bn + 24) (by omega) (by rcases hBn with rfl | rfl <;> simp at hx ⊢ <;> omega) ⟨t1, t2⟩ t3 t4 (by omega)
    have e : 64 - (((Bn + 24 : Nat) : Int) + m) = 64 - (B + 16 + 8 + m) := by omega
    rw [e] at this
    exact ⟨by omega, by omega, this⟩
   ·rw [if_neg c2, if_pos (by omega), if_pos (by omega)]
    obtain ⟨⟨t1, t2⟩, t3, t4⟩ := tab_at (T := ⟨#[0, 1, 2, 2, 3, 3, 3, 3, 4, 4, 4, 4, 4, 4, 4, 4, 5, 5, 5, 5, 5, 5, 5, 5, 5, 5, 5, 5, 5, 5, 5, 5, 6, 6, 6, 6, 6, 6, 6, 6, 6, 6, 6, 6, 6, 6, 6, 6, 6, 6, 6, 6, 6, 6, 6, 6, 6, 6, 6, 6, 6, 6, 6, 6, 7, 7, 7, 7, 7, 7, 7, 7, 7, 7, 7, 7, 7, 7, 7, 7, 7, 7, 7, 7, 7, 7, 7, 7, 7, 7, 7, 7, 7, 7, 7, 7, 7, 7, 7, 7, 7, 7, 7, 7, 7, 7, 7, 7, 7, 7, 7, 7, 7, 7, 7, 7, 7, 7, 7, 7, 7, 7, 7, 7, 7, 7, 7, 7, 8, 8, 8, 8, 8, 8, 8, 8, 8, 8, 8, 8, 8, 8, 8, 8, 8, 8, 8, 8, 8, 8, 8, 8, 8, 8, 8, 8, 8, 8, 8, 8, 8, 8, 8, 8, 8, 8, 8, 8, 8, 8, 8, 8, 8, 8, 8, 8, 8, 8, 8, 8, 8, 8, 8, 8, 8, 8, 8, 8, 8, 8, 8, 8, 8, 8, 8, 8, 8, 8, 8, 8, 8, 8, 8, 8, 8, 8, 8, 8, 8, 8, 8, 8, 8, 8, 8, 8, 8, 8, 8, 8, 8, 8, 8, 8, 8, 8, 8, 8, 8, 8, 8, 8, 8, 8, 8, 8, 8, 8, 8, 8, 8, 8, 8, 8, 8, 8, 8, 8, 8, 8, 8, 8, 8, 8, 8, 8]⟩) (by decide +kernel) (i := x / 65536 % 256) (by omega) (by omega)
    refine ⟨_, rfl, ?_⟩
    rw [w (x := B + 16) (by omega) (by omega)]
    generalize bt _ (x / 65536 % 256) = m at *
    rw [w (x := m) (by omega) (by omega), w (by omega) (by omega)]
    have := lz_fin (y := y) (i := x / 65536 % 256) (m := m) (B := Bn + 16) (by omega) (by rcases hBn with rfl | rfl <;> simp at hx ⊢ <;> omega) ⟨t1, t2⟩ t3 t4 (by omega)
    have e : 64 - (((Bn + 16 : Nat) : Int) + m) = 64 - (B + 16 + m) := by omega
    rw [e] at this
    exact ⟨by omega, by omega, this⟩
  ·rw [if_neg c1]
   by_cases c2 : x ≥ 256
   ·rw [if_pos c2, if_pos (by omega), if_pos (by omega)]
    obtain ⟨⟨t1, t2⟩, t3, t4⟩ := tab_at (T := ⟨#[0, 1, 2, 2, 3, 3, 3, 3, 4, 4, 4, 4, 4, 4, 4, 4, 5, 5, 5, 5, 5, 5, 5, 5, 5, 5, 5, 5, 5, 5, 5, 5, 6, 6, 6, 6, 6, 6, 6, 6, 6, 6, 6, 6, 6, 6, 6, 6, 6, 6, 6, 6, 6, 6, 6, 6, 6, 6, 6, 6, 6, 6, 6, 6, 7, 7, 7, 7, 7, 7, 7, 7, 7, 7, 7, 7, 7, 7, 7, 7, 7, 7, 7, 7, 7, 7, 7, 7, 7, 7, 7, 7, 7, 7, 7, 7, 7, 7, 7, 7, 7, 7, 7, 7, 7, 7, 7, 7, 7, 7, 7, 7, 7, 7, 7, 7, 7, 7, 7, 7, 7, 7, 7, 7, 7, 7, 7, 7, 8, 8, 8, 8, 8, 8, 8, 8, 8, 8, 8, 8, 8, 8, 8, 8, 8, 8, 8, 8, 8, 8, 8, 8, 8, 8, 8, 8, 8, 8, 8, 8, 8, 8, 8, 8, 8, 8, 8, 8, 8, 8, 8, 8, 8, 8, 8, 8, 8, 8, 8, 8, 8, 8, 8, 8, 8, 8, 8, 8, 8, 8, 8, 8, 8, 8, 8, 8, 8, 8, 8, 8, 8, 8, 8, 8, 8, 8, 8, 8, 8, 8, 8, 8, 8, 8, 8, 8, 8, 8, 8, 8, 8, 8, 8, 8, 8, 8, 8, 8, 8, 8, 8, 8, 8, 8, 8, 8, 8, 8, 8, 8, 8, 8, 8, 8, 8, 8, 8, 8, 8, 8, 8, 8, 8, 8, 8, 8]⟩) (by decide +kernel) (i := x / 256 % 256) (by omega) (by omega)
    refine ⟨_, rfl, ?_⟩
    rw [w (x := B + 8) (by omega) (by omega)]
    generalize bt _ (x / 256 % 256) = m at *
    rw [w (x := m) (by omega) (by omega), w (by omega) (by omega)]
    have := lz_fin (y := y) (i := x / 256 % 256) (m := m) (B := Bn + 8) (by omega) (by rcases hBn with rfl | rfl <;> simp at hx ⊢ <;> omega) ⟨t1, t2⟩ t3 t4 (by omega)
    have e : 64 - (((Bn + 8 : Nat) : Int) + m) = 64 - (B + 8 + m) := by omega
    rw [e] at this
    exact ⟨by omega, by omega, this⟩
   ·rw [if_neg c2, if_pos (by omega), if_pos (by omega)]
    obtain ⟨⟨t1, t2⟩, t3, t4⟩ := tab_at (T := ⟨#[0, 1, 2, 2, 3, 3, 3, 3, 4, 4, 4, 4, 4, 4, 4, 4, 5, 5, 5, 5, 5, 5, 5, 5, 5, 5, 5, 5, 5, 5, 5, 5, 6, 6, 6, 6, 6, 6, 6, 6, 6, 6, 6, 6, 6, 6, 6, 6, 6, 6, 6, 6, 6, 6, 6, 6, 6, 6, 6, 6, 6, 6, 6, 6, 7, 7, 7, 7, 7, 7, 7, 7, 7, 7, 7, 7, 7, 7, 7, 7, 7, 7, 7, 7, 7, 7, 7, 7, 7, 7, 7, 7, 7, 7, 7, 7, 7, 7, 7, 7, 7, 7, 7, 7, 7, 7, 7, 7, 7, 7, 7, 7, 7, 7, 7, 7, 7, 7, 7, 7, 7, 7, 7, 7, 7, 7, 7, 7, 8, 8, 8, 8, 8, 8, 8, 8, 8, 8, 8, 8, 8, 8, 8, 8, 8, 8, 8, 8, 8, 8, 8, 8, 8, 8, 8, 8, 8, 8, 8, 8, 8, 8, 8, 8, 8, 8, 8, 8, 8, 8, 8, 8, 8, 8, 8, 8, 8, 8, 8, 8, 8, 8, 8, 8, 8, 8, 8, 8, 8, 8, 8, 8, 8, 8, 8, 8, 8, 8, 8, 8, 8, 8, 8, 8, 8, 8, 8, 8, 8, 8, 8, 8, 8, 8, 8, 8, 8, 8, 8, 8, 8, 8, 8, 8, 8, 8, 8, 8, 8, 8, 8, 8, 8, 8, 8, 8, 8, 8, 8, 8, 8, 8, 8, 8, 8, 8, 8, 8, 8, 8, 8, 8, 8, 8, 8, 8]⟩) (by decide +kernel) (i := x % 256) (by omega) (by omega)
    refine ⟨_, rfl, ?_⟩
    generalize bt _ (x % 256) = m at *
    rw [w (x := m) (by omega) (by omega), w (by omega) (by omega)]
    have := lz_fin (y := y) (i := x % 256) (m := m) (B := Bn) (by omega) (by rcases hBn with rfl | rfl <;> simp at hx ⊢ <;> omega) ⟨t1, t2⟩ t3 t4 (by omega)
    rw [hB] at this
    exact ⟨by omega, by omega, this⟩
 have fin : ∀ n : Int, bits_Len64.f 3 y = some n → 0 ≤ n → n ≤ 64 → 0 ≤ 64 - n → 64 - n ≤ 63 → 9223372036854775808 ≤ y * 2 ^ (64 - n).toNat → y * 2 ^ (64 - n).toNat < 18446744073709551616 → ∃ s : Int, bits_LeadingZeros64.f 3 y = some s ∧ 0 ≤ s ∧ s ≤ 63 ∧ 9223372036854775808 ≤ y * 2 ^ s.toNat ∧ y * 2 ^ s.toNat < 18446744073709551616 := by
  intro n hn n0 n1 a b c d
  refine ⟨64 - n, ?_, a, b, c, d⟩
  unfold bits_LeadingZeros64.f
  rw [hn, Option.bind_some, w (by omega) (by omega)]
 unfold bits_Len64.f at fin
 by_cases c : y ≥ 4294967296
 ·obtain ⟨n, e, a1, a2, a3, a4, a5, a6⟩ := main (y / 4294967296) 32 32 rfl (by simp) (.inr rfl) (by omega) (by omega)
  exact fin n (by rw [if_pos c]; exact e) a1 a2 a3 a4 a5 a6
 ·obtain ⟨n, e, a1, a2, a3, a4, a5, a6⟩ := main y 0 0 rfl (by simp) (.inl rfl) (by omega) (by omega)
  exact fin n (by rw [if_neg c]; exact e) a1 a2 a3 a4 a5 a6
end Go.Proofs.Ytiklpefckadgdaa.P
namespace Go.Proofs.Ytiklpefckadgdaa.P
open Go.RowKit Go.Shelf Go.Proofs.YtiklpefckadgdaaW.PrintWords Go.Proofs.YtiklpefckadgdaaW.PrintLast Go.Proofs.YtiklpefckadgdaaW.PrintMore
set_option linter.unusedVariables false
structure Dig (U Y b1 b0 c : Int) : Prop where
 y : Y = b1 * 4294967296 + b0
 b1 : 2147483648 ≤ b1 ∧ b1 < 4294967296
 b0 : 0 ≤ b0 ∧ b0 < 4294967296
 u : 0 ≤ U ∧ U < Y
 c : 0 ≤ c ∧ c < 4294967296
theorem Dig.lt {U Y b1 b0 c : Int} (h : Dig U Y b1 b0 c) : 0 ≤ (U * 4294967296 + c) / Y ∧ (U * 4294967296 + c) / Y < 4294967296 := by
 obtain ⟨hy, h1, h0, hu, hc⟩ := h
 refine ⟨Int.ediv_nonneg (by omega) (by omega), Int.ediv_lt_of_lt_mul (by omega) (by omega)⟩
theorem Dig.start {U Y b1 b0 c : Int} (h : Dig U Y b1 b0 c) : (U / b1 * b1 + (U - U / b1 * b1) = U) ∧ (U * 4294967296 + c) / Y ≤ U / b1 ∧ U / b1 ≤ 4294967297 ∧ 0 ≤ U - U / b1 * b1 ∧ U - U / b1 * b1 < 4294967296 ∧ 0 ≤ U / b1 := by
 obtain ⟨hy, h1, h0, hu, hc⟩ := h
 have e1 := Int.mul_ediv_add_emod U b1
 have e2 := Int.emod_nonneg U (show b1 ≠ 0 by omega)
 have e3 := Int.emod_lt_of_pos U (show 0 < b1 by omega)
 have e4 : U / b1 * b1 = b1 * (U / b1) := Int.mul_comm ..
 have p0 : 0 ≤ U / b1 := Int.ediv_nonneg hu.1 (by omega)
 refine ⟨by omega, ?_, ?_, by omega, by omega, p0⟩
 ·-- t <= p: t * Y <= U * 2^32 + c, so t * b1 <= U
  have t0 : 0 ≤ (U * 4294967296 + c) / Y := Int.ediv_nonneg (by omega) (by omega)
  have t1 := Int.ediv_mul_le (U * 4294967296 + c) (show Y ≠ 0 by omega)
  refine Int.le_ediv_of_mul_le (by omega) ?_
  have t2 := Int.mul_nonneg t0 h0.1
  have t3 : (U * 4294967296 + c) / Y * Y = (U * 4294967296 + c) / Y * b1 * 4294967296 + (U * 4294967296 + c) / Y * b0 := by
   rw [show (U * 4294967296 + c) / Y * Y = (U * 4294967296 + c) / Y * (b1 * 4294967296 + b0) by rw [← hy]]
   grind
  omega
 ·have : U / b1 < 4294967298 := by
   refine Int.ediv_lt_of_lt_mul (by omega) ?_
   omega
  omega
theorem Dig.step {U Y b1 b0 c p r : Int} (h : Dig U Y b1 b0 c) (hp : p * b1 + r = U) (hpt : (U * 4294967296 + c) / Y ≤ p) (hC : 4294967296 ≤ p ∨ 4294967296 * r + c < p * b0) : (U * 4294967296 + c) / Y ≤ p - 1 := by
 have hlt := h.lt
 rcases hC with g | g
 ·omega
 ·obtain ⟨hy, h1, h0, hu, hc⟩ := h
  have : (U * 4294967296 + c) / Y < p := by
   refine Int.ediv_lt_of_lt_mul (by omega) ?_
   have e : p * Y = p * b1 * 4294967296 + p * b0 := by rw [hy]; grind
   have e2 : p * b1 = U - r := by omega
   rw [e, e2]
   omega
  omega
theorem Dig.fin {U Y b1 b0 c p r : Int} (h : Dig U Y b1 b0 c) (hp : p * b1 + r = U) (hpt : (U * 4294967296 + c) / Y ≤ p) (hC : p * b0 ≤ 4294967296 * r + c) : p = (U * 4294967296 + c) / Y := by
 obtain ⟨hy, h1, h0, hu, hc⟩ := h
 have : p ≤ (U * 4294967296 + c) / Y := by
  refine Int.le_ediv_of_mul_le (by omega) ?_
  have e : p * Y = p * b1 * 4294967296 + p * b0 := by rw [hy]; grind
  have e2 : p * b1 = U - r := by omega
  rw [e, e2]
  omega
 omega
theorem Dig.out {U Y b1 b0 c p r : Int} (h : Dig U Y b1 b0 c) (hp : p * b1 + r = U) (hpt : (U * 4294967296 + c) / Y ≤ p) (hr : 4294967296 ≤ r) : p = (U * 4294967296 + c) / Y := by
 have hlt := h.lt
 refine h.fin hp hpt ?_
 obtain ⟨hy, h1, h0, hu, hc⟩ := h
 have hp32 : p < 4294967296 := by
  rcases Int.lt_or_le p 4294967296 with g | g
  ·exact g
  ·have := Int.mul_le_mul_of_nonneg_right g (show 0 ≤ b1 by omega)
   omega
 have : p * b0 ≤ 4294967296 * 4294967296 := Int.mul_le_mul (by omega) (by omega) h0.1 (by omega)
 omega
theorem Dig.rest {U Y b1 b0 c : Int} (h : Dig U Y b1 b0 c) : IntKind.u64.wrap (IntKind.u64.wrap (IntKind.u64.wrap (U * 4294967296) + c) - IntKind.u64.wrap ((U * 4294967296 + c) / Y * Y)) = (U * 4294967296 + c) % Y := by
 obtain ⟨hy, h1, h0, hu, hc⟩ := h
 have e1 := Int.mul_ediv_add_emod (U * 4294967296 + c) Y
 have e2 := Int.emod_nonneg (U * 4294967296 + c) (show Y ≠ 0 by omega)
 have e3 := Int.emod_lt_of_pos (U * 4294967296 + c) (show 0 < Y by omega)
 have e4 : (U * 4294967296 + c) / Y * Y = Y * ((U * 4294967296 + c) / Y) := Int.mul_comm ..
 simp only [IntKind.wrap, IntKind.bits, IntKind.signed]
 simp
 omega
theorem wle {x : Int} (h0 : 0 ≤ x) (h1 : x < 18446744073709551616) : IntKind.u64.wrap x = x := u64_id h0 h1
set_option maxRecDepth 100000 in
set_option maxHeartbeats 8000000 in
theorem div64_high (hi lo y s Y U Lw b1 b0 c1 c0 : Int) (h0 : 0 < hi) (h1 : hi < y) (hy : y < 18446744073709551616) (hl0 : 0 ≤ lo) (hl1 : lo < 18446744073709551616) (hs0 : 0 ≤ s) (hs1 : s ≤ 63) (hs : bits_LeadingZeros64.f 3 y = some s)
  (hY : IntKind.u64.wrap (y * 2 ^ s.toNat) = Y) (hb1 : Y / 4294967296 = b1) (hb0 : bits .and .u64 Y 4294967295 = b0) (hU : bits .or .u64 (IntKind.u64.wrap (hi * 2 ^ s.toNat)) (lo / 2 ^ (64 - s).toNat) = U) (hLw : IntKind.u64.wrap (lo * 2 ^ s.toNat) = Lw) (hc1 : Lw / 4294967296 = c1) (hc0 : bits .and .u64 Lw 4294967295 = c0)
  (D1 : Dig U Y b1 b0 c1) (D2 : Dig ((U * 4294967296 + c1) % Y) Y b1 b0 c0) (w : World) :
  Calls Try.prog 82 #[.int .u64 hi, .int .u64 lo, .int .u64 y] w fun e w' => e = .returned (.tuple #[.int .u64 ((U * 4294967296 + c1) / Y * 4294967296 + ((U * 4294967296 + c1) % Y * 4294967296 + c0) / Y), .int .u64 (((U * 4294967296 + c1) % Y * 4294967296 + c0) % Y / 2 ^ s.toNat)]) ∧ Drawn0 w w' := by
 have g1 : ¬ y = 0 := by omega
 have g2 : ¬ y ≤ hi := by omega
 have g3 : ¬ hi = 0 := by omega
 have g4 : ¬ b1 = 0 := by have := D1.b1; omega
 have HS := Aside0.mk hs
 have S1 := D1.start
 have q1 : IntKind.u64.wrap (U.tdiv b1) = U / b1 := by
  have := D1.u; have := D1.b1; have := D1.b0; have := D1.y
  rw [Int.tdiv_eq_ediv_of_nonneg (by omega)]; exact wle S1.2.2.2.2.2 (by omega)
 have q2 : IntKind.u64.wrap (U / b1 * b1) = U / b1 * b1 := by
  have := D1.u; have := D1.b1; have := D1.b0; have := D1.y
  exact wle (Int.mul_nonneg S1.2.2.2.2.2 (by omega)) (by omega)
 have q3 : IntKind.u64.wrap (U - IntKind.u64.wrap (U / b1 * b1)) = U - U / b1 * b1 := by rw [q2]; exact wle S1.2.2.2.1 (by omega)
 clear hs
 obtain ⟨p1, hp1⟩ : ∃ p, U / b1 = p := ⟨_, rfl⟩
 rw [hp1] at q1 q2 q3 S1
 obtain ⟨r1, hr1⟩ : ∃ r, U - p1 * b1 = r := ⟨_, rfl⟩
 rw [hr1] at q3 S1
 obtain ⟨T1, hT1⟩ : ∃ T, (U * 4294967296 + c1) / Y = T := ⟨_, rfl⟩
 have P1 := Aside0.mk S1
 have PD1 := Aside0.mk D1
 have PD2 := Aside0.mk D2
 have PT1 := Aside0.mk hT1
 clear q2 S1 hp1 hr1 D1 D2
 rw [hT1] at P1 ⊢
 clear hT1
 obtain ⟨V, hV⟩ : ∃ V, (U * 4294967296 + c1) % Y = V := ⟨_, rfl⟩
 rw [hV] at PD2 ⊢
 have PV := Aside0.mk hV
 obtain ⟨T2, hT2⟩ : ∃ T, (V * 4294967296 + c0) / Y = T := ⟨_, rfl⟩
 obtain ⟨W2, hW2⟩ : ∃ T, (V * 4294967296 + c0) % Y = T := ⟨_, rfl⟩
 rw [hT2, hW2]
 have PT2 := Aside0.mk hT2
 have PW2 := Aside0.mk hW2
 clear hV hT2 hW2
 go_enter Try.func82, Try.ntmps82
 go_upto_block 0 with (go_at_call 92; (with_reducible refine (bits_LeadingZeros64.calls 3 y s _ HS.out).mono ?_); rintro e w' ⟨rfl, ⟨nd, rfl⟩⟩)
 go_cut [15] (fun v15 wc => v15 = .int .u64 T1 ∧ Aside0 (∃ n, wc = w.drewN n))
 case first =>
  clear q1 q3 hY hb1 hb0 hU hLw hc1 hc0 g1 g2 g3 g4
  go_wp2
  go_loop [15, 16] (fun v v' => ∃ p r : Int, v = .int .u64 p ∧ v' = .int .u64 r ∧ Aside0 (p * b1 + r = U ∧ T1 ≤ p ∧ 0 ≤ p ∧ p ≤ 4294967297 ∧ 0 ≤ r ∧ r < 4294967296)) (fun v _ => (intOf v).toNat)
  case atStart => exact ⟨p1, r1, rfl, rfl, ⟨by have := P1.out; exact ⟨this.1, this.2.1, this.2.2.2.2.2, this.2.2.1, this.2.2.2.1, this.2.2.2.2.1⟩⟩⟩
  case round =>
   obtain ⟨p, r, rfl, rfl, I⟩ := hrel
   obtain ⟨i1, i2, i3, i4, i5, i6⟩ := I.out
   have bb := PD1.out.b1
   have bz := PD1.out.b0
   have bc := PD1.out.c
   have e1 : 1 ≤ p → IntKind.u64.wrap (p - 1) = p - 1 := fun g => wle (by omega) (by omega)
   have e2 : IntKind.u64.wrap (r + b1) = r + b1 := wle (by omega) (by omega)
   by_cases c : 4294967296 ≤ p ∨ 4294967296 * r + c1 < p * b0
   ·have hst := PD1.out.step i1 (by rw [PT1.out]; exact i2) c
    rw [PT1.out] at hst
    have hp1 : 1 ≤ p := by have := PD1.out.lt; rw [PT1.out] at this; omega
    have f1 := e1 hp1
    have i1' : (p - 1) * b1 + (r + b1) = U := by rw [Int.sub_mul]; omega
    have J := Aside0.mk (And.intro i1' (And.intro hst (And.intro hp1 (And.intro i4 (And.intro i5 i6)))))
    have DF := fun g => (PD1.out.out i1' (by rw [PT1.out]; exact hst) g).trans PT1.out
    have hc : (4294967296 ≤ p) ∨ (p < 4294967296 ∧ 4294967296 * r + c1 < p * b0) := by omega
    clear e1 i1 i1' hst c
    rcases hc with ca | ⟨ca, cb⟩
    ·have k1 : decide (4294967296 ≤ p) = true := decide_eq_true ca
     by_cases d : 4294967296 ≤ r + b1
     ·have k3 : decide (4294967296 ≤ r + b1) = true := decide_eq_true d
      have E := Aside0.mk (DF d)
      clear DF d i2 i3 i4 i5 i6 bb bz bc ca
      go_wp2
      go_meet
      case rel => exact ⟨by rw [E.out], ⟨_, rfl⟩⟩
     ·have k3 : decide (4294967296 ≤ r + b1) = false := decide_eq_false d
      have D := Aside0.mk d
      clear DF d i2 i3 i4 i5 i6 bc ca
      go_wp2
      go_round
      case rel => exact ⟨p - 1, r + b1, rfl, rfl, ⟨by have := J.out; have := D.out; have := PD1.out.b1; omega⟩⟩
      case measure => simp [intOf]; have := J.out; omega
    ·have k1 : decide (4294967296 ≤ p) = false := decide_eq_false (by omega)
     have pb0 : 0 ≤ p * b0 := Int.mul_nonneg i3 bz.1
     have pb1 : p * b0 < 18446744073709551616 := by
      have := Int.mul_le_mul (show p ≤ 4294967295 by omega) (show b0 ≤ 4294967295 by omega) bz.1 (by omega)
      omega
     have f3 : IntKind.u64.wrap (p * b0) = p * b0 := wle pb0 pb1
     have f4 : IntKind.u64.wrap (4294967296 * r) = 4294967296 * r := wle (by omega) (by omega)
     have f5 : IntKind.u64.wrap (4294967296 * r + c1) = 4294967296 * r + c1 := wle (by omega) (by omega)
     have k2 : decide (4294967296 * r + c1 < p * b0) = true := decide_eq_true cb
     by_cases d : 4294967296 ≤ r + b1
     ·have k3 : decide (4294967296 ≤ r + b1) = true := decide_eq_true d
      have E := Aside0.mk (DF d)
      clear DF d i2 i3 i4 i5 i6 bb bz bc ca cb pb0 pb1
      go_wp2
      go_meet
      case rel => exact ⟨by rw [E.out], ⟨_, rfl⟩⟩
     ·have k3 : decide (4294967296 ≤ r + b1) = false := decide_eq_false d
      have D := Aside0.mk d
      clear DF d i2 i3 i4 i5 i6 bc ca cb pb0 pb1
      go_wp2
      go_round
      case rel => exact ⟨p - 1, r + b1, rfl, rfl, ⟨by have := J.out; have := D.out; have := PD1.out.b1; omega⟩⟩
      case measure => simp [intOf]; have := J.out; omega
   ·have hfin := PD1.out.fin i1 (by rw [PT1.out]; exact i2) (by omega)
    rw [PT1.out] at hfin
    have E := Aside0.mk hfin
    clear hfin
    have k1 : decide (4294967296 ≤ p) = false := decide_eq_false (by omega)
    have pb0 : 0 ≤ p * b0 := Int.mul_nonneg i3 bz.1
    have pb1 : p * b0 < 18446744073709551616 := by
     have := Int.mul_le_mul (show p ≤ 4294967295 by omega) (show b0 ≤ 4294967295 by omega) bz.1 (by omega)
     omega
    have f3 : IntKind.u64.wrap (p * b0) = p * b0 := wle pb0 pb1
    have f4 : IntKind.u64.wrap (4294967296 * r) = 4294967296 * r := wle (by omega) (by omega)
    have f5 : IntKind.u64.wrap (4294967296 * r + c1) = 4294967296 * r + c1 := wle (by omega) (by omega)
    have k2 : decide (4294967296 * r + c1 < p * b0) = false := decide_eq_false (by omega)
    clear e1 e2 i1 i2 i3 i4 i5 i6 bb bz bc c pb0 pb1
    go_wp2
    go_meet
    case rel => exact ⟨by rw [E.out], ⟨_, rfl⟩⟩
 case rest =>
  clear q1 q3 hY hb1 hb0 hU hLw hc1 hc0 g1 g2 g3
  obtain ⟨rfl, HW⟩ := hcut
  obtain ⟨n0, hn0⟩ := HW.out
  subst hn0
  clear HW
  have R1 := PD1.out.rest
  have L1 := PD1.out.lt
  rw [PT1.out] at R1 L1
  have S2 := PD2.out.start
  have L2 := PD2.out.lt
  have R2 := PD2.out.rest
  rw [PV.out] at R1
  rw [PT2.out] at S2 L2 R2
  rw [PW2.out] at R2
  have q1 : IntKind.u64.wrap (V.tdiv b1) = V / b1 := by
   have := PD2.out.u; have := PD2.out.b1; have := PD2.out.b0; have := PD2.out.y
   rw [Int.tdiv_eq_ediv_of_nonneg (by omega)]; exact wle S2.2.2.2.2.2 (by omega)
  have q2 : IntKind.u64.wrap (V / b1 * b1) = V / b1 * b1 := by
   have := PD2.out.u; have := PD2.out.b1; have := PD2.out.b0; have := PD2.out.y
   exact wle (Int.mul_nonneg S2.2.2.2.2.2 (by omega)) (by omega)
  have q3 : IntKind.u64.wrap (V - IntKind.u64.wrap (V / b1 * b1)) = V - V / b1 * b1 := by rw [q2]; exact wle S2.2.2.2.1 (by omega)
  obtain ⟨p2, hp2⟩ : ∃ p, V / b1 = p := ⟨_, rfl⟩
  rw [hp2] at q1 q2 q3 S2
  obtain ⟨r2, hr2⟩ : ∃ r, V - p2 * b1 = r := ⟨_, rfl⟩
  rw [hr2] at q3 S2
  have P2 := Aside0.mk S2
  have PL := Aside0.mk (And.intro L1 L2)
  have PR2 := Aside0.mk R2
  clear q2 S2 hp2 hr2 L1 L2 R2
  go_upto_block 2 with (fail)
  go_cut [18] (fun v18 wc => v18 = .int .u64 T2 ∧ Aside0 (∃ n, wc = w.drewN n))
  case first =>
   clear q1 q3 R1 g4
   go_wp2
   go_loop [18, 16] (fun v v' => ∃ p r : Int, v = .int .u64 p ∧ v' = .int .u64 r ∧ Aside0 (p * b1 + r = V ∧ T2 ≤ p ∧ 0 ≤ p ∧ p ≤ 4294967297 ∧ 0 ≤ r ∧ r < 4294967296)) (fun v _ => (intOf v).toNat)
   case atStart => exact ⟨p2, r2, rfl, rfl, ⟨by have := P2.out; exact ⟨this.1, this.2.1, this.2.2.2.2.2, this.2.2.1, this.2.2.2.1, this.2.2.2.2.1⟩⟩⟩
   case round =>
    obtain ⟨p, r, rfl, rfl, I⟩ := hrel
    obtain ⟨i1, i2, i3, i4, i5, i6⟩ := I.out
    have bb := PD2.out.b1
    have bz := PD2.out.b0
    have bc := PD2.out.c
    have e1 : 1 ≤ p → IntKind.u64.wrap (p - 1) = p - 1 := fun g => wle (by omega) (by omega)
    have e2 : IntKind.u64.wrap (r + b1) = r + b1 := wle (by omega) (by omega)
    by_cases c : 4294967296 ≤ p ∨ 4294967296 * r + c0 < p * b0
    ·have hst := PD2.out.step i1 (by rw [PT2.out]; exact i2) c
     rw [PT2.out] at hst
     have hp1 : 1 ≤ p := by have := PD2.out.lt; rw [PT2.out] at this; omega
     have f1 := e1 hp1
     have i1' : (p - 1) * b1 + (r + b1) = V := by rw [Int.sub_mul]; omega
     have J := Aside0.mk (And.intro i1' (And.intro hst (And.intro hp1 (And.intro i4 (And.intro i5 i6)))))
     have DF := fun g => (PD2.out.out i1' (by rw [PT2.out]; exact hst) g).trans PT2.out
     have hc : (4294967296 ≤ p) ∨ (p < 4294967296 ∧ 4294967296 * r + c0 < p * b0) := by omega
     clear e1 i1 i1' hst c
     rcases hc with ca | ⟨ca, cb⟩
     ·have k1 : decide (4294967296 ≤ p) = true := decide_eq_true ca
      by_cases d : 4294967296 ≤ r + b1
      ·have k3 : decide (4294967296 ≤ r + b1) = true := decide_eq_true d
       have E := Aside0.mk (DF d)
       clear DF d i2 i3 i4 i5 i6 bb bz bc ca
       go_wp2
       go_meet
       case rel => exact ⟨by rw [E.out], ⟨_, rfl⟩⟩
      ·have k3 : decide (4294967296 ≤ r + b1) = false := decide_eq_false d
       have D := Aside0.mk d
       clear DF d i2 i3 i4 i5 i6 bc ca
       go_wp2
       go_round
       case rel => exact ⟨p - 1, r + b1, rfl, rfl, ⟨by have := J.out; have := D.out; have := PD2.out.b1; omega⟩⟩
       case measure => simp [intOf]; have := J.out; omega
     ·have k1 : decide (4294967296 ≤ p) = false := decide_eq_false (by omega)
      have pb0 : 0 ≤ p * b0 := Int.mul_nonneg i3 bz.1
      have pb1 : p * b0 < 18446744073709551616 := by
       have := Int.mul_le_mul (show p ≤ 4294967295 by omega) (show b0 ≤ 4294967295 by omega) bz.1 (by omega)
       omega
      have f3 : IntKind.u64.wrap (p * b0) = p * b0 := wle pb0 pb1
      have f4 : IntKind.u64.wrap (4294967296 * r) = 4294967296 * r := wle (by omega) (by omega)
      have f5 : IntKind.u64.wrap (4294967296 * r + c0) = 4294967296 * r + c0 := wle (by omega) (by omega)
      have k2 : decide (4294967296 * r + c0 < p * b0) = true := decide_eq_true cb
      by_cases d : 4294967296 ≤ r + b1
      ·have k3 : decide (4294967296 ≤ r + b1) = true := decide_eq_true d
       have E := Aside0.mk (DF d)
       clear DF d i2 i3 i4 i5 i6 bb bz bc ca cb pb0 pb1
       go_wp2
       go_meet
       case rel => exact ⟨by rw [E.out], ⟨_, rfl⟩⟩
      ·have k3 : decide (4294967296 ≤ r + b1) = false := decide_eq_false d
       have D := Aside0.mk d
       clear DF d i2 i3 i4 i5 i6 bc ca cb pb0 pb1
       go_wp2
       go_round
       case rel => exact ⟨p - 1, r + b1, rfl, rfl, ⟨by have := J.out; have := D.out; have := PD2.out.b1; omega⟩⟩
       case measure => simp [intOf]; have := J.out; omega
    ·have hfin := PD2.out.fin i1 (by rw [PT2.out]; exact i2) (by omega)
     rw [PT2.out] at hfin
     have E := Aside0.mk hfin
     clear hfin
     have k1 : decide (4294967296 ≤ p) = false := decide_eq_false (by omega)
     have pb0 : 0 ≤ p * b0 := Int.mul_nonneg i3 bz.1
     have pb1 : p * b0 < 18446744073709551616 := by
      have := Int.mul_le_mul (show p ≤ 4294967295 by omega) (show b0 ≤ 4294967295 by omega) bz.1 (by omega)
      omega
     have f3 : IntKind.u64.wrap (p * b0) = p * b0 := wle pb0 pb1
     have f4 : IntKind.u64.wrap (4294967296 * r) = 4294967296 * r := wle (by omega) (by omega)
     have f5 : IntKind.u64.wrap (4294967296 * r + c0) = 4294967296 * r + c0 := wle (by omega) (by omega)
     have k2 : decide (4294967296 * r + c0 < p * b0) = false := decide_eq_false (by omega)
     clear e1 e2 i1 i2 i3 i4 i5 i6 bb bz bc c pb0 pb1
     go_wp2
     go_meet
     case rel => exact ⟨by rw [E.out], ⟨_, rfl⟩⟩
  case rest =>
   obtain ⟨rfl, HW⟩ := hcut
   obtain ⟨n1, hn1⟩ := HW.out
   subst hn1
   clear HW q1 q3 R1 g4
   have R2 := PR2.out
   have f1 : IntKind.u64.wrap (T1 * 4294967296) = T1 * 4294967296 := wle (by have := PL.out; omega) (by have := PL.out; omega)
   have f2 : IntKind.u64.wrap (T1 * 4294967296 + T2) = T1 * 4294967296 + T2 := wle (by have := PL.out; omega) (by have := PL.out; omega)
   go_wp2
   go_ret2
   exact ⟨rfl, ⟨⟨_, rfl⟩⟩⟩
end Go.Proofs.Ytiklpefckadgdaa.P
namespace Go.Proofs.Ytiklpefckadgdaa.P
open Go.RowKit Go.Shelf Go.Proofs.YtiklpefckadgdaaW.PrintWords Go.Proofs.YtiklpefckadgdaaW.PrintLast Go.Proofs.YtiklpefckadgdaaW.PrintMore
theorem div64_any (hi lo y : Int) (h0 : 0 ≤ hi) (h1 : hi < y) (hy : y < 18446744073709551616) (hl0 : 0 ≤ lo) (hl1 : lo < 18446744073709551616) (w : World) :
  Calls Try.prog 82 #[.int .u64 hi, .int .u64 lo, .int .u64 y] w fun e w' => e = .returned (.tuple #[.int .u64 ((hi * 18446744073709551616 + lo) / y), .int .u64 ((hi * 18446744073709551616 + lo) % y)]) ∧ Drawn0 w w' := by
 by_cases hz : hi = 0
 ·subst hz
  have := div64_low lo y hl0 hl1 (by omega) hy w
  rw [show (0 : Int) * 18446744073709551616 + lo = lo by omega]
  exact this
 ·obtain ⟨s, hs, s0, s1, n0, n1⟩ := lz_eq (y := y) (by omega) hy
  have hPp : (0 : Int) < 2 ^ s.toNat := Int.pow_pos (by decide)
  have hQp : (0 : Int) < 2 ^ (64 - s).toNat := Int.pow_pos (by decide)
  have hPQ : (2 : Int) ^ s.toNat * 2 ^ (64 - s).toNat = 18446744073709551616 := by
   rw [← Int.pow_add, show s.toNat + (64 - s).toNat = 64 by omega]; decide
  have hlt : y * 2 ^ s.toNat < 2 ^ 64 := by omega
  generalize hP : (2 : Int) ^ s.toNat = P at *
  generalize hQ : (2 : Int) ^ (64 - s).toNat = Q at *
  -- the words
  have m1 : 0 ≤ hi * P := Int.mul_nonneg h0 (Int.le_of_lt hPp)
  have m2 : hi * P + P ≤ y * P := by
   have := Int.mul_le_mul_of_nonneg_right (show hi + 1 ≤ y by omega) (Int.le_of_lt hPp)
   rw [Int.add_mul, Int.one_mul] at this; exact this
  have d1 := Int.mul_ediv_add_emod lo Q
  have d2 := Int.emod_nonneg lo (show Q ≠ 0 by omega)
  have d3 := Int.emod_lt_of_pos lo hQp
  have d4 : 0 ≤ lo / Q := Int.ediv_nonneg hl0 (Int.le_of_lt hQp)
  have d5 : lo / Q < P := Int.ediv_lt_of_lt_mul hQp (by omega)
  have r0 : 0 ≤ lo % Q * P := Int.mul_nonneg d2 (Int.le_of_lt hPp)
  have r1 : lo % Q * P < 18446744073709551616 := by
   have := Int.mul_lt_mul_of_pos_right d3 hPp
   rw [Int.mul_comm Q P] at this; omega
  have e1 : lo * P = lo / Q * 18446744073709551616 + lo % Q * P := by
   have : lo * P = (Q * (lo / Q) + lo % Q) * P := by rw [d1]
   rw [this, ← hPQ]; grind
  have wY : IntKind.u64.wrap (y * P) = y * P := wle (by omega) (by omega)
  have wH : IntKind.u64.wrap (hi * P) = hi * P := wle m1 (by omega)
  have wL : IntKind.u64.wrap (lo * P) = lo % Q * P := by
   rw [e1]; simp only [IntKind.wrap, IntKind.bits, IntKind.signed]; simp; omega
  have hor : bits .or .u64 (hi * P) (lo / Q) = hi * P + lo / Q := by
   exact bits_join .u64 64 (by decide) (fun n h h' => u64_id h (by omega)) s.toNat _ _ m1 (by rw [hP]; exact Int.mul_emod_left _ _) (by omega) d4 (by rw [hP]; exact d5) (by omega)
  have aY := u64_and32 (y * P) (by omega) (by omega)
  have aL := u64_and32 (lo % Q * P) r0 r1
  -- the whole
  obtain ⟨U, hU⟩ : ∃ U, hi * P + lo / Q = U := ⟨_, rfl⟩
  obtain ⟨L, hL⟩ : ∃ L, lo % Q * P = L := ⟨_, rfl⟩
  obtain ⟨Y, hY⟩ : ∃ Y, y * P = Y := ⟨_, rfl⟩
  have hN : (hi * 18446744073709551616 + lo) * P = U * 18446744073709551616 + L := by
   rw [← hU, ← hL, Int.add_mul, e1]; grind
  rw [hL] at wL aL r0 r1
  rw [hY] at wY aY n0 n1 m2
  have D1 : Dig U Y (Y / 4294967296) (Y % 4294967296) (L / 4294967296) := ⟨by omega, by omega, by omega, by omega, by omega⟩
  have v1 := Int.mul_ediv_add_emod (U * 4294967296 + L / 4294967296) Y
  have v2 := Int.emod_nonneg (U * 4294967296 + L / 4294967296) (show Y ≠ 0 by omega)
  have v3 := Int.emod_lt_of_pos (U * 4294967296 + L / 4294967296) (show 0 < Y by omega)
  have D2 : Dig ((U * 4294967296 + L / 4294967296) % Y) Y (Y / 4294967296) (Y % 4294967296) (L % 4294967296) := ⟨by omega, by omega, by omega, by omega, by omega⟩
  have h := div64_high hi lo y s Y U L (Y / 4294967296) (Y % 4294967296) (L / 4294967296) (L % 4294967296) (by omega) h1 hy hl0 hl1 s0 s1 hs (by rw [hP, hY]; exact wY) rfl aY (by rw [hP, hQ, wH, hor, hU]) (by rw [hP]; exact wL) rfl aL D1 D2 w
  rw [hP] at h
  have x1 := Int.mul_ediv_add_emod ((U * 4294967296 + L / 4294967296) % Y * 4294967296 + L % 4294967296) Y
  have x2 := Int.emod_nonneg ((U * 4294967296 + L / 4294967296) % Y * 4294967296 + L % 4294967296) (show Y ≠ 0 by omega)
  have x3 := Int.emod_lt_of_pos ((U * 4294967296 + L / 4294967296) % Y * 4294967296 + L % 4294967296) (show 0 < Y by omega)
  generalize (U * 4294967296 + L / 4294967296) % Y = V at *
  generalize (U * 4294967296 + L / 4294967296) / Y = T1 at *
  generalize (V * 4294967296 + L % 4294967296) % Y = W2 at *
  generalize (V * 4294967296 + L % 4294967296) / Y = T2 at *
  have hNY : (hi * 18446744073709551616 + lo) * P = (T1 * 4294967296 + T2) * Y + W2 := by
   have a1 : (T1 * 4294967296 + T2) * Y = Y * T1 * 4294967296 + Y * T2 := by grind
   rw [hN, a1]; omega
  have q1 : (hi * 18446744073709551616 + lo) * P / Y = T1 * 4294967296 + T2 := (Int.ediv_eq_iff_of_pos (by omega)).2 (by omega)
  have q2 : (hi * 18446744073709551616 + lo) * P % Y = W2 := by
   have := Int.mul_ediv_add_emod ((hi * 18446744073709551616 + lo) * P) Y
   rw [q1, Int.mul_comm] at this; omega
  rw [← hY, Int.mul_ediv_mul_of_pos_left _ _ hPp] at q1
  rw [← hY, Int.mul_comm (hi * 18446744073709551616 + lo) P, Int.mul_comm y P, Int.mul_emod_mul_of_pos _ _ hPp, Int.mul_comm P] at q2
  have q3 : W2 / P = (hi * 18446744073709551616 + lo) % y := by rw [← q2]; exact Int.mul_ediv_cancel _ (by omega)
  rw [← q1, q3] at h
  exact h
def bridge_share.f (a0 : Int) (a1 : Int) (a2 : Int) : Option (Int) :=
 if 0 ≤ a0 ∧ 0 ≤ a1 ∧ 0 < a2 ∧ a2 < 9223372036854775808 ∧ a0 < 9223372036854775808 ∧ a1 < 9223372036854775808 ∧ a0 * a1 / a2 < 9223372036854775807 then some (if 0 < a0 * a1 % a2 then a0 * a1 / a2 + 1 else a0 * a1 / a2) else none
set_option maxRecDepth 100000 in
set_option maxHeartbeats 4000000 in
theorem bridge_share.calls (a0 : Int) (a1 : Int) (a2 : Int) (r : Int) (w : World) (h : bridge_share.f a0 a1 a2 = some r) :
  Calls Try.prog 52 #[.int .i64 a0, .int .i64 a1, .int .i64 a2] w fun e w' => e = .returned (.int .i64 r) ∧ Drawn0 w w' := by
 unfold bridge_share.f at h
 by_cases hg : 0 ≤ a0 ∧ 0 ≤ a1 ∧ 0 < a2 ∧ a2 < 9223372036854775808 ∧ a0 < 9223372036854775808 ∧ a1 < 9223372036854775808 ∧ a0 * a1 / a2 < 9223372036854775807
 ·rw [if_pos hg] at h
  obtain ⟨g0, g1, g2, g3, g4, g5, g6⟩ := hg
  have hp := Int.mul_nonneg g0 g1
  have hq0 : 0 ≤ a0 * a1 / a2 := Int.ediv_nonneg hp (by omega)
  have hd := Int.mul_ediv_add_emod (a0 * a1) a2
  have hd1 := Int.emod_nonneg (a0 * a1) (show a2 ≠ 0 by omega)
  have hd2 := Int.emod_lt_of_pos (a0 * a1) g2
  have u0 := u64_id g0 (by omega)
  have u1 := u64_id g1 (by omega)
  have u2 := u64_id (x := a2) (by omega) (by omega)
  have hm := mul64_eq a0 a1 g0 (by omega) g1 (by omega)
  have hh : a0 * a1 / 18446744073709551616 < a2 := by
   refine Int.ediv_lt_of_lt_mul (by decide) ?_
   have := Int.mul_le_mul_of_nonneg_left (show a0 * a1 / a2 ≤ 9223372036854775806 by omega) (show 0 ≤ a2 by omega)
   omega
  have he : a0 * a1 / 18446744073709551616 * 18446744073709551616 + a0 * a1 % 18446744073709551616 = a0 * a1 := by omega
  have hi0 : 0 ≤ a0 * a1 / 18446744073709551616 := by omega
  have hl0 : 0 ≤ a0 * a1 % 18446744073709551616 := by omega
  have hl1 : a0 * a1 % 18446744073709551616 < 18446744073709551616 := by omega
  have hdv := fun w => div64_any _ _ a2 hi0 hh (by omega) hl0 hl1 w
  simp only [he] at hdv
  generalize a0 * a1 / 18446744073709551616 = H at *
  generalize a0 * a1 % 18446744073709551616 = Lo at *
  have hdm : a0 * a1 % a2 < 9223372036854775808 := by omega
  generalize a0 * a1 / a2 = q at *
  generalize a0 * a1 % a2 = m at *
  clear he hd
  refine (callsIn_wide (n := 0)).1 (callsIn_of_wp Try.func52 rfl trivial ?_ rfl)
  simp only [Try.ntmps52, List.size_toArray, List.length_cons, List.length_nil, Nat.reduceAdd, Nat.reduceSub, Array.replicate_succ, Array.replicate_zero, List.push_toArray, List.append_toArray, List.nil_append, List.cons_append]
  gi_wp2
  refine ⟨trivial, rfl, (callsIn_wide.2 (bits_Mul64.calls a0 a1 _ _ w hm)).mono ?_⟩
  rintro e w2 ⟨rfl, hd2⟩
  gi_wp2
  refine ⟨trivial, rfl, (callsIn_wide.2 (hdv w2)).mono ?_⟩
  rintro e w3 ⟨rfl, ⟨m3, rfl⟩⟩
  by_cases hr : 0 < m
  ·rw [if_pos hr] at h
   obtain rfl := Option.some.inj h
   have q1 := u64_id (x := q + 1) (by omega) (by omega)
   have q2 : wrap64 (q + 1) = q + 1 := by unfold wrap64; omega
   gi_wp2
   go_ret
   exact ⟨rfl, hd2.step m3⟩
  ·rw [if_neg hr] at h
   obtain rfl := Option.some.inj h
   have q2 : wrap64 q = q := by unfold wrap64; omega
   gi_wp2
   go_ret
   exact ⟨rfl, hd2.step m3⟩
 ·rw [if_neg hg] at h; cases h
end Go.Proofs.Ytiklpefckadgdaa.P
noncomputable section
namespace Go.Proofs.Ytiklpefckadgdaa.P
open Go.RowKit Go.Proofs.YtiklpefckadgdaaW.PrintWords Go.Proofs.YtiklpefckadgdaaW.PrintLast Go.Proofs.YtiklpefckadgdaaW.PrintMore
attribute [local go_sem] max2_int min2_int max_two min_two max_three min_three max_four min_four   -- for this text's walks alone
set_option linter.unusedVariables false
set_option linter.unusedSimpArgs false
def bridge_CheckPavement.f (a0_0 : Int) (a0_1 : Int) (a0_2 : Int) : Option (Int) := (bridge_between.f a0_0 1 1048576).bind fun t102 => (if t102 = true then ((bridge_between.f a0_1 1 1048576).bind fun t103 => (if t103 = true then (if a0_2 < 1 then (some 2) else (if a0_2 > 6 then (some 2) else (some 0))) else (some 2))) else (some 2))
set_option maxHeartbeats 8000000 in
set_option maxRecDepth 100000 in
theorem bridge_CheckPavement.calls (a0_0 : Int) (a0_1 : Int) (a0_2 : Int) (r : Int) (w : World) (h : bridge_CheckPavement.f a0_0 a0_1 a0_2 = some r) :
  Calls Try.prog 24 #[.agg #[.int .i64 a0_0, .int .i64 a0_1, .int .i64 a0_2]] w fun e w' => e = .returned (.int .i64 r) ∧ Below w.heap.size w w' := by
 have hu43 := Try.underlying43
 have HB := Aside0.mk (Below.refl w.heap.size w)
 have H : ((bridge_between.f a0_0 1 1048576).bind fun t102 => (if t102 = true then ((bridge_between.f a0_1 1 1048576).bind fun t103 => (if t103 = true then (if a0_2 < 1 then (some 2) else (if a0_2 > 6 then (some 2) else (some 0))) else (some 2))) else (some 2))) = some r := h
 clear h
 replace H := Option.bind_eq_some_iff.mp H
 obtain ⟨t102, A20, H⟩ := H
 replace H : (if t102 = true then ((bridge_between.f a0_1 1 1048576).bind fun t103 => (if t103 = true then (if a0_2 < 1 then (some 2) else (if a0_2 > 6 then (some 2) else (some 0))) else (some 2))) else (some 2)) = some r := H
 have A2 := Aside0.mk A20
 clear A20
 by_cases c3 : t102 = true
 ·subst c3
  have H1 : ((bridge_between.f a0_1 1 1048576).bind fun t103 => (if t103 = true then (if a0_2 < 1 then (some 2) else (if a0_2 > 6 then (some 2) else (some 0))) else (some 2))) = some r := by rw [if_pos rfl] at H; exact H
  clear H
  have H := H1
  clear H1
  replace H := Option.bind_eq_some_iff.mp H
  obtain ⟨t103, A40, H⟩ := H
  replace H : (if t103 = true then (if a0_2 < 1 then (some 2) else (if a0_2 > 6 then (some 2) else (some 0))) else (some 2)) = some r := H
  have A4 := Aside0.mk A40
  clear A40
  by_cases c5 : t103 = true
  ·subst c5
   have H1 : (if a0_2 < 1 then (some 2) else (if a0_2 > 6 then (some 2) else (some 0))) = some r := by rw [if_pos rfl] at H; exact H
   clear H
   have H := H1
   clear H1
   by_cases c6 : a0_2 < 1
   ·rw [if_pos c6] at H
    have c6b0 : decide (a0_2 < 1) = true := decide_eq_true c6
    clear c6
    obtain rfl := Option.some.inj H
    go_enter Try.func24, Try.ntmps24
    go_wp2_with (first | ((with_reducible refine gate_dst (N := 1) rfl ?_); refine box_event ?hg (N := 1) ?hd (cs := #[.int .i64 a0_0, .int .i64 a0_1, .int .i64 a0_2]) (t := 43) ?hr ?_; (case hd => rfl); (case hg => rfl); (case hr => first | (go_simp; done) | (go_simp; rfl)); intro gb101 hg w7 hbox hb; have n0_ := Aside0.mk (below_step (by repeat (first | (with_reducible first | exact HB.out | apply below_alloc | apply pw_below_drewN | apply below_drew1) | exact HB.out)) hb); have n1_ := Aside0.mk (hbox); have n2_ := Aside0.mk ((by rw [hg]; exact (below_size (by repeat (first | (with_reducible first | exact HB.out | apply below_alloc | apply pw_below_drewN | apply below_drew1) | exact HB.out))) : w.heap.size ≤ gb101)); have n3_ := Aside0.mk ((by rw [hg]; exact (below_size (by repeat (first | (with_reducible first | exact HB.out | apply below_alloc | apply pw_below_drewN | apply below_drew1) | exact HB.out))) : w.heap.size ≤ gb101)); clear HB; have HB := n0_; have BK101 := n1_; have GW101 := n2_; have GE101 := n3_; clear n0_ n1_ n2_ n3_; clear hb hbox hg; have hcz8_0 : w7.cell? ⟨gb101, 0, none⟩ = some (.int .i64 a0_0) := (blk_cell BK101.out 0).trans rfl; have hcz8_1 : w7.cell? ⟨gb101, 1, none⟩ = some (.int .i64 a0_1) := (blk_cell BK101.out 1).trans rfl; have hcz8_2 : w7.cell? ⟨gb101, 2, none⟩ = some (.int .i64 a0_2) := (blk_cell BK101.out 2).trans rfl; have hfz8_0 := blk_frozen BK101.out 0; have hfz8_1 := blk_frozen BK101.out 1; have hfz8_2 := blk_frozen BK101.out 2) | ((with_reducible refine gate_callee (f := 44) rfl ?_); refine goesL_ (some 5) rfl rfl Try.func44 (by kernel_rfl) rfl #[.int .i64 a0_0, .int .i64 1, .int .i64 1048576] rfl (by (try simp only [List.map_toArray, List.map_cons, List.map_nil]); first | done | rfl | (simp only [List.length_drop, List.length_take]; rfl)) ?_; (with_reducible refine (bridge_between.calls a0_0 1 1048576 true _ A2.out).mono ?_); rintro e w' ⟨rfl, ⟨nd, rfl⟩⟩; refine ⟨_, rfl, ?_⟩) | (go_at_call 44; (with_reducible refine (bridge_between.calls a0_1 1 1048576 true _ A4.out).mono ?_); rintro e w' ⟨rfl, ⟨nd, rfl⟩⟩))
    go_ret
    exact ⟨by first | rfl | (simp [errW_none, errW_some] <;> rfl) | (simp [*, errW_none, errW_some] <;> rfl), by repeat (first | (with_reducible first | exact HB.out | apply below_alloc | apply pw_below_drewN | apply below_drew1 | refine below_set ?_ GE101.out) | exact HB.out)⟩
   ·rw [if_neg c6] at H
    have c6b0 : decide (a0_2 < 1) = false := decide_eq_false c6
    clear c6
    by_cases c9 : a0_2 > 6
    ·rw [if_pos c9] at H
     have c9b0 : decide (6 < a0_2) = true := decide_eq_true c9
     clear c9
     obtain rfl := Option.some.inj H
     go_enter Try.func24, Try.ntmps24
     go_wp2_with (first | ((with_reducible refine gate_dst (N := 1) rfl ?_); refine box_event ?hg (N := 1) ?hd (cs := #[.int .i64 a0_0, .int .i64 a0_1, .int .i64 a0_2]) (t := 43) ?hr ?_; (case hd => rfl); (case hg => rfl); (case hr => first | (go_simp; done) | (go_simp; rfl)); intro gb101 hg w10 hbox hb; have n0_ := Aside0.mk (below_step (by repeat (first | (with_reducible first | exact HB.out | apply below_alloc | apply pw_below_drewN | apply below_drew1) | exact HB.out)) hb); have n1_ := Aside0.mk (hbox); have n2_ := Aside0.mk ((by rw [hg]; exact (below_size (by repeat (first | (with_reducible first | exact HB.out | apply below_alloc | apply pw_below_drewN | apply below_drew1) | exact HB.out))) : w.heap.size ≤ gb101)); have n3_ := Aside0.mk ((by rw [hg]; exact (below_size (by repeat (first | (with_reducible first | exact HB.out | apply below_alloc | apply pw_below_drewN | apply below_drew1) | exact HB.out))) : w.heap.size ≤ gb101)); clear HB; have HB := n0_; have BK101 := n1_; have GW101 := n2_; have GE101 := n3_; clear n0_ n1_ n2_ n3_; clear hb hbox hg; have hcz11_0 : w10.cell? ⟨gb101, 0, none⟩ = some (.int .i64 a0_0) := (blk_cell BK101.out 0).trans rfl; have hcz11_1 : w10.cell? ⟨gb101, 1, none⟩ = some (.int .i64 a0_1) := (blk_cell BK101.out 1).trans rfl; have hcz11_2 : w10.cell? ⟨gb101, 2, none⟩ = some (.int .i64 a0_2) := (blk_cell BK101.out 2).trans rfl; have hfz11_0 := blk_frozen BK101.out 0; have hfz11_1 := blk_frozen BK101.out 1; have hfz11_2 := blk_frozen BK101.out 2) | ((with_reducible refine gate_callee (f := 44) rfl ?_); refine goesL_ (some 5) rfl rfl Try.func44 (by kernel_rfl) rfl #[.int .i64 a0_0, .int .i64 1, .int .i64 1048576] rfl (by (try simp only [List.map_toArray, List.map_cons, List.map_nil]); first | done | rfl | (simp only [List.length_drop, List.length_take]; rfl)) ?_; (with_reducible refine (bridge_between.calls a0_0 1 1048576 true _ A2.out).mono ?_); rintro e w' ⟨rfl, ⟨nd, rfl⟩⟩; refine ⟨_, rfl, ?_⟩) | (go_at_call 44; (with_reducible refine (bridge_between.calls a0_1 1 1048576 true _ A4.out).mono ?_); rintro e w' ⟨rfl, ⟨nd, rfl⟩⟩))
     go_ret
     exact ⟨by first | rfl | (simp [errW_none, errW_some] <;> rfl) | (simp [*, errW_none, errW_some] <;> rfl), by repeat (first | (with_reducible first | exact HB.out | apply below_alloc | apply pw_below_drewN | apply below_drew1 | refine below_set ?_ GE101.out) | exact HB.out)⟩
    ·rw [if_neg c9] at H
     have c9b0 : decide (6 < a0_2) = false := decide_eq_false c9
     clear c9
     obtain rfl := Option.some.inj H
     go_enter Try.func24, Try.ntmps24
     go_wp2_with (first | ((with_reducible refine gate_dst (N := 1) rfl ?_); refine box_event ?hg (N := 1) ?hd (cs := #[.int .i64 a0_0, .int .i64 a0_1, .int .i64 a0_2]) (t := 43) ?hr ?_; (case hd => rfl); (case hg => rfl); (case hr => first | (go_simp; done) | (go_simp; rfl)); intro gb101 hg w12 hbox hb; have n0_ := Aside0.mk (below_step (by repeat (first | (with_reducible first | exact HB.out | apply below_alloc | apply pw_below_drewN | apply below_drew1) | exact HB.out)) hb); have n1_ := Aside0.mk (hbox); have n2_ := Aside0.mk ((by rw [hg]; exact (below_size (by repeat (first | (with_reducible first | exact HB.out | apply below_alloc | apply pw_below_drewN | apply below_drew1) | exact HB.out))) : w.heap.size ≤ gb101)); have n3_ := Aside0.mk ((by rw [hg]; exact (below_size (by repeat (first | (with_reducible first | exact HB.out | apply below_alloc | apply pw_below_drewN | apply below_drew1) | exact HB.out))) : w.heap.size ≤ gb101)); clear HB; have HB := n0_; have BK101 := n1_; have GW101 := n2_; have GE101 := n3_; clear n0_ n1_ n2_ n3_; clear hb hbox hg; have hcz13_0 : w12.cell? ⟨gb101, 0, none⟩ = some (.int .i64 a0_0) := (blk_cell BK101.out 0).trans rfl; have hcz13_1 : w12.cell? ⟨gb101, 1, none⟩ = some (.int .i64 a0_1) := (blk_cell BK101.out 1).trans rfl; have hcz13_2 : w12.cell? ⟨gb101, 2, none⟩ = some (.int .i64 a0_2) := (blk_cell BK101.out 2).trans rfl; have hfz13_0 := blk_frozen BK101.out 0; have hfz13_1 := blk_frozen BK101.out 1; have hfz13_2 := blk_frozen BK101.out 2) | ((with_reducible refine gate_callee (f := 44) rfl ?_); refine goesL_ (some 5) rfl rfl Try.func44 (by kernel_rfl) rfl #[.int .i64 a0_0, .int .i64 1, .int .i64 1048576] rfl (by (try simp only [List.map_toArray, List.map_cons, List.map_nil]); first | done | rfl | (simp only [List.length_drop, List.length_take]; rfl)) ?_; (with_reducible refine (bridge_between.calls a0_0 1 1048576 true _ A2.out).mono ?_); rintro e w' ⟨rfl, ⟨nd, rfl⟩⟩; refine ⟨_, rfl, ?_⟩) | (go_at_call 44; (with_reducible refine (bridge_between.calls a0_1 1 1048576 true _ A4.out).mono ?_); rintro e w' ⟨rfl, ⟨nd, rfl⟩⟩))
     go_ret
     exact ⟨by first | rfl | (simp [errW_none, errW_some] <;> rfl) | (simp [*, errW_none, errW_some] <;> rfl), by repeat (first | (with_reducible first | exact HB.out | apply below_alloc | apply pw_below_drewN | apply below_drew1 | refine below_set ?_ GE101.out) | exact HB.out)⟩
  ·replace c5 := Bool.eq_false_iff.mpr c5
   subst c5
   have H1 : (some 2) = some r := by rw [if_neg (show ¬ (false = true) by decide)] at H; exact H
   clear H
   have H := H1
   clear H1
   obtain rfl := Option.some.inj H
   go_enter Try.func24, Try.ntmps24
   go_wp2_with (first | ((with_reducible refine gate_dst (N := 1) rfl ?_); refine box_event ?hg (N := 1) ?hd (cs := #[.int .i64 a0_0, .int .i64 a0_1, .int .i64 a0_2]) (t := 43) ?hr ?_; (case hd => rfl); (case hg => rfl); (case hr => first | (go_simp; done) | (go_simp; rfl)); intro gb101 hg w14 hbox hb; have n0_ := Aside0.mk (below_step (by repeat (first | (with_reducible first | exact HB.out | apply below_alloc | apply pw_below_drewN | apply below_drew1) | exact HB.out)) hb); have n1_ := Aside0.mk (hbox); have n2_ := Aside0.mk ((by rw [hg]; exact (below_size (by repeat (first | (with_reducible first | exact HB.out | apply below_alloc | apply pw_below_drewN | apply below_drew1) | exact HB.out))) : w.heap.size ≤ gb101)); have n3_ := Aside0.mk ((by rw [hg]; exact (below_size (by repeat (first | (with_reducible first | exact HB.out | apply below_alloc | apply pw_below_drewN | apply below_drew1) | exact HB.out))) : w.heap.size ≤ gb101)); clear HB; have HB := n0_; have BK101 := n1_; have GW101 := n2_; have GE101 := n3_; clear n0_ n1_ n2_ n3_; clear hb hbox hg; have hcz15_0 : w14.cell? ⟨gb101, 0, none⟩ = some (.int .i64 a0_0) := (blk_cell BK101.out 0).trans rfl; have hcz15_1 : w14.cell? ⟨gb101, 1, none⟩ = some (.int .i64 a0_1) := (blk_cell BK101.out 1).trans rfl; have hcz15_2 : w14.cell? ⟨gb101, 2, none⟩ = some (.int .i64 a0_2) := (blk_cell BK101.out 2).trans rfl; have hfz15_0 := blk_frozen BK101.out 0; have hfz15_1 := blk_frozen BK101.out 1; have hfz15_2 := blk_frozen BK101.out 2) | ((with_reducible refine gate_callee (f := 44) rfl ?_); refine goesL_ (some 5) rfl rfl Try.func44 (by kernel_rfl) rfl #[.int .i64 a0_0, .int .i64 1, .int .i64 1048576] rfl (by (try simp only [List.map_toArray, List.map_cons, List.map_nil]); first | done | rfl | (simp only [List.length_drop, List.length_take]; rfl)) ?_; (with_reducible refine (bridge_between.calls a0_0 1 1048576 true _ A2.out).mono ?_); rintro e w' ⟨rfl, ⟨nd, rfl⟩⟩; refine ⟨_, rfl, ?_⟩) | (go_at_call 44; (with_reducible refine (bridge_between.calls a0_1 1 1048576 false _ A4.out).mono ?_); rintro e w' ⟨rfl, ⟨nd, rfl⟩⟩))
   go_ret
   exact ⟨by first | rfl | (simp [errW_none, errW_some] <;> rfl) | (simp [*, errW_none, errW_some] <;> rfl), by repeat (first | (with_reducible first | exact HB.out | apply below_alloc | apply pw_below_drewN | apply below_drew1 | refine below_set ?_ GE101.out) | exact HB.out)⟩
 ·replace c3 := Bool.eq_false_iff.mpr c3
  subst c3
  have H1 : (some 2) = some r := by rw [if_neg (show ¬ (false = true) by decide)] at H; exact H
  clear H
  have H := H1
  clear H1
  obtain rfl := Option.some.inj H
  go_enter Try.func24, Try.ntmps24
  go_wp2_with (first | ((with_reducible refine gate_dst (N := 1) rfl ?_); refine box_event ?hg (N := 1) ?hd (cs := #[.int .i64 a0_0, .int .i64 a0_1, .int .i64 a0_2]) (t := 43) ?hr ?_; (case hd => rfl); (case hg => rfl); (case hr => first | (go_simp; done) | (go_simp; rfl)); intro gb101 hg w16 hbox hb; have n0_ := Aside0.mk (below_step (by repeat (first | (with_reducible first | exact HB.out | apply below_alloc | apply pw_below_drewN | apply below_drew1) | exact HB.out)) hb); have n1_ := Aside0.mk (hbox); have n2_ := Aside0.mk ((by rw [hg]; exact (below_size (by repeat (first | (with_reducible first | exact HB.out | apply below_alloc | apply pw_below_drewN | apply below_drew1) | exact HB.out))) : w.heap.size ≤ gb101)); have n3_ := Aside0.mk ((by rw [hg]; exact (below_size (by repeat (first | (with_reducible first | exact HB.out | apply below_alloc | apply pw_below_drewN | apply below_drew1) | exact HB.out))) : w.heap.size ≤ gb101)); clear HB; have HB := n0_; have BK101 := n1_; have GW101 := n2_; have GE101 := n3_; clear n0_ n1_ n2_ n3_; clear hb hbox hg; have hcz17_0 : w16.cell? ⟨gb101, 0, none⟩ = some (.int .i64 a0_0) := (blk_cell BK101.out 0).trans rfl; have hcz17_1 : w16.cell? ⟨gb101, 1, none⟩ = some (.int .i64 a0_1) := (blk_cell BK101.out 1).trans rfl; have hcz17_2 : w16.cell? ⟨gb101, 2, none⟩ = some (.int .i64 a0_2) := (blk_cell BK101.out 2).trans rfl; have hfz17_0 := blk_frozen BK101.out 0; have hfz17_1 := blk_frozen BK101.out 1; have hfz17_2 := blk_frozen BK101.out 2) | ((with_reducible refine gate_callee (f := 44) rfl ?_); refine goesL_ (some 5) rfl rfl Try.func44 (by kernel_rfl) rfl #[.int .i64 a0_0, .int .i64 1, .int .i64 1048576] rfl (by (try simp only [List.map_toArray, List.map_cons, List.map_nil]); first | done | rfl | (simp only [List.length_drop, List.length_take]; rfl)) ?_; (with_reducible refine (bridge_between.calls a0_0 1 1048576 false _ A2.out).mono ?_); rintro e w' ⟨rfl, ⟨nd, rfl⟩⟩; refine ⟨_, rfl, ?_⟩))
  go_ret
  exact ⟨by first | rfl | (simp [errW_none, errW_some] <;> rfl) | (simp [*, errW_none, errW_some] <;> rfl), by repeat (first | (with_reducible first | exact HB.out | apply below_alloc | apply pw_below_drewN | apply below_drew1 | refine below_set ?_ GE101.out) | exact HB.out)⟩
end Go.Proofs.Ytiklpefckadgdaa.P
noncomputable section
namespace Go.Proofs.Ytiklpefckadgdaa.P
open Go.RowKit Go.Proofs.YtiklpefckadgdaaW.PrintWords Go.Proofs.YtiklpefckadgdaaW.PrintLast Go.Proofs.YtiklpefckadgdaaW.PrintMore
attribute [local go_sem] max2_int min2_int max_two min_two max_three min_three max_four min_four   -- for this text's walks alone
set_option linter.unusedVariables false
set_option linter.unusedSimpArgs false
def bridge_up.f (a0 : Int) (a1 : Int) : Option (Int) := if a1 = 0 then (none) else (some (wrap64 (Int.tdiv (wrap64 ((wrap64 (a0 + a1)) - 1)) a1)))
set_option maxHeartbeats 8000000 in
set_option maxRecDepth 100000 in
theorem bridge_up.calls (a0 : Int) (a1 : Int) (r : Int) (w : World) (h : bridge_up.f a0 a1 = some r) :
  Calls Try.prog 55 #[.int .i64 a0, .int .i64 a1] w fun e w' => e = .returned (.int .i64 r) ∧ Drawn0 w w' := by
 have H : (if a1 = 0 then (none) else (some (wrap64 (Int.tdiv (wrap64 ((wrap64 (a0 + a1)) - 1)) a1)))) = some r := h
 clear h
 by_cases c3 : a1 = 0
 ·rw [if_pos c3] at H
  exact absurd H (by simp)
 ·rw [if_neg c3] at H
  have c3b0 : (a1 == 0) = false := beq_eq_false_iff_ne.mpr c3
  have c3b1 : (a1 != 0) = true := bne_iff_ne.mpr c3
  obtain rfl := Option.some.inj H
  go_enter Try.func55, Try.ntmps55
  go_wp2
  go_ret
  exact ⟨by first | rfl | (simp; done) | (simp [*]; done), by repeat (first | exact Drawn0.refl _ | apply Drawn0.step)⟩
end Go.Proofs.Ytiklpefckadgdaa.P
