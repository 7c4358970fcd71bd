/- The law PlaneMeets answers true at every input and leaves its arguments as they were; no condition. Part 6 of 6: the row. -/
import Derived.Test.YtegdcnjjelgpjaaCPlaneMeets0
import Derived.Test.YtegdcnjjelgpjaaCPlaneMeets1
import Derived.Test.YtegdcnjjelgpjaaCPlaneMeets2
import Derived.Test.YtegdcnjjelgpjaaCPlaneMeets4
import Derived.Test.YtegdcnjjelgpjaaCPlaneMeets3
import Derived.Test.YtegdcnjjelgpjaaRows
import Derived.WalkKit
import Derived.ProofKit
import Derived.OpenShut
import Derived.ShutString
import Derived.ChangeOld
import Derived.Below
import Derived.SizedLaws
import Derived.Carry
import Derived.Lib.SmallJoins
set_option linter.unusedVariables false
set_option linter.unusedSimpArgs false
namespace Go.Proofs.Ytegdcnjjelgpjaa.P
open Go.RowKit Go.Proofs.YtegdcnjjelgpjaaW.PrintWords Go.Proofs.YtegdcnjjelgpjaaW.PrintLast Go.Proofs.YtegdcnjjelgpjaaW.PrintMore
attribute [local go_sem] max2_int min2_int max_two min_two max_three min_three max_four min_four   -- for this text's walks alone
set_option linter.unusedVariables false
set_option linter.unusedSimpArgs false
def plane_Hull.f (k : Nat) (l0 : List (S23)) : Option ((List (S23)) × Int) := (plane_checkPoints.f k (([l0] : List (List (S23))))).bind fun t104 => (if t104 = 0 then (if (l0.length : Int) = 0 then (some (([] : List (S23)), 5)) else ((plane_corners.f l0).bind fun t105 => (some (t105, 0)))) else (some (([] : List (S23)), t104)))
theorem plane_Hull.mono : ∀ a0 k, LeO (plane_Hull.f k a0) (plane_Hull.f (k + 1) a0) := by
 intro a0 k
 unfold plane_Hull.f
 repeat' first
   | (with_reducible exact plane_checkPoints.mono _ _)
   | (with_reducible exact LeO.refl _)
   | (with_reducible exact LeO.none _)
   | (with_reducible refine LeO.ite ?_ ?_)
   | (with_reducible refine LeO.bind ?_ (fun _ => ?_))
   | exact plane_checkPoints.mono _ _
   | exact LeO.none _
   | refine LeO.ite ?_ ?_
   | refine LeO.bind ?_ (fun _ => ?_)
set_option maxHeartbeats 8000000 in
set_option maxRecDepth 100000 in
theorem plane_Hull.calls (k : Nat) (P0_ : Nat → Prop) (A0 : Option Addr) (c0 : Nat) (l0 : List (S23)) (r1 : List (S23)) (r2 : Int) (w : World) (hs0 : Kd.V k23 23 w w.heap.size (fun k_ => P0_ k_) (.slice A0 l0.length c0) l0) (h : plane_Hull.f k l0 = some (r1, r2)) :
  Calls Try.prog 46 #[.slice A0 l0.length c0] w fun e w' => ∃ v0_ : Value, e = .returned (.tuple #[v0_, .int .i64 r2]) ∧ Kd.R k23 23 w' w.heap.size (fun k_ => (w.heap.size ≤ k_)) v0_ r1 ∧ Below w.heap.size w w' := by
 have HO0 := Aside0.mk (show Kd.V k23 23 w w.heap.size (fun k_ => (P0_ k_ ∨ w.heap.size ≤ k_)) (.slice A0 l0.length c0) l0 from Kd.V_mono hs0 (fun k_ hk => .inl hk))
 have HB := Aside0.mk (Below.refl w.heap.size w)
 have H : ((plane_checkPoints.f k (([l0] : List (List (S23))))).bind fun t104 => (if t104 = 0 then (if (l0.length : Int) = 0 then (some (([] : List (S23)), 5)) else ((plane_corners.f l0).bind fun t105 => (some (t105, 0)))) else (some (([] : List (S23)), t104)))) = some (r1, r2) := h
 clear h
 obtain ⟨y101, hy101⟩ : ∃ y_ : List (List (S23)), y_ = (([l0] : List (List (S23)))) := ⟨_, rfl⟩
 replace H : ((plane_checkPoints.f k y101).bind fun t104 => (if t104 = 0 then (if (l0.length : Int) = 0 then (some (([] : List (S23)), 5)) else ((plane_corners.f l0).bind fun t105 => (some (t105, 0)))) else (some (([] : List (S23)), t104)))) = some (r1, r2) := by first | (rw [hy101]; with_reducible exact H) | (have H2_ := (Option.bind_some _ _).symm.trans H; rw [hy101]; with_reducible exact H2_) | (have H2_ := (Option.bind_some _ _).symm.trans H; with_reducible exact H2_) | with_reducible exact H | (rw [hy101]; exact H) | exact H
 have Ny101 := Aside0.mk hy101
 clear hy101
 replace H := Option.bind_eq_some_iff.mp H
 obtain ⟨t104, A20, H⟩ := H
 replace H : (if t104 = 0 then (if (l0.length : Int) = 0 then (some (([] : List (S23)), 5)) else ((plane_corners.f l0).bind fun t105 => (some (t105, 0)))) else (some (([] : List (S23)), t104))) = some (r1, r2) := H
 have A2 := Aside0.mk A20
 clear A20
 by_cases c3 : t104 = 0
 ·rw [if_pos c3] at H
  have c3b0 : (t104 == 0) = true := beq_iff_eq.mpr c3
  have c3b1 : (t104 != 0) = false := bne_eq_false_iff_eq.mpr c3
  clear c3
  by_cases c4 : (l0.length : Int) = 0
  ·rw [if_pos c4] at H
   have c4b0 : ((l0.length : Int) == 0) = true := beq_iff_eq.mpr c4
   have c4b1 : ((l0.length : Int) != 0) = false := bne_eq_false_iff_eq.mpr c4
   clear c4
   simp only [Option.some.injEq, Prod.mk.injEq] at H
   obtain ⟨rfl, rfl⟩ := H
   go_enter Try.func46, Try.ntmps46
   go_wp2_with (first | ((with_reducible refine gate_dst (N := 6) rfl ?_); refine Kd.N_lit (Kd.slice 23 k23) _ 53 ?hg (N' := 6) ?hd (xs := ([l0] : List (List (S23)))) (inner := [.slice A0 l0.length c0]) (ok := (fun k_ => (P0_ k_ ∨ w.heap.size ≤ k_))) (okp := (fun k_ => (P0_ k_ ∨ w.heap.size ≤ k_))) ?hr ?hp (fun _ hk => hk) ((show ∀ k_, w.heap.size ≤ k_ → (fun k_ => (P0_ k_ ∨ w.heap.size ≤ k_)) k_ from fun k_ hk => (.inr (Nat.le_trans (below_size (bB0 HB)) hk))) _ (Nat.le_refl _)) (Below.refl _ _) (Nat.le_refl _) (by simp) ?_; (case hd => rfl); (case hg => rfl); (case hr => first | (go_simp; done) | (go_simp; rfl)); (case hp => exact (Reps.one (show Kd.FK (Kd.slice 23 k23) _ _ l0 [.slice A0 l0.length c0] from (Kd.FK_slice_mk (Kd.V_reads' (Kd.V_mono (ok' := (fun k_ => (P0_ k_ ∨ w.heap.size ≤ k_))) (HO0.out) (fun k_ hk => hk))).2.1 (Kd.V_F (Kd.V_mono (ok' := (fun k_ => (P0_ k_ ∨ w.heap.size ≤ k_))) (HO0.out) (fun k_ hk => hk))))) (Reps.none _ _))); intro v102 w5 ho6 hb hg_ hnew_; clear hg_ hnew_; (first | rw [← Ny101.out] at ho6 | (simp only [Int.reduceToNat] at ho6; rw [← Ny101.out] at ho6)); replace HO0 := Aside0.mk (Kd.V_elder' (vB HO0) (Kd.N_base ho6) hb); have HO103 := Aside0.mk (Kd.N_lower ho6 (below_size (bB0 HB))); replace HB := Aside0.mk (below_step (bB0 HB) hb); clear hb ho6; obtain ⟨Ao7, co7, eo7⟩ := Kd.N_slice HO103.out; subst eo7) | ((with_reducible refine gate_callee (f := 88) rfl ?_); refine goesL_ (some 7) rfl rfl Try.func88 (by kernel_rfl) rfl #[.slice Ao7 y101.length co7] rfl mB ?_; (with_reducible refine (plane_checkPoints.calls k _ _ y101 t104 _ ?side1 ?side2 A2.out).mono ?_); (case side1 => repeat (first | exact (Kd.N_reads' HO103.out).2.2 | (with_reducible refine Kd.C_alloc ?_ _) | (with_reducible refine Kd.C_drewN ?_ _) | (with_reducible refine Kd.C_drew ?_))); (case side2 => exact (Kd.N_reads' HO103.out).2.1); rintro e w8 ⟨rfl, hb⟩; refine ⟨_, rfl, ?_⟩; replace HO0 := Aside0.mk (Kd.V_below (vB HO0) hb); replace HO103 := Aside0.mk (Kd.N_below (by (with_reducible repeat (first | apply Kd.N_alloc | apply Kd.N_drewN | apply Kd.N_drew)); exact HO103.out) hb); replace HB := Aside0.mk (below_step (bB0 HB) hb); (try clear hb); (try clear hb2); (try clear hk); (try clear hi)))
   go_ret2
   exact ⟨_, eB, by first | exact Kd.R_nil _ _ _ _ _ | exact Kd.N_nil _ _ _ _ _ | exact Kd.V_nil _ _ _ _ _ | exact Kd.Q_nil _ _ _ _ _ | exact Kd.S_nil _ _ _ _ _, bB0 HB⟩
  ·rw [if_neg c4] at H
   have c4b0 : ((l0.length : Int) == 0) = false := beq_eq_false_iff_ne.mpr c4
   have c4b1 : ((l0.length : Int) != 0) = true := bne_iff_ne.mpr c4
   have c4b2 : ¬ (l0 = []) := fun h_ => c4 (by rw [h_]; rfl)
   replace H := Option.bind_eq_some_iff.mp H
   obtain ⟨t105, A90, H⟩ := H
   replace H : (some (t105, 0)) = some (r1, r2) := H
   have A9 := Aside0.mk A90
   clear A90
   simp only [Option.some.injEq, Prod.mk.injEq] at H
   obtain ⟨rfl, rfl⟩ := H
   go_enter Try.func46, Try.ntmps46
   go_wp2_with (first | ((with_reducible refine gate_dst (N := 6) rfl ?_); refine Kd.N_lit (Kd.slice 23 k23) _ 53 ?hg (N' := 6) ?hd (xs := ([l0] : List (List (S23)))) (inner := [.slice A0 l0.length c0]) (ok := (fun k_ => (P0_ k_ ∨ w.heap.size ≤ k_))) (okp := (fun k_ => (P0_ k_ ∨ w.heap.size ≤ k_))) ?hr ?hp (fun _ hk => hk) ((show ∀ k_, w.heap.size ≤ k_ → (fun k_ => (P0_ k_ ∨ w.heap.size ≤ k_)) k_ from fun k_ hk => (.inr (Nat.le_trans (below_size (bB0 HB)) hk))) _ (Nat.le_refl _)) (Below.refl _ _) (Nat.le_refl _) (by simp) ?_; (case hd => rfl); (case hg => rfl); (case hr => first | (go_simp; done) | (go_simp; rfl)); (case hp => exact (Reps.one (show Kd.FK (Kd.slice 23 k23) _ _ l0 [.slice A0 l0.length c0] from (Kd.FK_slice_mk (Kd.V_reads' (Kd.V_mono (ok' := (fun k_ => (P0_ k_ ∨ w.heap.size ≤ k_))) (HO0.out) (fun k_ hk => hk))).2.1 (Kd.V_F (Kd.V_mono (ok' := (fun k_ => (P0_ k_ ∨ w.heap.size ≤ k_))) (HO0.out) (fun k_ hk => hk))))) (Reps.none _ _))); intro v102 w10 ho11 hb hg_ hnew_; clear hg_ hnew_; (first | rw [← Ny101.out] at ho11 | (simp only [Int.reduceToNat] at ho11; rw [← Ny101.out] at ho11)); replace HO0 := Aside0.mk (Kd.V_elder' (vB HO0) (Kd.N_base ho11) hb); have HO103 := Aside0.mk (Kd.N_lower ho11 (below_size (bB0 HB))); replace HB := Aside0.mk (below_step (bB0 HB) hb); clear hb ho11; obtain ⟨Ao12, co12, eo12⟩ := Kd.N_slice HO103.out; subst eo12) | ((with_reducible refine gate_callee (f := 88) rfl ?_); refine goesL_ (some 7) rfl rfl Try.func88 (by kernel_rfl) rfl #[.slice Ao12 y101.length co12] rfl mB ?_; (with_reducible refine (plane_checkPoints.calls k _ _ y101 t104 _ ?side1 ?side2 A2.out).mono ?_); (case side1 => repeat (first | exact (Kd.N_reads' HO103.out).2.2 | (with_reducible refine Kd.C_alloc ?_ _) | (with_reducible refine Kd.C_drewN ?_ _) | (with_reducible refine Kd.C_drew ?_))); (case side2 => exact (Kd.N_reads' HO103.out).2.1); rintro e w13 ⟨rfl, hb⟩; refine ⟨_, rfl, ?_⟩; replace HO0 := Aside0.mk (Kd.V_below (vB HO0) hb); replace HO103 := Aside0.mk (Kd.N_below (by (with_reducible repeat (first | apply Kd.N_alloc | apply Kd.N_drewN | apply Kd.N_drew)); exact HO103.out) hb); replace HB := Aside0.mk (below_step (bB0 HB) hb); (try clear hb); (try clear hb2); (try clear hk); (try clear hi)) | ((with_reducible refine gate_callee (f := 92) rfl ?_); refine goesL_ (some 15) rfl rfl Try.func92 (by kernel_rfl) rfl #[.slice A0 l0.length c0] rfl mB ?_; (with_reducible refine (plane_corners.calls _ _ l0 t105 _ ?side1 ?side2 A9.out).mono ?_); (case side1 => repeat (first | exact (Kd.V_reads' HO0.out).2.2 | (with_reducible refine Kd.C_alloc ?_ _) | (with_reducible refine Kd.C_drewN ?_ _) | (with_reducible refine Kd.C_drew ?_))); (case side2 => exact (Kd.V_reads' HO0.out).2.1); rintro e w14 ⟨v106, rfl, ho0, hb⟩; refine ⟨_, rfl, ?_⟩; replace HO0 := Aside0.mk (Kd.V_elder' (vB HO0) (Kd.R_base ho0) hb); replace HO103 := Aside0.mk (Kd.N_elder' (by (with_reducible repeat (first | apply Kd.N_alloc | apply Kd.N_drewN | apply Kd.N_drew)); exact HO103.out) (Kd.R_base ho0) hb); have HO107 := Aside0.mk (Kd.R_lower (Kd.R_newM (M := fun k_ => (w.heap.size ≤ k_)) ho0 (below_size (bB0 HB)) (fun k_ h_ => h_)) (below_size (bB0 HB))); replace HB := Aside0.mk (below_step (bB0 HB) hb); (try clear hb); (try clear hb2); (try clear hk); (try clear hi); (try clear ho0)))
   go_ret2
   exact ⟨_, eB, by (with_reducible repeat (first | apply Kd.R_alloc | apply Kd.R_drewN | apply Kd.R_drew)); exact Kd.R_mono HO107.out (fun _ hk => hk.1), bB0 HB⟩
 ·rw [if_neg c3] at H
  have c3b0 : (t104 == 0) = false := beq_eq_false_iff_ne.mpr c3
  have c3b1 : (t104 != 0) = true := bne_iff_ne.mpr c3
  simp only [Option.some.injEq, Prod.mk.injEq] at H
  obtain ⟨rfl, rfl⟩ := H
  go_enter Try.func46, Try.ntmps46
  go_wp2_with (first | ((with_reducible refine gate_dst (N := 6) rfl ?_); refine Kd.N_lit (Kd.slice 23 k23) _ 53 ?hg (N' := 6) ?hd (xs := ([l0] : List (List (S23)))) (inner := [.slice A0 l0.length c0]) (ok := (fun k_ => (P0_ k_ ∨ w.heap.size ≤ k_))) (okp := (fun k_ => (P0_ k_ ∨ w.heap.size ≤ k_))) ?hr ?hp (fun _ hk => hk) ((show ∀ k_, w.heap.size ≤ k_ → (fun k_ => (P0_ k_ ∨ w.heap.size ≤ k_)) k_ from fun k_ hk => (.inr (Nat.le_trans (below_size (bB0 HB)) hk))) _ (Nat.le_refl _)) (Below.refl _ _) (Nat.le_refl _) (by simp) ?_; (case hd => rfl); (case hg => rfl); (case hr => first | (go_simp; done) | (go_simp; rfl)); (case hp => exact (Reps.one (show Kd.FK (Kd.slice 23 k23) _ _ l0 [.slice A0 l0.length c0] from (Kd.FK_slice_mk (Kd.V_reads' (Kd.V_mono (ok' := (fun k_ => (P0_ k_ ∨ w.heap.size ≤ k_))) (HO0.out) (fun k_ hk => hk))).2.1 (Kd.V_F (Kd.V_mono (ok' := (fun k_ => (P0_ k_ ∨ w.heap.size ≤ k_))) (HO0.out) (fun k_ hk => hk))))) (Reps.none _ _))); intro v102 w15 ho16 hb hg_ hnew_; clear hg_ hnew_; (first | rw [← Ny101.out] at ho16 | (simp only [Int.reduceToNat] at ho16; rw [← Ny101.out] at ho16)); replace HO0 := Aside0.mk (Kd.V_elder' (vB HO0) (Kd.N_base ho16) hb); have HO103 := Aside0.mk (Kd.N_lower ho16 (below_size (bB0 HB))); replace HB := Aside0.mk (below_step (bB0 HB) hb); clear hb ho16; obtain ⟨Ao17, co17, eo17⟩ := Kd.N_slice HO103.out; subst eo17) | ((with_reducible refine gate_callee (f := 88) rfl ?_); refine goesL_ (some 7) rfl rfl Try.func88 (by kernel_rfl) rfl #[.slice Ao17 y101.length co17] rfl mB ?_; (with_reducible refine (plane_checkPoints.calls k _ _ y101 t104 _ ?side1 ?side2 A2.out).mono ?_); (case side1 => repeat (first | exact (Kd.N_reads' HO103.out).2.2 | (with_reducible refine Kd.C_alloc ?_ _) | (with_reducible refine Kd.C_drewN ?_ _) | (with_reducible refine Kd.C_drew ?_))); (case side2 => exact (Kd.N_reads' HO103.out).2.1); rintro e w18 ⟨rfl, hb⟩; refine ⟨_, rfl, ?_⟩; replace HO0 := Aside0.mk (Kd.V_below (vB HO0) hb); replace HO103 := Aside0.mk (Kd.N_below (by (with_reducible repeat (first | apply Kd.N_alloc | apply Kd.N_drewN | apply Kd.N_drew)); exact HO103.out) hb); replace HB := Aside0.mk (below_step (bB0 HB) hb); (try clear hb); (try clear hb2); (try clear hk); (try clear hi)))
  go_ret2
  exact ⟨_, eB, by first | exact Kd.R_nil _ _ _ _ _ | exact Kd.N_nil _ _ _ _ _ | exact Kd.V_nil _ _ _ _ _ | exact Kd.Q_nil _ _ _ _ _ | exact Kd.S_nil _ _ _ _ _, bB0 HB⟩
def plane_Inside.f (k : Nat) (l0 : List (S23)) (a1_0 : Int) (a1_1 : Int) : Option (Bool × Int) := (plane_checkHulls.f (([l0] : List (List (S23))))).bind fun t105 => (if t105 = 0 then ((plane_valid.f k (([(⟨a1_0, a1_1⟩ : S23)] : List (S23)))).bind fun t109 => (if t109 = true then ((plane_apart.f l0 (([(⟨a1_0, a1_1⟩ : S23)] : List (S23)))).bind fun t113 => (some (!t113, 0))) else (some (false, 2)))) else (some (false, t105)))
theorem plane_Inside.mono : ∀ a0 a1 a2 k, LeO (plane_Inside.f k a0 a1 a2) (plane_Inside.f (k + 1) a0 a1 a2) := by
 intro a0 a1 a2 k
 unfold plane_Inside.f
 repeat' first
   | (with_reducible exact plane_valid.mono _ _)
   | (with_reducible exact LeO.refl _)
   | (with_reducible exact LeO.none _)
   | (with_reducible refine LeO.ite ?_ ?_)
   | (with_reducible refine LeO.bind ?_ (fun _ => ?_))
   | exact plane_valid.mono _ _
   | exact LeO.none _
   | refine LeO.ite ?_ ?_
   | refine LeO.bind ?_ (fun _ => ?_)
set_option maxHeartbeats 8000000 in
set_option maxRecDepth 100000 in
theorem plane_Inside.calls (k : Nat) (P0_ : Nat → Prop) (A0 : Option Addr) (c0 : Nat) (l0 : List (S23)) (a1_0 : Int) (a1_1 : Int) (r1 : Bool) (r2 : Int) (w : World) (hs0 : Kd.V k23 23 w w.heap.size (fun k_ => P0_ k_) (.slice A0 l0.length c0) l0) (h : plane_Inside.f k l0 a1_0 a1_1 = some (r1, r2)) :
  Calls Try.prog 49 #[.slice A0 l0.length c0, .agg #[.int .i64 a1_0, .int .i64 a1_1]] w fun e w' => e = .returned (.tuple #[.bool r1, .int .i64 r2]) ∧ Below w.heap.size w w' := by
 have hu23 := Try.underlying23
 have HO0 := Aside0.mk (show Kd.V k23 23 w w.heap.size (fun k_ => (P0_ k_ ∨ w.heap.size ≤ k_)) (.slice A0 l0.length c0) l0 from Kd.V_mono hs0 (fun k_ hk => .inl hk))
 have HB := Aside0.mk (Below.refl w.heap.size w)
 have H : ((plane_checkHulls.f (([l0] : List (List (S23))))).bind fun t105 => (if t105 = 0 then ((plane_valid.f k (([(⟨a1_0, a1_1⟩ : S23)] : List (S23)))).bind fun t109 => (if t109 = true then ((plane_apart.f l0 (([(⟨a1_0, a1_1⟩ : S23)] : List (S23)))).bind fun t113 => (some (!t113, 0))) else (some (false, 2)))) else (some (false, t105)))) = some (r1, r2) := h
 clear h
 obtain ⟨y102, hy102⟩ : ∃ y_ : List (List (S23)), y_ = (([l0] : List (List (S23)))) := ⟨_, rfl⟩
 replace H : ((plane_checkHulls.f y102).bind fun t105 => (if t105 = 0 then ((plane_valid.f k (([(⟨a1_0, a1_1⟩ : S23)] : List (S23)))).bind fun t109 => (if t109 = true then ((plane_apart.f l0 (([(⟨a1_0, a1_1⟩ : S23)] : List (S23)))).bind fun t113 => (some (!t113, 0))) else (some (false, 2)))) else (some (false, t105)))) = some (r1, r2) := by first | (rw [hy102]; with_reducible exact H) | (have H2_ := (Option.bind_some _ _).symm.trans H; rw [hy102]; with_reducible exact H2_) | (have H2_ := (Option.bind_some _ _).symm.trans H; with_reducible exact H2_) | with_reducible exact H | (rw [hy102]; exact H) | exact H
 have Ny102 := Aside0.mk hy102
 clear hy102
 replace H := Option.bind_eq_some_iff.mp H
 obtain ⟨t105, A30, H⟩ := H
 replace H : (if t105 = 0 then ((plane_valid.f k (([(⟨a1_0, a1_1⟩ : S23)] : List (S23)))).bind fun t109 => (if t109 = true then ((plane_apart.f l0 (([(⟨a1_0, a1_1⟩ : S23)] : List (S23)))).bind fun t113 => (some (!t113, 0))) else (some (false, 2)))) else (some (false, t105))) = some (r1, r2) := H
 have A3 := Aside0.mk A30
 clear A30
 by_cases c4 : t105 = 0
 ·rw [if_pos c4] at H
  have c4b0 : (t105 == 0) = true := beq_iff_eq.mpr c4
  have c4b1 : (t105 != 0) = false := bne_eq_false_iff_eq.mpr c4
  clear c4
  obtain ⟨y106, hy106⟩ : ∃ y_ : List (S23), y_ = (([(⟨a1_0, a1_1⟩ : S23)] : List (S23))) := ⟨_, rfl⟩
  replace H : ((plane_valid.f k y106).bind fun t109 => (if t109 = true then ((plane_apart.f l0 (([(⟨a1_0, a1_1⟩ : S23)] : List (S23)))).bind fun t113 => (some (!t113, 0))) else (some (false, 2)))) = some (r1, r2) := by first | (rw [hy106]; with_reducible exact H) | (have H2_ := (Option.bind_some _ _).symm.trans H; rw [hy106]; with_reducible exact H2_) | (have H2_ := (Option.bind_some _ _).symm.trans H; with_reducible exact H2_) | with_reducible exact H | (rw [hy106]; exact H) | exact H
  have Ny106 := Aside0.mk hy106
  clear hy106
  replace H := Option.bind_eq_some_iff.mp H
  obtain ⟨t109, A50, H⟩ := H
  replace H : (if t109 = true then ((plane_apart.f l0 (([(⟨a1_0, a1_1⟩ : S23)] : List (S23)))).bind fun t113 => (some (!t113, 0))) else (some (false, 2))) = some (r1, r2) := H
  have A5 := Aside0.mk A50
  clear A50
  by_cases c6 : t109 = true
  ·subst c6
   have H1 : ((plane_apart.f l0 (([(⟨a1_0, a1_1⟩ : S23)] : List (S23)))).bind fun t113 => (some (!t113, 0))) = some (r1, r2) := by rw [if_pos rfl] at H; exact H
   clear H
   have H := H1
   clear H1
   obtain ⟨y110, hy110⟩ : ∃ y_ : List (S23), y_ = (([(⟨a1_0, a1_1⟩ : S23)] : List (S23))) := ⟨_, rfl⟩
   replace H : ((plane_apart.f l0 y110).bind fun t113 => (some (!t113, 0))) = some (r1, r2) := by first | (rw [hy110]; with_reducible exact H) | (have H2_ := (Option.bind_some _ _).symm.trans H; rw [hy110]; with_reducible exact H2_) | (have H2_ := (Option.bind_some _ _).symm.trans H; with_reducible exact H2_) | with_reducible exact H | (rw [hy110]; exact H) | exact H
   have Ny110 := Aside0.mk hy110
   clear hy110
   replace H := Option.bind_eq_some_iff.mp H
   obtain ⟨t113, A70, H⟩ := H
   replace H : (some (!t113, 0)) = some (r1, r2) := H
   have A7 := Aside0.mk A70
   clear A70
   simp only [Option.some.injEq, Prod.mk.injEq] at H
   obtain ⟨rfl, rfl⟩ := H
   go_enter Try.func49, Try.ntmps49
   go_wp2_with (first | ((with_reducible refine gate_dst (N := 3) rfl ?_); refine boxE (N := 3) (cs := #[.int .i64 a1_0, .int .i64 a1_1]) (t := 23) ?_; intro gb101 hg w8 hbox hb; replace HO0 := Aside0.mk (Kd.V_below (Kd.V_elderB (vB HO0) gb101 (Nat.le_of_eq hg.symm)) hb); have n1_ := Aside0.mk (below_step (bB0 HB) hb); have BK101 := Aside0.mk (hbox); have GW101 := Aside0.mk (szB hg (below_size (bB0 HB))); have GE101 := GW101; clear HB; have HB := n1_; clear n1_; clear hb hbox hg) | ((with_reducible refine gate_dst (N := 8) rfl ?_); refine Kd.N_lit (Kd.slice 23 k23) _ 53 ?hg (N' := 8) ?hd (xs := ([l0] : List (List (S23)))) (inner := [.slice A0 l0.length c0]) (ok := (fun k_ => (P0_ k_ ∨ w.heap.size ≤ k_) ∧ k_ ≠ gb101)) (okp := (fun k_ => (P0_ k_ ∨ w.heap.size ≤ k_) ∧ k_ ≠ gb101)) ?hr ?hp (fun _ hk => hk) ((show ∀ k_, w8.heap.size ≤ k_ → (fun k_ => (P0_ k_ ∨ w.heap.size ≤ k_) ∧ k_ ≠ gb101) k_ from fun k_ hk => ⟨(.inr (Nat.le_trans (below_size (bB1 HB GE101)) hk)), Kd.freshB (kB BK101) k_ hk⟩) _ (Nat.le_refl _)) (Below.refl _ _) (Nat.le_refl _) (by simp) ?_; (case hd => rfl); (case hg => rfl); (case hr => first | (go_simp; done) | (go_simp; rfl)); (case hp => exact (Reps.one (show Kd.FK (Kd.slice 23 k23) _ _ l0 [.slice A0 l0.length c0] from (Kd.FK_slice_mk (Kd.V_reads' (Kd.V_mono (ok' := (fun k_ => (P0_ k_ ∨ w.heap.size ≤ k_) ∧ k_ ≠ gb101)) (HO0.out) (fun k_ hk => ⟨hk.1, hk.2⟩))).2.1 (Kd.V_F (Kd.V_mono (ok' := (fun k_ => (P0_ k_ ∨ w.heap.size ≤ k_) ∧ k_ ≠ gb101)) (HO0.out) (fun k_ hk => ⟨hk.1, hk.2⟩))))) (Reps.none _ _))); intro v103 w9 ho10 hb hg_ hnew_; clear hg_ hnew_; (first | rw [← Ny102.out] at ho10 | (simp only [Int.reduceToNat] at ho10; rw [← Ny102.out] at ho10)); replace HO0 := Aside0.mk (Kd.V_elder' (vB HO0) (Kd.N_base ho10) hb); have HO104 := Aside0.mk (Kd.N_lower ho10 (below_size (bB1 HB GE101))); replace BK101 := Aside0.mk (blk_below (kB BK101) hb); replace HB := Aside0.mk (below_step (bB1 HB GE101) hb); clear hb ho10; obtain ⟨Ao11, co11, eo11⟩ := Kd.N_slice HO104.out; subst eo11) | ((with_reducible refine gate_callee (f := 94) rfl ?_); refine goesL_ (some 9) rfl rfl Try.func94 (by kernel_rfl) rfl #[.slice Ao11 y102.length co11] rfl mB ?_; (with_reducible refine (plane_checkHulls.calls _ _ y102 t105 _ ?side1 ?side2 A3.out).mono ?_); (case side1 => repeat (first | exact (Kd.N_reads' HO104.out).2.2 | (with_reducible refine Kd.C_alloc ?_ _) | (with_reducible refine Kd.C_drewN ?_ _) | (with_reducible refine Kd.C_drew ?_))); (case side2 => exact (Kd.N_reads' HO104.out).2.1); rintro e w12 ⟨rfl, hb⟩; refine ⟨_, rfl, ?_⟩; replace HO0 := Aside0.mk (Kd.V_below (vB HO0) hb); replace HO104 := Aside0.mk (Kd.N_below (by (with_reducible repeat (first | apply Kd.N_alloc | apply Kd.N_drewN | apply Kd.N_drew)); exact HO104.out) hb); replace BK101 := Aside0.mk (blk_below (kB BK101) hb); replace HB := Aside0.mk (below_step (bB1 HB GE101) hb); (try clear hb); (try clear hb2); (try clear hk); (try clear hi); have hcz13_0 : w12.cell? ⟨gb101, 0, none⟩ = some (.int .i64 a1_0) := (blk_cell BK101.out 0).trans rfl; have hcz13_1 : w12.cell? ⟨gb101, 1, none⟩ = some (.int .i64 a1_1) := (blk_cell BK101.out 1).trans rfl; have hfz13_0 := blk_frozen BK101.out 0; have hfz13_1 := blk_frozen BK101.out 1) | ((with_reducible refine gate_dst (N := 14) rfl ?_); refine Kd.R_lit k23 _ 23 ?hg (N := 14) ?hd (xs := ([(⟨a1_0, a1_1⟩ : S23)] : List (S23))) (inner := [.int .i64 a1_0, .int .i64 a1_1]) (ok := fun _ => True) (okp := fun _ => True) ?hr ?hp (fun _ hk => hk) trivial (Below.refl _ _) (Nat.le_refl _) (by simp) ?_; (case hd => rfl); (case hg => rfl); (case hr => first | (go_simp; done) | (go_simp; rfl)); (case hp => exact (Reps.c2 (show Kd.M k23 _ _ _ (⟨a1_0, a1_1⟩ : S23) [.int .i64 a1_0, .int .i64 a1_1] from (k23_mkM _ _ _ (⟨a1_0, a1_1⟩ : S23) )) (Reps.none _ _))); intro v107 w14 ho15 hb hg_ hnew_; clear hg_ hnew_; (first | rw [← Ny106.out] at ho15 | (simp only [Int.reduceToNat] at ho15; rw [← Ny106.out] at ho15)); replace HO0 := Aside0.mk (Kd.V_elder' (vB HO0) (Kd.R_base ho15) hb); replace HO104 := Aside0.mk (Kd.N_elder' (by (with_reducible repeat (first | apply Kd.N_alloc | apply Kd.N_drewN | apply Kd.N_drew)); exact HO104.out) (Kd.R_base ho15) hb); have HO108 := Aside0.mk (Kd.R_lower (Kd.R_newB (Kd.R_newM (M := fun k_ => (w.heap.size ≤ k_)) ho15 (below_size (bB1 HB GE101)) (fun k_ h_ => h_)) (kB BK101)) (below_size (bB1 HB GE101))); replace BK101 := Aside0.mk (blk_below (kB BK101) hb); replace HB := Aside0.mk (below_step (bB1 HB GE101) hb); clear hb ho15; obtain ⟨Ao16, co16, eo16⟩ := Kd.R_slice HO108.out; subst eo16) | ((with_reducible refine gate_callee (f := 66) rfl ?_); refine goesL_ (some 15) rfl rfl Try.func66 (by kernel_rfl) rfl #[.slice Ao16 y106.length co16] rfl mB ?_; (with_reducible refine (plane_valid.calls k _ _ y106 true _ ?side1 ?side2 A5.out).mono ?_); (case side1 => exact cB2 HO108); (case side2 => exact (Kd.R_reads' HO108.out).2.1); rintro e w17 ⟨rfl, hb⟩; refine ⟨_, rfl, ?_⟩; replace HO0 := Aside0.mk (Kd.V_below (vB HO0) hb); replace HO104 := Aside0.mk (Kd.N_below (by (with_reducible repeat (first | apply Kd.N_alloc | apply Kd.N_drewN | apply Kd.N_drew)); exact HO104.out) hb); replace HO108 := Aside0.mk (Kd.R_below (rB HO108) hb); replace BK101 := Aside0.mk (blk_below (kB BK101) hb); replace HB := Aside0.mk (below_step (bB1 HB GE101) hb); (try clear hb); (try clear hb2); (try clear hk); (try clear hi); have hcz18_0 : w17.cell? ⟨gb101, 0, none⟩ = some (.int .i64 a1_0) := (blk_cell BK101.out 0).trans rfl; have hcz18_1 : w17.cell? ⟨gb101, 1, none⟩ = some (.int .i64 a1_1) := (blk_cell BK101.out 1).trans rfl; have hfz18_0 := blk_frozen BK101.out 0; have hfz18_1 := blk_frozen BK101.out 1) | ((with_reducible refine gate_dst (N := 19) rfl ?_); refine Kd.R_lit k23 _ 23 ?hg (N := 19) ?hd (xs := ([(⟨a1_0, a1_1⟩ : S23)] : List (S23))) (inner := [.int .i64 a1_0, .int .i64 a1_1]) (ok := fun _ => True) (okp := fun _ => True) ?hr ?hp (fun _ hk => hk) trivial (Below.refl _ _) (Nat.le_refl _) (by simp) ?_; (case hd => rfl); (case hg => rfl); (case hr => first | (go_simp; done) | (go_simp; rfl)); (case hp => exact (Reps.c2 (show Kd.M k23 _ _ _ (⟨a1_0, a1_1⟩ : S23) [.int .i64 a1_0, .int .i64 a1_1] from (k23_mkM _ _ _ (⟨a1_0, a1_1⟩ : S23) )) (Reps.none _ _))); intro v111 w19 ho20 hb hg_ hnew_; clear hg_ hnew_; (first | rw [← Ny110.out] at ho20 | (simp only [Int.reduceToNat] at ho20; rw [← Ny110.out] at ho20)); replace HO0 := Aside0.mk (Kd.V_elder' (vB HO0) (Kd.R_base ho20) hb); replace HO104 := Aside0.mk (Kd.N_elder' (by (with_reducible repeat (first | apply Kd.N_alloc | apply Kd.N_drewN | apply Kd.N_drew)); exact HO104.out) (Kd.R_base ho20) hb); have n2_ := Aside0.mk (Kd.R_elder' (rB HO108) (Kd.R_base ho20) hb); have HO112 := Aside0.mk (Kd.R_lower (Kd.R_newB (Kd.R_new' (Kd.R_newM (M := fun k_ => (w.heap.size ≤ k_)) ho20 (below_size (bB1 HB GE101)) (fun k_ h_ => h_)) (Kd.R_lt (rB HO108))) (kB BK101)) (below_size (bB1 HB GE101))); replace BK101 := Aside0.mk (blk_below (kB BK101) hb); replace HB := Aside0.mk (below_step (bB1 HB GE101) hb); clear HO108; have HO108 := n2_; clear n2_; clear hb ho20; obtain ⟨Ao21, co21, eo21⟩ := Kd.R_slice HO112.out; subst eo21) | ((with_reducible refine gate_callee (f := 95) rfl ?_); refine goesL_ (some 20) rfl rfl Try.func95 (by kernel_rfl) rfl #[.slice A0 l0.length c0, .slice Ao21 y110.length co21] rfl mB ?_; (with_reducible refine (plane_apart.calls _ _ l0 _ _ y110 t113 _ ?side1 ?side2 ?side3 ?side4 A7.out).mono ?_); (case side1 => repeat (first | exact (Kd.V_reads' HO0.out).2.2 | (with_reducible refine Kd.C_alloc ?_ _) | (with_reducible refine Kd.C_drewN ?_ _) | (with_reducible refine Kd.C_drew ?_))); (case side2 => exact (Kd.V_reads' HO0.out).2.1); (case side3 => exact cB2 HO112); (case side4 => exact (Kd.R_reads' HO112.out).2.1); rintro e w22 ⟨rfl, hb⟩; refine ⟨_, rfl, ?_⟩; replace HO0 := Aside0.mk (Kd.V_below (vB HO0) hb); replace HO104 := Aside0.mk (Kd.N_below (by (with_reducible repeat (first | apply Kd.N_alloc | apply Kd.N_drewN | apply Kd.N_drew)); exact HO104.out) hb); replace HO108 := Aside0.mk (Kd.R_below (rB HO108) hb); replace HO112 := Aside0.mk (Kd.R_below (rB HO112) hb); replace BK101 := Aside0.mk (blk_below (kB BK101) hb); replace HB := Aside0.mk (below_step (bB1 HB GE101) hb); (try clear hb); (try clear hb2); (try clear hk); (try clear hi)))
   go_ret2
   exact ⟨eB, bB1 HB GE101⟩
  ·replace c6 := Bool.eq_false_iff.mpr c6
   subst c6
   have H1 : (some (false, 2)) = some (r1, r2) := by rw [if_neg (show ¬ (false = true) by decide)] at H; exact H
   clear H
   have H := H1
   clear H1
   simp only [Option.some.injEq, Prod.mk.injEq] at H
   obtain ⟨rfl, rfl⟩ := H
   go_enter Try.func49, Try.ntmps49
   go_wp2_with (first | ((with_reducible refine gate_dst (N := 3) rfl ?_); refine boxE (N := 3) (cs := #[.int .i64 a1_0, .int .i64 a1_1]) (t := 23) ?_; intro gb101 hg w23 hbox hb; replace HO0 := Aside0.mk (Kd.V_below (Kd.V_elderB (vB HO0) gb101 (Nat.le_of_eq hg.symm)) hb); have n1_ := Aside0.mk (below_step (bB0 HB) hb); have BK101 := Aside0.mk (hbox); have GW101 := Aside0.mk (szB hg (below_size (bB0 HB))); have GE101 := GW101; clear HB; have HB := n1_; clear n1_; clear hb hbox hg) | ((with_reducible refine gate_dst (N := 8) rfl ?_); refine Kd.N_lit (Kd.slice 23 k23) _ 53 ?hg (N' := 8) ?hd (xs := ([l0] : List (List (S23)))) (inner := [.slice A0 l0.length c0]) (ok := (fun k_ => (P0_ k_ ∨ w.heap.size ≤ k_) ∧ k_ ≠ gb101)) (okp := (fun k_ => (P0_ k_ ∨ w.heap.size ≤ k_) ∧ k_ ≠ gb101)) ?hr ?hp (fun _ hk => hk) ((show ∀ k_, w23.heap.size ≤ k_ → (fun k_ => (P0_ k_ ∨ w.heap.size ≤ k_) ∧ k_ ≠ gb101) k_ from fun k_ hk => ⟨(.inr (Nat.le_trans (below_size (bB1 HB GE101)) hk)), Kd.freshB (kB BK101) k_ hk⟩) _ (Nat.le_refl _)) (Below.refl _ _) (Nat.le_refl _) (by simp) ?_; (case hd => rfl); (case hg => rfl); (case hr => first | (go_simp; done) | (go_simp; rfl)); (case hp => exact (Reps.one (show Kd.FK (Kd.slice 23 k23) _ _ l0 [.slice A0 l0.length c0] from (Kd.FK_slice_mk (Kd.V_reads' (Kd.V_mono (ok' := (fun k_ => (P0_ k_ ∨ w.heap.size ≤ k_) ∧ k_ ≠ gb101)) (HO0.out) (fun k_ hk => ⟨hk.1, hk.2⟩))).2.1 (Kd.V_F (Kd.V_mono (ok' := (fun k_ => (P0_ k_ ∨ w.heap.size ≤ k_) ∧ k_ ≠ gb101)) (HO0.out) (fun k_ hk => ⟨hk.1, hk.2⟩))))) (Reps.none _ _))); intro v103 w24 ho25 hb hg_ hnew_; clear hg_ hnew_; (first | rw [← Ny102.out] at ho25 | (simp only [Int.reduceToNat] at ho25; rw [← Ny102.out] at ho25)); replace HO0 := Aside0.mk (Kd.V_elder' (vB HO0) (Kd.N_base ho25) hb); have HO104 := Aside0.mk (Kd.N_lower ho25 (below_size (bB1 HB GE101))); replace BK101 := Aside0.mk (blk_below (kB BK101) hb); replace HB := Aside0.mk (below_step (bB1 HB GE101) hb); clear hb ho25; obtain ⟨Ao26, co26, eo26⟩ := Kd.N_slice HO104.out; subst eo26) | ((with_reducible refine gate_callee (f := 94) rfl ?_); refine goesL_ (some 9) rfl rfl Try.func94 (by kernel_rfl) rfl #[.slice Ao26 y102.length co26] rfl mB ?_; (with_reducible refine (plane_checkHulls.calls _ _ y102 t105 _ ?side1 ?side2 A3.out).mono ?_); (case side1 => repeat (first | exact (Kd.N_reads' HO104.out).2.2 | (with_reducible refine Kd.C_alloc ?_ _) | (with_reducible refine Kd.C_drewN ?_ _) | (with_reducible refine Kd.C_drew ?_))); (case side2 => exact (Kd.N_reads' HO104.out).2.1); rintro e w27 ⟨rfl, hb⟩; refine ⟨_, rfl, ?_⟩; replace HO0 := Aside0.mk (Kd.V_below (vB HO0) hb); replace HO104 := Aside0.mk (Kd.N_below (by (with_reducible repeat (first | apply Kd.N_alloc | apply Kd.N_drewN | apply Kd.N_drew)); exact HO104.out) hb); replace BK101 := Aside0.mk (blk_below (kB BK101) hb); replace HB := Aside0.mk (below_step (bB1 HB GE101) hb); (try clear hb); (try clear hb2); (try clear hk); (try clear hi); have hcz28_0 : w27.cell? ⟨gb101, 0, none⟩ = some (.int .i64 a1_0) := (blk_cell BK101.out 0).trans rfl; have hcz28_1 : w27.cell? ⟨gb101, 1, none⟩ = some (.int .i64 a1_1) := (blk_cell BK101.out 1).trans rfl; have hfz28_0 := blk_frozen BK101.out 0; have hfz28_1 := blk_frozen BK101.out 1) | ((with_reducible refine gate_dst (N := 14) rfl ?_); refine Kd.R_lit k23 _ 23 ?hg (N := 14) ?hd (xs := ([(⟨a1_0, a1_1⟩ : S23)] : List (S23))) (inner := [.int .i64 a1_0, .int .i64 a1_1]) (ok := fun _ => True) (okp := fun _ => True) ?hr ?hp (fun _ hk => hk) trivial (Below.refl _ _) (Nat.le_refl _) (by simp) ?_; (case hd => rfl); (case hg => rfl); (case hr => first | (go_simp; done) | (go_simp; rfl)); (case hp => exact (Reps.c2 (show Kd.M k23 _ _ _ (⟨a1_0, a1_1⟩ : S23) [.int .i64 a1_0, .int .i64 a1_1] from (k23_mkM _ _ _ (⟨a1_0, a1_1⟩ : S23) )) (Reps.none _ _))); intro v107 w29 ho30 hb hg_ hnew_; clear hg_ hnew_; (first | rw [← Ny106.out] at ho30 | (simp only [Int.reduceToNat] at ho30; rw [← Ny106.out] at ho30)); replace HO0 := Aside0.mk (Kd.V_elder' (vB HO0) (Kd.R_base ho30) hb); replace HO104 := Aside0.mk (Kd.N_elder' (by (with_reducible repeat (first | apply Kd.N_alloc | apply Kd.N_drewN | apply Kd.N_drew)); exact HO104.out) (Kd.R_base ho30) hb); have HO108 := Aside0.mk (Kd.R_lower (Kd.R_newB (Kd.R_newM (M := fun k_ => (w.heap.size ≤ k_)) ho30 (below_size (bB1 HB GE101)) (fun k_ h_ => h_)) (kB BK101)) (below_size (bB1 HB GE101))); replace BK101 := Aside0.mk (blk_below (kB BK101) hb); replace HB := Aside0.mk (below_step (bB1 HB GE101) hb); clear hb ho30; obtain ⟨Ao31, co31, eo31⟩ := Kd.R_slice HO108.out; subst eo31) | ((with_reducible refine gate_callee (f := 66) rfl ?_); refine goesL_ (some 15) rfl rfl Try.func66 (by kernel_rfl) rfl #[.slice Ao31 y106.length co31] rfl mB ?_; (with_reducible refine (plane_valid.calls k _ _ y106 false _ ?side1 ?side2 A5.out).mono ?_); (case side1 => exact cB2 HO108); (case side2 => exact (Kd.R_reads' HO108.out).2.1); rintro e w32 ⟨rfl, hb⟩; refine ⟨_, rfl, ?_⟩; replace HO0 := Aside0.mk (Kd.V_below (vB HO0) hb); replace HO104 := Aside0.mk (Kd.N_below (by (with_reducible repeat (first | apply Kd.N_alloc | apply Kd.N_drewN | apply Kd.N_drew)); exact HO104.out) hb); replace HO108 := Aside0.mk (Kd.R_below (rB HO108) hb); replace BK101 := Aside0.mk (blk_below (kB BK101) hb); replace HB := Aside0.mk (below_step (bB1 HB GE101) hb); (try clear hb); (try clear hb2); (try clear hk); (try clear hi)))
   go_ret2
   exact ⟨eB, bB1 HB GE101⟩
 ·rw [if_neg c4] at H
  have c4b0 : (t105 == 0) = false := beq_eq_false_iff_ne.mpr c4
  have c4b1 : (t105 != 0) = true := bne_iff_ne.mpr c4
  simp only [Option.some.injEq, Prod.mk.injEq] at H
  obtain ⟨rfl, rfl⟩ := H
  go_enter Try.func49, Try.ntmps49
  go_wp2_with (first | ((with_reducible refine gate_dst (N := 3) rfl ?_); refine boxE (N := 3) (cs := #[.int .i64 a1_0, .int .i64 a1_1]) (t := 23) ?_; intro gb101 hg w33 hbox hb; replace HO0 := Aside0.mk (Kd.V_below (Kd.V_elderB (vB HO0) gb101 (Nat.le_of_eq hg.symm)) hb); have n1_ := Aside0.mk (below_step (bB0 HB) hb); have BK101 := Aside0.mk (hbox); have GW101 := Aside0.mk (szB hg (below_size (bB0 HB))); have GE101 := GW101; clear HB; have HB := n1_; clear n1_; clear hb hbox hg) | ((with_reducible refine gate_dst (N := 8) rfl ?_); refine Kd.N_lit (Kd.slice 23 k23) _ 53 ?hg (N' := 8) ?hd (xs := ([l0] : List (List (S23)))) (inner := [.slice A0 l0.length c0]) (ok := (fun k_ => (P0_ k_ ∨ w.heap.size ≤ k_) ∧ k_ ≠ gb101)) (okp := (fun k_ => (P0_ k_ ∨ w.heap.size ≤ k_) ∧ k_ ≠ gb101)) ?hr ?hp (fun _ hk => hk) ((show ∀ k_, w33.heap.size ≤ k_ → (fun k_ => (P0_ k_ ∨ w.heap.size ≤ k_) ∧ k_ ≠ gb101) k_ from fun k_ hk => ⟨(.inr (Nat.le_trans (below_size (bB1 HB GE101)) hk)), Kd.freshB (kB BK101) k_ hk⟩) _ (Nat.le_refl _)) (Below.refl _ _) (Nat.le_refl _) (by simp) ?_; (case hd => rfl); (case hg => rfl); (case hr => first | (go_simp; done) | (go_simp; rfl)); (case hp => exact (Reps.one (show Kd.FK (Kd.slice 23 k23) _ _ l0 [.slice A0 l0.length c0] from (Kd.FK_slice_mk (Kd.V_reads' (Kd.V_mono (ok' := (fun k_ => (P0_ k_ ∨ w.heap.size ≤ k_) ∧ k_ ≠ gb101)) (HO0.out) (fun k_ hk => ⟨hk.1, hk.2⟩))).2.1 (Kd.V_F (Kd.V_mono (ok' := (fun k_ => (P0_ k_ ∨ w.heap.size ≤ k_) ∧ k_ ≠ gb101)) (HO0.out) (fun k_ hk => ⟨hk.1, hk.2⟩))))) (Reps.none _ _))); intro v103 w34 ho35 hb hg_ hnew_; clear hg_ hnew_; (first | rw [← Ny102.out] at ho35 | (simp only [Int.reduceToNat] at ho35; rw [← Ny102.out] at ho35)); replace HO0 := Aside0.mk (Kd.V_elder' (vB HO0) (Kd.N_base ho35) hb); have HO104 := Aside0.mk (Kd.N_lower ho35 (below_size (bB1 HB GE101))); replace BK101 := Aside0.mk (blk_below (kB BK101) hb); replace HB := Aside0.mk (below_step (bB1 HB GE101) hb); clear hb ho35; obtain ⟨Ao36, co36, eo36⟩ := Kd.N_slice HO104.out; subst eo36) | ((with_reducible refine gate_callee (f := 94) rfl ?_); refine goesL_ (some 9) rfl rfl Try.func94 (by kernel_rfl) rfl #[.slice Ao36 y102.length co36] rfl mB ?_; (with_reducible refine (plane_checkHulls.calls _ _ y102 t105 _ ?side1 ?side2 A3.out).mono ?_); (case side1 => repeat (first | exact (Kd.N_reads' HO104.out).2.2 | (with_reducible refine Kd.C_alloc ?_ _) | (with_reducible refine Kd.C_drewN ?_ _) | (with_reducible refine Kd.C_drew ?_))); (case side2 => exact (Kd.N_reads' HO104.out).2.1); rintro e w37 ⟨rfl, hb⟩; refine ⟨_, rfl, ?_⟩; replace HO0 := Aside0.mk (Kd.V_below (vB HO0) hb); replace HO104 := Aside0.mk (Kd.N_below (by (with_reducible repeat (first | apply Kd.N_alloc | apply Kd.N_drewN | apply Kd.N_drew)); exact HO104.out) hb); replace BK101 := Aside0.mk (blk_below (kB BK101) hb); replace HB := Aside0.mk (below_step (bB1 HB GE101) hb); (try clear hb); (try clear hb2); (try clear hk); (try clear hi)))
  go_ret2
  exact ⟨eB, bB1 HB GE101⟩
end Go.Proofs.Ytegdcnjjelgpjaa.P
namespace Go.Proofs.Ytegdcnjjelgpjaa.P
open Go.RowKit Go.Proofs.YtegdcnjjelgpjaaW.PrintWords Go.Proofs.YtegdcnjjelgpjaaW.PrintLast Go.Proofs.YtegdcnjjelgpjaaW.PrintMore
set_option linter.unusedVariables false
set_option linter.unusedSimpArgs false
theorem _root_.Go.Proofs.YtegdcnjjelgpjaaW.PrintWords.Ev.succ {α : Type} {g : Nat → Option α} {r : α} (h : Ev (fun k => g (k + 1)) r) : Ev g r := Ev.step (f := fun k => g (k + 1)) (fun _ => rfl) h
theorem Meet_eq {a b : List S23} (ha : isHullV a = true) (hb : isHullV b = true) : plane_Meet.f a b = some (!apartV a b, 0) := by
 unfold plane_Meet.f
 rw [checkHs_two ha hb, Option.bind_some, if_pos rfl, apart_eq (isHullV_isH ha).ne (isHullV_isH hb).ne, Option.bind_some]
def lineE : Option S75 → Int × Int × Int × Int
 | some x => (x.f0, x.f1, x.f2, 0)
 | none => (0, 0, 0, 5)
theorem Part_eq {a b : List S23} (ha : isHullV a = true) (hb : isHullV b = true) : plane_Part.f a b = some (lineE (tryO a b (partL a b))) := by
 unfold plane_Part.f plane_part.f
 rw [checkHs_two ha hb, Option.bind_some, if_pos rfl, if_pos ⟨(isHullV_isH ha).ne, (isHullV_isH hb).ne⟩, Option.bind_some]
 cases tryO a b (partL a b) with
 | none => rfl
 | some x => rfl
theorem CheckPart_val {a b : List S23} (ha : isHullV a = true) (hb : isHullV b = true) (x y z : Int) :
  Ev (fun k => plane_CheckPart.f k a b x y z) (if (inR x (-67108864) 67108864 = true ∧ inR y (-67108864) 67108864 = true ∧ inR z (-4503599627370496) 4503599627370496 = true) then (if hiW x y a ≤ z ∧ z < loW x y b then 0 else 16) else 3) := by
 unfold plane_CheckPart.f
 simp only [checkHs_two ha hb, Option.bind_some, if_true, within_eq]
 cases h1 : inR x (-67108864) 67108864 with
 | false =>
  simp only [Bool.false_eq_true, if_false, false_and]
  refine Ev.succ ?_
  simp only [plane_CheckPart.j0, if_true]
  exact Ev.now _
 | true =>
  simp only [if_true, true_and]
  cases h2 : inR y (-67108864) 67108864 with
  | false =>
   simp only [Bool.false_eq_true, if_false, false_and]
   refine Ev.succ ?_
   simp only [plane_CheckPart.j0, if_true]
   exact Ev.now _
  | true =>
   simp only [if_true, true_and]
   refine Ev.succ ?_
   simp only [plane_CheckPart.j0]
   cases h3 : inR z (-4503599627370496) 4503599627370496 with
   | false => simp only [Bool.not_false, if_true, Bool.false_eq_true, if_false]; exact Ev.now _
   | true =>
    rw [if_neg (by simp), if_pos rfl]
    unfold plane_span.f
    rw [if_pos (isHullV_isH ha).ne, if_pos (isHullV_isH hb).ne]
    simp only [Option.bind_some]
    by_cases c1 : hiW x y a ≤ z
    ·rw [if_neg (by omega)]
     by_cases c2 : z < loW x y b
     ·rw [if_neg (by omega), if_pos ⟨c1, c2⟩]; exact Ev.now _
     ·rw [if_pos (by omega), if_neg (fun h => c2 h.2)]; exact Ev.now _
    ·rw [if_pos (by omega), if_neg (fun h => c1 h.1)]; exact Ev.now _
theorem ok_sub {p q : S23} (hp : isP p.f0 p.f1 = true) (hq : isP q.f0 q.f1 = true) : (-33554432 ≤ q.f0 - p.f0 ∧ q.f0 - p.f0 ≤ 33554432) ∧ (-33554432 ≤ q.f1 - p.f1 ∧ q.f1 - p.f1 ≤ 33554432) := by
 have := isP_iff.1 hp; have := isP_iff.1 hq; omega
theorem isP_get {l : List S23} (h : okP l = true) {i : Nat} (hi : i < l.length) : isP l[i].f0 l[i].f1 = true := isP_iff.2 (okP_mem.1 h _ (List.getElem_mem hi))
theorem part_fine {a b : List S23} (na : 0 < a.length) (nb : 0 < b.length) (ha : okP a = true) (hb : okP b = true) {d : S75} (hd : d ∈ partL a b) : (-33554432 ≤ d.f0 ∧ d.f0 ≤ 33554432) ∧ (-33554432 ≤ d.f1 ∧ d.f1 ≤ 33554432) := by
 have side : ∀ {h : List S23}, okP h = true → d ∈ dirs h → (-33554432 ≤ d.f0 ∧ d.f0 ≤ 33554432) ∧ (-33554432 ≤ d.f1 ∧ d.f1 ≤ 33554432) := by
  intro h hok hd
  have hb := bnd_iff.1 (bnd_ok hok)
  obtain ⟨s, hs, hd⟩ := List.mem_flatMap.1 hd
  obtain ⟨i, j, hi, hj, _, rfl⟩ := side_mem hs
  obtain ⟨⟨e0, e1⟩, ⟨e2, e3⟩, _⟩ := bd_sub (hb _ (List.getElem_mem hi)) (hb _ (List.getElem_mem hj))
  obtain ⟨h0, h1⟩ := ok_sub (isP_get hok hi) (isP_get hok hj)
  simp only [dir4, e0, e1, e2, e3, List.mem_cons, List.not_mem_nil, or_false] at hd
  rcases hd with rfl | rfl | rfl | rfl <;> refine ⟨⟨?_, ?_⟩, ?_, ?_⟩ <;> dsimp only <;> omega
 unfold partL at hd
 rcases List.mem_cons.1 hd with rfl | hd
 ·obtain ⟨⟨e0, e1⟩, _⟩ := bd_sub (bnd_iff.1 (bnd_ok ha) _ (List.getElem_mem na)) (bnd_iff.1 (bnd_ok hb) _ (List.getElem_mem nb))
  unfold dir0
  rw [rd0_mem na, rd0_mem nb, e0, e1]
  exact ok_sub (isP_get ha na) (isP_get hb nb)
 ·rcases List.mem_append.1 hd with hd | hd
  ·exact side ha hd
  ·exact side hb hd
theorem CheckPart_own {a b : List S23} (ha : isHullV a = true) (hb : isHullV b = true) {x : S75} (h : tryO a b (partL a b) = some x) :
  Ev (fun k => plane_CheckPart.f k a b x.f0 x.f1 x.f2) 0 := by
 have na := (isHullV_isH ha).ne
 have nb := (isHullV_isH hb).ne
 have oa := isHullV_ok ha
 have ob := isHullV_ok hb
 have hv := CheckPart_val ha hb x.f0 x.f1 x.f2
 obtain ⟨hd, h1, h2, _⟩ := part_sound na nb (isHullV_bd ha) (isHullV_bd hb) h
 have hf : (-33554432 ≤ x.f0 ∧ x.f0 ≤ 33554432) ∧ (-33554432 ≤ x.f1 ∧ x.f1 ≤ 33554432) := by
  obtain ⟨d, hm, hx⟩ := List.exists_of_findSome?_eq_some h
  obtain ⟨_, rfl⟩ := tryA_some.1 hx
  exact part_fine (d := d) na nb oa ob hm
 obtain ⟨_, p, hp, e⟩ := hiW_max (x := x.f0) (y := x.f1) na
 rw [dotW_eq hd (isHullV_bd ha p hp)] at e
 have hpp := okP_mem.1 oa p hp
 have m1 := mulA_bd (a := x.f0) (b := p.f0) (A := 33554432) hf.1 (by omega)
 have m2 := mulA_bd (a := x.f1) (b := p.f1) (A := 33554432) hf.2 (by omega)
 have hk : -4503599627370496 ≤ x.f2 ∧ x.f2 ≤ 4503599627370496 := by rw [← h1, e]; unfold dP; omega
 rw [if_pos ⟨inR_iff.2 (by omega), inR_iff.2 (by omega), inR_iff.2 hk⟩, if_pos ⟨by omega, h2⟩] at hv
 exact hv
theorem Sign_le (a b c : S23) : ∃ t, gooseneckref01_Sign.f a.f0 a.f1 b.f0 b.f1 c.f0 c.f1 = some t ∧ (t ≤ 0 ↔ rightW a b c = true) := by
 unfold gooseneckref01_Sign.f rightW
 have e : wrap64 (wrap64 (wrap64 (b.f0 - a.f0) * wrap64 (c.f1 - a.f1)) - wrap64 (wrap64 (b.f1 - a.f1) * wrap64 (c.f0 - a.f0))) = crW a b c := rfl
 rw [e]
 by_cases h1 : crW a b c > 0
 ·exact ⟨1, by rw [if_pos h1], by simp; omega⟩
 ·by_cases h2 : crW a b c < 0
  ·exact ⟨-1, by rw [if_neg h1, if_pos h2], by simp; omega⟩
  ·exact ⟨0, by rw [if_neg h1, if_neg h2], by simp; omega⟩
theorem eta23 (x : S23) : (⟨x.f0, x.f1⟩ : S23) = x := S23.ext rfl rfl
theorem rev_two (b a : S23) (r : List S23) : (b :: a :: r).reverse.length = r.length + 2 ∧ (b :: a :: r).reverse[r.length]? = some a ∧ (b :: a :: r).reverse[r.length + 1]? = some b ∧ (b :: a :: r).reverse.take (r.length + 1) = (a :: r).reverse := by
 have e : (b :: a :: r).reverse = r.reverse ++ [a, b] := by simp
 refine ⟨by simp, ?_, ?_, ?_⟩
 ·rw [e, List.getElem?_append_right (by simp)]; simp
 ·rw [e, List.getElem?_append_right (by simp)]; simp
 ·rw [e, show r.length + 1 = r.reverse.length + 1 by simp, List.take_length_add_append]; simp
theorem side_loop1 {l : List S23} {i : Nat} (hi : i < l.length) (hl : l.length ≤ 1048576) {r : List S23} : ∀ (st : List S23), st.length ≤ i →
  Ev (fun k => gooseneckref01_side.l0 k l ((l[i] :: Geo.pop rightW l[i] st).reverse) ((i + 1 : Nat) : Int)) r → Ev (fun k => gooseneckref01_side.l1 k l st.reverse (i : Int)) r
 | [], _, h => by
  refine Ev.succ ?_
  simp only [gooseneckref01_side.l1]
  simp only [List.reverse_nil, List.length_nil, Option.bind_some, List.nil_append]
  have i1 : (0 : Int) ≤ (i : Int) := by omega
  have i2 : (i : Int) < (l.length : Int) := by omega
  simp (config := { decide := true }) only [i1, i2, if_true, if_false, rd23_nat l i hi, eta23, wrap_nat i (by omega)]
  simpa [Geo.pop] using h
 | [a], _, h => by
  refine Ev.succ ?_
  simp only [gooseneckref01_side.l1]
  simp only [List.reverse_cons, List.reverse_nil, List.nil_append, List.length_singleton, List.length_nil, Option.bind_some]
  have i1 : (0 : Int) ≤ (i : Int) := by omega
  have i2 : (i : Int) < (l.length : Int) := by omega
  simp (config := { decide := true }) only [i1, i2, if_true, if_false, rd23_nat l i hi, eta23, wrap_nat i (by omega)]
  simpa [Geo.pop] using h
 | b :: a :: st, hst, h => by
  obtain ⟨e1, e2, e3, e4⟩ := rev_two b a st
  simp only [List.length_cons] at hst
  refine Ev.succ ?_
  simp only [gooseneckref01_side.l1]
  have i1 : (0 : Int) ≤ (i : Int) := by omega
  have i2 : (i : Int) < (l.length : Int) := by omega
  have w2 : wrap64 (((b :: a :: st).reverse.length : Int) - 2) = (st.length : Int) := by rw [e1]; rw [ww (by omega) (by omega)]; omega
  have w1 : wrap64 (((b :: a :: st).reverse.length : Int) - 1) = ((st.length + 1 : Nat) : Int) := by rw [e1]; rw [ww (by omega) (by omega)]; omega
  have ra : rd_T23 (b :: a :: st).reverse (st.length : Int) = a := by simp only [rd_T23, Int.toNat_natCast, List.getD_eq_getElem?_getD, e2, Option.getD_some]
  have rb : rd_T23 (b :: a :: st).reverse ((st.length + 1 : Nat) : Int) = b := by simp only [rd_T23, Int.toNat_natCast, List.getD_eq_getElem?_getD, e3, Option.getD_some]
  have c0 : ((b :: a :: st).reverse.length : Int) ≥ 2 := by rw [e1]; omega
  have c1 : (0 : Int) ≤ (st.length : Int) := by omega
  have c2 : (st.length : Int) < ((b :: a :: st).reverse.length : Int) := by rw [e1]; omega
  have c3 : (0 : Int) ≤ ((st.length + 1 : Nat) : Int) := by omega
  have c4 : ((st.length + 1 : Nat) : Int) < ((b :: a :: st).reverse.length : Int) := by rw [e1]; omega
  have c5 : ((st.length + 1 : Nat) : Int) ≤ ((b :: a :: st).reverse.length : Int) := by rw [e1]; omega
  obtain ⟨t, ht, hts⟩ := Sign_le a b l[i]
  simp only [w1, w2, c0, c1, c2, c3, c4, c5, i1, i2, if_true, ra, rb, rd23_nat l i hi, ht, Option.bind_some, Int.toNat_natCast, e4, eta23, wrap_nat i (by omega), List.nil_append, List.length_nil]
  rw [Geo.pop] at h
  by_cases hb : rightW a b l[i] = true
  ·rw [if_pos hb] at h
   have := hts.2 hb
   simp only [this, if_true]
   exact side_loop1 hi hl (a :: st) (by simp only [List.length_cons]; omega) h
  ·rw [if_neg hb] at h
   have : ¬ t ≤ 0 := fun k => hb (hts.1 k)
   have g1 : 0 + (b :: a :: st).reverse.length < 8796093022208 := by rw [e1]; omega
   have g2 : (b :: a :: st).reverse.length + [l[i]].length < 8796093022208 := by rw [e1]; simp only [List.length_singleton]; omega
   simp only [this, if_false, g1, g2, if_true]
   simpa using h
theorem side_loop0 (l : List S23) (hl : l.length ≤ 1048576) (d : Nat) : ∀ (i : Nat), l.length - i = d → i ≤ l.length → Ev (fun k => gooseneckref01_side.l0 k l (Geo.chain rightW (l.take i) []).reverse (i : Int)) (Geo.chain rightW l []).reverse := by
 induction d with
 | zero =>
  intro i hd hi
  have : i = l.length := by omega
  subst this
  rw [List.take_length]
  refine Ev.succ ?_
  simp only [gooseneckref01_side.l0, Int.lt_irrefl, if_false]
  exact Ev.now _
 | succ d ih =>
  intro i hd hi
  have hlt : i < l.length := by omega
  refine Ev.succ ?_
  have i2 : (i : Int) < (l.length : Int) := by omega
  simp only [gooseneckref01_side.l0, i2, if_true]
  refine side_loop1 hlt hl _ ?_ ?_
  ·have := chain_len rightW (l.take i) []
   rw [List.length_take] at this; simp only [List.length_nil] at this; omega
  ·have := ih (i + 1) (by omega) (by omega)
   rw [List.take_succ_eq_append_getElem hlt, chain_snoc] at this
   exact this
theorem side_ev (l : List S23) (hl : l.length ≤ 1048576) : Ev (fun k => gooseneckref01_side.f k l) (Geo.chain rightW l []).reverse := by
 have := side_loop0 l hl l.length 0 (by omega) (by omega)
 simpa [gooseneckref01_side.f, Geo.chain] using this
theorem back_loop (s : List S23) (hs : s.length ≤ 1048576) {r : List S23} (hr : Ev (fun k => gooseneckref01_Corners.l0 k s s.reverse (-1)) r) (d : Nat) : ∀ (i : Nat), i = d → i ≤ s.length → Ev (fun k => gooseneckref01_Corners.l0 k s (s.drop i).reverse ((i : Int) - 1)) r := by
 induction d with
 | zero => rintro i rfl _; simpa using hr
 | succ d ih =>
  rintro i rfl hi
  have hlt : d < s.length := by omega
  refine Ev.succ ?_
  have e : ((d + 1 : Nat) : Int) - 1 = (d : Int) := by omega
  rw [e]
  have i1 : (d : Int) ≥ 0 := by omega
  have i2 : (d : Int) < (s.length : Int) := by omega
  have i3 : (0 : Int) ≤ (d : Int) := by omega
  have i4 : ((s.drop (d + 1)).reverse).length < 8796093022208 := by rw [List.length_reverse, List.length_drop]; omega
  have w : wrap64 ((d : Int) - 1) = (d : Int) - 1 := ww (by omega) (by omega)
  simp only [gooseneckref01_Corners.l0, i1, i2, i3, i4, if_true, rd23_nat s d hlt, eta23, w]
  have := ih d rfl (by omega)
  rw [List.drop_eq_getElem_cons hlt, List.reverse_cons] at this
  exact this
theorem Corners_ev {l : List S23} (hl : l.length ≤ 1048576) (hb : BdL l) : Ev (fun k => gooseneckref01_Corners.f k l) (hull l) := by
 unfold gooseneckref01_Corners.f gooseneckref01_sorted.f
 rw [if_pos hl]
 simp only [Option.bind_some]
 have hsl : (sdP l).length ≤ l.length := Geo.sd_length l
 have hsb : ∀ p ∈ sdP l, Bd p := fun p hp => hb p (Geo.sd_mem.1 hp)
 unfold hull Geo.hullOf
 change Ev _ (if (sdP l).length < 2 then sdP l else (Geo.lowC S23.f0 S23.f1 (sdP l)).dropLast ++ (Geo.highC S23.f0 S23.f1 (sdP l)).dropLast)
 generalize sdP l = s at *
 by_cases h2 : s.length < 2
 ·have : ((s.length : Int)) < 2 := by omega
  simp only [this, h2, if_true]
  exact Ev.now _
 ·have : ¬ ((s.length : Int)) < 2 := by omega
  have w : wrap64 ((s.length : Int) - 1) = (s.length : Int) - 1 := ww (by omega) (by omega)
  simp only [this, h2, if_false, w]
  have key := back_loop s (by omega) (r := (Geo.lowC S23.f0 S23.f1 s).dropLast ++ (Geo.highC S23.f0 S23.f1 s).dropLast) ?_ s.length s.length rfl (Nat.le_refl _)
  ·simpa using key
  ·refine Ev.succ ?_
   have n0 : ¬ (-1 : Int) ≥ 0 := by omega
   simp only [gooseneckref01_Corners.l0, n0, if_false]
   refine Ev.bind (side_ev s (by omega)) ?_
   refine Ev.bind (side_ev s.reverse (by rw [List.length_reverse]; omega)) ?_
   rw [chain_right hsb, chain_right (s := s.reverse) (fun p hp => hsb p (by simpa using hp))]
   unfold Geo.lowC Geo.highC
   have hne : s ≠ [] := by intro e; simp [e] at h2
   have nA : (Geo.chain (Geo.right S23.f0 S23.f1) s []).reverse ≠ [] := by simpa using Geo.chain_ne _ _ _ (.inr hne)
   have nB : (Geo.chain (Geo.right S23.f0 S23.f1) s.reverse []).reverse ≠ [] := by simpa using Geo.chain_ne _ _ _ (.inr (by simpa using hne))
   have lA : (Geo.chain (Geo.right S23.f0 S23.f1) s []).reverse.length ≤ 1048576 := by have := chain_len (Geo.right S23.f0 S23.f1) s []; rw [List.length_reverse]; simp only [List.length_nil] at this; omega
   have lB : (Geo.chain (Geo.right S23.f0 S23.f1) s.reverse []).reverse.length ≤ 1048576 := by have := chain_len (Geo.right S23.f0 S23.f1) s.reverse []; rw [List.length_reverse]; simp only [List.length_nil, List.length_reverse] at this; omega
   generalize (Geo.chain (Geo.right S23.f0 S23.f1) s []).reverse = A at *
   generalize (Geo.chain (Geo.right S23.f0 S23.f1) s.reverse []).reverse = B at *
   have pA := List.length_pos_iff.2 nA
   have pB := List.length_pos_iff.2 nB
   have wA : wrap64 ((A.length : Int) - 1) = ((A.length - 1 : Nat) : Int) := by rw [ww (by omega) (by omega)]; omega
   have wB : wrap64 ((B.length : Int) - 1) = ((B.length - 1 : Nat) : Int) := by rw [ww (by omega) (by omega)]; omega
   have a1 : (0 : Int) ≤ ((A.length - 1 : Nat) : Int) := by omega
   have a2 : ((A.length - 1 : Nat) : Int) ≤ (A.length : Int) := by omega
   have b1 : (0 : Int) ≤ ((B.length - 1 : Nat) : Int) := by omega
   have b2 : ((B.length - 1 : Nat) : Int) ≤ (B.length : Int) := by omega
   have dA : A.take (A.length - 1) = A.dropLast := by rw [List.dropLast_eq_take]
   have dB : B.take (B.length - 1) = B.dropLast := by rw [List.dropLast_eq_take]
   have g1 : 0 + A.dropLast.length < 8796093022208 := by rw [List.length_dropLast]; omega
   have g2 : A.dropLast.length + B.dropLast.length < 8796093022208 := by rw [List.length_dropLast, List.length_dropLast]; omega
   simp only [wA, wB, a1, a2, b1, b2, if_true, Int.toNat_natCast, dA, dB, Option.bind_some, List.nil_append, List.length_nil, g1, g2]
   exact Ev.now _
theorem Same_loop (a b : List S23) (hab : a.length = b.length) (hl : (a.length : Int) < 9223372036854775807) (d : Nat) : ∀ (i : Nat), a.length - i = d → i ≤ a.length →
  Ev (fun k => gooseneckref01_Same.l0 k a b (i : Int)) (decide (a.drop i = b.drop i)) := by
 induction d with
 | zero =>
  intro i hd hi
  have he : i = a.length := by omega
  subst he
  have e1 : a.drop a.length = b.drop a.length := by rw [List.drop_of_length_le (by omega), List.drop_of_length_le (by omega)]
  rw [decide_eq_true e1]
  refine Ev.succ ?_
  simp only [gooseneckref01_Same.l0, Int.lt_irrefl, if_false]
  exact Ev.now _
 | succ d ih =>
  intro i hd hi
  have h1 : i < a.length := by omega
  have h2 : i < b.length := by omega
  have ea : a.drop i = a[i] :: a.drop (i + 1) := List.drop_eq_getElem_cons h1
  have eb : b.drop i = b[i] :: b.drop (i + 1) := List.drop_eq_getElem_cons h2
  refine Ev.step (f := fun k => if a[i] = b[i] then gooseneckref01_Same.l0 k a b ((i + 1 : Nat) : Int) else some false) (fun k => ?_) ?_
  ·simp only [gooseneckref01_Same.l0]
   rw [if_pos (by omega), if_pos (by omega), if_pos (by omega), rd23_nat a i h1, rd23_nat b i h2, wrap_nat i (by omega), parts_ne]
   by_cases e : a[i] = b[i] <;> simp [e]
  ·rw [ea, eb]
   by_cases e : a[i] = b[i]
   ·simp only [e, if_true, List.cons.injEq, true_and]
    exact ih (i + 1) (by omega) (by omega)
   ·have : ¬ (a[i] :: a.drop (i + 1) = b[i] :: b.drop (i + 1)) := fun h => e (List.cons.inj h).1
    rw [decide_eq_false this]
    simpa [e] using Ev.now false
theorem Same_ev (a b : List S23) (hl : (a.length : Int) < 9223372036854775807) : Ev (fun k => gooseneckref01_Same.f k a b) (decide (a = b)) := by
 unfold gooseneckref01_Same.f
 by_cases h : a.length = b.length
 ·have : (a.length : Int) = (b.length : Int) := by omega
  simp only [this, if_true]
  simpa using Same_loop a b h hl a.length 0 (by omega) (by omega)
 ·have h' : a ≠ b := fun e => h (by rw [e])
  have : ¬ (a.length : Int) = (b.length : Int) := by omega
  rw [decide_eq_false h']
  simp only [this, if_false]
  exact Ev.now _
theorem errP_zero_iff {l : List S23} : errP l = 0 ↔ l.length ≤ 256 ∧ okP l = true := by
 unfold errP
 by_cases h : 256 < l.length
 ·simp [h]; omega
 ·by_cases h2 : okP l = true <;> simp [h, h2]; omega
theorem refIsHull_ev (l : List S23) : Ev (fun k => gooseneckref01_IsHull.f k l) (isHullV l) := by
 unfold gooseneckref01_IsHull.f
 refine Ev.bind (points_ev l) ?_
 by_cases h1 : errP l = 0
 ·have h2 := errP_zero_iff.1 h1
  simp only [h1, if_true]
  by_cases h0 : 0 < l.length
  ·have : (l.length : Int) > 0 := by omega
   simp only [this, if_true]
   refine Ev.bind (Corners_ev (by omega) (bnd_iff.1 (bnd_ok h2.2))) ?_
   have hl := hull_length l
   refine Ev.bind (Same_ev (hull l) l (by omega)) ?_
   have e : isHullV l = decide (hull l = l) := by
    unfold isHullV
    rw [decide_eq_true h0, decide_eq_true (errLs_zero.2 h2)]; simp
   rw [e]; exact Ev.now _
  ·have : ¬ (l.length : Int) > 0 := by omega
   simp only [this, if_false]
   have e : isHullV l = false := by unfold isHullV; simp [h0]
   rw [e]; exact Ev.now _
 ·simp only [h1, if_false]
  have e : isHullV l = false := by
   cases h : isHullV l with
   | false => rfl
   | true => exact absurd (errP_zero_iff.2 (isHullV_iff.1 h).1.2) h1
  rw [e]; exact Ev.now _
theorem hulls_ev (a b : List S23) : Ev (fun k => gooseneckref01_hulls.f k a b) (errHs [a, b]) := by
 have hj : Ev (fun k => gooseneckref01_hulls.j0 k a b (decide (256 < a.length) || decide (256 < b.length))) (errHs [a, b]) := by
  refine Ev.succ ?_
  simp only [gooseneckref01_hulls.j0]
  unfold errHs errLs
  by_cases hm : (decide (256 < a.length) || decide (256 < b.length)) = true
  ·have e : ([a, b].any fun l => decide (256 < l.length)) = true := by simpa using hm
   rw [e, hm]
   simp (config := { decide := true }) only [if_true, if_false]
   exact Ev.now _
  ·have e : ([a, b].any fun l => decide (256 < l.length)) = false := by simpa using hm
   have hm' : (decide (256 < a.length) || decide (256 < b.length)) = false := by simpa using hm
   have la : a.length ≤ 256 := by simp at hm'; omega
   have lb : b.length ≤ 256 := by simp at hm'; omega
   rw [e, hm']
   simp only [Bool.false_eq_true, if_false]
   refine Ev.bind (points_ev a) ?_
   cases oa : okP a with
   | false =>
    have : ¬ errP a = 0 := fun h => by rw [(errP_zero_iff.1 h).2] at oa; cases oa
    simp (config := { decide := true }) only [this, if_false, List.all_cons, oa, Bool.false_and, if_true]
    exact Ev.now _
   | true =>
    have : errP a = 0 := errP_zero_iff.2 ⟨la, oa⟩
    simp only [this, if_true]
    refine Ev.bind (points_ev b) ?_
    cases ob : okP b with
    | false =>
     have : ¬ errP b = 0 := fun h => by rw [(errP_zero_iff.1 h).2] at ob; cases ob
     simp (config := { decide := true }) only [this, if_false, List.all_cons, oa, ob, Bool.false_and, Bool.and_false, if_true]
     exact Ev.now _
    | true =>
     have : errP b = 0 := errP_zero_iff.2 ⟨lb, ob⟩
     simp (config := { decide := true }) only [this, if_true, List.all_cons, List.all_nil, oa, ob, Bool.and_true, if_false, List.any_cons, List.any_nil, Bool.or_false]
     refine Ev.bind (refIsHull_ev a) ?_
     cases ha : isHullV a with
     | false => simp (config := { decide := true }) only [if_false, Bool.not_false, Bool.true_or, if_true]; exact Ev.now _
     | true =>
      simp only [if_true, Bool.not_true, Bool.false_or]
      refine Ev.bind (refIsHull_ev b) ?_
      cases hb : isHullV b with
      | false => simp (config := { decide := true }) only [if_false, Bool.not_false, if_true]; exact Ev.now _
      | true => simp (config := { decide := true }) only [if_true, Bool.not_true, if_false]; exact Ev.now _
 unfold gooseneckref01_hulls.f
 by_cases h : 256 < a.length
 ·have : (a.length : Int) > 256 := by omega
  simp only [this, if_true]
  rw [decide_eq_true h] at hj
  simpa using hj
 ·have : ¬ (a.length : Int) > 256 := by omega
  simp only [this, if_false]
  rw [decide_eq_false h] at hj
  have e : decide ((b.length : Int) > 256) = (false || decide (256 < b.length)) := by
   rw [Bool.false_or]; exact decide_eq_decide.2 (by omega)
  rw [e]; exact hj
theorem _root_.Go.Proofs.YtegdcnjjelgpjaaW.PrintWords.Ev.same {α : Type} {g : Nat → Option α} {r s : α} (h : Ev g r) (k : Ev g s) : r = s := by
 obtain ⟨K, h⟩ := h
 obtain ⟨L, k⟩ := k
 have h1 := h (max K L) (Nat.le_max_left _ _)
 have h2 := k (max K L) (Nat.le_max_right _ _)
 rw [h1] at h2
 exact Option.some.inj h2
theorem dot_eq (x y z : Int) (p : S23) : gooseneckref01_dot.f x y z p.f0 p.f1 = some (dotW x y p) := rfl
theorem level_loop (x y : Int) (l : List S23) (hl : l.length ≤ 1048576) (d : Nat) : ∀ (i : Nat) (z : Int), l.length - i = d → i ≤ l.length →
  Ev (fun k => gooseneckref01_level.l0 k l (i : Int) x y z) (x, y, (l.drop i).foldl (fun m p => mx m (dotW x y p)) z) := by
 induction d with
 | zero =>
  intro i z hd hi
  have : i = l.length := by omega
  subst this
  rw [List.drop_of_length_le (Nat.le_refl _)]
  refine Ev.succ ?_
  simp only [gooseneckref01_level.l0, Int.lt_irrefl, if_false]
  exact Ev.now _
 | succ d ih =>
  intro i z hd hi
  have hlt : i < l.length := by omega
  refine Ev.succ ?_
  have i1 : (0 : Int) ≤ (i : Int) := by omega
  have i2 : (i : Int) < (l.length : Int) := by omega
  simp only [gooseneckref01_level.l0, i1, i2, if_true, rd23_nat l i hlt, dot_eq, Option.bind_some, wrap_nat i (by omega)]
  rw [List.drop_eq_getElem_cons hlt]
  exact ih (i + 1) _ (by omega) (by omega)
theorem level_ev (x y z : Int) (l : List S23) (h0 : 0 < l.length) (hl : l.length ≤ 1048576) : Ev (fun k => gooseneckref01_level.f k x y z l) (x, y, hiW x y l) := by
 unfold gooseneckref01_level.f
 have : (0 : Int) < (l.length : Int) := by omega
 simp only [this, if_true, dot_eq, Option.bind_some]
 have := level_loop x y l hl (l.length - 1) 1 (dotW x y (rd_T23 l 0)) (by omega) (by omega)
 simpa [hiW] using this
theorem parts_loop1 (b : List S23) (x y z : Int) (hl : b.length ≤ 1048576) (d : Nat) : ∀ (i : Nat), b.length - i = d → i ≤ b.length →
  Ev (fun k => gooseneckref01_parts.l1 k b (i : Int) x y z) ((b.drop i).all fun p => decide (z < dotW x y p)) := by
 induction d with
 | zero =>
  intro i hd hi
  have : i = b.length := by omega
  subst this
  rw [List.drop_of_length_le (Nat.le_refl _)]
  refine Ev.succ ?_
  simp only [gooseneckref01_parts.l1, Int.lt_irrefl, if_false]
  exact Ev.now _
 | succ d ih =>
  intro i hd hi
  have hlt : i < b.length := by omega
  refine Ev.succ ?_
  have i1 : (0 : Int) ≤ (i : Int) := by omega
  have i2 : (i : Int) < (b.length : Int) := by omega
  simp only [gooseneckref01_parts.l1, i1, i2, if_true, rd23_nat b i hlt, dot_eq, Option.bind_some, wrap_nat i (by omega)]
  rw [List.drop_eq_getElem_cons hlt, List.all_cons]
  by_cases h : dotW x y b[i] ≤ z
  ·have : decide (z < dotW x y b[i]) = false := decide_eq_false (by omega)
   simp only [h, if_true, this, Bool.false_and]
   exact Ev.now _
  ·have : decide (z < dotW x y b[i]) = true := decide_eq_true (by omega)
   simp only [h, if_false, this, Bool.true_and]
   exact ih (i + 1) (by omega) (by omega)
theorem parts_loop0 (a b : List S23) (x y z : Int) (ha : a.length ≤ 1048576) (hl : b.length ≤ 1048576) (d : Nat) : ∀ (i : Nat), a.length - i = d → i ≤ a.length →
  Ev (fun k => gooseneckref01_parts.l0 k a b (i : Int) x y z) (((a.drop i).all fun p => decide (dotW x y p ≤ z)) && b.all fun p => decide (z < dotW x y p)) := by
 induction d with
 | zero =>
  intro i hd hi
  have : i = a.length := by omega
  subst this
  rw [List.drop_of_length_le (Nat.le_refl _)]
  refine Ev.succ ?_
  simp only [gooseneckref01_parts.l0, Int.lt_irrefl, if_false]
  simpa using parts_loop1 b x y z hl b.length 0 (by omega) (by omega)
 | succ d ih =>
  intro i hd hi
  have hlt : i < a.length := by omega
  refine Ev.succ ?_
  have i1 : (0 : Int) ≤ (i : Int) := by omega
  have i2 : (i : Int) < (a.length : Int) := by omega
  simp only [gooseneckref01_parts.l0, i1, i2, if_true, rd23_nat a i hlt, dot_eq, Option.bind_some, wrap_nat i (by omega)]
  rw [List.drop_eq_getElem_cons hlt, List.all_cons]
  by_cases h : dotW x y a[i] > z
  ·have : decide (dotW x y a[i] ≤ z) = false := decide_eq_false (by omega)
   simp only [h, if_true, this, Bool.false_and]
   exact Ev.now _
  ·have : decide (dotW x y a[i] ≤ z) = true := decide_eq_true (by omega)
   simp only [h, if_false, this, Bool.true_and]
   exact ih (i + 1) (by omega) (by omega)
theorem parts_ev (a b : List S23) (x y z : Int) (na : 0 < a.length) (nb : 0 < b.length) (ha : a.length ≤ 1048576) (hb : b.length ≤ 1048576) :
  Ev (fun k => gooseneckref01_parts.f k a b x y z) (decide (hiW x y a ≤ z ∧ z < loW x y b)) := by
 have h := parts_loop0 a b x y z ha hb a.length 0 (by omega) (by omega)
 unfold gooseneckref01_parts.f
 have e : (((a.drop 0).all fun p => decide (dotW x y p ≤ z)) && b.all fun p => decide (z < dotW x y p)) = decide (hiW x y a ≤ z ∧ z < loW x y b) := by
  obtain ⟨h1, p, hp, h2⟩ := hiW_max (x := x) (y := y) na
  obtain ⟨g1, q, hq, g2⟩ := loW_min (x := x) (y := y) nb
  rw [Bool.eq_iff_iff]
  simp only [List.drop_zero, Bool.and_eq_true, List.all_eq_true, decide_eq_true_eq]
  constructor
  ·rintro ⟨k1, k2⟩
   have := k1 p hp
   have := k2 q hq
   omega
  ·rintro ⟨k1, k2⟩
   refine ⟨fun s hs => ?_, fun s hs => ?_⟩
   ·have := h1 s hs; omega
   ·have := g1 s hs; omega
 rw [e] at h
 simpa using h
def rdir4 (s : S23 × S23) : List S75 := [⟨wrap64 (s.2.f0 - s.1.f0), wrap64 (s.2.f1 - s.1.f1), 0⟩, ⟨wrap64 (-(wrap64 (s.2.f0 - s.1.f0))), wrap64 (-(wrap64 (s.2.f1 - s.1.f1))), 0⟩, ⟨wrap64 (s.2.f1 - s.1.f1), wrap64 (-(wrap64 (s.2.f0 - s.1.f0))), 0⟩, ⟨wrap64 (-(wrap64 (s.2.f1 - s.1.f1))), wrap64 (s.2.f0 - s.1.f0), 0⟩]
theorem rdir4_mem (s : S23 × S23) (d : S75) : d ∈ rdir4 s ↔ d ∈ dir4 s := by
 unfold rdir4 dir4
 simp only [List.mem_cons, List.not_mem_nil, or_false]
 constructor <;> (rintro (h | h | h | h) <;> simp [h])
def rdirs (h : List S23) : List S75 := (sideL h).flatMap rdir4
theorem rdirs_mem (h : List S23) (d : S75) : d ∈ rdirs h ↔ d ∈ dirs h := by
 unfold rdirs dirs
 rw [List.mem_flatMap, List.mem_flatMap]
 constructor <;> rintro ⟨s, hs, hd⟩
 ·exact ⟨s, hs, (rdir4_mem s d).1 hd⟩
 ·exact ⟨s, hs, (rdir4_mem s d).2 hd⟩
theorem rdirs_len (l : List (S23 × S23)) : (l.flatMap rdir4).length = 4 * l.length := by
 induction l with
 | nil => rfl
 | cons s r ih => rw [List.flatMap_cons, List.length_append, ih]; simp [rdir4]; omega
theorem dirs_loop (h : List S23) (hl : h.length ≤ 1048576) (d : Nat) : ∀ (i : Nat), h.length - i = d → i ≤ h.length →
  Ev (fun k => gooseneckref01_directions.l0 k h (((sideL h).take i).flatMap rdir4) (i : Int)) (rdirs h) := by
 induction d with
 | zero =>
  intro i hd hi
  have : i = h.length := by omega
  subst this
  rw [List.take_of_length_le (by rw [sideL_len]; exact Nat.le_refl _)]
  refine Ev.succ ?_
  simp only [gooseneckref01_directions.l0, Int.lt_irrefl, if_false]
  exact Ev.now _
 | succ d ih =>
  intro i hd hi
  have hlt : i < h.length := by omega
  refine Ev.succ ?_
  have i1 : (0 : Int) ≤ (i : Int) := by omega
  have i2 : (i : Int) < (h.length : Int) := by omega
  have hm : (i + 1) % h.length < h.length := Nat.mod_lt _ (by omega)
  have e : Int.tmod (((i + 1 : Nat) : Int)) (h.length : Int) = (((i + 1) % h.length : Nat) : Int) := by
   rw [Int.tmod_eq_emod_of_nonneg (by omega)]; omega
  have i3 : ¬ (h.length : Int) = 0 := by omega
  have i4 : (0 : Int) ≤ (((i + 1) % h.length : Nat) : Int) := by omega
  have i5 : (((i + 1) % h.length : Nat) : Int) < (h.length : Int) := by omega
  have hlen : (((sideL h).take i).flatMap rdir4).length + 4 < 5864062014805 := by rw [rdirs_len, List.length_take]; omega
  have hlen' : ∀ (p q r t : S75), (((sideL h).take i).flatMap rdir4).length + [p, q, r, t].length < 5864062014805 := fun _ _ _ _ => hlen
  simp only [gooseneckref01_directions.l0, i1, i2, wrap_nat i (by omega), e, i3, i4, i5, if_true, if_false, rd23_nat h i hlt, rd23_nat h _ hm, Option.bind_some, hlen']
  have hs : (sideL h).take (i + 1) = (sideL h).take i ++ [(h[i], h[(i + 1) % h.length])] := by
   have h1 : i < (sideL h).length := by rw [sideL_len]; exact hlt
   rw [List.take_succ_eq_append_getElem h1, sideL_get h i hlt]
   simp [sideAt, List.getD_eq_getElem?_getD, hlt, hm]
  have := ih (i + 1) (by omega) (by omega)
  rw [hs, List.flatMap_append, List.flatMap_singleton] at this
  exact this
theorem directions_ev (h : List S23) (hl : h.length ≤ 1048576) : Ev (fun k => gooseneckref01_directions.f k h) (rdirs h) := by
 have := dirs_loop h hl h.length 0 (by omega) (by omega)
 simpa [gooseneckref01_directions.f] using this
theorem parting_loop (a b : List S23) (na : 0 < a.length) (nb : 0 < b.length) (ha : a.length ≤ 1048576) (hb : b.length ≤ 1048576) (L : List S75) (hL : L.length ≤ 1000000000) (d : Nat) : ∀ (i : Nat), L.length - i = d → i ≤ L.length →
  Ev (fun k => gooseneckref01_Parting.l0 k a b L (i : Int)) (lineR (tryO a b (L.drop i))) := by
 induction d with
 | zero =>
  intro i hd hi
  have : i = L.length := by omega
  subst this
  rw [List.drop_of_length_le (Nat.le_refl _)]
  refine Ev.succ ?_
  simp only [gooseneckref01_Parting.l0, Int.lt_irrefl, if_false]
  exact Ev.now _
 | succ d ih =>
  intro i hd hi
  have hlt : i < L.length := by omega
  refine Ev.succ ?_
  have i1 : (0 : Int) ≤ (i : Int) := by omega
  have i2 : (i : Int) < (L.length : Int) := by omega
  simp only [gooseneckref01_Parting.l0, i1, i2, if_true, rd75_get L i hlt, wrap_nat i (by omega)]
  refine Ev.bind (level_ev _ _ _ a na ha) ?_
  refine Ev.bind (parts_ev a b _ _ _ na nb ha hb) ?_
  have hd : L.drop i = L[i] :: L.drop (i + 1) := List.drop_eq_getElem_cons hlt
  by_cases h : hiW L[i].f0 L[i].f1 a < loW L[i].f0 L[i].f1 b
  ·have e : tryO a b (L.drop i) = some ⟨L[i].f0, L[i].f1, hiW L[i].f0 L[i].f1 a⟩ := by rw [hd]; unfold tryO; rw [List.findSome?_cons]; unfold tryA; rw [if_pos h]
   have e2 : decide (hiW L[i].f0 L[i].f1 a ≤ hiW L[i].f0 L[i].f1 a ∧ hiW L[i].f0 L[i].f1 a < loW L[i].f0 L[i].f1 b) = true := decide_eq_true ⟨Int.le_refl _, h⟩
   simp only [e2, if_true]
   rw [e]
   exact Ev.now _
  ·have e : tryO a b (L.drop i) = tryO a b (L.drop (i + 1)) := by rw [hd]; unfold tryO; rw [List.findSome?_cons]; unfold tryA; rw [if_neg h]
   have e2 : decide (hiW L[i].f0 L[i].f1 a ≤ hiW L[i].f0 L[i].f1 a ∧ hiW L[i].f0 L[i].f1 a < loW L[i].f0 L[i].f1 b) = false := decide_eq_false fun k => h k.2
   simp only [e2, Bool.false_eq_true, if_false]
   rw [e]
   exact ih (i + 1) (by omega) (by omega)
def rpartL (a b : List S23) : List S75 := [dir0 a b] ++ rdirs a ++ rdirs b
theorem Parting_ev (a b : List S23) (na : 0 < a.length) (nb : 0 < b.length) (ha : a.length ≤ 1048576) (hb : b.length ≤ 1048576) : Ev (fun k => gooseneckref01_Parting.f k a b) (lineR (tryO a b (rpartL a b))) := by
 unfold gooseneckref01_Parting.f
 have n1 : (0 : Int) < (a.length : Int) := by omega
 have n2 : (0 : Int) < (b.length : Int) := by omega
 have l1 : (rdirs a).length = 4 * a.length := by unfold rdirs; rw [rdirs_len, sideL_len]
 have l2 : (rdirs b).length = 4 * b.length := by unfold rdirs; rw [rdirs_len, sideL_len]
 simp only [n1, n2, if_true, Option.bind_some]
 refine Ev.bind (directions_ev a ha) ?_
 have g1 : ∀ p : S75, [p].length + (rdirs a).length < 5864062014805 := fun p => by rw [l1]; simp only [List.length_singleton]; omega
 simp only [g1, if_true]
 refine Ev.bind (directions_ev b hb) ?_
 have g2 : ∀ p : S75, ([p] ++ rdirs a).length + (rdirs b).length < 5864062014805 := fun p => by rw [List.length_append, l1, l2]; simp only [List.length_singleton]; omega
 simp only [g2, if_true]
 have := parting_loop a b na nb ha hb (rpartL a b) (by unfold rpartL; rw [List.length_append, List.length_append, l1, l2]; simp only [List.length_singleton]; omega) _ 0 rfl (by omega)
 rw [List.drop_zero] at this
 exact this
theorem tryO_some_iff {a b : List S23} {L M : List S75} (h : ∀ d, d ∈ L ↔ d ∈ M) : (tryO a b L).isSome = (tryO a b M).isSome := by
 rw [Bool.eq_iff_iff]
 unfold tryO
 rw [List.findSome?_isSome_iff, List.findSome?_isSome_iff]
 constructor <;> rintro ⟨d, hd, k⟩
 ·exact ⟨d, (h d).1 hd, k⟩
 ·exact ⟨d, (h d).2 hd, k⟩
theorem Meets_ev (a b : List S23) (na : 0 < a.length) (nb : 0 < b.length) (ha : a.length ≤ 1048576) (hb : b.length ≤ 1048576) : Ev (fun k => gooseneckref01_Meets.f k a b) (!apartV a b) := by
 unfold gooseneckref01_Meets.f
 refine Ev.bind (Parting_ev a b na nb ha hb) ?_
 have e : (tryO a b (rpartL a b)).isSome = apartV a b := tryO_some_iff fun d => by
  unfold rpartL partL
  rw [List.append_assoc, List.singleton_append, List.mem_cons, List.mem_cons, List.mem_append, List.mem_append, rdirs_mem, rdirs_mem]
 rw [lineR_ok, e]
 exact Ev.now _
def rfour (t : Int) (p : S23) : List S23 := [⟨wrap64 (p.f0 - t), wrap64 (p.f1 - t)⟩, ⟨wrap64 (p.f0 + t), wrap64 (p.f1 - t)⟩, ⟨wrap64 (p.f0 - t), wrap64 (p.f1 + t)⟩, ⟨wrap64 (p.f0 + t), wrap64 (p.f1 + t)⟩]
def rgrowL (l : List S23) (t : Int) : List S23 := l.flatMap (rfour t)
theorem rgrow_len (t : Int) (l : List S23) : (l.flatMap (rfour t)).length = 4 * l.length := by
 induction l with
 | nil => rfl
 | cons s r ih => rw [List.flatMap_cons, List.length_append, ih]; simp [rfour]; omega
theorem rgrow_mem {l : List S23} {t : Int} (hl : Within 16777216 l) (h0 : 0 ≤ t) (h1 : t ≤ 33554432) (q : S23) : q ∈ rgrowL l t ↔ q ∈ growL l t := by
 rw [grow_mem hl h0 h1]
 unfold rgrowL
 rw [List.mem_flatMap]
 constructor <;> rintro ⟨p, hp, hq⟩ <;> refine ⟨p, hp, ?_⟩ <;> have hw := hl p hp
 ·unfold rfour at hq
  rw [ww (x := p.f0 - t) (by omega) (by omega), ww (x := p.f1 - t) (by omega) (by omega), ww (x := p.f0 + t) (by omega) (by omega), ww (x := p.f1 + t) (by omega) (by omega)] at hq
  simp only [List.mem_cons, List.not_mem_nil, or_false] at hq
  rcases hq with h | h | h | h <;> simp [h]
 ·unfold rfour
  rw [ww (x := p.f0 - t) (by omega) (by omega), ww (x := p.f1 - t) (by omega) (by omega), ww (x := p.f0 + t) (by omega) (by omega), ww (x := p.f1 + t) (by omega) (by omega)]
  simp only [List.mem_cons, List.not_mem_nil, or_false]
  rcases hq with h | h | h | h <;> simp [h]
theorem hull_same {l m : List S23} (h : ∀ z, z ∈ l ↔ z ∈ m) : hull l = hull m := by
 unfold hull; rw [Geo.sd_same inj23 h]
theorem Grown_loop (l : List S23) (t : Int) (hl : l.length ≤ 256) (hw : Within 16777216 l) (h0 : 0 ≤ t) (h1 : t ≤ 33554432) (d : Nat) : ∀ (i : Nat), l.length - i = d → i ≤ l.length →
  Ev (fun k => gooseneckref01_Grown.l0 k l t ((l.take i).flatMap (rfour t)) (i : Int)) (hull (growL l t)) := by
 induction d with
 | zero =>
  intro i hd hi
  have : i = l.length := by omega
  subst this
  rw [List.take_length]
  refine Ev.succ ?_
  simp only [gooseneckref01_Grown.l0, Int.lt_irrefl, if_false]
  have hg := grow_bd hw h0 h1
  have e : hull (growL l t) = hull (l.flatMap (rfour t)) := hull_same fun z => (rgrow_mem hw h0 h1 z).symm
  rw [e]
  refine Ev.bind (Corners_ev (by rw [rgrow_len]; omega) fun q hq => ?_) (Ev.now _)
  have := hg q ((rgrow_mem hw h0 h1 q).1 hq)
  unfold Bd; omega
 | succ d ih =>
  intro i hd hi
  have hlt : i < l.length := by omega
  refine Ev.succ ?_
  have i1 : (0 : Int) ≤ (i : Int) := by omega
  have i2 : (i : Int) < (l.length : Int) := by omega
  have hlen : ∀ (p q r s : S23), ((l.take i).flatMap (rfour t)).length + [p, q, r, s].length < 8796093022208 := fun _ _ _ _ => by rw [rgrow_len, List.length_take]; simp only [List.length_cons, List.length_nil]; omega
  simp only [gooseneckref01_Grown.l0, i1, i2, if_true, rd23_nat l i hlt, wrap_nat i (by omega), Option.bind_some, hlen]
  have := ih (i + 1) (by omega) (by omega)
  rw [List.take_succ_eq_append_getElem hlt, List.flatMap_append, List.flatMap_singleton] at this
  exact this
theorem Grown_ev (l : List S23) (t : Int) (hl : l.length ≤ 256) (hw : Within 16777216 l) (h0 : 0 ≤ t) (h1 : t ≤ 33554432) : Ev (fun k => gooseneckref01_Grown.f k l t) (hull (growL l t)) := by
 have := Grown_loop l t hl hw h0 h1 l.length 0 (by omega) (by omega)
 simpa [gooseneckref01_Grown.f] using this
theorem Apart_loop {a b : List S23} (ha : isHullV a = true) (hb : isHullV b = true) (d : Nat) : ∀ (lo hi : Int), (hi - lo).toNat ≤ d → 0 ≤ lo → lo ≤ hi → hi ≤ 33554432 →
  (∀ t, 0 ≤ t → t < lo → SepE (growL a t) b) → (hi < 33554432 → ¬ SepE (growL a hi) b) → ∃ g, IsGap a b g ∧ Ev (fun k => gooseneckref01_Apart.l0 k a b lo hi) g := by
 induction d with
 | zero =>
  intro lo hi hd h0 h1 h2 hs hn
  obtain rfl : lo = hi := by omega
  exact ⟨lo, ⟨⟨h0, h2⟩, hs, hn⟩, Ev.step (f := fun _ => some lo) (fun k => by simp only [gooseneckref01_Apart.l0]; rw [if_neg (by omega)]) (Ev.now _)⟩
 | succ d ih =>
  intro lo hi hd h0 h1 h2 hs hn
  by_cases hlt : lo < hi
  ·have em : wrap64 (Int.tdiv (wrap64 (lo + hi)) 2) = (lo + hi) / 2 := by
    rw [ww (x := lo + hi) (by omega) (by omega), Int.tdiv_eq_ediv_of_nonneg (by omega), ww (by omega) (by omega)]
   obtain ⟨m, hm⟩ : ∃ m, (lo + hi) / 2 = m := ⟨_, rfl⟩
   rw [hm] at em
   have hml : lo ≤ m := by omega
   have hmh : m < hi := by omega
   have hA := (isHullV_iff.1 ha).1
   have hw := okP_within hA.2.2
   obtain ⟨_, H, hbd⟩ := grown_eq hA.1 hA.2.1 hw (t := m) (by omega) (by omega)
   have hG := Grown_ev a m hA.2.1 hw (by omega) (by omega)
   have hlz : (hull (growL a m)).length ≤ 1048576 := by have := hull_length (growL a m); rw [growL_len] at this; omega
   have hM := Meets_ev (hull (growL a m)) b H.ne (isHullV_isH hb).ne hlz (by have := (isHullV_iff.1 hb).1.2.1; omega)
   have hcs : apartV (hull (growL a m)) b = true ↔ SepE (growL a m) b := by
    rw [apartV_iff (isHu_self H) (isHullV_isH hb) hbd (isHullV_bd hb), sepE_hull H]
   cases hc : apartV (hull (growL a m)) b with
   | true =>
    have hsep := hcs.1 hc
    obtain ⟨g, hg, hev⟩ := ih (m + 1) hi (by omega) (by omega) (by omega) h2 (fun t ht0 ht1 => grow_mono hw ht0 (by omega) (by omega) hsep) hn
    refine ⟨g, hg, Ev.succ ?_⟩
    simp only [gooseneckref01_Apart.l0, hlt, if_true, em, ww (x := m + 1) (by omega) (by omega)]
    refine Ev.bind hG (Ev.bind hM ?_)
    rw [hc]
    simp only [Bool.not_true, Bool.false_eq_true, if_false]
    exact hev
   | false =>
    have hsep : ¬ SepE (growL a m) b := fun h => by rw [hcs.2 h] at hc; cases hc
    obtain ⟨g, hg, hev⟩ := ih lo m (by omega) h0 hml (by omega) hs (fun _ => hsep)
    refine ⟨g, hg, Ev.succ ?_⟩
    simp only [gooseneckref01_Apart.l0, hlt, if_true, em]
    refine Ev.bind hG (Ev.bind hM ?_)
    rw [hc]
    simp only [Bool.not_false, if_true]
    exact hev
  ·obtain rfl : lo = hi := by omega
   exact ⟨lo, ⟨⟨h0, h2⟩, hs, hn⟩, Ev.step (f := fun _ => some lo) (fun k => by simp only [gooseneckref01_Apart.l0]; rw [if_neg (by omega)]) (Ev.now _)⟩
theorem Apart_ev {a b : List S23} (ha : isHullV a = true) (hb : isHullV b = true) : ∃ g, IsGap a b g ∧ Ev (fun k => gooseneckref01_Apart.f k a b) g :=
 Apart_loop ha hb 33554432 0 33554432 (by omega) (by omega) (by omega) (by omega) (fun t h0 h1 => by omega) (fun h => by omega)
theorem gap_unique {a b : List S23} {g h : Int} (hg : IsGap a b g) (hh : IsGap a b h) : g = h := by
 have h1 := gap_least hg ⟨hh.1, hh.2.2⟩
 have h2 := gap_least hh ⟨hg.1, hg.2.2⟩
 omega
theorem refCheckPart_val {a b : List S23} (ha : isHullV a = true) (hb : isHullV b = true) (x y z : Int) :
  Ev (fun k => gooseneckref01_CheckPart.f k a b x y z) (if (inR x (-67108864) 67108864 = true ∧ inR y (-67108864) 67108864 = true ∧ inR z (-4503599627370496) 4503599627370496 = true) then (if hiW x y a ≤ z ∧ z < loW x y b then 0 else 16) else 3) := by
 unfold gooseneckref01_CheckPart.f
 refine Ev.bind (hulls_ev a b) ?_
 rw [errHs_two ha hb]
 simp only [if_true, In_eq, Option.bind_some]
 cases h1 : inR x (-67108864) 67108864 with
 | false =>
  simp only [Bool.false_eq_true, if_false, false_and]
  refine Ev.succ ?_
  simp only [gooseneckref01_CheckPart.j0, if_true]
  exact Ev.now _
 | true =>
  simp only [if_true, true_and]
  cases h2 : inR y (-67108864) 67108864 with
  | false =>
   simp only [Bool.false_eq_true, if_false, false_and]
   refine Ev.succ ?_
   simp only [gooseneckref01_CheckPart.j0, if_true]
   exact Ev.now _
  | true =>
   simp only [if_true, true_and]
   refine Ev.succ ?_
   simp only [gooseneckref01_CheckPart.j0]
   cases h3 : inR z (-4503599627370496) 4503599627370496 with
   | false => simp only [Bool.not_false, if_true, Bool.false_eq_true, if_false]; exact Ev.now _
   | true =>
    simp only [Bool.not_true, Bool.false_eq_true, if_false, if_true]
    refine Ev.bind (parts_ev a b x y z (isHullV_isH ha).ne (isHullV_isH hb).ne (by have := (isHullV_iff.1 ha).1.2.1; omega) (by have := (isHullV_iff.1 hb).1.2.1; omega)) ?_
    by_cases c : hiW x y a ≤ z ∧ z < loW x y b
    ·rw [decide_eq_true c, if_pos c]
     simp only [if_true]
     exact Ev.now _
    ·rw [decide_eq_false c, if_neg c]
     simp only [Bool.false_eq_true, if_false]
     exact Ev.now _
theorem errHs_zero {a b : List S23} (h : errHs [a, b] = 0) : isHullV a = true ∧ isHullV b = true := by
 unfold errHs at h
 split at h
 ·exact absurd h (by assumption)
 ·split at h
  ·cases h
  ·rename_i h2
   simpa using h2
theorem checkHs_any (a b : List S23) : plane_checkHulls.f [a, b] = some (errHs [a, b]) := by
 unfold plane_checkHulls.f; rw [if_pos (by simp)]
theorem meets_j1 (a b : List S23) : Ev (fun k => goosenecklaw01_PlaneMeets.j1 k a b false) true := by
 have hw : Ev (fun k => (goosenecklaw01_works.f k).bind fun t => some t) true := Ev.bind works_ev (Ev.now _)
 refine Ev.succ ?_
 simp only [goosenecklaw01_PlaneMeets.j1, Bool.false_eq_true, if_false]
 by_cases he : errHs [a, b] = 0
 ·obtain ⟨ha, hb⟩ := errHs_zero he
  have hM := Meets_ev a b (isHullV_isH ha).ne (isHullV_isH hb).ne (by have := (isHullV_iff.1 ha).1.2.1; omega) (by have := (isHullV_iff.1 hb).1.2.1; omega)
  have hP : Ev (fun k => gooseneckref01_Part.f k a b) (if (!apartV a b) = true then 5 else 0) := by
   unfold gooseneckref01_Part.f
   refine Ev.bind (hulls_ev a b) ?_
   rw [he]
   simp only [if_true]
   refine Ev.bind hM ?_
   cases apartV a b <;> simp (config := { decide := true }) only [if_true, if_false] <;> exact Ev.now _
  simp only [Part_eq ha hb, Option.bind_some]
  refine Ev.bind hP ?_
  rcases hp : tryO a b (partL a b) with _ | x
  ·have hna : apartV a b = false := by unfold apartV; rw [hp]; rfl
   rw [hna]
   simp (config := { decide := true }) only [lineE, if_true, if_false, Bool.not_false]
   exact hw
  ·have hya : apartV a b = true := by unfold apartV; rw [hp]; rfl
   rw [hya]
   simp (config := { decide := true }) only [lineE, if_true, if_false, Bool.not_true]
   have h1 := CheckPart_own ha hb hp
   have h2 : Ev (fun k => gooseneckref01_CheckPart.f k a b x.f0 x.f1 x.f2) 0 := by
    have h3 := CheckPart_val ha hb x.f0 x.f1 x.f2
    have h4 := refCheckPart_val ha hb x.f0 x.f1 x.f2
    rw [Ev.same h3 h1] at h4
    exact h4
   refine Ev.bind h2 ?_
   simp (config := { decide := true }) only [if_true, if_false]
   refine Ev.bind h1 ?_
   simp (config := { decide := true }) only [if_true, if_false]
   exact hw
 ·have hP : Ev (fun k => gooseneckref01_Part.f k a b) (errHs [a, b]) := by
   unfold gooseneckref01_Part.f
   refine Ev.bind (hulls_ev a b) ?_
   simp only [he, if_false]
   exact Ev.now _
  have hO : plane_Part.f a b = some (0, 0, 0, errHs [a, b]) := by
   unfold plane_Part.f
   rw [checkHs_any, Option.bind_some, if_neg he]
  simp only [hO, Option.bind_some]
  refine Ev.bind hP ?_
  simp (config := { decide := true }) only [he, if_true, if_false]
  exact hw
theorem meets_j0 (a b : List S23) (x y z : Int) (c : Bool) : Ev (fun k => goosenecklaw01_PlaneMeets.j0 k a b c x y z) true := by
 have hw : Ev (fun k => (goosenecklaw01_works.f k).bind fun t => some t) true := Ev.bind works_ev (Ev.now _)
 refine Ev.succ ?_
 simp only [goosenecklaw01_PlaneMeets.j0]
 cases c with
 | true => simp only [if_true]; exact hw
 | false =>
  simp only [Bool.false_eq_true, if_false]
  by_cases he : errHs [a, b] = 0
  ·obtain ⟨ha, hb⟩ := errHs_zero he
   have hM := Meets_ev a b (isHullV_isH ha).ne (isHullV_isH hb).ne (by have := (isHullV_iff.1 ha).1.2.1; omega) (by have := (isHullV_iff.1 hb).1.2.1; omega)
   have hrM : Ev (fun k => gooseneckref01_Meet.f k a b) (!apartV a b, 0) := by
    unfold gooseneckref01_Meet.f
    refine Ev.bind (hulls_ev a b) ?_
    rw [he]
    simp only [if_true]
    exact Ev.bind hM (Ev.now _)
   obtain ⟨g, hg, eg⟩ := Gap_ev ha hb
   obtain ⟨g', hg', eg'⟩ := Apart_ev ha hb
   obtain rfl := gap_unique hg hg'
   have hrG : Ev (fun k => gooseneckref01_Gap.f k a b) (g, 0) := by
    unfold gooseneckref01_Gap.f
    refine Ev.bind (hulls_ev a b) ?_
    rw [he]
    simp only [if_true]
    exact Ev.bind eg' (Ev.now _)
   simp only [Meet_eq ha hb, Option.bind_some]
   refine Ev.bind hrM (Ev.bind eg (Ev.bind hrG ?_))
   simp only [bne_self_eq_false, Bool.false_eq_true, if_false, eq_self, if_true]
   refine Ev.bind (CheckPart_val ha hb x y z) (Ev.bind (refCheckPart_val ha hb x y z) ?_)
   simp only [bne_self_eq_false]
   exact meets_j1 a b
  ·have hoM : plane_Meet.f a b = some (false, errHs [a, b]) := by
    unfold plane_Meet.f
    rw [checkHs_any, Option.bind_some, if_neg he]
   have hrM : Ev (fun k => gooseneckref01_Meet.f k a b) (false, errHs [a, b]) := by
    unfold gooseneckref01_Meet.f
    refine Ev.bind (hulls_ev a b) ?_
    simp only [he, if_false]
    exact Ev.now _
   have hoG : Ev (fun k => plane_Gap.f k a b) (0, errHs [a, b]) := by
    unfold plane_Gap.f
    rw [checkHs_any]
    simp only [Option.bind_some, he, if_false]
    exact Ev.now _
   have hrG : Ev (fun k => gooseneckref01_Gap.f k a b) (0, errHs [a, b]) := by
    unfold gooseneckref01_Gap.f
    refine Ev.bind (hulls_ev a b) ?_
    simp only [he, if_false]
    exact Ev.now _
   have hoC : Ev (fun k => plane_CheckPart.f k a b x y z) (errHs [a, b]) := by
    unfold plane_CheckPart.f
    rw [checkHs_any]
    simp only [Option.bind_some, he, if_false]
    exact Ev.now _
   have hrC : Ev (fun k => gooseneckref01_CheckPart.f k a b x y z) (errHs [a, b]) := by
    unfold gooseneckref01_CheckPart.f
    refine Ev.bind (hulls_ev a b) ?_
    simp only [he, if_false]
    exact Ev.now _
   simp only [hoM, Option.bind_some]
   refine Ev.bind hrM (Ev.bind hoG (Ev.bind hrG ?_))
   simp only [bne_self_eq_false, Bool.false_eq_true, if_false, eq_self, if_true]
   refine Ev.bind hoC (Ev.bind hrC ?_)
   simp only [bne_self_eq_false]
   exact meets_j1 a b
theorem PlaneMeets_pure : PlaneMeets_Pure := by
 intro l0 l1 x2 h0 h1 h2
 refine Ev.rounds (g := fun k => goosenecklaw01_PlaneMeets.f k l0 l1 x2.f0 x2.f1 x2.f2) ?_
 unfold goosenecklaw01_PlaneMeets.f
 have hj := fun c => meets_j0 l0 l1 x2.f0 x2.f1 x2.f2 c
 by_cases c1 : (l0.length : Int) > 20 <;> by_cases c2 : (l0.length : Int) ≤ 256 <;> by_cases c3 : (l1.length : Int) > 20 <;> by_cases c4 : (l1.length : Int) ≤ 256 <;> by_cases c5 : (l0.length : Int) > 400 <;>
  simp only [c1, c2, c3, c4, c5, if_true, if_false] <;> exact hj _
end Go.Proofs.Ytegdcnjjelgpjaa.P
namespace Go.Proofs.Ytegdcnjjelgpjaa.planeMeets
open Go.ChangeShapes Go.WideShapes Go.ChangeAt Go.RowKit Go.Proofs.Ytegdcnjjelgpjaa.P
open Go.Proofs.YtegdcnjjelgpjaaW.PrintWords Go.Proofs.YtegdcnjjelgpjaaW.PrintLast Go.Proofs.YtegdcnjjelgpjaaW.PrintMore
open Go.ChangeMaps (open_string shut_string)
set_option linter.unusedVariables false
theorem own : ownKnob Try.prog.godebug = none := by kernel_rfl
theorem laidOut : laidOutB Try.prog = true := by kernel_rfl
set_option maxRecDepth 100000 in
theorem lifted (os : Os) (started : os.Started) (H : Type) (enc : TypeId × Value → H) :
  ReturnsInHanded {} Try.checked os 12 .any (Rows.planeMeetsSpec.pre6 enc Try.prog Try.f12 Rows.planeMeetsRow.domain false) (Rows.planeMeetsSpec.post enc Try.prog Try.f12 false true false false) := by
 refine returnsInHanded_of_change_sized (C := Try.checked) own started (by kernel_rfl) Try.func12
  (ChangeSpec.witness6 (enc := enc) (C := Try.checked) false ⟨#[], #[.slice none 0 0, .slice none 0 0, .agg #[.int .i64 0, .int .i64 0, .int .i64 0]], []⟩ 8 (by kernel_rfl) (by kernel_rfl) (by kernel_rfl) (by kernel_rfl)) ?_
 intro W base args ds gs before hval0 hW hcnd hsz0 _
 have hval : ∀ (j : Nat) t v, Try.f12.params[j]? = some t → args[j]? = some v → Value.okWide Try.prog W .any base t v := hval0
 have hW' := hW
 obtain ⟨p, q, hA0, hV, rfl, hfz, hnd⟩ := hW
 have hA : DataW.TrodAll enc Try.prog W 0 (fun _ => true) true Try.f12.params.toList args.toList ds p := hA0
 rw [Try.params12] at hA hval
 obtain ⟨v0, vs0, d0, ds0, p0, q0, hargs, rfl, rfl, h0, r0⟩ := trodAll_cons hA
 obtain ⟨v1, vs1, d1, ds1, p1, q1, rfl, rfl, rfl, h1, r1⟩ := trodAll_cons r0
 obtain ⟨v2, vs2, d2, ds2, p2, q2, rfl, rfl, rfl, h2, r2⟩ := trodAll_cons r1
 obtain ⟨rfl, rfl, rfl⟩ := trodAll_nil r2
 obtain rfl : args = #[v0, v1, v2] := by cases args; simp_all
 obtain ⟨rfl, rfl⟩ := trodVars_none hV
 have k0 := h0
 have lt0 : ∀ x ∈ p0, x.block < W.heap.size := by obtain ⟨m, hm⟩ := k0; exact DataW.trod_lt m _ _ _ hm
 obtain ⟨a0, len0, cap0, rfl⟩ := okWide_slice Try.underlying53 (hval 0 53 v0 rfl rfl)
 obtain ⟨f0, hf0⟩ := h0
 obtain ⟨l0, ⟨A0, c0, e0, hc0, hr0⟩, w0⟩ := (Opens.slice Try.underlying53 (by kernel_rfl) opens23) H enc W _ _ _ _ _ _ hf0
 simp [Value.cells] at e0
 obtain ⟨rfl, rfl, rfl⟩ := e0
 have k1 := h1
 have lt1 : ∀ x ∈ p1, x.block < W.heap.size := by obtain ⟨m, hm⟩ := k1; exact DataW.trod_lt m _ _ _ hm
 obtain ⟨a1, len1, cap1, rfl⟩ := okWide_slice Try.underlying53 (hval 1 53 v1 rfl rfl)
 obtain ⟨f1, hf1⟩ := h1
 obtain ⟨l1, ⟨A1, c1, e1, hc1, hr1⟩, w1⟩ := (Opens.slice Try.underlying53 (by kernel_rfl) opens23) H enc W _ _ _ _ _ _ hf1
 simp [Value.cells] at e1
 obtain ⟨rfl, rfl, rfl⟩ := e1
 have k2 := h2
 have lt2 : ∀ x ∈ p2, x.block < W.heap.size := by obtain ⟨m, hm⟩ := k2; exact DataW.trod_lt m _ _ _ hm
 obtain ⟨cs2, rfl, hz2⟩ := okWide_struct Try.underlying75 (hval 2 75 v2 rfl rfl)
 obtain ⟨f2, hf2⟩ := h2
 obtain ⟨x2, hK2, w2⟩ := opens75 H enc W _ _ _ _ _ _ hf2
 have e2 := k75_open hK2
 obtain rfl : cs2 = #[.int .i64 x2.f0, .int .i64 x2.f1, .int .i64 x2.f2] := by apply Array.toList_inj.1; simpa [Value.cells] using e2
 clear hA0 hval0 hsz0
 obtain ⟨k, hk⟩ := PlaneMeets_pure l0 l1 x2 w0 w1 w2
 refine (goosenecklaw01_PlaneMeets.calls k _ _ l0 _ _ l1 x2.f0 x2.f1 x2.f2 true W hr0 hc0 hr1 hc1 ⟨rfl⟩ hk).mono fun e W' ⟨he, bel⟩ => ?_
 subst he
 exact ⟨_, rfl, _, _, _, [], _, [], hW', trodAll_mk1 (shut_bool Try.underlying4 _), (trodAll_cons_mk (Below.trod laidOut (by kernel_rfl) (of_decide_eq_true (by kernel_rfl)) k0 bel lt0) (trodAll_cons_mk (Below.trod laidOut (by kernel_rfl) (of_decide_eq_true (by kernel_rfl)) k1 bel lt1) (trodAll_cons_mk (Below.trod laidOut (by kernel_rfl) (of_decide_eq_true (by kernel_rfl)) k2 bel lt2) trodAll_mk0))), rfl, bel.frame _, fun h => by cases h⟩
theorem over : Rows.planeMeetsRow.holds Try.pinned (OpenSpec.ofChange Rows.planeMeetsSpec) :=
 OpenClaim.holds_of_wide 12 Try.f12 rfl rfl rfl rfl rfl rfl rfl ⟨rfl, rfl, rfl, rfl, rfl⟩ rfl rfl rfl rfl rfl (by kernel_rfl) Try.func12 (by kernel_rfl)
  (of_decide_eq_true (by kernel_rfl)) (by unfold Func.isWrapper; first | (rw [if_pos (by decide +kernel)]; kernel_rfl) | (rw [if_neg (by decide +kernel)]; exact ⟨rfl, rfl⟩))
  (fun os started H enc _ => lifted os started H enc)
theorem proved : Rows.PlaneMeetsSaid := over
#print axioms proved
end Go.Proofs.Ytegdcnjjelgpjaa.planeMeets
namespace Go.Proofs.Ytegdcnjjelgpjaa
theorem planeMeets_holds : Rows.PlaneMeetsSaid := planeMeets.proved
end Go.Proofs.Ytegdcnjjelgpjaa
