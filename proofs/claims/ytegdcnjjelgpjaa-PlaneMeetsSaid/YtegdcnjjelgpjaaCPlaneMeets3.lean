/- The law PlaneMeets answers true at every input and leaves its arguments as they were; no condition. Part 4 of 6. -/
import Derived.Test.YtegdcnjjelgpjaaCPlaneMeets0
import Derived.Test.YtegdcnjjelgpjaaCPlaneMeets1
import Derived.Test.YtegdcnjjelgpjaaCPlaneMeets2
set_option linter.unusedVariables false
set_option linter.unusedSimpArgs false
namespace Go.Proofs.Ytegdcnjjelgpjaa.P
open Go.RowKit Go.Proofs.YtegdcnjjelgpjaaW.PrintWords Go.Proofs.YtegdcnjjelgpjaaW.PrintLast Go.Proofs.YtegdcnjjelgpjaaW.PrintMore
attribute [local go_sem] max2_int min2_int max_two min_two max_three min_three max_four min_four   -- for this text's walks alone
set_option linter.unusedVariables false
set_option linter.unusedSimpArgs false
attribute [local go_sem high] eqA23
def gooseneckref01_Same.l0 : Nat → List (S23) → List (S23) → Int → Option (Bool)
 | 0, _, _, _ => none
 | k + 1, x0, x1, x5 => if x5 < (x0.length : Int) then (if 0 ≤ x5 then (if x5 < (x1.length : Int) then (if (!(((rd_T23 x0 x5).f0) == ((rd_T23 x1 x5).f0)) || (!(((rd_T23 x0 x5).f1) == ((rd_T23 x1 x5).f1)))) = true then (some false) else (gooseneckref01_Same.l0 k x0 x1 (wrap64 (x5 + 1)))) else (none)) else (none)) else (some true)
def gooseneckref01_Same.f (k : Nat) (l0 : List (S23)) (l1 : List (S23)) : Option (Bool) := if (l0.length : Int) = (l1.length : Int) then (gooseneckref01_Same.l0 k l0 l1 0) else (some false)
theorem gooseneckref01_Same.mono_l : ∀ k, (∀ y0 y1 y2, LeO (gooseneckref01_Same.l0 k y0 y1 y2) (gooseneckref01_Same.l0 (k + 1) y0 y1 y2))
 | 0 => fun _ _ _ r h => by simp [gooseneckref01_Same.l0] at h
 | k + 1 => by
  have ih0 := gooseneckref01_Same.mono_l k
  ·intro y0 y1 y2
   unfold gooseneckref01_Same.l0
   repeat' first
   | (with_reducible exact ih0 _ _ _)
   | (with_reducible exact LeO.refl _)
   | (with_reducible exact LeO.none _)
   | (with_reducible refine LeO.ite ?_ ?_)
   | (with_reducible refine LeO.bind ?_ (fun _ => ?_))
   | exact ih0 _ _ _
   | exact LeO.none _
   | refine LeO.ite ?_ ?_
   | refine LeO.bind ?_ (fun _ => ?_)
theorem gooseneckref01_Same.mono : ∀ a0 a1 k, LeO (gooseneckref01_Same.f k a0 a1) (gooseneckref01_Same.f (k + 1) a0 a1) := by
 intro a0 a1 k
 have ih0 := gooseneckref01_Same.mono_l k
 unfold gooseneckref01_Same.f
 repeat' first
   | (with_reducible exact ih0 _ _ _)
   | (with_reducible exact LeO.refl _)
   | (with_reducible exact LeO.none _)
   | (with_reducible refine LeO.ite ?_ ?_)
   | (with_reducible refine LeO.bind ?_ (fun _ => ?_))
   | exact ih0 _ _ _
   | exact LeO.none _
   | refine LeO.ite ?_ ?_
   | refine LeO.bind ?_ (fun _ => ?_)
set_option maxHeartbeats 8000000 in
set_option maxRecDepth 100000 in
theorem gooseneckref01_Same.calls (k : Nat) (A0 : Option Addr) (c0 : Nat) (l0 : List (S23)) (A1 : Option Addr) (c1 : Nat) (l1 : List (S23)) (r : Bool) (w : World) (hr0 : Kd.C k23 w A0 l0.length l0) (hc0 : l0.length ≤ c0) (hr1 : Kd.C k23 w A1 l1.length l1) (hc1 : l1.length ≤ c1) (h : gooseneckref01_Same.f k l0 l1 = some r) :
  Calls Try.prog 50 #[.slice A0 l0.length c0, .slice A1 l1.length c1] w fun e w' => e = .returned (.bool r) ∧ Drawn0 w w' := by
 have hu23 := Try.underlying23
 have HR0 := Aside0.mk hr0
 have HC0 := Aside0.mk hc0
 clear hr0 hc0
 have HR1 := Aside0.mk hr1
 have HC1 := Aside0.mk hc1
 clear hr1 hc1
 have H : (if (l0.length : Int) = (l1.length : Int) then (gooseneckref01_Same.l0 k l0 l1 0) else (some false)) = some r := h
 clear h
 by_cases c3 : (l0.length : Int) = (l1.length : Int)
 ·rw [if_pos c3] at H
  have c3b0 : ((l0.length : Int) == (l1.length : Int)) = true := beq_iff_eq.mpr c3
  have c3b1 : ((l0.length : Int) != (l1.length : Int)) = false := bne_eq_false_iff_eq.mpr c3
  have c3b2 : (l0.length == l1.length) = true := by first | simpa using c3 | (simp at c3 ⊢; omega)
  clear c3
  have H' := Aside0.mk H
  clear H
  go_enter Try.func50, Try.ntmps50
  go_wp2
  repeat (go_quiet (fail); try go_wp2)
  go_loopg [5] k (fun kq v5 w' => ∃ (x5_1 : Int), v5 = .int .i64 x5_1 ∧ Aside0 (gooseneckref01_Same.l0 kq l0 l1 x5_1 = some r) ∧ Aside0 (kq ≤ k) ∧ Drawn0 w w')
  case atStart => exact ⟨(0), sB, H', ⟨Nat.le_refl _⟩, by repeat (first | exact Drawn0.refl _ | apply Drawn0.step)⟩
  case round =>
   clear H'
   try clear c1
   try clear p2
   try clear c3
   try clear c3b0
   try clear c3b1
   try clear c3b2
   obtain ⟨x5_1, rfl, HA, HK1, ⟨m1, rfl⟩⟩ := hrel
   cases gk with
   | zero => exact absurd HA.out (by simp [gooseneckref01_Same.l0])
   | succ k1 =>
    have H := HA.out
    clear HA
    simp only [gooseneckref01_Same.l0] at H
    by_cases c4 : x5_1 < (l0.length : Int)
    ·rw [if_pos c4] at H
     have c4b0 : decide (x5_1 < (l0.length : Int)) = true := decide_eq_true c4
     clear c4
     by_cases c5 : 0 ≤ x5_1
     ·rw [if_pos c5] at H
      have c5b0 : decide (0 ≤ x5_1) = true := decide_eq_true c5
      clear c5
      by_cases c6 : x5_1 < (l1.length : Int)
      ·rw [if_pos c6] at H
       have c6b0 : decide (x5_1 < (l1.length : Int)) = true := decide_eq_true c6
       clear c6
       by_cases c7 : (!(((rd_T23 l0 x5_1).f0) == ((rd_T23 l1 x5_1).f0)) || (!(((rd_T23 l0 x5_1).f1) == ((rd_T23 l1 x5_1).f1)))) = true
       ·rw [if_pos c7] at H
        have c7b0 : (!(((rd_T23 l0 x5_1).f0) == ((rd_T23 l1 x5_1).f0)) || (!(((rd_T23 l0 x5_1).f1) == ((rd_T23 l1 x5_1).f1)))) = true := c7
        clear c7
        obtain rfl := Option.some.inj H
        have p101 : 0 ≤ (x5_1 : Int) := oB
        have q101 : x5_1 < (l0.length : Int) := oB
        obtain ⟨ad101, e101, hx101_0, hx101_1⟩ := at_T23 HR0.out x5_1 p101 q101
        cases e101
        replace p101 := eq_true p101
        replace q101 := eq_true q101
        have p102 : 0 ≤ (x5_1 : Int) := oB
        have q102 : x5_1 < (l1.length : Int) := oB
        obtain ⟨ad102, e102, hx102_0, hx102_1⟩ := at_T23 HR1.out x5_1 p102 q102
        cases e102
        replace p102 := eq_true p102
        replace q102 := eq_true q102
        go_wp2
        repeat (go_quiet (fail); try go_wp2)
        go_ret
        exact ⟨by first | rfl | (simp; done) | (simp [*]; done), by repeat (first | exact Drawn0.refl _ | apply Drawn0.step)⟩
       ·rw [if_neg c7] at H
        have c7b0 : (!(((rd_T23 l0 x5_1).f0) == ((rd_T23 l1 x5_1).f0)) || (!(((rd_T23 l0 x5_1).f1) == ((rd_T23 l1 x5_1).f1)))) = false := by simpa using c7
        clear c7
        have H' := Aside0.mk H
        clear H
        have p101 : 0 ≤ (x5_1 : Int) := oB
        have q101 : x5_1 < (l0.length : Int) := oB
        obtain ⟨ad101, e101, hx101_0, hx101_1⟩ := at_T23 HR0.out x5_1 p101 q101
        cases e101
        replace p101 := eq_true p101
        replace q101 := eq_true q101
        have p102 : 0 ≤ (x5_1 : Int) := oB
        have q102 : x5_1 < (l1.length : Int) := oB
        obtain ⟨ad102, e102, hx102_0, hx102_1⟩ := at_T23 HR1.out x5_1 p102 q102
        cases e102
        replace p102 := eq_true p102
        replace q102 := eq_true q102
        go_wp2
        repeat (go_quiet (fail); try go_wp2)
        go_roundg k1
        case measure => have := HK1.out; omega
        case rel => exact ⟨(wrap64 (x5_1 + 1)), sB, H', ⟨by have := HK1.out; omega⟩, by repeat (first | exact Drawn0.refl _ | apply Drawn0.step)⟩
      ·rw [if_neg c6] at H
       exact absurd H (by simp)
     ·rw [if_neg c5] at H
      exact absurd H (by simp)
    ·rw [if_neg c4] at H
     have c4b0 : decide (x5_1 < (l0.length : Int)) = false := decide_eq_false c4
     clear c4
     obtain rfl := Option.some.inj H
     go_wp2
     repeat (go_quiet (fail); try go_wp2)
     go_ret
     exact ⟨by first | rfl | (simp; done) | (simp [*]; done), by repeat (first | exact Drawn0.refl _ | apply Drawn0.step)⟩
 ·rw [if_neg c3] at H
  have c3b0 : ((l0.length : Int) == (l1.length : Int)) = false := beq_eq_false_iff_ne.mpr c3
  have c3b1 : ((l0.length : Int) != (l1.length : Int)) = true := bne_iff_ne.mpr c3
  have c3b2 : (l0.length == l1.length) = false := by first | simpa using c3 | (simp at c3 ⊢; omega)
  obtain rfl := Option.some.inj H
  go_enter Try.func50, Try.ntmps50
  go_wp2
  repeat (go_quiet (fail); try go_wp2)
  go_ret
  exact ⟨by first | rfl | (simp; done) | (simp [*]; done), by repeat (first | exact Drawn0.refl _ | apply Drawn0.step)⟩
end Go.Proofs.Ytegdcnjjelgpjaa.P
namespace Go.Proofs.Ytegdcnjjelgpjaa.P
open Go.RowKit Go.Shelf Go.Proofs.Ytegdcnjjelgpjaa.O Go.Proofs.YtegdcnjjelgpjaaW.PrintWords Go.Proofs.YtegdcnjjelgpjaaW.PrintLast Go.Proofs.YtegdcnjjelgpjaaW.PrintMore
set_option linter.unusedVariables false
set_option linter.unusedSimpArgs false
theorem opIn_append_any {F : Fence} {n : Nat} (w : World) {o : Oper} {a : Act} {K : Act → World → Prop} {Q : Exit → Act → World → Prop}
  (s x : Operand) (hop : o.op = Op.call { callee := Callee.builtin Builtin.append, args := #[s, x], argTypes := #[53, 53] })
  (base : Nat) (v : Value) (l : List S23) (hs : a.eval s = v) (hO : OutV w base v l) (A : Option Addr) (m cap : Nat) (ys : List S23) (hx : a.eval x = .slice A m cap) (hm : m = ys.length)
  (hn : A = none → m = 0) (hy : ∀ ad, A = some ad → ∀ j u, (ys.flatMap ptC)[j]? = some u → w.cell? (ad.add j) = some u) (hl : l.length + ys.length ≤ 8796093022208) (hb : base ≤ w.heap.size)
  (hK : ∀ v' w', OutV w' base v' (l ++ ys) → w.grownBy w' v.ownBlock → (v'.ownBlock = v.ownBlock ∨ v'.ownBlock = some w.heap.size) → K (a.put o.dst v') w') :
  o.wpIn F n Try.prog a w K Q := by
 subst hm
 obtain ⟨i0, hi, hzz⟩ := Option.map_eq_some_iff.1 info23
 simp only [Prod.mk.injEq] at hzz
 have hrun : ∃ v' w', (Builtin.append_ #[53, 53] o.type #[v, .slice A ys.length cap]).run Try.prog w = .ok v' w' ∧ OutV w' base v' (l ++ ys) ∧ w.grownBy w' v.ownBlock ∧ (v'.ownBlock = v.ownBlock ∨ v'.ownBlock = some w.heap.size) := by
  rcases A with _ | ad
  ·have h0 := hn rfl
   obtain rfl : ys = [] := List.eq_nil_of_length_eq_zero h0
   refine ⟨v, w, ?_, by rw [List.append_nil]; exact hO, World.grownBy.refl w _, .inl rfl⟩
   rcases hO.owns.2 with ⟨rfl, hn⟩ | ⟨g, cap, cur, rfl, _, _, hnc, _⟩
   ·simp [Builtin.append_, run_underlying Try.underlying53, sizeOf, typeInfo, hi, Builtin.lenOf, Builtin.firstCells]
   ·simp [Builtin.append_, run_underlying Try.underlying53, sizeOf, typeInfo, hi, Builtin.lenOf, Builtin.firstCells, hnc, storeCells]
  ·obtain ⟨v', w', hrun, r1, r2, r3, r4⟩ := run_append_own_at (P := Try.prog) (w := w) base 53 o.type 23 i0 (.agg #[(.int .i64 0), (.int .i64 0)]) 2 16 Try.underlying53 hi hzz.1 hzz.2.1 hzz.2.2 rfl (by decide) v l.length (l.flatMap ptC) hO.owns
    ad ys.length cap (ys.flatMap ptC) (flat_len ys) (hy ad rfl) (by
     intro u hu
     obtain ⟨x, _, hx⟩ := List.mem_flatMap.1 hu
     simp [ptC] at hx; rcases hx with rfl | rfl <;> rfl) (by unfold maxLen; omega) (by omega) hb
   exact ⟨v', w', hrun, OutV.ofOwns (by rw [List.length_append, List.flatMap_append]; exact r1), r2, r4⟩
 obtain ⟨v', w', hrun, hO', r2, r4⟩ := hrun
 unfold Oper.wpIn
 refine ⟨?_, ?_⟩
 ·simp [Oper.about, hop, resolve, Target.leads, Sem.run_pure]
 ·rw [Oper.semAt_plain F _ _ (by rw [hop]; intro c hc'; cases hc')]
  simp [execOp, hop, resolve, invoke, builtin, hs, hx, hrun, Result.andThen]
  exact hK v' w' hO' r2 r4
theorem wpAnyIn_full {F : Fence} {n : Nat} {P : Program} {ops : Array Oper} {Q : Exit → Act → World → Prop} {md : Region.Mode} {fuel : Nat} {listed : Array Bool} {a : Act} {w : World} (hr : Region.ready md ops listed = []) (h : Q .normal a w) : wpAnyIn F n P md ops Q fuel listed a w := by
 cases fuel with
 | zero => exact ⟨hr, h⟩
 | succ f => exact ⟨fun _ => h, fun i hi => by rw [hr] at hi; simp at hi⟩
theorem cell_of_heap {V V1 : World} {g k : Nat} (e : V1.heap[g]? = V.heap[g]?) : V1.cell? ⟨g, k, none⟩ = V.cell? ⟨g, k, none⟩ := by
 unfold World.cell?
 simp only [e]
def waitsB (ops : Array Oper) (i : Nat) : Nat → Nat → Bool
 | 0, _ => false
 | f + 1, j => match ops[j]? with
  | some o => o.after.any fun e => Region.binds .any e && (e.on == i || waitsB ops i f e.on)
  | none => false
theorem waits_up {ops : Array Oper} {listed : Array Bool} (hc : Closed .any ops listed) (i : Nat) : ∀ (f j : Nat), waitsB ops i f j = true → listed.getD j false = true → listed.getD i false = true
 | 0, _, h, _ => by simp [waitsB] at h
 | f + 1, j, h, hj => by
  unfold waitsB at h
  split at h
  ·rename_i o ho
   obtain ⟨p, hp, he⟩ := Array.any_eq_true.1 h
   have hm : o.after[p] ∈ o.after := Array.getElem_mem hp
   simp only [Bool.and_eq_true, Bool.or_eq_true, beq_iff_eq] at he
   have hon := hc j o ho hj _ hm he.1
   rcases he.2 with e | e
   ·rw [← e]; exact hon
   ·exact waits_up hc i f _ e hon
  ·cases h
theorem upB {ops : Array Oper} {listed : Array Bool} {i j : Nat} (hc : Closed .any ops listed) (hw : waitsB ops i 8 j = true) (hj : listed.getD j false = true) : listed.getD i false = true := waits_up hc i 8 j hw hj
theorem offB {ops : Array Oper} {listed : Array Bool} {i j : Nat} (hc : Closed .any ops listed) (hw : waitsB ops i 8 j = true) (hi : listed.getD i false = false) : listed.getD j false = false := by
 cases h : listed.getD j false
 ·rfl
 ·rw [upB hc hw h] at hi; cases hi
def One (V : World) (B : Nat) (v : Value) (x : S23) : Prop := ∃ g c, v = .slice (some ⟨g, 0, none⟩) 1 c ∧ B ≤ g ∧ V.cell? ⟨g, 0, none⟩ = some (.int .i64 x.f0) ∧ V.cell? ⟨g, 1, none⟩ = some (.int .i64 x.f1)
theorem One.own {V : World} {B : Nat} {v : Value} {x : S23} (h : One V B v x) : ∃ g, v.ownBlock = some g ∧ g < V.heap.size ∧ B ≤ g := by
 obtain ⟨g, c, rfl, hb, h0, h1⟩ := h
 exact ⟨g, by simp [Value.ownBlock], World.block_lt_of_cell? V _ h0, hb⟩
theorem One.move {V V1 : World} {B : Nat} {v : Value} {x : S23} (h : One V B v x) (hm : ∀ k, v.ownBlock = some k → V1.heap[k]? = V.heap[k]?) : One V1 B v x := by
 obtain ⟨g, c, rfl, hb, h0, h1⟩ := h
 have e := hm g (by simp [Value.ownBlock])
 refine ⟨g, c, rfl, hb, ?_, ?_⟩
 ·rw [← h0]; exact cell_of_heap e
 ·rw [← h1]; exact cell_of_heap e
structure Ins3 (B : Nat) (wq : World) (s : List S23) (i : Nat) (x : S23) (L : Array Bool) (v44 v48 v53 v54 v58 : Value) (V : World) : Prop where
 below : Below B wq V
 n15 : L.getD 15 false = false
 size : B ≤ V.heap.size
 e0 : L.getD 0 false = true → L.getD 4 false = false → OutV V B v44 []
 e4 : L.getD 4 false = true → L.getD 10 false = false → OutV V B v48 (s.take i)
 e9 : L.getD 9 false = true → L.getD 10 false = false → One V B v53 x
 n0 : L.getD 0 false = true → L.getD 9 false = true → L.getD 4 false = false → ∀ q, v44.ownBlock = some q → v53.ownBlock ≠ some q
 n4 : L.getD 4 false = true → L.getD 9 false = true → L.getD 10 false = false → ∀ q, v48.ownBlock = some q → v53.ownBlock ≠ some q
 e10 : L.getD 10 false = true → L.getD 14 false = false → OutV V B v54 (s.take i ++ [x])
 e14 : L.getD 14 false = true → OutV V B v58 (s.take i ++ [x] ++ s.drop i)
section
variable {B : Nat} {wq : World} {s : List S23} {i : Nat} {x : S23} {L : Array Bool} {v44 v48 v53 v54 v58 : Value} {V : World}
theorem Ins3.other (h : Ins3 B wq s i x L v44 v48 v53 v54 v58 V) {j : Nat} (hj : j < L.size) (h0 : j ≠ 0) (h4 : j ≠ 4) (h9 : j ≠ 9) (h10 : j ≠ 10) (h14 : j ≠ 14) (h15 : j ≠ 15) : Ins3 B wq s i x (L.setIfInBounds j true) v44 v48 v53 v54 v58 V := by
 have g0 := getD_other (l := L) hj h0
 have g4 := getD_other (l := L) hj h4
 have g9 := getD_other (l := L) hj h9
 have g10 := getD_other (l := L) hj h10
 have g14 := getD_other (l := L) hj h14
 exact ⟨h.below, (getD_other hj h15).trans h.n15, h.size, by rw [g0, g4]; exact h.e0, by rw [g4, g10]; exact h.e4, by rw [g9, g10]; exact h.e9, by rw [g0, g9, g4]; exact h.n0, by rw [g4, g9, g10]; exact h.n4, by rw [g10, g14]; exact h.e10, by rw [g14]; exact h.e14⟩
theorem Ins3.op0 (h : Ins3 B wq s i x L v44 v48 v53 v54 v58 V) (hj : 0 < L.size) (d4 : L.getD 4 false = false) (d10 : L.getD 10 false = false) (d14 : L.getD 14 false = false) :
  Ins3 B wq s i x (L.setIfInBounds 0 true) (.slice (some ⟨V.heap.size, 0, none⟩) 0 0) v48 v53 v54 v58 (V.alloc (.cells #[] 23 (0, 0))) := by
 have g0 := getD_same (l := L) hj
 have g4 := (getD_other (l := L) (j := 4) hj (by decide)).trans d4
 have g9 := getD_other (l := L) (j := 9) hj (by decide)
 have g10 := (getD_other (l := L) (j := 10) hj (by decide)).trans d10
 have g14 := (getD_other (l := L) (j := 14) hj (by decide)).trans d14
 have hb : Below V.heap.size V (V.alloc (.cells #[] 23 (0, 0))) := (Below.refl _ _).alloc (Nat.le_refl _) _
 refine ⟨h.below.trans (hb.mono h.size), (getD_other hj (by decide)).trans h.n15, Nat.le_trans h.size hb.size, fun _ _ => ?_, fun e => (by rw [g4] at e; cases e), ?_, ?_, fun e => (by rw [g4] at e; cases e), fun e => (by rw [g10] at e; cases e), fun e => (by rw [g14] at e; cases e)⟩
 ·exact .inr ⟨V.heap.size, 0, rfl, h.size, #[], blk_new _ _, rfl, Nat.le_refl _, by unfold maxLen; omega, fun j hj => absurd hj (by simp)⟩
 ·rw [g9, g10]; intro e9 _
  exact (h.e9 e9 d10).move fun k hk => hb.block k (by obtain ⟨g, e, hl, _⟩ := (h.e9 e9 d10).own; rw [e] at hk; cases hk; exact hl)
 ·rw [g9]; intro _ e9 _ q hq hc
  obtain ⟨g, e, hl, _⟩ := (h.e9 e9 d10).own
  simp [Value.ownBlock] at hq
  rw [e] at hc; cases hc; omega
theorem Ins3.op9 (h : Ins3 B wq s i x L v44 v48 v53 v54 v58 V) (hj : 9 < L.size) (d10 : L.getD 10 false = false) (d14 : L.getD 14 false = false) :
  Ins3 B wq s i x (L.setIfInBounds 9 true) v44 v48 (.slice (some ⟨V.heap.size, 0, none⟩) 1 1) v54 v58 (V.alloc (.cells #[.int .i64 x.f0, .int .i64 x.f1] 23 (0, 0))) := by
 have g9 := getD_same (l := L) hj
 have g0 := getD_other (l := L) (j := 0) hj (by decide)
 have g4 := getD_other (l := L) (j := 4) hj (by decide)
 have g10 := (getD_other (l := L) (j := 10) hj (by decide)).trans d10
 have g14 := (getD_other (l := L) (j := 14) hj (by decide)).trans d14
 have hb : Below V.heap.size V (V.alloc (.cells #[.int .i64 x.f0, .int .i64 x.f1] 23 (0, 0))) := (Below.refl _ _).alloc (Nat.le_refl _) _
 have kn := blk_new V (.cells #[.int .i64 x.f0, .int .i64 x.f1] 23 (0, 0))
 refine ⟨h.below.trans (hb.mono h.size), (getD_other hj (by decide)).trans h.n15, Nat.le_trans h.size hb.size, ?_, ?_, fun _ _ => ⟨V.heap.size, 1, rfl, h.size, (blk_cell kn 0).trans rfl, (blk_cell kn 1).trans rfl⟩, ?_, ?_, fun e => (by rw [g10] at e; cases e), fun e => (by rw [g14] at e; cases e)⟩
 ·rw [g0, g4]; intro a b; exact (h.e0 a b).below hb
 ·rw [g4, g10]; intro a _; exact (h.e4 a d10).below hb
 ·rw [g0, g4]; intro a _ b q hq hc
  have := ((h.e0 a b).lt q hq).1
  simp [Value.ownBlock] at hc; omega
 ·rw [g4, g10]; intro a _ _ q hq hc
  have := ((h.e4 a d10).lt q hq).1
  simp [Value.ownBlock] at hc; omega
theorem Ins3.op4 (h : Ins3 B wq s i x L v44 v48 v53 v54 v58 V) (hj : 4 < L.size) (d0 : L.getD 0 false = true) (d4 : L.getD 4 false = false) (d10 : L.getD 10 false = false) (d14 : L.getD 14 false = false) {v' : Value} {V2 : World}
  (ho : OutV V2 B v' ([] ++ s.take i)) (hg : V.grownBy V2 v44.ownBlock) (hat : v'.ownBlock = v44.ownBlock ∨ v'.ownBlock = some V.heap.size) :
  Ins3 B wq s i x (L.setIfInBounds 4 true) v44 v' v53 v54 v58 V2 := by
 have g4 := getD_same (l := L) hj
 have g9 := getD_other (l := L) (j := 9) hj (by decide)
 have g10 := (getD_other (l := L) (j := 10) hj (by decide)).trans d10
 have g14 := (getD_other (l := L) (j := 14) hj (by decide)).trans d14
 have o0 := h.e0 d0 d4
 have hb : Below B V V2 := (Below.refl B V).grown hg h.size fun k hk => (o0.lt k hk).2
 refine ⟨h.below.trans hb, (getD_other hj (by decide)).trans h.n15, Nat.le_trans h.size hg.size, fun _ e => (by rw [g4] at e; cases e), fun _ _ => ho, ?_, fun _ _ e => (by rw [g4] at e; cases e), ?_, fun e => (by rw [g10] at e; cases e), fun e => (by rw [g14] at e; cases e)⟩
 ·rw [g9, g10]; intro e9 _
  refine (h.e9 e9 d10).move fun k hk => ?_
  obtain ⟨g, e, hl, _⟩ := (h.e9 e9 d10).own
  have : k = g := by rw [e] at hk; cases hk; rfl
  subst this
  exact hg.block k hl fun e' => h.n0 d0 e9 d4 k e'.symm e
 ·rw [g9, g10]; intro _ e9 _ q hq hc
  obtain ⟨g, e, hl, _⟩ := (h.e9 e9 d10).own
  rcases hat with ha | ha
  ·exact h.n0 d0 e9 d4 q (by rw [← ha]; exact hq) hc
  ·rw [hq] at ha; cases ha
   rw [e] at hc; cases hc; omega
theorem Ins3.op10 (h : Ins3 B wq s i x L v44 v48 v53 v54 v58 V) (hj : 10 < L.size) (d0 : L.getD 0 false = true) (d4 : L.getD 4 false = true) (d9 : L.getD 9 false = true) (d10 : L.getD 10 false = false) (d14 : L.getD 14 false = false) {v' : Value} {V2 : World}
  (ho : OutV V2 B v' (s.take i ++ [x])) (hg : V.grownBy V2 v48.ownBlock) :
  Ins3 B wq s i x (L.setIfInBounds 10 true) v44 v48 v53 v' v58 V2 := by
 have g10 := getD_same (l := L) hj
 have g4 := (getD_other (l := L) (j := 4) hj (by decide)).trans d4
 have g14 := (getD_other (l := L) (j := 14) hj (by decide)).trans d14
 have o4 := h.e4 d4 d10
 have hb : Below B V V2 := (Below.refl B V).grown hg h.size fun k hk => (o4.lt k hk).2
 exact ⟨h.below.trans hb, (getD_other hj (by decide)).trans h.n15, Nat.le_trans h.size hg.size, fun _ e => (by rw [g4] at e; cases e), fun _ e => (by rw [g10] at e; cases e), fun _ e => (by rw [g10] at e; cases e), fun _ _ e => (by rw [g4] at e; cases e), fun _ _ e => (by rw [g10] at e; cases e), fun _ _ => ho, fun e => (by rw [g14] at e; cases e)⟩
theorem Ins3.op14 (h : Ins3 B wq s i x L v44 v48 v53 v54 v58 V) (hj : 14 < L.size) (d4 : L.getD 4 false = true) (d10 : L.getD 10 false = true) (d14 : L.getD 14 false = false) {v' : Value} {V2 : World}
  (ho : OutV V2 B v' (s.take i ++ [x] ++ s.drop i)) (hg : V.grownBy V2 v54.ownBlock) :
  Ins3 B wq s i x (L.setIfInBounds 14 true) v44 v48 v53 v54 v' V2 := by
 have g14 := getD_same (l := L) hj
 have g4 := (getD_other (l := L) (j := 4) hj (by decide)).trans d4
 have g10 := (getD_other (l := L) (j := 10) hj (by decide)).trans d10
 have o10 := h.e10 d10 d14
 have hb : Below B V V2 := (Below.refl B V).grown hg h.size fun k hk => (o10.lt k hk).2
 exact ⟨h.below.trans hb, (getD_other hj (by decide)).trans h.n15, Nat.le_trans h.size hg.size, fun _ e => (by rw [g4] at e; cases e), fun _ e => (by rw [g10] at e; cases e), fun _ e => (by rw [g10] at e; cases e), fun _ _ e => (by rw [g4] at e; cases e), fun _ _ e => (by rw [g10] at e; cases e), fun _ e => (by rw [g14] at e; cases e), fun _ => ho⟩
theorem Ins3.start (wq : World) (s : List S23) (i : Nat) (x : S23) (u44 u48 u53 u54 u58 : Value) : Ins3 wq.heap.size wq s i x (Array.replicate 16 false) u44 u48 u53 u54 u58 wq.drew := by
 have z : ∀ j, (Array.replicate 16 false).getD j false = false := fun j => by simp [Array.getD]
 refine ⟨(Below.refl _ _).drew, z 15, by simp, fun e => ?_, fun e => ?_, fun e => ?_, fun e => ?_, fun e => ?_, fun e => ?_, fun e => ?_⟩ <;> (rw [z] at e; cases e)
end
theorem seg_cells {w : World} {g cap : Nat} {s : List S23} (h : Row2 w g cap s) (i : Nat) (hi : i ≤ s.length) : ∀ j u, ((s.drop i).flatMap ptC)[j]? = some u → w.cell? ⟨g, i * 2 + j, none⟩ = some u := by
 intro j u hu
 refine h.flat (i * 2 + j) u ?_
 have e : s.flatMap ptC = (s.take i).flatMap ptC ++ (s.drop i).flatMap ptC := by rw [← List.flatMap_append, List.take_append_drop]
 rw [e, List.getElem?_append_right (by rw [flat_len, List.length_take]; omega), flat_len, List.length_take, Nat.min_eq_left hi, Nat.add_sub_cancel_left]
 exact hu
theorem pre_cells {w : World} {g cap : Nat} {s : List S23} (h : Row2 w g cap s) (i : Nat) : ∀ j u, ((s.take i).flatMap ptC)[j]? = some u → w.cell? ⟨g, j, none⟩ = some u := fun j u hu => (h.take i).flat j u hu
theorem cell_add {V : World} {g o j : Nat} : V.cell? ((⟨g, o, none⟩ : Addr).add j) = V.cell? ⟨g, o + j, none⟩ := by
 unfold Addr.add
 split
 ·rename_i h; subst h; rfl
 ·rfl
theorem OutV.pre {V : World} {base n cap : Nat} {sa : Option Addr} {s : List S23} (h : OutV V base (.slice sa n cap) s) (i : Nat) (hi : i ≤ s.length) :
  ((if cap = 0 then sa else sa.map (·.add (0 * 2))) = none → i = 0) ∧ ∀ ad, (if cap = 0 then sa else sa.map (·.add (0 * 2))) = some ad → ∀ j u, ((s.take i).flatMap ptC)[j]? = some u → V.cell? (ad.add j) = some u := by
 rcases h with ⟨e, rfl⟩ | ⟨g, c, e, hb, hr⟩
 ·injection e with e1 e2 e3
  subst e1
  refine ⟨fun _ => by simpa using hi, fun ad e => ?_⟩
  split at e <;> simp at e
 ·injection e with e1 e2 e3
  subst e1
  refine ⟨fun e => ?_, fun ad e j u hu => ?_⟩
  ·split at e <;> simp at e
  ·have : ad = ⟨g, 0, none⟩ := by
    split at e
    ·exact (Option.some.inj e).symm
    ·simp [Addr.add] at e; exact e.symm
   subst this
   rw [cell_add, Nat.zero_add]
   exact pre_cells hr i j u hu
theorem OutV.suf {V : World} {base n cap : Nat} {sa : Option Addr} {s : List S23} (h : OutV V base (.slice sa n cap) s) (i : Nat) (hi : i ≤ s.length) :
  ((if cap = i then sa else sa.map (·.add (i * 2))) = none → s.length - i = 0) ∧ ∀ ad, (if cap = i then sa else sa.map (·.add (i * 2))) = some ad → ∀ j u, ((s.drop i).flatMap ptC)[j]? = some u → V.cell? (ad.add j) = some u := by
 rcases h with ⟨e, rfl⟩ | ⟨g, c, e, hb, hr⟩
 ·injection e with e1 e2 e3
  subst e1
  refine ⟨fun _ => by simp, fun ad e => ?_⟩
  split at e <;> simp at e
 ·injection e with e1 e2 e3
  subst e1
  refine ⟨fun e => ?_, fun ad e j u hu => ?_⟩
  ·split at e <;> simp at e
  ·by_cases hc : cap = i
   ·have := hr.le.1
    rw [List.drop_of_length_le (by omega)] at hu
    simp at hu
   ·rw [if_neg hc] at e
    have e' := Option.some.inj (by simpa using e)
    rw [← e']
    have hk := seg_cells hr i hi j u hu
    unfold Addr.add
    by_cases h0 : i * 2 = 0
    ·rw [if_pos h0]
     have : i = 0 := by omega
     subst this
     by_cases h1 : j = 0
     ·subst h1; simpa using hk
     ·rw [if_neg h1]; simpa using hk
    ·rw [if_neg h0]
     by_cases h1 : j = 0
     ·subst h1; simpa using hk
     ·rw [if_neg h1]; simpa using hk
theorem opIn_pre {F : Fence} {n : Nat} (w : World) {o : Oper} {a : Act} {K : Act → World → Prop} {Q : Exit → Act → World → Prop} (x h : Operand) (hop : o.op = Op.slice 53 x none (some h) none) (sa : Option Addr) (len cap i : Nat)
  (hx : a.eval x = .slice sa len cap) (hh : a.eval h = .int .i64 (i : Int)) (hi : i ≤ cap) (hK : K (a.put o.dst (sliced sa 0 i cap 2)) w) : o.wpIn F n Try.prog a w K Q := by
 have h3 : Try.prog.elem 53 = 23 := by kernel_rfl
 have h1 := run_slice_h (P := Try.prog) (w := w) 53 sa len cap (by rw [h3]; exact Try.underlying53) .i64 (i : Int) (by omega) (by omega)
 have h2 : (sizeOf 23).run Try.prog w = .ok 2 w := by
  obtain ⟨i0, hi0, hzz⟩ := Option.map_eq_some_iff.1 info23
  simp only [Prod.mk.injEq] at hzz
  simp [sizeOf, typeInfo, hi0, hzz.2.1]
 unfold Oper.wpIn
 refine ⟨?_, ?_⟩
 ·simp [Oper.about, hop]
 ·rw [Oper.semAt_plain F _ _ (by rw [hop]; intro c hc'; cases hc')]
  rw [h3, h2] at h1
  simp only [Result.andThen, Int.toNat_natCast] at h1
  simp [execOp, hop, hx, hh, run_sliceAt_slice, Try.underlying53, h3, h1, Result.andThen]
  exact hK
theorem opIn_suf {F : Fence} {n : Nat} (w : World) {o : Oper} {a : Act} {K : Act → World → Prop} {Q : Exit → Act → World → Prop} (x h : Operand) (hop : o.op = Op.slice 53 x (some h) none none) (sa : Option Addr) (len cap i : Nat)
  (hx : a.eval x = .slice sa len cap) (hh : a.eval h = .int .i64 (i : Int)) (hi : i ≤ len) (hK : K (a.put o.dst (sliced sa i len cap 2)) w) : o.wpIn F n Try.prog a w K Q := by
 have h3 : Try.prog.elem 53 = 23 := by kernel_rfl
 have h1 := run_slice_l (P := Try.prog) (w := w) 53 sa len cap (by rw [h3]; exact Try.underlying53) .i64 (i : Int) (by omega) (by omega)
 have h2 : (sizeOf 23).run Try.prog w = .ok 2 w := by
  obtain ⟨i0, hi0, hzz⟩ := Option.map_eq_some_iff.1 info23
  simp only [Prod.mk.injEq] at hzz
  simp [sizeOf, typeInfo, hi0, hzz.2.1]
 unfold Oper.wpIn
 refine ⟨?_, ?_⟩
 ·simp [Oper.about, hop]
 ·rw [Oper.semAt_plain F _ _ (by rw [hop]; intro c hc'; cases hc')]
  rw [h3, h2] at h1
  simp only [Result.andThen, Int.toNat_natCast] at h1
  simp [execOp, hop, hx, hh, run_sliceAt_slice, Try.underlying53, h3, h1, Result.andThen]
  exact hK
end Go.Proofs.Ytegdcnjjelgpjaa.P
namespace Go.Proofs.Ytegdcnjjelgpjaa.P
open Go.RowKit Go.Proofs.YtegdcnjjelgpjaaW.PrintWords Go.Proofs.YtegdcnjjelgpjaaW.PrintLast Go.Proofs.YtegdcnjjelgpjaaW.PrintMore
attribute [local go_sem] max2_int min2_int max_two min_two max_three min_three max_four min_four   -- for this text's walks alone
set_option linter.unusedVariables false
set_option linter.unusedSimpArgs false
def gooseneckref01_before.f (a0_0 : Int) (a0_1 : Int) (a1_0 : Int) (a1_1 : Int) : Option (Bool) := if a0_0 < a1_0 then (some true) else (if a0_0 = a1_0 then (some (decide (a0_1 < a1_1))) else (some false))
set_option maxHeartbeats 8000000 in
set_option maxRecDepth 100000 in
theorem gooseneckref01_before.calls (a0_0 : Int) (a0_1 : Int) (a1_0 : Int) (a1_1 : Int) (r : Bool) (w : World) (h : gooseneckref01_before.f a0_0 a0_1 a1_0 a1_1 = some r) :
  Calls Try.prog 128 #[.agg #[.int .i64 a0_0, .int .i64 a0_1], .agg #[.int .i64 a1_0, .int .i64 a1_1]] w fun e w' => e = .returned (.bool r) ∧ Below w.heap.size w w' := by
 have hu23 := Try.underlying23
 have HB := Aside0.mk (Below.refl w.heap.size w)
 have H : (if a0_0 < a1_0 then (some true) else (if a0_0 = a1_0 then (some (decide (a0_1 < a1_1))) else (some false))) = some r := h
 clear h
 by_cases c3 : a0_0 < a1_0
 ·rw [if_pos c3] at H
  have c3b0 : decide (a0_0 < a1_0) = true := decide_eq_true c3
  clear c3
  obtain rfl := Option.some.inj H
  go_enter Try.func128, Try.ntmps128
  go_wp2_with (first | ((with_reducible refine gate_dst (N := 2) rfl ?_); refine boxE (N := 2) (cs := #[.int .i64 a0_0, .int .i64 a0_1]) (t := 23) ?_; intro gb101 hg w4 hbox hb; have n0_ := Aside0.mk (below_step (bB0 HB) hb); have BK101 := Aside0.mk (hbox); have GW101 := Aside0.mk (szB hg (below_size (bB0 HB))); have GE101 := GW101; clear HB; have HB := n0_; clear n0_; clear hb hbox hg) | ((with_reducible refine gate_dst (N := 3) rfl ?_); refine boxE (N := 3) (cs := #[.int .i64 a1_0, .int .i64 a1_1]) (t := 23) ?_; intro gb102 hg w5 hbox hb; have n0_ := Aside0.mk (blk_below (kB BK101) hb); have n1_ := Aside0.mk (below_step (bB1 HB GE101) hb); have BK102 := Aside0.mk (hbox); have GW102 := Aside0.mk (szB hg (below_size (bB1 HB GE101))); have GE102 := GW102; have NB101_102 := Aside0.mk (neA hg (blk_lt (kB BK101))); have NB102_101 := Aside0.mk (neB hg (blk_lt (kB BK101))); clear BK101; clear HB; have BK101 := n0_; have HB := n1_; clear n0_ n1_; clear hb hbox hg; have hnb6 := NB101_102.out; have hnc6 := NB102_101.out; have hcz7_0 : w5.cell? ⟨gb101, 0, none⟩ = some (.int .i64 a0_0) := (blk_cell BK101.out 0).trans rfl; have hcz7_1 : w5.cell? ⟨gb101, 1, none⟩ = some (.int .i64 a0_1) := (blk_cell BK101.out 1).trans rfl; have hfz7_0 := blk_frozen BK101.out 0; have hfz7_1 := blk_frozen BK101.out 1; have hcz8_0 : w5.cell? ⟨gb102, 0, none⟩ = some (.int .i64 a1_0) := (blk_cell BK102.out 0).trans rfl; have hcz8_1 : w5.cell? ⟨gb102, 1, none⟩ = some (.int .i64 a1_1) := (blk_cell BK102.out 1).trans rfl; have hfz8_0 := blk_frozen BK102.out 0; have hfz8_1 := blk_frozen BK102.out 1))
  go_ret
  exact ⟨eB, bB2 HB GE101 GE102⟩
 ·rw [if_neg c3] at H
  have c3b0 : decide (a0_0 < a1_0) = false := decide_eq_false c3
  clear c3
  by_cases c9 : a0_0 = a1_0
  ·rw [if_pos c9] at H
   have c9b0 : (a0_0 == a1_0) = true := beq_iff_eq.mpr c9
   have c9b1 : (a0_0 != a1_0) = false := bne_eq_false_iff_eq.mpr c9
   clear c9
   obtain rfl := Option.some.inj H
   go_enter Try.func128, Try.ntmps128
   go_wp2_with (first | ((with_reducible refine gate_dst (N := 2) rfl ?_); refine boxE (N := 2) (cs := #[.int .i64 a0_0, .int .i64 a0_1]) (t := 23) ?_; intro gb101 hg w10 hbox hb; have n0_ := Aside0.mk (below_step (bB0 HB) hb); have BK101 := Aside0.mk (hbox); have GW101 := Aside0.mk (szB hg (below_size (bB0 HB))); have GE101 := GW101; clear HB; have HB := n0_; clear n0_; clear hb hbox hg) | ((with_reducible refine gate_dst (N := 3) rfl ?_); refine boxE (N := 3) (cs := #[.int .i64 a1_0, .int .i64 a1_1]) (t := 23) ?_; intro gb102 hg w11 hbox hb; have n0_ := Aside0.mk (blk_below (kB BK101) hb); have n1_ := Aside0.mk (below_step (bB1 HB GE101) hb); have BK102 := Aside0.mk (hbox); have GW102 := Aside0.mk (szB hg (below_size (bB1 HB GE101))); have GE102 := GW102; have NB101_102 := Aside0.mk (neA hg (blk_lt (kB BK101))); have NB102_101 := Aside0.mk (neB hg (blk_lt (kB BK101))); clear BK101; clear HB; have BK101 := n0_; have HB := n1_; clear n0_ n1_; clear hb hbox hg; have hnb12 := NB101_102.out; have hnc12 := NB102_101.out; have hcz13_0 : w11.cell? ⟨gb101, 0, none⟩ = some (.int .i64 a0_0) := (blk_cell BK101.out 0).trans rfl; have hcz13_1 : w11.cell? ⟨gb101, 1, none⟩ = some (.int .i64 a0_1) := (blk_cell BK101.out 1).trans rfl; have hfz13_0 := blk_frozen BK101.out 0; have hfz13_1 := blk_frozen BK101.out 1; have hcz14_0 : w11.cell? ⟨gb102, 0, none⟩ = some (.int .i64 a1_0) := (blk_cell BK102.out 0).trans rfl; have hcz14_1 : w11.cell? ⟨gb102, 1, none⟩ = some (.int .i64 a1_1) := (blk_cell BK102.out 1).trans rfl; have hfz14_0 := blk_frozen BK102.out 0; have hfz14_1 := blk_frozen BK102.out 1))
   go_ret
   exact ⟨eB, bB2 HB GE101 GE102⟩
  ·rw [if_neg c9] at H
   have c9b0 : (a0_0 == a1_0) = false := beq_eq_false_iff_ne.mpr c9
   have c9b1 : (a0_0 != a1_0) = true := bne_iff_ne.mpr c9
   obtain rfl := Option.some.inj H
   go_enter Try.func128, Try.ntmps128
   go_wp2_with (first | ((with_reducible refine gate_dst (N := 2) rfl ?_); refine boxE (N := 2) (cs := #[.int .i64 a0_0, .int .i64 a0_1]) (t := 23) ?_; intro gb101 hg w15 hbox hb; have n0_ := Aside0.mk (below_step (bB0 HB) hb); have BK101 := Aside0.mk (hbox); have GW101 := Aside0.mk (szB hg (below_size (bB0 HB))); have GE101 := GW101; clear HB; have HB := n0_; clear n0_; clear hb hbox hg) | ((with_reducible refine gate_dst (N := 3) rfl ?_); refine boxE (N := 3) (cs := #[.int .i64 a1_0, .int .i64 a1_1]) (t := 23) ?_; intro gb102 hg w16 hbox hb; have n0_ := Aside0.mk (blk_below (kB BK101) hb); have n1_ := Aside0.mk (below_step (bB1 HB GE101) hb); have BK102 := Aside0.mk (hbox); have GW102 := Aside0.mk (szB hg (below_size (bB1 HB GE101))); have GE102 := GW102; have NB101_102 := Aside0.mk (neA hg (blk_lt (kB BK101))); have NB102_101 := Aside0.mk (neB hg (blk_lt (kB BK101))); clear BK101; clear HB; have BK101 := n0_; have HB := n1_; clear n0_ n1_; clear hb hbox hg; have hnb17 := NB101_102.out; have hnc17 := NB102_101.out; have hcz18_0 : w16.cell? ⟨gb101, 0, none⟩ = some (.int .i64 a0_0) := (blk_cell BK101.out 0).trans rfl; have hcz18_1 : w16.cell? ⟨gb101, 1, none⟩ = some (.int .i64 a0_1) := (blk_cell BK101.out 1).trans rfl; have hfz18_0 := blk_frozen BK101.out 0; have hfz18_1 := blk_frozen BK101.out 1; have hcz19_0 : w16.cell? ⟨gb102, 0, none⟩ = some (.int .i64 a1_0) := (blk_cell BK102.out 0).trans rfl; have hcz19_1 : w16.cell? ⟨gb102, 1, none⟩ = some (.int .i64 a1_1) := (blk_cell BK102.out 1).trans rfl; have hfz19_0 := blk_frozen BK102.out 0; have hfz19_1 := blk_frozen BK102.out 1))
   go_ret
   exact ⟨eB, bB2 HB GE101 GE102⟩
end Go.Proofs.Ytegdcnjjelgpjaa.P
namespace Go.Proofs.Ytegdcnjjelgpjaa.P
open Go.RowKit Go.Shelf Go.Proofs.Ytegdcnjjelgpjaa.O Go.Proofs.YtegdcnjjelgpjaaW.PrintWords Go.Proofs.YtegdcnjjelgpjaaW.PrintLast Go.Proofs.YtegdcnjjelgpjaaW.PrintMore
attribute [local go_sem] Oper.semAt_some
attribute [local go_sem high] eqA23
set_option linter.unusedVariables false
set_option linter.unusedSimpArgs false
def sdP (l : List S23) : List S23 := Geo.sd S23.f0 S23.f1 l
def gooseneckref01_sorted.f (l0 : List (S23)) : Option ((List (S23))) := if l0.length ≤ 1048576 then some (sdP l0) else none
theorem sdP_snoc (l : List S23) (x : S23) : sdP (l ++ [x]) = Geo.ins S23.f0 S23.f1 x (sdP l) := by
 unfold sdP Geo.sd; rw [List.foldl_append]; rfl
theorem ins_at (x : S23) : ∀ (s : List S23) (i : Nat), (∀ j (h : j < s.length), j < i → Geo.ltb S23.f0 S23.f1 s[j] x = true) → i ≤ s.length → (∀ h : i < s.length, Geo.ltb S23.f0 S23.f1 s[i] x = false) →
  Geo.ins S23.f0 S23.f1 x s = if (∃ h : i < s.length, s[i] = x) then s else s.take i ++ [x] ++ s.drop i
 | [], i, _, hi, _ => by
  obtain rfl : i = 0 := by simpa using hi
  simp [Geo.ins]
 | y :: ys, 0, _, _, h => by
  have := h (by simp)
  simp only [List.getElem_cons_zero] at this
  rw [Geo.ins, this]
  simp
 | y :: ys, i + 1, hb, hi, h => by
  have h0 := hb 0 (by simp) (by omega)
  simp only [List.getElem_cons_zero] at h0
  rw [Geo.ins, if_pos h0]
  have ih := ins_at x ys i (fun j hj hji => by have := hb (j + 1) (by simpa using hj) (by omega); simpa using this) (by simpa using hi) (fun hh => by have := h (by simpa using hh); simpa using this)
  rw [ih]
  by_cases c : ∃ h : i < ys.length, ys[i] = x
  ·rw [if_pos c, if_pos (by obtain ⟨h, e⟩ := c; exact ⟨by simpa using h, by simpa using e⟩)]
  ·rw [if_neg c, if_neg (by rintro ⟨h, e⟩; exact c ⟨by simpa using h, by simpa using e⟩)]
   simp
theorem before_eq (y x : S23) : gooseneckref01_before.f y.f0 y.f1 x.f0 x.f1 = some (Geo.ltb S23.f0 S23.f1 y x) := by
 unfold gooseneckref01_before.f Geo.ltb
 by_cases h1 : y.f0 < x.f0
 ·simp [h1]
 ·by_cases h2 : y.f0 = x.f0
  ·simp [h2]
  ·simp [h1, h2]
set_option maxRecDepth 100000 in
set_option maxHeartbeats 4000000 in
theorem gooseneckref01_sorted.calls (A0 : Option Addr) (c0 : Nat) (l0 : List (S23)) (r : List (S23)) (w : World) (hr0 : Kd.C k23 w A0 l0.length l0) (hc0 : l0.length ≤ c0) (h : gooseneckref01_sorted.f l0 = some r) :
  Calls Try.prog 118 #[.slice A0 l0.length c0] w fun e w' => ∃ v0_ : Value, e = .returned (v0_) ∧ Kd.R k23 23 w' w.heap.size (fun _ => True) v0_ r ∧ Below w.heap.size w w' := by
 have hu23 := Try.underlying23
 have hu53 := Try.underlying53
 unfold gooseneckref01_sorted.f at h
 split at h
 case isFalse => cases h
 rename_i hlen
 obtain rfl := Option.some.inj h
 have HR := Aside0.mk hr0
 obtain ⟨n, hn⟩ : ∃ n, l0.length = n := ⟨_, rfl⟩
 have HN := Aside0.mk hn
 rw [hn] at hlen ⊢
 clear h hr0 hn hc0
 refine (callsIn_wide (n := 0)).1 (callsIn_of_wp Try.func118 rfl trivial ?_ rfl)
 simp only [Try.ntmps118, List.size_toArray, List.length_cons, List.length_nil, Nat.reduceAdd, Nat.reduceSub, Array.replicate_succ, Array.replicate_zero, List.push_toArray, List.append_toArray, List.nil_append, List.cons_append]
 gi_wp2
 gi_loopw [3, 4] (fun v3 v4 wr => ∃ (k : Nat) (v : Value), k ≤ n ∧ v4 = .int .i64 k ∧ v = v3 ∧ Aside0 (OutV wr w.heap.size v (sdP (l0.take k))) ∧ Aside0 (Below w.heap.size w wr)) (fun _ v4 _ => n - (intOf v4).toNat)
 case atStart => exact ⟨0, _, Nat.zero_le _, rfl, rfl, ⟨.inl ⟨rfl, rfl⟩⟩, ⟨Below.refl _ _⟩⟩
 case round =>
  obtain ⟨k, v3, hk, rfl, rfl, HO, HB⟩ := hrel
  by_cases hlt : k < n
  ·have hkl : k < l0.length := by rw [HN.out]; exact hlt
   obtain ⟨ad, rfl, hx0, hx1⟩ := at_T23 HR.out (k : Int) (by omega) (by omega)
   rw [rd23_get l0 k hkl, Int.toNat_natCast] at hx0 hx1
   replace hx0 := (HB.out.cell (World.block_lt_of_cell? w _ hx0)).trans hx0
   replace hx1 := (HB.out.cell (World.block_lt_of_cell? w _ hx1)).trans hx1
   have hsuc : sdP (l0.take (k + 1)) = Geo.ins S23.f0 S23.f1 l0[k] (sdP (l0.take k)) := by rw [List.take_succ_eq_append_getElem hkl, sdP_snoc]
   have hsl : (sdP (l0.take k)).length ≤ 1048576 := by have := Geo.sd_length (X := S23.f0) (Y := S23.f1) (l0.take k); unfold sdP; rw [List.length_take] at this; omega
   obtain ⟨x, hx⟩ : ∃ x, l0[k] = x := ⟨_, rfl⟩
   rw [hx] at hx0 hx1 hsuc
   obtain ⟨s, hs⟩ : ∃ s, sdP (l0.take k) = s := ⟨_, rfl⟩
   rw [hs] at HO hsuc hsl
   have HS := Aside0.mk hsuc
   have KX := Aside0.mk (And.intro hx0 hx1)
   obtain ⟨sa, m, cap, rfl, hm⟩ : ∃ sa m cap, v3 = .slice sa m cap ∧ s.length = m := by obtain ⟨A, c, e⟩ := HO.out.form; exact ⟨A, _, c, e, rfl⟩
   have HM := Aside0.mk hm
   rw [hm] at hsl
   clear hx hs hsuc hm hx0 hx1
   gi_wp2
   gi_loopw [5] (fun v5 wz => ∃ (i : Nat), i ≤ m ∧ v5 = .int .i64 i ∧ Aside0 (∀ j (h : j < s.length), j < i → Geo.ltb S23.f0 S23.f1 s[j] x = true) ∧ Aside0 (Below wr.heap.size wr wz)) (fun v5 _ => m - (intOf v5).toNat)
   case atStart => exact ⟨0, Nat.zero_le _, rfl, ⟨fun j _ h => absurd h (by omega)⟩, ⟨Below.refl _ _⟩⟩
   case round =>
    rename World => wz
    obtain ⟨i, hi, rfl, HL, HZ⟩ := hrel
    have x0 := (HZ.out.cell (World.block_lt_of_cell? wr _ KX.out.1)).trans KX.out.1
    have x1 := (HZ.out.cell (World.block_lt_of_cell? wr _ KX.out.2)).trans KX.out.2
    have HLX := Aside0.mk (World.block_lt_of_cell? wz _ x0)
    by_cases him : i < m
    ·have his : i < s.length := by rw [HM.out]; exact him
     obtain ⟨g, rfl, hgb, hrow⟩ : ∃ g, sa = some ⟨g, 0, none⟩ ∧ w.heap.size ≤ g ∧ Row2 wr g cap s := by
      rcases HO.out with ⟨e, rfl⟩ | ⟨g, c, e, h1, h2⟩
      ·simp at his
      ·injection e with e1 e2 e3
       subst e3
       exact ⟨g, e1, h1, h2⟩
     obtain ⟨y, hy⟩ : ∃ y, s[i] = y := ⟨_, rfl⟩
     obtain ⟨b0, b1⟩ := hrow.cell i his
     rw [hy] at b0 b1
     replace b0 := (HZ.out.cell (p := ⟨g, i * 2, none⟩) hrow.lt).trans b0
     replace b1 := (HZ.out.cell (p := ⟨g, i * 2 + 1, none⟩) hrow.lt).trans b1
     have HLY := Aside0.mk (World.block_lt_of_cell? wz _ b0)
     have HY := Aside0.mk (show s[i]? = some y by rw [List.getElem?_eq_getElem his, hy])
     have HROW := Aside0.mk hrow
     have g3 : decide ((i : Int) < (m : Int)) = true := decide_eq_true (by omega)
     have g4 : (i : Int) < (m : Int) := by omega
     have g5 : decide (i < m) = true := decide_eq_true him
     have hcapm : m ≤ cap := by have := hrow.le.1; rw [HM.out] at this; exact this
     clear hy hrow his
     gi_wp2
     have hcc : ¬ cap = i := by omega
     have HIM := Aside0.mk him
     refine wpIn_region_any (by kernel_rfl) ?_
     change wpAnyIn _ _ _ _ _ _ _ _ _ (World.drew wz)
     refine wpAnyIn_inv (fun listed a V' => a = { tmps := (.slice (some ad) n c0 :: undef :: .slice none 0 0 :: .slice (some ⟨g, 0, none⟩) m cap :: .int .i64 (k : Int) :: .int .i64 (i : Int) :: .int .i64 (k : Int) :: .slice (some ad) n c0 :: .int .i64 (n : Int) :: .bool true :: u10 :: u11 :: selOr listed 0 (.int .i64 (i : Int)) u12 :: selOr listed 1 (.slice (some ⟨g, 0, none⟩) m cap) u13 :: selOr listed 2 (.int .i64 (m : Int)) u14 :: selOr listed 3 (.bool true) u15 :: selOr listed 4 (.bool true) u16 :: selOr listed 5 (.slice (some ⟨g, 0, none⟩) m cap) u17 :: selOr listed 6 (.int .i64 (i : Int)) u18 :: selOr listed 7 (.pointer (some ⟨g, i * 2, none⟩)) u19 :: selOr listed 8 (.agg #[.int .i64 y.f0, .int .i64 y.f1]) u20 :: selOr listed 9 (.slice (some ad) n c0) u21 :: selOr listed 10 (.int .i64 (k : Int)) u22 :: selOr listed 11 (.pointer (some (ad.add (k * 2)))) u23 :: selOr listed 12 (.agg #[.int .i64 x.f0, .int .i64 x.f1]) u24 :: selOr listed 13 (.bool (Geo.ltb S23.f0 S23.f1 y x)) u25 :: selOr listed 14 (.bool (Geo.ltb S23.f0 S23.f1 y x)) u26 :: u27 :: u28 :: u29 :: u30 :: u31 :: u32 :: u33 :: u34 :: u35 :: u36 :: u37 :: u38 :: u39 :: u40 :: u41 :: u42 :: u43 :: u44 :: u45 :: u46 :: u47 :: u48 :: u49 :: u50 :: u51 :: u52 :: u53 :: u54 :: u55 :: u56 :: u57 :: u58 :: undef :: []).toArray, defers := [] } ∧ Below wz.heap.size wz V') 22 ?stepq ?stopq ?finq 15 _ _ _ (by simp) (closed_none _) ⟨by simp [selOr], (Below.refl _ _).drew⟩ (by simp)
     case stopq =>
      intro listed a V' fuel hs hc hi hr
      have := (ready_lt hr).1
      simp at hs
      omega
     case stepq =>
      rintro listed a V' i_ hs hc ⟨rfl, q1⟩ hr hne K hK
      obtain ⟨hlt', hl0⟩ := ready_lt hr
      have cx0 := (q1.cell (p := ad.add (k * 2)) HLX.out).trans x0
      have cx1 := (q1.cell (p := ⟨(ad.add (k * 2)).block, (ad.add (k * 2)).off + 1, none⟩) HLX.out).trans x1
      have cb0 := (q1.cell (p := ⟨g, i * 2, none⟩) HLY.out).trans b0
      have cb1 := (q1.cell (p := ⟨g, i * 2 + 1, none⟩) HLY.out).trans b1
      clear x0 x1 b0 b1
      have hi_ : i_ = 0 ∨ i_ = 1 ∨ i_ = 2 ∨ i_ = 3 ∨ i_ = 4 ∨ i_ = 5 ∨ i_ = 6 ∨ i_ = 7 ∨ i_ = 8 ∨ i_ = 9 ∨ i_ = 10 ∨ i_ = 11 ∨ i_ = 12 ∨ i_ = 13 ∨ i_ = 14 := by simp at hs; omega
      rcases hi_ with rfl | rfl | rfl | rfl | rfl | rfl | rfl | rfl | rfl | rfl | rfl | rfl | rfl | rfl | rfl
      ·skip
       refine wpOpIn_of rfl rfl ?_
       clear hr hl0
       gi_wp2
       refine ⟨?_, q1⟩
       simp (disch := decide) only [selOr_same hlt', selOr_other hlt']
      ·skip
       refine wpOpIn_of rfl rfl ?_
       clear hr hl0
       gi_wp2
       refine ⟨?_, q1⟩
       simp (disch := decide) only [selOr_same hlt', selOr_other hlt']
      ·have d1 := rdD 1 hr
       simp only [selOr_on d1]
       refine wpOpIn_of rfl rfl ?_
       clear hr hl0
       gi_wp2
       refine ⟨?_, q1⟩
       simp (disch := decide) only [selOr_same hlt', selOr_other hlt', selOr_on d1]
      ·have d0 := rdD 0 hr
       have d2 := rdD 2 hr
       simp only [selOr_on d0, selOr_on d2]
       refine wpOpIn_of rfl rfl ?_
       clear hr hl0
       gi_wp2
       refine ⟨?_, q1⟩
       simp (disch := decide) only [selOr_same hlt', selOr_other hlt', selOr_on d0, selOr_on d2]
      ·have d3 := rdD 3 hr
       simp only [selOr_on d3]
       refine wpOpIn_of rfl rfl ?_
       clear hr hl0
       gi_wp2
       refine ⟨?_, q1⟩
       simp (disch := decide) only [selOr_same hlt', selOr_other hlt', selOr_on d3]
      ·have d4 := rdD 4 hr
       simp only [selOr_on d4]
       refine wpOpIn_of rfl rfl ?_
       clear hr hl0
       gi_wp2
       refine ⟨?_, q1⟩
       simp (disch := decide) only [selOr_same hlt', selOr_other hlt', selOr_on d4]
      ·have d4 := rdD 4 hr
       simp only [selOr_on d4]
       refine wpOpIn_of rfl rfl ?_
       clear hr hl0
       gi_wp2
       refine ⟨?_, q1⟩
       simp (disch := decide) only [selOr_same hlt', selOr_other hlt', selOr_on d4]
      ·have d5 := rdD 5 hr
       have d6 := rdD 6 hr
       have d4 := rdD 4 hr
       simp only [selOr_on d5, selOr_on d6, selOr_on d4]
       refine wpOpIn_of rfl rfl ?_
       clear hr hl0
       gi_wp2
       refine ⟨?_, q1⟩
       simp (disch := decide) only [selOr_same hlt', selOr_other hlt', selOr_on d5, selOr_on d6, selOr_on d4]
      ·have d7 := rdD 7 hr
       have d4 := rdD 4 hr
       simp only [selOr_on d7, selOr_on d4]
       refine wpOpIn_of rfl rfl ?_
       clear hr hl0
       gi_wp2
       refine ⟨?_, q1⟩
       simp (disch := decide) only [selOr_same hlt', selOr_other hlt', selOr_on d7, selOr_on d4]
      ·have d4 := rdD 4 hr
       simp only [selOr_on d4]
       refine wpOpIn_of rfl rfl ?_
       clear hr hl0
       gi_wp2
       refine ⟨?_, q1⟩
       simp (disch := decide) only [selOr_same hlt', selOr_other hlt', selOr_on d4]
      ·have d4 := rdD 4 hr
       simp only [selOr_on d4]
       refine wpOpIn_of rfl rfl ?_
       clear hr hl0
       gi_wp2
       refine ⟨?_, q1⟩
       simp (disch := decide) only [selOr_same hlt', selOr_other hlt', selOr_on d4]
      ·have d9 := rdD 9 hr
       have d10 := rdD 10 hr
       have d4 := rdD 4 hr
       simp only [selOr_on d9, selOr_on d10, selOr_on d4]
       refine wpOpIn_of rfl rfl ?_
       clear hr hl0
       gi_wp2
       refine ⟨?_, q1⟩
       simp (disch := decide) only [selOr_same hlt', selOr_other hlt', selOr_on d9, selOr_on d10, selOr_on d4]
      ·have d11 := rdD 11 hr
       have d4 := rdD 4 hr
       simp only [selOr_on d11, selOr_on d4]
       refine wpOpIn_of rfl rfl ?_
       clear hr hl0
       gi_wp2
       refine ⟨?_, q1⟩
       simp (disch := decide) only [selOr_same hlt', selOr_other hlt', selOr_on d11, selOr_on d4]
      ·have d8 := rdD 8 hr
       have d12 := rdD 12 hr
       have d4 := rdD 4 hr
       simp only [selOr_on d8, selOr_on d12, selOr_on d4]
       refine wpOpIn_of rfl rfl ?_
       clear hr hl0
       gi_wp2
       refine ⟨trivial, rfl, (CallsIn.inRound 0 (callsIn_w (gooseneckref01_before.calls y.f0 y.f1 x.f0 x.f1 _ V' (before_eq y x)))).mono ?_⟩
       rintro e V5 ⟨rfl, hb5⟩
       gi_wp2
       refine ⟨?_, q1.trans (hb5.mono q1.size)⟩
       simp (disch := decide) only [selOr_same hlt', selOr_other hlt', selOr_on d8, selOr_on d12, selOr_on d4]
      ·have d4 := rdD 4 hr
       have d13 := rdD 13 hr
       simp only [selOr_on d4, selOr_on d13]
       refine wpOpIn_of rfl rfl ?_
       clear hr hl0
       gi_wp2
       refine ⟨?_, q1⟩
       simp (disch := decide) only [selOr_same hlt', selOr_other hlt', selOr_on d4, selOr_on d13]
     case finq =>
      rintro listed a Vf hs ⟨rfl, q1⟩ hr
      have all : ∀ j, j < 15 → listed.getD j false = true := fun j hj => by
       cases q : listed.getD j false
       ·exact absurd hr (ready_ne hs (by kernel_rfl) j (by simpa using hj) q)
       ·rfl
      simp only [selOr_on (all 0 (by decide)), selOr_on (all 1 (by decide)), selOr_on (all 2 (by decide)), selOr_on (all 3 (by decide)), selOr_on (all 4 (by decide)), selOr_on (all 5 (by decide)), selOr_on (all 6 (by decide)), selOr_on (all 7 (by decide)), selOr_on (all 8 (by decide)), selOr_on (all 9 (by decide)), selOr_on (all 10 (by decide)), selOr_on (all 11 (by decide)), selOr_on (all 12 (by decide)), selOr_on (all 13 (by decide)), selOr_on (all 14 (by decide))]
      clear all hr hs
      have HZf := Aside0.mk (HZ.out.trans (q1.mono HZ.out.size))
      by_cases hlb : Geo.ltb S23.f0 S23.f1 y x = true
      ·rw [hlb]
       have hi1 : wrap64 ((i : Int) + 1) = ((i + 1 : Nat) : Int) := by unfold wrap64; omega
       have HL1 := Aside0.mk (show ∀ j (h : j < s.length), j < i + 1 → Geo.ltb S23.f0 S23.f1 s[j] x = true from fun j h hj => by
        rcases Nat.lt_or_ge j i with q | q
        ·exact HL.out j h q
        ·obtain rfl : j = i := by omega
         have e := HY.out
         rw [List.getElem?_eq_getElem h] at e
         rw [Option.some.inj e]; exact hlb)
       have HI1 := Aside0.mk (And.intro (show i + 1 ≤ m by omega) (And.intro hi1 (show m - (i + 1) < m - i by omega)))
       clear q1 hi1 hlb
       gi_wp2
       obtain ⟨z1, z2, z3⟩ := HI1.out
       refine ⟨⟨i + 1, z1, by first | rw [z2] | rfl, HL1, HZf⟩, ?_⟩
       try rw [z2]
       show m - (((i + 1 : Nat) : Int)).toNat < m - ((i : Nat) : Int).toNat
       rw [Int.toNat_natCast, Int.toNat_natCast]; exact z3
      ·have hlb' : Geo.ltb S23.f0 S23.f1 y x = false := by simpa using hlb
       rw [hlb']
       have HLB := Aside0.mk hlb'
       replace x0 := (q1.cell (p := ad.add (k * 2)) HLX.out).trans x0
       replace x1 := (q1.cell (p := ⟨(ad.add (k * 2)).block, (ad.add (k * 2)).off + 1, none⟩) HLX.out).trans x1
       replace b0 := (q1.cell (p := ⟨g, i * 2, none⟩) HLY.out).trans b0
       replace b1 := (q1.cell (p := ⟨g, i * 2 + 1, none⟩) HLY.out).trans b1
       replace HLX := Aside0.mk (Nat.lt_of_lt_of_le HLX.out q1.size)
       replace HLY := Aside0.mk (Nat.lt_of_lt_of_le HLY.out q1.size)
       have h5 : decide ((i : Int) = (m : Int)) = false := decide_eq_false (by omega)
       have h6 : ((i : Int) == (m : Int)) = false := by rw [beq_eq_false_iff_ne]; omega
       have h7 : ¬ (i : Int) = (m : Int) := by omega
       have h8 : (i == m) = false := by rw [beq_eq_false_iff_ne]; omega
       clear q1 hlb hlb'
       gi_wp2
       refine wpIn_region_any (by kernel_rfl) ?_
       change wpAnyIn _ _ _ _ _ _ _ _ _ (World.drew Vf)
       refine wpAnyIn_inv (fun listed a V' => a = { tmps := (.slice (some ad) n c0 :: undef :: .slice none 0 0 :: .slice (some ⟨g, 0, none⟩) m cap :: .int .i64 (k : Int) :: .int .i64 (i : Int) :: .int .i64 (k : Int) :: .slice (some ad) n c0 :: .int .i64 (n : Int) :: .bool true :: u10 :: u11 :: .int .i64 (i : Int) :: .slice (some ⟨g, 0, none⟩) m cap :: .int .i64 (m : Int) :: .bool true :: .bool true :: .slice (some ⟨g, 0, none⟩) m cap :: .int .i64 (i : Int) :: .pointer (some ⟨g, i * 2, none⟩) :: .agg #[.int .i64 y.f0, .int .i64 y.f1] :: .slice (some ad) n c0 :: .int .i64 (k : Int) :: .pointer (some (ad.add (k * 2))) :: .agg #[.int .i64 x.f0, .int .i64 x.f1] :: .bool false :: .bool false :: u27 :: u28 :: selOr listed 0 (.int .i64 (i : Int)) u29 :: selOr listed 1 (.slice (some ⟨g, 0, none⟩) m cap) u30 :: selOr listed 2 (.int .i64 (m : Int)) u31 :: selOr listed 3 (.bool false) u32 :: selOr listed 4 (.bool false) u33 :: selOr listed 5 (.slice (some ⟨g, 0, none⟩) m cap) u34 :: selOr listed 6 (.int .i64 (i : Int)) u35 :: selOr listed 7 (.pointer (some ⟨g, i * 2, none⟩)) u36 :: selOr listed 8 (.agg #[.int .i64 y.f0, .int .i64 y.f1]) u37 :: selOr listed 9 (.slice (some ad) n c0) u38 :: selOr listed 10 (.int .i64 (k : Int)) u39 :: selOr listed 11 (.pointer (some (ad.add (k * 2)))) u40 :: selOr listed 12 (.agg #[.int .i64 x.f0, .int .i64 x.f1]) u41 :: selOr listed 13 (.bool (!(y.f0 == x.f0) || !(y.f1 == x.f1))) u42 :: selOr listed 14 (.bool (!(y.f0 == x.f0) || !(y.f1 == x.f1))) u43 :: u44 :: u45 :: u46 :: u47 :: u48 :: u49 :: u50 :: u51 :: u52 :: u53 :: u54 :: u55 :: u56 :: u57 :: u58 :: undef :: []).toArray, defers := [] } ∧ Below Vf.heap.size Vf V') 22 ?stepq ?stopq ?finq 15 _ _ _ (by simp) (closed_none _) ⟨by simp [selOr], (Below.refl _ _).drew⟩ (by simp)
       case stopq =>
        intro listed a V' fuel hs hc hi hr
        have := (ready_lt hr).1
        simp at hs
        omega
       case stepq =>
        rintro listed a V' i_ hs hc ⟨rfl, q1⟩ hr hne K hK
        obtain ⟨hlt', hl0⟩ := ready_lt hr
        have cx0 := (q1.cell (p := ad.add (k * 2)) HLX.out).trans x0
        have cx1 := (q1.cell (p := ⟨(ad.add (k * 2)).block, (ad.add (k * 2)).off + 1, none⟩) HLX.out).trans x1
        have cb0 := (q1.cell (p := ⟨g, i * 2, none⟩) HLY.out).trans b0
        have cb1 := (q1.cell (p := ⟨g, i * 2 + 1, none⟩) HLY.out).trans b1
        clear x0 x1 b0 b1
        have hi_ : i_ = 0 ∨ i_ = 1 ∨ i_ = 2 ∨ i_ = 3 ∨ i_ = 4 ∨ i_ = 5 ∨ i_ = 6 ∨ i_ = 7 ∨ i_ = 8 ∨ i_ = 9 ∨ i_ = 10 ∨ i_ = 11 ∨ i_ = 12 ∨ i_ = 13 ∨ i_ = 14 := by simp at hs; omega
        rcases hi_ with rfl | rfl | rfl | rfl | rfl | rfl | rfl | rfl | rfl | rfl | rfl | rfl | rfl | rfl | rfl
        ·skip
         refine wpOpIn_of rfl rfl ?_
         clear hr hl0
         gi_wp2
         refine ⟨?_, q1⟩
         simp (disch := decide) only [selOr_same hlt', selOr_other hlt']
        ·skip
         refine wpOpIn_of rfl rfl ?_
         clear hr hl0
         gi_wp2
         refine ⟨?_, q1⟩
         simp (disch := decide) only [selOr_same hlt', selOr_other hlt']
        ·have d1 := rdD 1 hr
         simp only [selOr_on d1]
         refine wpOpIn_of rfl rfl ?_
         clear hr hl0
         gi_wp2
         refine ⟨?_, q1⟩
         simp (disch := decide) only [selOr_same hlt', selOr_other hlt', selOr_on d1]
        ·have d0 := rdD 0 hr
         have d2 := rdD 2 hr
         simp only [selOr_on d0, selOr_on d2]
         refine wpOpIn_of rfl rfl ?_
         clear hr hl0
         gi_wp2
         refine ⟨?_, q1⟩
         simp (disch := decide) only [selOr_same hlt', selOr_other hlt', selOr_on d0, selOr_on d2]
        ·have d3 := rdD 3 hr
         simp only [selOr_on d3]
         refine wpOpIn_of rfl rfl ?_
         clear hr hl0
         gi_wp2
         refine ⟨?_, q1⟩
         simp (disch := decide) only [selOr_same hlt', selOr_other hlt', selOr_on d3]
        ·have d4 := rdD 4 hr
         simp only [selOr_on d4]
         refine wpOpIn_of rfl rfl ?_
         clear hr hl0
         gi_wp2
         refine ⟨?_, q1⟩
         simp (disch := decide) only [selOr_same hlt', selOr_other hlt', selOr_on d4]
        ·have d4 := rdD 4 hr
         simp only [selOr_on d4]
         refine wpOpIn_of rfl rfl ?_
         clear hr hl0
         gi_wp2
         refine ⟨?_, q1⟩
         simp (disch := decide) only [selOr_same hlt', selOr_other hlt', selOr_on d4]
        ·have d5 := rdD 5 hr
         have d6 := rdD 6 hr
         have d4 := rdD 4 hr
         simp only [selOr_on d5, selOr_on d6, selOr_on d4]
         refine wpOpIn_of rfl rfl ?_
         clear hr hl0
         gi_wp2
         refine ⟨?_, q1⟩
         simp (disch := decide) only [selOr_same hlt', selOr_other hlt', selOr_on d5, selOr_on d6, selOr_on d4]
        ·have d7 := rdD 7 hr
         have d4 := rdD 4 hr
         simp only [selOr_on d7, selOr_on d4]
         refine wpOpIn_of rfl rfl ?_
         clear hr hl0
         gi_wp2
         refine ⟨?_, q1⟩
         simp (disch := decide) only [selOr_same hlt', selOr_other hlt', selOr_on d7, selOr_on d4]
        ·have d4 := rdD 4 hr
         simp only [selOr_on d4]
         refine wpOpIn_of rfl rfl ?_
         clear hr hl0
         gi_wp2
         refine ⟨?_, q1⟩
         simp (disch := decide) only [selOr_same hlt', selOr_other hlt', selOr_on d4]
        ·have d4 := rdD 4 hr
         simp only [selOr_on d4]
         refine wpOpIn_of rfl rfl ?_
         clear hr hl0
         gi_wp2
         refine ⟨?_, q1⟩
         simp (disch := decide) only [selOr_same hlt', selOr_other hlt', selOr_on d4]
        ·have d9 := rdD 9 hr
         have d10 := rdD 10 hr
         have d4 := rdD 4 hr
         simp only [selOr_on d9, selOr_on d10, selOr_on d4]
         refine wpOpIn_of rfl rfl ?_
         clear hr hl0
         gi_wp2
         refine ⟨?_, q1⟩
         simp (disch := decide) only [selOr_same hlt', selOr_other hlt', selOr_on d9, selOr_on d10, selOr_on d4]
        ·have d11 := rdD 11 hr
         have d4 := rdD 4 hr
         simp only [selOr_on d11, selOr_on d4]
         refine wpOpIn_of rfl rfl ?_
         clear hr hl0
         gi_wp2
         refine ⟨?_, q1⟩
         simp (disch := decide) only [selOr_same hlt', selOr_other hlt', selOr_on d11, selOr_on d4]
        ·have d8 := rdD 8 hr
         have d12 := rdD 12 hr
         have d4 := rdD 4 hr
         simp only [selOr_on d8, selOr_on d12, selOr_on d4]
         refine wpOpIn_of rfl rfl ?_
         clear hr hl0
         gi_wp2
         refine ⟨?_, q1⟩
         simp (disch := decide) only [selOr_same hlt', selOr_other hlt', selOr_on d8, selOr_on d12, selOr_on d4]
        ·have d4 := rdD 4 hr
         have d13 := rdD 13 hr
         simp only [selOr_on d4, selOr_on d13]
         refine wpOpIn_of rfl rfl ?_
         clear hr hl0
         gi_wp2
         refine ⟨?_, q1⟩
         simp (disch := decide) only [selOr_same hlt', selOr_other hlt', selOr_on d4, selOr_on d13]
       case finq =>
        rintro listed a Vg hs ⟨rfl, q1⟩ hr
        have all : ∀ j, j < 15 → listed.getD j false = true := fun j hj => by
         cases q : listed.getD j false
         ·exact absurd hr (ready_ne hs (by kernel_rfl) j (by simpa using hj) q)
         ·rfl
        simp only [selOr_on (all 0 (by decide)), selOr_on (all 1 (by decide)), selOr_on (all 2 (by decide)), selOr_on (all 3 (by decide)), selOr_on (all 4 (by decide)), selOr_on (all 5 (by decide)), selOr_on (all 6 (by decide)), selOr_on (all 7 (by decide)), selOr_on (all 8 (by decide)), selOr_on (all 9 (by decide)), selOr_on (all 10 (by decide)), selOr_on (all 11 (by decide)), selOr_on (all 12 (by decide)), selOr_on (all 13 (by decide)), selOr_on (all 14 (by decide))]
        clear all hr hs
        have HZg := Aside0.mk (HZf.out.trans (q1.mono HZf.out.size))
        by_cases hyx : y = x
        ·have e : (!(y.f0 == x.f0) || !(y.f1 == x.f1)) = false := by rw [hyx]; simp
         rw [e]
         have hfin : sdP (l0.take (k + 1)) = s := by
          have his : i < s.length := by rw [HM.out]; exact HIM.out
          have ey : s[i] = y := by have e := HY.out; rw [List.getElem?_eq_getElem his] at e; exact Option.some.inj e
          rw [HS.out, ins_at x s i HL.out (Nat.le_of_lt his) (fun _ => by rw [ey]; exact HLB.out), if_pos ⟨his, by rw [ey, hyx]⟩]
         have HFIN := Aside0.mk (show OutV Vg w.heap.size (.slice (some ⟨g, 0, none⟩) m cap) (sdP (l0.take (k + 1))) by rw [hfin]; exact HO.out.below HZg.out)
         have HBg := Aside0.mk (HB.out.trans (HZg.out.mono HB.out.size))
         have HK1 := Aside0.mk (show k + 1 ≤ n ∧ n - (k + 1) < n - k ∧ wrap64 ((k : Int) + 1) = ((k + 1 : Nat) : Int) from ⟨by omega, by omega, by unfold wrap64; omega⟩)
         clear q1 e hfin hyx x0 x1 b0 b1
         gi_wp2
         obtain ⟨z1, z2, z3⟩ := HK1.out
         refine ⟨⟨k + 1, _, z1, by first | rw [z3] | rfl, rfl, HFIN, HBg⟩, ?_⟩
         try rw [z3]
         show n - (((k + 1 : Nat) : Int)).toNat < n - ((k : Nat) : Int).toNat
         rw [Int.toNat_natCast, Int.toNat_natCast]; exact z2
        ·have e : (!(y.f0 == x.f0) || !(y.f1 == x.f1)) = true := by
          simp only [Bool.or_eq_true, Bool.not_eq_true', beq_eq_false_iff_ne]
          by_cases h0 : y.f0 = x.f0
          ·exact .inr fun h1 => hyx (S23.ext h0 h1)
          ·exact .inl h0
         rw [e]
         have hfin : sdP (l0.take (k + 1)) = s.take i ++ [x] ++ s.drop i := by
          have his : i < s.length := by rw [HM.out]; exact HIM.out
          have ey : s[i] = y := by have e := HY.out; rw [List.getElem?_eq_getElem his] at e; exact Option.some.inj e
          rw [HS.out, ins_at x s i HL.out (Nat.le_of_lt his) (fun _ => by rw [ey]; exact HLB.out), if_neg (by rintro ⟨h, e'⟩; exact hyx (by rw [← ey, e']))]
         have HFIN := Aside0.mk hfin
         have x0g := (q1.cell (p := ad.add (k * 2)) HLX.out).trans x0
         have x1g := (q1.cell (p := ⟨(ad.add (k * 2)).block, (ad.add (k * 2)).off + 1, none⟩) HLX.out).trans x1
         have HLXg := Aside0.mk (Nat.lt_of_lt_of_le HLX.out q1.size)
         have HOg := Aside0.mk (HO.out.below HZg.out)
         have HCAP := Aside0.mk (show i ≤ cap by omega)
         replace HIM := Aside0.mk (Nat.le_of_lt HIM.out)
         clear q1 e hfin hyx x0 x1 b0 b1
         gi_wp2
         obtain ⟨V3, hV3⟩ : ∃ v, sliced (some ⟨g, 0, none⟩) 0 i cap 2 = v := ⟨_, rfl⟩
         obtain ⟨V13, hV13⟩ : ∃ v, sliced (some ⟨g, 0, none⟩) i m cap 2 = v := ⟨_, rfl⟩
         have HV3 := Aside0.mk hV3
         have HV13 := Aside0.mk hV13
         clear hV3 hV13
         refine wpIn_region_any (by kernel_rfl) ?_
         change wpAnyIn _ _ _ _ _ _ _ _ _ (World.drew Vg)
         refine wpAnyIn_inv (fun listed a V' => ∃ v44 v48 v53 v54 v58, a = { tmps := (.slice (some ad) n c0 :: undef :: .slice none 0 0 :: .slice (some ⟨g, 0, none⟩) m cap :: .int .i64 (k : Int) :: .int .i64 (i : Int) :: .int .i64 (k : Int) :: .slice (some ad) n c0 :: .int .i64 (n : Int) :: .bool true :: u10 :: u11 :: .int .i64 (i : Int) :: .slice (some ⟨g, 0, none⟩) m cap :: .int .i64 (m : Int) :: .bool true :: .bool true :: .slice (some ⟨g, 0, none⟩) m cap :: .int .i64 (i : Int) :: .pointer (some ⟨g, i * 2, none⟩) :: .agg #[.int .i64 y.f0, .int .i64 y.f1] :: .slice (some ad) n c0 :: .int .i64 (k : Int) :: .pointer (some (ad.add (k * 2))) :: .agg #[.int .i64 x.f0, .int .i64 x.f1] :: .bool false :: .bool false :: u27 :: u28 :: .int .i64 (i : Int) :: .slice (some ⟨g, 0, none⟩) m cap :: .int .i64 (m : Int) :: .bool false :: .bool false :: .slice (some ⟨g, 0, none⟩) m cap :: .int .i64 (i : Int) :: .pointer (some ⟨g, i * 2, none⟩) :: .agg #[.int .i64 y.f0, .int .i64 y.f1] :: .slice (some ad) n c0 :: .int .i64 (k : Int) :: .pointer (some (ad.add (k * 2))) :: .agg #[.int .i64 x.f0, .int .i64 x.f1] :: .bool true :: .bool true :: selOr listed 0 (v44) u44 :: selOr listed 1 (.slice (some ⟨g, 0, none⟩) m cap) u45 :: selOr listed 2 (.int .i64 (i : Int)) u46 :: selOr listed 3 (V3) u47 :: selOr listed 4 (v48) u48 :: selOr listed 5 (.slice (some ad) n c0) u49 :: selOr listed 6 (.int .i64 (k : Int)) u50 :: selOr listed 7 (.pointer (some (ad.add (k * 2)))) u51 :: selOr listed 8 (.agg #[.int .i64 x.f0, .int .i64 x.f1]) u52 :: selOr listed 9 (v53) u53 :: selOr listed 10 (v54) u54 :: selOr listed 11 (.slice (some ⟨g, 0, none⟩) m cap) u55 :: selOr listed 12 (.int .i64 (i : Int)) u56 :: selOr listed 13 (V13) u57 :: selOr listed 14 (v58) u58 :: undef :: []).toArray, defers := [] } ∧ Ins3 Vg.heap.size Vg s i x listed v44 v48 v53 v54 v58 V') 15 ?stepq ?stopq ?finq 16 _ _ _ (by simp) (closed_none _) ⟨undef, undef, undef, undef, undef, by simp [selOr], Ins3.start _ _ _ _ _ _ _ _ _⟩ (by simp)
         case finq =>
          rintro listed a V' hs ⟨v44, v48, v53, v54, v58, rfl, q1⟩ hr
          exact absurd hr (ready_ne hs (by kernel_rfl) 15 (by simp) q1.n15)
         case stopq =>
          rintro listed a V' fuel hs hc ⟨v44, v48, v53, v54, v58, rfl, q1⟩ hr hcount
          obtain ⟨hlt', hl0⟩ := ready_lt hr
          have d0 := rdD 0 hr
          have d1 := rdD 1 hr
          have d2 := rdD 2 hr
          have d3 := rdD 3 hr
          have d4 := rdD 4 hr
          have d5 := rdD 5 hr
          have d6 := rdD 6 hr
          have d7 := rdD 7 hr
          have d8 := rdD 8 hr
          have d9 := rdD 9 hr
          have d10 := rdD 10 hr
          have d11 := rdD 11 hr
          have d12 := rdD 12 hr
          have d13 := rdD 13 hr
          have d14 := rdD 14 hr
          simp only [selOr_on d0, selOr_on d1, selOr_on d2, selOr_on d3, selOr_on d4, selOr_on d5, selOr_on d6, selOr_on d7, selOr_on d8, selOr_on d9, selOr_on d10, selOr_on d11, selOr_on d12, selOr_on d13, selOr_on d14]
          have HALL := Aside0.mk (show ∀ j, j < 15 → listed.getD j false = true from fun j hj => by rcases (show  j = 0 ∨ j = 1 ∨ j = 2 ∨ j = 3 ∨ j = 4 ∨ j = 5 ∨ j = 6 ∨ j = 7 ∨ j = 8 ∨ j = 9 ∨ j = 10 ∨ j = 11 ∨ j = 12 ∨ j = 13 ∨ j = 14 by omega) with rfl | rfl | rfl | rfl | rfl | rfl | rfl | rfl | rfl | rfl | rfl | rfl | rfl | rfl | rfl <;> assumption)
          have HO58 := q1.e14 d14
          have HBV := q1.below
          refine wpOpIn_of rfl rfl ?_
          have HO58' := Aside0.mk HO58
          have HBV' := Aside0.mk HBV
          clear hr hl0 HO58 HBV q1 hc hcount d0 d1 d2 d3 d4 d5 d6 d7 d8 d9 d10 d11 d12 d13 d14
          gi_wp2
          refine wpAnyIn_full (List.eq_nil_iff_forall_not_mem.2 fun j hj => ?_) ?_
          ·obtain ⟨h1, h2⟩ := ready_lt hj
           rw [getD_set hlt'] at h2
           split at h2
           ·cases h2
           ·rename_i hne_
            have h3 : j < 16 := by simpa [hs] using h1
            rw [HALL.out j (by omega)] at h2
            cases h2
          have HFIN2 := Aside0.mk (show OutV V' w.heap.size v58 (sdP (l0.take (k + 1))) by rw [HFIN.out]; exact HO58'.out.lower (Nat.le_trans HB.out.size HZg.out.size))
          have HBg := Aside0.mk (HB.out.trans ((HZg.out.trans (HBV'.out.mono HZg.out.size)).mono HB.out.size))
          have HK1 := Aside0.mk (show k + 1 ≤ n ∧ n - (k + 1) < n - k ∧ wrap64 ((k : Int) + 1) = ((k + 1 : Nat) : Int) from ⟨by omega, by omega, by unfold wrap64; omega⟩)
          gi_wp2
          obtain ⟨z1, z2, z3⟩ := HK1.out
          refine ⟨⟨k + 1, v58, z1, by first | rw [z3] | rfl, rfl, HFIN2, HBg⟩, ?_⟩
          try rw [z3]
          show n - (((k + 1 : Nat) : Int)).toNat < n - ((k : Nat) : Int).toNat
          rw [Int.toNat_natCast, Int.toNat_natCast]; exact z2
         case stepq =>
          rintro listed a V' i_ hs hc ⟨v44, v48, v53, v54, v58, rfl, q1⟩ hr hne K hK
          obtain ⟨hlt', hl0⟩ := ready_lt hr
          have x0V := (q1.below.cell (p := ad.add (k * 2)) HLXg.out).trans (x0g)
          have x1V := (q1.below.cell (p := ⟨(ad.add (k * 2)).block, (ad.add (k * 2)).off + 1, none⟩) HLXg.out).trans (x1g)
          have hi_ : i_ = 0 ∨ i_ = 1 ∨ i_ = 2 ∨ i_ = 3 ∨ i_ = 4 ∨ i_ = 5 ∨ i_ = 6 ∨ i_ = 7 ∨ i_ = 8 ∨ i_ = 9 ∨ i_ = 10 ∨ i_ = 11 ∨ i_ = 12 ∨ i_ = 13 ∨ i_ = 14 ∨ i_ = 15 := by simp at hs; omega
          rcases hi_ with rfl | rfl | rfl | rfl | rfl | rfl | rfl | rfl | rfl | rfl | rfl | rfl | rfl | rfl | rfl | rfl
          ·have Q1 := Aside0.mk (q1.op0 hlt' (offB hc (by kernel_rfl) hl0) (offB hc (by kernel_rfl) hl0) (offB hc (by kernel_rfl) hl0))
           refine wpOpIn_of rfl rfl ?_
           clear hr hl0 q1 hc
           gi_wp2
           refine ⟨_, v48, v53, v54, v58, ?_, Q1.out⟩
           simp (disch := decide) only [selOr_same hlt', selOr_other hlt']
          ·refine wpOpIn_of rfl rfl ?_
           have Q1 := Aside0.mk (q1.other (j := 1) hlt' (by decide) (by decide) (by decide) (by decide) (by decide) (by decide))
           clear hr hl0 q1 hc
           gi_wp2
           refine ⟨v44, v48, v53, v54, v58, ?_, Q1.out⟩
           simp (disch := decide) only [selOr_same hlt', selOr_other hlt']
          ·refine wpOpIn_of rfl rfl ?_
           have Q1 := Aside0.mk (q1.other (j := 2) hlt' (by decide) (by decide) (by decide) (by decide) (by decide) (by decide))
           clear hr hl0 q1 hc
           gi_wp2
           refine ⟨v44, v48, v53, v54, v58, ?_, Q1.out⟩
           simp (disch := decide) only [selOr_same hlt', selOr_other hlt']
          ·have d1 := rdD 1 hr
           have d2 := rdD 2 hr
           simp only [selOr_on d1, selOr_on d2]
           have Q1 := Aside0.mk (q1.other (j := 3) hlt' (by decide) (by decide) (by decide) (by decide) (by decide) (by decide))
           refine wpOpIn_of rfl rfl ?_
           refine opIn_pre _ (.tmp 45) (.tmp 46) rfl (some ⟨g, 0, none⟩) m cap i rfl rfl HCAP.out ?_
           rw [HV3.out]
           refine hK _ _ ⟨v44, v48, v53, v54, v58, ?_, Q1.out⟩
           show Act.put _ (some 47) _ = _
           simp only [Act.put, List.setIfInBounds_toArray, List.set_cons_zero, List.set_cons_succ]
           simp (disch := decide) only [selOr_same hlt', selOr_other hlt', selOr_on d1, selOr_on d2]
          ·have d0 := rdD 0 hr
           have d3 := rdD 3 hr
           simp only [selOr_on d0, selOr_on d3]
           have o10 := offB (j := 10) hc (by kernel_rfl) hl0
           have o14 := offB (j := 14) hc (by kernel_rfl) hl0
           refine wpOpIn_of rfl rfl ?_
           refine opIn_append_any _ (.tmp 44) (.tmp 47) rfl Vg.heap.size v44 [] rfl (q1.e0 d0 hl0) _ i (cap - 0) (s.take i) HV3.out.symm (by rw [List.length_take]; have := HM.out; have := HIM.out; omega) ((HOg.out.below q1.below).pre i (by have := HM.out; have := HIM.out; omega)).1 ((HOg.out.below q1.below).pre i (by have := HM.out; have := HIM.out; omega)).2 (by rw [List.length_take]; have := HM.out; simp only [List.length_nil]; omega) q1.size ?_
           intro v' W2 ho hg hat
           refine hK _ _ ⟨v44, v', v53, v54, v58, ?_, q1.op4 hlt' d0 hl0 o10 o14 ho hg hat⟩
           show Act.put _ (some 48) _ = _
           simp only [Act.put, List.setIfInBounds_toArray, List.set_cons_zero, List.set_cons_succ]
           simp (disch := decide) only [selOr_same hlt', selOr_other hlt', selOr_on d0, selOr_on d3]
          ·refine wpOpIn_of rfl rfl ?_
           have Q1 := Aside0.mk (q1.other (j := 5) hlt' (by decide) (by decide) (by decide) (by decide) (by decide) (by decide))
           clear hr hl0 q1 hc
           gi_wp2
           refine ⟨v44, v48, v53, v54, v58, ?_, Q1.out⟩
           simp (disch := decide) only [selOr_same hlt', selOr_other hlt']
          ·refine wpOpIn_of rfl rfl ?_
           have Q1 := Aside0.mk (q1.other (j := 6) hlt' (by decide) (by decide) (by decide) (by decide) (by decide) (by decide))
           clear hr hl0 q1 hc
           gi_wp2
           refine ⟨v44, v48, v53, v54, v58, ?_, Q1.out⟩
           simp (disch := decide) only [selOr_same hlt', selOr_other hlt']
          ·have d5 := rdD 5 hr
           have d6 := rdD 6 hr
           simp only [selOr_on d5, selOr_on d6]
           refine wpOpIn_of rfl rfl ?_
           have Q1 := Aside0.mk (q1.other (j := 7) hlt' (by decide) (by decide) (by decide) (by decide) (by decide) (by decide))
           clear hr hl0 q1 hc
           gi_wp2
           refine ⟨v44, v48, v53, v54, v58, ?_, Q1.out⟩
           simp (disch := decide) only [selOr_same hlt', selOr_other hlt', selOr_on d5, selOr_on d6]
          ·have d7 := rdD 7 hr
           simp only [selOr_on d7]
           refine wpOpIn_of rfl rfl ?_
           have Q1 := Aside0.mk (q1.other (j := 8) hlt' (by decide) (by decide) (by decide) (by decide) (by decide) (by decide))
           clear hr hl0 q1 hc
           gi_wp2
           refine ⟨v44, v48, v53, v54, v58, ?_, Q1.out⟩
           simp (disch := decide) only [selOr_same hlt', selOr_other hlt', selOr_on d7]
          ·have d8 := rdD 8 hr
           simp only [selOr_on d8]
           have Q1 := Aside0.mk (q1.op9 hlt' (offB hc (by kernel_rfl) hl0) (offB hc (by kernel_rfl) hl0))
           refine wpOpIn_of rfl rfl ?_
           clear hr hl0 q1 hc
           gi_wp2
           refine ⟨v44, v48, _, v54, v58, ?_, Q1.out⟩
           simp (disch := decide) only [selOr_same hlt', selOr_other hlt', selOr_on d8]
          ·have d4 := rdD 4 hr
           have d9 := rdD 9 hr
           simp only [selOr_on d4, selOr_on d9]
           have d0 : listed.getD 0 false = true := upB hc (by kernel_rfl) d4
           have o14 := offB (j := 14) hc (by kernel_rfl) hl0
           obtain ⟨g9, c9, rfl, hg9, h90, h91⟩ := q1.e9 d9 hl0
           refine wpOpIn_of rfl rfl ?_
           refine opIn_append_any _ (.tmp 48) (.tmp 53) rfl Vg.heap.size v48 (s.take i) rfl (q1.e4 d4 hl0) (some ⟨g9, 0, none⟩) 1 c9 [x] rfl rfl (fun e => by cases e) (fun ad' e j u hu => by cases e; match j, hu with | 0, hu => (simp [ptC] at hu; subst hu; exact h90) | 1, hu => (simp [ptC] at hu; subst hu; exact h91) | j + 2, hu => simp [ptC] at hu) (by rw [List.length_take]; simp only [List.length_singleton]; have := HM.out; omega) q1.size ?_
           intro v' W2 ho hg hat
           refine hK _ _ ⟨v44, v48, _, v', v58, ?_, q1.op10 hlt' d0 d4 d9 hl0 o14 ho hg⟩
           show Act.put _ (some 54) _ = _
           simp only [Act.put, List.setIfInBounds_toArray, List.set_cons_zero, List.set_cons_succ]
           simp (disch := decide) only [selOr_same hlt', selOr_other hlt', selOr_on d4, selOr_on d9]
          ·refine wpOpIn_of rfl rfl ?_
           have Q1 := Aside0.mk (q1.other (j := 11) hlt' (by decide) (by decide) (by decide) (by decide) (by decide) (by decide))
           clear hr hl0 q1 hc
           gi_wp2
           refine ⟨v44, v48, v53, v54, v58, ?_, Q1.out⟩
           simp (disch := decide) only [selOr_same hlt', selOr_other hlt']
          ·refine wpOpIn_of rfl rfl ?_
           have Q1 := Aside0.mk (q1.other (j := 12) hlt' (by decide) (by decide) (by decide) (by decide) (by decide) (by decide))
           clear hr hl0 q1 hc
           gi_wp2
           refine ⟨v44, v48, v53, v54, v58, ?_, Q1.out⟩
           simp (disch := decide) only [selOr_same hlt', selOr_other hlt']
          ·have d11 := rdD 11 hr
           have d12 := rdD 12 hr
           simp only [selOr_on d11, selOr_on d12]
           have Q1 := Aside0.mk (q1.other (j := 13) hlt' (by decide) (by decide) (by decide) (by decide) (by decide) (by decide))
           refine wpOpIn_of rfl rfl ?_
           refine opIn_suf _ (.tmp 55) (.tmp 56) rfl (some ⟨g, 0, none⟩) m cap i rfl rfl HIM.out ?_
           rw [HV13.out]
           refine hK _ _ ⟨v44, v48, v53, v54, v58, ?_, Q1.out⟩
           show Act.put _ (some 57) _ = _
           simp only [Act.put, List.setIfInBounds_toArray, List.set_cons_zero, List.set_cons_succ]
           simp (disch := decide) only [selOr_same hlt', selOr_other hlt', selOr_on d11, selOr_on d12]
          ·have d10 := rdD 10 hr
           have d13 := rdD 13 hr
           simp only [selOr_on d10, selOr_on d13]
           have d4 : listed.getD 4 false = true := upB hc (by kernel_rfl) d10
           refine wpOpIn_of rfl rfl ?_
           refine opIn_append_any _ (.tmp 54) (.tmp 57) rfl Vg.heap.size v54 (s.take i ++ [x]) rfl (q1.e10 d10 hl0) _ (m - i) (cap - i) (s.drop i) HV13.out.symm (by rw [List.length_drop, HM.out]) (fun e => by have := ((HOg.out.below q1.below).suf i (by have := HM.out; have := HIM.out; omega)).1 e; rw [HM.out] at this; exact this) ((HOg.out.below q1.below).suf i (by have := HM.out; have := HIM.out; omega)).2 (by rw [List.length_append, List.length_take, List.length_drop]; simp only [List.length_singleton]; have := HM.out; omega) q1.size ?_
           intro v' W2 ho hg hat
           refine hK _ _ ⟨v44, v48, v53, v54, v', ?_, q1.op14 hlt' d4 d10 hl0 ho hg⟩
           show Act.put _ (some 58) _ = _
           simp only [Act.put, List.setIfInBounds_toArray, List.set_cons_zero, List.set_cons_succ]
           simp (disch := decide) only [selOr_same hlt', selOr_other hlt', selOr_on d10, selOr_on d13]
          ·exact absurd rfl hne
    ·obtain rfl : i = m := by omega
     gi_wp2
     refine wpIn_region_any (by kernel_rfl) ?_
     change wpAnyIn _ _ _ _ _ _ _ _ _ (World.drew wz)
     refine wpAnyIn_inv (fun listed a V' => a = { tmps := (.slice (some ad) n c0 :: undef :: .slice none 0 0 :: .slice sa i cap :: .int .i64 (k : Int) :: .int .i64 (i : Int) :: .int .i64 (k : Int) :: .slice (some ad) n c0 :: .int .i64 (n : Int) :: .bool true :: u10 :: u11 :: selOr listed 0 (.int .i64 (i : Int)) u12 :: selOr listed 1 (.slice sa i cap) u13 :: selOr listed 2 (.int .i64 (i : Int)) u14 :: selOr listed 3 (.bool false) u15 :: selOr listed 4 (.bool false) u16 :: selOr listed 5 (undef) u17 :: selOr listed 6 (undef) u18 :: selOr listed 7 (undef) u19 :: selOr listed 8 (undef) u20 :: selOr listed 9 (undef) u21 :: selOr listed 10 (undef) u22 :: selOr listed 11 (undef) u23 :: selOr listed 12 (undef) u24 :: selOr listed 13 (undef) u25 :: selOr listed 14 (.bool false) u26 :: u27 :: u28 :: u29 :: u30 :: u31 :: u32 :: u33 :: u34 :: u35 :: u36 :: u37 :: u38 :: u39 :: u40 :: u41 :: u42 :: u43 :: u44 :: u45 :: u46 :: u47 :: u48 :: u49 :: u50 :: u51 :: u52 :: u53 :: u54 :: u55 :: u56 :: u57 :: u58 :: undef :: []).toArray, defers := [] } ∧ Below wz.heap.size wz V') 22 ?stepq ?stopq ?finq 15 _ _ _ (by simp) (closed_none _) ⟨by simp [selOr], (Below.refl _ _).drew⟩ (by simp)
     case stopq =>
      intro listed a V' fuel hs hc hi hr
      have := (ready_lt hr).1
      simp at hs
      omega
     case stepq =>
      rintro listed a V' i_ hs hc ⟨rfl, q1⟩ hr hne K hK
      obtain ⟨hlt', hl0⟩ := ready_lt hr
      have hi_ : i_ = 0 ∨ i_ = 1 ∨ i_ = 2 ∨ i_ = 3 ∨ i_ = 4 ∨ i_ = 5 ∨ i_ = 6 ∨ i_ = 7 ∨ i_ = 8 ∨ i_ = 9 ∨ i_ = 10 ∨ i_ = 11 ∨ i_ = 12 ∨ i_ = 13 ∨ i_ = 14 := by simp at hs; omega
      rcases hi_ with rfl | rfl | rfl | rfl | rfl | rfl | rfl | rfl | rfl | rfl | rfl | rfl | rfl | rfl | rfl
      ·skip
       refine wpOpIn_of rfl rfl ?_
       clear hr hl0
       gi_wp2
       refine ⟨?_, q1⟩
       simp (disch := decide) only [selOr_same hlt', selOr_other hlt']
      ·skip
       refine wpOpIn_of rfl rfl ?_
       clear hr hl0
       gi_wp2
       refine ⟨?_, q1⟩
       simp (disch := decide) only [selOr_same hlt', selOr_other hlt']
      ·have d1 := rdD 1 hr
       simp only [selOr_on d1]
       refine wpOpIn_of rfl rfl ?_
       clear hr hl0
       gi_wp2
       refine ⟨?_, q1⟩
       simp (disch := decide) only [selOr_same hlt', selOr_other hlt', selOr_on d1]
      ·have d0 := rdD 0 hr
       have d2 := rdD 2 hr
       simp only [selOr_on d0, selOr_on d2]
       refine wpOpIn_of rfl rfl ?_
       clear hr hl0
       gi_wp2
       refine ⟨?_, q1⟩
       simp (disch := decide) only [selOr_same hlt', selOr_other hlt', selOr_on d0, selOr_on d2]
      ·have d3 := rdD 3 hr
       simp only [selOr_on d3]
       refine wpOpIn_of rfl rfl ?_
       clear hr hl0
       gi_wp2
       refine ⟨?_, q1⟩
       simp (disch := decide) only [selOr_same hlt', selOr_other hlt', selOr_on d3]
      ·have d4 := rdD 4 hr
       simp only [selOr_on d4]
       refine wpOpIn_not rfl rfl (fun _ _ => trivial) (hK _ _ ⟨?_, q1⟩)
       show Act.put _ (some 17) _ = _
       simp only [Act.put, List.setIfInBounds_toArray, List.set_cons_zero, List.set_cons_succ]
       simp (disch := decide) only [selOr_same hlt', selOr_other hlt', selOr_on d4]
      ·have d4 := rdD 4 hr
       simp only [selOr_on d4]
       refine wpOpIn_not rfl rfl (fun _ _ => trivial) (hK _ _ ⟨?_, q1⟩)
       show Act.put _ (some 18) _ = _
       simp only [Act.put, List.setIfInBounds_toArray, List.set_cons_zero, List.set_cons_succ]
       simp (disch := decide) only [selOr_same hlt', selOr_other hlt', selOr_on d4]
      ·have d4 := rdD 4 hr
       simp only [selOr_on d4]
       refine wpOpIn_not rfl rfl (fun _ _ => trivial) (hK _ _ ⟨?_, q1⟩)
       show Act.put _ (some 19) _ = _
       simp only [Act.put, List.setIfInBounds_toArray, List.set_cons_zero, List.set_cons_succ]
       simp (disch := decide) only [selOr_same hlt', selOr_other hlt', selOr_on d4]
      ·have d4 := rdD 4 hr
       simp only [selOr_on d4]
       refine wpOpIn_not rfl rfl (fun _ _ => trivial) (hK _ _ ⟨?_, q1⟩)
       show Act.put _ (some 20) _ = _
       simp only [Act.put, List.setIfInBounds_toArray, List.set_cons_zero, List.set_cons_succ]
       simp (disch := decide) only [selOr_same hlt', selOr_other hlt', selOr_on d4]
      ·have d4 := rdD 4 hr
       simp only [selOr_on d4]
       refine wpOpIn_not rfl rfl (fun _ _ => trivial) (hK _ _ ⟨?_, q1⟩)
       show Act.put _ (some 21) _ = _
       simp only [Act.put, List.setIfInBounds_toArray, List.set_cons_zero, List.set_cons_succ]
       simp (disch := decide) only [selOr_same hlt', selOr_other hlt', selOr_on d4]
      ·have d4 := rdD 4 hr
       simp only [selOr_on d4]
       refine wpOpIn_not rfl rfl (fun _ _ => trivial) (hK _ _ ⟨?_, q1⟩)
       show Act.put _ (some 22) _ = _
       simp only [Act.put, List.setIfInBounds_toArray, List.set_cons_zero, List.set_cons_succ]
       simp (disch := decide) only [selOr_same hlt', selOr_other hlt', selOr_on d4]
      ·have d4 := rdD 4 hr
       simp only [selOr_on d4]
       refine wpOpIn_not rfl rfl (fun _ _ => trivial) (hK _ _ ⟨?_, q1⟩)
       show Act.put _ (some 23) _ = _
       simp only [Act.put, List.setIfInBounds_toArray, List.set_cons_zero, List.set_cons_succ]
       simp (disch := decide) only [selOr_same hlt', selOr_other hlt', selOr_on d4]
      ·have d4 := rdD 4 hr
       simp only [selOr_on d4]
       refine wpOpIn_not rfl rfl (fun _ _ => trivial) (hK _ _ ⟨?_, q1⟩)
       show Act.put _ (some 24) _ = _
       simp only [Act.put, List.setIfInBounds_toArray, List.set_cons_zero, List.set_cons_succ]
       simp (disch := decide) only [selOr_same hlt', selOr_other hlt', selOr_on d4]
      ·have d4 := rdD 4 hr
       simp only [selOr_on d4]
       refine wpOpIn_not rfl rfl (fun _ _ => trivial) (hK _ _ ⟨?_, q1⟩)
       show Act.put _ (some 25) _ = _
       simp only [Act.put, List.setIfInBounds_toArray, List.set_cons_zero, List.set_cons_succ]
       simp (disch := decide) only [selOr_same hlt', selOr_other hlt', selOr_on d4]
      ·have d4 := rdD 4 hr
       have d13 := rdD 13 hr
       simp only [selOr_on d4, selOr_on d13]
       refine wpOpIn_of rfl rfl ?_
       clear hr hl0
       gi_wp2
       refine ⟨?_, q1⟩
       simp (disch := decide) only [selOr_same hlt', selOr_other hlt', selOr_on d4, selOr_on d13]
     case finq =>
      rintro listed a Vf hs ⟨rfl, q1⟩ hr
      have all : ∀ j, j < 15 → listed.getD j false = true := fun j hj => by
       cases q : listed.getD j false
       ·exact absurd hr (ready_ne hs (by kernel_rfl) j (by simpa using hj) q)
       ·rfl
      simp only [selOr_on (all 0 (by decide)), selOr_on (all 1 (by decide)), selOr_on (all 2 (by decide)), selOr_on (all 3 (by decide)), selOr_on (all 4 (by decide)), selOr_on (all 5 (by decide)), selOr_on (all 6 (by decide)), selOr_on (all 7 (by decide)), selOr_on (all 8 (by decide)), selOr_on (all 9 (by decide)), selOr_on (all 10 (by decide)), selOr_on (all 11 (by decide)), selOr_on (all 12 (by decide)), selOr_on (all 13 (by decide)), selOr_on (all 14 (by decide))]
      clear all hr hs
      have HZf := Aside0.mk (HZ.out.trans (q1.mono HZ.out.size))
      replace x0 := (q1.cell (p := ad.add (k * 2)) HLX.out).trans x0
      replace x1 := (q1.cell (p := ⟨(ad.add (k * 2)).block, (ad.add (k * 2)).off + 1, none⟩) HLX.out).trans x1
      replace HLX := Aside0.mk (Nat.lt_of_lt_of_le HLX.out q1.size)
      clear q1
      gi_wp2
      refine wpIn_region_any (by kernel_rfl) ?_
      change wpAnyIn _ _ _ _ _ _ _ _ _ (World.drew Vf)
      refine wpAnyIn_inv (fun listed a V' => a = { tmps := (.slice (some ad) n c0 :: undef :: .slice none 0 0 :: .slice sa i cap :: .int .i64 (k : Int) :: .int .i64 (i : Int) :: .int .i64 (k : Int) :: .slice (some ad) n c0 :: .int .i64 (n : Int) :: .bool true :: u10 :: u11 :: .int .i64 (i : Int) :: .slice sa i cap :: .int .i64 (i : Int) :: .bool false :: .bool false :: undef :: undef :: undef :: undef :: undef :: undef :: undef :: undef :: undef :: .bool false :: u27 :: u28 :: selOr listed 0 (.int .i64 (i : Int)) u29 :: selOr listed 1 (.slice sa i cap) u30 :: selOr listed 2 (.int .i64 (i : Int)) u31 :: selOr listed 3 (.bool true) u32 :: selOr listed 4 (.bool true) u33 :: selOr listed 5 (undef) u34 :: selOr listed 6 (undef) u35 :: selOr listed 7 (undef) u36 :: selOr listed 8 (undef) u37 :: selOr listed 9 (undef) u38 :: selOr listed 10 (undef) u39 :: selOr listed 11 (undef) u40 :: selOr listed 12 (undef) u41 :: selOr listed 13 (undef) u42 :: selOr listed 14 (.bool true) u43 :: u44 :: u45 :: u46 :: u47 :: u48 :: u49 :: u50 :: u51 :: u52 :: u53 :: u54 :: u55 :: u56 :: u57 :: u58 :: undef :: []).toArray, defers := [] } ∧ Below Vf.heap.size Vf V') 22 ?stepq ?stopq ?finq 15 _ _ _ (by simp) (closed_none _) ⟨by simp [selOr], (Below.refl _ _).drew⟩ (by simp)
      case stopq =>
       intro listed a V' fuel hs hc hi hr
       have := (ready_lt hr).1
       simp at hs
       omega
      case stepq =>
       rintro listed a V' i_ hs hc ⟨rfl, q1⟩ hr hne K hK
       obtain ⟨hlt', hl0⟩ := ready_lt hr
       have hi_ : i_ = 0 ∨ i_ = 1 ∨ i_ = 2 ∨ i_ = 3 ∨ i_ = 4 ∨ i_ = 5 ∨ i_ = 6 ∨ i_ = 7 ∨ i_ = 8 ∨ i_ = 9 ∨ i_ = 10 ∨ i_ = 11 ∨ i_ = 12 ∨ i_ = 13 ∨ i_ = 14 := by simp at hs; omega
       rcases hi_ with rfl | rfl | rfl | rfl | rfl | rfl | rfl | rfl | rfl | rfl | rfl | rfl | rfl | rfl | rfl
       ·skip
        refine wpOpIn_of rfl rfl ?_
        clear hr hl0
        gi_wp2
        refine ⟨?_, q1⟩
        simp (disch := decide) only [selOr_same hlt', selOr_other hlt']
       ·skip
        refine wpOpIn_of rfl rfl ?_
        clear hr hl0
        gi_wp2
        refine ⟨?_, q1⟩
        simp (disch := decide) only [selOr_same hlt', selOr_other hlt']
       ·have d1 := rdD 1 hr
        simp only [selOr_on d1]
        refine wpOpIn_of rfl rfl ?_
        clear hr hl0
        gi_wp2
        refine ⟨?_, q1⟩
        simp (disch := decide) only [selOr_same hlt', selOr_other hlt', selOr_on d1]
       ·have d0 := rdD 0 hr
        have d2 := rdD 2 hr
        simp only [selOr_on d0, selOr_on d2]
        refine wpOpIn_of rfl rfl ?_
        clear hr hl0
        gi_wp2
        refine ⟨?_, q1⟩
        simp (disch := decide) only [selOr_same hlt', selOr_other hlt', selOr_on d0, selOr_on d2]
       ·have d3 := rdD 3 hr
        simp only [selOr_on d3]
        refine wpOpIn_of rfl rfl ?_
        clear hr hl0
        gi_wp2
        refine ⟨?_, q1⟩
        simp (disch := decide) only [selOr_same hlt', selOr_other hlt', selOr_on d3]
       ·have d4 := rdD 4 hr
        simp only [selOr_on d4]
        refine wpOpIn_not rfl rfl (fun _ _ => trivial) (hK _ _ ⟨?_, q1⟩)
        show Act.put _ (some 34) _ = _
        simp only [Act.put, List.setIfInBounds_toArray, List.set_cons_zero, List.set_cons_succ]
        simp (disch := decide) only [selOr_same hlt', selOr_other hlt', selOr_on d4]
       ·have d4 := rdD 4 hr
        simp only [selOr_on d4]
        refine wpOpIn_not rfl rfl (fun _ _ => trivial) (hK _ _ ⟨?_, q1⟩)
        show Act.put _ (some 35) _ = _
        simp only [Act.put, List.setIfInBounds_toArray, List.set_cons_zero, List.set_cons_succ]
        simp (disch := decide) only [selOr_same hlt', selOr_other hlt', selOr_on d4]
       ·have d4 := rdD 4 hr
        simp only [selOr_on d4]
        refine wpOpIn_not rfl rfl (fun _ _ => trivial) (hK _ _ ⟨?_, q1⟩)
        show Act.put _ (some 36) _ = _
        simp only [Act.put, List.setIfInBounds_toArray, List.set_cons_zero, List.set_cons_succ]
        simp (disch := decide) only [selOr_same hlt', selOr_other hlt', selOr_on d4]
       ·have d4 := rdD 4 hr
        simp only [selOr_on d4]
        refine wpOpIn_not rfl rfl (fun _ _ => trivial) (hK _ _ ⟨?_, q1⟩)
        show Act.put _ (some 37) _ = _
        simp only [Act.put, List.setIfInBounds_toArray, List.set_cons_zero, List.set_cons_succ]
        simp (disch := decide) only [selOr_same hlt', selOr_other hlt', selOr_on d4]
       ·have d4 := rdD 4 hr
        simp only [selOr_on d4]
        refine wpOpIn_not rfl rfl (fun _ _ => trivial) (hK _ _ ⟨?_, q1⟩)
        show Act.put _ (some 38) _ = _
        simp only [Act.put, List.setIfInBounds_toArray, List.set_cons_zero, List.set_cons_succ]
        simp (disch := decide) only [selOr_same hlt', selOr_other hlt', selOr_on d4]
       ·have d4 := rdD 4 hr
        simp only [selOr_on d4]
        refine wpOpIn_not rfl rfl (fun _ _ => trivial) (hK _ _ ⟨?_, q1⟩)
        show Act.put _ (some 39) _ = _
        simp only [Act.put, List.setIfInBounds_toArray, List.set_cons_zero, List.set_cons_succ]
        simp (disch := decide) only [selOr_same hlt', selOr_other hlt', selOr_on d4]
       ·have d4 := rdD 4 hr
        simp only [selOr_on d4]
        refine wpOpIn_not rfl rfl (fun _ _ => trivial) (hK _ _ ⟨?_, q1⟩)
        show Act.put _ (some 40) _ = _
        simp only [Act.put, List.setIfInBounds_toArray, List.set_cons_zero, List.set_cons_succ]
        simp (disch := decide) only [selOr_same hlt', selOr_other hlt', selOr_on d4]
       ·have d4 := rdD 4 hr
        simp only [selOr_on d4]
        refine wpOpIn_not rfl rfl (fun _ _ => trivial) (hK _ _ ⟨?_, q1⟩)
        show Act.put _ (some 41) _ = _
        simp only [Act.put, List.setIfInBounds_toArray, List.set_cons_zero, List.set_cons_succ]
        simp (disch := decide) only [selOr_same hlt', selOr_other hlt', selOr_on d4]
       ·have d4 := rdD 4 hr
        simp only [selOr_on d4]
        refine wpOpIn_not rfl rfl (fun _ _ => trivial) (hK _ _ ⟨?_, q1⟩)
        show Act.put _ (some 42) _ = _
        simp only [Act.put, List.setIfInBounds_toArray, List.set_cons_zero, List.set_cons_succ]
        simp (disch := decide) only [selOr_same hlt', selOr_other hlt', selOr_on d4]
       ·have d4 := rdD 4 hr
        have d13 := rdD 13 hr
        simp only [selOr_on d4, selOr_on d13]
        refine wpOpIn_of rfl rfl ?_
        clear hr hl0
        gi_wp2
        refine ⟨?_, q1⟩
        simp (disch := decide) only [selOr_same hlt', selOr_other hlt', selOr_on d4, selOr_on d13]
      case finq =>
       rintro listed a Vg hs ⟨rfl, q1⟩ hr
       have all : ∀ j, j < 15 → listed.getD j false = true := fun j hj => by
        cases q : listed.getD j false
        ·exact absurd hr (ready_ne hs (by kernel_rfl) j (by simpa using hj) q)
        ·rfl
       simp only [selOr_on (all 0 (by decide)), selOr_on (all 1 (by decide)), selOr_on (all 2 (by decide)), selOr_on (all 3 (by decide)), selOr_on (all 4 (by decide)), selOr_on (all 5 (by decide)), selOr_on (all 6 (by decide)), selOr_on (all 7 (by decide)), selOr_on (all 8 (by decide)), selOr_on (all 9 (by decide)), selOr_on (all 10 (by decide)), selOr_on (all 11 (by decide)), selOr_on (all 12 (by decide)), selOr_on (all 13 (by decide)), selOr_on (all 14 (by decide))]
       clear all hr hs
       have HZg := Aside0.mk (HZf.out.trans (q1.mono HZf.out.size))
       have x0g := (q1.cell (p := ad.add (k * 2)) HLX.out).trans x0
       have x1g := (q1.cell (p := ⟨(ad.add (k * 2)).block, (ad.add (k * 2)).off + 1, none⟩) HLX.out).trans x1
       have HLXg := Aside0.mk (Nat.lt_of_lt_of_le HLX.out q1.size)
       have HOg := Aside0.mk (HO.out.below HZg.out)
       have HCAP := Aside0.mk (show i ≤ cap by
        rcases HO.out with ⟨e, _⟩ | ⟨g, c, e, _, h2⟩
        ·injection e with e1 e2 e3; omega
        ·injection e with e1 e2 e3
         have := h2.le.1; omega)
       have HIM := Aside0.mk (Nat.le_refl i)
       have HFIN := Aside0.mk (show sdP (l0.take (k + 1)) = s.take i ++ [x] ++ s.drop i by
        rw [HS.out, ins_at x s i HL.out (by have := HM.out; omega) (fun h => absurd h (by have := HM.out; omega)), if_neg (by rintro ⟨h, _⟩; have := HM.out; omega)])
       clear q1 x0 x1
       gi_wp2
       obtain ⟨V3, hV3⟩ : ∃ v, sliced sa 0 i cap 2 = v := ⟨_, rfl⟩
       obtain ⟨V13, hV13⟩ : ∃ v, sliced sa i i cap 2 = v := ⟨_, rfl⟩
       have HV3 := Aside0.mk hV3
       have HV13 := Aside0.mk hV13
       clear hV3 hV13
       refine wpIn_region_any (by kernel_rfl) ?_
       change wpAnyIn _ _ _ _ _ _ _ _ _ (World.drew Vg)
       refine wpAnyIn_inv (fun listed a V' => ∃ v44 v48 v53 v54 v58, a = { tmps := (.slice (some ad) n c0 :: undef :: .slice none 0 0 :: .slice sa i cap :: .int .i64 (k : Int) :: .int .i64 (i : Int) :: .int .i64 (k : Int) :: .slice (some ad) n c0 :: .int .i64 (n : Int) :: .bool true :: u10 :: u11 :: .int .i64 (i : Int) :: .slice sa i cap :: .int .i64 (i : Int) :: .bool false :: .bool false :: undef :: undef :: undef :: undef :: undef :: undef :: undef :: undef :: undef :: .bool false :: u27 :: u28 :: .int .i64 (i : Int) :: .slice sa i cap :: .int .i64 (i : Int) :: .bool true :: .bool true :: undef :: undef :: undef :: undef :: undef :: undef :: undef :: undef :: undef :: .bool true :: selOr listed 0 (v44) u44 :: selOr listed 1 (.slice sa i cap) u45 :: selOr listed 2 (.int .i64 (i : Int)) u46 :: selOr listed 3 (V3) u47 :: selOr listed 4 (v48) u48 :: selOr listed 5 (.slice (some ad) n c0) u49 :: selOr listed 6 (.int .i64 (k : Int)) u50 :: selOr listed 7 (.pointer (some (ad.add (k * 2)))) u51 :: selOr listed 8 (.agg #[.int .i64 x.f0, .int .i64 x.f1]) u52 :: selOr listed 9 (v53) u53 :: selOr listed 10 (v54) u54 :: selOr listed 11 (.slice sa i cap) u55 :: selOr listed 12 (.int .i64 (i : Int)) u56 :: selOr listed 13 (V13) u57 :: selOr listed 14 (v58) u58 :: undef :: []).toArray, defers := [] } ∧ Ins3 Vg.heap.size Vg s i x listed v44 v48 v53 v54 v58 V') 15 ?stepq ?stopq ?finq 16 _ _ _ (by simp) (closed_none _) ⟨undef, undef, undef, undef, undef, by simp [selOr], Ins3.start _ _ _ _ _ _ _ _ _⟩ (by simp)
       case finq =>
        rintro listed a V' hs ⟨v44, v48, v53, v54, v58, rfl, q1⟩ hr
        exact absurd hr (ready_ne hs (by kernel_rfl) 15 (by simp) q1.n15)
       case stopq =>
        rintro listed a V' fuel hs hc ⟨v44, v48, v53, v54, v58, rfl, q1⟩ hr hcount
        obtain ⟨hlt', hl0⟩ := ready_lt hr
        have d0 := rdD 0 hr
        have d1 := rdD 1 hr
        have d2 := rdD 2 hr
        have d3 := rdD 3 hr
        have d4 := rdD 4 hr
        have d5 := rdD 5 hr
        have d6 := rdD 6 hr
        have d7 := rdD 7 hr
        have d8 := rdD 8 hr
        have d9 := rdD 9 hr
        have d10 := rdD 10 hr
        have d11 := rdD 11 hr
        have d12 := rdD 12 hr
        have d13 := rdD 13 hr
        have d14 := rdD 14 hr
        simp only [selOr_on d0, selOr_on d1, selOr_on d2, selOr_on d3, selOr_on d4, selOr_on d5, selOr_on d6, selOr_on d7, selOr_on d8, selOr_on d9, selOr_on d10, selOr_on d11, selOr_on d12, selOr_on d13, selOr_on d14]
        have HALL := Aside0.mk (show ∀ j, j < 15 → listed.getD j false = true from fun j hj => by rcases (show  j = 0 ∨ j = 1 ∨ j = 2 ∨ j = 3 ∨ j = 4 ∨ j = 5 ∨ j = 6 ∨ j = 7 ∨ j = 8 ∨ j = 9 ∨ j = 10 ∨ j = 11 ∨ j = 12 ∨ j = 13 ∨ j = 14 by omega) with rfl | rfl | rfl | rfl | rfl | rfl | rfl | rfl | rfl | rfl | rfl | rfl | rfl | rfl | rfl <;> assumption)
        have HO58 := q1.e14 d14
        have HBV := q1.below
        refine wpOpIn_of rfl rfl ?_
        have HO58' := Aside0.mk HO58
        have HBV' := Aside0.mk HBV
        clear hr hl0 HO58 HBV q1 hc hcount d0 d1 d2 d3 d4 d5 d6 d7 d8 d9 d10 d11 d12 d13 d14
        gi_wp2
        refine wpAnyIn_full (List.eq_nil_iff_forall_not_mem.2 fun j hj => ?_) ?_
        ·obtain ⟨h1, h2⟩ := ready_lt hj
         rw [getD_set hlt'] at h2
         split at h2
         ·cases h2
         ·rename_i hne_
          have h3 : j < 16 := by simpa [hs] using h1
          rw [HALL.out j (by omega)] at h2
          cases h2
        have HFIN2 := Aside0.mk (show OutV V' w.heap.size v58 (sdP (l0.take (k + 1))) by rw [HFIN.out]; exact HO58'.out.lower (Nat.le_trans HB.out.size HZg.out.size))
        have HBg := Aside0.mk (HB.out.trans ((HZg.out.trans (HBV'.out.mono HZg.out.size)).mono HB.out.size))
        have HK1 := Aside0.mk (show k + 1 ≤ n ∧ n - (k + 1) < n - k ∧ wrap64 ((k : Int) + 1) = ((k + 1 : Nat) : Int) from ⟨by omega, by omega, by unfold wrap64; omega⟩)
        gi_wp2
        obtain ⟨z1, z2, z3⟩ := HK1.out
        refine ⟨⟨k + 1, v58, z1, by first | rw [z3] | rfl, rfl, HFIN2, HBg⟩, ?_⟩
        try rw [z3]
        show n - (((k + 1 : Nat) : Int)).toNat < n - ((k : Nat) : Int).toNat
        rw [Int.toNat_natCast, Int.toNat_natCast]; exact z2
       case stepq =>
        rintro listed a V' i_ hs hc ⟨v44, v48, v53, v54, v58, rfl, q1⟩ hr hne K hK
        obtain ⟨hlt', hl0⟩ := ready_lt hr
        have x0V := (q1.below.cell (p := ad.add (k * 2)) HLXg.out).trans (x0g)
        have x1V := (q1.below.cell (p := ⟨(ad.add (k * 2)).block, (ad.add (k * 2)).off + 1, none⟩) HLXg.out).trans (x1g)
        have hi_ : i_ = 0 ∨ i_ = 1 ∨ i_ = 2 ∨ i_ = 3 ∨ i_ = 4 ∨ i_ = 5 ∨ i_ = 6 ∨ i_ = 7 ∨ i_ = 8 ∨ i_ = 9 ∨ i_ = 10 ∨ i_ = 11 ∨ i_ = 12 ∨ i_ = 13 ∨ i_ = 14 ∨ i_ = 15 := by simp at hs; omega
        rcases hi_ with rfl | rfl | rfl | rfl | rfl | rfl | rfl | rfl | rfl | rfl | rfl | rfl | rfl | rfl | rfl | rfl
        ·have Q1 := Aside0.mk (q1.op0 hlt' (offB hc (by kernel_rfl) hl0) (offB hc (by kernel_rfl) hl0) (offB hc (by kernel_rfl) hl0))
         refine wpOpIn_of rfl rfl ?_
         clear hr hl0 q1 hc
         gi_wp2
         refine ⟨_, v48, v53, v54, v58, ?_, Q1.out⟩
         simp (disch := decide) only [selOr_same hlt', selOr_other hlt']
        ·refine wpOpIn_of rfl rfl ?_
         have Q1 := Aside0.mk (q1.other (j := 1) hlt' (by decide) (by decide) (by decide) (by decide) (by decide) (by decide))
         clear hr hl0 q1 hc
         gi_wp2
         refine ⟨v44, v48, v53, v54, v58, ?_, Q1.out⟩
         simp (disch := decide) only [selOr_same hlt', selOr_other hlt']
        ·refine wpOpIn_of rfl rfl ?_
         have Q1 := Aside0.mk (q1.other (j := 2) hlt' (by decide) (by decide) (by decide) (by decide) (by decide) (by decide))
         clear hr hl0 q1 hc
         gi_wp2
         refine ⟨v44, v48, v53, v54, v58, ?_, Q1.out⟩
         simp (disch := decide) only [selOr_same hlt', selOr_other hlt']
        ·have d1 := rdD 1 hr
         have d2 := rdD 2 hr
         simp only [selOr_on d1, selOr_on d2]
         have Q1 := Aside0.mk (q1.other (j := 3) hlt' (by decide) (by decide) (by decide) (by decide) (by decide) (by decide))
         refine wpOpIn_of rfl rfl ?_
         refine opIn_pre _ (.tmp 45) (.tmp 46) rfl sa i cap i rfl rfl HCAP.out ?_
         rw [HV3.out]
         refine hK _ _ ⟨v44, v48, v53, v54, v58, ?_, Q1.out⟩
         show Act.put _ (some 47) _ = _
         simp only [Act.put, List.setIfInBounds_toArray, List.set_cons_zero, List.set_cons_succ]
         simp (disch := decide) only [selOr_same hlt', selOr_other hlt', selOr_on d1, selOr_on d2]
        ·have d0 := rdD 0 hr
         have d3 := rdD 3 hr
         simp only [selOr_on d0, selOr_on d3]
         have o10 := offB (j := 10) hc (by kernel_rfl) hl0
         have o14 := offB (j := 14) hc (by kernel_rfl) hl0
         refine wpOpIn_of rfl rfl ?_
         refine opIn_append_any _ (.tmp 44) (.tmp 47) rfl Vg.heap.size v44 [] rfl (q1.e0 d0 hl0) _ i (cap - 0) (s.take i) HV3.out.symm (by rw [List.length_take]; have := HM.out; have := HIM.out; omega) ((HOg.out.below q1.below).pre i (by have := HM.out; have := HIM.out; omega)).1 ((HOg.out.below q1.below).pre i (by have := HM.out; have := HIM.out; omega)).2 (by rw [List.length_take]; have := HM.out; simp only [List.length_nil]; omega) q1.size ?_
         intro v' W2 ho hg hat
         refine hK _ _ ⟨v44, v', v53, v54, v58, ?_, q1.op4 hlt' d0 hl0 o10 o14 ho hg hat⟩
         show Act.put _ (some 48) _ = _
         simp only [Act.put, List.setIfInBounds_toArray, List.set_cons_zero, List.set_cons_succ]
         simp (disch := decide) only [selOr_same hlt', selOr_other hlt', selOr_on d0, selOr_on d3]
        ·refine wpOpIn_of rfl rfl ?_
         have Q1 := Aside0.mk (q1.other (j := 5) hlt' (by decide) (by decide) (by decide) (by decide) (by decide) (by decide))
         clear hr hl0 q1 hc
         gi_wp2
         refine ⟨v44, v48, v53, v54, v58, ?_, Q1.out⟩
         simp (disch := decide) only [selOr_same hlt', selOr_other hlt']
        ·refine wpOpIn_of rfl rfl ?_
         have Q1 := Aside0.mk (q1.other (j := 6) hlt' (by decide) (by decide) (by decide) (by decide) (by decide) (by decide))
         clear hr hl0 q1 hc
         gi_wp2
         refine ⟨v44, v48, v53, v54, v58, ?_, Q1.out⟩
         simp (disch := decide) only [selOr_same hlt', selOr_other hlt']
        ·have d5 := rdD 5 hr
         have d6 := rdD 6 hr
         simp only [selOr_on d5, selOr_on d6]
         refine wpOpIn_of rfl rfl ?_
         have Q1 := Aside0.mk (q1.other (j := 7) hlt' (by decide) (by decide) (by decide) (by decide) (by decide) (by decide))
         clear hr hl0 q1 hc
         gi_wp2
         refine ⟨v44, v48, v53, v54, v58, ?_, Q1.out⟩
         simp (disch := decide) only [selOr_same hlt', selOr_other hlt', selOr_on d5, selOr_on d6]
        ·have d7 := rdD 7 hr
         simp only [selOr_on d7]
         refine wpOpIn_of rfl rfl ?_
         have Q1 := Aside0.mk (q1.other (j := 8) hlt' (by decide) (by decide) (by decide) (by decide) (by decide) (by decide))
         clear hr hl0 q1 hc
         gi_wp2
         refine ⟨v44, v48, v53, v54, v58, ?_, Q1.out⟩
         simp (disch := decide) only [selOr_same hlt', selOr_other hlt', selOr_on d7]
        ·have d8 := rdD 8 hr
         simp only [selOr_on d8]
         have Q1 := Aside0.mk (q1.op9 hlt' (offB hc (by kernel_rfl) hl0) (offB hc (by kernel_rfl) hl0))
         refine wpOpIn_of rfl rfl ?_
         clear hr hl0 q1 hc
         gi_wp2
         refine ⟨v44, v48, _, v54, v58, ?_, Q1.out⟩
         simp (disch := decide) only [selOr_same hlt', selOr_other hlt', selOr_on d8]
        ·have d4 := rdD 4 hr
         have d9 := rdD 9 hr
         simp only [selOr_on d4, selOr_on d9]
         have d0 : listed.getD 0 false = true := upB hc (by kernel_rfl) d4
         have o14 := offB (j := 14) hc (by kernel_rfl) hl0
         obtain ⟨g9, c9, rfl, hg9, h90, h91⟩ := q1.e9 d9 hl0
         refine wpOpIn_of rfl rfl ?_
         refine opIn_append_any _ (.tmp 48) (.tmp 53) rfl Vg.heap.size v48 (s.take i) rfl (q1.e4 d4 hl0) (some ⟨g9, 0, none⟩) 1 c9 [x] rfl rfl (fun e => by cases e) (fun ad' e j u hu => by cases e; match j, hu with | 0, hu => (simp [ptC] at hu; subst hu; exact h90) | 1, hu => (simp [ptC] at hu; subst hu; exact h91) | j + 2, hu => simp [ptC] at hu) (by rw [List.length_take]; simp only [List.length_singleton]; have := HM.out; omega) q1.size ?_
         intro v' W2 ho hg hat
         refine hK _ _ ⟨v44, v48, _, v', v58, ?_, q1.op10 hlt' d0 d4 d9 hl0 o14 ho hg⟩
         show Act.put _ (some 54) _ = _
         simp only [Act.put, List.setIfInBounds_toArray, List.set_cons_zero, List.set_cons_succ]
         simp (disch := decide) only [selOr_same hlt', selOr_other hlt', selOr_on d4, selOr_on d9]
        ·refine wpOpIn_of rfl rfl ?_
         have Q1 := Aside0.mk (q1.other (j := 11) hlt' (by decide) (by decide) (by decide) (by decide) (by decide) (by decide))
         clear hr hl0 q1 hc
         gi_wp2
         refine ⟨v44, v48, v53, v54, v58, ?_, Q1.out⟩
         simp (disch := decide) only [selOr_same hlt', selOr_other hlt']
        ·refine wpOpIn_of rfl rfl ?_
         have Q1 := Aside0.mk (q1.other (j := 12) hlt' (by decide) (by decide) (by decide) (by decide) (by decide) (by decide))
         clear hr hl0 q1 hc
         gi_wp2
         refine ⟨v44, v48, v53, v54, v58, ?_, Q1.out⟩
         simp (disch := decide) only [selOr_same hlt', selOr_other hlt']
        ·have d11 := rdD 11 hr
         have d12 := rdD 12 hr
         simp only [selOr_on d11, selOr_on d12]
         have Q1 := Aside0.mk (q1.other (j := 13) hlt' (by decide) (by decide) (by decide) (by decide) (by decide) (by decide))
         refine wpOpIn_of rfl rfl ?_
         refine opIn_suf _ (.tmp 55) (.tmp 56) rfl sa i cap i rfl rfl HIM.out ?_
         rw [HV13.out]
         refine hK _ _ ⟨v44, v48, v53, v54, v58, ?_, Q1.out⟩
         show Act.put _ (some 57) _ = _
         simp only [Act.put, List.setIfInBounds_toArray, List.set_cons_zero, List.set_cons_succ]
         simp (disch := decide) only [selOr_same hlt', selOr_other hlt', selOr_on d11, selOr_on d12]
        ·have d10 := rdD 10 hr
         have d13 := rdD 13 hr
         simp only [selOr_on d10, selOr_on d13]
         have d4 : listed.getD 4 false = true := upB hc (by kernel_rfl) d10
         refine wpOpIn_of rfl rfl ?_
         refine opIn_append_any _ (.tmp 54) (.tmp 57) rfl Vg.heap.size v54 (s.take i ++ [x]) rfl (q1.e10 d10 hl0) _ (i - i) (cap - i) (s.drop i) HV13.out.symm (by rw [List.length_drop, HM.out]) (fun e => by have := ((HOg.out.below q1.below).suf i (by have := HM.out; have := HIM.out; omega)).1 e; rw [HM.out] at this; exact this) ((HOg.out.below q1.below).suf i (by have := HM.out; have := HIM.out; omega)).2 (by rw [List.length_append, List.length_take, List.length_drop]; simp only [List.length_singleton]; have := HM.out; omega) q1.size ?_
         intro v' W2 ho hg hat
         refine hK _ _ ⟨v44, v48, v53, v54, v', ?_, q1.op14 hlt' d4 d10 hl0 ho hg⟩
         show Act.put _ (some 58) _ = _
         simp only [Act.put, List.setIfInBounds_toArray, List.set_cons_zero, List.set_cons_succ]
         simp (disch := decide) only [selOr_same hlt', selOr_other hlt', selOr_on d10, selOr_on d13]
        ·exact absurd rfl hne
  ·obtain rfl : k = n := by omega
   have ho := HO.out
   rw [List.take_of_length_le (by rw [HN.out]; exact Nat.le_refl _)] at ho
   have HO1 := Aside0.mk ho
   clear ho
   gi_wp2
   go_ret
   exact ⟨_, rfl, HO1.out.toR (fun _ _ => trivial), HB.out⟩
end Go.Proofs.Ytegdcnjjelgpjaa.P
namespace Go.Proofs.Ytegdcnjjelgpjaa.P
open Go.RowKit Go.Proofs.YtegdcnjjelgpjaaW.PrintWords Go.Proofs.YtegdcnjjelgpjaaW.PrintLast Go.Proofs.YtegdcnjjelgpjaaW.PrintMore
attribute [local go_sem] max2_int min2_int max_two min_two max_three min_three max_four min_four   -- for this text's walks alone
set_option linter.unusedVariables false
set_option linter.unusedSimpArgs false
def gooseneckref01_Sign.f (a0_0 : Int) (a0_1 : Int) (a1_0 : Int) (a1_1 : Int) (a2_0 : Int) (a2_1 : Int) : Option (Int) := if (wrap64 ((wrap64 ((wrap64 (a1_0 - a0_0)) * (wrap64 (a2_1 - a0_1)))) - (wrap64 ((wrap64 (a1_1 - a0_1)) * (wrap64 (a2_0 - a0_0)))))) > 0 then (some 1) else (if (wrap64 ((wrap64 ((wrap64 (a1_0 - a0_0)) * (wrap64 (a2_1 - a0_1)))) - (wrap64 ((wrap64 (a1_1 - a0_1)) * (wrap64 (a2_0 - a0_0)))))) < 0 then (some (-1)) else (some 0))
set_option maxHeartbeats 8000000 in
set_option maxRecDepth 100000 in
theorem gooseneckref01_Sign.calls (a0_0 : Int) (a0_1 : Int) (a1_0 : Int) (a1_1 : Int) (a2_0 : Int) (a2_1 : Int) (r : Int) (w : World) (h : gooseneckref01_Sign.f a0_0 a0_1 a1_0 a1_1 a2_0 a2_1 = some r) :
  Calls Try.prog 86 #[.agg #[.int .i64 a0_0, .int .i64 a0_1], .agg #[.int .i64 a1_0, .int .i64 a1_1], .agg #[.int .i64 a2_0, .int .i64 a2_1]] w fun e w' => e = .returned (.int .i64 r) ∧ Below w.heap.size w w' := by
 have hu23 := Try.underlying23
 have HB := Aside0.mk (Below.refl w.heap.size w)
 have H : (if (wrap64 ((wrap64 ((wrap64 (a1_0 - a0_0)) * (wrap64 (a2_1 - a0_1)))) - (wrap64 ((wrap64 (a1_1 - a0_1)) * (wrap64 (a2_0 - a0_0)))))) > 0 then (some 1) else (if (wrap64 ((wrap64 ((wrap64 (a1_0 - a0_0)) * (wrap64 (a2_1 - a0_1)))) - (wrap64 ((wrap64 (a1_1 - a0_1)) * (wrap64 (a2_0 - a0_0)))))) < 0 then (some (-1)) else (some 0))) = some r := h
 clear h
 by_cases c4 : (wrap64 ((wrap64 ((wrap64 (a1_0 - a0_0)) * (wrap64 (a2_1 - a0_1)))) - (wrap64 ((wrap64 (a1_1 - a0_1)) * (wrap64 (a2_0 - a0_0)))))) > 0
 ·rw [if_pos c4] at H
  have c4b0 : decide (0 < (wrap64 ((wrap64 ((wrap64 (a1_0 - a0_0)) * (wrap64 (a2_1 - a0_1)))) - (wrap64 ((wrap64 (a1_1 - a0_1)) * (wrap64 (a2_0 - a0_0))))))) = true := decide_eq_true c4
  clear c4
  obtain rfl := Option.some.inj H
  go_enter Try.func86, Try.ntmps86
  go_wp2_with (first | ((with_reducible refine gate_dst (N := 3) rfl ?_); refine boxE (N := 3) (cs := #[.int .i64 a0_0, .int .i64 a0_1]) (t := 23) ?_; intro gb101 hg w5 hbox hb; have n0_ := Aside0.mk (below_step (bB0 HB) hb); have BK101 := Aside0.mk (hbox); have GW101 := Aside0.mk (szB hg (below_size (bB0 HB))); have GE101 := GW101; clear HB; have HB := n0_; clear n0_; clear hb hbox hg) | ((with_reducible refine gate_dst (N := 4) rfl ?_); refine boxE (N := 4) (cs := #[.int .i64 a1_0, .int .i64 a1_1]) (t := 23) ?_; intro gb102 hg w6 hbox hb; have n0_ := Aside0.mk (blk_below (kB BK101) hb); have n1_ := Aside0.mk (below_step (bB1 HB GE101) hb); have BK102 := Aside0.mk (hbox); have GW102 := Aside0.mk (szB hg (below_size (bB1 HB GE101))); have GE102 := GW102; have NB101_102 := Aside0.mk (neA hg (blk_lt (kB BK101))); have NB102_101 := Aside0.mk (neB hg (blk_lt (kB BK101))); clear BK101; clear HB; have BK101 := n0_; have HB := n1_; clear n0_ n1_; clear hb hbox hg) | ((with_reducible refine gate_dst (N := 5) rfl ?_); refine boxE (N := 5) (cs := #[.int .i64 a2_0, .int .i64 a2_1]) (t := 23) ?_; intro gb103 hg w7 hbox hb; have n0_ := Aside0.mk (blk_below (kB BK101) hb); have n1_ := Aside0.mk (blk_below (kB BK102) hb); have n2_ := Aside0.mk (below_step (bB2 HB GE101 GE102) hb); have BK103 := Aside0.mk (hbox); have GW103 := Aside0.mk (szB hg (below_size (bB2 HB GE101 GE102))); have GE103 := GW103; have NB101_103 := Aside0.mk (neA hg (blk_lt (kB BK101))); have NB103_101 := Aside0.mk (neB hg (blk_lt (kB BK101))); have NB102_103 := Aside0.mk (neA hg (blk_lt (kB BK102))); have NB103_102 := Aside0.mk (neB hg (blk_lt (kB BK102))); clear BK101; clear BK102; clear HB; have BK101 := n0_; have BK102 := n1_; have HB := n2_; clear n0_ n1_ n2_; clear hb hbox hg; have hnb8 := NB102_101.out; have hnc8 := NB101_102.out; have hnb9 := NB102_103.out; have hnc9 := NB103_102.out; have hcz10_0 : w7.cell? ⟨gb102, 0, none⟩ = some (.int .i64 a1_0) := (blk_cell BK102.out 0).trans rfl; have hcz10_1 : w7.cell? ⟨gb102, 1, none⟩ = some (.int .i64 a1_1) := (blk_cell BK102.out 1).trans rfl; have hfz10_0 := blk_frozen BK102.out 0; have hfz10_1 := blk_frozen BK102.out 1; have hnb11 := NB101_103.out; have hnc11 := NB103_101.out; have hcz12_0 : w7.cell? ⟨gb101, 0, none⟩ = some (.int .i64 a0_0) := (blk_cell BK101.out 0).trans rfl; have hcz12_1 : w7.cell? ⟨gb101, 1, none⟩ = some (.int .i64 a0_1) := (blk_cell BK101.out 1).trans rfl; have hfz12_0 := blk_frozen BK101.out 0; have hfz12_1 := blk_frozen BK101.out 1; have hcz13_0 : w7.cell? ⟨gb103, 0, none⟩ = some (.int .i64 a2_0) := (blk_cell BK103.out 0).trans rfl; have hcz13_1 : w7.cell? ⟨gb103, 1, none⟩ = some (.int .i64 a2_1) := (blk_cell BK103.out 1).trans rfl; have hfz13_0 := blk_frozen BK103.out 0; have hfz13_1 := blk_frozen BK103.out 1))
  go_ret
  exact ⟨eB, bB3 HB GE101 GE102 GE103⟩
 ·rw [if_neg c4] at H
  have c4b0 : decide (0 < (wrap64 ((wrap64 ((wrap64 (a1_0 - a0_0)) * (wrap64 (a2_1 - a0_1)))) - (wrap64 ((wrap64 (a1_1 - a0_1)) * (wrap64 (a2_0 - a0_0))))))) = false := decide_eq_false c4
  clear c4
  by_cases c14 : (wrap64 ((wrap64 ((wrap64 (a1_0 - a0_0)) * (wrap64 (a2_1 - a0_1)))) - (wrap64 ((wrap64 (a1_1 - a0_1)) * (wrap64 (a2_0 - a0_0)))))) < 0
  ·rw [if_pos c14] at H
   have c14b0 : decide ((wrap64 ((wrap64 ((wrap64 (a1_0 - a0_0)) * (wrap64 (a2_1 - a0_1)))) - (wrap64 ((wrap64 (a1_1 - a0_1)) * (wrap64 (a2_0 - a0_0)))))) < 0) = true := decide_eq_true c14
   clear c14
   obtain rfl := Option.some.inj H
   go_enter Try.func86, Try.ntmps86
   go_wp2_with (first | ((with_reducible refine gate_dst (N := 3) rfl ?_); refine boxE (N := 3) (cs := #[.int .i64 a0_0, .int .i64 a0_1]) (t := 23) ?_; intro gb101 hg w15 hbox hb; have n0_ := Aside0.mk (below_step (bB0 HB) hb); have BK101 := Aside0.mk (hbox); have GW101 := Aside0.mk (szB hg (below_size (bB0 HB))); have GE101 := GW101; clear HB; have HB := n0_; clear n0_; clear hb hbox hg) | ((with_reducible refine gate_dst (N := 4) rfl ?_); refine boxE (N := 4) (cs := #[.int .i64 a1_0, .int .i64 a1_1]) (t := 23) ?_; intro gb102 hg w16 hbox hb; have n0_ := Aside0.mk (blk_below (kB BK101) hb); have n1_ := Aside0.mk (below_step (bB1 HB GE101) hb); have BK102 := Aside0.mk (hbox); have GW102 := Aside0.mk (szB hg (below_size (bB1 HB GE101))); have GE102 := GW102; have NB101_102 := Aside0.mk (neA hg (blk_lt (kB BK101))); have NB102_101 := Aside0.mk (neB hg (blk_lt (kB BK101))); clear BK101; clear HB; have BK101 := n0_; have HB := n1_; clear n0_ n1_; clear hb hbox hg) | ((with_reducible refine gate_dst (N := 5) rfl ?_); refine boxE (N := 5) (cs := #[.int .i64 a2_0, .int .i64 a2_1]) (t := 23) ?_; intro gb103 hg w17 hbox hb; have n0_ := Aside0.mk (blk_below (kB BK101) hb); have n1_ := Aside0.mk (blk_below (kB BK102) hb); have n2_ := Aside0.mk (below_step (bB2 HB GE101 GE102) hb); have BK103 := Aside0.mk (hbox); have GW103 := Aside0.mk (szB hg (below_size (bB2 HB GE101 GE102))); have GE103 := GW103; have NB101_103 := Aside0.mk (neA hg (blk_lt (kB BK101))); have NB103_101 := Aside0.mk (neB hg (blk_lt (kB BK101))); have NB102_103 := Aside0.mk (neA hg (blk_lt (kB BK102))); have NB103_102 := Aside0.mk (neB hg (blk_lt (kB BK102))); clear BK101; clear BK102; clear HB; have BK101 := n0_; have BK102 := n1_; have HB := n2_; clear n0_ n1_ n2_; clear hb hbox hg; have hnb18 := NB102_101.out; have hnc18 := NB101_102.out; have hnb19 := NB102_103.out; have hnc19 := NB103_102.out; have hcz20_0 : w17.cell? ⟨gb102, 0, none⟩ = some (.int .i64 a1_0) := (blk_cell BK102.out 0).trans rfl; have hcz20_1 : w17.cell? ⟨gb102, 1, none⟩ = some (.int .i64 a1_1) := (blk_cell BK102.out 1).trans rfl; have hfz20_0 := blk_frozen BK102.out 0; have hfz20_1 := blk_frozen BK102.out 1; have hnb21 := NB101_103.out; have hnc21 := NB103_101.out; have hcz22_0 : w17.cell? ⟨gb101, 0, none⟩ = some (.int .i64 a0_0) := (blk_cell BK101.out 0).trans rfl; have hcz22_1 : w17.cell? ⟨gb101, 1, none⟩ = some (.int .i64 a0_1) := (blk_cell BK101.out 1).trans rfl; have hfz22_0 := blk_frozen BK101.out 0; have hfz22_1 := blk_frozen BK101.out 1; have hcz23_0 : w17.cell? ⟨gb103, 0, none⟩ = some (.int .i64 a2_0) := (blk_cell BK103.out 0).trans rfl; have hcz23_1 : w17.cell? ⟨gb103, 1, none⟩ = some (.int .i64 a2_1) := (blk_cell BK103.out 1).trans rfl; have hfz23_0 := blk_frozen BK103.out 0; have hfz23_1 := blk_frozen BK103.out 1))
   go_ret
   exact ⟨eB, bB3 HB GE101 GE102 GE103⟩
  ·rw [if_neg c14] at H
   have c14b0 : decide ((wrap64 ((wrap64 ((wrap64 (a1_0 - a0_0)) * (wrap64 (a2_1 - a0_1)))) - (wrap64 ((wrap64 (a1_1 - a0_1)) * (wrap64 (a2_0 - a0_0)))))) < 0) = false := decide_eq_false c14
   clear c14
   obtain rfl := Option.some.inj H
   go_enter Try.func86, Try.ntmps86
   go_wp2_with (first | ((with_reducible refine gate_dst (N := 3) rfl ?_); refine boxE (N := 3) (cs := #[.int .i64 a0_0, .int .i64 a0_1]) (t := 23) ?_; intro gb101 hg w24 hbox hb; have n0_ := Aside0.mk (below_step (bB0 HB) hb); have BK101 := Aside0.mk (hbox); have GW101 := Aside0.mk (szB hg (below_size (bB0 HB))); have GE101 := GW101; clear HB; have HB := n0_; clear n0_; clear hb hbox hg) | ((with_reducible refine gate_dst (N := 4) rfl ?_); refine boxE (N := 4) (cs := #[.int .i64 a1_0, .int .i64 a1_1]) (t := 23) ?_; intro gb102 hg w25 hbox hb; have n0_ := Aside0.mk (blk_below (kB BK101) hb); have n1_ := Aside0.mk (below_step (bB1 HB GE101) hb); have BK102 := Aside0.mk (hbox); have GW102 := Aside0.mk (szB hg (below_size (bB1 HB GE101))); have GE102 := GW102; have NB101_102 := Aside0.mk (neA hg (blk_lt (kB BK101))); have NB102_101 := Aside0.mk (neB hg (blk_lt (kB BK101))); clear BK101; clear HB; have BK101 := n0_; have HB := n1_; clear n0_ n1_; clear hb hbox hg) | ((with_reducible refine gate_dst (N := 5) rfl ?_); refine boxE (N := 5) (cs := #[.int .i64 a2_0, .int .i64 a2_1]) (t := 23) ?_; intro gb103 hg w26 hbox hb; have n0_ := Aside0.mk (blk_below (kB BK101) hb); have n1_ := Aside0.mk (blk_below (kB BK102) hb); have n2_ := Aside0.mk (below_step (bB2 HB GE101 GE102) hb); have BK103 := Aside0.mk (hbox); have GW103 := Aside0.mk (szB hg (below_size (bB2 HB GE101 GE102))); have GE103 := GW103; have NB101_103 := Aside0.mk (neA hg (blk_lt (kB BK101))); have NB103_101 := Aside0.mk (neB hg (blk_lt (kB BK101))); have NB102_103 := Aside0.mk (neA hg (blk_lt (kB BK102))); have NB103_102 := Aside0.mk (neB hg (blk_lt (kB BK102))); clear BK101; clear BK102; clear HB; have BK101 := n0_; have BK102 := n1_; have HB := n2_; clear n0_ n1_ n2_; clear hb hbox hg; have hnb27 := NB102_101.out; have hnc27 := NB101_102.out; have hnb28 := NB102_103.out; have hnc28 := NB103_102.out; have hcz29_0 : w26.cell? ⟨gb102, 0, none⟩ = some (.int .i64 a1_0) := (blk_cell BK102.out 0).trans rfl; have hcz29_1 : w26.cell? ⟨gb102, 1, none⟩ = some (.int .i64 a1_1) := (blk_cell BK102.out 1).trans rfl; have hfz29_0 := blk_frozen BK102.out 0; have hfz29_1 := blk_frozen BK102.out 1; have hnb30 := NB101_103.out; have hnc30 := NB103_101.out; have hcz31_0 : w26.cell? ⟨gb101, 0, none⟩ = some (.int .i64 a0_0) := (blk_cell BK101.out 0).trans rfl; have hcz31_1 : w26.cell? ⟨gb101, 1, none⟩ = some (.int .i64 a0_1) := (blk_cell BK101.out 1).trans rfl; have hfz31_0 := blk_frozen BK101.out 0; have hfz31_1 := blk_frozen BK101.out 1; have hcz32_0 : w26.cell? ⟨gb103, 0, none⟩ = some (.int .i64 a2_0) := (blk_cell BK103.out 0).trans rfl; have hcz32_1 : w26.cell? ⟨gb103, 1, none⟩ = some (.int .i64 a2_1) := (blk_cell BK103.out 1).trans rfl; have hfz32_0 := blk_frozen BK103.out 0; have hfz32_1 := blk_frozen BK103.out 1))
   go_ret
   exact ⟨eB, bB3 HB GE101 GE102 GE103⟩
mutual
def gooseneckref01_side.l0 : Nat → List (S23) → List (S23) → Int → Option ((List (S23)))
 | 0, _, _, _ => none
 | k + 1, x0, x3, x4 => if x4 < (x0.length : Int) then (gooseneckref01_side.l1 k x0 x3 x4) else (some x3)
def gooseneckref01_side.l1 : Nat → List (S23) → List (S23) → Int → Option ((List (S23)))
 | 0, _, _, _ => none
 | k + 1, x0, x3, x4 => if (x3.length : Int) ≥ 2 then (if 0 ≤ (wrap64 ((x3.length : Int) - 2)) then (if (wrap64 ((x3.length : Int) - 2)) < (x3.length : Int) then (if 0 ≤ (wrap64 ((x3.length : Int) - 1)) then (if (wrap64 ((x3.length : Int) - 1)) < (x3.length : Int) then (if 0 ≤ x4 then (if x4 < (x0.length : Int) then ((gooseneckref01_Sign.f ((rd_T23 x3 (wrap64 ((x3.length : Int) - 2))).f0) ((rd_T23 x3 (wrap64 ((x3.length : Int) - 2))).f1) ((rd_T23 x3 (wrap64 ((x3.length : Int) - 1))).f0) ((rd_T23 x3 (wrap64 ((x3.length : Int) - 1))).f1) ((rd_T23 x0 x4).f0) ((rd_T23 x0 x4).f1)).bind fun t104 => (if t104 ≤ 0 then (if (wrap64 ((x3.length : Int) - 1)) ≤ (x3.length : Int) then (gooseneckref01_side.l1 k x0 (x3.take ((wrap64 ((x3.length : Int) - 1)) : Int).toNat) x4) else (none)) else ((some (([] : List (S23)) : List (S23))).bind fun y108 => (if y108.length + x3.length < 8796093022208 then ((some (y108 ++ x3 : List (S23))).bind fun y111 => ((some (([(⟨(rd_T23 x0 x4).f0, (rd_T23 x0 x4).f1⟩ : S23)] : List (S23)) : List (S23))).bind fun y115 => (if y111.length + y115.length < 8796093022208 then (gooseneckref01_side.l0 k x0 (y111 ++ y115) (wrap64 (x4 + 1))) else (none)))) else (none))))) else (none)) else (none)) else (none)) else (none)) else (none)) else (none)) else ((some (([] : List (S23)) : List (S23))).bind fun y121 => (if y121.length + x3.length < 8796093022208 then ((some (y121 ++ x3 : List (S23))).bind fun y124 => (if 0 ≤ x4 then (if x4 < (x0.length : Int) then ((some (([(⟨(rd_T23 x0 x4).f0, (rd_T23 x0 x4).f1⟩ : S23)] : List (S23)) : List (S23))).bind fun y128 => (if y124.length + y128.length < 8796093022208 then (gooseneckref01_side.l0 k x0 (y124 ++ y128) (wrap64 (x4 + 1))) else (none))) else (none)) else (none))) else (none)))
end
def gooseneckref01_side.f (k : Nat) (l0 : List (S23)) : Option ((List (S23))) := gooseneckref01_side.l0 k l0 ([] : List (S23)) 0
theorem gooseneckref01_side.mono_l : ∀ k, (∀ y0 y1 y2, LeO (gooseneckref01_side.l0 k y0 y1 y2) (gooseneckref01_side.l0 (k + 1) y0 y1 y2)) ∧ (∀ y0 y1 y2, LeO (gooseneckref01_side.l1 k y0 y1 y2) (gooseneckref01_side.l1 (k + 1) y0 y1 y2))
 | 0 => ⟨fun _ _ _ r h => by simp [gooseneckref01_side.l0] at h, fun _ _ _ r h => by simp [gooseneckref01_side.l1] at h⟩
 | k + 1 => by
  obtain ⟨ih0, ih1⟩ := gooseneckref01_side.mono_l k
  refine ⟨?_, ?_⟩
  ·intro y0 y1 y2
   unfold gooseneckref01_side.l0
   repeat' first
   | (with_reducible exact ih0 _ _ _)
   | (with_reducible exact ih1 _ _ _)
   | (with_reducible exact LeO.refl _)
   | (with_reducible exact LeO.none _)
   | (with_reducible refine LeO.ite ?_ ?_)
   | (with_reducible refine LeO.bind ?_ (fun _ => ?_))
   | exact ih0 _ _ _
   | exact ih1 _ _ _
   | exact LeO.none _
   | refine LeO.ite ?_ ?_
   | refine LeO.bind ?_ (fun _ => ?_)
  ·intro y0 y1 y2
   unfold gooseneckref01_side.l1
   repeat' first
   | (with_reducible exact ih0 _ _ _)
   | (with_reducible exact ih1 _ _ _)
   | (with_reducible exact LeO.refl _)
   | (with_reducible exact LeO.none _)
   | (with_reducible refine LeO.ite ?_ ?_)
   | (with_reducible refine LeO.bind ?_ (fun _ => ?_))
   | exact ih0 _ _ _
   | exact ih1 _ _ _
   | exact LeO.none _
   | refine LeO.ite ?_ ?_
   | refine LeO.bind ?_ (fun _ => ?_)
theorem gooseneckref01_side.mono : ∀ a0 k, LeO (gooseneckref01_side.f k a0) (gooseneckref01_side.f (k + 1) a0) := by
 intro a0 k
 obtain ⟨ih0, ih1⟩ := gooseneckref01_side.mono_l k
 unfold gooseneckref01_side.f
 repeat' first
   | (with_reducible exact ih0 _ _ _)
   | (with_reducible exact ih1 _ _ _)
   | (with_reducible exact LeO.refl _)
   | (with_reducible exact LeO.none _)
   | (with_reducible refine LeO.ite ?_ ?_)
   | (with_reducible refine LeO.bind ?_ (fun _ => ?_))
   | exact ih0 _ _ _
   | exact ih1 _ _ _
   | exact LeO.none _
   | refine LeO.ite ?_ ?_
   | refine LeO.bind ?_ (fun _ => ?_)
def gooseneckref01_side.T5 : Bool × List (List Nat × List Nat) := (true, [([], []), ([0], [0]), ([1], [1]), ([2], [2]), ([3], [3]), ([3], [3]), ([5, 3], [3, 5]), ([6, 3], [3, 6]), ([4, 7, 3], [3, 4, 7]), ([8, 3], [3, 8]), ([3], [3]), ([3], [3]), ([11, 3], [3, 11]), ([12, 3], [3, 12]), ([10, 13, 3], [3, 10, 13]), ([14, 3], [3, 14]), ([3], [3]), ([3], [3]), ([16, 17, 3], [3, 16, 17]), ([18, 3], [3, 18]), ([9, 15, 19, 3, 3], [3, 9, 15, 19]), ([20, 3], [3, 20]), ([3, 21], [3, 21])])
def gooseneckref01_side.B5 : List Nat := [0, 1, 3, 7, 15, 15, 47, 111, 255, 511, 15, 15, 2063, 6159, 15375, 31759, 15, 15, 196623, 458767, 1048575, 2097151, 4194303]
theorem gooseneckref01_side.tab5 : rtab .any (opsOf Try.f119 5) = gooseneckref01_side.T5 := by kernel_rfl
theorem gooseneckref01_side.bits5 : waitsOk gooseneckref01_side.T5.2 gooseneckref01_side.B5 = true := by kernel_rfl
def gooseneckref01_side.T7 : Bool × List (List Nat × List Nat) := (true, [([], []), ([], []), ([0, 1], [0, 1]), ([], []), ([], []), ([3, 4], [3, 4]), ([5], [5]), ([6], [6]), ([2, 7, 2], [2, 7]), ([8, 8, 0, 1, 2, 3, 4, 5, 6, 7, 8], [1, 8])])
def gooseneckref01_side.B7 : List Nat := [0, 0, 3, 0, 0, 24, 56, 120, 255, 511]
theorem gooseneckref01_side.tab7 : rtab .any (opsOf Try.f119 7) = gooseneckref01_side.T7 := by kernel_rfl
theorem gooseneckref01_side.bits7 : waitsOk gooseneckref01_side.T7.2 gooseneckref01_side.B7 = true := by kernel_rfl
set_option maxHeartbeats 8000000 in
set_option maxRecDepth 100000 in
theorem gooseneckref01_side.calls (k : Nat) (A0 : Option Addr) (c0 : Nat) (l0 : List (S23)) (r : List (S23)) (w : World) (hr0 : Kd.C k23 w A0 l0.length l0) (hc0 : l0.length ≤ c0) (h : gooseneckref01_side.f k l0 = some r) :
  Calls Try.prog 119 #[.slice A0 l0.length c0] w fun e w' => ∃ v0_ : Value, e = .returned (v0_) ∧ Kd.R k23 23 w' w.heap.size (fun _ => True) v0_ r ∧ Below w.heap.size w w' := by
 have hu23 := Try.underlying23
 have HR0 := Aside0.mk hr0
 have HC0 := Aside0.mk hc0
 clear hr0 hc0
 have HB := Aside0.mk (Below.refl w.heap.size w)
 have H : (gooseneckref01_side.l0 k l0 ([] : List (S23)) 0) = some r := h
 clear h
 have H' := Aside0.mk H
 clear H
 go_enter Try.func119, Try.ntmps119
 go_wp2
 go_loopg [3, 4] k (fun kq v3 v4 w' => ∃ (x3_1 : List (S23)) (x4_1 : Int), v4 = .int .i64 x4_1 ∧ Aside0 (gooseneckref01_side.l0 kq l0 x3_1 x4_1 = some r) ∧ Aside0 (kq ≤ k) ∧ Aside0 (Kd.R k23 23 w' w.heap.size (fun _ => True) v3 x3_1) ∧ Aside0 (Below w.heap.size w w'))
 case atStart => exact ⟨(([] : List (S23))), (0), sB, H', ⟨Nat.le_refl _⟩, ⟨by first | exact Kd.R_nil _ _ _ _ _ | exact Kd.N_nil _ _ _ _ _ | exact Kd.V_nil _ _ _ _ _ | exact Kd.Q_nil _ _ _ _ _ | exact Kd.S_nil _ _ _ _ _⟩, ⟨bB0 HB⟩⟩
 case round =>
  clear H'
  try clear c1
  obtain ⟨x3_1, x4_1, rfl, HA, HK1, HO_3, HB⟩ := hrel
  cases gk with
  | zero => exact absurd HA.out (by simp [gooseneckref01_side.l0])
  | succ k1 =>
   have H := HA.out
   clear HA
   simp only [gooseneckref01_side.l0] at H
   by_cases c2 : x4_1 < (l0.length : Int)
   ·rw [if_pos c2] at H
    have c2b0 : decide (x4_1 < (l0.length : Int)) = true := decide_eq_true c2
    clear c2
    have H' := Aside0.mk H
    clear H
    go_wp2
    go_loopg [3] k1 (fun kq v3 w' => ∃ (x3_2 : List (S23)), Aside0 (gooseneckref01_side.l1 kq l0 x3_2 x4_1 = some r) ∧ Aside0 (kq ≤ k1) ∧ Aside0 (Kd.R k23 23 w' w.heap.size (fun _ => True) v3 x3_2) ∧ Aside0 (Below w.heap.size w w'))
    case atStart => exact ⟨(x3_1), H', ⟨Nat.le_refl _⟩, ⟨rB HO_3⟩, ⟨bB0 HB⟩⟩
    case round =>
     clear H'
     try clear c1
     try clear c2
     try clear c2b0
     try clear p2
     obtain ⟨x3_2, HA, HK2, HO_3, HB⟩ := hrel
     cases gk with
     | zero => exact absurd HA.out (by simp [gooseneckref01_side.l1])
     | succ k2 =>
      have H := HA.out
      clear HA
      simp only [gooseneckref01_side.l1] at H
      by_cases c3 : (x3_2.length : Int) ≥ 2
      ·rw [if_pos c3] at H
       have c3b0 : decide (2 ≤ (x3_2.length : Int)) = true := decide_eq_true c3
       have c3b1 : decide (2 ≤ x3_2.length) = true := decide_eq_true (by omega)
       clear c3
       obtain ⟨ji4, hji4⟩ : ∃ j_ : Int, (wrap64 ((x3_2.length : Int) - 2)) = j_ := ⟨_, rfl⟩
       replace H : (if 0 ≤ (ji4) then (if (ji4) < (x3_2.length : Int) then (if 0 ≤ (wrap64 ((x3_2.length : Int) - 1)) then (if (wrap64 ((x3_2.length : Int) - 1)) < (x3_2.length : Int) then (if 0 ≤ x4_1 then (if x4_1 < (l0.length : Int) then ((gooseneckref01_Sign.f ((rd_T23 x3_2 (ji4)).f0) ((rd_T23 x3_2 (ji4)).f1) ((rd_T23 x3_2 (wrap64 ((x3_2.length : Int) - 1))).f0) ((rd_T23 x3_2 (wrap64 ((x3_2.length : Int) - 1))).f1) ((rd_T23 l0 x4_1).f0) ((rd_T23 l0 x4_1).f1)).bind fun t104 => (if t104 ≤ 0 then (if (wrap64 ((x3_2.length : Int) - 1)) ≤ (x3_2.length : Int) then (gooseneckref01_side.l1 k2 l0 (x3_2.take ((wrap64 ((x3_2.length : Int) - 1)) : Int).toNat) x4_1) else (none)) else ((some (([] : List (S23)) : List (S23))).bind fun y108 => (if y108.length + x3_2.length < 8796093022208 then ((some (y108 ++ x3_2 : List (S23))).bind fun y111 => ((some (([(⟨(rd_T23 l0 x4_1).f0, (rd_T23 l0 x4_1).f1⟩ : S23)] : List (S23)) : List (S23))).bind fun y115 => (if y111.length + y115.length < 8796093022208 then (gooseneckref01_side.l0 k2 l0 (y111 ++ y115) (wrap64 (x4_1 + 1))) else (none)))) else (none))))) else (none)) else (none)) else (none)) else (none)) else (none)) else (none)) = some r := by first | (rw [hji4] at H; exact H) | (simp only [hji4] at H ⊢; exact H)
       have hji4w : (IntKind.i64.wrap ((x3_2.length : Int) - 2)) = ji4 := (i64_w _).trans hji4
       by_cases c5 : 0 ≤ (ji4)
       ·rw [if_pos c5] at H
        have c5b0 : decide (0 ≤ (ji4)) = true := decide_eq_true c5
        clear c5
        by_cases c6 : (ji4) < (x3_2.length : Int)
        ·rw [if_pos c6] at H
         have c6b0 : decide ((ji4) < (x3_2.length : Int)) = true := decide_eq_true c6
         clear c6
         obtain ⟨ji7, hji7⟩ : ∃ j_ : Int, (wrap64 ((x3_2.length : Int) - 1)) = j_ := ⟨_, rfl⟩
         replace H : (if 0 ≤ (ji7) then (if (ji7) < (x3_2.length : Int) then (if 0 ≤ x4_1 then (if x4_1 < (l0.length : Int) then ((gooseneckref01_Sign.f ((rd_T23 x3_2 (ji4)).f0) ((rd_T23 x3_2 (ji4)).f1) ((rd_T23 x3_2 (ji7)).f0) ((rd_T23 x3_2 (ji7)).f1) ((rd_T23 l0 x4_1).f0) ((rd_T23 l0 x4_1).f1)).bind fun t104 => (if t104 ≤ 0 then (if (ji7) ≤ (x3_2.length : Int) then (gooseneckref01_side.l1 k2 l0 (x3_2.take ((ji7) : Int).toNat) x4_1) else (none)) else ((some (([] : List (S23)) : List (S23))).bind fun y108 => (if y108.length + x3_2.length < 8796093022208 then ((some (y108 ++ x3_2 : List (S23))).bind fun y111 => ((some (([(⟨(rd_T23 l0 x4_1).f0, (rd_T23 l0 x4_1).f1⟩ : S23)] : List (S23)) : List (S23))).bind fun y115 => (if y111.length + y115.length < 8796093022208 then (gooseneckref01_side.l0 k2 l0 (y111 ++ y115) (wrap64 (x4_1 + 1))) else (none)))) else (none))))) else (none)) else (none)) else (none)) else (none)) = some r := by first | (rw [hji7] at H; exact H) | (simp only [hji7] at H ⊢; exact H)
         have hji7w : (IntKind.i64.wrap ((x3_2.length : Int) - 1)) = ji7 := (i64_w _).trans hji7
         by_cases c8 : 0 ≤ (ji7)
         ·rw [if_pos c8] at H
          have c8b0 : decide (0 ≤ (ji7)) = true := decide_eq_true c8
          clear c8
          by_cases c9 : (ji7) < (x3_2.length : Int)
          ·rw [if_pos c9] at H
           have c9b0 : decide ((ji7) < (x3_2.length : Int)) = true := decide_eq_true c9
           clear c9
           by_cases c10 : 0 ≤ x4_1
           ·rw [if_pos c10] at H
            have c10b0 : decide (0 ≤ x4_1) = true := decide_eq_true c10
            clear c10
            by_cases c11 : x4_1 < (l0.length : Int)
            ·rw [if_pos c11] at H
             have c11b0 : decide (x4_1 < (l0.length : Int)) = true := decide_eq_true c11
             clear c11
             replace H := Option.bind_eq_some_iff.mp H
             obtain ⟨t104, A120, H⟩ := H
             replace H : (if t104 ≤ 0 then (if (ji7) ≤ (x3_2.length : Int) then (gooseneckref01_side.l1 k2 l0 (x3_2.take ((ji7) : Int).toNat) x4_1) else (none)) else ((some (([] : List (S23)) : List (S23))).bind fun y108 => (if y108.length + x3_2.length < 8796093022208 then ((some (y108 ++ x3_2 : List (S23))).bind fun y111 => ((some (([(⟨(rd_T23 l0 x4_1).f0, (rd_T23 l0 x4_1).f1⟩ : S23)] : List (S23)) : List (S23))).bind fun y115 => (if y111.length + y115.length < 8796093022208 then (gooseneckref01_side.l0 k2 l0 (y111 ++ y115) (wrap64 (x4_1 + 1))) else (none)))) else (none)))) = some r := H
             have A12 := Aside0.mk A120
             clear A120
             by_cases c13 : t104 ≤ 0
             ·rw [if_pos c13] at H
              have c13b0 : decide (t104 ≤ 0) = true := decide_eq_true c13
              clear c13
              by_cases c14 : (ji7) ≤ (x3_2.length : Int)
              ·rw [if_pos c14] at H
               have c14b0 := eq_true c14
               have c14b1 : decide ((ji7) ≤ (x3_2.length : Int)) = true := decide_eq_true c14
               clear c14
               obtain ⟨y105, hy105⟩ : ∃ y_ : List (S23), y_ = (x3_2.take ((ji7) : Int).toNat) := ⟨_, rfl⟩
               replace H : (gooseneckref01_side.l1 k2 l0 y105 x4_1) = some r := by first | (rw [hy105]; with_reducible exact H) | (have H2_ := (Option.bind_some _ _).symm.trans H; rw [hy105]; with_reducible exact H2_) | (have H2_ := (Option.bind_some _ _).symm.trans H; with_reducible exact H2_) | with_reducible exact H | (rw [hy105]; exact H) | exact H
               have Ny105 := Aside0.mk hy105
               clear hy105
               have H' := Aside0.mk H
               clear H
               try go_wp2
               replace HO_3 := Aside0.mk (Kd.R_drew HO_3.out)
               replace HB := Aside0.mk (below_drew1 HB.out)
               obtain ⟨Ao16, co16, eo16⟩ := Kd.R_slice HO_3.out
               (first | subst eo16 | (injection eo16 with f1_ f2_ f3_; have f4_ := f1_.symm; have f5_ := f3_.symm; clear f1_ f2_ f3_; subst f4_; subst f5_))
               have p101 : 0 ≤ ((ji4) : Int) := oB
               have q101 : (ji4) < (x3_2.length : Int) := oB
               obtain ⟨ad101, e101, hx101_0, hx101_1⟩ := at_T23 (Kd.R_reads' HO_3.out).2.2 (ji4) p101 q101
               cases e101
               replace p101 := eq_true p101
               replace q101 := eq_true q101
               have p102 : 0 ≤ ((ji7) : Int) := oB
               have q102 : (ji7) < (x3_2.length : Int) := oB
               obtain ⟨ad102, e102, hx102_0, hx102_1⟩ := at_T23 (Kd.R_reads' HO_3.out).2.2 (ji7) p102 q102
               obtain rfl : ad101 = ad102 := (by injection e102)
               replace p102 := eq_true p102
               replace q102 := eq_true q102
               have p103 : 0 ≤ (x4_1 : Int) := oB
               have q103 : x4_1 < (l0.length : Int) := oB
               obtain ⟨ad103, e103, hx103_0, hx103_1⟩ := at_T23 HR0.out x4_1 p103 q103
               have hw103_1 := hx103_1
               have hw103_0 := hx103_0
               cases e103
               replace hx103_0 := (HB.out.cell (World.block_lt_of_cell? w _ hx103_0)).trans hx103_0
               replace hx103_1 := (HB.out.cell (World.block_lt_of_cell? w _ hx103_1)).trans hx103_1
               replace p103 := eq_true p103
               replace q103 := eq_true q103
               refine start_ (n := 23) (S := fun w' => w'.cell? (ad101.add (((ji4)).toNat * 2)) = some (.int .i64 ((rd_T23 x3_2 (ji4)).f0)) ∧ w'.cell? ⟨(ad101.add (((ji4)).toNat * 2)).block, (ad101.add (((ji4)).toNat * 2)).off + 1, none⟩ = some (.int .i64 ((rd_T23 x3_2 (ji4)).f1)) ∧ w'.cell? (ad101.add (((ji7)).toNat * 2)) = some (.int .i64 ((rd_T23 x3_2 (ji7)).f0)) ∧ w'.cell? ⟨(ad101.add (((ji7)).toNat * 2)).block, (ad101.add (((ji7)).toNat * 2)).off + 1, none⟩ = some (.int .i64 ((rd_T23 x3_2 (ji7)).f1)) ∧ w'.cell? (ad103.add ((x4_1).toNat * 2)) = some (.int .i64 ((rd_T23 l0 x4_1).f0)) ∧ w'.cell? ⟨(ad103.add ((x4_1).toNat * 2)).block, (ad103.add ((x4_1).toNat * 2)).off + 1, none⟩ = some (.int .i64 ((rd_T23 l0 x4_1).f1))) (ds := []) #[false, false, false, false, false, false, false, false, false, false, false, false, false, false, false, false, false, false, false, false, false, false, false] (by kernel_rfl) rfl rfl ⟨hx101_0, hx101_1, hx102_0, hx102_1, ((HB.out.cell (World.block_lt_of_cell? w _ hw103_0)).trans hw103_0), ((HB.out.cell (World.block_lt_of_cell? w _ hw103_1)).trans hw103_1)⟩ (fun hHeld => ?_); refine with_tabW gooseneckref01_side.tab5 gooseneckref01_side.bits5 (fun HT_ HW_ => ?_)
               generalize wr.drew = w15 at HO_3 HB hx101_0 hx101_1 hx102_0 hx102_1 hx103_0 hx103_1 hHeld ⊢
               refine pS 0 (some 11) HT_ ?_
               refine pS 1 (some 12) HT_ ?_
               refine pS 2 (some 13) HT_ ?_
               refine pS 3 (some 14) HT_ ?_
               refine pS 4 (some 15) HT_ ?_
               refine pS 5 (some 16) HT_ ?_
               refine pS 6 (some 17) HT_ ?_
               refine pS 7 (some 18) HT_ ?_
               refine pS 8 (some 19) HT_ ?_
               refine pS 10 (some 21) HT_ ?_
               refine pS 11 (some 22) HT_ ?_
               refine pS 12 (some 23) HT_ ?_
               refine pS 13 (some 24) HT_ ?_
               refine pS 14 (some 25) HT_ ?_
               refine pS 16 (some 27) HT_ ?_
               refine pS 17 (some 28) HT_ ?_
               refine pS 18 (some 29) HT_ ?_
               refine tS 9 (some 20) rfl rfl HT_ HW_ hHeld (by rintro w' ⟨s0, s1, s2, s3, s4, s5⟩; go_simp; with_reducible rfl) ?_
               refine tS 15 (some 26) rfl rfl HT_ HW_ hHeld (by rintro w' ⟨s0, s1, s2, s3, s4, s5⟩; go_simp; with_reducible rfl) ?_
               refine tS 19 (some 30) rfl rfl HT_ HW_ hHeld (by rintro w' ⟨s0, s1, s2, s3, s4, s5⟩; go_simp; with_reducible rfl) ?_
               refine one_ (i := 20) (N := some 31) #[true, true, true, true, true, true, true, true, true, true, true, true, true, true, true, true, true, true, true, true, true, false, false] rfl rfl (one_of HT_.out (by kernel_rfl)) (by decide) (fun K hK => ?_)
               refine goes_ Try.func86 (by kernel_rfl) rfl #[.agg #[.int .i64 ((rd_T23 x3_2 (ji4)).f0), .int .i64 ((rd_T23 x3_2 (ji4)).f1)], .agg #[.int .i64 ((rd_T23 x3_2 (ji7)).f0), .int .i64 ((rd_T23 x3_2 (ji7)).f1)], .agg #[.int .i64 ((rd_T23 l0 x4_1).f0), .int .i64 ((rd_T23 l0 x4_1).f1)]] (by rfl) rfl rfl (by (try simp only [List.map_toArray, List.map_cons, List.map_nil]); first | done | (simp only [hji4, hji7]; rfl) | rfl | (simp only [List.length_drop, List.length_take]; rfl)) ?_
               with_reducible refine (gooseneckref01_Sign.calls ((rd_T23 x3_2 (ji4)).f0) ((rd_T23 x3_2 (ji4)).f1) ((rd_T23 x3_2 (ji7)).f0) ((rd_T23 x3_2 (ji7)).f1) ((rd_T23 l0 x4_1).f0) ((rd_T23 l0 x4_1).f1) t104 _ A12.out).mono ?_
               rintro e w17 ⟨rfl, hb⟩
               have HS0_ := (hb.cell (World.block_lt_of_cell? _ _ (hHeld.1))).trans (hHeld.1)
               have HS1_ := (hb.cell (World.block_lt_of_cell? _ _ (hHeld.2.1))).trans (hHeld.2.1)
               have HS2_ := (hb.cell (World.block_lt_of_cell? _ _ (hHeld.2.2.1))).trans (hHeld.2.2.1)
               have HS3_ := (hb.cell (World.block_lt_of_cell? _ _ (hHeld.2.2.2.1))).trans (hHeld.2.2.2.1)
               refine ⟨_, rfl, ?_⟩
               replace HO_3 := Aside0.mk (Kd.R_below (rB HO_3) hb)
               replace HB := Aside0.mk (below_step (bB0 HB) hb)
               (try clear hb)
               (try clear hb2)
               (try clear hk)
               (try clear hi)
               refine hK.out _ _ ⟨HS0_, HS1_, HS2_, HS3_, ((HB.out.cell (World.block_lt_of_cell? w _ hw103_0)).trans hw103_0), ((HB.out.cell (World.block_lt_of_cell? w _ hw103_1)).trans hw103_1)⟩ (fun hHeld => ?_)
               clear hK K
               refine nZ (some 31) ?_
               refine pS 21 (some 32) HT_ ?_
               refine pS 22 (some 33) HT_ ?_
               refine done_ (done_of HT_.out (by kernel_rfl)) ?_
               have q18 : ((ji7) : Int) ≤ ((x3_2.length : Int) : Int) := oB
               obtain ⟨i018, hi018, _, hsz18, _⟩ := info_parts info23
               have hcut18 := cut_to (P := Try.prog) 53 23 .i64 Try.underlying53 hi018 (some ad101) x3_2.length co16 (ji7) (oB) q18 (Kd.R_reads' HO_3.out).2.1
               have hr18 := Kd.R_take (m := ((ji7) : Int).toNat) HO_3.out (by omega)
               have hy18 : y105.length = ((ji7) : Int).toNat := (by rw [Ny105.out, List.length_take]; omega)
               rw [← Ny105.out] at hr18
               rw [← hy18] at hr18 hcut18
               clear hy18 hi018 hsz18 HO_3
               have HO107 := Aside0.mk hr18
               clear hr18
               replace q18 := eq_true q18
               try go_wp2
               go_roundg k2
               case measure => have := HK1.out; have := HK2.out; omega
               case rel => exact ⟨(y105), H', ⟨by have := HK1.out; have := HK2.out; omega⟩, ⟨rB HO107⟩, ⟨bB0 HB⟩⟩
              ·rw [if_neg c14] at H
               exact absurd H (by simp)
             ·rw [if_neg c13] at H
              have c13b0 : decide (t104 ≤ 0) = false := decide_eq_false c13
              clear c13
              obtain ⟨y108, hy108⟩ : ∃ y_ : List (S23), y_ = (([] : List (S23))) := ⟨_, rfl⟩
              replace H : (if y108.length + x3_2.length < 8796093022208 then ((some (y108 ++ x3_2 : List (S23))).bind fun y111 => ((some (([(⟨(rd_T23 l0 x4_1).f0, (rd_T23 l0 x4_1).f1⟩ : S23)] : List (S23)) : List (S23))).bind fun y115 => (if y111.length + y115.length < 8796093022208 then (gooseneckref01_side.l0 k2 l0 (y111 ++ y115) (wrap64 (x4_1 + 1))) else (none)))) else (none)) = some r := by first | (rw [hy108]; with_reducible exact H) | (have H2_ := (Option.bind_some _ _).symm.trans H; rw [hy108]; with_reducible exact H2_) | (have H2_ := (Option.bind_some _ _).symm.trans H; with_reducible exact H2_) | with_reducible exact H | (rw [hy108]; exact H) | exact H
              have Ny108 := Aside0.mk hy108
              clear hy108
              by_cases c19 : y108.length + x3_2.length < 8796093022208
              ·rw [if_pos c19] at H
               have LMc19 := Aside0.mk c19
               clear c19
               obtain ⟨y111, hy111⟩ : ∃ y_ : List (S23), y_ = (y108 ++ x3_2) := ⟨_, rfl⟩
               replace H : ((some (([(⟨(rd_T23 l0 x4_1).f0, (rd_T23 l0 x4_1).f1⟩ : S23)] : List (S23)) : List (S23))).bind fun y115 => (if y111.length + y115.length < 8796093022208 then (gooseneckref01_side.l0 k2 l0 (y111 ++ y115) (wrap64 (x4_1 + 1))) else (none))) = some r := by first | (rw [hy111]; with_reducible exact H) | (have H2_ := (Option.bind_some _ _).symm.trans H; rw [hy111]; with_reducible exact H2_) | (have H2_ := (Option.bind_some _ _).symm.trans H; with_reducible exact H2_) | with_reducible exact H | (rw [hy111]; exact H) | exact H
               have Ny111 := Aside0.mk hy111
               clear hy111
               obtain ⟨y115, hy115⟩ : ∃ y_ : List (S23), y_ = (([(⟨(rd_T23 l0 x4_1).f0, (rd_T23 l0 x4_1).f1⟩ : S23)] : List (S23))) := ⟨_, rfl⟩
               replace H : (if y111.length + y115.length < 8796093022208 then (gooseneckref01_side.l0 k2 l0 (y111 ++ y115) (wrap64 (x4_1 + 1))) else (none)) = some r := by first | (rw [hy115]; with_reducible exact H) | (have H2_ := (Option.bind_some _ _).symm.trans H; rw [hy115]; with_reducible exact H2_) | (have H2_ := (Option.bind_some _ _).symm.trans H; with_reducible exact H2_) | with_reducible exact H | (rw [hy115]; exact H) | exact H
               have Ny115 := Aside0.mk hy115
               clear hy115
               by_cases c20 : y111.length + y115.length < 8796093022208
               ·rw [if_pos c20] at H
                have LMc20 := Aside0.mk c20
                clear c20
                obtain ⟨y118, hy118⟩ : ∃ y_ : List (S23), y_ = (y111 ++ y115) := ⟨_, rfl⟩
                replace H : (gooseneckref01_side.l0 k2 l0 y118 (wrap64 (x4_1 + 1))) = some r := by first | (rw [hy118]; with_reducible exact H) | (have H2_ := (Option.bind_some _ _).symm.trans H; rw [hy118]; with_reducible exact H2_) | (have H2_ := (Option.bind_some _ _).symm.trans H; with_reducible exact H2_) | with_reducible exact H | (rw [hy118]; exact H) | exact H
                have Ny118 := Aside0.mk hy118
                clear hy118
                have H' := Aside0.mk H
                clear H
                try go_wp2
                replace HO_3 := Aside0.mk (Kd.R_drew HO_3.out)
                replace HB := Aside0.mk (below_drew1 HB.out)
                obtain ⟨Ao22, co22, eo22⟩ := Kd.R_slice HO_3.out
                (first | subst eo22 | (injection eo22 with f1_ f2_ f3_; have f4_ := f1_.symm; have f5_ := f3_.symm; clear f1_ f2_ f3_; subst f4_; subst f5_))
                have p101 : 0 ≤ ((ji4) : Int) := oB
                have q101 : (ji4) < (x3_2.length : Int) := oB
                obtain ⟨ad101, e101, hx101_0, hx101_1⟩ := at_T23 (Kd.R_reads' HO_3.out).2.2 (ji4) p101 q101
                cases e101
                replace p101 := eq_true p101
                replace q101 := eq_true q101
                have p102 : 0 ≤ ((ji7) : Int) := oB
                have q102 : (ji7) < (x3_2.length : Int) := oB
                obtain ⟨ad102, e102, hx102_0, hx102_1⟩ := at_T23 (Kd.R_reads' HO_3.out).2.2 (ji7) p102 q102
                obtain rfl : ad101 = ad102 := (by injection e102)
                replace p102 := eq_true p102
                replace q102 := eq_true q102
                have p103 : 0 ≤ (x4_1 : Int) := oB
                have q103 : x4_1 < (l0.length : Int) := oB
                obtain ⟨ad103, e103, hx103_0, hx103_1⟩ := at_T23 HR0.out x4_1 p103 q103
                have hw103_1 := hx103_1
                have hw103_0 := hx103_0
                cases e103
                replace hx103_0 := (HB.out.cell (World.block_lt_of_cell? w _ hx103_0)).trans hx103_0
                replace hx103_1 := (HB.out.cell (World.block_lt_of_cell? w _ hx103_1)).trans hx103_1
                replace p103 := eq_true p103
                replace q103 := eq_true q103
                refine start_ (n := 23) (S := fun w' => w'.cell? (ad101.add (((ji4)).toNat * 2)) = some (.int .i64 ((rd_T23 x3_2 (ji4)).f0)) ∧ w'.cell? ⟨(ad101.add (((ji4)).toNat * 2)).block, (ad101.add (((ji4)).toNat * 2)).off + 1, none⟩ = some (.int .i64 ((rd_T23 x3_2 (ji4)).f1)) ∧ w'.cell? (ad101.add (((ji7)).toNat * 2)) = some (.int .i64 ((rd_T23 x3_2 (ji7)).f0)) ∧ w'.cell? ⟨(ad101.add (((ji7)).toNat * 2)).block, (ad101.add (((ji7)).toNat * 2)).off + 1, none⟩ = some (.int .i64 ((rd_T23 x3_2 (ji7)).f1)) ∧ w'.cell? (ad103.add ((x4_1).toNat * 2)) = some (.int .i64 ((rd_T23 l0 x4_1).f0)) ∧ w'.cell? ⟨(ad103.add ((x4_1).toNat * 2)).block, (ad103.add ((x4_1).toNat * 2)).off + 1, none⟩ = some (.int .i64 ((rd_T23 l0 x4_1).f1))) (ds := []) #[false, false, false, false, false, false, false, false, false, false, false, false, false, false, false, false, false, false, false, false, false, false, false] (by kernel_rfl) rfl rfl ⟨hx101_0, hx101_1, hx102_0, hx102_1, ((HB.out.cell (World.block_lt_of_cell? w _ hw103_0)).trans hw103_0), ((HB.out.cell (World.block_lt_of_cell? w _ hw103_1)).trans hw103_1)⟩ (fun hHeld => ?_); refine with_tabW gooseneckref01_side.tab5 gooseneckref01_side.bits5 (fun HT_ HW_ => ?_)
                generalize wr.drew = w21 at HO_3 HB hx101_0 hx101_1 hx102_0 hx102_1 hx103_0 hx103_1 hHeld ⊢
                refine pS 0 (some 11) HT_ ?_
                refine pS 1 (some 12) HT_ ?_
                refine pS 2 (some 13) HT_ ?_
                refine pS 3 (some 14) HT_ ?_
                refine pS 4 (some 15) HT_ ?_
                refine pS 5 (some 16) HT_ ?_
                refine pS 6 (some 17) HT_ ?_
                refine pS 7 (some 18) HT_ ?_
                refine pS 8 (some 19) HT_ ?_
                refine pS 10 (some 21) HT_ ?_
                refine pS 11 (some 22) HT_ ?_
                refine pS 12 (some 23) HT_ ?_
                refine pS 13 (some 24) HT_ ?_
                refine pS 14 (some 25) HT_ ?_
                refine pS 16 (some 27) HT_ ?_
                refine pS 17 (some 28) HT_ ?_
                refine pS 18 (some 29) HT_ ?_
                refine tS 9 (some 20) rfl rfl HT_ HW_ hHeld (by rintro w' ⟨s0, s1, s2, s3, s4, s5⟩; go_simp; with_reducible rfl) ?_
                refine tS 15 (some 26) rfl rfl HT_ HW_ hHeld (by rintro w' ⟨s0, s1, s2, s3, s4, s5⟩; go_simp; with_reducible rfl) ?_
                refine tS 19 (some 30) rfl rfl HT_ HW_ hHeld (by rintro w' ⟨s0, s1, s2, s3, s4, s5⟩; go_simp; with_reducible rfl) ?_
                refine one_ (i := 20) (N := some 31) #[true, true, true, true, true, true, true, true, true, true, true, true, true, true, true, true, true, true, true, true, true, false, false] rfl rfl (one_of HT_.out (by kernel_rfl)) (by decide) (fun K hK => ?_)
                refine goes_ Try.func86 (by kernel_rfl) rfl #[.agg #[.int .i64 ((rd_T23 x3_2 (ji4)).f0), .int .i64 ((rd_T23 x3_2 (ji4)).f1)], .agg #[.int .i64 ((rd_T23 x3_2 (ji7)).f0), .int .i64 ((rd_T23 x3_2 (ji7)).f1)], .agg #[.int .i64 ((rd_T23 l0 x4_1).f0), .int .i64 ((rd_T23 l0 x4_1).f1)]] (by rfl) rfl rfl (by (try simp only [List.map_toArray, List.map_cons, List.map_nil]); first | done | (simp only [hji4, hji7]; rfl) | rfl | (simp only [List.length_drop, List.length_take]; rfl)) ?_
                with_reducible refine (gooseneckref01_Sign.calls ((rd_T23 x3_2 (ji4)).f0) ((rd_T23 x3_2 (ji4)).f1) ((rd_T23 x3_2 (ji7)).f0) ((rd_T23 x3_2 (ji7)).f1) ((rd_T23 l0 x4_1).f0) ((rd_T23 l0 x4_1).f1) t104 _ A12.out).mono ?_
                rintro e w23 ⟨rfl, hb⟩
                have HS0_ := (hb.cell (World.block_lt_of_cell? _ _ (hHeld.1))).trans (hHeld.1)
                have HS1_ := (hb.cell (World.block_lt_of_cell? _ _ (hHeld.2.1))).trans (hHeld.2.1)
                have HS2_ := (hb.cell (World.block_lt_of_cell? _ _ (hHeld.2.2.1))).trans (hHeld.2.2.1)
                have HS3_ := (hb.cell (World.block_lt_of_cell? _ _ (hHeld.2.2.2.1))).trans (hHeld.2.2.2.1)
                refine ⟨_, rfl, ?_⟩
                replace HO_3 := Aside0.mk (Kd.R_below (rB HO_3) hb)
                replace HB := Aside0.mk (below_step (bB0 HB) hb)
                (try clear hb)
                (try clear hb2)
                (try clear hk)
                (try clear hi)
                refine hK.out _ _ ⟨HS0_, HS1_, HS2_, HS3_, ((HB.out.cell (World.block_lt_of_cell? w _ hw103_0)).trans hw103_0), ((HB.out.cell (World.block_lt_of_cell? w _ hw103_1)).trans hw103_1)⟩ (fun hHeld => ?_)
                clear hK K
                refine nZ (some 31) ?_
                refine pS 21 (some 32) HT_ ?_
                refine pS 22 (some 33) HT_ ?_
                refine done_ (done_of HT_.out (by kernel_rfl)) ?_
                try go_wp2
                replace HO_3 := Aside0.mk (Kd.R_drew HO_3.out)
                replace HB := Aside0.mk (below_drew1 HB.out)
                have p114 : 0 ≤ (x4_1 : Int) := oB
                have q114 : x4_1 < (l0.length : Int) := oB
                obtain ⟨ad114, e114, hx114_0, hx114_1⟩ := at_T23 HR0.out x4_1 p114 q114
                have hw114_1 := hx114_1
                have hw114_0 := hx114_0
                obtain rfl : ad103 = ad114 := (by injection e114)
                replace hx114_0 := (HB.out.cell (World.block_lt_of_cell? w _ hx114_0)).trans hx114_0
                replace hx114_1 := (HB.out.cell (World.block_lt_of_cell? w _ hx114_1)).trans hx114_1
                replace p114 := eq_true p114
                replace q114 := eq_true q114
                refine start_ (n := 10) (S := fun w' => w'.cell? (ad103.add ((x4_1).toNat * 2)) = some (.int .i64 ((rd_T23 l0 x4_1).f0)) ∧ w'.cell? ⟨(ad103.add ((x4_1).toNat * 2)).block, (ad103.add ((x4_1).toNat * 2)).off + 1, none⟩ = some (.int .i64 ((rd_T23 l0 x4_1).f1))) (ds := []) #[false, false, false, false, false, false, false, false, false, false] (by kernel_rfl) rfl rfl ⟨((HB.out.cell (World.block_lt_of_cell? w _ hw114_0)).trans hw114_0), ((HB.out.cell (World.block_lt_of_cell? w _ hw114_1)).trans hw114_1)⟩ (fun hHeld => ?_); refine with_tabW gooseneckref01_side.tab7 gooseneckref01_side.bits7 (fun HT_ HW_ => ?_)
                generalize w23.drew = w24 at HO_3 HB hx114_0 hx114_1 hHeld ⊢
                refine pS 1 (some 40) HT_ ?_
                refine pS 3 (some 42) HT_ ?_
                refine pS 4 (some 43) HT_ ?_
                refine pS 5 (some 44) HT_ ?_
                refine tS 6 (some 45) rfl rfl HT_ HW_ hHeld (by rintro w' ⟨s0, s1⟩; go_simp; with_reducible rfl) ?_
                refine join_ (σ := Value × Value × Value) 2 #[true, true, true, true, true, true, true, true, false, false] (fun s_ => [(39, s_.1), (41, s_.2.1), (46, s_.2.2)]) (fun s_ w' => (w'.cell? (ad103.add ((x4_1).toNat * 2)) = some (.int .i64 ((rd_T23 l0 x4_1).f0)) ∧ w'.cell? ⟨(ad103.add ((x4_1).toNat * 2)).block, (ad103.add ((x4_1).toNat * 2)).off + 1, none⟩ = some (.int .i64 ((rd_T23 l0 x4_1).f1))) ∧ (Kd.R k23 23 w' w.heap.size (fun k_ => some k_ ≠ (s_.2.2 : Value).ownBlock ∧ some k_ ≠ (.slice (some ad101) x3_2.length co22 : Value).ownBlock) s_.2.1 y111) ∧ (Kd.R k23 23 w' w.heap.size (fun k_ => some k_ ≠ (s_.2.1 : Value).ownBlock ∧ some k_ ≠ (.slice (some ad101) x3_2.length co22 : Value).ownBlock) s_.2.2 y115) ∧ (Kd.R k23 23 w' w.heap.size (fun k_ => some k_ ≠ (s_.2.1 : Value).ownBlock ∧ some k_ ≠ (s_.2.2 : Value).ownBlock) (.slice (some ad101) x3_2.length co22) x3_2) ∧ (Below w.heap.size w w')) ?_ ?_
                rotate_left
                ·intro hCont
                 refine two_ (i := 0) (j := 7) (Ni := some 39) (Nj := some 46) #[true, true, false, true, true, true, true, false, false, false] #[false, true, false, true, true, true, true, true, false, false] rfl rfl rfl rfl (two_of HT_.out (by kernel_rfl)) (by decide) (by decide) (fun K hK => ?_) (fun K hK => ?_)
                 ·skip
                  refine Kd.R_lit_step k23 _ 23 ?hg (N := 39) ?hd (xs := ([] : List (S23))) (inner := []) (ok := fun _ => True) (okp := fun _ => True) ?hr ?hp (fun _ hk => hk) trivial (Below.refl _ _) (Nat.le_refl _) (by simp) ?_; (case hd => rfl); (case hg => rfl); (case hr => first | (go_simp; done) | (go_simp; rfl)); (case hp => exact (Reps.none _ _))
                  intro v109 w25 ho26 hb hg_ hnew_
                  clear hg_ hnew_
                  (first | rw [← Ny108.out] at ho26 | (simp only [Int.reduceToNat] at ho26; rw [← Ny108.out] at ho26))
                  have n0_ := Aside0.mk (Kd.R_elder' (rB HO_3) (Kd.R_base ho26) hb)
                  have HO110 := Aside0.mk (Kd.R_lower (Kd.R_new' ho26 (Kd.R_lt (rB HO_3))) (below_size (bB0 HB)))
                  replace HB := Aside0.mk (below_step (bB0 HB) hb)
                  clear HO_3
                  have HO_3 := n0_
                  clear n0_
                  clear hb ho26
                  refine hK.out _ _ ⟨((HB.out.cell (World.block_lt_of_cell? w _ hw114_0)).trans hw114_0), ((HB.out.cell (World.block_lt_of_cell? w _ hw114_1)).trans hw114_1)⟩ (fun hHeld => ?_)
                  clear hK K
                  refine nZ (some 39) ?_
                  refine two_ (i := 2) (j := 7) (Ni := some 41) (Nj := some 46) #[true, true, true, true, true, true, true, false, false, false] #[true, true, false, true, true, true, true, true, false, false] rfl rfl rfl rfl (two_of HT_.out (by kernel_rfl)) (by decide) (by decide) (fun K hK => ?_) (fun K hK => ?_)
                  ·skip
                   refine Kd.R_append_rows_step k23 (w0 := w) w.heap.size (by rfl) (.tmp 39) (.tmp 40) 53 23 (.agg #[(.int .i64 0), (.int .i64 0)]) 16 rfl Try.underlying53 info23 rfl (by decide) (by omega) v109 y108 x3_2 _ _ _ (fun k_ => some k_ ≠ (.slice (some ad101) x3_2.length co22 : Value).ownBlock) (fun _ => False) rfl rfl ?aO ?aR (fun _ _ h => h) (fun _ h => h.elim) ?aF ?aB ?aS ?aL ?_
                   (case aR => exact cB2 HO_3)
                   (case aB => exact (bB0 HB))
                   (case aF => exact (fun k_ hk => Kd.fresh' (Kd.R_lt (rB HO_3)) k_ hk))
                   (case aO => exact (by (with_reducible repeat (first | apply Kd.R_alloc | apply Kd.R_drewN | apply Kd.R_drew)); exact Kd.R_mono HO110.out (fun _ hk => hk.2)))
                   (case aS => exact (below_size (bB0 HB)))
                   (case aL => have := LMc19.out; omega)
                   intro v112 w27 ho hb hg hat
                   rw [← Ny111.out] at ho
                   replace HO_3 := Aside0.mk (Kd.R_after (ok := (fun _ => True)) (rB HO_3) hg hat)
                   replace HB := Aside0.mk (hb)
                   have HO113 := Aside0.mk (ho)
                   clear HO110
                   clear ho hb hg hat
                   refine hK.out _ _ ⟨((HB.out.cell (World.block_lt_of_cell? w _ hw114_0)).trans hw114_0), ((HB.out.cell (World.block_lt_of_cell? w _ hw114_1)).trans hw114_1)⟩ (fun hHeld => ?_)
                   clear hK K
                   refine nZ (some 41) ?_
                   refine one_ (i := 7) (N := some 46) #[true, true, true, true, true, true, true, true, false, false] rfl rfl (one_of HT_.out (by kernel_rfl)) (by decide) (fun K hK => ?_)
                   refine Kd.R_lit_step k23 _ 23 ?hg (N := 46) ?hd (xs := ([(⟨(rd_T23 l0 x4_1).f0, (rd_T23 l0 x4_1).f1⟩ : S23)] : List (S23))) (inner := [.int .i64 ((rd_T23 l0 x4_1).f0), .int .i64 ((rd_T23 l0 x4_1).f1)]) (ok := fun _ => True) (okp := fun _ => True) ?hr ?hp (fun _ hk => hk) trivial (Below.refl _ _) (Nat.le_refl _) (by simp) ?_; (case hd => rfl); (case hg => rfl); (case hr => first | (go_simp; done) | (go_simp; rfl)); (case hp => exact (Reps.c2 (show Kd.M k23 _ _ _ (⟨(rd_T23 l0 x4_1).f0, (rd_T23 l0 x4_1).f1⟩ : S23) [.int .i64 ((rd_T23 l0 x4_1).f0), .int .i64 ((rd_T23 l0 x4_1).f1)] from (k23_mkM _ _ _ (⟨(rd_T23 l0 x4_1).f0, (rd_T23 l0 x4_1).f1⟩ : S23) )) (Reps.none _ _)))
                   intro v116 w28 ho29 hb hg_ hnew_
                   clear hg_ hnew_
                   (first | rw [← Ny115.out] at ho29 | (simp only [Int.reduceToNat] at ho29; rw [← Ny115.out] at ho29))
                   have n0_ := Aside0.mk (Kd.R_elder' (rB HO_3) (Kd.R_base ho29) hb)
                   have n1_ := Aside0.mk (Kd.R_elder' (rB HO113) (Kd.R_base ho29) hb)
                   have HO117 := Aside0.mk (Kd.R_lower (Kd.R_new' (Kd.R_new' ho29 (Kd.R_lt (rB HO_3))) (Kd.R_lt (rB HO113))) (below_size (bB0 HB)))
                   replace HB := Aside0.mk (below_step (bB0 HB) hb)
                   clear HO_3
                   clear HO113
                   have HO_3 := n0_
                   have HO113 := n1_
                   clear n0_ n1_
                   clear hb ho29
                   refine hK.out _ _ ⟨((HB.out.cell (World.block_lt_of_cell? w _ hw114_0)).trans hw114_0), ((HB.out.cell (World.block_lt_of_cell? w _ hw114_1)).trans hw114_1)⟩ (fun hHeld => ?_)
                   clear hK K
                   refine nZ (some 46) ?_
                   exact norm_ (by simp only [putAll, Act.put, List.setIfInBounds_toArray, List.set_cons_zero, List.set_cons_succ]) (hCont (v109, v112, v116) _ ⟨hHeld, (by (with_reducible repeat (first | apply Kd.R_alloc | apply Kd.R_drewN | apply Kd.R_drew)); exact Kd.R_mono HO113.out (fun _ hk => ⟨hk.2, hk.1⟩)), (by (with_reducible repeat (first | apply Kd.R_alloc | apply Kd.R_drewN | apply Kd.R_drew)); exact Kd.R_mono HO117.out (fun _ hk => ⟨hk.2, hk.1.2⟩)), (by (with_reducible repeat (first | apply Kd.R_alloc | apply Kd.R_drewN | apply Kd.R_drew)); exact Kd.R_mono HO_3.out (fun _ hk => ⟨hk.1.2, hk.2⟩)), (bB0 HB)⟩)
                  ·skip
                   refine Kd.R_lit_step k23 _ 23 ?hg (N := 46) ?hd (xs := ([(⟨(rd_T23 l0 x4_1).f0, (rd_T23 l0 x4_1).f1⟩ : S23)] : List (S23))) (inner := [.int .i64 ((rd_T23 l0 x4_1).f0), .int .i64 ((rd_T23 l0 x4_1).f1)]) (ok := fun _ => True) (okp := fun _ => True) ?hr ?hp (fun _ hk => hk) trivial (Below.refl _ _) (Nat.le_refl _) (by simp) ?_; (case hd => rfl); (case hg => rfl); (case hr => first | (go_simp; done) | (go_simp; rfl)); (case hp => exact (Reps.c2 (show Kd.M k23 _ _ _ (⟨(rd_T23 l0 x4_1).f0, (rd_T23 l0 x4_1).f1⟩ : S23) [.int .i64 ((rd_T23 l0 x4_1).f0), .int .i64 ((rd_T23 l0 x4_1).f1)] from (k23_mkM _ _ _ (⟨(rd_T23 l0 x4_1).f0, (rd_T23 l0 x4_1).f1⟩ : S23) )) (Reps.none _ _)))
                   intro v116 w27 ho28 hb hg_ hnew_
                   clear hg_ hnew_
                   (first | rw [← Ny115.out] at ho28 | (simp only [Int.reduceToNat] at ho28; rw [← Ny115.out] at ho28))
                   have n0_ := Aside0.mk (Kd.R_elder' (rB HO_3) (Kd.R_base ho28) hb)
                   have n1_ := Aside0.mk (Kd.R_elder' (rB HO110) (Kd.R_base ho28) hb)
                   have HO117 := Aside0.mk (Kd.R_lower (Kd.R_new' (Kd.R_new' ho28 (Kd.R_lt (rB HO_3))) (Kd.R_lt (rB HO110))) (below_size (bB0 HB)))
                   replace HB := Aside0.mk (below_step (bB0 HB) hb)
                   clear HO_3
                   clear HO110
                   have HO_3 := n0_
                   have HO110 := n1_
                   clear n0_ n1_
                   clear hb ho28
                   refine hK.out _ _ ⟨((HB.out.cell (World.block_lt_of_cell? w _ hw114_0)).trans hw114_0), ((HB.out.cell (World.block_lt_of_cell? w _ hw114_1)).trans hw114_1)⟩ (fun hHeld => ?_)
                   clear hK K
                   refine nZ (some 46) ?_
                   refine one_ (i := 2) (N := some 41) #[true, true, true, true, true, true, true, true, false, false] rfl rfl (one_of HT_.out (by kernel_rfl)) (by decide) (fun K hK => ?_)
                   refine Kd.R_append_rows_step k23 (w0 := w) w.heap.size (by rfl) (.tmp 39) (.tmp 40) 53 23 (.agg #[(.int .i64 0), (.int .i64 0)]) 16 rfl Try.underlying53 info23 rfl (by decide) (by omega) v109 y108 x3_2 _ _ _ (fun k_ => some k_ ≠ (.slice (some ad101) x3_2.length co22 : Value).ownBlock ∧ some k_ ≠ (v116 : Value).ownBlock) (fun _ => False) rfl rfl ?aO ?aR (fun _ _ h => h) (fun _ h => h.elim) ?aF ?aB ?aS ?aL ?_
                   (case aR => exact cB2 HO_3)
                   (case aB => exact (bB0 HB))
                   (case aF => exact (fun k_ hk => ⟨Kd.fresh' (Kd.R_lt (rB HO_3)) k_ hk, Kd.fresh' (Kd.R_lt (rB HO117)) k_ hk⟩))
                   (case aO => exact (by (with_reducible repeat (first | apply Kd.R_alloc | apply Kd.R_drewN | apply Kd.R_drew)); exact Kd.R_mono HO110.out (fun _ hk => ⟨hk.1.2, hk.2⟩)))
                   (case aS => exact (below_size (bB0 HB)))
                   (case aL => have := LMc19.out; omega)
                   intro v112 w29 ho hb hg hat
                   rw [← Ny111.out] at ho
                   replace HO_3 := Aside0.mk (Kd.R_after (ok := (fun k_ => some k_ ≠ (v116 : Value).ownBlock)) (by (with_reducible repeat (first | apply Kd.R_alloc | apply Kd.R_drewN | apply Kd.R_drew)); exact Kd.R_mono HO_3.out (fun _ hk => ⟨hk.2, hk.1.2⟩)) hg hat)
                   replace HO117 := Aside0.mk (Kd.R_after (ok := (fun k_ => some k_ ≠ (.slice (some ad101) x3_2.length co22 : Value).ownBlock)) (by (with_reducible repeat (first | apply Kd.R_alloc | apply Kd.R_drewN | apply Kd.R_drew)); exact Kd.R_mono HO117.out (fun _ hk => ⟨hk.1.2, hk.2⟩)) hg hat)
                   replace HB := Aside0.mk (hb)
                   have HO113 := Aside0.mk (ho)
                   clear HO110
                   clear ho hb hg hat
                   refine hK.out _ _ ⟨((HB.out.cell (World.block_lt_of_cell? w _ hw114_0)).trans hw114_0), ((HB.out.cell (World.block_lt_of_cell? w _ hw114_1)).trans hw114_1)⟩ (fun hHeld => ?_)
                   clear hK K
                   refine nZ (some 41) ?_
                   exact norm_ (by simp only [putAll, Act.put, List.setIfInBounds_toArray, List.set_cons_zero, List.set_cons_succ]) (hCont (v109, v112, v116) _ ⟨hHeld, (by (with_reducible repeat (first | apply Kd.R_alloc | apply Kd.R_drewN | apply Kd.R_drew)); exact Kd.R_mono HO113.out (fun _ hk => ⟨hk.2, hk.1⟩)), (by (with_reducible repeat (first | apply Kd.R_alloc | apply Kd.R_drewN | apply Kd.R_drew)); exact Kd.R_mono HO117.out (fun _ hk => ⟨hk.2, hk.1⟩)), (by (with_reducible repeat (first | apply Kd.R_alloc | apply Kd.R_drewN | apply Kd.R_drew)); exact Kd.R_mono HO_3.out (fun _ hk => ⟨hk.2, hk.1⟩)), (bB0 HB)⟩)
                 ·skip
                  refine Kd.R_lit_step k23 _ 23 ?hg (N := 46) ?hd (xs := ([(⟨(rd_T23 l0 x4_1).f0, (rd_T23 l0 x4_1).f1⟩ : S23)] : List (S23))) (inner := [.int .i64 ((rd_T23 l0 x4_1).f0), .int .i64 ((rd_T23 l0 x4_1).f1)]) (ok := fun _ => True) (okp := fun _ => True) ?hr ?hp (fun _ hk => hk) trivial (Below.refl _ _) (Nat.le_refl _) (by simp) ?_; (case hd => rfl); (case hg => rfl); (case hr => first | (go_simp; done) | (go_simp; rfl)); (case hp => exact (Reps.c2 (show Kd.M k23 _ _ _ (⟨(rd_T23 l0 x4_1).f0, (rd_T23 l0 x4_1).f1⟩ : S23) [.int .i64 ((rd_T23 l0 x4_1).f0), .int .i64 ((rd_T23 l0 x4_1).f1)] from (k23_mkM _ _ _ (⟨(rd_T23 l0 x4_1).f0, (rd_T23 l0 x4_1).f1⟩ : S23) )) (Reps.none _ _)))
                  intro v116 w25 ho26 hb hg_ hnew_
                  clear hg_ hnew_
                  (first | rw [← Ny115.out] at ho26 | (simp only [Int.reduceToNat] at ho26; rw [← Ny115.out] at ho26))
                  have n0_ := Aside0.mk (Kd.R_elder' (rB HO_3) (Kd.R_base ho26) hb)
                  have HO117 := Aside0.mk (Kd.R_lower (Kd.R_new' ho26 (Kd.R_lt (rB HO_3))) (below_size (bB0 HB)))
                  replace HB := Aside0.mk (below_step (bB0 HB) hb)
                  clear HO_3
                  have HO_3 := n0_
                  clear n0_
                  clear hb ho26
                  refine hK.out _ _ ⟨((HB.out.cell (World.block_lt_of_cell? w _ hw114_0)).trans hw114_0), ((HB.out.cell (World.block_lt_of_cell? w _ hw114_1)).trans hw114_1)⟩ (fun hHeld => ?_)
                  clear hK K
                  refine nZ (some 46) ?_
                  refine one_ (i := 0) (N := some 39) #[true, true, false, true, true, true, true, true, false, false] rfl rfl (one_of HT_.out (by kernel_rfl)) (by decide) (fun K hK => ?_)
                  refine Kd.R_lit_step k23 _ 23 ?hg (N := 39) ?hd (xs := ([] : List (S23))) (inner := []) (ok := fun _ => True) (okp := fun _ => True) ?hr ?hp (fun _ hk => hk) trivial (Below.refl _ _) (Nat.le_refl _) (by simp) ?_; (case hd => rfl); (case hg => rfl); (case hr => first | (go_simp; done) | (go_simp; rfl)); (case hp => exact (Reps.none _ _))
                  intro v109 w27 ho28 hb hg_ hnew_
                  clear hg_ hnew_
                  (first | rw [← Ny108.out] at ho28 | (simp only [Int.reduceToNat] at ho28; rw [← Ny108.out] at ho28))
                  have n0_ := Aside0.mk (Kd.R_elder' (rB HO_3) (Kd.R_base ho28) hb)
                  have n1_ := Aside0.mk (Kd.R_elder' (rB HO117) (Kd.R_base ho28) hb)
                  have HO110 := Aside0.mk (Kd.R_lower (Kd.R_new' (Kd.R_new' ho28 (Kd.R_lt (rB HO_3))) (Kd.R_lt (rB HO117))) (below_size (bB0 HB)))
                  replace HB := Aside0.mk (below_step (bB0 HB) hb)
                  clear HO_3
                  clear HO117
                  have HO_3 := n0_
                  have HO117 := n1_
                  clear n0_ n1_
                  clear hb ho28
                  refine hK.out _ _ ⟨((HB.out.cell (World.block_lt_of_cell? w _ hw114_0)).trans hw114_0), ((HB.out.cell (World.block_lt_of_cell? w _ hw114_1)).trans hw114_1)⟩ (fun hHeld => ?_)
                  clear hK K
                  refine nZ (some 39) ?_
                  refine one_ (i := 2) (N := some 41) #[true, true, true, true, true, true, true, true, false, false] rfl rfl (one_of HT_.out (by kernel_rfl)) (by decide) (fun K hK => ?_)
                  refine Kd.R_append_rows_step k23 (w0 := w) w.heap.size (by rfl) (.tmp 39) (.tmp 40) 53 23 (.agg #[(.int .i64 0), (.int .i64 0)]) 16 rfl Try.underlying53 info23 rfl (by decide) (by omega) v109 y108 x3_2 _ _ _ (fun k_ => some k_ ≠ (.slice (some ad101) x3_2.length co22 : Value).ownBlock ∧ some k_ ≠ (v116 : Value).ownBlock) (fun _ => False) rfl rfl ?aO ?aR (fun _ _ h => h) (fun _ h => h.elim) ?aF ?aB ?aS ?aL ?_
                  (case aR => exact cB2 HO_3)
                  (case aB => exact (bB0 HB))
                  (case aF => exact (fun k_ hk => ⟨Kd.fresh' (Kd.R_lt (rB HO_3)) k_ hk, Kd.fresh' (Kd.R_lt (rB HO117)) k_ hk⟩))
                  (case aO => exact (by (with_reducible repeat (first | apply Kd.R_alloc | apply Kd.R_drewN | apply Kd.R_drew)); exact Kd.R_mono HO110.out (fun _ hk => ⟨hk.1.2, hk.2⟩)))
                  (case aS => exact (below_size (bB0 HB)))
                  (case aL => have := LMc19.out; omega)
                  intro v112 w29 ho hb hg hat
                  rw [← Ny111.out] at ho
                  replace HO_3 := Aside0.mk (Kd.R_after (ok := (fun k_ => some k_ ≠ (v116 : Value).ownBlock)) (by (with_reducible repeat (first | apply Kd.R_alloc | apply Kd.R_drewN | apply Kd.R_drew)); exact Kd.R_mono HO_3.out (fun _ hk => ⟨hk.1.2, hk.2⟩)) hg hat)
                  replace HO117 := Aside0.mk (Kd.R_after (ok := (fun k_ => some k_ ≠ (.slice (some ad101) x3_2.length co22 : Value).ownBlock)) (by (with_reducible repeat (first | apply Kd.R_alloc | apply Kd.R_drewN | apply Kd.R_drew)); exact Kd.R_mono HO117.out (fun _ hk => ⟨hk.1.2, hk.2⟩)) hg hat)
                  replace HB := Aside0.mk (hb)
                  have HO113 := Aside0.mk (ho)
                  clear HO110
                  clear ho hb hg hat
                  refine hK.out _ _ ⟨((HB.out.cell (World.block_lt_of_cell? w _ hw114_0)).trans hw114_0), ((HB.out.cell (World.block_lt_of_cell? w _ hw114_1)).trans hw114_1)⟩ (fun hHeld => ?_)
                  clear hK K
                  refine nZ (some 41) ?_
                  exact norm_ (by simp only [putAll, Act.put, List.setIfInBounds_toArray, List.set_cons_zero, List.set_cons_succ]) (hCont (v109, v112, v116) _ ⟨hHeld, (by (with_reducible repeat (first | apply Kd.R_alloc | apply Kd.R_drewN | apply Kd.R_drew)); exact Kd.R_mono HO113.out (fun _ hk => ⟨hk.2, hk.1⟩)), (by (with_reducible repeat (first | apply Kd.R_alloc | apply Kd.R_drewN | apply Kd.R_drew)); exact Kd.R_mono HO117.out (fun _ hk => ⟨hk.2, hk.1⟩)), (by (with_reducible repeat (first | apply Kd.R_alloc | apply Kd.R_drewN | apply Kd.R_drew)); exact Kd.R_mono HO_3.out (fun _ hk => ⟨hk.2, hk.1⟩)), (bB0 HB)⟩)
                rintro ⟨v109, v112, v116⟩ w30 ⟨hS_, h0_, h1_, h2_, h3_⟩
                have HO113 : Aside0 (Kd.R k23 23 w30 w.heap.size (fun k_ => some k_ ≠ (v116 : Value).ownBlock ∧ some k_ ≠ (.slice (some ad101) x3_2.length co22 : Value).ownBlock) v112 y111) := ⟨h0_⟩
                have HO117 : Aside0 (Kd.R k23 23 w30 w.heap.size (fun k_ => some k_ ≠ (v112 : Value).ownBlock ∧ some k_ ≠ (.slice (some ad101) x3_2.length co22 : Value).ownBlock) v116 y115) := ⟨h1_⟩
                have n2_ : Aside0 (Kd.R k23 23 w30 w.heap.size (fun k_ => some k_ ≠ (v112 : Value).ownBlock ∧ some k_ ≠ (v116 : Value).ownBlock) (.slice (some ad101) x3_2.length co22) x3_2) := ⟨h2_⟩
                have n3_ : Aside0 (Below w.heap.size w w30) := ⟨h3_⟩
                clear HO_3
                clear HB
                clear h0_ h1_ h2_ h3_
                have HO_3 := n2_
                have HB := n3_
                clear n2_ n3_
                have hHeld : w30.cell? (ad103.add ((x4_1).toNat * 2)) = some (.int .i64 ((rd_T23 l0 x4_1).f0)) ∧ w30.cell? ⟨(ad103.add ((x4_1).toNat * 2)).block, (ad103.add ((x4_1).toNat * 2)).off + 1, none⟩ = some (.int .i64 ((rd_T23 l0 x4_1).f1)) := hS_
                obtain ⟨Ao32, co32, eo32⟩ := Kd.R_slice HO117.out
                (first | subst eo32 | (injection eo32 with f1_ f2_ f3_; have f4_ := f1_.symm; have f5_ := f3_.symm; clear f1_ f2_ f3_; subst f4_; subst f5_))
                refine norm_ (a' := ?_) ?_ ?_
                rotate_left
                ·simp only [putAll, Act.put, List.setIfInBounds_toArray, List.set_cons_zero, List.set_cons_succ]
                 rfl
                refine one_ (i := 8) (N := some 47) #[true, true, true, true, true, true, true, true, true, false] rfl rfl (one_of HT_.out (by kernel_rfl)) (by decide) (fun K hK => ?_)
                refine Kd.R_append_rows_step k23 (w0 := w) w.heap.size (by rfl) (.tmp 41) (.tmp 46) 53 23 (.agg #[(.int .i64 0), (.int .i64 0)]) 16 rfl Try.underlying53 info23 rfl (by decide) (by omega) v112 y111 y115 _ _ _ (fun k_ => some k_ ≠ (.slice (some ad101) x3_2.length co22 : Value).ownBlock ∧ some k_ ≠ (.slice Ao32 y115.length co32 : Value).ownBlock) (fun _ => False) rfl rfl ?aO ?aR (fun _ _ h => h) (fun _ h => h.elim) ?aF ?aB ?aS ?aL ?_
                (case aR => exact cB2 HO117)
                (case aB => exact (bB0 HB))
                (case aF => exact (fun k_ hk => ⟨Kd.fresh' (Kd.R_lt (rB HO_3)) k_ hk, Kd.fresh' (Kd.R_lt (rB HO117)) k_ hk⟩))
                (case aO => exact (by (with_reducible repeat (first | apply Kd.R_alloc | apply Kd.R_drewN | apply Kd.R_drew)); exact Kd.R_mono HO113.out (fun _ hk => ⟨hk.2, hk.1⟩)))
                (case aS => exact (below_size (bB0 HB)))
                (case aL => have := LMc20.out; omega)
                intro v119 w31 ho hb hg hat
                rw [← Ny118.out] at ho
                replace HO_3 := Aside0.mk (Kd.R_after (ok := (fun k_ => some k_ ≠ (.slice Ao32 y115.length co32 : Value).ownBlock)) (by (with_reducible repeat (first | apply Kd.R_alloc | apply Kd.R_drewN | apply Kd.R_drew)); exact Kd.R_mono HO_3.out (fun _ hk => ⟨hk.2, hk.1⟩)) hg hat)
                replace HO117 := Aside0.mk (Kd.R_after (ok := (fun k_ => some k_ ≠ (.slice (some ad101) x3_2.length co22 : Value).ownBlock)) (by (with_reducible repeat (first | apply Kd.R_alloc | apply Kd.R_drewN | apply Kd.R_drew)); exact Kd.R_mono HO117.out (fun _ hk => ⟨hk.2, hk.1⟩)) hg hat)
                replace HB := Aside0.mk (hb)
                have HO120 := Aside0.mk (ho)
                clear HO113
                clear ho hb hg hat
                refine hK.out _ _ ⟨((HB.out.cell (World.block_lt_of_cell? w _ hw114_0)).trans hw114_0), ((HB.out.cell (World.block_lt_of_cell? w _ hw114_1)).trans hw114_1)⟩ (fun hHeld => ?_)
                clear hK K
                refine nZ (some 47) ?_
                refine pS 9 (some 3) HT_ ?_
                refine done_ (done_of HT_.out (by kernel_rfl)) ?_
                try go_wp2
                go_roundg k2
                case measure => have := HK1.out; have := HK2.out; omega
                case rel => exact ⟨(y118), (wrap64 (x4_1 + 1)), sB, H', ⟨by have := HK1.out; have := HK2.out; omega⟩, ⟨by (with_reducible repeat (first | apply Kd.R_alloc | apply Kd.R_drewN | apply Kd.R_drew)); exact Kd.R_mono HO120.out (fun _ hk => trivial)⟩, ⟨bB0 HB⟩⟩
               ·rw [if_neg c20] at H
                exact absurd H (by simp)
              ·rw [if_neg c19] at H
               exact absurd H (by simp)
            ·rw [if_neg c11] at H
             exact absurd H (by simp)
           ·rw [if_neg c10] at H
            exact absurd H (by simp)
          ·rw [if_neg c9] at H
           exact absurd H (by simp)
         ·rw [if_neg c8] at H
          exact absurd H (by simp)
        ·rw [if_neg c6] at H
         exact absurd H (by simp)
       ·rw [if_neg c5] at H
        exact absurd H (by simp)
      ·rw [if_neg c3] at H
       have c3b0 : decide (2 ≤ (x3_2.length : Int)) = false := decide_eq_false c3
       have c3b1 : decide (2 ≤ x3_2.length) = false := decide_eq_false (by omega)
       clear c3
       obtain ⟨y121, hy121⟩ : ∃ y_ : List (S23), y_ = (([] : List (S23))) := ⟨_, rfl⟩
       replace H : (if y121.length + x3_2.length < 8796093022208 then ((some (y121 ++ x3_2 : List (S23))).bind fun y124 => (if 0 ≤ x4_1 then (if x4_1 < (l0.length : Int) then ((some (([(⟨(rd_T23 l0 x4_1).f0, (rd_T23 l0 x4_1).f1⟩ : S23)] : List (S23)) : List (S23))).bind fun y128 => (if y124.length + y128.length < 8796093022208 then (gooseneckref01_side.l0 k2 l0 (y124 ++ y128) (wrap64 (x4_1 + 1))) else (none))) else (none)) else (none))) else (none)) = some r := by first | (rw [hy121]; with_reducible exact H) | (have H2_ := (Option.bind_some _ _).symm.trans H; rw [hy121]; with_reducible exact H2_) | (have H2_ := (Option.bind_some _ _).symm.trans H; with_reducible exact H2_) | with_reducible exact H | (rw [hy121]; exact H) | exact H
       have Ny121 := Aside0.mk hy121
       clear hy121
       by_cases c33 : y121.length + x3_2.length < 8796093022208
       ·rw [if_pos c33] at H
        have LMc33 := Aside0.mk c33
        clear c33
        obtain ⟨y124, hy124⟩ : ∃ y_ : List (S23), y_ = (y121 ++ x3_2) := ⟨_, rfl⟩
        replace H : (if 0 ≤ x4_1 then (if x4_1 < (l0.length : Int) then ((some (([(⟨(rd_T23 l0 x4_1).f0, (rd_T23 l0 x4_1).f1⟩ : S23)] : List (S23)) : List (S23))).bind fun y128 => (if y124.length + y128.length < 8796093022208 then (gooseneckref01_side.l0 k2 l0 (y124 ++ y128) (wrap64 (x4_1 + 1))) else (none))) else (none)) else (none)) = some r := by first | (rw [hy124]; with_reducible exact H) | (have H2_ := (Option.bind_some _ _).symm.trans H; rw [hy124]; with_reducible exact H2_) | (have H2_ := (Option.bind_some _ _).symm.trans H; with_reducible exact H2_) | with_reducible exact H | (rw [hy124]; exact H) | exact H
        have Ny124 := Aside0.mk hy124
        clear hy124
        by_cases c34 : 0 ≤ x4_1
        ·rw [if_pos c34] at H
         have c34b0 : decide (0 ≤ x4_1) = true := decide_eq_true c34
         clear c34
         by_cases c35 : x4_1 < (l0.length : Int)
         ·rw [if_pos c35] at H
          have c35b0 : decide (x4_1 < (l0.length : Int)) = true := decide_eq_true c35
          clear c35
          obtain ⟨y128, hy128⟩ : ∃ y_ : List (S23), y_ = (([(⟨(rd_T23 l0 x4_1).f0, (rd_T23 l0 x4_1).f1⟩ : S23)] : List (S23))) := ⟨_, rfl⟩
          replace H : (if y124.length + y128.length < 8796093022208 then (gooseneckref01_side.l0 k2 l0 (y124 ++ y128) (wrap64 (x4_1 + 1))) else (none)) = some r := by first | (rw [hy128]; with_reducible exact H) | (have H2_ := (Option.bind_some _ _).symm.trans H; rw [hy128]; with_reducible exact H2_) | (have H2_ := (Option.bind_some _ _).symm.trans H; with_reducible exact H2_) | with_reducible exact H | (rw [hy128]; exact H) | exact H
          have Ny128 := Aside0.mk hy128
          clear hy128
          by_cases c36 : y124.length + y128.length < 8796093022208
          ·rw [if_pos c36] at H
           have LMc36 := Aside0.mk c36
           clear c36
           obtain ⟨y131, hy131⟩ : ∃ y_ : List (S23), y_ = (y124 ++ y128) := ⟨_, rfl⟩
           replace H : (gooseneckref01_side.l0 k2 l0 y131 (wrap64 (x4_1 + 1))) = some r := by first | (rw [hy131]; with_reducible exact H) | (have H2_ := (Option.bind_some _ _).symm.trans H; rw [hy131]; with_reducible exact H2_) | (have H2_ := (Option.bind_some _ _).symm.trans H; with_reducible exact H2_) | with_reducible exact H | (rw [hy131]; exact H) | exact H
           have Ny131 := Aside0.mk hy131
           clear hy131
           have H' := Aside0.mk H
           clear H
           try go_wp2
           replace HO_3 := Aside0.mk (Kd.R_drew HO_3.out)
           replace HB := Aside0.mk (below_drew1 HB.out)
           obtain ⟨Ao38, co38, eo38⟩ := Kd.R_slice HO_3.out
           (first | subst eo38 | (injection eo38 with f1_ f2_ f3_; have f4_ := f1_.symm; have f5_ := f3_.symm; clear f1_ f2_ f3_; subst f4_; subst f5_))
           refine start_ (n := 23) (S := fun w' => True) (ds := []) #[false, false, false, false, false, false, false, false, false, false, false, false, false, false, false, false, false, false, false, false, false, false, false] (by kernel_rfl) rfl rfl trivial (fun hHeld => ?_); refine with_tabW gooseneckref01_side.tab5 gooseneckref01_side.bits5 (fun HT_ HW_ => ?_)
           generalize wr.drew = w37 at HO_3 HB hHeld ⊢
           refine pS 0 (some 11) HT_ ?_
           refine pS 1 (some 12) HT_ ?_
           refine pS 2 (some 13) HT_ ?_
           refine pS 3 (some 14) HT_ ?_
           refine nS 4 (some 15) HT_ ?_
           refine nS 5 (some 16) HT_ ?_
           refine nS 6 (some 17) HT_ ?_
           refine nS 7 (some 18) HT_ ?_
           refine nS 8 (some 19) HT_ ?_
           refine nS 9 (some 20) HT_ ?_
           refine nS 10 (some 21) HT_ ?_
           refine nS 11 (some 22) HT_ ?_
           refine nS 12 (some 23) HT_ ?_
           refine nS 13 (some 24) HT_ ?_
           refine nS 14 (some 25) HT_ ?_
           refine nS 15 (some 26) HT_ ?_
           refine nS 16 (some 27) HT_ ?_
           refine nS 17 (some 28) HT_ ?_
           refine nS 18 (some 29) HT_ ?_
           refine nS 19 (some 30) HT_ ?_
           refine nS 20 (some 31) HT_ ?_
           refine nS 21 (some 32) HT_ ?_
           refine pS 22 (some 33) HT_ ?_
           refine done_ (done_of HT_.out (by kernel_rfl)) ?_
           try go_wp2
           replace HO_3 := Aside0.mk (Kd.R_drew HO_3.out)
           replace HB := Aside0.mk (below_drew1 HB.out)
           have p127 : 0 ≤ (x4_1 : Int) := oB
           have q127 : x4_1 < (l0.length : Int) := oB
           obtain ⟨ad127, e127, hx127_0, hx127_1⟩ := at_T23 HR0.out x4_1 p127 q127
           have hw127_1 := hx127_1
           have hw127_0 := hx127_0
           cases e127
           replace hx127_0 := (HB.out.cell (World.block_lt_of_cell? w _ hx127_0)).trans hx127_0
           replace hx127_1 := (HB.out.cell (World.block_lt_of_cell? w _ hx127_1)).trans hx127_1
           replace p127 := eq_true p127
           replace q127 := eq_true q127
           refine start_ (n := 10) (S := fun w' => w'.cell? (ad127.add ((x4_1).toNat * 2)) = some (.int .i64 ((rd_T23 l0 x4_1).f0)) ∧ w'.cell? ⟨(ad127.add ((x4_1).toNat * 2)).block, (ad127.add ((x4_1).toNat * 2)).off + 1, none⟩ = some (.int .i64 ((rd_T23 l0 x4_1).f1))) (ds := []) #[false, false, false, false, false, false, false, false, false, false] (by kernel_rfl) rfl rfl ⟨((HB.out.cell (World.block_lt_of_cell? w _ hw127_0)).trans hw127_0), ((HB.out.cell (World.block_lt_of_cell? w _ hw127_1)).trans hw127_1)⟩ (fun hHeld => ?_); refine with_tabW gooseneckref01_side.tab7 gooseneckref01_side.bits7 (fun HT_ HW_ => ?_)
           generalize w37.drew = w39 at HO_3 HB hx127_0 hx127_1 hHeld ⊢
           refine pS 1 (some 40) HT_ ?_
           refine pS 3 (some 42) HT_ ?_
           refine pS 4 (some 43) HT_ ?_
           refine pS 5 (some 44) HT_ ?_
           refine tS 6 (some 45) rfl rfl HT_ HW_ hHeld (by rintro w' ⟨s0, s1⟩; go_simp; with_reducible rfl) ?_
           refine join_ (σ := Value × Value × Value) 2 #[true, true, true, true, true, true, true, true, false, false] (fun s_ => [(39, s_.1), (41, s_.2.1), (46, s_.2.2)]) (fun s_ w' => (w'.cell? (ad127.add ((x4_1).toNat * 2)) = some (.int .i64 ((rd_T23 l0 x4_1).f0)) ∧ w'.cell? ⟨(ad127.add ((x4_1).toNat * 2)).block, (ad127.add ((x4_1).toNat * 2)).off + 1, none⟩ = some (.int .i64 ((rd_T23 l0 x4_1).f1))) ∧ (Kd.R k23 23 w' w.heap.size (fun k_ => some k_ ≠ (s_.2.2 : Value).ownBlock ∧ some k_ ≠ (.slice Ao38 x3_2.length co38 : Value).ownBlock) s_.2.1 y124) ∧ (Kd.R k23 23 w' w.heap.size (fun k_ => some k_ ≠ (s_.2.1 : Value).ownBlock ∧ some k_ ≠ (.slice Ao38 x3_2.length co38 : Value).ownBlock) s_.2.2 y128) ∧ (Kd.R k23 23 w' w.heap.size (fun k_ => some k_ ≠ (s_.2.1 : Value).ownBlock ∧ some k_ ≠ (s_.2.2 : Value).ownBlock) (.slice Ao38 x3_2.length co38) x3_2) ∧ (Below w.heap.size w w')) ?_ ?_
           rotate_left
           ·intro hCont
            refine two_ (i := 0) (j := 7) (Ni := some 39) (Nj := some 46) #[true, true, false, true, true, true, true, false, false, false] #[false, true, false, true, true, true, true, true, false, false] rfl rfl rfl rfl (two_of HT_.out (by kernel_rfl)) (by decide) (by decide) (fun K hK => ?_) (fun K hK => ?_)
            ·skip
             refine Kd.R_lit_step k23 _ 23 ?hg (N := 39) ?hd (xs := ([] : List (S23))) (inner := []) (ok := fun _ => True) (okp := fun _ => True) ?hr ?hp (fun _ hk => hk) trivial (Below.refl _ _) (Nat.le_refl _) (by simp) ?_; (case hd => rfl); (case hg => rfl); (case hr => first | (go_simp; done) | (go_simp; rfl)); (case hp => exact (Reps.none _ _))
             intro v122 w40 ho41 hb hg_ hnew_
             clear hg_ hnew_
             (first | rw [← Ny121.out] at ho41 | (simp only [Int.reduceToNat] at ho41; rw [← Ny121.out] at ho41))
             have n0_ := Aside0.mk (Kd.R_elder' (rB HO_3) (Kd.R_base ho41) hb)
             have HO123 := Aside0.mk (Kd.R_lower (Kd.R_new' ho41 (Kd.R_lt (rB HO_3))) (below_size (bB0 HB)))
             replace HB := Aside0.mk (below_step (bB0 HB) hb)
             clear HO_3
             have HO_3 := n0_
             clear n0_
             clear hb ho41
             refine hK.out _ _ ⟨((HB.out.cell (World.block_lt_of_cell? w _ hw127_0)).trans hw127_0), ((HB.out.cell (World.block_lt_of_cell? w _ hw127_1)).trans hw127_1)⟩ (fun hHeld => ?_)
             clear hK K
             refine nZ (some 39) ?_
             refine two_ (i := 2) (j := 7) (Ni := some 41) (Nj := some 46) #[true, true, true, true, true, true, true, false, false, false] #[true, true, false, true, true, true, true, true, false, false] rfl rfl rfl rfl (two_of HT_.out (by kernel_rfl)) (by decide) (by decide) (fun K hK => ?_) (fun K hK => ?_)
             ·skip
              refine Kd.R_append_rows_step k23 (w0 := w) w.heap.size (by rfl) (.tmp 39) (.tmp 40) 53 23 (.agg #[(.int .i64 0), (.int .i64 0)]) 16 rfl Try.underlying53 info23 rfl (by decide) (by omega) v122 y121 x3_2 _ _ _ (fun k_ => some k_ ≠ (.slice Ao38 x3_2.length co38 : Value).ownBlock) (fun _ => False) rfl rfl ?aO ?aR (fun _ _ h => h) (fun _ h => h.elim) ?aF ?aB ?aS ?aL ?_
              (case aR => exact cB2 HO_3)
              (case aB => exact (bB0 HB))
              (case aF => exact (fun k_ hk => Kd.fresh' (Kd.R_lt (rB HO_3)) k_ hk))
              (case aO => exact (by (with_reducible repeat (first | apply Kd.R_alloc | apply Kd.R_drewN | apply Kd.R_drew)); exact Kd.R_mono HO123.out (fun _ hk => hk.2)))
              (case aS => exact (below_size (bB0 HB)))
              (case aL => have := LMc33.out; omega)
              intro v125 w42 ho hb hg hat
              rw [← Ny124.out] at ho
              replace HO_3 := Aside0.mk (Kd.R_after (ok := (fun _ => True)) (rB HO_3) hg hat)
              replace HB := Aside0.mk (hb)
              have HO126 := Aside0.mk (ho)
              clear HO123
              clear ho hb hg hat
              refine hK.out _ _ ⟨((HB.out.cell (World.block_lt_of_cell? w _ hw127_0)).trans hw127_0), ((HB.out.cell (World.block_lt_of_cell? w _ hw127_1)).trans hw127_1)⟩ (fun hHeld => ?_)
              clear hK K
              refine nZ (some 41) ?_
              refine one_ (i := 7) (N := some 46) #[true, true, true, true, true, true, true, true, false, false] rfl rfl (one_of HT_.out (by kernel_rfl)) (by decide) (fun K hK => ?_)
              refine Kd.R_lit_step k23 _ 23 ?hg (N := 46) ?hd (xs := ([(⟨(rd_T23 l0 x4_1).f0, (rd_T23 l0 x4_1).f1⟩ : S23)] : List (S23))) (inner := [.int .i64 ((rd_T23 l0 x4_1).f0), .int .i64 ((rd_T23 l0 x4_1).f1)]) (ok := fun _ => True) (okp := fun _ => True) ?hr ?hp (fun _ hk => hk) trivial (Below.refl _ _) (Nat.le_refl _) (by simp) ?_; (case hd => rfl); (case hg => rfl); (case hr => first | (go_simp; done) | (go_simp; rfl)); (case hp => exact (Reps.c2 (show Kd.M k23 _ _ _ (⟨(rd_T23 l0 x4_1).f0, (rd_T23 l0 x4_1).f1⟩ : S23) [.int .i64 ((rd_T23 l0 x4_1).f0), .int .i64 ((rd_T23 l0 x4_1).f1)] from (k23_mkM _ _ _ (⟨(rd_T23 l0 x4_1).f0, (rd_T23 l0 x4_1).f1⟩ : S23) )) (Reps.none _ _)))
              intro v129 w43 ho44 hb hg_ hnew_
              clear hg_ hnew_
              (first | rw [← Ny128.out] at ho44 | (simp only [Int.reduceToNat] at ho44; rw [← Ny128.out] at ho44))
              have n0_ := Aside0.mk (Kd.R_elder' (rB HO_3) (Kd.R_base ho44) hb)
              have n1_ := Aside0.mk (Kd.R_elder' (rB HO126) (Kd.R_base ho44) hb)
              have HO130 := Aside0.mk (Kd.R_lower (Kd.R_new' (Kd.R_new' ho44 (Kd.R_lt (rB HO_3))) (Kd.R_lt (rB HO126))) (below_size (bB0 HB)))
              replace HB := Aside0.mk (below_step (bB0 HB) hb)
              clear HO_3
              clear HO126
              have HO_3 := n0_
              have HO126 := n1_
              clear n0_ n1_
              clear hb ho44
              refine hK.out _ _ ⟨((HB.out.cell (World.block_lt_of_cell? w _ hw127_0)).trans hw127_0), ((HB.out.cell (World.block_lt_of_cell? w _ hw127_1)).trans hw127_1)⟩ (fun hHeld => ?_)
              clear hK K
              refine nZ (some 46) ?_
              exact norm_ (by simp only [putAll, Act.put, List.setIfInBounds_toArray, List.set_cons_zero, List.set_cons_succ]) (hCont (v122, v125, v129) _ ⟨hHeld, (by (with_reducible repeat (first | apply Kd.R_alloc | apply Kd.R_drewN | apply Kd.R_drew)); exact Kd.R_mono HO126.out (fun _ hk => ⟨hk.2, hk.1⟩)), (by (with_reducible repeat (first | apply Kd.R_alloc | apply Kd.R_drewN | apply Kd.R_drew)); exact Kd.R_mono HO130.out (fun _ hk => ⟨hk.2, hk.1.2⟩)), (by (with_reducible repeat (first | apply Kd.R_alloc | apply Kd.R_drewN | apply Kd.R_drew)); exact Kd.R_mono HO_3.out (fun _ hk => ⟨hk.1.2, hk.2⟩)), (bB0 HB)⟩)
             ·skip
              refine Kd.R_lit_step k23 _ 23 ?hg (N := 46) ?hd (xs := ([(⟨(rd_T23 l0 x4_1).f0, (rd_T23 l0 x4_1).f1⟩ : S23)] : List (S23))) (inner := [.int .i64 ((rd_T23 l0 x4_1).f0), .int .i64 ((rd_T23 l0 x4_1).f1)]) (ok := fun _ => True) (okp := fun _ => True) ?hr ?hp (fun _ hk => hk) trivial (Below.refl _ _) (Nat.le_refl _) (by simp) ?_; (case hd => rfl); (case hg => rfl); (case hr => first | (go_simp; done) | (go_simp; rfl)); (case hp => exact (Reps.c2 (show Kd.M k23 _ _ _ (⟨(rd_T23 l0 x4_1).f0, (rd_T23 l0 x4_1).f1⟩ : S23) [.int .i64 ((rd_T23 l0 x4_1).f0), .int .i64 ((rd_T23 l0 x4_1).f1)] from (k23_mkM _ _ _ (⟨(rd_T23 l0 x4_1).f0, (rd_T23 l0 x4_1).f1⟩ : S23) )) (Reps.none _ _)))
              intro v129 w42 ho43 hb hg_ hnew_
              clear hg_ hnew_
              (first | rw [← Ny128.out] at ho43 | (simp only [Int.reduceToNat] at ho43; rw [← Ny128.out] at ho43))
              have n0_ := Aside0.mk (Kd.R_elder' (rB HO_3) (Kd.R_base ho43) hb)
              have n1_ := Aside0.mk (Kd.R_elder' (rB HO123) (Kd.R_base ho43) hb)
              have HO130 := Aside0.mk (Kd.R_lower (Kd.R_new' (Kd.R_new' ho43 (Kd.R_lt (rB HO_3))) (Kd.R_lt (rB HO123))) (below_size (bB0 HB)))
              replace HB := Aside0.mk (below_step (bB0 HB) hb)
              clear HO_3
              clear HO123
              have HO_3 := n0_
              have HO123 := n1_
              clear n0_ n1_
              clear hb ho43
              refine hK.out _ _ ⟨((HB.out.cell (World.block_lt_of_cell? w _ hw127_0)).trans hw127_0), ((HB.out.cell (World.block_lt_of_cell? w _ hw127_1)).trans hw127_1)⟩ (fun hHeld => ?_)
              clear hK K
              refine nZ (some 46) ?_
              refine one_ (i := 2) (N := some 41) #[true, true, true, true, true, true, true, true, false, false] rfl rfl (one_of HT_.out (by kernel_rfl)) (by decide) (fun K hK => ?_)
              refine Kd.R_append_rows_step k23 (w0 := w) w.heap.size (by rfl) (.tmp 39) (.tmp 40) 53 23 (.agg #[(.int .i64 0), (.int .i64 0)]) 16 rfl Try.underlying53 info23 rfl (by decide) (by omega) v122 y121 x3_2 _ _ _ (fun k_ => some k_ ≠ (.slice Ao38 x3_2.length co38 : Value).ownBlock ∧ some k_ ≠ (v129 : Value).ownBlock) (fun _ => False) rfl rfl ?aO ?aR (fun _ _ h => h) (fun _ h => h.elim) ?aF ?aB ?aS ?aL ?_
              (case aR => exact cB2 HO_3)
              (case aB => exact (bB0 HB))
              (case aF => exact (fun k_ hk => ⟨Kd.fresh' (Kd.R_lt (rB HO_3)) k_ hk, Kd.fresh' (Kd.R_lt (rB HO130)) k_ hk⟩))
              (case aO => exact (by (with_reducible repeat (first | apply Kd.R_alloc | apply Kd.R_drewN | apply Kd.R_drew)); exact Kd.R_mono HO123.out (fun _ hk => ⟨hk.1.2, hk.2⟩)))
              (case aS => exact (below_size (bB0 HB)))
              (case aL => have := LMc33.out; omega)
              intro v125 w44 ho hb hg hat
              rw [← Ny124.out] at ho
              replace HO_3 := Aside0.mk (Kd.R_after (ok := (fun k_ => some k_ ≠ (v129 : Value).ownBlock)) (by (with_reducible repeat (first | apply Kd.R_alloc | apply Kd.R_drewN | apply Kd.R_drew)); exact Kd.R_mono HO_3.out (fun _ hk => ⟨hk.2, hk.1.2⟩)) hg hat)
              replace HO130 := Aside0.mk (Kd.R_after (ok := (fun k_ => some k_ ≠ (.slice Ao38 x3_2.length co38 : Value).ownBlock)) (by (with_reducible repeat (first | apply Kd.R_alloc | apply Kd.R_drewN | apply Kd.R_drew)); exact Kd.R_mono HO130.out (fun _ hk => ⟨hk.1.2, hk.2⟩)) hg hat)
              replace HB := Aside0.mk (hb)
              have HO126 := Aside0.mk (ho)
              clear HO123
              clear ho hb hg hat
              refine hK.out _ _ ⟨((HB.out.cell (World.block_lt_of_cell? w _ hw127_0)).trans hw127_0), ((HB.out.cell (World.block_lt_of_cell? w _ hw127_1)).trans hw127_1)⟩ (fun hHeld => ?_)
              clear hK K
              refine nZ (some 41) ?_
              exact norm_ (by simp only [putAll, Act.put, List.setIfInBounds_toArray, List.set_cons_zero, List.set_cons_succ]) (hCont (v122, v125, v129) _ ⟨hHeld, (by (with_reducible repeat (first | apply Kd.R_alloc | apply Kd.R_drewN | apply Kd.R_drew)); exact Kd.R_mono HO126.out (fun _ hk => ⟨hk.2, hk.1⟩)), (by (with_reducible repeat (first | apply Kd.R_alloc | apply Kd.R_drewN | apply Kd.R_drew)); exact Kd.R_mono HO130.out (fun _ hk => ⟨hk.2, hk.1⟩)), (by (with_reducible repeat (first | apply Kd.R_alloc | apply Kd.R_drewN | apply Kd.R_drew)); exact Kd.R_mono HO_3.out (fun _ hk => ⟨hk.2, hk.1⟩)), (bB0 HB)⟩)
            ·skip
             refine Kd.R_lit_step k23 _ 23 ?hg (N := 46) ?hd (xs := ([(⟨(rd_T23 l0 x4_1).f0, (rd_T23 l0 x4_1).f1⟩ : S23)] : List (S23))) (inner := [.int .i64 ((rd_T23 l0 x4_1).f0), .int .i64 ((rd_T23 l0 x4_1).f1)]) (ok := fun _ => True) (okp := fun _ => True) ?hr ?hp (fun _ hk => hk) trivial (Below.refl _ _) (Nat.le_refl _) (by simp) ?_; (case hd => rfl); (case hg => rfl); (case hr => first | (go_simp; done) | (go_simp; rfl)); (case hp => exact (Reps.c2 (show Kd.M k23 _ _ _ (⟨(rd_T23 l0 x4_1).f0, (rd_T23 l0 x4_1).f1⟩ : S23) [.int .i64 ((rd_T23 l0 x4_1).f0), .int .i64 ((rd_T23 l0 x4_1).f1)] from (k23_mkM _ _ _ (⟨(rd_T23 l0 x4_1).f0, (rd_T23 l0 x4_1).f1⟩ : S23) )) (Reps.none _ _)))
             intro v129 w40 ho41 hb hg_ hnew_
             clear hg_ hnew_
             (first | rw [← Ny128.out] at ho41 | (simp only [Int.reduceToNat] at ho41; rw [← Ny128.out] at ho41))
             have n0_ := Aside0.mk (Kd.R_elder' (rB HO_3) (Kd.R_base ho41) hb)
             have HO130 := Aside0.mk (Kd.R_lower (Kd.R_new' ho41 (Kd.R_lt (rB HO_3))) (below_size (bB0 HB)))
             replace HB := Aside0.mk (below_step (bB0 HB) hb)
             clear HO_3
             have HO_3 := n0_
             clear n0_
             clear hb ho41
             refine hK.out _ _ ⟨((HB.out.cell (World.block_lt_of_cell? w _ hw127_0)).trans hw127_0), ((HB.out.cell (World.block_lt_of_cell? w _ hw127_1)).trans hw127_1)⟩ (fun hHeld => ?_)
             clear hK K
             refine nZ (some 46) ?_
             refine one_ (i := 0) (N := some 39) #[true, true, false, true, true, true, true, true, false, false] rfl rfl (one_of HT_.out (by kernel_rfl)) (by decide) (fun K hK => ?_)
             refine Kd.R_lit_step k23 _ 23 ?hg (N := 39) ?hd (xs := ([] : List (S23))) (inner := []) (ok := fun _ => True) (okp := fun _ => True) ?hr ?hp (fun _ hk => hk) trivial (Below.refl _ _) (Nat.le_refl _) (by simp) ?_; (case hd => rfl); (case hg => rfl); (case hr => first | (go_simp; done) | (go_simp; rfl)); (case hp => exact (Reps.none _ _))
             intro v122 w42 ho43 hb hg_ hnew_
             clear hg_ hnew_
             (first | rw [← Ny121.out] at ho43 | (simp only [Int.reduceToNat] at ho43; rw [← Ny121.out] at ho43))
             have n0_ := Aside0.mk (Kd.R_elder' (rB HO_3) (Kd.R_base ho43) hb)
             have n1_ := Aside0.mk (Kd.R_elder' (rB HO130) (Kd.R_base ho43) hb)
             have HO123 := Aside0.mk (Kd.R_lower (Kd.R_new' (Kd.R_new' ho43 (Kd.R_lt (rB HO_3))) (Kd.R_lt (rB HO130))) (below_size (bB0 HB)))
             replace HB := Aside0.mk (below_step (bB0 HB) hb)
             clear HO_3
             clear HO130
             have HO_3 := n0_
             have HO130 := n1_
             clear n0_ n1_
             clear hb ho43
             refine hK.out _ _ ⟨((HB.out.cell (World.block_lt_of_cell? w _ hw127_0)).trans hw127_0), ((HB.out.cell (World.block_lt_of_cell? w _ hw127_1)).trans hw127_1)⟩ (fun hHeld => ?_)
             clear hK K
             refine nZ (some 39) ?_
             refine one_ (i := 2) (N := some 41) #[true, true, true, true, true, true, true, true, false, false] rfl rfl (one_of HT_.out (by kernel_rfl)) (by decide) (fun K hK => ?_)
             refine Kd.R_append_rows_step k23 (w0 := w) w.heap.size (by rfl) (.tmp 39) (.tmp 40) 53 23 (.agg #[(.int .i64 0), (.int .i64 0)]) 16 rfl Try.underlying53 info23 rfl (by decide) (by omega) v122 y121 x3_2 _ _ _ (fun k_ => some k_ ≠ (.slice Ao38 x3_2.length co38 : Value).ownBlock ∧ some k_ ≠ (v129 : Value).ownBlock) (fun _ => False) rfl rfl ?aO ?aR (fun _ _ h => h) (fun _ h => h.elim) ?aF ?aB ?aS ?aL ?_
             (case aR => exact cB2 HO_3)
             (case aB => exact (bB0 HB))
             (case aF => exact (fun k_ hk => ⟨Kd.fresh' (Kd.R_lt (rB HO_3)) k_ hk, Kd.fresh' (Kd.R_lt (rB HO130)) k_ hk⟩))
             (case aO => exact (by (with_reducible repeat (first | apply Kd.R_alloc | apply Kd.R_drewN | apply Kd.R_drew)); exact Kd.R_mono HO123.out (fun _ hk => ⟨hk.1.2, hk.2⟩)))
             (case aS => exact (below_size (bB0 HB)))
             (case aL => have := LMc33.out; omega)
             intro v125 w44 ho hb hg hat
             rw [← Ny124.out] at ho
             replace HO_3 := Aside0.mk (Kd.R_after (ok := (fun k_ => some k_ ≠ (v129 : Value).ownBlock)) (by (with_reducible repeat (first | apply Kd.R_alloc | apply Kd.R_drewN | apply Kd.R_drew)); exact Kd.R_mono HO_3.out (fun _ hk => ⟨hk.1.2, hk.2⟩)) hg hat)
             replace HO130 := Aside0.mk (Kd.R_after (ok := (fun k_ => some k_ ≠ (.slice Ao38 x3_2.length co38 : Value).ownBlock)) (by (with_reducible repeat (first | apply Kd.R_alloc | apply Kd.R_drewN | apply Kd.R_drew)); exact Kd.R_mono HO130.out (fun _ hk => ⟨hk.1.2, hk.2⟩)) hg hat)
             replace HB := Aside0.mk (hb)
             have HO126 := Aside0.mk (ho)
             clear HO123
             clear ho hb hg hat
             refine hK.out _ _ ⟨((HB.out.cell (World.block_lt_of_cell? w _ hw127_0)).trans hw127_0), ((HB.out.cell (World.block_lt_of_cell? w _ hw127_1)).trans hw127_1)⟩ (fun hHeld => ?_)
             clear hK K
             refine nZ (some 41) ?_
             exact norm_ (by simp only [putAll, Act.put, List.setIfInBounds_toArray, List.set_cons_zero, List.set_cons_succ]) (hCont (v122, v125, v129) _ ⟨hHeld, (by (with_reducible repeat (first | apply Kd.R_alloc | apply Kd.R_drewN | apply Kd.R_drew)); exact Kd.R_mono HO126.out (fun _ hk => ⟨hk.2, hk.1⟩)), (by (with_reducible repeat (first | apply Kd.R_alloc | apply Kd.R_drewN | apply Kd.R_drew)); exact Kd.R_mono HO130.out (fun _ hk => ⟨hk.2, hk.1⟩)), (by (with_reducible repeat (first | apply Kd.R_alloc | apply Kd.R_drewN | apply Kd.R_drew)); exact Kd.R_mono HO_3.out (fun _ hk => ⟨hk.2, hk.1⟩)), (bB0 HB)⟩)
           rintro ⟨v122, v125, v129⟩ w45 ⟨hS_, h0_, h1_, h2_, h3_⟩
           have HO126 : Aside0 (Kd.R k23 23 w45 w.heap.size (fun k_ => some k_ ≠ (v129 : Value).ownBlock ∧ some k_ ≠ (.slice Ao38 x3_2.length co38 : Value).ownBlock) v125 y124) := ⟨h0_⟩
           have HO130 : Aside0 (Kd.R k23 23 w45 w.heap.size (fun k_ => some k_ ≠ (v125 : Value).ownBlock ∧ some k_ ≠ (.slice Ao38 x3_2.length co38 : Value).ownBlock) v129 y128) := ⟨h1_⟩
           have n2_ : Aside0 (Kd.R k23 23 w45 w.heap.size (fun k_ => some k_ ≠ (v125 : Value).ownBlock ∧ some k_ ≠ (v129 : Value).ownBlock) (.slice Ao38 x3_2.length co38) x3_2) := ⟨h2_⟩
           have n3_ : Aside0 (Below w.heap.size w w45) := ⟨h3_⟩
           clear HO_3
           clear HB
           clear h0_ h1_ h2_ h3_
           have HO_3 := n2_
           have HB := n3_
           clear n2_ n3_
           have hHeld : w45.cell? (ad127.add ((x4_1).toNat * 2)) = some (.int .i64 ((rd_T23 l0 x4_1).f0)) ∧ w45.cell? ⟨(ad127.add ((x4_1).toNat * 2)).block, (ad127.add ((x4_1).toNat * 2)).off + 1, none⟩ = some (.int .i64 ((rd_T23 l0 x4_1).f1)) := hS_
           obtain ⟨Ao47, co47, eo47⟩ := Kd.R_slice HO130.out
           (first | subst eo47 | (injection eo47 with f1_ f2_ f3_; have f4_ := f1_.symm; have f5_ := f3_.symm; clear f1_ f2_ f3_; subst f4_; subst f5_))
           refine norm_ (a' := ?_) ?_ ?_
           rotate_left
           ·simp only [putAll, Act.put, List.setIfInBounds_toArray, List.set_cons_zero, List.set_cons_succ]
            rfl
           refine one_ (i := 8) (N := some 47) #[true, true, true, true, true, true, true, true, true, false] rfl rfl (one_of HT_.out (by kernel_rfl)) (by decide) (fun K hK => ?_)
           refine Kd.R_append_rows_step k23 (w0 := w) w.heap.size (by rfl) (.tmp 41) (.tmp 46) 53 23 (.agg #[(.int .i64 0), (.int .i64 0)]) 16 rfl Try.underlying53 info23 rfl (by decide) (by omega) v125 y124 y128 _ _ _ (fun k_ => some k_ ≠ (.slice Ao38 x3_2.length co38 : Value).ownBlock ∧ some k_ ≠ (.slice Ao47 y128.length co47 : Value).ownBlock) (fun _ => False) rfl rfl ?aO ?aR (fun _ _ h => h) (fun _ h => h.elim) ?aF ?aB ?aS ?aL ?_
           (case aR => exact cB2 HO130)
           (case aB => exact (bB0 HB))
           (case aF => exact (fun k_ hk => ⟨Kd.fresh' (Kd.R_lt (rB HO_3)) k_ hk, Kd.fresh' (Kd.R_lt (rB HO130)) k_ hk⟩))
           (case aO => exact (by (with_reducible repeat (first | apply Kd.R_alloc | apply Kd.R_drewN | apply Kd.R_drew)); exact Kd.R_mono HO126.out (fun _ hk => ⟨hk.2, hk.1⟩)))
           (case aS => exact (below_size (bB0 HB)))
           (case aL => have := LMc36.out; omega)
           intro v132 w46 ho hb hg hat
           rw [← Ny131.out] at ho
           replace HO_3 := Aside0.mk (Kd.R_after (ok := (fun k_ => some k_ ≠ (.slice Ao47 y128.length co47 : Value).ownBlock)) (by (with_reducible repeat (first | apply Kd.R_alloc | apply Kd.R_drewN | apply Kd.R_drew)); exact Kd.R_mono HO_3.out (fun _ hk => ⟨hk.2, hk.1⟩)) hg hat)
           replace HO130 := Aside0.mk (Kd.R_after (ok := (fun k_ => some k_ ≠ (.slice Ao38 x3_2.length co38 : Value).ownBlock)) (by (with_reducible repeat (first | apply Kd.R_alloc | apply Kd.R_drewN | apply Kd.R_drew)); exact Kd.R_mono HO130.out (fun _ hk => ⟨hk.2, hk.1⟩)) hg hat)
           replace HB := Aside0.mk (hb)
           have HO133 := Aside0.mk (ho)
           clear HO126
           clear ho hb hg hat
           refine hK.out _ _ ⟨((HB.out.cell (World.block_lt_of_cell? w _ hw127_0)).trans hw127_0), ((HB.out.cell (World.block_lt_of_cell? w _ hw127_1)).trans hw127_1)⟩ (fun hHeld => ?_)
           clear hK K
           refine nZ (some 47) ?_
           refine pS 9 (some 3) HT_ ?_
           refine done_ (done_of HT_.out (by kernel_rfl)) ?_
           try go_wp2
           go_roundg k2
           case measure => have := HK1.out; have := HK2.out; omega
           case rel => exact ⟨(y131), (wrap64 (x4_1 + 1)), sB, H', ⟨by have := HK1.out; have := HK2.out; omega⟩, ⟨by (with_reducible repeat (first | apply Kd.R_alloc | apply Kd.R_drewN | apply Kd.R_drew)); exact Kd.R_mono HO133.out (fun _ hk => trivial)⟩, ⟨bB0 HB⟩⟩
          ·rw [if_neg c36] at H
           exact absurd H (by simp)
         ·rw [if_neg c35] at H
          exact absurd H (by simp)
        ·rw [if_neg c34] at H
         exact absurd H (by simp)
       ·rw [if_neg c33] at H
        exact absurd H (by simp)
   ·rw [if_neg c2] at H
    have c2b0 : decide (x4_1 < (l0.length : Int)) = false := decide_eq_false c2
    clear c2
    obtain rfl := Option.some.inj H
    go_wp2
    go_ret
    exact ⟨_, eB, rB HO_3, bB0 HB⟩
def gooseneckref01_Corners.l0 : Nat → List (S23) → List (S23) → Int → Option ((List (S23)))
 | 0, _, _, _ => none
 | k + 1, x3, x4, x5 => if x5 ≥ 0 then (if 0 ≤ x5 then (if x5 < (x3.length : Int) then (if x4.length < 8796093022208 then (gooseneckref01_Corners.l0 k x3 (x4 ++ [(⟨(rd_T23 x3 x5).f0, (rd_T23 x3 x5).f1⟩ : S23)]) (wrap64 (x5 - 1))) else (none)) else (none)) else (none)) else ((gooseneckref01_side.f k x3).bind fun t108 => ((gooseneckref01_side.f k x4).bind fun t111 => ((some (([] : List (S23)) : List (S23))).bind fun y114 => (if 0 ≤ (wrap64 ((t108.length : Int) - 1)) then (if (wrap64 ((t108.length : Int) - 1)) ≤ (t108.length : Int) then ((some (t108.take ((wrap64 ((t108.length : Int) - 1)) : Int).toNat : List (S23))).bind fun y117 => (if y114.length + y117.length < 8796093022208 then ((some (y114 ++ y117 : List (S23))).bind fun y121 => (if 0 ≤ (wrap64 ((t111.length : Int) - 1)) then (if (wrap64 ((t111.length : Int) - 1)) ≤ (t111.length : Int) then ((some (t111.take ((wrap64 ((t111.length : Int) - 1)) : Int).toNat : List (S23))).bind fun y124 => (if y121.length + y124.length < 8796093022208 then (some (y121 ++ y124)) else (none))) else (none)) else (none))) else (none))) else (none)) else (none)))))
def gooseneckref01_Corners.f (k : Nat) (l0 : List (S23)) : Option ((List (S23))) := (gooseneckref01_sorted.f l0).bind fun t101 => (if (t101.length : Int) < 2 then (some t101) else (gooseneckref01_Corners.l0 k t101 ([] : List (S23)) (wrap64 ((t101.length : Int) - 1))))
theorem gooseneckref01_Corners.mono_l : ∀ k, (∀ y0 y1 y2, LeO (gooseneckref01_Corners.l0 k y0 y1 y2) (gooseneckref01_Corners.l0 (k + 1) y0 y1 y2))
 | 0 => fun _ _ _ r h => by simp [gooseneckref01_Corners.l0] at h
 | k + 1 => by
  have ih0 := gooseneckref01_Corners.mono_l k
  ·intro y0 y1 y2
   unfold gooseneckref01_Corners.l0
   repeat' first
   | (with_reducible exact ih0 _ _ _)
   | (with_reducible exact gooseneckref01_side.mono _ _)
   | (with_reducible exact LeO.refl _)
   | (with_reducible exact LeO.none _)
   | (with_reducible refine LeO.ite ?_ ?_)
   | (with_reducible refine LeO.bind ?_ (fun _ => ?_))
   | exact ih0 _ _ _
   | exact gooseneckref01_side.mono _ _
   | exact LeO.none _
   | refine LeO.ite ?_ ?_
   | refine LeO.bind ?_ (fun _ => ?_)
theorem gooseneckref01_Corners.mono : ∀ a0 k, LeO (gooseneckref01_Corners.f k a0) (gooseneckref01_Corners.f (k + 1) a0) := by
 intro a0 k
 have ih0 := gooseneckref01_Corners.mono_l k
 unfold gooseneckref01_Corners.f
 repeat' first
   | (with_reducible exact ih0 _ _ _)
   | (with_reducible exact gooseneckref01_side.mono _ _)
   | (with_reducible exact LeO.refl _)
   | (with_reducible exact LeO.none _)
   | (with_reducible refine LeO.ite ?_ ?_)
   | (with_reducible refine LeO.bind ?_ (fun _ => ?_))
   | exact ih0 _ _ _
   | exact gooseneckref01_side.mono _ _
   | exact LeO.none _
   | refine LeO.ite ?_ ?_
   | refine LeO.bind ?_ (fun _ => ?_)
def gooseneckref01_Corners.T11 : Bool × List (List Nat × List Nat) := (true, [([], []), ([], []), ([], []), ([2], [2]), ([3], [3]), ([1, 4], [1, 4]), ([0, 5], [0, 5]), ([], []), ([], []), ([8], [8]), ([9], [9]), ([7, 10], [7, 10]), ([6, 11, 6], [6, 11]), ([12, 12, 0, 1, 2, 3, 4, 5, 6, 7, 8, 9, 10, 11, 12], [12])])
def gooseneckref01_Corners.B11 : List Nat := [0, 0, 0, 4, 12, 30, 63, 0, 0, 256, 768, 1920, 4095, 8191]
theorem gooseneckref01_Corners.tab11 : rtab .any (opsOf Try.f96 11) = gooseneckref01_Corners.T11 := by kernel_rfl
theorem gooseneckref01_Corners.bits11 : waitsOk gooseneckref01_Corners.T11.2 gooseneckref01_Corners.B11 = true := by kernel_rfl
set_option maxHeartbeats 8000000 in
set_option maxRecDepth 100000 in
theorem gooseneckref01_Corners.calls (k : Nat) (A0 : Option Addr) (c0 : Nat) (l0 : List (S23)) (r : List (S23)) (w : World) (hr0 : Kd.C k23 w A0 l0.length l0) (hc0 : l0.length ≤ c0) (h : gooseneckref01_Corners.f k l0 = some r) :
  Calls Try.prog 96 #[.slice A0 l0.length c0] w fun e w' => ∃ v0_ : Value, e = .returned (v0_) ∧ Kd.R k23 23 w' w.heap.size (fun _ => True) v0_ r ∧ Below w.heap.size w w' := by
 have hu23 := Try.underlying23
 have HR0 := Aside0.mk hr0
 have HC0 := Aside0.mk hc0
 clear hr0 hc0
 have HB := Aside0.mk (Below.refl w.heap.size w)
 have H : ((gooseneckref01_sorted.f l0).bind fun t101 => (if (t101.length : Int) < 2 then (some t101) else (gooseneckref01_Corners.l0 k t101 ([] : List (S23)) (wrap64 ((t101.length : Int) - 1))))) = some r := h
 clear h
 replace H := Option.bind_eq_some_iff.mp H
 obtain ⟨t101, A20, H⟩ := H
 replace H : (if (t101.length : Int) < 2 then (some t101) else (gooseneckref01_Corners.l0 k t101 ([] : List (S23)) (wrap64 ((t101.length : Int) - 1)))) = some r := H
 have A2 := Aside0.mk A20
 clear A20
 by_cases c3 : (t101.length : Int) < 2
 ·rw [if_pos c3] at H
  have c3b0 : decide ((t101.length : Int) < 2) = true := decide_eq_true c3
  have c3b1 : decide (t101.length < 2) = true := decide_eq_true (by omega)
  clear c3
  obtain rfl := Option.some.inj H
  go_enter Try.func96, Try.ntmps96
  go_wp2_with (first | ((with_reducible refine gate_callee (f := 118) rfl ?_); refine goesL_ (some 9) rfl rfl Try.func118 (by kernel_rfl) rfl #[.slice A0 l0.length c0] rfl mB ?_; (with_reducible refine (gooseneckref01_sorted.calls _ _ l0 t101 _ ?side1 ?side2 A2.out).mono ?_); (case side1 => exact cB1 HR0); (case side2 => exact HC0.out); rintro e w4 ⟨v102, rfl, ho0, hb⟩; refine ⟨_, rfl, ?_⟩; have HO103 := Aside0.mk (Kd.R_lower ho0 (below_size (bB0 HB))); replace HB := Aside0.mk (below_step (bB0 HB) hb); (try clear hb); (try clear hb2); (try clear hk); (try clear hi); (try clear ho0); obtain ⟨Ao5, co5, eo5⟩ := Kd.R_slice HO103.out; subst eo5))
  go_ret
  exact ⟨_, eB, rB HO103, bB0 HB⟩
 ·rw [if_neg c3] at H
  have c3b0 : decide ((t101.length : Int) < 2) = false := decide_eq_false c3
  have c3b1 : decide (t101.length < 2) = false := decide_eq_false (by omega)
  clear c3
  have H' := Aside0.mk H
  clear H
  go_enter Try.func96, Try.ntmps96
  go_wp2_with (first | ((with_reducible refine gate_callee (f := 118) rfl ?_); refine goesL_ (some 9) rfl rfl Try.func118 (by kernel_rfl) rfl #[.slice A0 l0.length c0] rfl mB ?_; (with_reducible refine (gooseneckref01_sorted.calls _ _ l0 t101 _ ?side1 ?side2 A2.out).mono ?_); (case side1 => exact cB1 HR0); (case side2 => exact HC0.out); rintro e w6 ⟨v102, rfl, ho0, hb⟩; refine ⟨_, rfl, ?_⟩; have HO103 := Aside0.mk (Kd.R_lower ho0 (below_size (bB0 HB))); replace HB := Aside0.mk (below_step (bB0 HB) hb); (try clear hb); (try clear hb2); (try clear hk); (try clear hi); (try clear ho0); obtain ⟨Ao7, co7, eo7⟩ := Kd.R_slice HO103.out; subst eo7))
  go_loopg [4, 5] k (fun kq v4 v5 w' => ∃ (x4_1 : List (S23)) (x5_1 : Int), v5 = .int .i64 x5_1 ∧ Aside0 (gooseneckref01_Corners.l0 kq t101 x4_1 x5_1 = some r) ∧ Aside0 (kq ≤ k) ∧ Aside0 (Kd.R k23 23 w' w.heap.size (fun k_ => some k_ ≠ (v4 : Value).ownBlock) (.slice Ao7 t101.length co7) t101) ∧ Aside0 (Kd.R k23 23 w' w.heap.size (fun k_ => some k_ ≠ ((.slice Ao7 t101.length co7) : Value).ownBlock) v4 x4_1) ∧ Aside0 (Below w.heap.size w w'))
  case atStart => exact ⟨(([] : List (S23))), (wrap64 ((t101.length : Int) - 1)), sB, H', ⟨Nat.le_refl _⟩, ⟨by (with_reducible repeat (first | apply Kd.R_alloc | apply Kd.R_drewN | apply Kd.R_drew)); exact Kd.R_mono HO103.out (fun _ hk => (by simp [Value.ownBlock]))⟩, ⟨by first | exact Kd.R_nil _ _ _ _ _ | exact Kd.N_nil _ _ _ _ _ | exact Kd.V_nil _ _ _ _ _ | exact Kd.Q_nil _ _ _ _ _ | exact Kd.S_nil _ _ _ _ _⟩, ⟨bB0 HB⟩⟩
  case round =>
   clear H'
   try clear c1
   try clear p2
   try clear c3
   try clear c3b0
   try clear c3b1
   try clear p6
   obtain ⟨x4_1, x5_1, rfl, HA, HK1, HO_3, HO_4, HB⟩ := hrel
   cases gk with
   | zero => exact absurd HA.out (by simp [gooseneckref01_Corners.l0])
   | succ k1 =>
    have H := HA.out
    clear HA
    simp only [gooseneckref01_Corners.l0] at H
    by_cases c8 : x5_1 ≥ 0
    ·rw [if_pos c8] at H
     have c8b0 : decide (0 ≤ x5_1) = true := decide_eq_true c8
     clear c8
     by_cases c9 : 0 ≤ x5_1
     ·rw [if_pos c9] at H
      have c9b0 : decide (0 ≤ x5_1) = true := decide_eq_true c9
      clear c9
      by_cases c10 : x5_1 < (t101.length : Int)
      ·rw [if_pos c10] at H
       have c10b0 : decide (x5_1 < (t101.length : Int)) = true := decide_eq_true c10
       clear c10
       by_cases c11 : x4_1.length < 8796093022208
       ·rw [if_pos c11] at H
        have LMc11 := Aside0.mk c11
        clear c11
        obtain ⟨y105, hy105⟩ : ∃ y_ : List (S23), y_ = (x4_1 ++ [(⟨(rd_T23 t101 x5_1).f0, (rd_T23 t101 x5_1).f1⟩ : S23)]) := ⟨_, rfl⟩
        replace H : (gooseneckref01_Corners.l0 k1 t101 y105 (wrap64 (x5_1 - 1))) = some r := by first | (rw [hy105]; with_reducible exact H) | (have H2_ := (Option.bind_some _ _).symm.trans H; rw [hy105]; with_reducible exact H2_) | (have H2_ := (Option.bind_some _ _).symm.trans H; with_reducible exact H2_) | with_reducible exact H | (rw [hy105]; exact H) | exact H
        have Ny105 := Aside0.mk hy105
        clear hy105
        have H' := Aside0.mk H
        clear H
        have p104 : 0 ≤ (x5_1 : Int) := oB
        have q104 : x5_1 < (t101.length : Int) := oB
        obtain ⟨ad104, e104, hx104_0, hx104_1⟩ := at_T23 (Kd.R_reads' HO_3.out).2.2 x5_1 p104 q104
        cases e104
        replace p104 := eq_true p104
        replace q104 := eq_true q104
        go_wp2_with (first | ((with_reducible refine gate_builtin (b := .append) (xs := #[.tmp 21, .tmp 26]) rfl ?_); at_builtin; refine Kd.R_append k23 (w0 := w) w.heap.size rfl (.tmp 21) (.tmp 26) 53 23 (.agg #[(.int .i64 0), (.int .i64 0)]) 16 rfl Try.underlying53 info23 rfl (by decide) (by omega) u4 x4_1 (⟨(rd_T23 t101 x5_1).f0, (rd_T23 t101 x5_1).f1⟩ : S23) [.int .i64 ((rd_T23 t101 x5_1).f0), .int .i64 ((rd_T23 t101 x5_1).f1)] (fun k_ => some k_ ≠ (.slice (some ad104) t101.length co7 : Value).ownBlock) (fun _ => False) rfl rfl ?aP (fun _ hk => hk.elim) ?aF ?aO ?aB ?aS ?aL ?_; (case aP => exact k23_mkM _ _ _ (⟨(rd_T23 t101 x5_1).f0, (rd_T23 t101 x5_1).f1⟩ : S23)); (case aB => exact (bB0 HB)); (case aF => exact (fun k_ hk => Kd.fresh' (Kd.R_lt (rB HO_3)) k_ hk)); (case aO => exact (rB HO_4)); (case aS => exact (below_size (bB0 HB))); (case aL => have := LMc11.out; omega); intro v106 w12 ho hb hg hat; rw [← Ny105.out] at ho; replace HO_3 := Aside0.mk (Kd.R_after (ok := (fun _ => True)) (by (with_reducible repeat (first | apply Kd.R_alloc | apply Kd.R_drewN | apply Kd.R_drew)); exact Kd.R_mono HO_3.out (fun _ hk => ⟨trivial, hk⟩)) hg hat); replace HB := Aside0.mk (hb); have HO107 := Aside0.mk (ho); clear HO_4; clear ho hb hg hat))
        go_roundg k1
        case measure => have := HK1.out; omega
        case rel => exact ⟨(y105), (wrap64 (x5_1 - 1)), sB, H', ⟨by have := HK1.out; omega⟩, ⟨by (with_reducible repeat (first | apply Kd.R_alloc | apply Kd.R_drewN | apply Kd.R_drew)); exact Kd.R_mono HO_3.out (fun _ hk => hk.2)⟩, ⟨rB HO107⟩, ⟨bB0 HB⟩⟩
       ·rw [if_neg c11] at H
        exact absurd H (by simp)
      ·rw [if_neg c10] at H
       exact absurd H (by simp)
     ·rw [if_neg c9] at H
      exact absurd H (by simp)
    ·rw [if_neg c8] at H
     have c8b0 : decide (0 ≤ x5_1) = false := decide_eq_false c8
     clear c8
     replace H := Option.bind_eq_some_iff.mp H
     obtain ⟨t108, A130, H⟩ := H
     replace H : ((gooseneckref01_side.f k1 x4_1).bind fun t111 => ((some (([] : List (S23)) : List (S23))).bind fun y114 => (if 0 ≤ (wrap64 ((t108.length : Int) - 1)) then (if (wrap64 ((t108.length : Int) - 1)) ≤ (t108.length : Int) then ((some (t108.take ((wrap64 ((t108.length : Int) - 1)) : Int).toNat : List (S23))).bind fun y117 => (if y114.length + y117.length < 8796093022208 then ((some (y114 ++ y117 : List (S23))).bind fun y121 => (if 0 ≤ (wrap64 ((t111.length : Int) - 1)) then (if (wrap64 ((t111.length : Int) - 1)) ≤ (t111.length : Int) then ((some (t111.take ((wrap64 ((t111.length : Int) - 1)) : Int).toNat : List (S23))).bind fun y124 => (if y121.length + y124.length < 8796093022208 then (some (y121 ++ y124)) else (none))) else (none)) else (none))) else (none))) else (none)) else (none)))) = some r := H
     have A13 := Aside0.mk A130
     clear A130
     replace H := Option.bind_eq_some_iff.mp H
     obtain ⟨t111, A140, H⟩ := H
     replace H : ((some (([] : List (S23)) : List (S23))).bind fun y114 => (if 0 ≤ (wrap64 ((t108.length : Int) - 1)) then (if (wrap64 ((t108.length : Int) - 1)) ≤ (t108.length : Int) then ((some (t108.take ((wrap64 ((t108.length : Int) - 1)) : Int).toNat : List (S23))).bind fun y117 => (if y114.length + y117.length < 8796093022208 then ((some (y114 ++ y117 : List (S23))).bind fun y121 => (if 0 ≤ (wrap64 ((t111.length : Int) - 1)) then (if (wrap64 ((t111.length : Int) - 1)) ≤ (t111.length : Int) then ((some (t111.take ((wrap64 ((t111.length : Int) - 1)) : Int).toNat : List (S23))).bind fun y124 => (if y121.length + y124.length < 8796093022208 then (some (y121 ++ y124)) else (none))) else (none)) else (none))) else (none))) else (none)) else (none))) = some r := H
     have A14 := Aside0.mk A140
     clear A140
     obtain ⟨y114, hy114⟩ : ∃ y_ : List (S23), y_ = (([] : List (S23))) := ⟨_, rfl⟩
     replace H : (if 0 ≤ (wrap64 ((t108.length : Int) - 1)) then (if (wrap64 ((t108.length : Int) - 1)) ≤ (t108.length : Int) then ((some (t108.take ((wrap64 ((t108.length : Int) - 1)) : Int).toNat : List (S23))).bind fun y117 => (if y114.length + y117.length < 8796093022208 then ((some (y114 ++ y117 : List (S23))).bind fun y121 => (if 0 ≤ (wrap64 ((t111.length : Int) - 1)) then (if (wrap64 ((t111.length : Int) - 1)) ≤ (t111.length : Int) then ((some (t111.take ((wrap64 ((t111.length : Int) - 1)) : Int).toNat : List (S23))).bind fun y124 => (if y121.length + y124.length < 8796093022208 then (some (y121 ++ y124)) else (none))) else (none)) else (none))) else (none))) else (none)) else (none)) = some r := by first | (rw [hy114]; with_reducible exact H) | (have H2_ := (Option.bind_some _ _).symm.trans H; rw [hy114]; with_reducible exact H2_) | (have H2_ := (Option.bind_some _ _).symm.trans H; with_reducible exact H2_) | with_reducible exact H | (rw [hy114]; exact H) | exact H
     have Ny114 := Aside0.mk hy114
     clear hy114
     obtain ⟨ji15, hji15⟩ : ∃ j_ : Int, (wrap64 ((t108.length : Int) - 1)) = j_ := ⟨_, rfl⟩
     replace H : (if 0 ≤ (ji15) then (if (ji15) ≤ (t108.length : Int) then ((some (t108.take ((ji15) : Int).toNat : List (S23))).bind fun y117 => (if y114.length + y117.length < 8796093022208 then ((some (y114 ++ y117 : List (S23))).bind fun y121 => (if 0 ≤ (wrap64 ((t111.length : Int) - 1)) then (if (wrap64 ((t111.length : Int) - 1)) ≤ (t111.length : Int) then ((some (t111.take ((wrap64 ((t111.length : Int) - 1)) : Int).toNat : List (S23))).bind fun y124 => (if y121.length + y124.length < 8796093022208 then (some (y121 ++ y124)) else (none))) else (none)) else (none))) else (none))) else (none)) else (none)) = some r := by first | (rw [hji15] at H; exact H) | (simp only [hji15] at H ⊢; exact H)
     (try rw [hji15] at A13)
     (try rw [hji15] at A14)
     have hji15w : (IntKind.i64.wrap ((t108.length : Int) - 1)) = ji15 := (i64_w _).trans hji15
     by_cases c16 : 0 ≤ (ji15)
     ·rw [if_pos c16] at H
      have c16b0 := eq_true c16
      have c16b1 : decide (0 ≤ (ji15)) = true := decide_eq_true c16
      clear c16
      by_cases c17 : (ji15) ≤ (t108.length : Int)
      ·rw [if_pos c17] at H
       have c17b0 := eq_true c17
       have c17b1 : decide ((ji15) ≤ (t108.length : Int)) = true := decide_eq_true c17
       clear c17
       obtain ⟨y117, hy117⟩ : ∃ y_ : List (S23), y_ = (t108.take ((ji15) : Int).toNat) := ⟨_, rfl⟩
       replace H : (if y114.length + y117.length < 8796093022208 then ((some (y114 ++ y117 : List (S23))).bind fun y121 => (if 0 ≤ (wrap64 ((t111.length : Int) - 1)) then (if (wrap64 ((t111.length : Int) - 1)) ≤ (t111.length : Int) then ((some (t111.take ((wrap64 ((t111.length : Int) - 1)) : Int).toNat : List (S23))).bind fun y124 => (if y121.length + y124.length < 8796093022208 then (some (y121 ++ y124)) else (none))) else (none)) else (none))) else (none)) = some r := by first | (rw [hy117]; with_reducible exact H) | (have H2_ := (Option.bind_some _ _).symm.trans H; rw [hy117]; with_reducible exact H2_) | (have H2_ := (Option.bind_some _ _).symm.trans H; with_reducible exact H2_) | with_reducible exact H | (rw [hy117]; exact H) | exact H
       have Ny117 := Aside0.mk hy117
       clear hy117
       by_cases c18 : y114.length + y117.length < 8796093022208
       ·rw [if_pos c18] at H
        have LMc18 := Aside0.mk c18
        clear c18
        obtain ⟨y121, hy121⟩ : ∃ y_ : List (S23), y_ = (y114 ++ y117) := ⟨_, rfl⟩
        replace H : (if 0 ≤ (wrap64 ((t111.length : Int) - 1)) then (if (wrap64 ((t111.length : Int) - 1)) ≤ (t111.length : Int) then ((some (t111.take ((wrap64 ((t111.length : Int) - 1)) : Int).toNat : List (S23))).bind fun y124 => (if y121.length + y124.length < 8796093022208 then (some (y121 ++ y124)) else (none))) else (none)) else (none)) = some r := by first | (rw [hy121]; with_reducible exact H) | (have H2_ := (Option.bind_some _ _).symm.trans H; rw [hy121]; with_reducible exact H2_) | (have H2_ := (Option.bind_some _ _).symm.trans H; with_reducible exact H2_) | with_reducible exact H | (rw [hy121]; exact H) | exact H
        have Ny121 := Aside0.mk hy121
        clear hy121
        obtain ⟨ji19, hji19⟩ : ∃ j_ : Int, (wrap64 ((t111.length : Int) - 1)) = j_ := ⟨_, rfl⟩
        replace H : (if 0 ≤ (ji19) then (if (ji19) ≤ (t111.length : Int) then ((some (t111.take ((ji19) : Int).toNat : List (S23))).bind fun y124 => (if y121.length + y124.length < 8796093022208 then (some (y121 ++ y124)) else (none))) else (none)) else (none)) = some r := by first | (rw [hji19] at H; exact H) | (simp only [hji19] at H ⊢; exact H)
        (try rw [hji19] at A13)
        (try rw [hji19] at A14)
        have hji19w : (IntKind.i64.wrap ((t111.length : Int) - 1)) = ji19 := (i64_w _).trans hji19
        by_cases c20 : 0 ≤ (ji19)
        ·rw [if_pos c20] at H
         have c20b0 := eq_true c20
         have c20b1 : decide (0 ≤ (ji19)) = true := decide_eq_true c20
         clear c20
         by_cases c21 : (ji19) ≤ (t111.length : Int)
         ·rw [if_pos c21] at H
          have c21b0 := eq_true c21
          have c21b1 : decide ((ji19) ≤ (t111.length : Int)) = true := decide_eq_true c21
          clear c21
          obtain ⟨y124, hy124⟩ : ∃ y_ : List (S23), y_ = (t111.take ((ji19) : Int).toNat) := ⟨_, rfl⟩
          replace H : (if y121.length + y124.length < 8796093022208 then (some (y121 ++ y124)) else (none)) = some r := by first | (rw [hy124]; with_reducible exact H) | (have H2_ := (Option.bind_some _ _).symm.trans H; rw [hy124]; with_reducible exact H2_) | (have H2_ := (Option.bind_some _ _).symm.trans H; with_reducible exact H2_) | with_reducible exact H | (rw [hy124]; exact H) | exact H
          have Ny124 := Aside0.mk hy124
          clear hy124
          by_cases c22 : y121.length + y124.length < 8796093022208
          ·rw [if_pos c22] at H
           have LMc22 := Aside0.mk c22
           clear c22
           obtain ⟨y128, hy128⟩ : ∃ y_ : List (S23), y_ = (y121 ++ y124) := ⟨_, rfl⟩
           replace H : (some y128) = some r := by first | (rw [hy128]; with_reducible exact H) | (have H2_ := (Option.bind_some _ _).symm.trans H; rw [hy128]; with_reducible exact H2_) | (have H2_ := (Option.bind_some _ _).symm.trans H; with_reducible exact H2_) | with_reducible exact H | (rw [hy128]; exact H) | exact H
           have Ny128 := Aside0.mk hy128
           clear hy128
           obtain rfl := Option.some.inj H
           try go_wp2_with (first | ((with_reducible refine gate_callee (f := 119) rfl ?_); refine goesL_ (some 29) rfl rfl Try.func119 (by kernel_rfl) rfl #[.slice Ao7 t101.length co7] rfl mB ?_; (with_reducible refine (gooseneckref01_side.calls k1 _ _ t101 t108 _ ?side1 ?side2 A13.out).mono ?_); (case side1 => exact cB2 HO_3); (case side2 => exact (Kd.R_reads' HO_3.out).2.1); rintro e w23 ⟨v109, rfl, ho0, hb⟩; refine ⟨_, rfl, ?_⟩; have n0_ := Aside0.mk (Kd.R_elder' (rB HO_3) (Kd.R_base ho0) hb); have n1_ := Aside0.mk (Kd.R_elder' (rB HO_4) (Kd.R_base ho0) hb); have HO110 := Aside0.mk (Kd.R_lower (Kd.R_new' (Kd.R_new' ho0 (Kd.R_lt (rB HO_3))) (Kd.R_lt (rB HO_4))) (below_size (bB0 HB))); replace HB := Aside0.mk (below_step (bB0 HB) hb); clear HO_3; clear HO_4; have HO_3 := n0_; have HO_4 := n1_; clear n0_ n1_; (try clear hb); (try clear hb2); (try clear hk); (try clear hi); (try clear ho0); obtain ⟨Ao24, co24, eo24⟩ := Kd.R_slice HO_4.out; subst eo24) | ((with_reducible refine gate_callee (f := 119) rfl ?_); refine goesL_ (some 31) rfl rfl Try.func119 (by kernel_rfl) rfl #[.slice Ao24 x4_1.length co24] rfl mB ?_; (with_reducible refine (gooseneckref01_side.calls k1 _ _ x4_1 t111 _ ?side1 ?side2 A14.out).mono ?_); (case side1 => exact cB2 HO_4); (case side2 => exact (Kd.R_reads' HO_4.out).2.1); rintro e w25 ⟨v112, rfl, ho0, hb⟩; refine ⟨_, rfl, ?_⟩; have n0_ := Aside0.mk (Kd.R_elder' (rB HO_3) (Kd.R_base ho0) hb); have n1_ := Aside0.mk (Kd.R_elder' (rB HO_4) (Kd.R_base ho0) hb); have n2_ := Aside0.mk (Kd.R_elder' (rB HO110) (Kd.R_base ho0) hb); have HO113 := Aside0.mk (Kd.R_lower (Kd.R_new' (Kd.R_new' (Kd.R_new' ho0 (Kd.R_lt (rB HO_3))) (Kd.R_lt (rB HO_4))) (Kd.R_lt (rB HO110))) (below_size (bB0 HB))); replace HB := Aside0.mk (below_step (bB0 HB) hb); clear HO_3; clear HO_4; clear HO110; have HO_3 := n0_; have HO_4 := n1_; have HO110 := n2_; clear n0_ n1_ n2_; (try clear hb); (try clear hb2); (try clear hk); (try clear hi); (try clear ho0)))
           replace HO_3 := Aside0.mk (Kd.R_drew HO_3.out)
           replace HO_4 := Aside0.mk (Kd.R_drew HO_4.out)
           replace HO110 := Aside0.mk (Kd.R_drew HO110.out)
           replace HO113 := Aside0.mk (Kd.R_drew HO113.out)
           replace HB := Aside0.mk (below_drew1 HB.out)
           obtain ⟨Ao27, co27, eo27⟩ := Kd.R_slice HO110.out
           (first | subst eo27 | (injection eo27 with f1_ f2_ f3_; have f4_ := f1_.symm; have f5_ := f3_.symm; clear f1_ f2_ f3_; subst f4_; subst f5_))
           have q28 : ((ji15) : Int) ≤ ((t108.length : Int) : Int) := oB
           obtain ⟨i028, hi028, _, hsz28, _⟩ := info_parts info23
           have hroom28 : t108.length ≤ co27 := (Kd.R_reads' HO110.out).2.1
           have hC28 : Kd.C k23 _ Ao27 t108.length t108 := (Kd.R_reads' HO110.out).2.2
           have hcut28 := cut_to (P := Try.prog) 53 23 .i64 Try.underlying53 hi028 Ao27 t108.length co27 (ji15) (oB) q28 hroom28
           have hr28 := Kd.C_take (m := ((ji15) : Int).toNat) hC28 (by omega)
           have hy28 : y117.length = ((ji15) : Int).toNat := (by rw [Ny117.out, List.length_take]; omega)
           rw [← Ny117.out] at hr28
           rw [← hy28] at hcut28
           have HR120 := Aside0.mk hr28
           have HC120 := Aside0.mk (show y117.length ≤ co27 from by omega)
           clear hr28 hC28 hroom28 hi028 hsz28
           have KY28 := Aside0.mk hy28
           clear hy28
           have KL28 := Aside0.mk (show ((ji15) : Int).toNat ≤ t108.length from by omega)
           replace q28 := eq_true q28
           obtain ⟨Ao29, co29, eo29⟩ := Kd.R_slice HO113.out
           (first | subst eo29 | (injection eo29 with f1_ f2_ f3_; have f4_ := f1_.symm; have f5_ := f3_.symm; clear f1_ f2_ f3_; subst f4_; subst f5_))
           have q30 : ((ji19) : Int) ≤ ((t111.length : Int) : Int) := oB
           obtain ⟨i030, hi030, _, hsz30, _⟩ := info_parts info23
           have hroom30 : t111.length ≤ co29 := (Kd.R_reads' HO113.out).2.1
           have hC30 : Kd.C k23 _ Ao29 t111.length t111 := (Kd.R_reads' HO113.out).2.2
           have hcut30 := cut_to (P := Try.prog) 53 23 .i64 Try.underlying53 hi030 Ao29 t111.length co29 (ji19) (oB) q30 hroom30
           have hr30 := Kd.C_take (m := ((ji19) : Int).toNat) hC30 (by omega)
           have hy30 : y124.length = ((ji19) : Int).toNat := (by rw [Ny124.out, List.length_take]; omega)
           rw [← Ny124.out] at hr30
           rw [← hy30] at hcut30
           have HR127 := Aside0.mk hr30
           have HC127 := Aside0.mk (show y124.length ≤ co29 from by omega)
           clear hr30 hC30 hroom30 hi030 hsz30
           have KY30 := Aside0.mk hy30
           clear hy30
           have KL30 := Aside0.mk (show ((ji19) : Int).toNat ≤ t111.length from by omega)
           replace q30 := eq_true q30
           refine start_ (n := 14) (S := fun w' => True) (ds := []) #[false, false, false, false, false, false, false, false, false, false, false, false, false, false] (by kernel_rfl) rfl rfl trivial (fun hHeld => ?_); refine with_tabW gooseneckref01_Corners.tab11 gooseneckref01_Corners.bits11 (fun HT_ HW_ => ?_)
           generalize w25.drew = w26 at HO_3 HO_4 HO110 HO113 HB HR120 HR127 hHeld ⊢
           refine pS 1 (some 33) HT_ ?_
           refine pS 2 (some 34) HT_ ?_
           refine pS 3 (some 35) HT_ ?_
           refine pS 4 (some 36) HT_ ?_
           refine pS 5 (some 37) HT_ ?_
           refine pS 7 (some 39) HT_ ?_
           refine pS 8 (some 40) HT_ ?_
           refine pS 9 (some 41) HT_ ?_
           refine pS 10 (some 42) HT_ ?_
           refine pS 11 (some 43) HT_ ?_
           refine one_ (i := 0) (N := some 32) #[true, true, true, true, true, true, false, true, true, true, true, true, false, false] rfl rfl (one_of HT_.out (by kernel_rfl)) (by decide) (fun K hK => ?_)
           refine Kd.R_lit_step k23 _ 23 ?hg (N := 32) ?hd (xs := ([] : List (S23))) (inner := []) (ok := fun _ => True) (okp := fun _ => True) ?hr ?hp (fun _ hk => hk) trivial (Below.refl _ _) (Nat.le_refl _) (by simp) ?_; (case hd => rfl); (case hg => rfl); (case hr => first | (go_simp; done) | (go_simp; rfl)); (case hp => exact (Reps.none _ _))
           intro v115 w31 ho32 hb hg_ hnew_
           clear hg_ hnew_
           (first | rw [← Ny114.out] at ho32 | (simp only [Int.reduceToNat] at ho32; rw [← Ny114.out] at ho32))
           have n0_ := Aside0.mk (Kd.R_elder' (rB HO_3) (Kd.R_base ho32) hb)
           have n1_ := Aside0.mk (Kd.R_elder' (rB HO_4) (Kd.R_base ho32) hb)
           have n2_ := Aside0.mk (Kd.R_elder' (rB HO110) (Kd.R_base ho32) hb)
           have n3_ := Aside0.mk (Kd.R_elder' (rB HO113) (Kd.R_base ho32) hb)
           have HO116 := Aside0.mk (Kd.R_lower (Kd.R_new' (Kd.R_new' (Kd.R_new' (Kd.R_new' ho32 (Kd.R_lt (rB HO_3))) (Kd.R_lt (rB HO_4))) (Kd.R_lt (rB HO110))) (Kd.R_lt (rB HO113))) (below_size (bB0 HB)))
           replace HR120 := Aside0.mk (Kd.C_below (by repeat (first | (with_reducible exact HR120.out) | (with_reducible refine Kd.C_alloc ?_ _) | (with_reducible refine Kd.C_drewN ?_ _) | (with_reducible refine Kd.C_drew ?_) | exact HR120.out)) hb)
           replace HR127 := Aside0.mk (Kd.C_below (by repeat (first | (with_reducible exact HR127.out) | (with_reducible refine Kd.C_alloc ?_ _) | (with_reducible refine Kd.C_drewN ?_ _) | (with_reducible refine Kd.C_drew ?_) | exact HR127.out)) hb)
           replace HB := Aside0.mk (below_step (bB0 HB) hb)
           clear HO_3
           clear HO_4
           clear HO110
           clear HO113
           have HO_3 := n0_
           have HO_4 := n1_
           have HO110 := n2_
           have HO113 := n3_
           clear n0_ n1_ n2_ n3_
           clear hb ho32
           refine hK.out _ _ trivial (fun hHeld => ?_)
           clear hK K
           refine nZ (some 32) ?_
           refine one_ (i := 6) (N := some 38) #[true, true, true, true, true, true, true, true, true, true, true, true, false, false] rfl rfl (one_of HT_.out (by kernel_rfl)) (by decide) (fun K hK => ?_)
           refine Kd.R_append_rows_step k23 (w0 := w) w.heap.size (by rfl) (.tmp 32) (.tmp 37) 53 23 (.agg #[(.int .i64 0), (.int .i64 0)]) 16 rfl Try.underlying53 info23 rfl (by decide) (by omega) v115 y114 y117 _ _ _ (fun k_ => some k_ ≠ (.slice Ao7 t101.length co7 : Value).ownBlock ∧ some k_ ≠ (.slice Ao24 x4_1.length co24 : Value).ownBlock ∧ some k_ ≠ (.slice Ao27 t108.length co27 : Value).ownBlock ∧ some k_ ≠ (.slice Ao29 t111.length co29 : Value).ownBlock) (fun _ => False) rfl rfl ?aO ?aR (fun _ _ h => h) (fun _ h => h.elim) ?aF ?aB ?aS ?aL ?_
           (case aR => repeat (first | exact (by repeat (first | (with_reducible exact HR120.out) | (with_reducible refine Kd.C_alloc ?_ _) | (with_reducible refine Kd.C_drewN ?_ _) | (with_reducible refine Kd.C_drew ?_) | exact HR120.out)) | (with_reducible refine Kd.C_alloc ?_ _) | (with_reducible refine Kd.C_drewN ?_ _) | (with_reducible refine Kd.C_drew ?_)))
           (case aB => exact (bB0 HB))
           (case aF => exact (fun k_ hk => ⟨Kd.fresh' (Kd.R_lt (rB HO_3)) k_ hk, Kd.fresh' (Kd.R_lt (rB HO_4)) k_ hk, Kd.fresh' (Kd.R_lt (rB HO110)) k_ hk, Kd.fresh' (Kd.R_lt (rB HO113)) k_ hk⟩))
           (case aO => exact (by (with_reducible repeat (first | apply Kd.R_alloc | apply Kd.R_drewN | apply Kd.R_drew)); exact Kd.R_mono HO116.out (fun _ hk => ⟨hk.1.1.1.2, ⟨hk.1.1.2, ⟨hk.1.2, hk.2⟩⟩⟩)))
           (case aS => exact (below_size (bB0 HB)))
           (case aL => have := LMc18.out; omega)
           intro v122 w33 ho hb hg hat
           rw [← Ny121.out] at ho
           replace HO_3 := Aside0.mk (Kd.R_after (ok := (fun k_ => some k_ ≠ (.slice Ao24 x4_1.length co24 : Value).ownBlock ∧ some k_ ≠ (.slice Ao27 t108.length co27 : Value).ownBlock ∧ some k_ ≠ (.slice Ao29 t111.length co29 : Value).ownBlock)) (by (with_reducible repeat (first | apply Kd.R_alloc | apply Kd.R_drewN | apply Kd.R_drew)); exact Kd.R_mono HO_3.out (fun _ hk => ⟨⟨hk.1.1.1, ⟨hk.1.1.2, hk.1.2⟩⟩, hk.2⟩)) hg hat)
           replace HO_4 := Aside0.mk (Kd.R_after (ok := (fun k_ => some k_ ≠ (.slice Ao7 t101.length co7 : Value).ownBlock ∧ some k_ ≠ (.slice Ao27 t108.length co27 : Value).ownBlock ∧ some k_ ≠ (.slice Ao29 t111.length co29 : Value).ownBlock)) (by (with_reducible repeat (first | apply Kd.R_alloc | apply Kd.R_drewN | apply Kd.R_drew)); exact Kd.R_mono HO_4.out (fun _ hk => ⟨⟨hk.1.1.1, ⟨hk.1.1.2, hk.1.2⟩⟩, hk.2⟩)) hg hat)
           have n2_ := Aside0.mk (Kd.R_after (ok := (fun k_ => some k_ ≠ (.slice Ao7 t101.length co7 : Value).ownBlock ∧ some k_ ≠ (.slice Ao24 x4_1.length co24 : Value).ownBlock ∧ some k_ ≠ (.slice Ao29 t111.length co29 : Value).ownBlock)) (by (with_reducible repeat (first | apply Kd.R_alloc | apply Kd.R_drewN | apply Kd.R_drew)); exact Kd.R_mono HO110.out (fun _ hk => ⟨⟨hk.1.1.1.2, ⟨hk.1.1.2, hk.1.2⟩⟩, hk.2⟩)) hg hat)
           have n3_ := Aside0.mk (Kd.R_after (ok := (fun k_ => some k_ ≠ (.slice Ao7 t101.length co7 : Value).ownBlock ∧ some k_ ≠ (.slice Ao24 x4_1.length co24 : Value).ownBlock ∧ some k_ ≠ (.slice Ao27 t108.length co27 : Value).ownBlock)) (by (with_reducible repeat (first | apply Kd.R_alloc | apply Kd.R_drewN | apply Kd.R_drew)); exact Kd.R_mono HO113.out (fun _ hk => ⟨⟨hk.1.1.1.2, ⟨hk.1.1.2, hk.1.2⟩⟩, hk.2⟩)) hg hat)
           replace HB := Aside0.mk (hb)
           replace HR120 := Aside0.mk ((show Kd.C k23 w33 Ao27 y117.length y117 from by rw [Ny117.out]; exact Kd.C_take (m := ((ji15) : Int).toNat) ((Kd.R_reads' (Kd.R_after (ok := (fun k_ => some k_ ≠ (.slice Ao7 t101.length co7 : Value).ownBlock ∧ some k_ ≠ (.slice Ao24 x4_1.length co24 : Value).ownBlock ∧ some k_ ≠ (.slice Ao29 t111.length co29 : Value).ownBlock)) (by (with_reducible repeat (first | apply Kd.R_alloc | apply Kd.R_drewN | apply Kd.R_drew)); exact Kd.R_mono HO110.out (fun _ hk => ⟨⟨hk.1.1.1.2, ⟨hk.1.1.2, hk.1.2⟩⟩, hk.2⟩)) hg hat)).2.2) KL28.out))
           replace HR127 := Aside0.mk ((show Kd.C k23 w33 Ao29 y124.length y124 from by rw [Ny124.out]; exact Kd.C_take (m := ((ji19) : Int).toNat) ((Kd.R_reads' (Kd.R_after (ok := (fun k_ => some k_ ≠ (.slice Ao7 t101.length co7 : Value).ownBlock ∧ some k_ ≠ (.slice Ao24 x4_1.length co24 : Value).ownBlock ∧ some k_ ≠ (.slice Ao27 t108.length co27 : Value).ownBlock)) (by (with_reducible repeat (first | apply Kd.R_alloc | apply Kd.R_drewN | apply Kd.R_drew)); exact Kd.R_mono HO113.out (fun _ hk => ⟨⟨hk.1.1.1.2, ⟨hk.1.1.2, hk.1.2⟩⟩, hk.2⟩)) hg hat)).2.2) KL30.out))
           have HO123 := Aside0.mk (ho)
           clear HO110
           clear HO113
           clear HO116
           have HO110 := n2_
           have HO113 := n3_
           clear n2_ n3_
           clear ho hb hg hat
           refine hK.out _ _ trivial (fun hHeld => ?_)
           clear hK K
           refine nZ (some 38) ?_
           refine one_ (i := 12) (N := some 44) #[true, true, true, true, true, true, true, true, true, true, true, true, true, false] rfl rfl (one_of HT_.out (by kernel_rfl)) (by decide) (fun K hK => ?_)
           refine Kd.R_append_rows_step k23 (w0 := w) w.heap.size (by rfl) (.tmp 38) (.tmp 43) 53 23 (.agg #[(.int .i64 0), (.int .i64 0)]) 16 rfl Try.underlying53 info23 rfl (by decide) (by omega) v122 y121 y124 _ _ _ (fun k_ => some k_ ≠ (.slice Ao7 t101.length co7 : Value).ownBlock ∧ some k_ ≠ (.slice Ao24 x4_1.length co24 : Value).ownBlock ∧ some k_ ≠ (.slice Ao27 t108.length co27 : Value).ownBlock ∧ some k_ ≠ (.slice Ao29 t111.length co29 : Value).ownBlock) (fun _ => False) rfl rfl ?aO ?aR (fun _ _ h => h) (fun _ h => h.elim) ?aF ?aB ?aS ?aL ?_
           (case aR => repeat (first | exact (by repeat (first | (with_reducible exact HR127.out) | (with_reducible refine Kd.C_alloc ?_ _) | (with_reducible refine Kd.C_drewN ?_ _) | (with_reducible refine Kd.C_drew ?_) | exact HR127.out)) | (with_reducible refine Kd.C_alloc ?_ _) | (with_reducible refine Kd.C_drewN ?_ _) | (with_reducible refine Kd.C_drew ?_)))
           (case aB => exact (bB0 HB))
           (case aF => exact (fun k_ hk => ⟨Kd.fresh' (Kd.R_lt (rB HO_3)) k_ hk, Kd.fresh' (Kd.R_lt (rB HO_4)) k_ hk, Kd.fresh' (Kd.R_lt (rB HO110)) k_ hk, Kd.fresh' (Kd.R_lt (rB HO113)) k_ hk⟩))
           (case aO => exact (rB HO123))
           (case aS => exact (below_size (bB0 HB)))
           (case aL => have := LMc22.out; omega)
           intro v129 w34 ho hb hg hat
           rw [← Ny128.out] at ho
           replace HO_3 := Aside0.mk (Kd.R_after (ok := (fun k_ => some k_ ≠ (.slice Ao24 x4_1.length co24 : Value).ownBlock ∧ some k_ ≠ (.slice Ao27 t108.length co27 : Value).ownBlock ∧ some k_ ≠ (.slice Ao29 t111.length co29 : Value).ownBlock)) (rB HO_3) hg hat)
           replace HO_4 := Aside0.mk (Kd.R_after (ok := (fun k_ => some k_ ≠ (.slice Ao7 t101.length co7 : Value).ownBlock ∧ some k_ ≠ (.slice Ao27 t108.length co27 : Value).ownBlock ∧ some k_ ≠ (.slice Ao29 t111.length co29 : Value).ownBlock)) (rB HO_4) hg hat)
           have n2_ := Aside0.mk (Kd.R_after (ok := (fun k_ => some k_ ≠ (.slice Ao7 t101.length co7 : Value).ownBlock ∧ some k_ ≠ (.slice Ao24 x4_1.length co24 : Value).ownBlock ∧ some k_ ≠ (.slice Ao29 t111.length co29 : Value).ownBlock)) (rB HO110) hg hat)
           have n3_ := Aside0.mk (Kd.R_after (ok := (fun k_ => some k_ ≠ (.slice Ao7 t101.length co7 : Value).ownBlock ∧ some k_ ≠ (.slice Ao24 x4_1.length co24 : Value).ownBlock ∧ some k_ ≠ (.slice Ao27 t108.length co27 : Value).ownBlock)) (rB HO113) hg hat)
           replace HB := Aside0.mk (hb)
           replace HR120 := Aside0.mk ((show Kd.C k23 w34 Ao27 y117.length y117 from by rw [Ny117.out]; exact Kd.C_take (m := ((ji15) : Int).toNat) ((Kd.R_reads' (Kd.R_after (ok := (fun k_ => some k_ ≠ (.slice Ao7 t101.length co7 : Value).ownBlock ∧ some k_ ≠ (.slice Ao24 x4_1.length co24 : Value).ownBlock ∧ some k_ ≠ (.slice Ao29 t111.length co29 : Value).ownBlock)) (rB HO110) hg hat)).2.2) KL28.out))
           replace HR127 := Aside0.mk ((show Kd.C k23 w34 Ao29 y124.length y124 from by rw [Ny124.out]; exact Kd.C_take (m := ((ji19) : Int).toNat) ((Kd.R_reads' (Kd.R_after (ok := (fun k_ => some k_ ≠ (.slice Ao7 t101.length co7 : Value).ownBlock ∧ some k_ ≠ (.slice Ao24 x4_1.length co24 : Value).ownBlock ∧ some k_ ≠ (.slice Ao27 t108.length co27 : Value).ownBlock)) (rB HO113) hg hat)).2.2) KL30.out))
           have HO130 := Aside0.mk (ho)
           clear HO110
           clear HO113
           clear HO123
           have HO110 := n2_
           have HO113 := n3_
           clear n2_ n3_
           clear ho hb hg hat
           refine hK.out _ _ trivial (fun hHeld => ?_)
           clear hK K
           refine nZ (some 44) ?_
           refine pS 13 (some 2) HT_ ?_
           refine done_ (done_of HT_.out (by kernel_rfl)) ?_
           try go_wp2
           go_ret
           exact ⟨_, by first | rfl | (simp [errW_none, errW_some] <;> rfl) | (simp only [← hji15, ← hji19]; first | rfl | (simp [errW_none, errW_some] <;> rfl)) | (simp [*, errW_none, errW_some] <;> rfl), by (with_reducible repeat (first | apply Kd.R_alloc | apply Kd.R_drewN | apply Kd.R_drew)); exact Kd.R_mono HO130.out (fun _ hk => trivial), bB0 HB⟩
          ·rw [if_neg c22] at H
           exact absurd H (by simp)
         ·rw [if_neg c21] at H
          exact absurd H (by simp)
        ·rw [if_neg c20] at H
         exact absurd H (by simp)
       ·rw [if_neg c18] at H
        exact absurd H (by simp)
      ·rw [if_neg c17] at H
       exact absurd H (by simp)
     ·rw [if_neg c16] at H
      exact absurd H (by simp)
def gooseneckref01_IsHull.f (k : Nat) (l0 : List (S23)) : Option (Bool) := (gooseneckref01_points.f k l0).bind fun t101 => (if t101 = 0 then (if (l0.length : Int) > 0 then ((gooseneckref01_Corners.f k l0).bind fun t102 => ((gooseneckref01_Same.f k t102 l0).bind fun t105 => (some t105))) else (some false)) else (some false))
theorem gooseneckref01_IsHull.mono : ∀ a0 k, LeO (gooseneckref01_IsHull.f k a0) (gooseneckref01_IsHull.f (k + 1) a0) := by
 intro a0 k
 unfold gooseneckref01_IsHull.f
 repeat' first
   | (with_reducible exact gooseneckref01_Corners.mono _ _)
   | (with_reducible exact gooseneckref01_Same.mono _ _ _)
   | (with_reducible exact gooseneckref01_points.mono _ _)
   | (with_reducible exact LeO.refl _)
   | (with_reducible exact LeO.none _)
   | (with_reducible refine LeO.ite ?_ ?_)
   | (with_reducible refine LeO.bind ?_ (fun _ => ?_))
   | exact gooseneckref01_Corners.mono _ _
   | exact gooseneckref01_Same.mono _ _ _
   | exact gooseneckref01_points.mono _ _
   | exact LeO.none _
   | refine LeO.ite ?_ ?_
   | refine LeO.bind ?_ (fun _ => ?_)
set_option maxHeartbeats 8000000 in
set_option maxRecDepth 100000 in
theorem gooseneckref01_IsHull.calls (k : Nat) (A0 : Option Addr) (c0 : Nat) (l0 : List (S23)) (r : Bool) (w : World) (hr0 : Kd.C k23 w A0 l0.length l0) (hc0 : l0.length ≤ c0) (h : gooseneckref01_IsHull.f k l0 = some r) :
  Calls Try.prog 52 #[.slice A0 l0.length c0] w fun e w' => e = .returned (.bool r) ∧ Below w.heap.size w w' := by
 have HR0 := Aside0.mk hr0
 have HC0 := Aside0.mk hc0
 clear hr0 hc0
 have HB := Aside0.mk (Below.refl w.heap.size w)
 have H : ((gooseneckref01_points.f k l0).bind fun t101 => (if t101 = 0 then (if (l0.length : Int) > 0 then ((gooseneckref01_Corners.f k l0).bind fun t102 => ((gooseneckref01_Same.f k t102 l0).bind fun t105 => (some t105))) else (some false)) else (some false))) = some r := h
 clear h
 replace H := Option.bind_eq_some_iff.mp H
 obtain ⟨t101, A20, H⟩ := H
 replace H : (if t101 = 0 then (if (l0.length : Int) > 0 then ((gooseneckref01_Corners.f k l0).bind fun t102 => ((gooseneckref01_Same.f k t102 l0).bind fun t105 => (some t105))) else (some false)) else (some false)) = some r := H
 have A2 := Aside0.mk A20
 clear A20
 by_cases c3 : t101 = 0
 ·rw [if_pos c3] at H
  have c3b0 : (t101 == 0) = true := beq_iff_eq.mpr c3
  have c3b1 : (t101 != 0) = false := bne_eq_false_iff_eq.mpr c3
  clear c3
  by_cases c4 : (l0.length : Int) > 0
  ·rw [if_pos c4] at H
   have c4b0 : decide (0 < (l0.length : Int)) = true := decide_eq_true c4
   have c4b1 : decide (0 < l0.length) = true := decide_eq_true (by omega)
   clear c4
   replace H := Option.bind_eq_some_iff.mp H
   obtain ⟨t102, A50, H⟩ := H
   replace H : ((gooseneckref01_Same.f k t102 l0).bind fun t105 => (some t105)) = some r := H
   have A5 := Aside0.mk A50
   clear A50
   replace H := Option.bind_eq_some_iff.mp H
   obtain ⟨t105, A60, H⟩ := H
   replace H : (some t105) = some r := H
   have A6 := Aside0.mk A60
   clear A60
   obtain rfl := Option.some.inj H
   go_enter Try.func52, Try.ntmps52
   go_wp2_with (first | ((with_reducible refine gate_callee (f := 89) rfl ?_); refine goesL_ (some 4) rfl rfl Try.func89 (by kernel_rfl) rfl #[.slice A0 l0.length c0] rfl mB ?_; (with_reducible refine (gooseneckref01_points.calls k _ _ l0 t101 _ ?side1 ?side2 A2.out).mono ?_); (case side1 => exact cB1 HR0); (case side2 => exact HC0.out); rintro e w7 ⟨rfl, hb⟩; refine ⟨_, rfl, ?_⟩; replace HB := Aside0.mk (below_step (bB0 HB) hb); (try clear hb); (try clear hb2); (try clear hk); (try clear hi)) | (go_at_call 96; (with_reducible refine (gooseneckref01_Corners.calls k _ _ l0 t102 _ ?side1 ?side2 A5.out).mono ?_); (case side1 => exact cB HR0 HB); (case side2 => exact HC0.out); rintro e w8 ⟨v103, rfl, ho0, hb⟩; have HO104 := Aside0.mk (Kd.R_lower ho0 (below_size (bB0 HB))); replace HB := Aside0.mk (below_step (bB0 HB) hb); (try clear hb); (try clear hb2); (try clear hk); (try clear hi); (try clear ho0); obtain ⟨Ao9, co9, eo9⟩ := Kd.R_slice HO104.out; subst eo9) | (go_at_call 50; (with_reducible refine (gooseneckref01_Same.calls k _ _ t102 _ _ l0 t105 _ ?side1 ?side2 ?side3 ?side4 A6.out).mono ?_); (case side1 => exact cB2 HO104); (case side2 => exact (Kd.R_reads' HO104.out).2.1); (case side3 => exact cB HR0 HB); (case side4 => exact HC0.out); rintro e w' ⟨rfl, ⟨nd, rfl⟩⟩))
   go_ret
   exact ⟨eB, bB0 HB⟩
  ·rw [if_neg c4] at H
   have c4b0 : decide (0 < (l0.length : Int)) = false := decide_eq_false c4
   have c4b1 : decide (0 < l0.length) = false := decide_eq_false (by omega)
   clear c4
   obtain rfl := Option.some.inj H
   go_enter Try.func52, Try.ntmps52
   go_wp2_with (first | ((with_reducible refine gate_callee (f := 89) rfl ?_); refine goesL_ (some 4) rfl rfl Try.func89 (by kernel_rfl) rfl #[.slice A0 l0.length c0] rfl mB ?_; (with_reducible refine (gooseneckref01_points.calls k _ _ l0 t101 _ ?side1 ?side2 A2.out).mono ?_); (case side1 => exact cB1 HR0); (case side2 => exact HC0.out); rintro e w10 ⟨rfl, hb⟩; refine ⟨_, rfl, ?_⟩; replace HB := Aside0.mk (below_step (bB0 HB) hb); (try clear hb); (try clear hb2); (try clear hk); (try clear hi)))
   go_ret
   exact ⟨eB, bB0 HB⟩
 ·rw [if_neg c3] at H
  have c3b0 : (t101 == 0) = false := beq_eq_false_iff_ne.mpr c3
  have c3b1 : (t101 != 0) = true := bne_iff_ne.mpr c3
  obtain rfl := Option.some.inj H
  go_enter Try.func52, Try.ntmps52
  go_wp2_with (first | ((with_reducible refine gate_callee (f := 89) rfl ?_); refine goesL_ (some 4) rfl rfl Try.func89 (by kernel_rfl) rfl #[.slice A0 l0.length c0] rfl mB ?_; (with_reducible refine (gooseneckref01_points.calls k _ _ l0 t101 _ ?side1 ?side2 A2.out).mono ?_); (case side1 => exact cB1 HR0); (case side2 => exact HC0.out); rintro e w11 ⟨rfl, hb⟩; refine ⟨_, rfl, ?_⟩; replace HB := Aside0.mk (below_step (bB0 HB) hb); (try clear hb); (try clear hb2); (try clear hk); (try clear hi)))
  go_ret
  exact ⟨eB, bB0 HB⟩
def gooseneckref01_hulls.j0 : Nat → List (S23) → List (S23) → Bool → Option (Int)
 | 0, _, _, _ => none
 | k + 1, x0, x1, x12 => if x12 = true then (some 6) else ((gooseneckref01_points.f k x0).bind fun t101 => (if t101 = 0 then ((gooseneckref01_points.f k x1).bind fun t102 => (if t102 = 0 then ((gooseneckref01_IsHull.f k x0).bind fun t103 => (if t103 = true then ((gooseneckref01_IsHull.f k x1).bind fun t104 => (if t104 = true then (some 0) else (some 2))) else (some 2))) else (some 2))) else (some 2)))
def gooseneckref01_hulls.f (k : Nat) (l0 : List (S23)) (l1 : List (S23)) : Option (Int) := if (l0.length : Int) > 256 then (gooseneckref01_hulls.j0 k l0 l1 true) else (gooseneckref01_hulls.j0 k l0 l1 (decide ((l1.length : Int) > 256)))
theorem gooseneckref01_hulls.mono_l : ∀ k, (∀ y0 y1 y2, LeO (gooseneckref01_hulls.j0 k y0 y1 y2) (gooseneckref01_hulls.j0 (k + 1) y0 y1 y2))
 | 0 => fun _ _ _ r h => by simp [gooseneckref01_hulls.j0] at h
 | k + 1 => by
  have ih0 := gooseneckref01_hulls.mono_l k
  ·intro y0 y1 y2
   unfold gooseneckref01_hulls.j0
   repeat' first
   | (with_reducible exact ih0 _ _ _)
   | (with_reducible exact gooseneckref01_IsHull.mono _ _)
   | (with_reducible exact gooseneckref01_points.mono _ _)
   | (with_reducible exact LeO.refl _)
   | (with_reducible exact LeO.none _)
   | (with_reducible refine LeO.ite ?_ ?_)
   | (with_reducible refine LeO.bind ?_ (fun _ => ?_))
   | exact ih0 _ _ _
   | exact gooseneckref01_IsHull.mono _ _
   | exact gooseneckref01_points.mono _ _
   | exact LeO.none _
   | refine LeO.ite ?_ ?_
   | refine LeO.bind ?_ (fun _ => ?_)
theorem gooseneckref01_hulls.mono : ∀ a0 a1 k, LeO (gooseneckref01_hulls.f k a0 a1) (gooseneckref01_hulls.f (k + 1) a0 a1) := by
 intro a0 a1 k
 have ih0 := gooseneckref01_hulls.mono_l k
 unfold gooseneckref01_hulls.f
 repeat' first
   | (with_reducible exact ih0 _ _ _)
   | (with_reducible exact gooseneckref01_IsHull.mono _ _)
   | (with_reducible exact gooseneckref01_points.mono _ _)
   | (with_reducible exact LeO.refl _)
   | (with_reducible exact LeO.none _)
   | (with_reducible refine LeO.ite ?_ ?_)
   | (with_reducible refine LeO.bind ?_ (fun _ => ?_))
   | exact ih0 _ _ _
   | exact gooseneckref01_IsHull.mono _ _
   | exact gooseneckref01_points.mono _ _
   | exact LeO.none _
   | refine LeO.ite ?_ ?_
   | refine LeO.bind ?_ (fun _ => ?_)
set_option maxHeartbeats 8000000 in
set_option maxRecDepth 100000 in
theorem gooseneckref01_hulls.calls (k : Nat) (A0 : Option Addr) (c0 : Nat) (l0 : List (S23)) (A1 : Option Addr) (c1 : Nat) (l1 : List (S23)) (r : Int) (w : World) (hr0 : Kd.C k23 w A0 l0.length l0) (hc0 : l0.length ≤ c0) (hr1 : Kd.C k23 w A1 l1.length l1) (hc1 : l1.length ≤ c1) (h : gooseneckref01_hulls.f k l0 l1 = some r) :
  Calls Try.prog 97 #[.slice A0 l0.length c0, .slice A1 l1.length c1] w fun e w' => e = .returned (.int .i64 r) ∧ Below w.heap.size w w' := by
 have HR0 := Aside0.mk hr0
 have HC0 := Aside0.mk hc0
 clear hr0 hc0
 have HR1 := Aside0.mk hr1
 have HC1 := Aside0.mk hc1
 clear hr1 hc1
 have HB := Aside0.mk (Below.refl w.heap.size w)
 have H : (if (l0.length : Int) > 256 then (gooseneckref01_hulls.j0 k l0 l1 true) else (gooseneckref01_hulls.j0 k l0 l1 (decide ((l1.length : Int) > 256)))) = some r := h
 clear h
 have HC3 := Aside0.mk H
 clear H
 go_enter Try.func97, Try.ntmps97
 go_upto_region 1 with (fail)
 go_cut [12] (fun v12 wc => ∃ (kq : Nat) (x12_2 : Bool), v12 = .bool x12_2 ∧ Aside0 (gooseneckref01_hulls.j0 kq l0 l1 x12_2 = some r) ∧ Aside0 (kq ≤ k) ∧ Aside0 (Below w.heap.size w wc))
 case first =>
  have H := HC3.out
  clear HC3
  by_cases c4 : (l0.length : Int) > 256
  ·rw [if_pos c4] at H
   have c4b0 : decide (256 < (l0.length : Int)) = true := decide_eq_true c4
   have c4b1 : decide (256 < l0.length) = true := decide_eq_true (by omega)
   clear c4
   (first | rw [c4b0] | (simp only [i64_w, i32_w]; rw [c4b0]) | skip)
   have H' := Aside0.mk H
   clear H
   go_wp2
   go_meet
   case rel => exact ⟨_, (true), sB, H', ⟨by first | omega | exact Nat.le_refl _⟩, ⟨bB0 HB⟩⟩
  ·rw [if_neg c4] at H
   have c4b0 : decide (256 < (l0.length : Int)) = false := decide_eq_false c4
   have c4b1 : decide (256 < l0.length) = false := decide_eq_false (by omega)
   clear c4
   (first | rw [c4b0] | (simp only [i64_w, i32_w]; rw [c4b0]) | skip)
   have H' := Aside0.mk H
   clear H
   go_wp2
   go_meet
   case rel => exact ⟨_, (decide ((l1.length : Int) > 256)), sB, H', ⟨by first | omega | exact Nat.le_refl _⟩, ⟨bB0 HB⟩⟩
 case rest =>
  clear HC3
  try clear c1
  try clear p2
  try clear c4
  try clear c4b0
  try clear c4b1
  obtain ⟨kq, x12_2, rfl, HA, HJ2, HB⟩ := hcut
  cases kq with
  | zero => exact absurd HA.out (by simp [gooseneckref01_hulls.j0])
  | succ kj2 =>
   have H := HA.out
   clear HA
   simp only [gooseneckref01_hulls.j0] at H
   by_cases c5 : x12_2 = true
   ·subst c5
    have H1 : (some 6) = some r := by rw [if_pos rfl] at H; exact H
    clear H
    have H := H1
    clear H1
    obtain rfl := Option.some.inj H
    go_wp2
    go_ret
    exact ⟨eB, bB0 HB⟩
   ·replace c5 := Bool.eq_false_iff.mpr c5
    subst c5
    have H1 : ((gooseneckref01_points.f kj2 l0).bind fun t101 => (if t101 = 0 then ((gooseneckref01_points.f kj2 l1).bind fun t102 => (if t102 = 0 then ((gooseneckref01_IsHull.f kj2 l0).bind fun t103 => (if t103 = true then ((gooseneckref01_IsHull.f kj2 l1).bind fun t104 => (if t104 = true then (some 0) else (some 2))) else (some 2))) else (some 2))) else (some 2))) = some r := by rw [if_neg (show ¬ (false = true) by decide)] at H; exact H
    clear H
    have H := H1
    clear H1
    replace H := Option.bind_eq_some_iff.mp H
    obtain ⟨t101, A60, H⟩ := H
    replace H : (if t101 = 0 then ((gooseneckref01_points.f kj2 l1).bind fun t102 => (if t102 = 0 then ((gooseneckref01_IsHull.f kj2 l0).bind fun t103 => (if t103 = true then ((gooseneckref01_IsHull.f kj2 l1).bind fun t104 => (if t104 = true then (some 0) else (some 2))) else (some 2))) else (some 2))) else (some 2)) = some r := H
    have A6 := Aside0.mk A60
    clear A60
    by_cases c7 : t101 = 0
    ·rw [if_pos c7] at H
     have c7b0 : (t101 == 0) = true := beq_iff_eq.mpr c7
     have c7b1 : (t101 != 0) = false := bne_eq_false_iff_eq.mpr c7
     clear c7
     replace H := Option.bind_eq_some_iff.mp H
     obtain ⟨t102, A80, H⟩ := H
     replace H : (if t102 = 0 then ((gooseneckref01_IsHull.f kj2 l0).bind fun t103 => (if t103 = true then ((gooseneckref01_IsHull.f kj2 l1).bind fun t104 => (if t104 = true then (some 0) else (some 2))) else (some 2))) else (some 2)) = some r := H
     have A8 := Aside0.mk A80
     clear A80
     by_cases c9 : t102 = 0
     ·rw [if_pos c9] at H
      have c9b0 : (t102 == 0) = true := beq_iff_eq.mpr c9
      have c9b1 : (t102 != 0) = false := bne_eq_false_iff_eq.mpr c9
      clear c9
      replace H := Option.bind_eq_some_iff.mp H
      obtain ⟨t103, A100, H⟩ := H
      replace H : (if t103 = true then ((gooseneckref01_IsHull.f kj2 l1).bind fun t104 => (if t104 = true then (some 0) else (some 2))) else (some 2)) = some r := H
      have A10 := Aside0.mk A100
      clear A100
      by_cases c11 : t103 = true
      ·subst c11
       have H1 : ((gooseneckref01_IsHull.f kj2 l1).bind fun t104 => (if t104 = true then (some 0) else (some 2))) = some r := by rw [if_pos rfl] at H; exact H
       clear H
       have H := H1
       clear H1
       replace H := Option.bind_eq_some_iff.mp H
       obtain ⟨t104, A120, H⟩ := H
       replace H : (if t104 = true then (some 0) else (some 2)) = some r := H
       have A12 := Aside0.mk A120
       clear A120
       by_cases c13 : t104 = true
       ·subst c13
        have H1 : (some 0) = some r := by rw [if_pos rfl] at H; exact H
        clear H
        have H := H1
        clear H1
        obtain rfl := Option.some.inj H
        go_wp2_with (first | ((with_reducible refine gate_callee (f := 89) rfl ?_); refine goesL_ (some 14) rfl rfl Try.func89 (by kernel_rfl) rfl #[.slice A0 l0.length c0] rfl mB ?_; (with_reducible refine (gooseneckref01_points.calls kj2 _ _ l0 t101 _ ?side1 ?side2 A6.out).mono ?_); (case side1 => exact cB HR0 HB); (case side2 => exact HC0.out); rintro e w14 ⟨rfl, hb⟩; refine ⟨_, rfl, ?_⟩; replace HB := Aside0.mk (below_step (bB0 HB) hb); (try clear hb); (try clear hb2); (try clear hk); (try clear hi)) | (go_at_call 89; (with_reducible refine (gooseneckref01_points.calls kj2 _ _ l1 t102 _ ?side1 ?side2 A8.out).mono ?_); (case side1 => exact cB HR1 HB); (case side2 => exact HC1.out); rintro e w15 ⟨rfl, hb⟩; replace HB := Aside0.mk (below_step (bB0 HB) hb); (try clear hb); (try clear hb2); (try clear hk); (try clear hi)) | (go_at_call 52; (with_reducible refine (gooseneckref01_IsHull.calls kj2 _ _ l0 true _ ?side1 ?side2 A10.out).mono ?_); (case side1 => exact cB HR0 HB); (case side2 => exact HC0.out); rintro e w16 ⟨rfl, hb⟩; replace HB := Aside0.mk (below_step (bB0 HB) hb); (try clear hb); (try clear hb2); (try clear hk); (try clear hi)) | (go_at_call 52; (with_reducible refine (gooseneckref01_IsHull.calls kj2 _ _ l1 true _ ?side1 ?side2 A12.out).mono ?_); (case side1 => exact cB HR1 HB); (case side2 => exact HC1.out); rintro e w17 ⟨rfl, hb⟩; replace HB := Aside0.mk (below_step (bB0 HB) hb); (try clear hb); (try clear hb2); (try clear hk); (try clear hi)))
        go_ret
        exact ⟨eB, bB0 HB⟩
       ·replace c13 := Bool.eq_false_iff.mpr c13
        subst c13
        have H1 : (some 2) = some r := by rw [if_neg (show ¬ (false = true) by decide)] at H; exact H
        clear H
        have H := H1
        clear H1
        obtain rfl := Option.some.inj H
        go_wp2_with (first | ((with_reducible refine gate_callee (f := 89) rfl ?_); refine goesL_ (some 14) rfl rfl Try.func89 (by kernel_rfl) rfl #[.slice A0 l0.length c0] rfl mB ?_; (with_reducible refine (gooseneckref01_points.calls kj2 _ _ l0 t101 _ ?side1 ?side2 A6.out).mono ?_); (case side1 => exact cB HR0 HB); (case side2 => exact HC0.out); rintro e w18 ⟨rfl, hb⟩; refine ⟨_, rfl, ?_⟩; replace HB := Aside0.mk (below_step (bB0 HB) hb); (try clear hb); (try clear hb2); (try clear hk); (try clear hi)) | (go_at_call 89; (with_reducible refine (gooseneckref01_points.calls kj2 _ _ l1 t102 _ ?side1 ?side2 A8.out).mono ?_); (case side1 => exact cB HR1 HB); (case side2 => exact HC1.out); rintro e w19 ⟨rfl, hb⟩; replace HB := Aside0.mk (below_step (bB0 HB) hb); (try clear hb); (try clear hb2); (try clear hk); (try clear hi)) | (go_at_call 52; (with_reducible refine (gooseneckref01_IsHull.calls kj2 _ _ l0 true _ ?side1 ?side2 A10.out).mono ?_); (case side1 => exact cB HR0 HB); (case side2 => exact HC0.out); rintro e w20 ⟨rfl, hb⟩; replace HB := Aside0.mk (below_step (bB0 HB) hb); (try clear hb); (try clear hb2); (try clear hk); (try clear hi)) | (go_at_call 52; (with_reducible refine (gooseneckref01_IsHull.calls kj2 _ _ l1 false _ ?side1 ?side2 A12.out).mono ?_); (case side1 => exact cB HR1 HB); (case side2 => exact HC1.out); rintro e w21 ⟨rfl, hb⟩; replace HB := Aside0.mk (below_step (bB0 HB) hb); (try clear hb); (try clear hb2); (try clear hk); (try clear hi)))
        go_ret
        exact ⟨eB, bB0 HB⟩
      ·replace c11 := Bool.eq_false_iff.mpr c11
       subst c11
       have H1 : (some 2) = some r := by rw [if_neg (show ¬ (false = true) by decide)] at H; exact H
       clear H
       have H := H1
       clear H1
       obtain rfl := Option.some.inj H
       go_wp2_with (first | ((with_reducible refine gate_callee (f := 89) rfl ?_); refine goesL_ (some 14) rfl rfl Try.func89 (by kernel_rfl) rfl #[.slice A0 l0.length c0] rfl mB ?_; (with_reducible refine (gooseneckref01_points.calls kj2 _ _ l0 t101 _ ?side1 ?side2 A6.out).mono ?_); (case side1 => exact cB HR0 HB); (case side2 => exact HC0.out); rintro e w22 ⟨rfl, hb⟩; refine ⟨_, rfl, ?_⟩; replace HB := Aside0.mk (below_step (bB0 HB) hb); (try clear hb); (try clear hb2); (try clear hk); (try clear hi)) | (go_at_call 89; (with_reducible refine (gooseneckref01_points.calls kj2 _ _ l1 t102 _ ?side1 ?side2 A8.out).mono ?_); (case side1 => exact cB HR1 HB); (case side2 => exact HC1.out); rintro e w23 ⟨rfl, hb⟩; replace HB := Aside0.mk (below_step (bB0 HB) hb); (try clear hb); (try clear hb2); (try clear hk); (try clear hi)) | (go_at_call 52; (with_reducible refine (gooseneckref01_IsHull.calls kj2 _ _ l0 false _ ?side1 ?side2 A10.out).mono ?_); (case side1 => exact cB HR0 HB); (case side2 => exact HC0.out); rintro e w24 ⟨rfl, hb⟩; replace HB := Aside0.mk (below_step (bB0 HB) hb); (try clear hb); (try clear hb2); (try clear hk); (try clear hi)))
       go_ret
       exact ⟨eB, bB0 HB⟩
     ·rw [if_neg c9] at H
      have c9b0 : (t102 == 0) = false := beq_eq_false_iff_ne.mpr c9
      have c9b1 : (t102 != 0) = true := bne_iff_ne.mpr c9
      obtain rfl := Option.some.inj H
      go_wp2_with (first | ((with_reducible refine gate_callee (f := 89) rfl ?_); refine goesL_ (some 14) rfl rfl Try.func89 (by kernel_rfl) rfl #[.slice A0 l0.length c0] rfl mB ?_; (with_reducible refine (gooseneckref01_points.calls kj2 _ _ l0 t101 _ ?side1 ?side2 A6.out).mono ?_); (case side1 => exact cB HR0 HB); (case side2 => exact HC0.out); rintro e w25 ⟨rfl, hb⟩; refine ⟨_, rfl, ?_⟩; replace HB := Aside0.mk (below_step (bB0 HB) hb); (try clear hb); (try clear hb2); (try clear hk); (try clear hi)) | (go_at_call 89; (with_reducible refine (gooseneckref01_points.calls kj2 _ _ l1 t102 _ ?side1 ?side2 A8.out).mono ?_); (case side1 => exact cB HR1 HB); (case side2 => exact HC1.out); rintro e w26 ⟨rfl, hb⟩; replace HB := Aside0.mk (below_step (bB0 HB) hb); (try clear hb); (try clear hb2); (try clear hk); (try clear hi)))
      go_ret
      exact ⟨eB, bB0 HB⟩
    ·rw [if_neg c7] at H
     have c7b0 : (t101 == 0) = false := beq_eq_false_iff_ne.mpr c7
     have c7b1 : (t101 != 0) = true := bne_iff_ne.mpr c7
     obtain rfl := Option.some.inj H
     go_wp2_with (first | ((with_reducible refine gate_callee (f := 89) rfl ?_); refine goesL_ (some 14) rfl rfl Try.func89 (by kernel_rfl) rfl #[.slice A0 l0.length c0] rfl mB ?_; (with_reducible refine (gooseneckref01_points.calls kj2 _ _ l0 t101 _ ?side1 ?side2 A6.out).mono ?_); (case side1 => exact cB HR0 HB); (case side2 => exact HC0.out); rintro e w27 ⟨rfl, hb⟩; refine ⟨_, rfl, ?_⟩; replace HB := Aside0.mk (below_step (bB0 HB) hb); (try clear hb); (try clear hb2); (try clear hk); (try clear hi)))
     go_ret
     exact ⟨eB, bB0 HB⟩
def gooseneckref01_Meet.f (k : Nat) (l0 : List (S23)) (l1 : List (S23)) : Option (Bool × Int) := (gooseneckref01_hulls.f k l0 l1).bind fun t101 => (if t101 = 0 then ((gooseneckref01_Meets.f k l0 l1).bind fun t102 => (some (t102, 0))) else (some (false, t101)))
theorem gooseneckref01_Meet.mono : ∀ a0 a1 k, LeO (gooseneckref01_Meet.f k a0 a1) (gooseneckref01_Meet.f (k + 1) a0 a1) := by
 intro a0 a1 k
 unfold gooseneckref01_Meet.f
 repeat' first
   | (with_reducible exact gooseneckref01_Meets.mono _ _ _)
   | (with_reducible exact gooseneckref01_hulls.mono _ _ _)
   | (with_reducible exact LeO.refl _)
   | (with_reducible exact LeO.none _)
   | (with_reducible refine LeO.ite ?_ ?_)
   | (with_reducible refine LeO.bind ?_ (fun _ => ?_))
   | exact gooseneckref01_Meets.mono _ _ _
   | exact gooseneckref01_hulls.mono _ _ _
   | exact LeO.none _
   | refine LeO.ite ?_ ?_
   | refine LeO.bind ?_ (fun _ => ?_)
set_option maxHeartbeats 8000000 in
set_option maxRecDepth 100000 in
theorem gooseneckref01_Meet.calls (k : Nat) (A0 : Option Addr) (c0 : Nat) (l0 : List (S23)) (A1 : Option Addr) (c1 : Nat) (l1 : List (S23)) (r1 : Bool) (r2 : Int) (w : World) (hr0 : Kd.C k23 w A0 l0.length l0) (hc0 : l0.length ≤ c0) (hr1 : Kd.C k23 w A1 l1.length l1) (hc1 : l1.length ≤ c1) (h : gooseneckref01_Meet.f k l0 l1 = some (r1, r2)) :
  Calls Try.prog 59 #[.slice A0 l0.length c0, .slice A1 l1.length c1] w fun e w' => e = .returned (.tuple #[.bool r1, .int .i64 r2]) ∧ Below w.heap.size w w' := by
 have HR0 := Aside0.mk hr0
 have HC0 := Aside0.mk hc0
 clear hr0 hc0
 have HR1 := Aside0.mk hr1
 have HC1 := Aside0.mk hc1
 clear hr1 hc1
 have HB := Aside0.mk (Below.refl w.heap.size w)
 have H : ((gooseneckref01_hulls.f k l0 l1).bind fun t101 => (if t101 = 0 then ((gooseneckref01_Meets.f k l0 l1).bind fun t102 => (some (t102, 0))) else (some (false, t101)))) = some (r1, r2) := h
 clear h
 replace H := Option.bind_eq_some_iff.mp H
 obtain ⟨t101, A30, H⟩ := H
 replace H : (if t101 = 0 then ((gooseneckref01_Meets.f k l0 l1).bind fun t102 => (some (t102, 0))) else (some (false, t101))) = some (r1, r2) := H
 have A3 := Aside0.mk A30
 clear A30
 by_cases c4 : t101 = 0
 ·rw [if_pos c4] at H
  have c4b0 : (t101 == 0) = true := beq_iff_eq.mpr c4
  have c4b1 : (t101 != 0) = false := bne_eq_false_iff_eq.mpr c4
  clear c4
  replace H := Option.bind_eq_some_iff.mp H
  obtain ⟨t102, A50, H⟩ := H
  replace H : (some (t102, 0)) = some (r1, r2) := H
  have A5 := Aside0.mk A50
  clear A50
  simp only [Option.some.injEq, Prod.mk.injEq] at H
  obtain ⟨rfl, rfl⟩ := H
  go_enter Try.func59, Try.ntmps59
  go_wp2_with (first | ((with_reducible refine gate_callee (f := 97) rfl ?_); refine goesL_ (some 9) rfl rfl Try.func97 (by kernel_rfl) rfl #[.slice A0 l0.length c0, .slice A1 l1.length c1] rfl mB ?_; (with_reducible refine (gooseneckref01_hulls.calls k _ _ l0 _ _ l1 t101 _ ?side1 ?side2 ?side3 ?side4 A3.out).mono ?_); (case side1 => exact cB1 HR0); (case side2 => exact HC0.out); (case side3 => exact cB1 HR1); (case side4 => exact HC1.out); rintro e w6 ⟨rfl, hb⟩; refine ⟨_, rfl, ?_⟩; replace HB := Aside0.mk (below_step (bB0 HB) hb); (try clear hb); (try clear hb2); (try clear hk); (try clear hi)) | ((with_reducible refine gate_callee (f := 102) rfl ?_); refine goesL_ (some 15) rfl rfl Try.func102 (by kernel_rfl) rfl #[.slice A0 l0.length c0, .slice A1 l1.length c1] rfl mB ?_; (with_reducible refine (gooseneckref01_Meets.calls k _ _ l0 _ _ l1 t102 _ ?side1 ?side2 ?side3 ?side4 A5.out).mono ?_); (case side1 => exact cB HR0 HB); (case side2 => exact HC0.out); (case side3 => exact cB HR1 HB); (case side4 => exact HC1.out); rintro e w7 ⟨rfl, hb⟩; refine ⟨_, rfl, ?_⟩; replace HB := Aside0.mk (below_step (bB0 HB) hb); (try clear hb); (try clear hb2); (try clear hk); (try clear hi)))
  go_ret2
  exact ⟨eB, bB0 HB⟩
 ·rw [if_neg c4] at H
  have c4b0 : (t101 == 0) = false := beq_eq_false_iff_ne.mpr c4
  have c4b1 : (t101 != 0) = true := bne_iff_ne.mpr c4
  simp only [Option.some.injEq, Prod.mk.injEq] at H
  obtain ⟨rfl, rfl⟩ := H
  go_enter Try.func59, Try.ntmps59
  go_wp2_with (first | ((with_reducible refine gate_callee (f := 97) rfl ?_); refine goesL_ (some 9) rfl rfl Try.func97 (by kernel_rfl) rfl #[.slice A0 l0.length c0, .slice A1 l1.length c1] rfl mB ?_; (with_reducible refine (gooseneckref01_hulls.calls k _ _ l0 _ _ l1 t101 _ ?side1 ?side2 ?side3 ?side4 A3.out).mono ?_); (case side1 => exact cB1 HR0); (case side2 => exact HC0.out); (case side3 => exact cB1 HR1); (case side4 => exact HC1.out); rintro e w8 ⟨rfl, hb⟩; refine ⟨_, rfl, ?_⟩; replace HB := Aside0.mk (below_step (bB0 HB) hb); (try clear hb); (try clear hb2); (try clear hk); (try clear hi)))
  go_ret2
  exact ⟨eB, bB0 HB⟩
end Go.Proofs.Ytegdcnjjelgpjaa.P
