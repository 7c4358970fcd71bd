/- The law PlaneMeets answers true at every input and leaves its arguments as they were; no condition. Part 1 of 6. -/
import Derived.Test.YtegdcnjjelgpjaaProg
import Derived.Below
import Derived.Deep.Draws
import Derived.Deep.AppendLies
import Derived.Maps.AppendAt
import Derived.OwnWalk
import Derived.Laws.BytesArg
import Derived.Laws.MakeOwn
import Derived.Laws.OwnMore
import Derived.Deep.OwnRows
import Derived.Tactics
import Derived.Lib.ConvBytes
import Derived.Laws.Slices
import Derived.WalkKit
import Derived.KernelRfl
import Derived.RowKit3
import Derived.Deep.LoopGhost
import Derived.Deep.QuietTactic
import Derived.BigQuiet
import Derived.WideLaws
import Derived.Deep.DeepCutAuto
import Derived.Deep.CutBlock
import Derived.Deep.RegionHeld3
import Derived.Laws.Rows
import Derived.Lib.AppendStr
import Derived.ArgAppend
import Derived.Laws.IdiomCopy
import Derived.OrdersHeld
import Derived.Laws.BitsLemmas
import Derived.RowKit
import Derived.Test.YtegdcnjjelgpjaaCPlaneMeetswWords
import Derived.Test.YtegdcnjjelgpjaaCPlaneMeetswLast
import Derived.Test.YtegdcnjjelgpjaaCPlaneMeetswTab
import Derived.Test.YtegdcnjjelgpjaaCPlaneMeetswFour
import Derived.Test.YtegdcnjjelgpjaaCPlaneMeetswQPut
import Derived.Test.YtegdcnjjelgpjaaCPlaneMeetswApart
import Derived.Test.YtegdcnjjelgpjaaCPlaneMeetswArr
import Derived.Test.YtegdcnjjelgpjaaCPlaneMeetswZeros
import Derived.Test.YtegdcnjjelgpjaaCPlaneMeetswFoot
import Derived.Test.YtegdcnjjelgpjaaCPlaneMeetswKept
import Derived.Test.YtegdcnjjelgpjaaCPlaneMeetswShare
import Derived.Test.YtegdcnjjelgpjaaCPlaneMeetswN
import Derived.Test.YtegdcnjjelgpjaaCPlaneMeetswFootNe
import Derived.Test.YtegdcnjjelgpjaaCPlaneMeetswAt
import Derived.Test.YtegdcnjjelgpjaaCPlaneMeetswEqStruct
import Derived.Test.YtegdcnjjelgpjaaCPlaneMeetswRepsOne
import Derived.Test.YtegdcnjjelgpjaaCPlaneMeetswInv
import Derived.Test.YtegdcnjjelgpjaaCPlaneMeetswInvWords
import Derived.Test.YtegdcnjjelgpjaaCPlaneMeetswGuard
import Derived.Test.YtegdcnjjelgpjaaCPlaneMeetswNEv
import Derived.Test.YtegdcnjjelgpjaaCPlaneMeetswMore
import Derived.RangeFuncNested
import Derived.RangeFuncBound
import Derived.RangeFuncCalls
import Derived.RangeFuncLeaves
import Derived.Shelf.Abstract
import Derived.OwnWalkIn
import Derived.TacticsInMore
import Derived.LoopNIn
import Derived.LoopIn
import Derived.OrdersIn
import Init
set_option linter.unusedVariables false
set_option linter.unusedSimpArgs false
namespace Go.Proofs.Ytegdcnjjelgpjaa.P
open Go.RowKit Go.Proofs.YtegdcnjjelgpjaaW.PrintWords Go.Proofs.YtegdcnjjelgpjaaW.PrintLast Go.Proofs.YtegdcnjjelgpjaaW.PrintMore
attribute [local go_sem] max2_int min2_int max_two min_two max_three min_three max_four min_four   -- for this text's walks alone
set_option linter.unusedVariables false
set_option linter.unusedSimpArgs false
def errW : Option Int → Value
 | none => .nilIface
 | some c => .iface 0 (.int .i64 c)
theorem errW_none : errW none = .nilIface := rfl
theorem errW_some (c : Int) : errW (some c) = .iface 0 (.int .i64 c) := rfl
theorem info23 : (Try.prog.info? 23).map (fun i => (i.zero, i.size, i.bytes)) = some (some (.agg #[(.int .i64 0), (.int .i64 0)]), 2, 16) := by kernel_rfl
theorem info75 : (Try.prog.info? 75).map (fun i => (i.zero, i.size, i.bytes)) = some (some (.agg #[(.int .i64 0), (.int .i64 0), (.int .i64 0)]), 3, 24) := by kernel_rfl
structure S23 where
 f0 : Int
 f1 : Int
def z23 : S23 := ⟨(0 : Int), (0 : Int)⟩
def k23 : Kd S23 := Kd.iso (Kd.pair (Kd.int .i64) (Kd.int .i64)) (fun x : S23 => (x.f0, x.f1))
theorem k23_heap : Kd.Heap k23 := Kd.heap_iso _ (Kd.heap_pair (Kd.heap_int .i64) (Kd.heap_int .i64))
theorem k23_open {w : World} {x : S23} {cs : List Value} (h : k23.K w x cs) : cs = [.int .i64 x.f0, .int .i64 x.f1] := by
 obtain ⟨_, _, rfl, rfl, rfl⟩ := h
 exact rfl
theorem k23_openM {w : World} {base : Nat} {ok : Nat → Prop} {x : S23} {cs : List Value} (h : k23.M w base ok x cs) : cs = [.int .i64 x.f0, .int .i64 x.f1] := by
 obtain ⟨_, _, rfl, rfl, rfl⟩ := h
 exact rfl
theorem k23_mkM (w : World) (base : Nat) (ok : Nat → Prop) (x : S23)  : k23.M w base ok x [.int .i64 x.f0, .int .i64 x.f1] := ⟨[.int .i64 x.f0], [.int .i64 x.f1], rfl, rfl, rfl⟩
def rd_T23 (xs : List S23) (i : Int) : S23 := xs.getD i.toNat z23
theorem at_T23 {w : World} {A : Option Addr} {n : Nat} {xs : List S23} (h : Kd.C k23 w A n xs) (i : Int) (h0 : 0 ≤ i) (h1 : i < n) : ∃ ad , A = some ad ∧ w.cell? (ad.add (i.toNat * 2)) = some (.int .i64 (rd_T23 xs i).f0) ∧ w.cell? ⟨(ad.add (i.toNat * 2)).block, (ad.add (i.toNat * 2)).off + 1, none⟩ = some (.int .i64 (rd_T23 xs i).f1) := by
 obtain ⟨ad, c, e, _, hK, hc0⟩ := Kd.C_get h z23 i h0 h1
 have hc : ∀ j u, c[j]? = some u → w.cell? (ad.add (i.toNat * 2 + j)) = some u := hc0
 obtain rfl := k23_open hK
 exact ⟨ad, e, hc 0 _ rfl, by rw [← add_field _ _ 1 (by omega)]; exact hc 1 _ rfl⟩
def rd_L2 (xs : List (List S23)) (i : Int) : (List S23) := xs.getD i.toNat ([] : List S23)
theorem at_L2 {w : World} {A : Option Addr} {n : Nat} {xs : List (List S23)} (h : Kd.C (Kd.slice 23 k23) w A n xs) (i : Int) (h0 : 0 ≤ i) (h1 : i < n) : ∃ ad A0 c0, A = some ad ∧ w.cell? (ad.add i.toNat) = some (.slice A0 (rd_L2 xs i).length c0) ∧ (rd_L2 xs i).length ≤ c0 ∧ k23.C w A0 (rd_L2 xs i).length (rd_L2 xs i) := by
 obtain ⟨ad, c, e, _, hK, hc0⟩ := Kd.C_get h ([] : List S23) i h0 h1
 have hc : ∀ j u, c[j]? = some u → w.cell? (ad.add (i.toNat * 1 + j)) = some u := hc0
 obtain ⟨A0, c0, rfl, l0, g0⟩ := hK
 exact ⟨ad, A0, c0, e, by have hq := hc 0 _ rfl; rwa [Nat.mul_one, Nat.add_zero] at hq, l0, g0⟩
structure S32 where
 f0 : Int
 f1 : Int
def z32 : S32 := ⟨(0 : Int), (0 : Int)⟩
def k32 : Kd S32 := Kd.iso (Kd.pair (Kd.int .i8) (Kd.int .i8)) (fun x : S32 => (x.f0, x.f1))
theorem k32_open {w : World} {x : S32} {cs : List Value} (h : k32.K w x cs) : cs = [.int .i8 x.f0, .int .i8 x.f1] := by
 obtain ⟨_, _, rfl, rfl, rfl⟩ := h
 exact rfl
def rd_T32 (xs : List S32) (i : Int) : S32 := xs.getD i.toNat z32
theorem at_T32 {w : World} {A : Option Addr} {n : Nat} {xs : List S32} (h : Kd.C k32 w A n xs) (i : Int) (h0 : 0 ≤ i) (h1 : i < n) : ∃ ad , A = some ad ∧ w.cell? (ad.add (i.toNat * 2)) = some (.int .i8 (rd_T32 xs i).f0) ∧ w.cell? ⟨(ad.add (i.toNat * 2)).block, (ad.add (i.toNat * 2)).off + 1, none⟩ = some (.int .i8 (rd_T32 xs i).f1) := by
 obtain ⟨ad, c, e, _, hK, hc0⟩ := Kd.C_get h z32 i h0 h1
 have hc : ∀ j u, c[j]? = some u → w.cell? (ad.add (i.toNat * 2 + j)) = some u := hc0
 obtain rfl := k32_open hK
 exact ⟨ad, e, hc 0 _ rfl, by rw [← add_field _ _ 1 (by omega)]; exact hc 1 _ rfl⟩
structure S75 where
 f0 : Int
 f1 : Int
 f2 : Int
def z75 : S75 := ⟨(0 : Int), (0 : Int), (0 : Int)⟩
def k75 : Kd S75 := Kd.iso (Kd.pair (Kd.int .i64) (Kd.pair (Kd.int .i64) (Kd.int .i64))) (fun x : S75 => (x.f0, x.f1, x.f2))
theorem k75_open {w : World} {x : S75} {cs : List Value} (h : k75.K w x cs) : cs = [.int .i64 x.f0, .int .i64 x.f1, .int .i64 x.f2] := by
 obtain ⟨_, _, rfl, rfl, ⟨_, _, rfl, rfl, rfl⟩⟩ := h
 exact rfl
theorem k75_mk (w : World) (x : S75)  : k75.K w x [.int .i64 x.f0, .int .i64 x.f1, .int .i64 x.f2] := ⟨[.int .i64 x.f0], [.int .i64 x.f1, .int .i64 x.f2], rfl, rfl, ⟨[.int .i64 x.f1], [.int .i64 x.f2], rfl, rfl, rfl⟩⟩
theorem k75_mkM (w : World) (base : Nat) (ok : Nat → Prop) (x : S75)  : k75.M w base ok x [.int .i64 x.f0, .int .i64 x.f1, .int .i64 x.f2] := ⟨[.int .i64 x.f0], [.int .i64 x.f1, .int .i64 x.f2], rfl, rfl, ⟨[.int .i64 x.f1], [.int .i64 x.f2], rfl, rfl, rfl⟩⟩
def rd_T75 (xs : List S75) (i : Int) : S75 := xs.getD i.toNat z75
theorem at_T75 {w : World} {A : Option Addr} {n : Nat} {xs : List S75} (h : Kd.C k75 w A n xs) (i : Int) (h0 : 0 ≤ i) (h1 : i < n) : ∃ ad , A = some ad ∧ w.cell? (ad.add (i.toNat * 3)) = some (.int .i64 (rd_T75 xs i).f0) ∧ w.cell? ⟨(ad.add (i.toNat * 3)).block, (ad.add (i.toNat * 3)).off + 1, none⟩ = some (.int .i64 (rd_T75 xs i).f1) ∧ w.cell? ⟨(ad.add (i.toNat * 3)).block, (ad.add (i.toNat * 3)).off + 2, none⟩ = some (.int .i64 (rd_T75 xs i).f2) := by
 obtain ⟨ad, c, e, _, hK, hc0⟩ := Kd.C_get h z75 i h0 h1
 have hc : ∀ j u, c[j]? = some u → w.cell? (ad.add (i.toNat * 3 + j)) = some u := hc0
 obtain rfl := k75_open hK
 exact ⟨ad, e, hc 0 _ rfl, by rw [← add_field _ _ 1 (by omega)]; exact hc 1 _ rfl, by rw [← add_field _ _ 2 (by omega)]; exact hc 2 _ rfl⟩
end Go.Proofs.Ytegdcnjjelgpjaa.P
namespace Go.Proofs.Ytegdcnjjelgpjaa.P
open Go.RowKit Go.Proofs.YtegdcnjjelgpjaaW.PrintWords Go.Proofs.YtegdcnjjelgpjaaW.PrintLast
set_option linter.unusedVariables false
section
variable {P : Program} {ops : Array Oper} {Q : Exit → Act → World → Prop} {md : Region.Mode} {S : World → Prop} {ds : List Nat} {T : Bool × List (List Nat × List Nat)} {B : List Nat}
theorem pS (i : Nat) (N : Option Tmp) {oi : Oper} {v : Value} {fuel : Nat} {l l' : Array Bool} {a a' : Act} {w : World} (hT : Aside0 (rtab md ops = T)) (h : wpAnyLast P md ops Q S ds fuel l' a' w)
  (hi : ops[i]? = some oi := by rfl) (hN : oi.dst = N := by rfl)
  (hl : l.setIfInBounds i true = l' := by simp only [List.setIfInBounds_toArray, List.set_cons_zero, List.set_cons_succ]; rfl)
  (hc : anyT T l.toList l'.toList i = true := by kernel_rfl)
  (hw : Region.wanted oi (yielded ops a.tmps) = true := by rfl)
  (hr : ∀ w', (execOp a.eval oi).run P w' = .ok (.value v) w' := by intro w'; go_simp; with_reducible rfl)
  (ha : a.put N v = a' := by simp only [Act.put, List.setIfInBounds_toArray, List.set_cons_zero, List.set_cons_succ, i64_w, i32_w]; rfl)
  (hQ : ∀ c a w, Q (.panic c) (a.put oi.dst v) w → Q (.panic c) a w := by exact fun _ _ _ h => h) : wpAnyLast P md ops Q S ds (fuel + 1) l a w :=
 pure_ l' hi hN (any_of hT.out hc) hQ (Or.inl ⟨hw, hr⟩) ha h
theorem nS (i : Nat) (N : Option Tmp) {oi : Oper} {fuel : Nat} {l l' : Array Bool} {a a' : Act} {w : World} (hT : Aside0 (rtab md ops = T)) (h : wpAnyLast P md ops Q S ds fuel l' a' w)
  (hi : ops[i]? = some oi := by rfl) (hN : oi.dst = N := by rfl)
  (hl : l.setIfInBounds i true = l' := by simp only [List.setIfInBounds_toArray, List.set_cons_zero, List.set_cons_succ]; rfl)
  (hc : anyT T l.toList l'.toList i = true := by kernel_rfl)
  (hw : Region.wanted oi (yielded ops a.tmps) = false := by rfl)
  (ha : a.put N undef = a' := by simp only [Act.put, List.setIfInBounds_toArray, List.set_cons_zero, List.set_cons_succ, i64_w, i32_w]; rfl)
  (hQ : ∀ c a w, Q (.panic c) (a.put oi.dst undef) w → Q (.panic c) a w := by exact fun _ _ _ h => h) : wpAnyLast P md ops Q S ds (fuel + 1) l a w :=
 pure_ l' hi hN (any_of hT.out hc) hQ (Or.inr ⟨hw, rfl⟩) ha h
theorem tS (i : Nat) (N : Option Tmp) {oi : Oper} {v : Value} {fuel : Nat} {l l' : Array Bool} {a a' : Act} {w : World} (hi : ops[i]? = some oi) (hN : oi.dst = N) (hT : Aside0 (rtab md ops = T)) (hW : Aside0 (waitsOk T.2 B = true)) (hS : S w)
  (hr : ∀ w', S w' → (execOp a.eval oi).run P w' = .ok (.value v) w') (h : wpAnyLast P md ops Q S ds fuel l' a' w)
  (hl : l.setIfInBounds i true = l' := by simp only [List.setIfInBounds_toArray, List.set_cons_zero, List.set_cons_succ]; rfl)
  (hc : takeW T B ds l.toList l'.toList i = true := by kernel_rfl)
  (hw : Region.wanted oi (yielded ops a.tmps) = true := by rfl)
  (ha : a.put N v = a' := by simp only [Act.put, List.setIfInBounds_toArray, List.set_cons_zero, List.set_cons_succ, i64_w, i32_w]; rfl)
  (hQ : ∀ c a w, Q (.panic c) (a.put oi.dst v) w → Q (.panic c) a w := by exact fun _ _ _ h => h) : wpAnyLast P md ops Q S ds (fuel + 1) l a w :=
 take_ l' hi hN (take_ofW hT.out hW.out hc) hQ (Or.inl ⟨hw, hr⟩) hS ha h
end
section
variable {P Q G1 G2 G3 G4 : Prop}
theorem kB (a : Aside0 P) (h : P → Q := by intro q_; (with_reducible repeat (first | refine blk_drewN ?_ _ | refine blk_drew ?_ | refine blk_alloc ?_ _)); exact q_) : Q := h a.out
theorem bB0 (a : Aside0 P) (h : P → Q := by intro q_; repeat (first | (with_reducible first | exact q_ | apply below_alloc | apply pw_below_drewN | apply below_drew1) | exact q_)) : Q := h a.out
theorem bB1 (a : Aside0 P) (g1 : Aside0 G1) (h : P → G1 → Q := by intro q_ g1_; repeat (first | (with_reducible first | exact q_ | apply below_alloc | apply pw_below_drewN | apply below_drew1 | refine below_set ?_ g1_) | exact q_)) : Q := h a.out g1.out
theorem bB2 (a : Aside0 P) (g1 : Aside0 G1) (g2 : Aside0 G2) (h : P → G1 → G2 → Q := by intro q_ g1_ g2_; repeat (first | (with_reducible first | exact q_ | apply below_alloc | apply pw_below_drewN | apply below_drew1 | refine below_set ?_ g1_ | refine below_set ?_ g2_) | exact q_)) : Q := h a.out g1.out g2.out
theorem bB3 (a : Aside0 P) (g1 : Aside0 G1) (g2 : Aside0 G2) (g3 : Aside0 G3) (h : P → G1 → G2 → G3 → Q := by intro q_ g1_ g2_ g3_; repeat (first | (with_reducible first | exact q_ | apply below_alloc | apply pw_below_drewN | apply below_drew1 | refine below_set ?_ g1_ | refine below_set ?_ g2_ | refine below_set ?_ g3_) | exact q_)) : Q := h a.out g1.out g2.out g3.out
theorem rB (a : Aside0 P) (h : P → Q := by intro q_; (with_reducible repeat (first | apply Kd.R_alloc | apply Kd.R_drewN | apply Kd.R_drew)); exact q_) : Q := h a.out
theorem vB (a : Aside0 P) (h : P → Q := by intro q_; (with_reducible repeat (first | apply Kd.V_alloc | apply Kd.V_drewN | apply Kd.V_drew)); exact q_) : Q := h a.out
theorem mB (h : Q := by (try simp only [List.map_toArray, List.map_cons, List.map_nil]); first | done | rfl | (simp only [List.length_drop, List.length_take]; rfl)) : Q := h
theorem eB (h : Q := by first | rfl | (simp [errW_none, errW_some] <;> rfl) | (simp [*, errW_none, errW_some] <;> rfl)) : Q := h
theorem sB (h : Q := by first | rfl | (simp; done) | (simp [*]; done)) : Q := h
end
section
theorem szB {n g m : Nat} (hg : g = m) (h : n ≤ m) : n ≤ g := by rw [hg]; exact h
variable {P : Program} {ops : Array Oper} {Q : Exit → Act → World → Prop} {md : Region.Mode} {S : World → Prop} {ds : List Nat}
theorem nZ (N : Option Tmp) {fuel : Nat} {l : Array Bool} {a a' : Act} {v : Value} {w : World} (h : wpAnyLast P md ops Q S ds fuel l a' w)
  (ha : a.put N v = a' := by simp only [Act.put, List.setIfInBounds_toArray, List.set_cons_zero, List.set_cons_succ, i64_w, i32_w]; rfl) : wpAnyLast P md ops Q S ds fuel l (a.put N v) w := norm_ ha h
end
section
theorem neA {k g m : Nat} (hg : g = m) (h : k < m) : k ≠ g := by rw [hg]; exact Nat.ne_of_lt h
theorem neB {k g m : Nat} (hg : g = m) (h : k < m) : g ≠ k := by rw [hg]; exact Nat.ne_of_gt h
variable {P : Program} {ops : Array Oper} {Q : Exit → Act → World → Prop} {rest : List Oper} {o : Oper} {a : Act}
theorem boxE {W : World} {N : Tmp} {cs : Array Value} {t : TypeId}
  (h : ∀ g, g = W.heap.size → ∀ w1, w1.heap[g]? = some (.cells cs t (0, 0)) → Below W.heap.size W w1 → wpList P ops Q rest (a.put o.dst (.pointer (some ⟨g, 0, none⟩))) w1)
  (hgd : o.guard = none := by rfl) (hd : o.dst = some N := by rfl)
  (hrun : (execOp a.eval o).run P W = .ok (.value (.pointer (some ⟨W.heap.size, 0, none⟩))) (W.alloc (.cells cs t (0, 0))) := by first | (go_simp; done) | (go_simp; rfl)) : wpList P ops Q (o :: rest) a W := box_event hgd hd hrun h
end
section
variable {P Q G : Prop}
theorem cB (a : Aside0 P) (b : Aside0 G) (h : P → G → Q := by intro q_ b_; repeat (first | exact (Kd.C_below q_ b_) | (with_reducible refine Kd.C_alloc ?_ _) | (with_reducible refine Kd.C_drewN ?_ _) | (with_reducible refine Kd.C_drew ?_))) : Q := h a.out b.out
theorem cB1 (a : Aside0 P) (h : P → Q := by intro q_; repeat (first | exact q_ | (with_reducible refine Kd.C_alloc ?_ _) | (with_reducible refine Kd.C_drewN ?_ _) | (with_reducible refine Kd.C_drew ?_))) : Q := h a.out
theorem cB2 (a : Aside0 P) (h : P → Q := by intro q_; repeat (first | exact (Kd.R_reads' q_).2.2 | (with_reducible refine Kd.C_alloc ?_ _) | (with_reducible refine Kd.C_drewN ?_ _) | (with_reducible refine Kd.C_drew ?_))) : Q := h a.out
theorem oB {p : Prop} [Decidable p] (h : decide p = true := by first | (with_reducible assumption) | assumption) : p := of_decide_eq_true h
end
end Go.Proofs.Ytegdcnjjelgpjaa.P
namespace Go.Proofs.Ytegdcnjjelgpjaa.P
open Go.RowKit Go.Proofs.YtegdcnjjelgpjaaW.PrintWords Go.Proofs.YtegdcnjjelgpjaaW.PrintLast Go.Proofs.YtegdcnjjelgpjaaW.PrintMore
attribute [local go_sem] max2_int min2_int max_two min_two max_three min_three max_four min_four   -- for this text's walks alone
set_option linter.unusedVariables false
set_option linter.unusedSimpArgs false
theorem eqA75 (d : Nat) (w : World) (x0 y0 : Int) (x1 y1 : Int) (x2 y2 : Int) :
  (Op.equalIn (d + 2) 75 (.agg #[.int .i64 x0, .int .i64 x1, .int .i64 x2]) (.agg #[.int .i64 y0, .int .i64 y1, .int .i64 y2])).run Try.prog w = .ok (x0 == y0 && (x1 == y1 && (x2 == y2))) w := by
 refine eqA_of Try.underlying75 (by kernel_rfl) ?_
 refine eqf_cons (by rfl) (by go_simp; rfl) (by go_simp; rfl) (by go_simp) ?_
 refine eqf_cons (by rfl) (by go_simp; rfl) (by go_simp; rfl) (by go_simp) ?_
 exact eqf_last (by rfl) (by go_simp; rfl) (by go_simp; rfl) (by go_simp)
theorem eqA23 (d : Nat) (w : World) (x0 y0 : Int) (x1 y1 : Int) :
  (Op.equalIn (d + 2) 23 (.agg #[.int .i64 x0, .int .i64 x1]) (.agg #[.int .i64 y0, .int .i64 y1])).run Try.prog w = .ok (x0 == y0 && (x1 == y1)) w := by
 refine eqA_of Try.underlying23 (by kernel_rfl) ?_
 refine eqf_cons (by rfl) (by go_simp; rfl) (by go_simp; rfl) (by go_simp) ?_
 exact eqf_last (by rfl) (by go_simp; rfl) (by go_simp; rfl) (by go_simp)
theorem eqA40 (d : Nat) (w : World) (x0 y0 : Int) (x1 y1 : Int) (x2 y2 : Int) :
  (Op.equalIn (d + 2) 40 (.agg #[.int .i64 x0, .int .i64 x1, .int .i64 x2]) (.agg #[.int .i64 y0, .int .i64 y1, .int .i64 y2])).run Try.prog w = .ok (x0 == y0 && (x1 == y1 && (x2 == y2))) w := by
 refine eqA_of Try.underlying40 (by kernel_rfl) ?_
 refine eqf_cons (by rfl) (by go_simp; rfl) (by go_simp; rfl) (by go_simp) ?_
 refine eqf_cons (by rfl) (by go_simp; rfl) (by go_simp; rfl) (by go_simp) ?_
 exact eqf_last (by rfl) (by go_simp; rfl) (by go_simp; rfl) (by go_simp)
def plane_within.f (a0 : Int) (a1 : Int) (a2 : Int) : Option (Bool) := if a1 ≤ a0 then (some (decide (a0 ≤ a2))) else (some false)
set_option maxHeartbeats 8000000 in
set_option maxRecDepth 100000 in
theorem plane_within.calls (a0 : Int) (a1 : Int) (a2 : Int) (r : Bool) (w : World) (h : plane_within.f a0 a1 a2 = some r) :
  Calls Try.prog 67 #[.int .i64 a0, .int .i64 a1, .int .i64 a2] w fun e w' => e = .returned (.bool r) ∧ Drawn0 w w' := by
 have H : (if a1 ≤ a0 then (some (decide (a0 ≤ a2))) else (some false)) = some r := h
 clear h
 by_cases c4 : a1 ≤ a0
 ·rw [if_pos c4] at H
  have c4b0 : decide (a1 ≤ a0) = true := decide_eq_true c4
  clear c4
  obtain rfl := Option.some.inj H
  go_enter Try.func67, Try.ntmps67
  go_wp2
  go_ret
  exact ⟨by first | rfl | (simp; done) | (simp [*]; done), by repeat (first | exact Drawn0.refl _ | apply Drawn0.step)⟩
 ·rw [if_neg c4] at H
  have c4b0 : decide (a1 ≤ a0) = false := decide_eq_false c4
  clear c4
  obtain rfl := Option.some.inj H
  go_enter Try.func67, Try.ntmps67
  go_wp2
  go_ret
  exact ⟨by first | rfl | (simp; done) | (simp [*]; done), by repeat (first | exact Drawn0.refl _ | apply Drawn0.step)⟩
def plane_valid.l0 : Nat → List (S23) → Int → Int → Option (Bool)
 | 0, _, _, _ => none
 | k + 1, x5, x6, x7 => if x7 < x6 then (if 0 ≤ x7 then (if x7 < (x5.length : Int) then ((plane_within.f ((rd_T23 x5 x7).f0) (-16777216) 16777216).bind fun t103 => (if t103 = true then ((plane_within.f ((rd_T23 x5 x7).f1) (-16777216) 16777216).bind fun t104 => (if t104 = true then (plane_valid.l0 k x5 x6 (wrap64 (x7 + 1))) else (some false))) else (some false))) else (none)) else (none)) else (some true)
def plane_valid.f (k : Nat) (l0 : List (S23)) : Option (Bool) := plane_valid.l0 k l0 (l0.length : Int) 0
theorem plane_valid.mono_l : ∀ k, (∀ y0 y1 y2, LeO (plane_valid.l0 k y0 y1 y2) (plane_valid.l0 (k + 1) y0 y1 y2))
 | 0 => fun _ _ _ r h => by simp [plane_valid.l0] at h
 | k + 1 => by
  have ih0 := plane_valid.mono_l k
  ·intro y0 y1 y2
   unfold plane_valid.l0
   repeat' first
   | (with_reducible exact ih0 _ _ _)
   | (with_reducible exact LeO.refl _)
   | (with_reducible exact LeO.none _)
   | (with_reducible refine LeO.ite ?_ ?_)
   | (with_reducible refine LeO.bind ?_ (fun _ => ?_))
   | exact ih0 _ _ _
   | exact LeO.none _
   | refine LeO.ite ?_ ?_
   | refine LeO.bind ?_ (fun _ => ?_)
theorem plane_valid.mono : ∀ a0 k, LeO (plane_valid.f k a0) (plane_valid.f (k + 1) a0) := by
 intro a0 k
 have ih0 := plane_valid.mono_l k
 unfold plane_valid.f
 repeat' first
   | (with_reducible exact ih0 _ _ _)
   | (with_reducible exact LeO.refl _)
   | (with_reducible exact LeO.none _)
   | (with_reducible refine LeO.ite ?_ ?_)
   | (with_reducible refine LeO.bind ?_ (fun _ => ?_))
   | exact ih0 _ _ _
   | exact LeO.none _
   | refine LeO.ite ?_ ?_
   | refine LeO.bind ?_ (fun _ => ?_)
set_option maxHeartbeats 8000000 in
set_option maxRecDepth 100000 in
theorem plane_valid.calls (k : Nat) (A0 : Option Addr) (c0 : Nat) (l0 : List (S23)) (r : Bool) (w : World) (hr0 : Kd.C k23 w A0 l0.length l0) (hc0 : l0.length ≤ c0) (h : plane_valid.f k l0 = some r) :
  Calls Try.prog 66 #[.slice A0 l0.length c0] w fun e w' => e = .returned (.bool r) ∧ Below w.heap.size w w' := by
 have hu23 := Try.underlying23
 have HR0 := Aside0.mk hr0
 have HC0 := Aside0.mk hc0
 clear hr0 hc0
 have HB := Aside0.mk (Below.refl w.heap.size w)
 have H : (plane_valid.l0 k l0 (l0.length : Int) 0) = some r := h
 clear h
 have H' := Aside0.mk H
 clear H
 go_enter Try.func66, Try.ntmps66
 go_wp2
 go_loopg [7] k (fun kq v7 w' => ∃ (x7_1 : Int), v7 = .int .i64 x7_1 ∧ Aside0 (plane_valid.l0 kq l0 (l0.length : Int) x7_1 = some r) ∧ Aside0 (kq ≤ k) ∧ Aside0 (Below w.heap.size w w'))
 case atStart => exact ⟨(0), sB, H', ⟨Nat.le_refl _⟩, ⟨bB0 HB⟩⟩
 case round =>
  clear H'
  obtain ⟨x7_1, rfl, HA, HK1, HB⟩ := hrel
  cases gk with
  | zero => exact absurd HA.out (by simp [plane_valid.l0])
  | succ k1 =>
   have H := HA.out
   clear HA
   simp only [plane_valid.l0] at H
   by_cases c2 : x7_1 < (l0.length : Int)
   ·rw [if_pos c2] at H
    have c2b0 : decide (x7_1 < (l0.length : Int)) = true := decide_eq_true c2
    clear c2
    by_cases c3 : 0 ≤ x7_1
    ·rw [if_pos c3] at H
     have c3b0 : decide (0 ≤ x7_1) = true := decide_eq_true c3
     clear c3
     by_cases c4 : x7_1 < (l0.length : Int)
     ·rw [if_pos c4] at H
      have c4b0 : decide (x7_1 < (l0.length : Int)) = true := decide_eq_true c4
      clear c4
      replace H := Option.bind_eq_some_iff.mp H
      obtain ⟨t103, A50, H⟩ := H
      replace H : (if t103 = true then ((plane_within.f ((rd_T23 l0 x7_1).f1) (-16777216) 16777216).bind fun t104 => (if t104 = true then (plane_valid.l0 k1 l0 (l0.length : Int) (wrap64 (x7_1 + 1))) else (some false))) else (some false)) = some r := H
      have A5 := Aside0.mk A50
      clear A50
      by_cases c6 : t103 = true
      ·subst c6
       have H1 : ((plane_within.f ((rd_T23 l0 x7_1).f1) (-16777216) 16777216).bind fun t104 => (if t104 = true then (plane_valid.l0 k1 l0 (l0.length : Int) (wrap64 (x7_1 + 1))) else (some false))) = some r := by rw [if_pos rfl] at H; exact H
       clear H
       have H := H1
       clear H1
       replace H := Option.bind_eq_some_iff.mp H
       obtain ⟨t104, A70, H⟩ := H
       replace H : (if t104 = true then (plane_valid.l0 k1 l0 (l0.length : Int) (wrap64 (x7_1 + 1))) else (some false)) = some r := H
       have A7 := Aside0.mk A70
       clear A70
       by_cases c8 : t104 = true
       ·subst c8
        have H1 : (plane_valid.l0 k1 l0 (l0.length : Int) (wrap64 (x7_1 + 1))) = some r := by rw [if_pos rfl] at H; exact H
        clear H
        have H := H1
        clear H1
        have H' := Aside0.mk H
        clear H
        have p101 : 0 ≤ (x7_1 : Int) := oB
        have q101 : x7_1 < (l0.length : Int) := oB
        obtain ⟨ad101, e101, hx101_0, hx101_1⟩ := at_T23 HR0.out x7_1 p101 q101
        cases e101
        replace hx101_0 := (HB.out.cell (World.block_lt_of_cell? w _ hx101_0)).trans hx101_0
        replace hx101_1 := (HB.out.cell (World.block_lt_of_cell? w _ hx101_1)).trans hx101_1
        replace p101 := eq_true p101
        replace q101 := eq_true q101
        go_wp2_with (first | ((with_reducible refine gate_dst (N := 4) rfl ?_); refine boxE (N := 4) (cs := #[.int .i64 0, .int .i64 0]) (t := 23) ?_; intro gb102 hg w9 hbox hb; have n0_ := Aside0.mk (below_step (bB0 HB) hb); have BK102 := Aside0.mk (hbox); have GW102 := Aside0.mk (szB hg (below_size (bB0 HB))); have GE102 := GW102; clear HB; have HB := n0_; clear n0_; clear hb hbox hg; have hcz10_0 : w9.cell? ⟨gb102, 0, none⟩ = some (.int .i64 0) := (blk_cell BK102.out 0).trans rfl; have hcz10_1 : w9.cell? ⟨gb102, 1, none⟩ = some (.int .i64 0) := (blk_cell BK102.out 1).trans rfl; have hfz10_0 := blk_frozen BK102.out 0; have hfz10_1 := blk_frozen BK102.out 1) | ((with_reducible refine gate_callee (f := 67) rfl ?_); refine goesL_ (some 13) rfl rfl Try.func67 (by kernel_rfl) rfl #[.int .i64 ((rd_T23 l0 x7_1).f0), .int .i64 (-16777216), .int .i64 16777216] rfl mB ?_; (with_reducible refine (plane_within.calls ((rd_T23 l0 x7_1).f0) (-16777216) 16777216 true _ A5.out).mono ?_); rintro e w' ⟨rfl, ⟨nd, rfl⟩⟩; refine ⟨_, rfl, ?_⟩) | (go_at_call 67; (with_reducible refine (plane_within.calls ((rd_T23 l0 x7_1).f1) (-16777216) 16777216 true _ A7.out).mono ?_); rintro e w' ⟨rfl, ⟨nd, rfl⟩⟩))
        go_roundg k1
        case measure => have := HK1.out; omega
        case rel => exact ⟨(wrap64 (x7_1 + 1)), sB, H', ⟨by have := HK1.out; omega⟩, ⟨bB1 HB GE102⟩⟩
       ·replace c8 := Bool.eq_false_iff.mpr c8
        subst c8
        have H1 : (some false) = some r := by rw [if_neg (show ¬ (false = true) by decide)] at H; exact H
        clear H
        have H := H1
        clear H1
        obtain rfl := Option.some.inj H
        have p101 : 0 ≤ (x7_1 : Int) := oB
        have q101 : x7_1 < (l0.length : Int) := oB
        obtain ⟨ad101, e101, hx101_0, hx101_1⟩ := at_T23 HR0.out x7_1 p101 q101
        cases e101
        replace hx101_0 := (HB.out.cell (World.block_lt_of_cell? w _ hx101_0)).trans hx101_0
        replace hx101_1 := (HB.out.cell (World.block_lt_of_cell? w _ hx101_1)).trans hx101_1
        replace p101 := eq_true p101
        replace q101 := eq_true q101
        go_wp2_with (first | ((with_reducible refine gate_dst (N := 4) rfl ?_); refine boxE (N := 4) (cs := #[.int .i64 0, .int .i64 0]) (t := 23) ?_; intro gb102 hg w11 hbox hb; have n0_ := Aside0.mk (below_step (bB0 HB) hb); have BK102 := Aside0.mk (hbox); have GW102 := Aside0.mk (szB hg (below_size (bB0 HB))); have GE102 := GW102; clear HB; have HB := n0_; clear n0_; clear hb hbox hg; have hcz12_0 : w11.cell? ⟨gb102, 0, none⟩ = some (.int .i64 0) := (blk_cell BK102.out 0).trans rfl; have hcz12_1 : w11.cell? ⟨gb102, 1, none⟩ = some (.int .i64 0) := (blk_cell BK102.out 1).trans rfl; have hfz12_0 := blk_frozen BK102.out 0; have hfz12_1 := blk_frozen BK102.out 1) | ((with_reducible refine gate_callee (f := 67) rfl ?_); refine goesL_ (some 13) rfl rfl Try.func67 (by kernel_rfl) rfl #[.int .i64 ((rd_T23 l0 x7_1).f0), .int .i64 (-16777216), .int .i64 16777216] rfl mB ?_; (with_reducible refine (plane_within.calls ((rd_T23 l0 x7_1).f0) (-16777216) 16777216 true _ A5.out).mono ?_); rintro e w' ⟨rfl, ⟨nd, rfl⟩⟩; refine ⟨_, rfl, ?_⟩) | (go_at_call 67; (with_reducible refine (plane_within.calls ((rd_T23 l0 x7_1).f1) (-16777216) 16777216 false _ A7.out).mono ?_); rintro e w' ⟨rfl, ⟨nd, rfl⟩⟩))
        go_ret
        exact ⟨eB, bB1 HB GE102⟩
      ·replace c6 := Bool.eq_false_iff.mpr c6
       subst c6
       have H1 : (some false) = some r := by rw [if_neg (show ¬ (false = true) by decide)] at H; exact H
       clear H
       have H := H1
       clear H1
       obtain rfl := Option.some.inj H
       have p101 : 0 ≤ (x7_1 : Int) := oB
       have q101 : x7_1 < (l0.length : Int) := oB
       obtain ⟨ad101, e101, hx101_0, hx101_1⟩ := at_T23 HR0.out x7_1 p101 q101
       cases e101
       replace hx101_0 := (HB.out.cell (World.block_lt_of_cell? w _ hx101_0)).trans hx101_0
       replace hx101_1 := (HB.out.cell (World.block_lt_of_cell? w _ hx101_1)).trans hx101_1
       replace p101 := eq_true p101
       replace q101 := eq_true q101
       go_wp2_with (first | ((with_reducible refine gate_dst (N := 4) rfl ?_); refine boxE (N := 4) (cs := #[.int .i64 0, .int .i64 0]) (t := 23) ?_; intro gb102 hg w13 hbox hb; have n0_ := Aside0.mk (below_step (bB0 HB) hb); have BK102 := Aside0.mk (hbox); have GW102 := Aside0.mk (szB hg (below_size (bB0 HB))); have GE102 := GW102; clear HB; have HB := n0_; clear n0_; clear hb hbox hg; have hcz14_0 : w13.cell? ⟨gb102, 0, none⟩ = some (.int .i64 0) := (blk_cell BK102.out 0).trans rfl; have hcz14_1 : w13.cell? ⟨gb102, 1, none⟩ = some (.int .i64 0) := (blk_cell BK102.out 1).trans rfl; have hfz14_0 := blk_frozen BK102.out 0; have hfz14_1 := blk_frozen BK102.out 1) | ((with_reducible refine gate_callee (f := 67) rfl ?_); refine goesL_ (some 13) rfl rfl Try.func67 (by kernel_rfl) rfl #[.int .i64 ((rd_T23 l0 x7_1).f0), .int .i64 (-16777216), .int .i64 16777216] rfl mB ?_; (with_reducible refine (plane_within.calls ((rd_T23 l0 x7_1).f0) (-16777216) 16777216 false _ A5.out).mono ?_); rintro e w' ⟨rfl, ⟨nd, rfl⟩⟩; refine ⟨_, rfl, ?_⟩))
       go_ret
       exact ⟨eB, bB1 HB GE102⟩
     ·rw [if_neg c4] at H
      exact absurd H (by simp)
    ·rw [if_neg c3] at H
     exact absurd H (by simp)
   ·rw [if_neg c2] at H
    have c2b0 : decide (x7_1 < (l0.length : Int)) = false := decide_eq_false c2
    clear c2
    obtain rfl := Option.some.inj H
    go_wp2
    go_ret
    exact ⟨eB, bB0 HB⟩
def plane_result.f (k : Nat) (a0_0 : Int) (a0_1 : Int) : Option (Int × Int × Int) := (plane_valid.f k (([(⟨a0_0, a0_1⟩ : S23)] : List (S23)))).bind fun t106 => (if t106 = true then (some (a0_0, a0_1, 0)) else (some (0, 0, 4)))
theorem plane_result.mono : ∀ a0 a1 k, LeO (plane_result.f k a0 a1) (plane_result.f (k + 1) a0 a1) := by
 intro a0 a1 k
 unfold plane_result.f
 repeat' first
   | (with_reducible exact plane_valid.mono _ _)
   | (with_reducible exact LeO.refl _)
   | (with_reducible exact LeO.none _)
   | (with_reducible refine LeO.ite ?_ ?_)
   | (with_reducible refine LeO.bind ?_ (fun _ => ?_))
   | exact plane_valid.mono _ _
   | exact LeO.none _
   | refine LeO.ite ?_ ?_
   | refine LeO.bind ?_ (fun _ => ?_)
set_option maxHeartbeats 8000000 in
set_option maxRecDepth 100000 in
theorem plane_result.calls (k : Nat) (a0_0 : Int) (a0_1 : Int) (r1 : Int) (r2 : Int) (r3 : Int) (w : World) (h : plane_result.f k a0_0 a0_1 = some (r1, r2, r3)) :
  Calls Try.prog 76 #[.agg #[.int .i64 a0_0, .int .i64 a0_1]] w fun e w' => e = .returned (.tuple #[.agg #[.int .i64 r1, .int .i64 r2], .int .i64 r3]) ∧ Below w.heap.size w w' := by
 have hu23 := Try.underlying23
 have HB := Aside0.mk (Below.refl w.heap.size w)
 have H : ((plane_valid.f k (([(⟨a0_0, a0_1⟩ : S23)] : List (S23)))).bind fun t106 => (if t106 = true then (some (a0_0, a0_1, 0)) else (some (0, 0, 4)))) = some (r1, r2, r3) := h
 clear h
 obtain ⟨y103, hy103⟩ : ∃ y_ : List (S23), y_ = (([(⟨a0_0, a0_1⟩ : S23)] : List (S23))) := ⟨_, rfl⟩
 replace H : ((plane_valid.f k y103).bind fun t106 => (if t106 = true then (some (a0_0, a0_1, 0)) else (some (0, 0, 4)))) = some (r1, r2, r3) := by first | (rw [hy103]; with_reducible exact H) | (have H2_ := (Option.bind_some _ _).symm.trans H; rw [hy103]; with_reducible exact H2_) | (have H2_ := (Option.bind_some _ _).symm.trans H; with_reducible exact H2_) | with_reducible exact H | (rw [hy103]; exact H) | exact H
 have Ny103 := Aside0.mk hy103
 clear hy103
 replace H := Option.bind_eq_some_iff.mp H
 obtain ⟨t106, A20, H⟩ := H
 replace H : (if t106 = true then (some (a0_0, a0_1, 0)) else (some (0, 0, 4))) = some (r1, r2, r3) := H
 have A2 := Aside0.mk A20
 clear A20
 by_cases c3 : t106 = true
 ·subst c3
  have H1 : (some (a0_0, a0_1, 0)) = some (r1, r2, r3) := by rw [if_pos rfl] at H; exact H
  clear H
  have H := H1
  clear H1
  simp only [Option.some.injEq, Prod.mk.injEq] at H
  obtain ⟨rfl, rfl, rfl⟩ := H
  go_enter Try.func76, Try.ntmps76
  go_wp2_with (first | ((with_reducible refine gate_dst (N := 1) rfl ?_); refine boxE (N := 1) (cs := #[.int .i64 a0_0, .int .i64 a0_1]) (t := 23) ?_; intro gb101 hg w4 hbox hb; have n0_ := Aside0.mk (below_step (bB0 HB) hb); have BK101 := Aside0.mk (hbox); have GW101 := Aside0.mk (szB hg (below_size (bB0 HB))); have GE101 := GW101; clear HB; have HB := n0_; clear n0_; clear hb hbox hg) | ((with_reducible refine gate_dst (N := 2) rfl ?_); refine boxE (N := 2) (cs := #[.int .i64 0, .int .i64 0]) (t := 23) ?_; intro gb102 hg w5 hbox hb; have n0_ := Aside0.mk (blk_below (kB BK101) hb); have n1_ := Aside0.mk (below_step (bB1 HB GE101) hb); have BK102 := Aside0.mk (hbox); have GW102 := Aside0.mk (szB hg (below_size (bB1 HB GE101))); have GE102 := GW102; have NB101_102 := Aside0.mk (neA hg (blk_lt (kB BK101))); have NB102_101 := Aside0.mk (neB hg (blk_lt (kB BK101))); clear BK101; clear HB; have BK101 := n0_; have HB := n1_; clear n0_ n1_; clear hb hbox hg; have hnb6 := NB101_102.out; have hnc6 := NB102_101.out; have hcz7_0 : w5.cell? ⟨gb101, 0, none⟩ = some (.int .i64 a0_0) := (blk_cell BK101.out 0).trans rfl; have hcz7_1 : w5.cell? ⟨gb101, 1, none⟩ = some (.int .i64 a0_1) := (blk_cell BK101.out 1).trans rfl; have hfz7_0 := blk_frozen BK101.out 0; have hfz7_1 := blk_frozen BK101.out 1) | ((with_reducible refine gate_dst (N := 5) rfl ?_); refine Kd.R_lit k23 _ 23 ?hg (N := 5) ?hd (xs := ([(⟨a0_0, a0_1⟩ : S23)] : List (S23))) (inner := [.int .i64 a0_0, .int .i64 a0_1]) (ok := fun _ => True) (okp := fun _ => True) ?hr ?hp (fun _ hk => hk) trivial (Below.refl _ _) (Nat.le_refl _) (by simp) ?_; (case hd => rfl); (case hg => rfl); (case hr => first | (go_simp; done) | (go_simp; rfl)); (case hp => exact (Reps.c2 (show Kd.M k23 _ _ _ (⟨a0_0, a0_1⟩ : S23) [.int .i64 a0_0, .int .i64 a0_1] from (k23_mkM _ _ _ (⟨a0_0, a0_1⟩ : S23) )) (Reps.none _ _))); intro v104 w8 ho9 hb hg_ hnew_; clear hg_ hnew_; (first | rw [← Ny103.out] at ho9 | (simp only [Int.reduceToNat] at ho9; rw [← Ny103.out] at ho9)); have HO105 := Aside0.mk (Kd.R_lower (Kd.R_newB (Kd.R_newB ho9 (kB BK101)) (kB BK102)) (below_size (bB2 HB GE101 GE102))); replace BK101 := Aside0.mk (blk_below (kB BK101) hb); replace BK102 := Aside0.mk (blk_below (kB BK102) hb); replace HB := Aside0.mk (below_step (bB2 HB GE101 GE102) hb); clear hb ho9; obtain ⟨Ao10, co10, eo10⟩ := Kd.R_slice HO105.out; subst eo10) | ((with_reducible refine gate_callee (f := 66) rfl ?_); refine goesL_ (some 6) rfl rfl Try.func66 (by kernel_rfl) rfl #[.slice Ao10 y103.length co10] rfl mB ?_; (with_reducible refine (plane_valid.calls k _ _ y103 true _ ?side1 ?side2 A2.out).mono ?_); (case side1 => exact cB2 HO105); (case side2 => exact (Kd.R_reads' HO105.out).2.1); rintro e w11 ⟨rfl, hb⟩; refine ⟨_, rfl, ?_⟩; replace HO105 := Aside0.mk (Kd.R_below (rB HO105) hb); replace BK101 := Aside0.mk (blk_below (kB BK101) hb); replace BK102 := Aside0.mk (blk_below (kB BK102) hb); replace HB := Aside0.mk (below_step (bB2 HB GE101 GE102) hb); (try clear hb); (try clear hb2); (try clear hk); (try clear hi); have hcz12_0 : w11.cell? ⟨gb101, 0, none⟩ = some (.int .i64 a0_0) := (blk_cell BK101.out 0).trans rfl; have hcz12_1 : w11.cell? ⟨gb101, 1, none⟩ = some (.int .i64 a0_1) := (blk_cell BK101.out 1).trans rfl; have hfz12_0 := blk_frozen BK101.out 0; have hfz12_1 := blk_frozen BK101.out 1; have hcz13_0 : w11.cell? ⟨gb102, 0, none⟩ = some (.int .i64 0) := (blk_cell BK102.out 0).trans rfl; have hcz13_1 : w11.cell? ⟨gb102, 1, none⟩ = some (.int .i64 0) := (blk_cell BK102.out 1).trans rfl; have hfz13_0 := blk_frozen BK102.out 0; have hfz13_1 := blk_frozen BK102.out 1))
  refine bodyPost_ret (results_ct rfl _ _ gb102 23 #[.int .i64 a0_0, .int .i64 a0_1] (0, 0) _ rfl (by (with_reducible repeat (first | refine blk_drewN ?_ _ | refine blk_drew ?_ | refine blk_alloc ?_ _)); refine blk_put (cs := #[.int .i64 a0_0, .int .i64 0]) ?_ 1 _ rfl; (with_reducible repeat (first | refine blk_drewN ?_ _ | refine blk_drew ?_ | refine blk_alloc ?_ _)); refine blk_put (cs := #[.int .i64 0, .int .i64 0]) ?_ 0 _ rfl; (with_reducible repeat (first | refine blk_drewN ?_ _ | refine blk_drew ?_ | refine blk_alloc ?_ _)); exact BK102.out) Try.underlying23 rfl (by kernel_rfl)) rfl ?_
  exact ⟨eB, bB2 HB GE101 GE102⟩
 ·replace c3 := Bool.eq_false_iff.mpr c3
  subst c3
  have H1 : (some (0, 0, 4)) = some (r1, r2, r3) := by rw [if_neg (show ¬ (false = true) by decide)] at H; exact H
  clear H
  have H := H1
  clear H1
  simp only [Option.some.injEq, Prod.mk.injEq] at H
  obtain ⟨rfl, rfl, rfl⟩ := H
  go_enter Try.func76, Try.ntmps76
  go_wp2_with (first | ((with_reducible refine gate_dst (N := 1) rfl ?_); refine boxE (N := 1) (cs := #[.int .i64 a0_0, .int .i64 a0_1]) (t := 23) ?_; intro gb101 hg w14 hbox hb; have n0_ := Aside0.mk (below_step (bB0 HB) hb); have BK101 := Aside0.mk (hbox); have GW101 := Aside0.mk (szB hg (below_size (bB0 HB))); have GE101 := GW101; clear HB; have HB := n0_; clear n0_; clear hb hbox hg) | ((with_reducible refine gate_dst (N := 2) rfl ?_); refine boxE (N := 2) (cs := #[.int .i64 0, .int .i64 0]) (t := 23) ?_; intro gb102 hg w15 hbox hb; have n0_ := Aside0.mk (blk_below (kB BK101) hb); have n1_ := Aside0.mk (below_step (bB1 HB GE101) hb); have BK102 := Aside0.mk (hbox); have GW102 := Aside0.mk (szB hg (below_size (bB1 HB GE101))); have GE102 := GW102; have NB101_102 := Aside0.mk (neA hg (blk_lt (kB BK101))); have NB102_101 := Aside0.mk (neB hg (blk_lt (kB BK101))); clear BK101; clear HB; have BK101 := n0_; have HB := n1_; clear n0_ n1_; clear hb hbox hg; have hnb16 := NB101_102.out; have hnc16 := NB102_101.out; have hcz17_0 : w15.cell? ⟨gb101, 0, none⟩ = some (.int .i64 a0_0) := (blk_cell BK101.out 0).trans rfl; have hcz17_1 : w15.cell? ⟨gb101, 1, none⟩ = some (.int .i64 a0_1) := (blk_cell BK101.out 1).trans rfl; have hfz17_0 := blk_frozen BK101.out 0; have hfz17_1 := blk_frozen BK101.out 1) | ((with_reducible refine gate_dst (N := 5) rfl ?_); refine Kd.R_lit k23 _ 23 ?hg (N := 5) ?hd (xs := ([(⟨a0_0, a0_1⟩ : S23)] : List (S23))) (inner := [.int .i64 a0_0, .int .i64 a0_1]) (ok := fun _ => True) (okp := fun _ => True) ?hr ?hp (fun _ hk => hk) trivial (Below.refl _ _) (Nat.le_refl _) (by simp) ?_; (case hd => rfl); (case hg => rfl); (case hr => first | (go_simp; done) | (go_simp; rfl)); (case hp => exact (Reps.c2 (show Kd.M k23 _ _ _ (⟨a0_0, a0_1⟩ : S23) [.int .i64 a0_0, .int .i64 a0_1] from (k23_mkM _ _ _ (⟨a0_0, a0_1⟩ : S23) )) (Reps.none _ _))); intro v104 w18 ho19 hb hg_ hnew_; clear hg_ hnew_; (first | rw [← Ny103.out] at ho19 | (simp only [Int.reduceToNat] at ho19; rw [← Ny103.out] at ho19)); have HO105 := Aside0.mk (Kd.R_lower (Kd.R_newB (Kd.R_newB ho19 (kB BK101)) (kB BK102)) (below_size (bB2 HB GE101 GE102))); replace BK101 := Aside0.mk (blk_below (kB BK101) hb); replace BK102 := Aside0.mk (blk_below (kB BK102) hb); replace HB := Aside0.mk (below_step (bB2 HB GE101 GE102) hb); clear hb ho19; obtain ⟨Ao20, co20, eo20⟩ := Kd.R_slice HO105.out; subst eo20) | ((with_reducible refine gate_callee (f := 66) rfl ?_); refine goesL_ (some 6) rfl rfl Try.func66 (by kernel_rfl) rfl #[.slice Ao20 y103.length co20] rfl mB ?_; (with_reducible refine (plane_valid.calls k _ _ y103 false _ ?side1 ?side2 A2.out).mono ?_); (case side1 => exact cB2 HO105); (case side2 => exact (Kd.R_reads' HO105.out).2.1); rintro e w21 ⟨rfl, hb⟩; refine ⟨_, rfl, ?_⟩; replace HO105 := Aside0.mk (Kd.R_below (rB HO105) hb); replace BK101 := Aside0.mk (blk_below (kB BK101) hb); replace BK102 := Aside0.mk (blk_below (kB BK102) hb); replace HB := Aside0.mk (below_step (bB2 HB GE101 GE102) hb); (try clear hb); (try clear hb2); (try clear hk); (try clear hi); have hcz22_0 : w21.cell? ⟨gb102, 0, none⟩ = some (.int .i64 0) := (blk_cell BK102.out 0).trans rfl; have hcz22_1 : w21.cell? ⟨gb102, 1, none⟩ = some (.int .i64 0) := (blk_cell BK102.out 1).trans rfl; have hfz22_0 := blk_frozen BK102.out 0; have hfz22_1 := blk_frozen BK102.out 1))
  refine bodyPost_ret (results_ct rfl _ _ gb102 23 #[.int .i64 0, .int .i64 0] (0, 0) _ rfl (by (with_reducible repeat (first | refine blk_drewN ?_ _ | refine blk_drew ?_ | refine blk_alloc ?_ _)); refine blk_put (cs := #[.int .i64 0, .int .i64 0]) ?_ 1 _ rfl; (with_reducible repeat (first | refine blk_drewN ?_ _ | refine blk_drew ?_ | refine blk_alloc ?_ _)); refine blk_put (cs := #[.int .i64 0, .int .i64 0]) ?_ 0 _ rfl; (with_reducible repeat (first | refine blk_drewN ?_ _ | refine blk_drew ?_ | refine blk_alloc ?_ _)); exact BK102.out) Try.underlying23 rfl (by kernel_rfl)) rfl ?_
  exact ⟨eB, bB2 HB GE101 GE102⟩
def plane_down.f (a0 : Int) (a1 : Int) : Option (Int) := if a1 = 0 then (none) else (if (Int.tmod a0 a1) < 0 then (some (wrap64 ((wrap64 (Int.tdiv a0 a1)) - 1))) else (some (wrap64 (Int.tdiv a0 a1))))
set_option maxHeartbeats 8000000 in
set_option maxRecDepth 100000 in
theorem plane_down.calls (a0 : Int) (a1 : Int) (r : Int) (w : World) (h : plane_down.f a0 a1 = some r) :
  Calls Try.prog 79 #[.int .i64 a0, .int .i64 a1] w fun e w' => e = .returned (.int .i64 r) ∧ Drawn0 w w' := by
 have H : (if a1 = 0 then (none) else (if (Int.tmod a0 a1) < 0 then (some (wrap64 ((wrap64 (Int.tdiv a0 a1)) - 1))) else (some (wrap64 (Int.tdiv a0 a1))))) = some r := h
 clear h
 by_cases c3 : a1 = 0
 ·rw [if_pos c3] at H
  exact absurd H (by simp)
 ·rw [if_neg c3] at H
  have c3b0 : (a1 == 0) = false := beq_eq_false_iff_ne.mpr c3
  have c3b1 : (a1 != 0) = true := bne_iff_ne.mpr c3
  by_cases c4 : (Int.tmod a0 a1) < 0
  ·rw [if_pos c4] at H
   have c4b0 : decide ((Int.tmod a0 a1) < 0) = true := decide_eq_true c4
   clear c4
   obtain rfl := Option.some.inj H
   go_enter Try.func79, Try.ntmps79
   go_wp2
   go_ret
   exact ⟨by first | rfl | (simp; done) | (simp [*]; done), by repeat (first | exact Drawn0.refl _ | apply Drawn0.step)⟩
  ·rw [if_neg c4] at H
   have c4b0 : decide ((Int.tmod a0 a1) < 0) = false := decide_eq_false c4
   clear c4
   obtain rfl := Option.some.inj H
   go_enter Try.func79, Try.ntmps79
   go_wp2
   go_ret
   exact ⟨by first | rfl | (simp; done) | (simp [*]; done), by repeat (first | exact Drawn0.refl _ | apply Drawn0.step)⟩
def plane_near.f (a0 : Int) (a1 : Int) : Option (Int) := (plane_down.f a0 a1).bind fun t101 => (if (wrap64 (a0 - (wrap64 (t101 * a1)))) ≥ (wrap64 (a1 - (wrap64 (a0 - (wrap64 (t101 * a1)))))) then (some (wrap64 (t101 + 1))) else (some t101))
set_option maxHeartbeats 8000000 in
set_option maxRecDepth 100000 in
theorem plane_near.calls (a0 : Int) (a1 : Int) (r : Int) (w : World) (h : plane_near.f a0 a1 = some r) :
  Calls Try.prog 77 #[.int .i64 a0, .int .i64 a1] w fun e w' => e = .returned (.int .i64 r) ∧ Drawn0 w w' := by
 have H : ((plane_down.f a0 a1).bind fun t101 => (if (wrap64 (a0 - (wrap64 (t101 * a1)))) ≥ (wrap64 (a1 - (wrap64 (a0 - (wrap64 (t101 * a1)))))) then (some (wrap64 (t101 + 1))) else (some t101))) = some r := h
 clear h
 replace H := Option.bind_eq_some_iff.mp H
 obtain ⟨t101, A30, H⟩ := H
 replace H : (if (wrap64 (a0 - (wrap64 (t101 * a1)))) ≥ (wrap64 (a1 - (wrap64 (a0 - (wrap64 (t101 * a1)))))) then (some (wrap64 (t101 + 1))) else (some t101)) = some r := H
 have A3 := Aside0.mk A30
 clear A30
 by_cases c4 : (wrap64 (a0 - (wrap64 (t101 * a1)))) ≥ (wrap64 (a1 - (wrap64 (a0 - (wrap64 (t101 * a1))))))
 ·rw [if_pos c4] at H
  have c4b0 : decide ((wrap64 (a1 - (wrap64 (a0 - (wrap64 (t101 * a1)))))) ≤ (wrap64 (a0 - (wrap64 (t101 * a1))))) = true := decide_eq_true c4
  clear c4
  obtain rfl := Option.some.inj H
  go_enter Try.func77, Try.ntmps77
  go_wp2_with (first | ((with_reducible refine gate_callee (f := 79) rfl ?_); refine goesL_ (some 8) rfl rfl Try.func79 (by kernel_rfl) rfl #[.int .i64 a0, .int .i64 a1] rfl mB ?_; (with_reducible refine (plane_down.calls a0 a1 t101 _ A3.out).mono ?_); rintro e w' ⟨rfl, ⟨nd, rfl⟩⟩; refine ⟨_, rfl, ?_⟩))
  go_ret
  exact ⟨by first | rfl | (simp; done) | (simp [*]; done), by repeat (first | exact Drawn0.refl _ | apply Drawn0.step)⟩
 ·rw [if_neg c4] at H
  have c4b0 : decide ((wrap64 (a1 - (wrap64 (a0 - (wrap64 (t101 * a1)))))) ≤ (wrap64 (a0 - (wrap64 (t101 * a1))))) = false := decide_eq_false c4
  clear c4
  obtain rfl := Option.some.inj H
  go_enter Try.func77, Try.ntmps77
  go_wp2_with (first | ((with_reducible refine gate_callee (f := 79) rfl ?_); refine goesL_ (some 8) rfl rfl Try.func79 (by kernel_rfl) rfl #[.int .i64 a0, .int .i64 a1] rfl mB ?_; (with_reducible refine (plane_down.calls a0 a1 t101 _ A3.out).mono ?_); rintro e w' ⟨rfl, ⟨nd, rfl⟩⟩; refine ⟨_, rfl, ?_⟩))
  go_ret
  exact ⟨by first | rfl | (simp; done) | (simp [*]; done), by repeat (first | exact Drawn0.refl _ | apply Drawn0.step)⟩
def plane_root.l0 : Nat → Int → Int → Int → Option (Int)
 | 0, _, _, _ => none
 | k + 1, x3, x4, x9 => if x9 < 32 then (if 0 ≤ (wrap64 (62 - (wrap64 (2 * x9)))) then (if x3 ≥ (IntKind.u64.wrap (x4 + (shl .u64 1 (wrap64 (62 - (wrap64 (2 * x9))))))) then (plane_root.l0 k (IntKind.u64.wrap (x3 - (IntKind.u64.wrap (x4 + (shl .u64 1 (wrap64 (62 - (wrap64 (2 * x9))))))))) (IntKind.u64.wrap ((x4 / 2) + (shl .u64 1 (wrap64 (62 - (wrap64 (2 * x9))))))) (wrap64 (x9 + 1))) else (plane_root.l0 k x3 (x4 / 2) (wrap64 (x9 + 1)))) else (none)) else (some (wrap64 (x4)))
def plane_root.f (k : Nat) (a0 : Int) : Option (Int) := plane_root.l0 k (IntKind.u64.wrap (a0)) 0 0
theorem plane_root.mono_l : ∀ k, (∀ y0 y1 y2, LeO (plane_root.l0 k y0 y1 y2) (plane_root.l0 (k + 1) y0 y1 y2))
 | 0 => fun _ _ _ r h => by simp [plane_root.l0] at h
 | k + 1 => by
  have ih0 := plane_root.mono_l k
  ·intro y0 y1 y2
   unfold plane_root.l0
   repeat' first
   | (with_reducible exact ih0 _ _ _)
   | (with_reducible exact LeO.refl _)
   | (with_reducible exact LeO.none _)
   | (with_reducible refine LeO.ite ?_ ?_)
   | (with_reducible refine LeO.bind ?_ (fun _ => ?_))
   | exact ih0 _ _ _
   | exact LeO.none _
   | refine LeO.ite ?_ ?_
   | refine LeO.bind ?_ (fun _ => ?_)
theorem plane_root.mono : ∀ a0 k, LeO (plane_root.f k a0) (plane_root.f (k + 1) a0) := by
 intro a0 k
 have ih0 := plane_root.mono_l k
 unfold plane_root.f
 repeat' first
   | (with_reducible exact ih0 _ _ _)
   | (with_reducible exact LeO.refl _)
   | (with_reducible exact LeO.none _)
   | (with_reducible refine LeO.ite ?_ ?_)
   | (with_reducible refine LeO.bind ?_ (fun _ => ?_))
   | exact ih0 _ _ _
   | exact LeO.none _
   | refine LeO.ite ?_ ?_
   | refine LeO.bind ?_ (fun _ => ?_)
set_option maxHeartbeats 8000000 in
set_option maxRecDepth 100000 in
theorem plane_root.calls (k : Nat) (a0 : Int) (r : Int) (w : World) (h : plane_root.f k a0 = some r) :
  Calls Try.prog 82 #[.int .i64 a0] w fun e w' => e = .returned (.int .i64 r) ∧ Drawn0 w w' := by
 have H : (plane_root.l0 k (IntKind.u64.wrap (a0)) 0 0) = some r := h
 clear h
 have H' := Aside0.mk H
 clear H
 go_enter Try.func82, Try.ntmps82
 go_wp2
 go_loopg [3, 4, 9] k (fun kq v3 v4 v9 w' => ∃ (x3_1 : Int) (x4_1 : Int) (x9_1 : Int), v3 = .int .u64 x3_1 ∧ v4 = .int .u64 x4_1 ∧ v9 = .int .i64 x9_1 ∧ Aside0 (plane_root.l0 kq x3_1 x4_1 x9_1 = some r) ∧ Aside0 (kq ≤ k) ∧ Drawn0 w w')
 case atStart => exact ⟨(IntKind.u64.wrap (a0)), (0), (0), sB, sB, sB, H', ⟨Nat.le_refl _⟩, by repeat (first | exact Drawn0.refl _ | apply Drawn0.step)⟩
 case round =>
  clear H'
  obtain ⟨x3_1, x4_1, x9_1, rfl, rfl, rfl, HA, HK1, ⟨m1, rfl⟩⟩ := hrel
  cases gk with
  | zero => exact absurd HA.out (by simp [plane_root.l0])
  | succ k1 =>
   have H := HA.out
   clear HA
   simp only [plane_root.l0] at H
   by_cases c2 : x9_1 < 32
   ·rw [if_pos c2] at H
    have c2b0 : decide (x9_1 < 32) = true := decide_eq_true c2
    clear c2
    obtain ⟨ji3, hji3⟩ : ∃ j_ : Int, (wrap64 (62 - (wrap64 (2 * x9_1)))) = j_ := ⟨_, rfl⟩
    replace H : (if 0 ≤ (ji3) then (if x3_1 ≥ (IntKind.u64.wrap (x4_1 + (shl .u64 1 (ji3)))) then (plane_root.l0 k1 (IntKind.u64.wrap (x3_1 - (IntKind.u64.wrap (x4_1 + (shl .u64 1 (ji3)))))) (IntKind.u64.wrap ((x4_1 / 2) + (shl .u64 1 (ji3)))) (wrap64 (x9_1 + 1))) else (plane_root.l0 k1 x3_1 (x4_1 / 2) (wrap64 (x9_1 + 1)))) else (none)) = some r := by first | (rw [hji3] at H; exact H) | (simp only [hji3] at H ⊢; exact H)
    have hji3w : (IntKind.i64.wrap (62 - (wrap64 (2 * x9_1)))) = ji3 := (i64_w _).trans hji3
    by_cases c4 : 0 ≤ (ji3)
    ·rw [if_pos c4] at H
     have c4b0 := eq_true c4
     have c4b1 : decide (0 ≤ (ji3)) = true := decide_eq_true c4
     clear c4
     obtain ⟨ji5, hji5⟩ : ∃ j_ : Int, (shl .u64 1 (ji3)) = j_ := ⟨_, rfl⟩
     replace H : (if x3_1 ≥ (IntKind.u64.wrap (x4_1 + (ji5))) then (plane_root.l0 k1 (IntKind.u64.wrap (x3_1 - (IntKind.u64.wrap (x4_1 + (ji5))))) (IntKind.u64.wrap ((x4_1 / 2) + (ji5))) (wrap64 (x9_1 + 1))) else (plane_root.l0 k1 x3_1 (x4_1 / 2) (wrap64 (x9_1 + 1)))) = some r := by first | (rw [hji5] at H; exact H) | (simp only [hji5] at H ⊢; exact H)
     have hji5_ : (IntKind.u64.wrap (1 * 2 ^ min (ji3).toNat 64)) = ji5 := hji5
     have hji5z : (ji3) ≤ 64 → (IntKind.u64.wrap (1 * 2 ^ (ji3).toNat)) = ji5 := shl_small hji5
     have hji5u : (IntKind.u64.wrap (2 ^ min (ji3).toNat 64)) = ji5 := by have h_ := hji5_; rw [Int.one_mul] at h_; exact h_
     have hji5v : (ji3) ≤ 64 → (IntKind.u64.wrap (2 ^ (ji3).toNat)) = ji5 := fun hle_ => by have h_ := hji5z hle_; rw [Int.one_mul] at h_; exact h_
     by_cases c6 : x3_1 ≥ (IntKind.u64.wrap (x4_1 + (ji5)))
     ·rw [if_pos c6] at H
      have c6b0 : decide ((IntKind.u64.wrap (x4_1 + (ji5))) ≤ x3_1) = true := decide_eq_true c6
      clear c6
      have H' := Aside0.mk H
      clear H
      go_wp2
      go_roundg k1
      case measure => have := HK1.out; omega
      case rel => exact ⟨(IntKind.u64.wrap (x3_1 - (IntKind.u64.wrap (x4_1 + (ji5))))), (IntKind.u64.wrap ((x4_1 / 2) + (ji5))), (wrap64 (x9_1 + 1)), (by first | rfl | (simp; done) | (simp only [← hji5] <;> (first | rfl | simp)) | (simp [*]; done)), (by first | rfl | (simp; done) | (simp only [← hji5] <;> (first | rfl | simp)) | (simp [*]; done)), sB, H', ⟨by have := HK1.out; omega⟩, by repeat (first | exact Drawn0.refl _ | apply Drawn0.step)⟩
     ·rw [if_neg c6] at H
      have c6b0 : decide ((IntKind.u64.wrap (x4_1 + (ji5))) ≤ x3_1) = false := decide_eq_false c6
      clear c6
      have H' := Aside0.mk H
      clear H
      go_wp2
      go_roundg k1
      case measure => have := HK1.out; omega
      case rel => exact ⟨(x3_1), (x4_1 / 2), (wrap64 (x9_1 + 1)), sB, sB, sB, H', ⟨by have := HK1.out; omega⟩, by repeat (first | exact Drawn0.refl _ | apply Drawn0.step)⟩
    ·rw [if_neg c4] at H
     exact absurd H (by simp)
   ·rw [if_neg c2] at H
    have c2b0 : decide (x9_1 < 32) = false := decide_eq_false c2
    clear c2
    obtain rfl := Option.some.inj H
    go_wp2
    go_ret
    exact ⟨by first | rfl | (simp; done) | (simp [*]; done), by repeat (first | exact Drawn0.refl _ | apply Drawn0.step)⟩
def plane_place.j0 : Nat → Int → Int → Int → Int → Bool → Int → Int → Option (Int × Int × Int)
 | 0, _, _, _, _, _, _, _ => none
 | k + 1, x2, x3, x10, x11, x28, x102000, x102001 => if x28 = true then (some (0, 0, 9)) else ((plane_root.f k (wrap64 (1024 * (wrap64 ((wrap64 (x10 * x10)) + (wrap64 (x11 * x11))))))).bind fun t104 => ((plane_near.f (wrap64 (32 * (wrap64 ((wrap64 (x10 * x2)) - (wrap64 (x11 * x3)))))) t104).bind fun t105 => ((plane_near.f (wrap64 (32 * (wrap64 ((wrap64 (x11 * x2)) + (wrap64 (x10 * x3)))))) t104).bind fun t106 => ((plane_result.f k (wrap64 (x102000 + t105)) (wrap64 (x102001 + t106))).bind fun bt107 => (some (bt107.1, bt107.2.1, bt107.2.2))))))
def plane_place.f (k : Nat) (a0_0 : Int) (a0_1 : Int) (a1_0 : Int) (a1_1 : Int) (a2 : Int) (a3 : Int) : Option (Int × Int × Int) := if (wrap64 (a1_0 - a0_0)) = 0 then (plane_place.j0 k a2 a3 (wrap64 (a1_0 - a0_0)) (wrap64 (a1_1 - a0_1)) ((wrap64 (a1_1 - a0_1)) == 0) a0_0 a0_1) else (plane_place.j0 k a2 a3 (wrap64 (a1_0 - a0_0)) (wrap64 (a1_1 - a0_1)) false a0_0 a0_1)
theorem plane_place.mono_l : ∀ k, (∀ y0 y1 y2 y3 y4 y5 y6, LeO (plane_place.j0 k y0 y1 y2 y3 y4 y5 y6) (plane_place.j0 (k + 1) y0 y1 y2 y3 y4 y5 y6))
 | 0 => fun _ _ _ _ _ _ _ r h => by simp [plane_place.j0] at h
 | k + 1 => by
  have ih0 := plane_place.mono_l k
  ·intro y0 y1 y2 y3 y4 y5 y6
   unfold plane_place.j0
   repeat' first
   | (with_reducible exact ih0 _ _ _ _ _ _ _)
   | (with_reducible exact plane_result.mono _ _ _)
   | (with_reducible exact plane_root.mono _ _)
   | (with_reducible exact LeO.refl _)
   | (with_reducible exact LeO.none _)
   | (with_reducible refine LeO.ite ?_ ?_)
   | (with_reducible refine LeO.bind ?_ (fun _ => ?_))
   | exact ih0 _ _ _ _ _ _ _
   | exact plane_result.mono _ _ _
   | exact plane_root.mono _ _
   | exact LeO.none _
   | refine LeO.ite ?_ ?_
   | refine LeO.bind ?_ (fun _ => ?_)
theorem plane_place.mono : ∀ a0 a1 a2 a3 a4 a5 k, LeO (plane_place.f k a0 a1 a2 a3 a4 a5) (plane_place.f (k + 1) a0 a1 a2 a3 a4 a5) := by
 intro a0 a1 a2 a3 a4 a5 k
 have ih0 := plane_place.mono_l k
 unfold plane_place.f
 repeat' first
   | (with_reducible exact ih0 _ _ _ _ _ _ _)
   | (with_reducible exact plane_result.mono _ _ _)
   | (with_reducible exact plane_root.mono _ _)
   | (with_reducible exact LeO.refl _)
   | (with_reducible exact LeO.none _)
   | (with_reducible refine LeO.ite ?_ ?_)
   | (with_reducible refine LeO.bind ?_ (fun _ => ?_))
   | exact ih0 _ _ _ _ _ _ _
   | exact plane_result.mono _ _ _
   | exact plane_root.mono _ _
   | exact LeO.none _
   | refine LeO.ite ?_ ?_
   | refine LeO.bind ?_ (fun _ => ?_)
def plane_place.T1 : Bool × List (List Nat × List Nat) := (true, [([], []), ([0], [0]), ([], []), ([2], [2]), ([1, 3], [1, 3]), ([], []), ([5], [5]), ([], []), ([7], [7]), ([6, 8], [6, 8]), ([4, 0, 1, 2, 3, 4], [4]), ([9, 10, 0, 1, 2, 3, 4, 5, 6, 7, 8, 9, 10], [9])])
def plane_place.B1 : List Nat := [0, 1, 0, 4, 15, 0, 32, 0, 128, 480, 31, 2047]
theorem plane_place.tab1 : rtab .any (opsOf Try.f68 1) = plane_place.T1 := by kernel_rfl
theorem plane_place.bits1 : waitsOk plane_place.T1.2 plane_place.B1 = true := by kernel_rfl
def plane_place.T5 : Bool × List (List Nat × List Nat) := (true, [([], []), ([0], [0]), ([], []), ([], []), ([2, 3], [2, 3]), ([], []), ([], []), ([5, 6], [5, 6]), ([4, 7], [4, 7]), ([8], [8]), ([], []), ([9, 10], [9, 10]), ([1, 11], [1, 11]), ([], []), ([13], [13]), ([], []), ([], []), ([15, 16], [15, 16]), ([], []), ([], []), ([18, 19], [18, 19]), ([17, 20], [17, 20]), ([21], [21]), ([], []), ([22, 23, 11], [22, 23]), ([14, 24], [14, 24]), ([12, 25], [12, 25]), ([26, 24], [26]), ([27], [27]), ([27], [27]), ([28, 27, 0, 1, 2, 3, 4, 5, 6, 7, 8, 9, 10, 11, 12, 13, 14, 15, 16, 17, 18, 19, 20, 21, 22, 23, 24, 25, 26, 27, 28, 29], [28]), ([29, 30, 0, 1, 2, 3, 4, 5, 6, 7, 8, 9, 10, 11, 12, 13, 14, 15, 16, 17, 18, 19, 20, 21, 22, 23, 24, 25, 26, 27, 28, 29, 30], [29])])
def plane_place.B5 : List Nat := [0, 1, 0, 0, 12, 0, 0, 96, 252, 508, 0, 2044, 4095, 0, 8192, 0, 0, 98304, 0, 0, 786432, 2064384, 4161536, 0, 16748540, 33550332, 67108863, 134217727, 268435455, 268435455, 1073741823, 2147483647]
theorem plane_place.tab5 : rtab .any (opsOf Try.f68 5) = plane_place.T5 := by kernel_rfl
theorem plane_place.bits5 : waitsOk plane_place.T5.2 plane_place.B5 = true := by kernel_rfl
set_option maxHeartbeats 8000000 in
set_option maxRecDepth 100000 in
theorem plane_place.calls (k : Nat) (a0_0 : Int) (a0_1 : Int) (a1_0 : Int) (a1_1 : Int) (a2 : Int) (a3 : Int) (r1 : Int) (r2 : Int) (r3 : Int) (w : World) (h : plane_place.f k a0_0 a0_1 a1_0 a1_1 a2 a3 = some (r1, r2, r3)) :
  Calls Try.prog 68 #[.agg #[.int .i64 a0_0, .int .i64 a0_1], .agg #[.int .i64 a1_0, .int .i64 a1_1], .int .i64 a2, .int .i64 a3] w fun e w' => e = .returned (.tuple #[.agg #[.int .i64 r1, .int .i64 r2], .int .i64 r3]) ∧ Below w.heap.size w w' := by
 have hu23 := Try.underlying23
 have HB := Aside0.mk (Below.refl w.heap.size w)
 have H : (if (wrap64 (a1_0 - a0_0)) = 0 then (plane_place.j0 k a2 a3 (wrap64 (a1_0 - a0_0)) (wrap64 (a1_1 - a0_1)) ((wrap64 (a1_1 - a0_1)) == 0) a0_0 a0_1) else (plane_place.j0 k a2 a3 (wrap64 (a1_0 - a0_0)) (wrap64 (a1_1 - a0_1)) false a0_0 a0_1)) = some (r1, r2, r3) := h
 clear h
 have HC5 := Aside0.mk H
 clear H
 go_enter Try.func68, Try.ntmps68
 try go_wp2_with (first | ((with_reducible refine gate_dst (N := 4) rfl ?_); refine boxE (N := 4) (cs := #[.int .i64 a0_0, .int .i64 a0_1]) (t := 23) ?_; intro gb101 hg w6 hbox hb; have n0_ := Aside0.mk (below_step (bB0 HB) hb); have BK101 := Aside0.mk (hbox); have GW101 := Aside0.mk (szB hg (below_size (bB0 HB))); have GE101 := GW101; clear HB; have HB := n0_; clear n0_; clear hb hbox hg) | ((with_reducible refine gate_dst (N := 5) rfl ?_); refine boxE (N := 5) (cs := #[.int .i64 a1_0, .int .i64 a1_1]) (t := 23) ?_; intro gb102 hg w7 hbox hb; have n0_ := Aside0.mk (blk_below (kB BK101) hb); have n1_ := Aside0.mk (below_step (bB1 HB GE101) hb); have BK102 := Aside0.mk (hbox); have GW102 := Aside0.mk (szB hg (below_size (bB1 HB GE101))); have GE102 := GW102; have NB101_102 := Aside0.mk (neA hg (blk_lt (kB BK101))); have NB102_101 := Aside0.mk (neB hg (blk_lt (kB BK101))); clear BK101; clear HB; have BK101 := n0_; have HB := n1_; clear n0_ n1_; clear hb hbox hg) | ((with_reducible refine gate_dst (N := 8) rfl ?_); refine boxE (N := 8) (cs := #[.int .i64 0, .int .i64 0]) (t := 23) ?_; intro gb103 hg w8 hbox hb; have n0_ := Aside0.mk (blk_below (kB BK101) hb); have n1_ := Aside0.mk (blk_below (kB BK102) hb); have n2_ := Aside0.mk (below_step (bB2 HB GE101 GE102) hb); have BK103 := Aside0.mk (hbox); have GW103 := Aside0.mk (szB hg (below_size (bB2 HB GE101 GE102))); have GE103 := GW103; have NB101_103 := Aside0.mk (neA hg (blk_lt (kB BK101))); have NB103_101 := Aside0.mk (neB hg (blk_lt (kB BK101))); have NB102_103 := Aside0.mk (neA hg (blk_lt (kB BK102))); have NB103_102 := Aside0.mk (neB hg (blk_lt (kB BK102))); clear BK101; clear BK102; clear HB; have BK101 := n0_; have BK102 := n1_; have HB := n2_; clear n0_ n1_ n2_; clear hb hbox hg))
 replace BK101 := Aside0.mk (blk_drew BK101.out)
 replace BK102 := Aside0.mk (blk_drew BK102.out)
 replace BK103 := Aside0.mk (blk_drew BK103.out)
 replace HB := Aside0.mk (below_drew1 HB.out)
 refine start_ (n := 12) (S := fun w' => w'.cell? ⟨gb102, 0, none⟩ = some (.int .i64 a1_0) ∧ w'.cell? ⟨gb102, 1, none⟩ = some (.int .i64 a1_1) ∧ w'.cell? ⟨gb101, 0, none⟩ = some (.int .i64 a0_0) ∧ w'.cell? ⟨gb101, 1, none⟩ = some (.int .i64 a0_1)) (ds := []) #[false, false, false, false, false, false, false, false, false, false, false, false] (by kernel_rfl) rfl rfl ⟨(blk_cell BK102.out 0).trans rfl, (blk_cell BK102.out 1).trans rfl, (blk_cell BK101.out 0).trans rfl, (blk_cell BK101.out 1).trans rfl⟩ (fun hHeld => ?_); refine with_tabW plane_place.tab1 plane_place.bits1 (fun HT_ HW_ => ?_)
 generalize w8.drew = w9 at BK101 BK102 BK103 HB hHeld ⊢
 refine pS 0 (some 13) HT_ ?_
 refine pS 2 (some 15) HT_ ?_
 refine pS 5 (some 18) HT_ ?_
 refine pS 7 (some 20) HT_ ?_
 refine tS 1 (some 14) rfl rfl HT_ HW_ hHeld (by rintro w' ⟨s0, s1, s2, s3⟩; go_simp; with_reducible rfl) ?_
 refine tS 3 (some 16) rfl rfl HT_ HW_ hHeld (by rintro w' ⟨s0, s1, s2, s3⟩; go_simp; with_reducible rfl) ?_
 refine pS 4 (some 17) HT_ ?_
 refine pS 10 (some 10) HT_ ?_
 refine tS 6 (some 19) rfl rfl HT_ HW_ hHeld (by rintro w' ⟨s0, s1, s2, s3⟩; go_simp; with_reducible rfl) ?_
 refine tS 8 (some 21) rfl rfl HT_ HW_ hHeld (by rintro w' ⟨s0, s1, s2, s3⟩; go_simp; with_reducible rfl) ?_
 refine pS 9 (some 22) HT_ ?_
 refine pS 11 (some 11) HT_ ?_
 refine done_ (done_of HT_.out (by kernel_rfl)) ?_
 go_upto_region 2 with (fail)
 go_cut [28] (fun v28 wc => ∃ (kq : Nat) (x28_4 : Bool), v28 = .bool x28_4 ∧ Aside0 (plane_place.j0 kq a2 a3 (wrap64 (a1_0 - a0_0)) (wrap64 (a1_1 - a0_1)) x28_4 a0_0 a0_1 = some (r1, r2, r3)) ∧ Aside0 (kq ≤ k) ∧ Aside0 (wc.heap[gb101]? = some (.cells #[.int .i64 a0_0, .int .i64 a0_1] 23 (0, 0))) ∧ Aside0 (wc.heap[gb102]? = some (.cells #[.int .i64 a1_0, .int .i64 a1_1] 23 (0, 0))) ∧ Aside0 (wc.heap[gb103]? = some (.cells #[.int .i64 0, .int .i64 0] 23 (0, 0))) ∧ Aside0 (Below w.heap.size w wc))
 case first =>
  have H := HC5.out
  clear HC5
  by_cases c10 : (wrap64 (a1_0 - a0_0)) = 0
  ·rw [if_pos c10] at H
   have c10b0 : ((wrap64 (a1_0 - a0_0)) == 0) = true := beq_iff_eq.mpr c10
   have c10b1 : ((wrap64 (a1_0 - a0_0)) != 0) = false := bne_eq_false_iff_eq.mpr c10
   clear c10
   (first | rw [c10b0] | (simp only [i64_w, i32_w]; rw [c10b0]) | skip)
   have H' := Aside0.mk H
   clear H
   go_wp2
   go_meet
   case rel => exact ⟨_, (((wrap64 (a1_1 - a0_1)) == 0)), sB, H', ⟨by first | omega | exact Nat.le_refl _⟩, ⟨by (with_reducible repeat (first | refine blk_drewN ?_ _ | refine blk_drew ?_ | refine blk_alloc ?_ _)); exact BK101.out⟩, ⟨by (with_reducible repeat (first | refine blk_drewN ?_ _ | refine blk_drew ?_ | refine blk_alloc ?_ _)); exact BK102.out⟩, ⟨by (with_reducible repeat (first | refine blk_drewN ?_ _ | refine blk_drew ?_ | refine blk_alloc ?_ _)); exact BK103.out⟩, ⟨bB3 HB GE101 GE102 GE103⟩⟩
  ·rw [if_neg c10] at H
   have c10b0 : ((wrap64 (a1_0 - a0_0)) == 0) = false := beq_eq_false_iff_ne.mpr c10
   have c10b1 : ((wrap64 (a1_0 - a0_0)) != 0) = true := bne_iff_ne.mpr c10
   (first | rw [c10b0] | (simp only [i64_w, i32_w]; rw [c10b0]) | skip)
   have H' := Aside0.mk H
   clear H
   go_wp2
   go_meet
   case rel => exact ⟨_, (false), sB, H', ⟨by first | omega | exact Nat.le_refl _⟩, ⟨by (with_reducible repeat (first | refine blk_drewN ?_ _ | refine blk_drew ?_ | refine blk_alloc ?_ _)); exact BK101.out⟩, ⟨by (with_reducible repeat (first | refine blk_drewN ?_ _ | refine blk_drew ?_ | refine blk_alloc ?_ _)); exact BK102.out⟩, ⟨by (with_reducible repeat (first | refine blk_drewN ?_ _ | refine blk_drew ?_ | refine blk_alloc ?_ _)); exact BK103.out⟩, ⟨bB3 HB GE101 GE102 GE103⟩⟩
 case rest =>
  clear HC5
  try clear c1
  try clear p2
  try clear c6
  try clear p6
  try clear c10
  try clear c10b0
  try clear c10b1
  obtain ⟨kq, x28_4, rfl, HA, HJ4, BK101, BK102, BK103, HB⟩ := hcut
  cases kq with
  | zero => exact absurd HA.out (by simp [plane_place.j0])
  | succ kj4 =>
   have H := HA.out
   clear HA
   simp only [plane_place.j0] at H
   by_cases c11 : x28_4 = true
   ·subst c11
    have H1 : (some (0, 0, 9)) = some (r1, r2, r3) := by rw [if_pos rfl] at H; exact H
    clear H
    have H := H1
    clear H1
    simp only [Option.some.injEq, Prod.mk.injEq] at H
    obtain ⟨rfl, rfl, rfl⟩ := H
    have hnb12 := NB103_101.out
    have hnc12 := NB101_103.out
    have hnb13 := NB103_102.out
    have hnc13 := NB102_103.out
    have hcz14_0 : wc.cell? ⟨gb103, 0, none⟩ = some (.int .i64 0) := (blk_cell BK103.out 0).trans rfl
    have hcz14_1 : wc.cell? ⟨gb103, 1, none⟩ = some (.int .i64 0) := (blk_cell BK103.out 1).trans rfl
    have hfz14_0 := blk_frozen BK103.out 0
    have hfz14_1 := blk_frozen BK103.out 1
    go_wp2
    refine bodyPost_ret (results_ct rfl _ _ gb103 23 #[.int .i64 0, .int .i64 0] (0, 0) _ rfl (by (with_reducible repeat (first | refine blk_drewN ?_ _ | refine blk_drew ?_ | refine blk_alloc ?_ _)); refine blk_put (cs := #[.int .i64 0, .int .i64 0]) ?_ 1 _ rfl; (with_reducible repeat (first | refine blk_drewN ?_ _ | refine blk_drew ?_ | refine blk_alloc ?_ _)); refine blk_put (cs := #[.int .i64 0, .int .i64 0]) ?_ 0 _ rfl; (with_reducible repeat (first | refine blk_drewN ?_ _ | refine blk_drew ?_ | refine blk_alloc ?_ _)); exact BK103.out) Try.underlying23 rfl (by kernel_rfl)) rfl ?_
    exact ⟨eB, bB3 HB GE101 GE102 GE103⟩
   ·replace c11 := Bool.eq_false_iff.mpr c11
    subst c11
    have H1 : ((plane_root.f kj4 (wrap64 (1024 * (wrap64 ((wrap64 ((wrap64 (a1_0 - a0_0)) * (wrap64 (a1_0 - a0_0)))) + (wrap64 ((wrap64 (a1_1 - a0_1)) * (wrap64 (a1_1 - a0_1))))))))).bind fun t104 => ((plane_near.f (wrap64 (32 * (wrap64 ((wrap64 ((wrap64 (a1_0 - a0_0)) * a2)) - (wrap64 ((wrap64 (a1_1 - a0_1)) * a3)))))) t104).bind fun t105 => ((plane_near.f (wrap64 (32 * (wrap64 ((wrap64 ((wrap64 (a1_1 - a0_1)) * a2)) + (wrap64 ((wrap64 (a1_0 - a0_0)) * a3)))))) t104).bind fun t106 => ((plane_result.f kj4 (wrap64 (a0_0 + t105)) (wrap64 (a0_1 + t106))).bind fun bt107 => (some (bt107.1, bt107.2.1, bt107.2.2)))))) = some (r1, r2, r3) := by rw [if_neg (show ¬ (false = true) by decide)] at H; exact H
    clear H
    have H := H1
    clear H1
    replace H := Option.bind_eq_some_iff.mp H
    obtain ⟨t104, A150, H⟩ := H
    replace H : ((plane_near.f (wrap64 (32 * (wrap64 ((wrap64 ((wrap64 (a1_0 - a0_0)) * a2)) - (wrap64 ((wrap64 (a1_1 - a0_1)) * a3)))))) t104).bind fun t105 => ((plane_near.f (wrap64 (32 * (wrap64 ((wrap64 ((wrap64 (a1_1 - a0_1)) * a2)) + (wrap64 ((wrap64 (a1_0 - a0_0)) * a3)))))) t104).bind fun t106 => ((plane_result.f kj4 (wrap64 (a0_0 + t105)) (wrap64 (a0_1 + t106))).bind fun bt107 => (some (bt107.1, bt107.2.1, bt107.2.2))))) = some (r1, r2, r3) := H
    have A15 := Aside0.mk A150
    clear A150
    replace H := Option.bind_eq_some_iff.mp H
    obtain ⟨t105, A160, H⟩ := H
    replace H : ((plane_near.f (wrap64 (32 * (wrap64 ((wrap64 ((wrap64 (a1_1 - a0_1)) * a2)) + (wrap64 ((wrap64 (a1_0 - a0_0)) * a3)))))) t104).bind fun t106 => ((plane_result.f kj4 (wrap64 (a0_0 + t105)) (wrap64 (a0_1 + t106))).bind fun bt107 => (some (bt107.1, bt107.2.1, bt107.2.2)))) = some (r1, r2, r3) := H
    have A16 := Aside0.mk A160
    clear A160
    replace H := Option.bind_eq_some_iff.mp H
    obtain ⟨t106, A170, H⟩ := H
    replace H : ((plane_result.f kj4 (wrap64 (a0_0 + t105)) (wrap64 (a0_1 + t106))).bind fun bt107 => (some (bt107.1, bt107.2.1, bt107.2.2))) = some (r1, r2, r3) := H
    have A17 := Aside0.mk A170
    clear A170
    replace H := Option.bind_eq_some_iff.mp H
    obtain ⟨⟨t107, t108, t109⟩, A180, H⟩ := H
    replace H : (some (t107, t108, t109)) = some (r1, r2, r3) := H
    have A18 := Aside0.mk A180
    clear A180
    simp only [Option.some.injEq, Prod.mk.injEq] at H
    obtain ⟨rfl, rfl, rfl⟩ := H
    try go_wp2_with (first | ((with_reducible refine gate_callee (f := 82) rfl ?_); refine goesL_ (some 38) rfl rfl Try.func82 (by kernel_rfl) rfl #[.int .i64 (wrap64 (1024 * (wrap64 ((wrap64 ((wrap64 (a1_0 - a0_0)) * (wrap64 (a1_0 - a0_0)))) + (wrap64 ((wrap64 (a1_1 - a0_1)) * (wrap64 (a1_1 - a0_1))))))))] rfl mB ?_; (with_reducible refine (plane_root.calls kj4 (wrap64 (1024 * (wrap64 ((wrap64 ((wrap64 (a1_0 - a0_0)) * (wrap64 (a1_0 - a0_0)))) + (wrap64 ((wrap64 (a1_1 - a0_1)) * (wrap64 (a1_1 - a0_1)))))))) t104 _ A15.out).mono ?_); rintro e w' ⟨rfl, ⟨nd, rfl⟩⟩; refine ⟨_, rfl, ?_⟩; (try (rw [drewN_self wc]; generalize hq_ : World.drewN wc _ = wc; have n0_ : Aside0 (wc.heap[gb101]? = some (.cells #[.int .i64 a0_0, .int .i64 a0_1] 23 (0, 0))) := ⟨by rw [← hq_]; exact (kB BK101)⟩; have n1_ : Aside0 (wc.heap[gb102]? = some (.cells #[.int .i64 a1_0, .int .i64 a1_1] 23 (0, 0))) := ⟨by rw [← hq_]; exact (kB BK102)⟩; have n2_ : Aside0 (wc.heap[gb103]? = some (.cells #[.int .i64 0, .int .i64 0] 23 (0, 0))) := ⟨by rw [← hq_]; exact (kB BK103)⟩; have n3_ : Aside0 (Below w.heap.size w wc) := ⟨by rw [← hq_]; exact (bB3 HB GE101 GE102 GE103)⟩; clear BK101 BK102 BK103 HB hq_; have BK101 := n0_; have BK102 := n1_; have BK103 := n2_; have HB := n3_; clear n0_ n1_ n2_ n3_))))
    replace BK101 := Aside0.mk (blk_drew BK101.out)
    replace BK102 := Aside0.mk (blk_drew BK102.out)
    replace BK103 := Aside0.mk (blk_drew BK103.out)
    replace HB := Aside0.mk (below_drew1 HB.out)
    refine start_ (n := 32) (S := fun w' => w'.cell? ⟨gb101, 0, none⟩ = some (.int .i64 a0_0) ∧ w'.cell? ⟨gb101, 1, none⟩ = some (.int .i64 a0_1)) (ds := []) #[false, false, false, false, false, false, false, false, false, false, false, false, false, false, false, false, false, false, false, false, false, false, false, false, false, false, false, false, false, false, false, false] (by kernel_rfl) rfl rfl ⟨(blk_cell BK101.out 0).trans rfl, (blk_cell BK101.out 1).trans rfl⟩ (fun hHeld => ?_); refine with_tabW plane_place.tab5 plane_place.bits5 (fun HT_ HW_ => ?_)
    generalize wc.drew = w19 at BK101 BK102 BK103 HB hHeld ⊢
    refine pS 0 (some 39) HT_ ?_
    refine pS 2 (some 41) HT_ ?_
    refine pS 3 (some 42) HT_ ?_
    refine pS 4 (some 43) HT_ ?_
    refine pS 5 (some 44) HT_ ?_
    refine pS 6 (some 45) HT_ ?_
    refine pS 7 (some 46) HT_ ?_
    refine pS 8 (some 47) HT_ ?_
    refine pS 9 (some 48) HT_ ?_
    refine pS 10 (some 49) HT_ ?_
    refine pS 13 (some 52) HT_ ?_
    refine pS 15 (some 54) HT_ ?_
    refine pS 16 (some 55) HT_ ?_
    refine pS 17 (some 56) HT_ ?_
    refine pS 18 (some 57) HT_ ?_
    refine pS 19 (some 58) HT_ ?_
    refine pS 20 (some 59) HT_ ?_
    refine pS 21 (some 60) HT_ ?_
    refine pS 22 (some 61) HT_ ?_
    refine pS 23 (some 62) HT_ ?_
    refine tS 1 (some 40) rfl rfl HT_ HW_ hHeld (by rintro w' ⟨s0, s1⟩; go_simp; with_reducible rfl) ?_
    refine tS 14 (some 53) rfl rfl HT_ HW_ hHeld (by rintro w' ⟨s0, s1⟩; go_simp; with_reducible rfl) ?_
    refine one_ (i := 11) (N := some 50) #[true, true, true, true, true, true, true, true, true, true, true, true, false, true, true, true, true, true, true, true, true, true, true, true, false, false, false, false, false, false, false, false] rfl rfl (one_of HT_.out (by kernel_rfl)) (by decide) (fun K hK => ?_)
    refine goes_ Try.func77 (by kernel_rfl) rfl #[.int .i64 (wrap64 (32 * (wrap64 ((wrap64 ((wrap64 (a1_0 - a0_0)) * a2)) - (wrap64 ((wrap64 (a1_1 - a0_1)) * a3)))))), .int .i64 t104] (by rfl) rfl rfl mB ?_
    with_reducible refine (plane_near.calls (wrap64 (32 * (wrap64 ((wrap64 ((wrap64 (a1_0 - a0_0)) * a2)) - (wrap64 ((wrap64 (a1_1 - a0_1)) * a3)))))) t104 t105 _ A16.out).mono ?_
    rintro e w' ⟨rfl, ⟨nd, rfl⟩⟩
    refine ⟨_, rfl, ?_⟩
    refine hK.out _ _ ⟨(blk_cell BK101.out 0).trans rfl, (blk_cell BK101.out 1).trans rfl⟩ (fun hHeld => ?_)
    clear hK K
    refine nZ (some 50) ?_
    refine pS 12 (some 51) HT_ ?_
    refine one_ (i := 24) (N := some 63) #[true, true, true, true, true, true, true, true, true, true, true, true, true, true, true, true, true, true, true, true, true, true, true, true, true, false, false, false, false, false, false, false] rfl rfl (one_of HT_.out (by kernel_rfl)) (by decide) (fun K hK => ?_)
    refine goes_ Try.func77 (by kernel_rfl) rfl #[.int .i64 (wrap64 (32 * (wrap64 ((wrap64 ((wrap64 (a1_1 - a0_1)) * a2)) + (wrap64 ((wrap64 (a1_0 - a0_0)) * a3)))))), .int .i64 t104] (by rfl) rfl rfl mB ?_
    with_reducible refine (plane_near.calls (wrap64 (32 * (wrap64 ((wrap64 ((wrap64 (a1_1 - a0_1)) * a2)) + (wrap64 ((wrap64 (a1_0 - a0_0)) * a3)))))) t104 t106 _ A17.out).mono ?_
    rintro e w' ⟨rfl, ⟨nd, rfl⟩⟩
    refine ⟨_, rfl, ?_⟩
    refine hK.out _ _ ⟨(blk_cell BK101.out 0).trans rfl, (blk_cell BK101.out 1).trans rfl⟩ (fun hHeld => ?_)
    clear hK K
    refine nZ (some 63) ?_
    refine pS 25 (some 64) HT_ ?_
    refine pS 26 (some 65) HT_ ?_
    refine one_ (i := 27) (N := some 66) #[true, true, true, true, true, true, true, true, true, true, true, true, true, true, true, true, true, true, true, true, true, true, true, true, true, true, true, true, false, false, false, false] rfl rfl (one_of HT_.out (by kernel_rfl)) (by decide) (fun K hK => ?_)
    refine goes_ Try.func76 (by kernel_rfl) rfl #[.agg #[.int .i64 (wrap64 (a0_0 + t105)), .int .i64 (wrap64 (a0_1 + t106))]] (by rfl) rfl rfl mB ?_
    with_reducible refine (plane_result.calls kj4 (wrap64 (a0_0 + t105)) (wrap64 (a0_1 + t106)) t107 t108 t109 _ A18.out).mono ?_
    rintro e w20 ⟨rfl, hb⟩
    refine ⟨_, rfl, ?_⟩
    replace BK101 := Aside0.mk (blk_below (kB BK101) hb)
    replace BK102 := Aside0.mk (blk_below (kB BK102) hb)
    replace BK103 := Aside0.mk (blk_below (kB BK103) hb)
    replace HB := Aside0.mk (below_step (bB3 HB GE101 GE102 GE103) hb)
    (try clear hb)
    (try clear hb2)
    (try clear hk)
    (try clear hi)
    refine hK.out _ _ ⟨(blk_cell BK101.out 0).trans rfl, (blk_cell BK101.out 1).trans rfl⟩ (fun hHeld => ?_)
    clear hK K
    refine nZ (some 66) ?_
    refine pS 28 (some 67) HT_ ?_
    refine pS 29 (some 68) HT_ ?_
    refine one_ (i := 30) (N := none) #[true, true, true, true, true, true, true, true, true, true, true, true, true, true, true, true, true, true, true, true, true, true, true, true, true, true, true, true, true, true, true, false] rfl rfl (one_of HT_.out (by kernel_rfl)) (by decide) (fun K hK => ?_)
    have hs21 : w20.cell? ⟨gb103, 0, none⟩ = some (.int .i64 0) := (blk_cell BK103.out 0).trans rfl
    have hfs21 := blk_frozen BK103.out 0
    have hns21_0 := NB101_103.out
    have hns21_1 := NB102_103.out
    have hms21_0 := NB103_101.out
    have hms21_1 := NB103_102.out
    have hs22 : w20.cell? ⟨gb103, 1, none⟩ = some (.int .i64 0) := (blk_cell BK103.out 1).trans rfl
    have hfs22 := blk_frozen BK103.out 1
    have hns22_0 := NB101_103.out
    have hns22_1 := NB102_103.out
    have hms22_0 := NB103_101.out
    have hms22_1 := NB103_102.out
    refine skip_ (w1 := ?_) (by rfl) rfl ?_ ?_
    rotate_left
    ·go_simp
     rfl
    refine hK.out _ _ ⟨((cell_far (p := ⟨gb103, _, none⟩) NB101_103.out _).trans (((cell_far (p := ⟨gb103, _, none⟩) NB101_103.out _).trans (hHeld.1)))), ((cell_far (p := ⟨gb103, _, none⟩) NB101_103.out _).trans (((cell_far (p := ⟨gb103, _, none⟩) NB101_103.out _).trans (hHeld.2))))⟩ (fun hHeld => ?_)
    clear hK K
    refine pS 31 (some 9) HT_ ?_
    refine done_ (done_of HT_.out (by kernel_rfl)) ?_
    try go_wp2
    refine bodyPost_ret (results_ct rfl _ _ gb103 23 #[.int .i64 t107, .int .i64 t108] (0, 0) _ rfl (by (with_reducible repeat (first | refine blk_drewN ?_ _ | refine blk_drew ?_ | refine blk_alloc ?_ _)); refine blk_put (cs := #[.int .i64 t107, .int .i64 0]) ?_ 1 _ rfl; (with_reducible repeat (first | refine blk_drewN ?_ _ | refine blk_drew ?_ | refine blk_alloc ?_ _)); refine blk_put (cs := #[.int .i64 0, .int .i64 0]) ?_ 0 _ rfl; (with_reducible repeat (first | refine blk_drewN ?_ _ | refine blk_drew ?_ | refine blk_alloc ?_ _)); exact BK103.out) Try.underlying23 rfl (by kernel_rfl)) rfl ?_
    exact ⟨eB, bB3 HB GE101 GE102 GE103⟩
def plane_Place.f (k : Nat) (a0_0 : Int) (a0_1 : Int) (a1_0 : Int) (a1_1 : Int) (a2 : Int) (a3 : Int) : Option (Int × Int × Int) := (plane_valid.f k (([(⟨a0_0, a0_1⟩ : S23), (⟨a1_0, a1_1⟩ : S23)] : List (S23)))).bind fun t107 => (if t107 = true then ((plane_within.f a2 (-16777216) 16777216).bind fun t108 => (if t108 = true then ((plane_within.f a3 (-16777216) 16777216).bind fun t109 => (if t109 = true then ((plane_place.f k a0_0 a0_1 a1_0 a1_1 a2 a3).bind fun bt110 => (some (bt110.1, bt110.2.1, bt110.2.2))) else (some (0, 0, 3)))) else (some (0, 0, 3)))) else (some (0, 0, 2)))
theorem plane_Place.mono : ∀ a0 a1 a2 a3 a4 a5 k, LeO (plane_Place.f k a0 a1 a2 a3 a4 a5) (plane_Place.f (k + 1) a0 a1 a2 a3 a4 a5) := by
 intro a0 a1 a2 a3 a4 a5 k
 unfold plane_Place.f
 repeat' first
   | (with_reducible exact plane_place.mono _ _ _ _ _ _ _)
   | (with_reducible exact plane_valid.mono _ _)
   | (with_reducible exact LeO.refl _)
   | (with_reducible exact LeO.none _)
   | (with_reducible refine LeO.ite ?_ ?_)
   | (with_reducible refine LeO.bind ?_ (fun _ => ?_))
   | exact plane_place.mono _ _ _ _ _ _ _
   | exact plane_valid.mono _ _
   | exact LeO.none _
   | refine LeO.ite ?_ ?_
   | refine LeO.bind ?_ (fun _ => ?_)
set_option maxHeartbeats 8000000 in
set_option maxRecDepth 100000 in
theorem plane_Place.calls (k : Nat) (a0_0 : Int) (a0_1 : Int) (a1_0 : Int) (a1_1 : Int) (a2 : Int) (a3 : Int) (r1 : Int) (r2 : Int) (r3 : Int) (w : World) (h : plane_Place.f k a0_0 a0_1 a1_0 a1_1 a2 a3 = some (r1, r2, r3)) :
  Calls Try.prog 15 #[.agg #[.int .i64 a0_0, .int .i64 a0_1], .agg #[.int .i64 a1_0, .int .i64 a1_1], .int .i64 a2, .int .i64 a3] w fun e w' => e = .returned (.tuple #[.agg #[.int .i64 r1, .int .i64 r2], .int .i64 r3]) ∧ Below w.heap.size w w' := by
 have hu23 := Try.underlying23
 have HB := Aside0.mk (Below.refl w.heap.size w)
 have H : ((plane_valid.f k (([(⟨a0_0, a0_1⟩ : S23), (⟨a1_0, a1_1⟩ : S23)] : List (S23)))).bind fun t107 => (if t107 = true then ((plane_within.f a2 (-16777216) 16777216).bind fun t108 => (if t108 = true then ((plane_within.f a3 (-16777216) 16777216).bind fun t109 => (if t109 = true then ((plane_place.f k a0_0 a0_1 a1_0 a1_1 a2 a3).bind fun bt110 => (some (bt110.1, bt110.2.1, bt110.2.2))) else (some (0, 0, 3)))) else (some (0, 0, 3)))) else (some (0, 0, 2)))) = some (r1, r2, r3) := h
 clear h
 obtain ⟨y104, hy104⟩ : ∃ y_ : List (S23), y_ = (([(⟨a0_0, a0_1⟩ : S23), (⟨a1_0, a1_1⟩ : S23)] : List (S23))) := ⟨_, rfl⟩
 replace H : ((plane_valid.f k y104).bind fun t107 => (if t107 = true then ((plane_within.f a2 (-16777216) 16777216).bind fun t108 => (if t108 = true then ((plane_within.f a3 (-16777216) 16777216).bind fun t109 => (if t109 = true then ((plane_place.f k a0_0 a0_1 a1_0 a1_1 a2 a3).bind fun bt110 => (some (bt110.1, bt110.2.1, bt110.2.2))) else (some (0, 0, 3)))) else (some (0, 0, 3)))) else (some (0, 0, 2)))) = some (r1, r2, r3) := by first | (rw [hy104]; with_reducible exact H) | (have H2_ := (Option.bind_some _ _).symm.trans H; rw [hy104]; with_reducible exact H2_) | (have H2_ := (Option.bind_some _ _).symm.trans H; with_reducible exact H2_) | with_reducible exact H | (rw [hy104]; exact H) | exact H
 have Ny104 := Aside0.mk hy104
 clear hy104
 replace H := Option.bind_eq_some_iff.mp H
 obtain ⟨t107, A50, H⟩ := H
 replace H : (if t107 = true then ((plane_within.f a2 (-16777216) 16777216).bind fun t108 => (if t108 = true then ((plane_within.f a3 (-16777216) 16777216).bind fun t109 => (if t109 = true then ((plane_place.f k a0_0 a0_1 a1_0 a1_1 a2 a3).bind fun bt110 => (some (bt110.1, bt110.2.1, bt110.2.2))) else (some (0, 0, 3)))) else (some (0, 0, 3)))) else (some (0, 0, 2))) = some (r1, r2, r3) := H
 have A5 := Aside0.mk A50
 clear A50
 by_cases c6 : t107 = true
 ·subst c6
  have H1 : ((plane_within.f a2 (-16777216) 16777216).bind fun t108 => (if t108 = true then ((plane_within.f a3 (-16777216) 16777216).bind fun t109 => (if t109 = true then ((plane_place.f k a0_0 a0_1 a1_0 a1_1 a2 a3).bind fun bt110 => (some (bt110.1, bt110.2.1, bt110.2.2))) else (some (0, 0, 3)))) else (some (0, 0, 3)))) = some (r1, r2, r3) := by rw [if_pos rfl] at H; exact H
  clear H
  have H := H1
  clear H1
  replace H := Option.bind_eq_some_iff.mp H
  obtain ⟨t108, A70, H⟩ := H
  replace H : (if t108 = true then ((plane_within.f a3 (-16777216) 16777216).bind fun t109 => (if t109 = true then ((plane_place.f k a0_0 a0_1 a1_0 a1_1 a2 a3).bind fun bt110 => (some (bt110.1, bt110.2.1, bt110.2.2))) else (some (0, 0, 3)))) else (some (0, 0, 3))) = some (r1, r2, r3) := H
  have A7 := Aside0.mk A70
  clear A70
  by_cases c8 : t108 = true
  ·subst c8
   have H1 : ((plane_within.f a3 (-16777216) 16777216).bind fun t109 => (if t109 = true then ((plane_place.f k a0_0 a0_1 a1_0 a1_1 a2 a3).bind fun bt110 => (some (bt110.1, bt110.2.1, bt110.2.2))) else (some (0, 0, 3)))) = some (r1, r2, r3) := by rw [if_pos rfl] at H; exact H
   clear H
   have H := H1
   clear H1
   replace H := Option.bind_eq_some_iff.mp H
   obtain ⟨t109, A90, H⟩ := H
   replace H : (if t109 = true then ((plane_place.f k a0_0 a0_1 a1_0 a1_1 a2 a3).bind fun bt110 => (some (bt110.1, bt110.2.1, bt110.2.2))) else (some (0, 0, 3))) = some (r1, r2, r3) := H
   have A9 := Aside0.mk A90
   clear A90
   by_cases c10 : t109 = true
   ·subst c10
    have H1 : ((plane_place.f k a0_0 a0_1 a1_0 a1_1 a2 a3).bind fun bt110 => (some (bt110.1, bt110.2.1, bt110.2.2))) = some (r1, r2, r3) := by rw [if_pos rfl] at H; exact H
    clear H
    have H := H1
    clear H1
    replace H := Option.bind_eq_some_iff.mp H
    obtain ⟨⟨t110, t111, t112⟩, A110, H⟩ := H
    replace H : (some (t110, t111, t112)) = some (r1, r2, r3) := H
    have A11 := Aside0.mk A110
    clear A110
    simp only [Option.some.injEq, Prod.mk.injEq] at H
    obtain ⟨rfl, rfl, rfl⟩ := H
    go_enter Try.func15, Try.ntmps15
    go_wp2_with (first | ((with_reducible refine gate_dst (N := 4) rfl ?_); refine boxE (N := 4) (cs := #[.int .i64 a0_0, .int .i64 a0_1]) (t := 23) ?_; intro gb101 hg w12 hbox hb; have n0_ := Aside0.mk (below_step (bB0 HB) hb); have BK101 := Aside0.mk (hbox); have GW101 := Aside0.mk (szB hg (below_size (bB0 HB))); have GE101 := GW101; clear HB; have HB := n0_; clear n0_; clear hb hbox hg) | ((with_reducible refine gate_dst (N := 5) rfl ?_); refine boxE (N := 5) (cs := #[.int .i64 a1_0, .int .i64 a1_1]) (t := 23) ?_; intro gb102 hg w13 hbox hb; have n0_ := Aside0.mk (blk_below (kB BK101) hb); have n1_ := Aside0.mk (below_step (bB1 HB GE101) hb); have BK102 := Aside0.mk (hbox); have GW102 := Aside0.mk (szB hg (below_size (bB1 HB GE101))); have GE102 := GW102; have NB101_102 := Aside0.mk (neA hg (blk_lt (kB BK101))); have NB102_101 := Aside0.mk (neB hg (blk_lt (kB BK101))); clear BK101; clear HB; have BK101 := n0_; have HB := n1_; clear n0_ n1_; clear hb hbox hg) | ((with_reducible refine gate_dst (N := 8) rfl ?_); refine boxE (N := 8) (cs := #[.int .i64 0, .int .i64 0]) (t := 23) ?_; intro gb103 hg w14 hbox hb; have n0_ := Aside0.mk (blk_below (kB BK101) hb); have n1_ := Aside0.mk (blk_below (kB BK102) hb); have n2_ := Aside0.mk (below_step (bB2 HB GE101 GE102) hb); have BK103 := Aside0.mk (hbox); have GW103 := Aside0.mk (szB hg (below_size (bB2 HB GE101 GE102))); have GE103 := GW103; have NB101_103 := Aside0.mk (neA hg (blk_lt (kB BK101))); have NB103_101 := Aside0.mk (neB hg (blk_lt (kB BK101))); have NB102_103 := Aside0.mk (neA hg (blk_lt (kB BK102))); have NB103_102 := Aside0.mk (neB hg (blk_lt (kB BK102))); clear BK101; clear BK102; clear HB; have BK101 := n0_; have BK102 := n1_; have HB := n2_; clear n0_ n1_ n2_; clear hb hbox hg; have hnb15 := NB101_102.out; have hnc15 := NB102_101.out; have hnb16 := NB101_103.out; have hnc16 := NB103_101.out; have hcz17_0 : w14.cell? ⟨gb101, 0, none⟩ = some (.int .i64 a0_0) := (blk_cell BK101.out 0).trans rfl; have hcz17_1 : w14.cell? ⟨gb101, 1, none⟩ = some (.int .i64 a0_1) := (blk_cell BK101.out 1).trans rfl; have hfz17_0 := blk_frozen BK101.out 0; have hfz17_1 := blk_frozen BK101.out 1; have hnb18 := NB102_103.out; have hnc18 := NB103_102.out; have hcz19_0 : w14.cell? ⟨gb102, 0, none⟩ = some (.int .i64 a1_0) := (blk_cell BK102.out 0).trans rfl; have hcz19_1 : w14.cell? ⟨gb102, 1, none⟩ = some (.int .i64 a1_1) := (blk_cell BK102.out 1).trans rfl; have hfz19_0 := blk_frozen BK102.out 0; have hfz19_1 := blk_frozen BK102.out 1) | ((with_reducible refine gate_dst (N := 12) rfl ?_); refine Kd.R_lit k23 _ 23 ?hg (N := 12) ?hd (xs := ([(⟨a0_0, a0_1⟩ : S23), (⟨a1_0, a1_1⟩ : S23)] : List (S23))) (inner := [.int .i64 a0_0, .int .i64 a0_1, .int .i64 a1_0, .int .i64 a1_1]) (ok := fun _ => True) (okp := fun _ => True) ?hr ?hp (fun _ hk => hk) trivial (Below.refl _ _) (Nat.le_refl _) (by simp) ?_; (case hd => rfl); (case hg => rfl); (case hr => first | (go_simp; done) | (go_simp; rfl)); (case hp => exact (Reps.c2 (show Kd.M k23 _ _ _ (⟨a0_0, a0_1⟩ : S23) [.int .i64 a0_0, .int .i64 a0_1] from (k23_mkM _ _ _ (⟨a0_0, a0_1⟩ : S23) )) (Reps.c2 (show Kd.M k23 _ _ _ (⟨a1_0, a1_1⟩ : S23) [.int .i64 a1_0, .int .i64 a1_1] from (k23_mkM _ _ _ (⟨a1_0, a1_1⟩ : S23) )) (Reps.none _ _)))); intro v105 w20 ho21 hb hg_ hnew_; clear hg_ hnew_; (first | rw [← Ny104.out] at ho21 | (simp only [Int.reduceToNat] at ho21; rw [← Ny104.out] at ho21)); have HO106 := Aside0.mk (Kd.R_lower (Kd.R_newB (Kd.R_newB (Kd.R_newB ho21 (kB BK101)) (kB BK102)) (kB BK103)) (below_size (bB3 HB GE101 GE102 GE103))); replace BK101 := Aside0.mk (blk_below (kB BK101) hb); replace BK102 := Aside0.mk (blk_below (kB BK102) hb); replace BK103 := Aside0.mk (blk_below (kB BK103) hb); replace HB := Aside0.mk (below_step (bB3 HB GE101 GE102 GE103) hb); clear hb ho21; obtain ⟨Ao22, co22, eo22⟩ := Kd.R_slice HO106.out; subst eo22) | ((with_reducible refine gate_callee (f := 66) rfl ?_); refine goesL_ (some 13) rfl rfl Try.func66 (by kernel_rfl) rfl #[.slice Ao22 y104.length co22] rfl mB ?_; (with_reducible refine (plane_valid.calls k _ _ y104 true _ ?side1 ?side2 A5.out).mono ?_); (case side1 => exact cB2 HO106); (case side2 => exact (Kd.R_reads' HO106.out).2.1); rintro e w23 ⟨rfl, hb⟩; refine ⟨_, rfl, ?_⟩; replace HO106 := Aside0.mk (Kd.R_below (rB HO106) hb); replace BK101 := Aside0.mk (blk_below (kB BK101) hb); replace BK102 := Aside0.mk (blk_below (kB BK102) hb); replace BK103 := Aside0.mk (blk_below (kB BK103) hb); replace HB := Aside0.mk (below_step (bB3 HB GE101 GE102 GE103) hb); (try clear hb); (try clear hb2); (try clear hk); (try clear hi)) | ((with_reducible refine gate_callee (f := 67) rfl ?_); refine goesL_ (some 17) rfl rfl Try.func67 (by kernel_rfl) rfl #[.int .i64 a2, .int .i64 (-16777216), .int .i64 16777216] rfl mB ?_; (with_reducible refine (plane_within.calls a2 (-16777216) 16777216 true _ A7.out).mono ?_); rintro e w' ⟨rfl, ⟨nd, rfl⟩⟩; refine ⟨_, rfl, ?_⟩; (try (rw [drewN_self w23]; generalize hq_ : World.drewN w23 _ = w23; have n0_ : Aside0 (Kd.R k23 23 w23 w.heap.size (fun k_ => k_ ≠ gb101 ∧ k_ ≠ gb102 ∧ k_ ≠ gb103) (.slice Ao22 y104.length co22) y104) := ⟨by rw [← hq_]; exact (by (with_reducible repeat (first | apply Kd.R_alloc | apply Kd.R_drewN | apply Kd.R_drew)); exact Kd.R_mono HO106.out (fun _ hk => ⟨hk.1.1.2, ⟨hk.1.2, hk.2⟩⟩))⟩; have n1_ : Aside0 (w23.heap[gb101]? = some (.cells #[.int .i64 a0_0, .int .i64 a0_1] 23 (0, 0))) := ⟨by rw [← hq_]; exact (kB BK101)⟩; have n2_ : Aside0 (w23.heap[gb102]? = some (.cells #[.int .i64 a1_0, .int .i64 a1_1] 23 (0, 0))) := ⟨by rw [← hq_]; exact (kB BK102)⟩; have n3_ : Aside0 (w23.heap[gb103]? = some (.cells #[.int .i64 0, .int .i64 0] 23 (0, 0))) := ⟨by rw [← hq_]; exact (kB BK103)⟩; have n4_ : Aside0 (Below w.heap.size w w23) := ⟨by rw [← hq_]; exact (bB3 HB GE101 GE102 GE103)⟩; clear HO106 BK101 BK102 BK103 HB hq_; have HO106 := n0_; have BK101 := n1_; have BK102 := n2_; have BK103 := n3_; have HB := n4_; clear n0_ n1_ n2_ n3_ n4_))) | (go_at_call 67; (with_reducible refine (plane_within.calls a3 (-16777216) 16777216 true _ A9.out).mono ?_); rintro e w' ⟨rfl, ⟨nd, rfl⟩⟩; (try (rw [drewN_self w23]; generalize hq_ : World.drewN w23 _ = w23; have n0_ : Aside0 (Kd.R k23 23 w23 w.heap.size (fun k_ => k_ ≠ gb101 ∧ k_ ≠ gb102 ∧ k_ ≠ gb103) (.slice Ao22 y104.length co22) y104) := ⟨by rw [← hq_]; exact (by (with_reducible repeat (first | apply Kd.R_alloc | apply Kd.R_drewN | apply Kd.R_drew)); exact Kd.R_mono HO106.out (fun _ hk => ⟨hk.1.1.2, ⟨hk.1.2, hk.2⟩⟩))⟩; have n1_ : Aside0 (w23.heap[gb101]? = some (.cells #[.int .i64 a0_0, .int .i64 a0_1] 23 (0, 0))) := ⟨by rw [← hq_]; exact (kB BK101)⟩; have n2_ : Aside0 (w23.heap[gb102]? = some (.cells #[.int .i64 a1_0, .int .i64 a1_1] 23 (0, 0))) := ⟨by rw [← hq_]; exact (kB BK102)⟩; have n3_ : Aside0 (w23.heap[gb103]? = some (.cells #[.int .i64 0, .int .i64 0] 23 (0, 0))) := ⟨by rw [← hq_]; exact (kB BK103)⟩; have n4_ : Aside0 (Below w.heap.size w w23) := ⟨by rw [← hq_]; exact (bB3 HB GE101 GE102 GE103)⟩; clear HO106 BK101 BK102 BK103 HB hq_; have HO106 := n0_; have BK101 := n1_; have BK102 := n2_; have BK103 := n3_; have HB := n4_; clear n0_ n1_ n2_ n3_ n4_)); have hcz24_0 : w23.cell? ⟨gb101, 0, none⟩ = some (.int .i64 a0_0) := (blk_cell BK101.out 0).trans rfl; have hcz24_1 : w23.cell? ⟨gb101, 1, none⟩ = some (.int .i64 a0_1) := (blk_cell BK101.out 1).trans rfl; have hfz24_0 := blk_frozen BK101.out 0; have hfz24_1 := blk_frozen BK101.out 1; have hcz25_0 : w23.cell? ⟨gb102, 0, none⟩ = some (.int .i64 a1_0) := (blk_cell BK102.out 0).trans rfl; have hcz25_1 : w23.cell? ⟨gb102, 1, none⟩ = some (.int .i64 a1_1) := (blk_cell BK102.out 1).trans rfl; have hfz25_0 := blk_frozen BK102.out 0; have hfz25_1 := blk_frozen BK102.out 1) | ((with_reducible refine gate_callee (f := 68) rfl ?_); refine goesL_ (some 29) rfl rfl Try.func68 (by kernel_rfl) rfl #[.agg #[.int .i64 a0_0, .int .i64 a0_1], .agg #[.int .i64 a1_0, .int .i64 a1_1], .int .i64 a2, .int .i64 a3] rfl mB ?_; (with_reducible refine (plane_place.calls k a0_0 a0_1 a1_0 a1_1 a2 a3 t110 t111 t112 _ A11.out).mono ?_); rintro e w26 ⟨rfl, hb⟩; refine ⟨_, rfl, ?_⟩; replace HO106 := Aside0.mk (Kd.R_below (rB HO106) hb); replace BK101 := Aside0.mk (blk_below (kB BK101) hb); replace BK102 := Aside0.mk (blk_below (kB BK102) hb); replace BK103 := Aside0.mk (blk_below (kB BK103) hb); replace HB := Aside0.mk (below_step (bB3 HB GE101 GE102 GE103) hb); (try clear hb); (try clear hb2); (try clear hk); (try clear hi); have hcz27_0 : w26.cell? ⟨gb103, 0, none⟩ = some (.int .i64 0) := (blk_cell BK103.out 0).trans rfl; have hcz27_1 : w26.cell? ⟨gb103, 1, none⟩ = some (.int .i64 0) := (blk_cell BK103.out 1).trans rfl; have hfz27_0 := blk_frozen BK103.out 0; have hfz27_1 := blk_frozen BK103.out 1))
    refine bodyPost_ret (results_ct rfl _ _ gb103 23 #[.int .i64 t110, .int .i64 t111] (0, 0) _ rfl (by (with_reducible repeat (first | refine blk_drewN ?_ _ | refine blk_drew ?_ | refine blk_alloc ?_ _)); refine blk_put (cs := #[.int .i64 t110, .int .i64 0]) ?_ 1 _ rfl; (with_reducible repeat (first | refine blk_drewN ?_ _ | refine blk_drew ?_ | refine blk_alloc ?_ _)); refine blk_put (cs := #[.int .i64 0, .int .i64 0]) ?_ 0 _ rfl; (with_reducible repeat (first | refine blk_drewN ?_ _ | refine blk_drew ?_ | refine blk_alloc ?_ _)); exact BK103.out) Try.underlying23 rfl (by kernel_rfl)) rfl ?_
    exact ⟨eB, bB3 HB GE101 GE102 GE103⟩
   ·replace c10 := Bool.eq_false_iff.mpr c10
    subst c10
    have H1 : (some (0, 0, 3)) = some (r1, r2, r3) := by rw [if_neg (show ¬ (false = true) by decide)] at H; exact H
    clear H
    have H := H1
    clear H1
    simp only [Option.some.injEq, Prod.mk.injEq] at H
    obtain ⟨rfl, rfl, rfl⟩ := H
    go_enter Try.func15, Try.ntmps15
    go_wp2_with (first | ((with_reducible refine gate_dst (N := 4) rfl ?_); refine boxE (N := 4) (cs := #[.int .i64 a0_0, .int .i64 a0_1]) (t := 23) ?_; intro gb101 hg w28 hbox hb; have n0_ := Aside0.mk (below_step (bB0 HB) hb); have BK101 := Aside0.mk (hbox); have GW101 := Aside0.mk (szB hg (below_size (bB0 HB))); have GE101 := GW101; clear HB; have HB := n0_; clear n0_; clear hb hbox hg) | ((with_reducible refine gate_dst (N := 5) rfl ?_); refine boxE (N := 5) (cs := #[.int .i64 a1_0, .int .i64 a1_1]) (t := 23) ?_; intro gb102 hg w29 hbox hb; have n0_ := Aside0.mk (blk_below (kB BK101) hb); have n1_ := Aside0.mk (below_step (bB1 HB GE101) hb); have BK102 := Aside0.mk (hbox); have GW102 := Aside0.mk (szB hg (below_size (bB1 HB GE101))); have GE102 := GW102; have NB101_102 := Aside0.mk (neA hg (blk_lt (kB BK101))); have NB102_101 := Aside0.mk (neB hg (blk_lt (kB BK101))); clear BK101; clear HB; have BK101 := n0_; have HB := n1_; clear n0_ n1_; clear hb hbox hg) | ((with_reducible refine gate_dst (N := 8) rfl ?_); refine boxE (N := 8) (cs := #[.int .i64 0, .int .i64 0]) (t := 23) ?_; intro gb103 hg w30 hbox hb; have n0_ := Aside0.mk (blk_below (kB BK101) hb); have n1_ := Aside0.mk (blk_below (kB BK102) hb); have n2_ := Aside0.mk (below_step (bB2 HB GE101 GE102) hb); have BK103 := Aside0.mk (hbox); have GW103 := Aside0.mk (szB hg (below_size (bB2 HB GE101 GE102))); have GE103 := GW103; have NB101_103 := Aside0.mk (neA hg (blk_lt (kB BK101))); have NB103_101 := Aside0.mk (neB hg (blk_lt (kB BK101))); have NB102_103 := Aside0.mk (neA hg (blk_lt (kB BK102))); have NB103_102 := Aside0.mk (neB hg (blk_lt (kB BK102))); clear BK101; clear BK102; clear HB; have BK101 := n0_; have BK102 := n1_; have HB := n2_; clear n0_ n1_ n2_; clear hb hbox hg; have hnb31 := NB101_102.out; have hnc31 := NB102_101.out; have hnb32 := NB101_103.out; have hnc32 := NB103_101.out; have hcz33_0 : w30.cell? ⟨gb101, 0, none⟩ = some (.int .i64 a0_0) := (blk_cell BK101.out 0).trans rfl; have hcz33_1 : w30.cell? ⟨gb101, 1, none⟩ = some (.int .i64 a0_1) := (blk_cell BK101.out 1).trans rfl; have hfz33_0 := blk_frozen BK101.out 0; have hfz33_1 := blk_frozen BK101.out 1; have hnb34 := NB102_103.out; have hnc34 := NB103_102.out; have hcz35_0 : w30.cell? ⟨gb102, 0, none⟩ = some (.int .i64 a1_0) := (blk_cell BK102.out 0).trans rfl; have hcz35_1 : w30.cell? ⟨gb102, 1, none⟩ = some (.int .i64 a1_1) := (blk_cell BK102.out 1).trans rfl; have hfz35_0 := blk_frozen BK102.out 0; have hfz35_1 := blk_frozen BK102.out 1) | ((with_reducible refine gate_dst (N := 12) rfl ?_); refine Kd.R_lit k23 _ 23 ?hg (N := 12) ?hd (xs := ([(⟨a0_0, a0_1⟩ : S23), (⟨a1_0, a1_1⟩ : S23)] : List (S23))) (inner := [.int .i64 a0_0, .int .i64 a0_1, .int .i64 a1_0, .int .i64 a1_1]) (ok := fun _ => True) (okp := fun _ => True) ?hr ?hp (fun _ hk => hk) trivial (Below.refl _ _) (Nat.le_refl _) (by simp) ?_; (case hd => rfl); (case hg => rfl); (case hr => first | (go_simp; done) | (go_simp; rfl)); (case hp => exact (Reps.c2 (show Kd.M k23 _ _ _ (⟨a0_0, a0_1⟩ : S23) [.int .i64 a0_0, .int .i64 a0_1] from (k23_mkM _ _ _ (⟨a0_0, a0_1⟩ : S23) )) (Reps.c2 (show Kd.M k23 _ _ _ (⟨a1_0, a1_1⟩ : S23) [.int .i64 a1_0, .int .i64 a1_1] from (k23_mkM _ _ _ (⟨a1_0, a1_1⟩ : S23) )) (Reps.none _ _)))); intro v105 w36 ho37 hb hg_ hnew_; clear hg_ hnew_; (first | rw [← Ny104.out] at ho37 | (simp only [Int.reduceToNat] at ho37; rw [← Ny104.out] at ho37)); have HO106 := Aside0.mk (Kd.R_lower (Kd.R_newB (Kd.R_newB (Kd.R_newB ho37 (kB BK101)) (kB BK102)) (kB BK103)) (below_size (bB3 HB GE101 GE102 GE103))); replace BK101 := Aside0.mk (blk_below (kB BK101) hb); replace BK102 := Aside0.mk (blk_below (kB BK102) hb); replace BK103 := Aside0.mk (blk_below (kB BK103) hb); replace HB := Aside0.mk (below_step (bB3 HB GE101 GE102 GE103) hb); clear hb ho37; obtain ⟨Ao38, co38, eo38⟩ := Kd.R_slice HO106.out; subst eo38) | ((with_reducible refine gate_callee (f := 66) rfl ?_); refine goesL_ (some 13) rfl rfl Try.func66 (by kernel_rfl) rfl #[.slice Ao38 y104.length co38] rfl mB ?_; (with_reducible refine (plane_valid.calls k _ _ y104 true _ ?side1 ?side2 A5.out).mono ?_); (case side1 => exact cB2 HO106); (case side2 => exact (Kd.R_reads' HO106.out).2.1); rintro e w39 ⟨rfl, hb⟩; refine ⟨_, rfl, ?_⟩; replace HO106 := Aside0.mk (Kd.R_below (rB HO106) hb); replace BK101 := Aside0.mk (blk_below (kB BK101) hb); replace BK102 := Aside0.mk (blk_below (kB BK102) hb); replace BK103 := Aside0.mk (blk_below (kB BK103) hb); replace HB := Aside0.mk (below_step (bB3 HB GE101 GE102 GE103) hb); (try clear hb); (try clear hb2); (try clear hk); (try clear hi)) | ((with_reducible refine gate_callee (f := 67) rfl ?_); refine goesL_ (some 17) rfl rfl Try.func67 (by kernel_rfl) rfl #[.int .i64 a2, .int .i64 (-16777216), .int .i64 16777216] rfl mB ?_; (with_reducible refine (plane_within.calls a2 (-16777216) 16777216 true _ A7.out).mono ?_); rintro e w' ⟨rfl, ⟨nd, rfl⟩⟩; refine ⟨_, rfl, ?_⟩; (try (rw [drewN_self w39]; generalize hq_ : World.drewN w39 _ = w39; have n0_ : Aside0 (Kd.R k23 23 w39 w.heap.size (fun k_ => k_ ≠ gb101 ∧ k_ ≠ gb102 ∧ k_ ≠ gb103) (.slice Ao38 y104.length co38) y104) := ⟨by rw [← hq_]; exact (by (with_reducible repeat (first | apply Kd.R_alloc | apply Kd.R_drewN | apply Kd.R_drew)); exact Kd.R_mono HO106.out (fun _ hk => ⟨hk.1.1.2, ⟨hk.1.2, hk.2⟩⟩))⟩; have n1_ : Aside0 (w39.heap[gb101]? = some (.cells #[.int .i64 a0_0, .int .i64 a0_1] 23 (0, 0))) := ⟨by rw [← hq_]; exact (kB BK101)⟩; have n2_ : Aside0 (w39.heap[gb102]? = some (.cells #[.int .i64 a1_0, .int .i64 a1_1] 23 (0, 0))) := ⟨by rw [← hq_]; exact (kB BK102)⟩; have n3_ : Aside0 (w39.heap[gb103]? = some (.cells #[.int .i64 0, .int .i64 0] 23 (0, 0))) := ⟨by rw [← hq_]; exact (kB BK103)⟩; have n4_ : Aside0 (Below w.heap.size w w39) := ⟨by rw [← hq_]; exact (bB3 HB GE101 GE102 GE103)⟩; clear HO106 BK101 BK102 BK103 HB hq_; have HO106 := n0_; have BK101 := n1_; have BK102 := n2_; have BK103 := n3_; have HB := n4_; clear n0_ n1_ n2_ n3_ n4_))) | (go_at_call 67; (with_reducible refine (plane_within.calls a3 (-16777216) 16777216 false _ A9.out).mono ?_); rintro e w' ⟨rfl, ⟨nd, rfl⟩⟩; (try (rw [drewN_self w39]; generalize hq_ : World.drewN w39 _ = w39; have n0_ : Aside0 (Kd.R k23 23 w39 w.heap.size (fun k_ => k_ ≠ gb101 ∧ k_ ≠ gb102 ∧ k_ ≠ gb103) (.slice Ao38 y104.length co38) y104) := ⟨by rw [← hq_]; exact (by (with_reducible repeat (first | apply Kd.R_alloc | apply Kd.R_drewN | apply Kd.R_drew)); exact Kd.R_mono HO106.out (fun _ hk => ⟨hk.1.1.2, ⟨hk.1.2, hk.2⟩⟩))⟩; have n1_ : Aside0 (w39.heap[gb101]? = some (.cells #[.int .i64 a0_0, .int .i64 a0_1] 23 (0, 0))) := ⟨by rw [← hq_]; exact (kB BK101)⟩; have n2_ : Aside0 (w39.heap[gb102]? = some (.cells #[.int .i64 a1_0, .int .i64 a1_1] 23 (0, 0))) := ⟨by rw [← hq_]; exact (kB BK102)⟩; have n3_ : Aside0 (w39.heap[gb103]? = some (.cells #[.int .i64 0, .int .i64 0] 23 (0, 0))) := ⟨by rw [← hq_]; exact (kB BK103)⟩; have n4_ : Aside0 (Below w.heap.size w w39) := ⟨by rw [← hq_]; exact (bB3 HB GE101 GE102 GE103)⟩; clear HO106 BK101 BK102 BK103 HB hq_; have HO106 := n0_; have BK101 := n1_; have BK102 := n2_; have BK103 := n3_; have HB := n4_; clear n0_ n1_ n2_ n3_ n4_)); have hcz40_0 : w39.cell? ⟨gb103, 0, none⟩ = some (.int .i64 0) := (blk_cell BK103.out 0).trans rfl; have hcz40_1 : w39.cell? ⟨gb103, 1, none⟩ = some (.int .i64 0) := (blk_cell BK103.out 1).trans rfl; have hfz40_0 := blk_frozen BK103.out 0; have hfz40_1 := blk_frozen BK103.out 1))
    refine bodyPost_ret (results_ct rfl _ _ gb103 23 #[.int .i64 0, .int .i64 0] (0, 0) _ rfl (by (with_reducible repeat (first | refine blk_drewN ?_ _ | refine blk_drew ?_ | refine blk_alloc ?_ _)); refine blk_put (cs := #[.int .i64 0, .int .i64 0]) ?_ 1 _ rfl; (with_reducible repeat (first | refine blk_drewN ?_ _ | refine blk_drew ?_ | refine blk_alloc ?_ _)); refine blk_put (cs := #[.int .i64 0, .int .i64 0]) ?_ 0 _ rfl; (with_reducible repeat (first | refine blk_drewN ?_ _ | refine blk_drew ?_ | refine blk_alloc ?_ _)); exact BK103.out) Try.underlying23 rfl (by kernel_rfl)) rfl ?_
    exact ⟨eB, bB3 HB GE101 GE102 GE103⟩
  ·replace c8 := Bool.eq_false_iff.mpr c8
   subst c8
   have H1 : (some (0, 0, 3)) = some (r1, r2, r3) := by rw [if_neg (show ¬ (false = true) by decide)] at H; exact H
   clear H
   have H := H1
   clear H1
   simp only [Option.some.injEq, Prod.mk.injEq] at H
   obtain ⟨rfl, rfl, rfl⟩ := H
   go_enter Try.func15, Try.ntmps15
   go_wp2_with (first | ((with_reducible refine gate_dst (N := 4) rfl ?_); refine boxE (N := 4) (cs := #[.int .i64 a0_0, .int .i64 a0_1]) (t := 23) ?_; intro gb101 hg w41 hbox hb; have n0_ := Aside0.mk (below_step (bB0 HB) hb); have BK101 := Aside0.mk (hbox); have GW101 := Aside0.mk (szB hg (below_size (bB0 HB))); have GE101 := GW101; clear HB; have HB := n0_; clear n0_; clear hb hbox hg) | ((with_reducible refine gate_dst (N := 5) rfl ?_); refine boxE (N := 5) (cs := #[.int .i64 a1_0, .int .i64 a1_1]) (t := 23) ?_; intro gb102 hg w42 hbox hb; have n0_ := Aside0.mk (blk_below (kB BK101) hb); have n1_ := Aside0.mk (below_step (bB1 HB GE101) hb); have BK102 := Aside0.mk (hbox); have GW102 := Aside0.mk (szB hg (below_size (bB1 HB GE101))); have GE102 := GW102; have NB101_102 := Aside0.mk (neA hg (blk_lt (kB BK101))); have NB102_101 := Aside0.mk (neB hg (blk_lt (kB BK101))); clear BK101; clear HB; have BK101 := n0_; have HB := n1_; clear n0_ n1_; clear hb hbox hg) | ((with_reducible refine gate_dst (N := 8) rfl ?_); refine boxE (N := 8) (cs := #[.int .i64 0, .int .i64 0]) (t := 23) ?_; intro gb103 hg w43 hbox hb; have n0_ := Aside0.mk (blk_below (kB BK101) hb); have n1_ := Aside0.mk (blk_below (kB BK102) hb); have n2_ := Aside0.mk (below_step (bB2 HB GE101 GE102) hb); have BK103 := Aside0.mk (hbox); have GW103 := Aside0.mk (szB hg (below_size (bB2 HB GE101 GE102))); have GE103 := GW103; have NB101_103 := Aside0.mk (neA hg (blk_lt (kB BK101))); have NB103_101 := Aside0.mk (neB hg (blk_lt (kB BK101))); have NB102_103 := Aside0.mk (neA hg (blk_lt (kB BK102))); have NB103_102 := Aside0.mk (neB hg (blk_lt (kB BK102))); clear BK101; clear BK102; clear HB; have BK101 := n0_; have BK102 := n1_; have HB := n2_; clear n0_ n1_ n2_; clear hb hbox hg; have hnb44 := NB101_102.out; have hnc44 := NB102_101.out; have hnb45 := NB101_103.out; have hnc45 := NB103_101.out; have hcz46_0 : w43.cell? ⟨gb101, 0, none⟩ = some (.int .i64 a0_0) := (blk_cell BK101.out 0).trans rfl; have hcz46_1 : w43.cell? ⟨gb101, 1, none⟩ = some (.int .i64 a0_1) := (blk_cell BK101.out 1).trans rfl; have hfz46_0 := blk_frozen BK101.out 0; have hfz46_1 := blk_frozen BK101.out 1; have hnb47 := NB102_103.out; have hnc47 := NB103_102.out; have hcz48_0 : w43.cell? ⟨gb102, 0, none⟩ = some (.int .i64 a1_0) := (blk_cell BK102.out 0).trans rfl; have hcz48_1 : w43.cell? ⟨gb102, 1, none⟩ = some (.int .i64 a1_1) := (blk_cell BK102.out 1).trans rfl; have hfz48_0 := blk_frozen BK102.out 0; have hfz48_1 := blk_frozen BK102.out 1) | ((with_reducible refine gate_dst (N := 12) rfl ?_); refine Kd.R_lit k23 _ 23 ?hg (N := 12) ?hd (xs := ([(⟨a0_0, a0_1⟩ : S23), (⟨a1_0, a1_1⟩ : S23)] : List (S23))) (inner := [.int .i64 a0_0, .int .i64 a0_1, .int .i64 a1_0, .int .i64 a1_1]) (ok := fun _ => True) (okp := fun _ => True) ?hr ?hp (fun _ hk => hk) trivial (Below.refl _ _) (Nat.le_refl _) (by simp) ?_; (case hd => rfl); (case hg => rfl); (case hr => first | (go_simp; done) | (go_simp; rfl)); (case hp => exact (Reps.c2 (show Kd.M k23 _ _ _ (⟨a0_0, a0_1⟩ : S23) [.int .i64 a0_0, .int .i64 a0_1] from (k23_mkM _ _ _ (⟨a0_0, a0_1⟩ : S23) )) (Reps.c2 (show Kd.M k23 _ _ _ (⟨a1_0, a1_1⟩ : S23) [.int .i64 a1_0, .int .i64 a1_1] from (k23_mkM _ _ _ (⟨a1_0, a1_1⟩ : S23) )) (Reps.none _ _)))); intro v105 w49 ho50 hb hg_ hnew_; clear hg_ hnew_; (first | rw [← Ny104.out] at ho50 | (simp only [Int.reduceToNat] at ho50; rw [← Ny104.out] at ho50)); have HO106 := Aside0.mk (Kd.R_lower (Kd.R_newB (Kd.R_newB (Kd.R_newB ho50 (kB BK101)) (kB BK102)) (kB BK103)) (below_size (bB3 HB GE101 GE102 GE103))); replace BK101 := Aside0.mk (blk_below (kB BK101) hb); replace BK102 := Aside0.mk (blk_below (kB BK102) hb); replace BK103 := Aside0.mk (blk_below (kB BK103) hb); replace HB := Aside0.mk (below_step (bB3 HB GE101 GE102 GE103) hb); clear hb ho50; obtain ⟨Ao51, co51, eo51⟩ := Kd.R_slice HO106.out; subst eo51) | ((with_reducible refine gate_callee (f := 66) rfl ?_); refine goesL_ (some 13) rfl rfl Try.func66 (by kernel_rfl) rfl #[.slice Ao51 y104.length co51] rfl mB ?_; (with_reducible refine (plane_valid.calls k _ _ y104 true _ ?side1 ?side2 A5.out).mono ?_); (case side1 => exact cB2 HO106); (case side2 => exact (Kd.R_reads' HO106.out).2.1); rintro e w52 ⟨rfl, hb⟩; refine ⟨_, rfl, ?_⟩; replace HO106 := Aside0.mk (Kd.R_below (rB HO106) hb); replace BK101 := Aside0.mk (blk_below (kB BK101) hb); replace BK102 := Aside0.mk (blk_below (kB BK102) hb); replace BK103 := Aside0.mk (blk_below (kB BK103) hb); replace HB := Aside0.mk (below_step (bB3 HB GE101 GE102 GE103) hb); (try clear hb); (try clear hb2); (try clear hk); (try clear hi)) | ((with_reducible refine gate_callee (f := 67) rfl ?_); refine goesL_ (some 17) rfl rfl Try.func67 (by kernel_rfl) rfl #[.int .i64 a2, .int .i64 (-16777216), .int .i64 16777216] rfl mB ?_; (with_reducible refine (plane_within.calls a2 (-16777216) 16777216 false _ A7.out).mono ?_); rintro e w' ⟨rfl, ⟨nd, rfl⟩⟩; refine ⟨_, rfl, ?_⟩; (try (rw [drewN_self w52]; generalize hq_ : World.drewN w52 _ = w52; have n0_ : Aside0 (Kd.R k23 23 w52 w.heap.size (fun k_ => k_ ≠ gb101 ∧ k_ ≠ gb102 ∧ k_ ≠ gb103) (.slice Ao51 y104.length co51) y104) := ⟨by rw [← hq_]; exact (by (with_reducible repeat (first | apply Kd.R_alloc | apply Kd.R_drewN | apply Kd.R_drew)); exact Kd.R_mono HO106.out (fun _ hk => ⟨hk.1.1.2, ⟨hk.1.2, hk.2⟩⟩))⟩; have n1_ : Aside0 (w52.heap[gb101]? = some (.cells #[.int .i64 a0_0, .int .i64 a0_1] 23 (0, 0))) := ⟨by rw [← hq_]; exact (kB BK101)⟩; have n2_ : Aside0 (w52.heap[gb102]? = some (.cells #[.int .i64 a1_0, .int .i64 a1_1] 23 (0, 0))) := ⟨by rw [← hq_]; exact (kB BK102)⟩; have n3_ : Aside0 (w52.heap[gb103]? = some (.cells #[.int .i64 0, .int .i64 0] 23 (0, 0))) := ⟨by rw [← hq_]; exact (kB BK103)⟩; have n4_ : Aside0 (Below w.heap.size w w52) := ⟨by rw [← hq_]; exact (bB3 HB GE101 GE102 GE103)⟩; clear HO106 BK101 BK102 BK103 HB hq_; have HO106 := n0_; have BK101 := n1_; have BK102 := n2_; have BK103 := n3_; have HB := n4_; clear n0_ n1_ n2_ n3_ n4_)); have hcz53_0 : w52.cell? ⟨gb103, 0, none⟩ = some (.int .i64 0) := (blk_cell BK103.out 0).trans rfl; have hcz53_1 : w52.cell? ⟨gb103, 1, none⟩ = some (.int .i64 0) := (blk_cell BK103.out 1).trans rfl; have hfz53_0 := blk_frozen BK103.out 0; have hfz53_1 := blk_frozen BK103.out 1))
   refine bodyPost_ret (results_ct rfl _ _ gb103 23 #[.int .i64 0, .int .i64 0] (0, 0) _ rfl (by (with_reducible repeat (first | refine blk_drewN ?_ _ | refine blk_drew ?_ | refine blk_alloc ?_ _)); refine blk_put (cs := #[.int .i64 0, .int .i64 0]) ?_ 1 _ rfl; (with_reducible repeat (first | refine blk_drewN ?_ _ | refine blk_drew ?_ | refine blk_alloc ?_ _)); refine blk_put (cs := #[.int .i64 0, .int .i64 0]) ?_ 0 _ rfl; (with_reducible repeat (first | refine blk_drewN ?_ _ | refine blk_drew ?_ | refine blk_alloc ?_ _)); exact BK103.out) Try.underlying23 rfl (by kernel_rfl)) rfl ?_
   exact ⟨eB, bB3 HB GE101 GE102 GE103⟩
 ·replace c6 := Bool.eq_false_iff.mpr c6
  subst c6
  have H1 : (some (0, 0, 2)) = some (r1, r2, r3) := by rw [if_neg (show ¬ (false = true) by decide)] at H; exact H
  clear H
  have H := H1
  clear H1
  simp only [Option.some.injEq, Prod.mk.injEq] at H
  obtain ⟨rfl, rfl, rfl⟩ := H
  go_enter Try.func15, Try.ntmps15
  go_wp2_with (first | ((with_reducible refine gate_dst (N := 4) rfl ?_); refine boxE (N := 4) (cs := #[.int .i64 a0_0, .int .i64 a0_1]) (t := 23) ?_; intro gb101 hg w54 hbox hb; have n0_ := Aside0.mk (below_step (bB0 HB) hb); have BK101 := Aside0.mk (hbox); have GW101 := Aside0.mk (szB hg (below_size (bB0 HB))); have GE101 := GW101; clear HB; have HB := n0_; clear n0_; clear hb hbox hg) | ((with_reducible refine gate_dst (N := 5) rfl ?_); refine boxE (N := 5) (cs := #[.int .i64 a1_0, .int .i64 a1_1]) (t := 23) ?_; intro gb102 hg w55 hbox hb; have n0_ := Aside0.mk (blk_below (kB BK101) hb); have n1_ := Aside0.mk (below_step (bB1 HB GE101) hb); have BK102 := Aside0.mk (hbox); have GW102 := Aside0.mk (szB hg (below_size (bB1 HB GE101))); have GE102 := GW102; have NB101_102 := Aside0.mk (neA hg (blk_lt (kB BK101))); have NB102_101 := Aside0.mk (neB hg (blk_lt (kB BK101))); clear BK101; clear HB; have BK101 := n0_; have HB := n1_; clear n0_ n1_; clear hb hbox hg) | ((with_reducible refine gate_dst (N := 8) rfl ?_); refine boxE (N := 8) (cs := #[.int .i64 0, .int .i64 0]) (t := 23) ?_; intro gb103 hg w56 hbox hb; have n0_ := Aside0.mk (blk_below (kB BK101) hb); have n1_ := Aside0.mk (blk_below (kB BK102) hb); have n2_ := Aside0.mk (below_step (bB2 HB GE101 GE102) hb); have BK103 := Aside0.mk (hbox); have GW103 := Aside0.mk (szB hg (below_size (bB2 HB GE101 GE102))); have GE103 := GW103; have NB101_103 := Aside0.mk (neA hg (blk_lt (kB BK101))); have NB103_101 := Aside0.mk (neB hg (blk_lt (kB BK101))); have NB102_103 := Aside0.mk (neA hg (blk_lt (kB BK102))); have NB103_102 := Aside0.mk (neB hg (blk_lt (kB BK102))); clear BK101; clear BK102; clear HB; have BK101 := n0_; have BK102 := n1_; have HB := n2_; clear n0_ n1_ n2_; clear hb hbox hg; have hnb57 := NB101_102.out; have hnc57 := NB102_101.out; have hnb58 := NB101_103.out; have hnc58 := NB103_101.out; have hcz59_0 : w56.cell? ⟨gb101, 0, none⟩ = some (.int .i64 a0_0) := (blk_cell BK101.out 0).trans rfl; have hcz59_1 : w56.cell? ⟨gb101, 1, none⟩ = some (.int .i64 a0_1) := (blk_cell BK101.out 1).trans rfl; have hfz59_0 := blk_frozen BK101.out 0; have hfz59_1 := blk_frozen BK101.out 1; have hnb60 := NB102_103.out; have hnc60 := NB103_102.out; have hcz61_0 : w56.cell? ⟨gb102, 0, none⟩ = some (.int .i64 a1_0) := (blk_cell BK102.out 0).trans rfl; have hcz61_1 : w56.cell? ⟨gb102, 1, none⟩ = some (.int .i64 a1_1) := (blk_cell BK102.out 1).trans rfl; have hfz61_0 := blk_frozen BK102.out 0; have hfz61_1 := blk_frozen BK102.out 1) | ((with_reducible refine gate_dst (N := 12) rfl ?_); refine Kd.R_lit k23 _ 23 ?hg (N := 12) ?hd (xs := ([(⟨a0_0, a0_1⟩ : S23), (⟨a1_0, a1_1⟩ : S23)] : List (S23))) (inner := [.int .i64 a0_0, .int .i64 a0_1, .int .i64 a1_0, .int .i64 a1_1]) (ok := fun _ => True) (okp := fun _ => True) ?hr ?hp (fun _ hk => hk) trivial (Below.refl _ _) (Nat.le_refl _) (by simp) ?_; (case hd => rfl); (case hg => rfl); (case hr => first | (go_simp; done) | (go_simp; rfl)); (case hp => exact (Reps.c2 (show Kd.M k23 _ _ _ (⟨a0_0, a0_1⟩ : S23) [.int .i64 a0_0, .int .i64 a0_1] from (k23_mkM _ _ _ (⟨a0_0, a0_1⟩ : S23) )) (Reps.c2 (show Kd.M k23 _ _ _ (⟨a1_0, a1_1⟩ : S23) [.int .i64 a1_0, .int .i64 a1_1] from (k23_mkM _ _ _ (⟨a1_0, a1_1⟩ : S23) )) (Reps.none _ _)))); intro v105 w62 ho63 hb hg_ hnew_; clear hg_ hnew_; (first | rw [← Ny104.out] at ho63 | (simp only [Int.reduceToNat] at ho63; rw [← Ny104.out] at ho63)); have HO106 := Aside0.mk (Kd.R_lower (Kd.R_newB (Kd.R_newB (Kd.R_newB ho63 (kB BK101)) (kB BK102)) (kB BK103)) (below_size (bB3 HB GE101 GE102 GE103))); replace BK101 := Aside0.mk (blk_below (kB BK101) hb); replace BK102 := Aside0.mk (blk_below (kB BK102) hb); replace BK103 := Aside0.mk (blk_below (kB BK103) hb); replace HB := Aside0.mk (below_step (bB3 HB GE101 GE102 GE103) hb); clear hb ho63; obtain ⟨Ao64, co64, eo64⟩ := Kd.R_slice HO106.out; subst eo64) | ((with_reducible refine gate_callee (f := 66) rfl ?_); refine goesL_ (some 13) rfl rfl Try.func66 (by kernel_rfl) rfl #[.slice Ao64 y104.length co64] rfl mB ?_; (with_reducible refine (plane_valid.calls k _ _ y104 false _ ?side1 ?side2 A5.out).mono ?_); (case side1 => exact cB2 HO106); (case side2 => exact (Kd.R_reads' HO106.out).2.1); rintro e w65 ⟨rfl, hb⟩; refine ⟨_, rfl, ?_⟩; replace HO106 := Aside0.mk (Kd.R_below (rB HO106) hb); replace BK101 := Aside0.mk (blk_below (kB BK101) hb); replace BK102 := Aside0.mk (blk_below (kB BK102) hb); replace BK103 := Aside0.mk (blk_below (kB BK103) hb); replace HB := Aside0.mk (below_step (bB3 HB GE101 GE102 GE103) hb); (try clear hb); (try clear hb2); (try clear hk); (try clear hi); have hcz66_0 : w65.cell? ⟨gb103, 0, none⟩ = some (.int .i64 0) := (blk_cell BK103.out 0).trans rfl; have hcz66_1 : w65.cell? ⟨gb103, 1, none⟩ = some (.int .i64 0) := (blk_cell BK103.out 1).trans rfl; have hfz66_0 := blk_frozen BK103.out 0; have hfz66_1 := blk_frozen BK103.out 1))
  refine bodyPost_ret (results_ct rfl _ _ gb103 23 #[.int .i64 0, .int .i64 0] (0, 0) _ rfl (by (with_reducible repeat (first | refine blk_drewN ?_ _ | refine blk_drew ?_ | refine blk_alloc ?_ _)); refine blk_put (cs := #[.int .i64 0, .int .i64 0]) ?_ 1 _ rfl; (with_reducible repeat (first | refine blk_drewN ?_ _ | refine blk_drew ?_ | refine blk_alloc ?_ _)); refine blk_put (cs := #[.int .i64 0, .int .i64 0]) ?_ 0 _ rfl; (with_reducible repeat (first | refine blk_drewN ?_ _ | refine blk_drew ?_ | refine blk_alloc ?_ _)); exact BK103.out) Try.underlying23 rfl (by kernel_rfl)) rfl ?_
  exact ⟨eB, bB3 HB GE101 GE102 GE103⟩
def plane_Half.f (a0 : Int) (a1 : Int) : Option (Int × Int × Int × Int) := (plane_within.f a1 1 2048).bind fun t102 => (if t102 = true then ((plane_within.f a0 (-2048) 2048).bind fun t103 => (if t103 = true then (some (wrap64 ((wrap64 (a1 - a0)) * (wrap64 (a1 + a0))), wrap64 ((wrap64 (2 * a0)) * a1), wrap64 ((wrap64 (a1 * a1)) + (wrap64 (a0 * a0))), 0)) else (some (0, 0, 0, 2)))) else (some (0, 0, 0, 2)))
set_option maxHeartbeats 8000000 in
set_option maxRecDepth 100000 in
theorem plane_Half.calls (a0 : Int) (a1 : Int) (r1 : Int) (r2 : Int) (r3 : Int) (r4 : Int) (w : World) (h : plane_Half.f a0 a1 = some (r1, r2, r3, r4)) :
  Calls Try.prog 22 #[.int .i64 a0, .int .i64 a1] w fun e w' => e = .returned (.tuple #[.agg #[.int .i64 r1, .int .i64 r2, .int .i64 r3], .int .i64 r4]) ∧ Below w.heap.size w w' := by
 have hu40 := Try.underlying40
 have HB := Aside0.mk (Below.refl w.heap.size w)
 have H : ((plane_within.f a1 1 2048).bind fun t102 => (if t102 = true then ((plane_within.f a0 (-2048) 2048).bind fun t103 => (if t103 = true then (some (wrap64 ((wrap64 (a1 - a0)) * (wrap64 (a1 + a0))), wrap64 ((wrap64 (2 * a0)) * a1), wrap64 ((wrap64 (a1 * a1)) + (wrap64 (a0 * a0))), 0)) else (some (0, 0, 0, 2)))) else (some (0, 0, 0, 2)))) = some (r1, r2, r3, r4) := h
 clear h
 replace H := Option.bind_eq_some_iff.mp H
 obtain ⟨t102, A30, H⟩ := H
 replace H : (if t102 = true then ((plane_within.f a0 (-2048) 2048).bind fun t103 => (if t103 = true then (some (wrap64 ((wrap64 (a1 - a0)) * (wrap64 (a1 + a0))), wrap64 ((wrap64 (2 * a0)) * a1), wrap64 ((wrap64 (a1 * a1)) + (wrap64 (a0 * a0))), 0)) else (some (0, 0, 0, 2)))) else (some (0, 0, 0, 2))) = some (r1, r2, r3, r4) := H
 have A3 := Aside0.mk A30
 clear A30
 by_cases c4 : t102 = true
 ·subst c4
  have H1 : ((plane_within.f a0 (-2048) 2048).bind fun t103 => (if t103 = true then (some (wrap64 ((wrap64 (a1 - a0)) * (wrap64 (a1 + a0))), wrap64 ((wrap64 (2 * a0)) * a1), wrap64 ((wrap64 (a1 * a1)) + (wrap64 (a0 * a0))), 0)) else (some (0, 0, 0, 2)))) = some (r1, r2, r3, r4) := by rw [if_pos rfl] at H; exact H
  clear H
  have H := H1
  clear H1
  replace H := Option.bind_eq_some_iff.mp H
  obtain ⟨t103, A50, H⟩ := H
  replace H : (if t103 = true then (some (wrap64 ((wrap64 (a1 - a0)) * (wrap64 (a1 + a0))), wrap64 ((wrap64 (2 * a0)) * a1), wrap64 ((wrap64 (a1 * a1)) + (wrap64 (a0 * a0))), 0)) else (some (0, 0, 0, 2))) = some (r1, r2, r3, r4) := H
  have A5 := Aside0.mk A50
  clear A50
  by_cases c6 : t103 = true
  ·subst c6
   have H1 : (some (wrap64 ((wrap64 (a1 - a0)) * (wrap64 (a1 + a0))), wrap64 ((wrap64 (2 * a0)) * a1), wrap64 ((wrap64 (a1 * a1)) + (wrap64 (a0 * a0))), 0)) = some (r1, r2, r3, r4) := by rw [if_pos rfl] at H; exact H
   clear H
   have H := H1
   clear H1
   simp only [Option.some.injEq, Prod.mk.injEq] at H
   obtain ⟨rfl, rfl, rfl, rfl⟩ := H
   go_enter Try.func22, Try.ntmps22
   go_wp2_with (first | ((with_reducible refine gate_dst (N := 4) rfl ?_); refine boxE (N := 4) (cs := #[.int .i64 0, .int .i64 0, .int .i64 0]) (t := 40) ?_; intro gb101 hg w7 hbox hb; have n0_ := Aside0.mk (below_step (bB0 HB) hb); have BK101 := Aside0.mk (hbox); have GW101 := Aside0.mk (szB hg (below_size (bB0 HB))); have GE101 := GW101; clear HB; have HB := n0_; clear n0_; clear hb hbox hg) | ((with_reducible refine gate_callee (f := 67) rfl ?_); refine goesL_ (some 7) rfl rfl Try.func67 (by kernel_rfl) rfl #[.int .i64 a1, .int .i64 1, .int .i64 2048] rfl mB ?_; (with_reducible refine (plane_within.calls a1 1 2048 true _ A3.out).mono ?_); rintro e w' ⟨rfl, ⟨nd, rfl⟩⟩; refine ⟨_, rfl, ?_⟩; (try (rw [drewN_self w7]; generalize hq_ : World.drewN w7 _ = w7; have n0_ : Aside0 (w7.heap[gb101]? = some (.cells #[.int .i64 0, .int .i64 0, .int .i64 0] 40 (0, 0))) := ⟨by rw [← hq_]; exact (kB BK101)⟩; have n1_ : Aside0 (Below w.heap.size w w7) := ⟨by rw [← hq_]; exact (bB1 HB GE101)⟩; clear BK101 HB hq_; have BK101 := n0_; have HB := n1_; clear n0_ n1_))) | (go_at_call 67; (with_reducible refine (plane_within.calls a0 (-2048) 2048 true _ A5.out).mono ?_); rintro e w' ⟨rfl, ⟨nd, rfl⟩⟩; (try (rw [drewN_self w7]; generalize hq_ : World.drewN w7 _ = w7; have n0_ : Aside0 (w7.heap[gb101]? = some (.cells #[.int .i64 0, .int .i64 0, .int .i64 0] 40 (0, 0))) := ⟨by rw [← hq_]; exact (kB BK101)⟩; have n1_ : Aside0 (Below w.heap.size w w7) := ⟨by rw [← hq_]; exact (bB1 HB GE101)⟩; clear BK101 HB hq_; have BK101 := n0_; have HB := n1_; clear n0_ n1_)); have hcz8_0 : w7.cell? ⟨gb101, 0, none⟩ = some (.int .i64 0) := (blk_cell BK101.out 0).trans rfl; have hcz8_1 : w7.cell? ⟨gb101, 1, none⟩ = some (.int .i64 0) := (blk_cell BK101.out 1).trans rfl; have hcz8_2 : w7.cell? ⟨gb101, 2, none⟩ = some (.int .i64 0) := (blk_cell BK101.out 2).trans rfl; have hfz8_0 := blk_frozen BK101.out 0; have hfz8_1 := blk_frozen BK101.out 1; have hfz8_2 := blk_frozen BK101.out 2))
   refine bodyPost_ret (results_ct rfl _ _ gb101 40 #[.int .i64 (wrap64 ((wrap64 (a1 - a0)) * (wrap64 (a1 + a0)))), .int .i64 (wrap64 ((wrap64 (2 * a0)) * a1)), .int .i64 (wrap64 ((wrap64 (a1 * a1)) + (wrap64 (a0 * a0))))] (0, 0) _ rfl (by (with_reducible repeat (first | refine blk_drewN ?_ _ | refine blk_drew ?_ | refine blk_alloc ?_ _)); refine blk_put (cs := #[.int .i64 (wrap64 ((wrap64 (a1 - a0)) * (wrap64 (a1 + a0)))), .int .i64 (wrap64 ((wrap64 (2 * a0)) * a1)), .int .i64 0]) ?_ 2 _ rfl; (with_reducible repeat (first | refine blk_drewN ?_ _ | refine blk_drew ?_ | refine blk_alloc ?_ _)); refine blk_put (cs := #[.int .i64 (wrap64 ((wrap64 (a1 - a0)) * (wrap64 (a1 + a0)))), .int .i64 0, .int .i64 0]) ?_ 1 _ rfl; (with_reducible repeat (first | refine blk_drewN ?_ _ | refine blk_drew ?_ | refine blk_alloc ?_ _)); refine blk_put (cs := #[.int .i64 0, .int .i64 0, .int .i64 0]) ?_ 0 _ rfl; (with_reducible repeat (first | refine blk_drewN ?_ _ | refine blk_drew ?_ | refine blk_alloc ?_ _)); exact BK101.out) Try.underlying40 rfl (by kernel_rfl)) rfl ?_
   exact ⟨eB, bB1 HB GE101⟩
  ·replace c6 := Bool.eq_false_iff.mpr c6
   subst c6
   have H1 : (some (0, 0, 0, 2)) = some (r1, r2, r3, r4) := by rw [if_neg (show ¬ (false = true) by decide)] at H; exact H
   clear H
   have H := H1
   clear H1
   simp only [Option.some.injEq, Prod.mk.injEq] at H
   obtain ⟨rfl, rfl, rfl, rfl⟩ := H
   go_enter Try.func22, Try.ntmps22
   go_wp2_with (first | ((with_reducible refine gate_dst (N := 4) rfl ?_); refine boxE (N := 4) (cs := #[.int .i64 0, .int .i64 0, .int .i64 0]) (t := 40) ?_; intro gb101 hg w9 hbox hb; have n0_ := Aside0.mk (below_step (bB0 HB) hb); have BK101 := Aside0.mk (hbox); have GW101 := Aside0.mk (szB hg (below_size (bB0 HB))); have GE101 := GW101; clear HB; have HB := n0_; clear n0_; clear hb hbox hg) | ((with_reducible refine gate_callee (f := 67) rfl ?_); refine goesL_ (some 7) rfl rfl Try.func67 (by kernel_rfl) rfl #[.int .i64 a1, .int .i64 1, .int .i64 2048] rfl mB ?_; (with_reducible refine (plane_within.calls a1 1 2048 true _ A3.out).mono ?_); rintro e w' ⟨rfl, ⟨nd, rfl⟩⟩; refine ⟨_, rfl, ?_⟩; (try (rw [drewN_self w9]; generalize hq_ : World.drewN w9 _ = w9; have n0_ : Aside0 (w9.heap[gb101]? = some (.cells #[.int .i64 0, .int .i64 0, .int .i64 0] 40 (0, 0))) := ⟨by rw [← hq_]; exact (kB BK101)⟩; have n1_ : Aside0 (Below w.heap.size w w9) := ⟨by rw [← hq_]; exact (bB1 HB GE101)⟩; clear BK101 HB hq_; have BK101 := n0_; have HB := n1_; clear n0_ n1_))) | (go_at_call 67; (with_reducible refine (plane_within.calls a0 (-2048) 2048 false _ A5.out).mono ?_); rintro e w' ⟨rfl, ⟨nd, rfl⟩⟩; (try (rw [drewN_self w9]; generalize hq_ : World.drewN w9 _ = w9; have n0_ : Aside0 (w9.heap[gb101]? = some (.cells #[.int .i64 0, .int .i64 0, .int .i64 0] 40 (0, 0))) := ⟨by rw [← hq_]; exact (kB BK101)⟩; have n1_ : Aside0 (Below w.heap.size w w9) := ⟨by rw [← hq_]; exact (bB1 HB GE101)⟩; clear BK101 HB hq_; have BK101 := n0_; have HB := n1_; clear n0_ n1_)); have hcz10_0 : w9.cell? ⟨gb101, 0, none⟩ = some (.int .i64 0) := (blk_cell BK101.out 0).trans rfl; have hcz10_1 : w9.cell? ⟨gb101, 1, none⟩ = some (.int .i64 0) := (blk_cell BK101.out 1).trans rfl; have hcz10_2 : w9.cell? ⟨gb101, 2, none⟩ = some (.int .i64 0) := (blk_cell BK101.out 2).trans rfl; have hfz10_0 := blk_frozen BK101.out 0; have hfz10_1 := blk_frozen BK101.out 1; have hfz10_2 := blk_frozen BK101.out 2))
   refine bodyPost_ret (results_ct rfl _ _ gb101 40 #[.int .i64 0, .int .i64 0, .int .i64 0] (0, 0) _ rfl (by (with_reducible repeat (first | refine blk_drewN ?_ _ | refine blk_drew ?_ | refine blk_alloc ?_ _)); refine blk_put (cs := #[.int .i64 0, .int .i64 0, .int .i64 0]) ?_ 2 _ rfl; (with_reducible repeat (first | refine blk_drewN ?_ _ | refine blk_drew ?_ | refine blk_alloc ?_ _)); refine blk_put (cs := #[.int .i64 0, .int .i64 0, .int .i64 0]) ?_ 1 _ rfl; (with_reducible repeat (first | refine blk_drewN ?_ _ | refine blk_drew ?_ | refine blk_alloc ?_ _)); refine blk_put (cs := #[.int .i64 0, .int .i64 0, .int .i64 0]) ?_ 0 _ rfl; (with_reducible repeat (first | refine blk_drewN ?_ _ | refine blk_drew ?_ | refine blk_alloc ?_ _)); exact BK101.out) Try.underlying40 rfl (by kernel_rfl)) rfl ?_
   exact ⟨eB, bB1 HB GE101⟩
 ·replace c4 := Bool.eq_false_iff.mpr c4
  subst c4
  have H1 : (some (0, 0, 0, 2)) = some (r1, r2, r3, r4) := by rw [if_neg (show ¬ (false = true) by decide)] at H; exact H
  clear H
  have H := H1
  clear H1
  simp only [Option.some.injEq, Prod.mk.injEq] at H
  obtain ⟨rfl, rfl, rfl, rfl⟩ := H
  go_enter Try.func22, Try.ntmps22
  go_wp2_with (first | ((with_reducible refine gate_dst (N := 4) rfl ?_); refine boxE (N := 4) (cs := #[.int .i64 0, .int .i64 0, .int .i64 0]) (t := 40) ?_; intro gb101 hg w11 hbox hb; have n0_ := Aside0.mk (below_step (bB0 HB) hb); have BK101 := Aside0.mk (hbox); have GW101 := Aside0.mk (szB hg (below_size (bB0 HB))); have GE101 := GW101; clear HB; have HB := n0_; clear n0_; clear hb hbox hg) | ((with_reducible refine gate_callee (f := 67) rfl ?_); refine goesL_ (some 7) rfl rfl Try.func67 (by kernel_rfl) rfl #[.int .i64 a1, .int .i64 1, .int .i64 2048] rfl mB ?_; (with_reducible refine (plane_within.calls a1 1 2048 false _ A3.out).mono ?_); rintro e w' ⟨rfl, ⟨nd, rfl⟩⟩; refine ⟨_, rfl, ?_⟩; (try (rw [drewN_self w11]; generalize hq_ : World.drewN w11 _ = w11; have n0_ : Aside0 (w11.heap[gb101]? = some (.cells #[.int .i64 0, .int .i64 0, .int .i64 0] 40 (0, 0))) := ⟨by rw [← hq_]; exact (kB BK101)⟩; have n1_ : Aside0 (Below w.heap.size w w11) := ⟨by rw [← hq_]; exact (bB1 HB GE101)⟩; clear BK101 HB hq_; have BK101 := n0_; have HB := n1_; clear n0_ n1_)); have hcz12_0 : w11.cell? ⟨gb101, 0, none⟩ = some (.int .i64 0) := (blk_cell BK101.out 0).trans rfl; have hcz12_1 : w11.cell? ⟨gb101, 1, none⟩ = some (.int .i64 0) := (blk_cell BK101.out 1).trans rfl; have hcz12_2 : w11.cell? ⟨gb101, 2, none⟩ = some (.int .i64 0) := (blk_cell BK101.out 2).trans rfl; have hfz12_0 := blk_frozen BK101.out 0; have hfz12_1 := blk_frozen BK101.out 1; have hfz12_2 := blk_frozen BK101.out 2))
  refine bodyPost_ret (results_ct rfl _ _ gb101 40 #[.int .i64 0, .int .i64 0, .int .i64 0] (0, 0) _ rfl (by (with_reducible repeat (first | refine blk_drewN ?_ _ | refine blk_drew ?_ | refine blk_alloc ?_ _)); refine blk_put (cs := #[.int .i64 0, .int .i64 0, .int .i64 0]) ?_ 2 _ rfl; (with_reducible repeat (first | refine blk_drewN ?_ _ | refine blk_drew ?_ | refine blk_alloc ?_ _)); refine blk_put (cs := #[.int .i64 0, .int .i64 0, .int .i64 0]) ?_ 1 _ rfl; (with_reducible repeat (first | refine blk_drewN ?_ _ | refine blk_drew ?_ | refine blk_alloc ?_ _)); refine blk_put (cs := #[.int .i64 0, .int .i64 0, .int .i64 0]) ?_ 0 _ rfl; (with_reducible repeat (first | refine blk_drewN ?_ _ | refine blk_drew ?_ | refine blk_alloc ?_ _)); exact BK101.out) Try.underlying40 rfl (by kernel_rfl)) rfl ?_
  exact ⟨eB, bB1 HB GE101⟩
def plane_Nearest.f (a0 : Int) (a1 : Int) : Option (Int × Int) := (plane_within.f a0 (-2305843009213693952) 2305843009213693952).bind fun t101 => (if t101 = true then ((plane_within.f a1 1 2305843009213693952).bind fun t102 => (if t102 = true then ((plane_near.f a0 a1).bind fun t103 => (some (t103, 0))) else (some (0, 3)))) else (some (0, 3)))
set_option maxHeartbeats 8000000 in
set_option maxRecDepth 100000 in
theorem plane_Nearest.calls (a0 : Int) (a1 : Int) (r1 : Int) (r2 : Int) (w : World) (h : plane_Nearest.f a0 a1 = some (r1, r2)) :
  Calls Try.prog 32 #[.int .i64 a0, .int .i64 a1] w fun e w' => e = .returned (.tuple #[.int .i64 r1, .int .i64 r2]) ∧ Drawn0 w w' := by
 have H : ((plane_within.f a0 (-2305843009213693952) 2305843009213693952).bind fun t101 => (if t101 = true then ((plane_within.f a1 1 2305843009213693952).bind fun t102 => (if t102 = true then ((plane_near.f a0 a1).bind fun t103 => (some (t103, 0))) else (some (0, 3)))) else (some (0, 3)))) = some (r1, r2) := h
 clear h
 replace H := Option.bind_eq_some_iff.mp H
 obtain ⟨t101, A30, H⟩ := H
 replace H : (if t101 = true then ((plane_within.f a1 1 2305843009213693952).bind fun t102 => (if t102 = true then ((plane_near.f a0 a1).bind fun t103 => (some (t103, 0))) else (some (0, 3)))) else (some (0, 3))) = some (r1, r2) := H
 have A3 := Aside0.mk A30
 clear A30
 by_cases c4 : t101 = true
 ·subst c4
  have H1 : ((plane_within.f a1 1 2305843009213693952).bind fun t102 => (if t102 = true then ((plane_near.f a0 a1).bind fun t103 => (some (t103, 0))) else (some (0, 3)))) = some (r1, r2) := by rw [if_pos rfl] at H; exact H
  clear H
  have H := H1
  clear H1
  replace H := Option.bind_eq_some_iff.mp H
  obtain ⟨t102, A50, H⟩ := H
  replace H : (if t102 = true then ((plane_near.f a0 a1).bind fun t103 => (some (t103, 0))) else (some (0, 3))) = some (r1, r2) := H
  have A5 := Aside0.mk A50
  clear A50
  by_cases c6 : t102 = true
  ·subst c6
   have H1 : ((plane_near.f a0 a1).bind fun t103 => (some (t103, 0))) = some (r1, r2) := by rw [if_pos rfl] at H; exact H
   clear H
   have H := H1
   clear H1
   replace H := Option.bind_eq_some_iff.mp H
   obtain ⟨t103, A70, H⟩ := H
   replace H : (some (t103, 0)) = some (r1, r2) := H
   have A7 := Aside0.mk A70
   clear A70
   simp only [Option.some.injEq, Prod.mk.injEq] at H
   obtain ⟨rfl, rfl⟩ := H
   go_enter Try.func32, Try.ntmps32
   go_wp2_with (first | ((with_reducible refine gate_callee (f := 67) rfl ?_); refine goesL_ (some 7) rfl rfl Try.func67 (by kernel_rfl) rfl #[.int .i64 a0, .int .i64 (-2305843009213693952), .int .i64 2305843009213693952] rfl mB ?_; (with_reducible refine (plane_within.calls a0 (-2305843009213693952) 2305843009213693952 true _ A3.out).mono ?_); rintro e w' ⟨rfl, ⟨nd, rfl⟩⟩; refine ⟨_, rfl, ?_⟩) | (go_at_call 67; (with_reducible refine (plane_within.calls a1 1 2305843009213693952 true _ A5.out).mono ?_); rintro e w' ⟨rfl, ⟨nd, rfl⟩⟩) | ((with_reducible refine gate_callee (f := 77) rfl ?_); refine goesL_ (some 16) rfl rfl Try.func77 (by kernel_rfl) rfl #[.int .i64 a0, .int .i64 a1] rfl mB ?_; (with_reducible refine (plane_near.calls a0 a1 t103 _ A7.out).mono ?_); rintro e w' ⟨rfl, ⟨nd, rfl⟩⟩; refine ⟨_, rfl, ?_⟩))
   go_ret2
   exact ⟨by first | rfl | (simp; done) | (simp [*]; done), by repeat (first | exact Drawn0.refl _ | apply Drawn0.step)⟩
  ·replace c6 := Bool.eq_false_iff.mpr c6
   subst c6
   have H1 : (some (0, 3)) = some (r1, r2) := by rw [if_neg (show ¬ (false = true) by decide)] at H; exact H
   clear H
   have H := H1
   clear H1
   simp only [Option.some.injEq, Prod.mk.injEq] at H
   obtain ⟨rfl, rfl⟩ := H
   go_enter Try.func32, Try.ntmps32
   go_wp2_with (first | ((with_reducible refine gate_callee (f := 67) rfl ?_); refine goesL_ (some 7) rfl rfl Try.func67 (by kernel_rfl) rfl #[.int .i64 a0, .int .i64 (-2305843009213693952), .int .i64 2305843009213693952] rfl mB ?_; (with_reducible refine (plane_within.calls a0 (-2305843009213693952) 2305843009213693952 true _ A3.out).mono ?_); rintro e w' ⟨rfl, ⟨nd, rfl⟩⟩; refine ⟨_, rfl, ?_⟩) | (go_at_call 67; (with_reducible refine (plane_within.calls a1 1 2305843009213693952 false _ A5.out).mono ?_); rintro e w' ⟨rfl, ⟨nd, rfl⟩⟩))
   go_ret2
   exact ⟨by first | rfl | (simp; done) | (simp [*]; done), by repeat (first | exact Drawn0.refl _ | apply Drawn0.step)⟩
 ·replace c4 := Bool.eq_false_iff.mpr c4
  subst c4
  have H1 : (some (0, 3)) = some (r1, r2) := by rw [if_neg (show ¬ (false = true) by decide)] at H; exact H
  clear H
  have H := H1
  clear H1
  simp only [Option.some.injEq, Prod.mk.injEq] at H
  obtain ⟨rfl, rfl⟩ := H
  go_enter Try.func32, Try.ntmps32
  go_wp2_with (first | ((with_reducible refine gate_callee (f := 67) rfl ?_); refine goesL_ (some 7) rfl rfl Try.func67 (by kernel_rfl) rfl #[.int .i64 a0, .int .i64 (-2305843009213693952), .int .i64 2305843009213693952] rfl mB ?_; (with_reducible refine (plane_within.calls a0 (-2305843009213693952) 2305843009213693952 false _ A3.out).mono ?_); rintro e w' ⟨rfl, ⟨nd, rfl⟩⟩; refine ⟨_, rfl, ?_⟩))
  go_ret2
  exact ⟨by first | rfl | (simp; done) | (simp [*]; done), by repeat (first | exact Drawn0.refl _ | apply Drawn0.step)⟩
end Go.Proofs.Ytegdcnjjelgpjaa.P
namespace Go.Proofs.Ytegdcnjjelgpjaa.O
open Go.RowKit Go.Shelf
def Firm {β : Type} (B : Nat) (I : β → World → Prop) : Prop := ∀ s W W', I s W → Below B W W' → I s W'
theorem Firm.mono {β : Type} {B B' : Nat} {I : β → World → Prop} (h : Firm B I) (hB : B ≤ B') : Firm B' I := fun s W W' hs hb => h s W W' hs (hb.mono hB)
structure Turns (T : Nat → Prop) (W W' : World) : Prop where
 os : W'.os = W.os
 tape : W'.tape = W.tape
 output : W'.output = W.output
 size : W.heap.size ≤ W'.heap.size
 same : ∀ k, ¬ T k → k < W.heap.size → W'.heap[k]? = W.heap[k]?
theorem Turns.refl (T : Nat → Prop) (W : World) : Turns T W W := ⟨rfl, rfl, rfl, Nat.le_refl _, fun _ _ _ => rfl⟩
theorem Turns.trans {T : Nat → Prop} {a b c : World} (h : Turns T a b) (k : Turns T b c) : Turns T a c :=
 ⟨k.os.trans h.os, k.tape.trans h.tape, k.output.trans h.output, Nat.le_trans h.size k.size, fun i hi hs => (k.same i hi (Nat.lt_of_lt_of_le hs h.size)).trans (h.same i hi hs)⟩
theorem Turns.of_below {T : Nat → Prop} {W W' : World} (h : Below W.heap.size W W') : Turns T W W' := ⟨h.os, h.tape, h.output, h.size, fun k _ hk => h.block k hk⟩
theorem Turns.putObj {T : Nat → Prop} {l : Nat} (W : World) (o : Obj) (hT : T l) : Turns T W (W.putObj l o) :=
 ⟨rfl, rfl, rfl, by simp, fun k hk _ => World.putObj_heap_other (fun e => hk (e ▸ hT))⟩
theorem Turns.setCell {T : Nat → Prop} (W : World) (p : Addr) (v : Value) (hT : T p.block) : Turns T W (W.setCell p v) :=
 ⟨rfl, rfl, rfl, by simp [World.setCell], fun k hk _ => Below.heap_setCell _ _ _ k (fun e => hk (e ▸ hT))⟩
theorem Turns.drew {T : Nat → Prop} {a w : World} (h : Turns T a w) : Turns T a w.drew := ⟨h.os, h.tape, h.output, h.size, h.same⟩
theorem Turns.below {T : Nat → Prop} {B : Nat} {W W' : World} (h : Turns T W W') (hT : ∀ k, T k → B ≤ k) (hB : B ≤ W.heap.size) : Below B W W' :=
 ⟨h.os, h.tape, h.output, h.size, fun k hk => h.same k (fun g => by have := hT k g; omega) (by omega)⟩
theorem below_putObj {B l : Nat} (W : World) (o : Obj) (h : B ≤ l) : Below B W (W.putObj l o) :=
 ⟨rfl, rfl, rfl, by simp, fun k hk => World.putObj_heap_other (by omega)⟩
theorem keep_below {B k : Nat} {W W' : World} {o : Obj} (h : Below B W W') (hk : k < B) (ho : W.heap[k]? = some o) : W'.heap[k]? = some o := (h.block k hk).trans ho
def Tor (T : Nat → Prop) (A B : Nat) : Nat → Prop := fun k => T k ∨ (A ≤ k ∧ k < B)
def SeqO {α : Type} (P : Program) (g : Nat) (lb : Array Value) (encs : α → Array Value) (L : List α) (T : Nat → Prop) (w : World) : Prop :=
 ∀ (l : Nat) (J Jx : List α → World → Prop) (W : World), Below w.heap.size w W → Firm W.heap.size J → Firm W.heap.size Jx →
  (∀ pre x W1, J pre W1 → (pre ++ [x]) <+: L → YieldAt Fence.wide 0 P l (encs x) W1 fun e W' =>
   (e = .returned (.bool true) ∧ J (pre ++ [x]) W' ∧ Turns (Tor T w.heap.size W.heap.size) W1 W') ∨ (e = .returned (.bool false) ∧ Jx (pre ++ [x]) W' ∧ Turns (Tor T w.heap.size W.heap.size) W1 W')) →
  J [] W →
  CallsIn Fence.wide 0 P g (#[.func (.yield l) #[] #[]] ++ lb) W fun e W' => (∃ v, e = .returned v) ∧ (J L W' ∨ ∃ pre, pre <+: L ∧ Jx pre W')
variable {P : Program}
def Still {β : Type} (I : β → World → Prop) : Prop := ∀ s W W', I s W → Below W.heap.size W W' → I s W'
def SeqS {α : Type} (P : Program) (g : Nat) (lb : Array Value) (encs : α → Array Value) (L : List α) (w : World) : Prop :=
 ∀ (l : Nat) (J Jx : List α → World → Prop) (W : World), Below w.heap.size w W → Still J → Still Jx →
  (∀ pre x W1, J pre W1 → (pre ++ [x]) <+: L → YieldAt Fence.wide 0 P l (encs x) W1 fun e W' =>
   (e = .returned (.bool true) ∧ J (pre ++ [x]) W' ∧ Below w.heap.size W1 W') ∨ (e = .returned (.bool false) ∧ Jx (pre ++ [x]) W')) →
  J [] W →
  CallsIn Fence.wide 0 P g (#[.func (.yield l) #[] #[]] ++ lb) W fun e W' => (∃ v, e = .returned v) ∧ (J L W' ∨ ∃ pre, pre <+: L ∧ Jx pre W')
theorem SeqS.below {α : Type} {P : Program} {g : Nat} {lb : Array Value} {encs : α → Array Value} {L : List α} {w w1 : World} (h : SeqS P g lb encs L w) (hb : Below w.heap.size w w1) : SeqS P g lb encs L w1 := by
 intro l J Jx W hW hJ hJx hY h0
 refine h l J Jx W (hb.trans (hW.mono hb.size)) hJ hJx (fun pre x W1 h1 h2 => ?_) h0
 obtain ⟨fn, tmps, assign, body, hy, hR⟩ := hY pre x W1 h1 h2
 refine ⟨fn, tmps, assign, body, hy, hR.mono ?_⟩
 rintro e W' (⟨g1, g2, g3⟩ | g1)
 ·exact .inl ⟨g1, g2, g3.mono hb.size⟩
 ·exact .inr g1
def Recs (D : Nat) (W W' : World) : Prop := W'.heap[D]? = W.heap[D]? ∧ W'.heap[D + 1]? = W.heap[D + 1]?
theorem Recs.refl (D : Nat) (W : World) : Recs D W W := ⟨rfl, rfl⟩
theorem Recs.trans {D : Nat} {a b c : World} (h : Recs D a b) (k : Recs D b c) : Recs D a c := ⟨k.1.trans h.1, k.2.trans h.2⟩
theorem Recs.below {D B : Nat} {W W' : World} (h : Below B W W') (hB : D + 2 ≤ B) : Recs D W W' := ⟨h.block _ (by omega), h.block _ (by omega)⟩
theorem Recs.setCell {D : Nat} (W : World) (p : Addr) (v : Value) (h1 : D ≠ p.block) (h2 : D + 1 ≠ p.block) : Recs D W (W.setCell p v) := ⟨Below.heap_setCell _ _ _ _ h1, Below.heap_setCell _ _ _ _ h2⟩
theorem Recs.grown {D : Nat} {W W' : World} {row : Option Nat} (h : W.grownBy W' row) (hD : D + 2 ≤ W.heap.size) (h1 : some D ≠ row) (h2 : some (D + 1) ≠ row) : Recs D W W' := ⟨h.block _ (by omega) h1, h.block _ (by omega) h2⟩
def postS {α : Type} (B D : Nat) (I Ix : List α → World → Prop) (xs : List α) (W : World) : Exit → Act → World → Prop
 | .normal, _, W' => Below B W W' ∧ Recs D W W' ∧ I xs W'
 | .ret, _, W' => Recs D W W' ∧ Ix xs W'
 | _, _, _ => False
variable {P : Program}
theorem wpIn_rangeFunc_S {α : Type} {g : Operand} {ps : Array Tmp} {assign body : Code} {Q : Exit → Act → World → Prop} {a : Act} {w : World}
  {gf : Nat} {lb : Array Value} (hg : a.eval g = .func (.func gf) #[] lb) (eg : ∀ args w, (callFunc gf args).run P w = .ok (.enter gf args) w)
  {encs : α → Array Value} {L : List α} {w0 : World} (hseq : SeqS P gf lb encs L w0) (hb0 : Below w0.heap.size w0 w) (hps : ∀ x, (encs x).size = ps.size)
  (I Ix : List α → World → Prop) (hI : Still I) (hIx : Still Ix)
  (hIp : ∀ s W o r, I s W → W.heap[w.heap.size + 1]? = some (.loop r) → I s (W.putObj (w.heap.size + 1) o))
  (hIxp : ∀ s W o r, Ix s W → W.heap[w.heap.size + 1]? = some (.loop r) → Ix s (W.putObj (w.heap.size + 1) o))
  (h0 : I [] w)
  (Ax : α → Act → World → Prop) (hAx : ∀ x a' W r o, Ax x a' W → W.heap[w.heap.size + 1]? = some (.loop r) → Ax x a' (W.putObj (w.heap.size + 1) o))
  (hassign : ∀ (l : Nat) (pre : List α) (x : α) (W : World) (K : Act → World → Prop), I pre W → (pre ++ [x]) <+: L → w.heap.size + 2 ≤ W.heap.size → (∀ a' W', Below W.heap.size W W' → Ax x a' W' → K a' W') →
   assign.wpIn (Fence.wide.inRound l) 0 P (Exit.then K (fun _ _ _ => False)) { tmps := (ps.zip (encs x)).foldl (fun t (p, v) => t.setIfInBounds p v) a.tmps, defers := [] } W)
  (hbody : ∀ (l : Nat) (pre : List α) (x : α) (a' : Act) (W : World), I pre W → (pre ++ [x]) <+: L → w.heap.size + 2 ≤ W.heap.size → Ax x a' W → body.wpIn (Fence.wide.inRound l) 0 P (postS w0.heap.size w.heap.size I Ix (pre ++ [x]) W) a' W)
  (hdone : ∀ (D : Nat) (W : World), w.heap.size ≤ D → I L W → W.heap[D]? = some (.deferred (some [])) → Q .normal { a with defers := { target := .collected D, args := #[] } :: a.defers } W)
  (hstop : ∀ (D : Nat) (pre : List α) (W : World), w.heap.size ≤ D → pre <+: L → Ix pre W → W.heap[D]? = some (.deferred (some [])) → Code.ret.wpIn Fence.wide 0 P Q { a with defers := { target := .collected D, args := #[] } :: a.defers } W) :
  (Code.rangeFunc g ps assign body).wpIn Fence.wide 0 P Q a w := by
 refine wpIn_rangeFunc fun fn hfn => ?_
 let rec_ : LoopState → Option Code → Loop := fun st pe => { state := st, pending := pe, fn, tmps := a.tmps, params := ps, assign, body, defers := w.heap.size }
 obtain ⟨W1, hW1⟩ : ∃ W1, (w.alloc (.deferred (some []))).alloc (.loop (rec_ .ready none)) = W1 := ⟨_, rfl⟩
 have hs1 : W1.heap.size = w.heap.size + 2 := by rw [← hW1]; simp
 have hL1 : W1.heap[w.heap.size + 1]? = some (.loop (rec_ .ready none)) := by
  rw [← hW1]; have := World.alloc_heap_new (w.alloc (.deferred (some []))) (.loop (rec_ .ready none)); rwa [World.size_alloc] at this
 have hK1 : W1.heap[w.heap.size]? = some (.deferred (some [])) := by
  rw [← hW1]; exact (Below.heap_alloc _ _ _ (by simp)).trans (World.alloc_heap_new w _)
 have hb1 : Below w.heap.size w W1 := by rw [← hW1]; exact ((Below.refl _ w).alloc (Nat.le_refl _) _).alloc (by simp) _
 have hsz := hb0.size
 refine ⟨w.heap.size + 1, [{ target := .collected w.heap.size, args := #[] }], W1, { target := .fn (.func gf) lb, args := #[.func (.yield (w.heap.size + 1)) #[] #[]] }, W1, gf,
  #[.func (.yield (w.heap.size + 1)) #[] #[]] ++ lb, W1, ?_, ?_, fun _ _ => trivial, ?_, (fun h => absurd h (by simp [Fence.wide])), ?_⟩
 ·rw [← hW1]; exact run_enterLoop_outer _ _ _ _ _
 ·simp only [resolve, hg]
  simp [go_sem]
 ·simp [invoke, go_sem, eg]
 ·refine (hseq (w.heap.size + 1)
   (fun pre W => (I pre W ∧ w.heap.size + 2 ≤ W.heap.size) ∧ W.heap[w.heap.size + 1]? = some (.loop (rec_ .ready none)) ∧ W.heap[w.heap.size]? = some (.deferred (some [])))
   (fun pre W => (Ix pre W ∧ w.heap.size + 2 ≤ W.heap.size) ∧ W.heap[w.heap.size + 1]? = some (.loop (rec_ .done (some .ret))) ∧ W.heap[w.heap.size]? = some (.deferred (some [])))
   W1 (hb0.trans (hb1.mono hsz)) ?_ ?_ ?_ ⟨⟨hI _ _ _ h0 hb1, by omega⟩, hL1, hK1⟩).mono ?_
  ·rintro s A B ⟨⟨hi, hz⟩, hl, hk⟩ hb
   have := hb.size
   exact ⟨⟨hI _ _ _ hi hb, by omega⟩, keep_below hb (by omega) hl, keep_below hb (by omega) hk⟩
  ·rintro s A B ⟨⟨hi, hz⟩, hl, hk⟩ hb
   have := hb.size
   exact ⟨⟨hIx _ _ _ hi hb, by omega⟩, keep_below hb (by omega) hl, keep_below hb (by omega) hk⟩
  ·rintro pre x W ⟨⟨hi, hz⟩, hl, hk⟩ hpre
   have hy := run_yield (P := P) (args := encs x) hl (hps x)
   refine ⟨fn, _, assign, body, hy, roundIn_of_wpIn hfn (hassign _ pre x W _ hi hpre (by omega) ?_)⟩
   intro a' Wa hba hax
   have hza := hba.size
   have hla := keep_below hba (by omega) hl
   have hka := keep_below hba (by omega) hk
   refine ⟨_, run_beginRound hla rfl, ?_⟩
   have hl2 : (Wa.putObj (w.heap.size + 1) (.loop { rec_ .ready none with state := .busy })).heap[w.heap.size + 1]? = some (.loop { rec_ .ready none with state := .busy }) := World.putObj_heap_same (by omega)
   have hk2 : (Wa.putObj (w.heap.size + 1) (.loop { rec_ .ready none with state := .busy })).heap[w.heap.size]? = some (.deferred (some [])) := (World.putObj_heap_other (by omega)).trans hka
   have m1 : Below w0.heap.size W (Wa.putObj (w.heap.size + 1) (.loop { rec_ .ready none with state := .busy })) :=
    (hba.mono (by omega)).trans (below_putObj _ _ (by omega))
   have i2 := hIp _ _ (.loop { rec_ .ready none with state := .busy }) _ (hI _ _ _ hi hba) hla
   refine wpIn_mono (hbody _ pre x a' _ i2 hpre (by simp; omega) (hAx _ _ _ _ _ hax hla)) ?_
   rintro e a3 W3 hp
   cases e with
   | normal =>
    obtain ⟨hm, hr, hi3⟩ := hp
    have hl3 := hr.2.trans hl2
    have hk3 := hr.1.trans hk2
    have hz3 := (Array.getElem?_eq_some_iff.1 hl3).1
    refine ⟨_, _, run_endRound none hl3, .inl ⟨rfl, ⟨⟨hIp _ _ _ _ hi3 hl3, by simp; omega⟩, World.putObj_heap_same hz3, (World.putObj_heap_other (by omega)).trans hk3⟩, ?_⟩⟩
    exact (m1.trans hm).trans (below_putObj _ _ (by omega))
   | ret =>
    obtain ⟨hr, hi3⟩ := hp
    have hl3 := hr.2.trans hl2
    have hk3 := hr.1.trans hk2
    have hz3 := (Array.getElem?_eq_some_iff.1 hl3).1
    refine ⟨_, _, run_endRound (some .ret) hl3, .inr ⟨rfl, ⟨hIxp _ _ _ _ hi3 hl3, by simp; omega⟩, World.putObj_heap_same hz3, (World.putObj_heap_other (by omega)).trans hk3⟩⟩
   | exit id => exact hp.elim
   | goto t => exact hp.elim
   | panic ch => exact hp.elim
   | outgrown => exact hp.elim
  ·rintro e W2 ⟨⟨v, rfl⟩, (⟨⟨hi, _⟩, hl, hk⟩ | ⟨pre, hpre, ⟨hi, _⟩, hl, hk⟩)⟩
   ·exact ⟨none, _, run_endLoop (P := P) hl (by simp [rec_]), hdone _ _ (Nat.le_refl _) (hIp _ _ _ _ hi hl) ((World.putObj_heap_other (by omega)).trans hk)⟩
   ·exact ⟨some .ret, _, run_endLoop (P := P) hl (by simp [rec_]), hstop _ pre _ (Nat.le_refl _) hpre (hIxp _ _ _ _ hi hl) ((World.putObj_heap_other (by omega)).trans hk)⟩
end Go.Proofs.Ytegdcnjjelgpjaa.O
namespace Go.Proofs.Ytegdcnjjelgpjaa.P
open Go.RowKit Go.Proofs.YtegdcnjjelgpjaaW.PrintWords Go.Proofs.YtegdcnjjelgpjaaW.PrintLast Go.Proofs.YtegdcnjjelgpjaaW.PrintMore
set_option linter.unusedVariables false
set_option linter.unusedSimpArgs false
instance : Inhabited S23 := ⟨z23⟩
theorem S23.ext {a b : S23} (h0 : a.f0 = b.f0) (h1 : a.f1 = b.f1) : a = b := by
 cases a; cases b; simp only at h0 h1; subst h0 h1; rfl
instance : DecidableEq S23 := fun a b => decidable_of_iff (a.f0 = b.f0 ∧ a.f1 = b.f1) ⟨fun h => S23.ext h.1 h.2, fun h => by subst h; exact ⟨rfl, rfl⟩⟩
def ptC (x : S23) : List Value := [.int .i64 x.f0, .int .i64 x.f1]
def Row2 (w : World) (g cap : Nat) (l : List S23) : Prop :=
 ∃ cur : Array Value, w.heap[g]? = some (.cells cur 23 (0, 0)) ∧ cur.size = cap * 2 ∧ l.length ≤ cap ∧ cap ≤ maxLen ∧
  ∀ (j : Nat) (h : j < l.length), cur[j * 2]? = some (.int .i64 l[j].f0) ∧ cur[j * 2 + 1]? = some (.int .i64 l[j].f1)
section
variable {w w1 : World} {g cap base : Nat} {l : List S23} {ok : Nat → Prop}
theorem Row2.lt (h : Row2 w g cap l) : g < w.heap.size := by obtain ⟨cur, h1, _⟩ := h; exact blk_lt h1
theorem Row2.le (h : Row2 w g cap l) : l.length ≤ cap ∧ cap ≤ maxLen := by obtain ⟨cur, _, _, h1, h2, _⟩ := h; exact ⟨h1, h2⟩
theorem Row2.move (h : Row2 w g cap l) (e : w1.heap[g]? = w.heap[g]?) : Row2 w1 g cap l := by
 obtain ⟨cur, h1, h2⟩ := h; exact ⟨cur, e.trans h1, h2⟩
theorem Row2.below {B : Nat} (h : Row2 w g cap l) (hb : Below B w w1) (hg : g < B) : Row2 w1 g cap l := h.move (hb.block g hg)
theorem Row2.cell (h : Row2 w g cap l) (j : Nat) (hj : j < l.length) : w.cell? ⟨g, j * 2, none⟩ = some (.int .i64 l[j].f0) ∧ w.cell? ⟨g, j * 2 + 1, none⟩ = some (.int .i64 l[j].f1) := by
 obtain ⟨cur, h1, _, _, _, h2⟩ := h
 exact ⟨(blk_cell h1 _).trans (h2 j hj).1, (blk_cell h1 _).trans (h2 j hj).2⟩
theorem Row2.free (h : Row2 w g cap l) (i : Nat) : w.frozen? ⟨g, i, none⟩ = false := by
 obtain ⟨cur, h1, _⟩ := h; exact blk_frozen h1 i
theorem Row2.take (h : Row2 w g cap l) (n : Nat) : Row2 w g cap (l.take n) := by
 obtain ⟨cur, h1, h2, h3, h4, h5⟩ := h
 refine ⟨cur, h1, h2, by rw [List.length_take]; omega, h4, fun j hj => ?_⟩
 rw [List.length_take] at hj
 rw [List.getElem_take]
 exact h5 j (by omega)
theorem Row2.set (h : Row2 w g cap l) (k : Nat) (hk : k < l.length) (x : S23) : Row2 ((w.setCell ⟨g, k * 2, none⟩ (.int .i64 x.f0)).setCell ⟨g, k * 2 + 1, none⟩ (.int .i64 x.f1)) g cap (l.set k x) := by
 obtain ⟨cur, h1, h2, h3, h4, h5⟩ := h
 refine ⟨_, blk_set (blk_set h1 (k * 2) _) (k * 2 + 1) _, by simp [h2], by simpa using h3, h4, fun j hj => ?_⟩
 rw [List.length_set] at hj
 by_cases e : j = k
 ·subst e
  rw [List.getElem_set_self]
  constructor
  ·rw [Array.getElem?_setIfInBounds_ne (by omega), Array.getElem?_setIfInBounds_self_of_lt (by omega)]
  ·rw [Array.getElem?_setIfInBounds_self_of_lt (by simp; omega)]
 ·rw [List.getElem_set_ne (by omega)]
  rw [Array.getElem?_setIfInBounds_ne (by omega), Array.getElem?_setIfInBounds_ne (by omega), Array.getElem?_setIfInBounds_ne (by omega), Array.getElem?_setIfInBounds_ne (by omega)]
  exact h5 j hj
theorem Row2.toR (h : Row2 w g cap l) (hb : base ≤ g) (hok : ok g) : Kd.R k23 23 w base ok (.slice (some ⟨g, 0, none⟩) l.length cap) l := by
 obtain ⟨cur, h1, h2, h3, h4, h5⟩ := h
 have hl : (cur.toList.take (l.length * 2)).length = l.length * 2 := by
  have e : cur.toList.length = cur.size := rfl
  rw [List.length_take]
  omega
 refine ⟨fun k hk => ?_, cur.toList.take (l.length * 2), ⟨hl, .inr ⟨g, cap, cur, rfl, hb, h1, h3, h4, h2, rfl⟩⟩, hl, fun j p hp => ?_⟩
 ·have : g = k := by simpa [Value.ownBlock] using hk
  subst this; exact hok
 ·obtain ⟨hj, rfl⟩ := List.getElem?_eq_some_iff.1 hp
  have e : ((cur.toList.take (l.length * 2)).drop (j * 2)).take 2 = [.int .i64 l[j].f0, .int .i64 l[j].f1] := by
   apply List.ext_getElem?
   intro i
   have hi2 := h5 j hj
   match i with
   | 0 => rw [List.getElem?_take_of_lt (by omega), List.getElem?_drop, List.getElem?_take_of_lt (by omega), Array.getElem?_toList]; exact hi2.1
   | 1 => rw [List.getElem?_take_of_lt (by omega), List.getElem?_drop, List.getElem?_take_of_lt (by omega), Array.getElem?_toList]; exact hi2.2
   | i + 2 => rw [List.getElem?_eq_none (by rw [List.length_take]; omega), List.getElem?_eq_none (by simp)]
  change k23.M w base _ l[j] ((List.drop (j * 2) (List.take (l.length * 2) cur.toList)).take 2)
  rw [e]
  exact k23_mkM ..
theorem Row2.ofR {v : Value} (h : Kd.R k23 23 w base ok v l) (hl : l ≠ []) : ∃ g cap, v = .slice (some ⟨g, 0, none⟩) l.length cap ∧ base ≤ g ∧ ok g ∧ Row2 w g cap l := by
 obtain ⟨h0, inner, ⟨h1, h2⟩, h3, h4⟩ := h
 rcases h2 with ⟨_, e⟩ | ⟨g, cap, cur, rfl, hg, hh, q1, q2, q3, q4⟩
 ·exact absurd (List.length_eq_zero_iff.1 e) hl
 ·refine ⟨g, cap, rfl, hg, h0 g rfl, cur, hh, q3, q1, q2, fun j hj => ?_⟩
  have e := k23_openM (h4 j l[j] (List.getElem?_eq_getElem hj))
  have e0 := congrArg (fun z => z[0]?) e
  have e1 := congrArg (fun z => z[1]?) e
  have hs : k23.sz = 2 := rfl
  simp only [hs] at e0 e1
  rw [List.getElem?_take_of_lt (by omega), List.getElem?_drop, ← q4, List.getElem?_take_of_lt (by rw [hs]; omega), Array.getElem?_toList] at e0 e1
  exact ⟨e0, e1⟩
end
end Go.Proofs.Ytegdcnjjelgpjaa.P
namespace Go.Proofs.Ytegdcnjjelgpjaa.P
open Go.RowKit Go.Shelf Go.Proofs.Ytegdcnjjelgpjaa.O Go.Proofs.YtegdcnjjelgpjaaW.PrintWords Go.Proofs.YtegdcnjjelgpjaaW.PrintLast Go.Proofs.YtegdcnjjelgpjaaW.PrintMore
attribute [local go_sem] Oper.semAt_some
set_option linter.unusedVariables false
set_option linter.unusedSimpArgs false
theorem callsIn_w {n : Nat} {f : Nat} {args : Array Value} {w : World} {R : Ending → World → Prop} (h : Calls Try.prog f args w R) : CallsIn Fence.wide n Try.prog f args w R := callsIn_wide.2 h
theorem rd23_get (l : List S23) (i : Nat) (h : i < l.length) : rd_T23 l (i : Int) = l[i] := by
 simp only [rd_T23, Int.toNat_natCast, List.getD_eq_getElem?_getD, List.getElem?_eq_getElem h, Option.getD_some]
def ptV (x : S23) : Array Value := #[.agg #[.int .i64 x.f0, .int .i64 x.f1]]
theorem take_prefix (l : List S23) (k : Nat) (h : k < l.length) : (l.take k ++ [l[k]]) <+: l := by
 have := List.take_prefix (k + 1) l
 rwa [List.take_succ_eq_append_getElem h] at this
set_option maxRecDepth 100000 in
set_option maxHeartbeats 4000000 in
theorem values_seq (Bs c : Nat) (A : Option Addr) (l : List S23) (w : World) (hs : w.heap[Bs]? = some (.cells #[.slice A l.length c] 53 (0, 0))) (hr : Kd.C k23 w A l.length l) :
  SeqS Try.prog 126 #[.pointer (some ⟨Bs, 0, none⟩)] ptV l w := by
 intro lo J Jx W hW hJ hJx hY h0
 have hm := Kd.C_max hr
 have cs : W.cell? ⟨Bs, 0, none⟩ = some (.slice A l.length c) := (blk_cell (keep_below hW (blk_lt hs) hs) 0).trans rfl
 have hu23 := Try.underlying23
 refine callsIn_of_wp Try.func126 rfl trivial ?_ rfl
 simp only [Try.ntmps126, List.size_toArray, List.length_cons, List.length_nil, Nat.reduceAdd, Nat.reduceSub, Array.replicate_succ, Array.replicate_zero, List.push_toArray, List.append_toArray, List.nil_append, List.cons_append]
 gi_wp2
 gi_loopw [7] (fun i wr => ∃ k : Nat, k ≤ l.length ∧ i = .int .i64 k ∧ J (l.take k) wr ∧ Below w.heap.size w wr ∧ W.heap.size ≤ wr.heap.size)
  (fun i _ => l.length - (intOf i).toNat)
 case atStart => exact ⟨0, Nat.zero_le _, rfl, by simpa using h0, hW, Nat.le_refl _⟩
 case round =>
  obtain ⟨k, hk, rfl, hJs, hnx, hsz⟩ := hrel
  by_cases hlt : k < l.length
  ·obtain ⟨ad, rfl, hx0, hx1⟩ := at_T23 hr (k : Int) (by omega) (by omega)
   rw [rd23_get l k hlt, Int.toNat_natCast] at hx0 hx1
   replace hx0 := (hnx.cell (World.block_lt_of_cell? w _ hx0)).trans hx0
   replace hx1 := (hnx.cell (World.block_lt_of_cell? w _ hx1)).trans hx1
   have hb2 : Below wr.heap.size wr (wr.alloc (.cells #[.int .i64 l[k].f0, .int .i64 l[k].f1] 23 (0, 0))) := (Below.refl _ _).alloc (Nat.le_refl _) _
   obtain ⟨fn, tmps, assign, body, hy, hR⟩ := hY (l.take k) l[k] _ (hJ _ _ _ hJs hb2) (take_prefix l k hlt)
   dsimp only [ptV] at hy
   gi_wp2
   refine ⟨rfl, hR.mono ?_⟩
   rintro e W3 (⟨rfl, hJ3, hm3⟩ | ⟨rfl, hJ3⟩)
   ·gi_wp2
    have h3 := hm3.size
    rw [World.size_alloc] at h3
    refine ⟨⟨k + 1, by omega, by simp, ?_, (hnx.trans (hb2.mono hnx.size)).trans hm3, by omega⟩, by simp [intOf]; omega⟩
    rw [List.take_succ_eq_append_getElem hlt]; exact hJ3
   ·gi_wp2
    refine bodyPost_ret (results_none rfl _ _ _) rfl ?_
    exact ⟨⟨_, rfl⟩, .inr ⟨_, take_prefix l k hlt, hJ3⟩⟩
  ·obtain rfl : k = l.length := by omega
   gi_wp2
   go_end0
   exact ⟨⟨_, rfl⟩, .inl (by simpa using hJs)⟩
set_option maxHeartbeats 1000000 in
theorem values_make (A : Option Addr) (n c : Nat) (w : World) :
  CallsIn Fence.wide 0 Try.prog 114 #[.slice A n c] w fun e w' => e = .returned (.func (.func 126) #[] #[.pointer (some ⟨w.heap.size, 0, none⟩)]) ∧ w' = w.alloc (.cells #[.slice A n c] 53 (0, 0)) := by
 refine callsIn_of_wp Try.func114 rfl trivial ?_ rfl
 simp only [Try.ntmps114, List.size_toArray, List.length_cons, List.length_nil, Nat.reduceAdd, Nat.reduceSub, Array.replicate_succ, Array.replicate_zero, List.push_toArray, List.append_toArray, List.nil_append, List.cons_append]
 gi_wp2
 go_ret
 exact ⟨rfl, rfl⟩
end Go.Proofs.Ytegdcnjjelgpjaa.P
namespace Go.Proofs.Ytegdcnjjelgpjaa.P
open Go.RowKit Go.Shelf Go.Proofs.Ytegdcnjjelgpjaa.O Go.Proofs.YtegdcnjjelgpjaaW.PrintWords Go.Proofs.YtegdcnjjelgpjaaW.PrintLast Go.Proofs.YtegdcnjjelgpjaaW.PrintMore
set_option linter.unusedVariables false
set_option linter.unusedSimpArgs false
theorem flat_len (l : List S23) : (l.flatMap ptC).length = l.length * 2 := by
 induction l with
 | nil => rfl
 | cons x l ih => rw [List.flatMap_cons, List.length_append, ih]; simp [ptC]; omega
theorem flat_get : ∀ (l : List S23) (j : Nat) (h : j < l.length), (l.flatMap ptC)[j * 2]? = some (.int .i64 l[j].f0) ∧ (l.flatMap ptC)[j * 2 + 1]? = some (.int .i64 l[j].f1)
 | x :: l, 0, _ => ⟨rfl, rfl⟩
 | x :: l, j + 1, h => by
  have := flat_get l j (by simpa using h)
  rw [List.flatMap_cons, show (j + 1) * 2 = (ptC x).length + j * 2 by simp [ptC]; omega, show (ptC x).length + j * 2 + 1 = (ptC x).length + (j * 2 + 1) by omega, List.getElem?_append_right (by omega), List.getElem?_append_right (by omega), Nat.add_sub_cancel_left, Nat.add_sub_cancel_left]
  simpa using this
def OutV (w : World) (base : Nat) (v : Value) (l : List S23) : Prop :=
 (v = .slice none 0 0 ∧ l = []) ∨ ∃ g cap, v = .slice (some ⟨g, 0, none⟩) l.length cap ∧ base ≤ g ∧ Row2 w g cap l
theorem OutV.owns {w : World} {base : Nat} {v : Value} {l : List S23} (h : OutV w base v l) : w.ownsRow base 23 2 v l.length (l.flatMap ptC) := by
 refine ⟨flat_len l, ?_⟩
 rcases h with ⟨rfl, rfl⟩ | ⟨g, cap, rfl, hb, cur, h1, h2, h3, h4, h5⟩
 ·exact .inl ⟨rfl, rfl⟩
 ·refine .inr ⟨g, cap, cur, rfl, hb, h1, h3, h4, h2, ?_⟩
  have hcl : cur.toList.length = cur.size := rfl
  apply List.ext_getElem?
  intro i
  by_cases hi : i < l.length * 2
  ·rw [List.getElem?_take_of_lt hi, Array.getElem?_toList]
   have hj : i / 2 < l.length := by omega
   rcases Nat.mod_two_eq_zero_or_one i with e | e
   ·have e2 : i = i / 2 * 2 := by omega
    rw [e2, (h5 _ hj).1, (flat_get l _ hj).1]
   ·have e2 : i = i / 2 * 2 + 1 := by omega
    rw [e2, (h5 _ hj).2, (flat_get l _ hj).2]
  ·rw [List.getElem?_eq_none (by rw [List.length_take]; omega), List.getElem?_eq_none (by rw [flat_len]; omega)]
theorem OutV.ofOwns {w : World} {base : Nat} {v : Value} {l : List S23} (h : w.ownsRow base 23 2 v l.length (l.flatMap ptC)) : OutV w base v l := by
 rcases h.2 with ⟨rfl, h0⟩ | ⟨g, cap, cur, rfl, hb, h1, h3, h4, h2, h6⟩
 ·exact .inl ⟨rfl, List.length_eq_zero_iff.1 h0⟩
 ·refine .inr ⟨g, cap, rfl, hb, cur, h1, h2, h3, h4, fun j hj => ?_⟩
  have q := flat_get l j hj
  rw [← h6, List.getElem?_take_of_lt (by omega), List.getElem?_take_of_lt (by omega), Array.getElem?_toList, Array.getElem?_toList] at q
  exact q
theorem OutV.block {w w1 : World} {base : Nat} {v : Value} {l : List S23} (h : OutV w base v l) (hm : ∀ k, v.ownBlock = some k → w1.heap[k]? = w.heap[k]?) : OutV w1 base v l := by
 rcases h with h | ⟨g, cap, rfl, hb, h⟩
 ·exact .inl h
 ·exact .inr ⟨g, cap, rfl, hb, h.move (hm g rfl)⟩
theorem OutV.lt {w : World} {base : Nat} {v : Value} {l : List S23} (h : OutV w base v l) : ∀ k, v.ownBlock = some k → k < w.heap.size ∧ base ≤ k := by
 intro k hk
 rcases h with ⟨rfl, _⟩ | ⟨g, cap, rfl, hb, h⟩
 ·simp [Value.ownBlock] at hk
 ·have : g = k := by simpa [Value.ownBlock] using hk
  subst this; exact ⟨h.lt, hb⟩
theorem OutV.form {w : World} {base : Nat} {v : Value} {l : List S23} (h : OutV w base v l) : ∃ A c, v = .slice A l.length c := by
 rcases h with ⟨rfl, rfl⟩ | ⟨g, cap, rfl, _⟩
 ·exact ⟨none, 0, rfl⟩
 ·exact ⟨_, cap, rfl⟩
theorem OutV.below {w w1 : World} {base : Nat} {v : Value} {l : List S23} (h : OutV w base v l) (hb : Below w.heap.size w w1) : OutV w1 base v l := by
 rcases h with h | ⟨g, cap, e, h1, h2⟩
 ·exact .inl h
 ·exact .inr ⟨g, cap, e, h1, h2.below hb h2.lt⟩
theorem OutV.lower {w : World} {base base' : Nat} {v : Value} {l : List S23} (h : OutV w base v l) (hb : base' ≤ base) : OutV w base' v l := by
 rcases h with h | ⟨g, cap, e, h1, h2⟩
 ·exact .inl h
 ·exact .inr ⟨g, cap, e, Nat.le_trans hb h1, h2⟩
theorem OutV.obj {w : World} {base : Nat} {v : Value} {l : List S23} (h : OutV w base v l) {k : Nat} (hk : v.ownBlock = some k) : ∃ c, w.heap[k]? = some (.cells c 23 (0, 0)) := by
 rcases h with ⟨rfl, _⟩ | ⟨g, cap, rfl, h1, cur, h2, _⟩
 ·simp [Value.ownBlock] at hk
 ·have : g = k := by simpa [Value.ownBlock] using hk
  subst this; exact ⟨cur, h2⟩
theorem OutV.toR {w : World} {base : Nat} {v : Value} {l : List S23} {ok : Nat → Prop} (h : OutV w base v l) (hok : ∀ k, v.ownBlock = some k → ok k) : Kd.R k23 23 w base ok v l := by
 rcases h with ⟨rfl, rfl⟩ | ⟨g, cap, rfl, hb, h⟩
 ·exact Kd.R_nil _ _ _ _ _
 ·exact h.toR hb (hok g rfl)
theorem wpListIn_append_pt {F : Fence} {n : Nat} (w : World) {ops : Array Oper} {rest : List Oper} {o : Oper} {a : Act} {Q : Exit → Act → World → Prop}
  (hg : o.guard = none) (s x : Operand) (hop : o.op = Op.call { callee := Callee.builtin Builtin.append, args := #[s, x], argTypes := #[53, 53] })
  (base : Nat) (v : Value) (l : List S23) (hs : a.eval s = v) (hO : OutV w base v l) (g c : Nat) (p : S23) (hx : a.eval x = .slice (some ⟨g, 0, none⟩) 1 c)
  (hc0 : w.cell? ⟨g, 0, none⟩ = some (.int .i64 p.f0)) (hc1 : w.cell? ⟨g, 1, none⟩ = some (.int .i64 p.f1)) (hl : l.length + 1 ≤ 8796093022208) (hb : base ≤ w.heap.size)
  (hK : ∀ v' w', OutV w' base v' (l ++ [p]) → w.grownBy w' v.ownBlock → (v'.ownBlock = v.ownBlock ∨ v'.ownBlock = some w.heap.size) → wpListIn F n Try.prog ops Q rest (a.put o.dst v') w') :
  wpListIn F n Try.prog ops Q (o :: rest) a w := by
 refine wpListIn_plain hg fun K hK' => ?_
 obtain ⟨i0, hi, hzz⟩ := Option.map_eq_some_iff.1 info23
 simp only [Prod.mk.injEq] at hzz
 obtain ⟨v', w', hrun, r1, r2, r3, r4⟩ := run_append_own_at (P := Try.prog) (w := w) base 53 o.type 23 i0 (.agg #[(.int .i64 0), (.int .i64 0)]) 2 16 Try.underlying53 hi hzz.1 hzz.2.1 hzz.2.2 rfl (by decide) v l.length (l.flatMap ptC) hO.owns
  ⟨g, 0, none⟩ 1 c (ptC p) rfl (by
   intro j u hu
   match j, hu with
   | 0, hu => simp [ptC] at hu; subst hu; exact hc0
   | 1, hu => simp [ptC] at hu; subst hu; exact hc1
   | j + 2, hu => simp [ptC] at hu) (by intro u hu; simp [ptC] at hu; rcases hu with rfl | rfl <;> rfl) (by unfold maxLen; omega) (by omega) hb
 have hO' : OutV w' base v' (l ++ [p]) := OutV.ofOwns (by rw [List.length_append, List.length_singleton, List.flatMap_append, List.flatMap_singleton]; exact r1)
 unfold Oper.wpIn
 refine ⟨?_, ?_⟩
 ·simp [Oper.about, hop, resolve, Target.leads, Sem.run_pure]
 ·rw [Oper.semAt_plain F _ _ (by rw [hop]; intro c hc'; cases hc')]
  simp [execOp, hop, resolve, invoke, builtin, hs, hx, hrun, Result.andThen]
  exact hK' _ _ (hK v' w' hO' r2 r4)
theorem Row2.flat {w : World} {g cap : Nat} {l : List S23} (h : Row2 w g cap l) : ∀ j u, (l.flatMap ptC)[j]? = some u → w.cell? ⟨g, j, none⟩ = some u := by
 intro j u hu
 have ho := OutV.owns (.inr ⟨g, cap, rfl, Nat.le_refl g, h⟩)
 rcases ho.2 with ⟨h0, _⟩ | ⟨g', cap', cur, e, hb, h1, h3, h4, h2, h6⟩
 ·cases h0
 ·cases e
  have hj : j < l.length * 2 := by
   have := (List.getElem?_eq_some_iff.1 hu).1
   rw [flat_len] at this; exact this
  rw [← h6, List.getElem?_take_of_lt hj, Array.getElem?_toList] at hu
  rw [blk_cell h1, hu]
theorem opIn_append_pts {F : Fence} {n : Nat} (w : World) {o : Oper} {a : Act} {K : Act → World → Prop} {Q : Exit → Act → World → Prop}
  (s x : Operand) (hop : o.op = Op.call { callee := Callee.builtin Builtin.append, args := #[s, x], argTypes := #[53, 53] })
  (base : Nat) (v : Value) (l : List S23) (hs : a.eval s = v) (hO : OutV w base v l) (g m cap : Nat) (ys : List S23) (hx : a.eval x = .slice (some ⟨g, 0, none⟩) m cap) (hm : m = ys.length)
  (hy : Row2 w g cap ys) (hl : l.length + ys.length ≤ 8796093022208) (hb : base ≤ w.heap.size)
  (hK : ∀ v' w', OutV w' base v' (l ++ ys) → w.grownBy w' v.ownBlock → (v'.ownBlock = v.ownBlock ∨ v'.ownBlock = some w.heap.size) → K (a.put o.dst v') w') :
  o.wpIn F n Try.prog a w K Q := by
 subst hm
 obtain ⟨i0, hi, hzz⟩ := Option.map_eq_some_iff.1 info23
 simp only [Prod.mk.injEq] at hzz
 obtain ⟨v', w', hrun, r1, r2, r3, r4⟩ := run_append_own_at (P := Try.prog) (w := w) base 53 o.type 23 i0 (.agg #[(.int .i64 0), (.int .i64 0)]) 2 16 Try.underlying53 hi hzz.1 hzz.2.1 hzz.2.2 rfl (by decide) v l.length (l.flatMap ptC) hO.owns
  ⟨g, 0, none⟩ ys.length cap (ys.flatMap ptC) (flat_len ys) (by
   intro j u hu
   have := hy.flat j u hu
   by_cases hj : j = 0
   ·subst hj; simpa [Addr.add] using this
   ·simpa [Addr.add, hj] using this) (by
   intro u hu
   obtain ⟨x, _, hx⟩ := List.mem_flatMap.1 hu
   simp [ptC] at hx; rcases hx with rfl | rfl <;> rfl) (by unfold maxLen; omega) (by omega) hb
 have hO' : OutV w' base v' (l ++ ys) := OutV.ofOwns (by rw [List.length_append, List.flatMap_append]; exact r1)
 unfold Oper.wpIn
 refine ⟨?_, ?_⟩
 ·simp [Oper.about, hop, resolve, Target.leads, Sem.run_pure]
 ·rw [Oper.semAt_plain F _ _ (by rw [hop]; intro c hc'; cases hc')]
  simp [execOp, hop, resolve, invoke, builtin, hs, hx, hrun, Result.andThen]
  exact hK v' w' hO' r2 r4
end Go.Proofs.Ytegdcnjjelgpjaa.P
namespace Go.Proofs.Ytegdcnjjelgpjaa.O
open Go.RowKit
section
variable {F : Fence} {n : Nat} {P : Program} {ops : Array Oper} {Q : Exit → Act → World → Prop} {md : Region.Mode}
def Closed (md : Region.Mode) (ops : Array Oper) (listed : Array Bool) : Prop :=
 ∀ j o, ops[j]? = some o → listed.getD j false = true → ∀ e ∈ o.after, Region.binds md e = true → listed.getD e.on false = true
theorem getD_set {l : Array Bool} {i j : Nat} (hi : i < l.size) : (l.setIfInBounds i true).getD j false = if i = j then true else l.getD j false := by
 by_cases h : i = j
 ·subst h; simp [Array.getD, hi]
 ·rw [if_neg h]
  simp only [Array.getD_eq_getD_getElem?, Array.getElem?_setIfInBounds_ne h]
theorem getD_same {l : Array Bool} {i : Nat} (hi : i < l.size) : (l.setIfInBounds i true).getD i false = true := by rw [getD_set hi, if_pos rfl]
theorem getD_other {l : Array Bool} {i j : Nat} (hi : i < l.size) (h : i ≠ j) : (l.setIfInBounds i true).getD j false = l.getD j false := by rw [getD_set hi, if_neg h]
theorem ready_lt {listed : Array Bool} {i : Nat} (h : i ∈ Region.ready md ops listed) : i < listed.size ∧ listed.getD i false = false := by
 have h0 := (mem_ready.1 h).1
 have : i < listed.size := by
  rcases Nat.lt_or_ge i listed.size with g | g
  ·exact g
  ·simp [Array.getD, Nat.not_lt.2 g] at h0
 refine ⟨this, ?_⟩
 simpa [Array.getD, this] using h0
theorem Closed.set {listed : Array Bool} {i : Nat} (h : Closed md ops listed) (hi : i ∈ Region.ready md ops listed) : Closed md ops (listed.setIfInBounds i true) := by
 intro j o ho hj e he hb
 obtain ⟨hlt, _⟩ := ready_lt hi
 rw [getD_set hlt] at hj ⊢
 by_cases hij : i = j
 ·subst hij
  obtain ⟨_, o', ho', hall⟩ := mem_ready.1 hi
  rw [ho] at ho'; cases ho'
  have := hall e he hb
  by_cases h2 : i = e.on
  ·rw [if_pos h2]
  ·rw [if_neg h2]; exact this
 ·rw [if_neg hij] at hj
  have := h j o ho hj e he hb
  by_cases h2 : i = e.on
  ·rw [if_pos h2]
  ·rw [if_neg h2]; exact this
theorem closed_none (k : Nat) : Closed md ops (Array.replicate k false) := by
 intro j o _ hj
 simp [Array.getD] at hj
theorem count_set {l : Array Bool} {i : Nat} (hi : i < l.size) (h0 : l.getD i false = false) : (l.setIfInBounds i true).toList.count false + 1 = l.toList.count false := by
 cases l with | mk xs =>
 simp only [List.size_toArray] at hi
 have hx : xs[i] = false := by simpa [Array.getD, hi] using h0
 have e : xs = xs.take i ++ false :: xs.drop (i + 1) := by rw [← hx, ← List.drop_eq_getElem_cons hi, List.take_append_drop]
 have e2 : xs.set i true = xs.take i ++ true :: xs.drop (i + 1) := List.set_eq_take_append_cons_drop.trans (by rw [if_pos hi])
 have c1 : xs.count false = (xs.take i ++ false :: xs.drop (i + 1)).count false := congrArg (List.count false) e
 simp only [List.setIfInBounds_toArray]
 rw [e2, c1]
 simp only [List.count_append, List.count_cons]
 simp
 omega
theorem wpAnyIn_inv (Inv : Array Bool → Act → World → Prop) (stop : Nat)
  (hstep : ∀ listed a w i, listed.size = ops.size → Closed md ops listed → Inv listed a w → i ∈ Region.ready md ops listed → i ≠ stop →
   ∀ K : Act → World → Prop, (∀ a' w', Inv (listed.setIfInBounds i true) a' w' → K a' w') → wpOpIn F n P ops Q i K a w)
  (hstop : ∀ listed a w fuel, listed.size = ops.size → Closed md ops listed → Inv listed a w → stop ∈ Region.ready md ops listed → listed.toList.count false ≤ fuel + 1 →
   wpOpIn F n P ops Q stop (wpAnyIn F n P md ops Q fuel (listed.setIfInBounds stop true)) a w)
  (hend : ∀ listed a w, listed.size = ops.size → Inv listed a w → Region.ready md ops listed = [] → Q .normal a w) :
  ∀ (fuel : Nat) (listed : Array Bool) (a : Act) (w : World), listed.size = ops.size → Closed md ops listed → Inv listed a w → listed.toList.count false ≤ fuel → wpAnyIn F n P md ops Q fuel listed a w := by
 intro fuel
 induction fuel with
 | zero =>
  intro listed a w hs hc hi hz
  have hr : Region.ready md ops listed = [] := by
   cases h : Region.ready md ops listed with
   | nil => rfl
   | cons i rs =>
    obtain ⟨h1, h2⟩ := ready_lt (md := md) (ops := ops) (listed := listed) (i := i) (by rw [h]; exact List.mem_cons_self ..)
    have := count_set h1 h2
    omega
  exact ⟨hr, hend listed a w hs hi hr⟩
 | succ fuel ih =>
  intro listed a w hs hc hi hz
  refine ⟨fun hr => hend listed a w hs hi hr, fun i hr => ?_⟩
  obtain ⟨h1, h2⟩ := ready_lt hr
  have hcount := count_set h1 h2
  by_cases e : i = stop
  ·subst e
   exact hstop listed a w fuel hs hc hi hr (by omega)
  ·exact hstep listed a w i hs hc hi hr e _ (fun a' w' hi' => ih _ a' w' (by simpa using hs) (hc.set hr) hi' (by omega))
theorem wpOpIn_of {i : Nat} {o : Oper} {a : Act} {w : World} {K : Act → World → Prop} (ho : ops[i]? = some o) (hw : Region.wanted o (yielded ops a.tmps) = true) (h : o.wpIn F n P a w K Q) : wpOpIn F n P ops Q i K a w := by
 unfold wpOpIn; simp only [ho, hw, if_true]; exact h
theorem ready_after {listed : Array Bool} {i : Nat} {o : Oper} (h : i ∈ Region.ready md ops listed) (ho : ops[i]? = some o) : ∀ e ∈ o.after, Region.binds md e = true → listed.getD e.on false = true := by
 obtain ⟨_, o', ho', hall⟩ := mem_ready.1 h
 rw [ho] at ho'; cases ho'
 exact hall
theorem rdD {listed : Array Bool} {i : Nat} (j : Nat) (hr : i ∈ Region.ready md ops listed) (h : (match ops[i]? with | some o => o.after.any fun e => e.on == j && Region.binds md e | none => false) = true := by kernel_rfl) : listed.getD j false = true := by
 split at h
 ·rename_i o ho
  obtain ⟨p, hp, he⟩ := Array.any_eq_true.1 h
  simp only [Bool.and_eq_true, beq_iff_eq] at he
  rw [← he.1]
  exact ready_after hr ho _ (Array.getElem_mem hp) he.2
 ·cases h
def earlier (md : Region.Mode) (ops : Array Oper) : Bool := (List.range ops.size).all fun i => match ops[i]? with
 | some o => o.after.all fun e => !Region.binds md e || decide (e.on < i)
 | none => true
theorem ready_ne {listed : Array Bool} (hs : listed.size = ops.size) (hd : earlier md ops = true) : ∀ (j : Nat), j < ops.size → listed.getD j false = false → Region.ready md ops listed ≠ [] := by
 intro j
 induction j using Nat.strongRecOn with
 | ind j ih =>
  intro hj h hr
  have hnot : j ∉ Region.ready md ops listed := by rw [hr]; simp
  refine hnot (mem_ready.2 ⟨?_, ops[j], Array.getElem?_eq_getElem hj, fun e he hb => ?_⟩)
  ·simpa [Array.getD, hs, hj] using h
  ·have h1 := List.all_eq_true.1 hd j (List.mem_range.2 hj)
   rw [Array.getElem?_eq_getElem hj] at h1
   have h2 := (Array.all_eq_true_iff_forall_mem.1 h1) e he
   have h3 : e.on < j := by simpa [hb] using h2
   cases h4 : listed.getD e.on false
   ·exact absurd hr (ih e.on h3 (by omega) h4)
   ·rfl
end
def selOr (l : Array Bool) (i : Nat) (v u : Value) : Value := if l.getD i false = true then v else u
theorem selOr_on {l : Array Bool} {i : Nat} (h : l.getD i false = true) (v u : Value) : selOr l i v u = v := if_pos h
theorem selOr_same {l : Array Bool} {i : Nat} (hi : i < l.size) (v u : Value) : selOr (l.setIfInBounds i true) i v u = v := by unfold selOr; rw [getD_set hi, if_pos rfl, if_pos rfl]
theorem selOr_other {l : Array Bool} {i j : Nat} (hi : i < l.size) (h : i ≠ j) (v u : Value) : selOr (l.setIfInBounds i true) j v u = selOr l j v u := by unfold selOr; rw [getD_set hi, if_neg h]
end Go.Proofs.Ytegdcnjjelgpjaa.O
namespace Geo
theorem pos_of_mul {a z : Int} (ha : 0 < a) (h : 0 < a * z) : 0 < z := by
 rcases Int.lt_or_le 0 z with g | g
 ·exact g
 ·have := Int.mul_le_mul_of_nonneg_left g (Int.le_of_lt ha); simp at this; omega
theorem nn_of_mul {a z : Int} (ha : 0 < a) (h : 0 ≤ a * z) : 0 ≤ z := by
 rcases Int.lt_or_le z 0 with g | g
 ·have := Int.mul_lt_mul_of_pos_left g ha; simp at this; omega
 ·exact g
theorem le_of_mul {a y z : Int} (ha : 0 < a) (h : a * y ≤ a * z) : y ≤ z := by
 have e : a * (z - y) = a * z - a * y := Int.mul_sub ..
 have := nn_of_mul (z := z - y) ha (by omega)
 omega
def Fwd (x y : Int) : Prop := 0 < x ∨ (x = 0 ∧ 0 < y)
theorem Fwd.nn {x y : Int} (h : Fwd x y) : 0 ≤ x := by unfold Fwd at h; omega
theorem Fwd.add {x y z w : Int} (h : Fwd x y) (k : Fwd z w) : Fwd (x + z) (y + w) := by unfold Fwd at *; omega
theorem cross_trans {px py qx qy rx ry : Int} (hp : Fwd px py) (hq : Fwd qx qy) (hr : Fwd rx ry) (h1 : 0 < px * qy - py * qx) (h2 : 0 < qx * ry - qy * rx) : 0 < px * ry - py * rx := by
 have p0 := hp.nn
 have r0 := hr.nn
 rcases Int.lt_or_le 0 qx with g | g
 ·have key : qx * (px * ry - py * rx) = rx * (px * qy - py * qx) + px * (qx * ry - qy * rx) := by grind
  have hp1 : 0 < px := by
   rcases hp with h | ⟨h, k⟩
   ·exact h
   ·subst h
    have := Int.mul_pos k g
    omega
  have a1 := Int.mul_nonneg r0 (Int.le_of_lt h1)
  have a2 := Int.mul_pos hp1 h2
  exact pos_of_mul g (by omega)
 ·have q0 := hq.nn
  have e : qx = 0 := by omega
  subst e
  have q1 : 0 < qy := by unfold Fwd at hq; omega
  have := Int.mul_nonneg (Int.le_of_lt q1) r0
  omega
theorem mid_le {px py qx qy u v : Int} (h0 : 0 ≤ px) (h1 : px ≤ qx) (h2 : qx = 0 → 0 ≤ py) (h : px * qy - py * qx ≤ 0) (hv : v ≤ 0) : u * px + v * py ≤ 0 ∨ u * px + v * py ≤ u * qx + v * qy := by
 rcases Int.lt_or_le 0 qx with g | g
 ·have key : qx * (u * px + v * py) = px * (u * qx + v * qy) - v * (px * qy - py * qx) := by grind
  have hn : 0 ≤ v * (px * qy - py * qx) := Int.mul_nonneg_of_nonpos_of_nonpos hv h
  rcases Int.lt_or_le 0 (u * qx + v * qy) with k | k
  ·right
   have := Int.mul_le_mul_of_nonneg_right h1 (Int.le_of_lt k)
   exact le_of_mul g (by omega)
  ·left
   have := Int.mul_le_mul_of_nonneg_left k h0
   rw [Int.mul_zero] at this
   exact le_of_mul g (by rw [Int.mul_zero]; omega)
 ·have e : qx = 0 := by omega
  subst e
  have e : px = 0 := by omega
  subst e
  left
  have := Int.mul_nonneg_of_nonpos_of_nonpos hv (show -py ≤ 0 by have := h2 rfl; omega)
  rw [Int.mul_neg] at this
  omega
section
variable {α : Type} (X Y : α → Int)
def cr (a b c : α) : Int := (X b - X a) * (Y c - Y a) - (Y b - Y a) * (X c - X a)
def dt (u v : Int) (p : α) : Int := u * X p + v * Y p
def lt (a b : α) : Prop := Fwd (X b - X a) (Y b - Y a)
variable {X Y}
theorem lt.trans {a b c : α} (h : lt X Y a b) (k : lt X Y b c) : lt X Y a c := by unfold lt Fwd at *; omega
theorem lt.irrefl {a : α} (h : lt X Y a a) : False := by unfold lt Fwd at h; omega
theorem lt.asymm {a b : α} (h : lt X Y a b) (k : lt X Y b a) : False := (h.trans k).irrefl
theorem lt_iff {a b : α} : lt X Y a b ↔ X a < X b ∨ (X a = X b ∧ Y a < Y b) := by unfold lt Fwd; omega
theorem lt_total {a b : α} (h : ¬ lt X Y a b) (k : ¬ lt X Y b a) : X a = X b ∧ Y a = Y b := by rw [lt_iff] at *; omega
theorem cr_cyc (a b c : α) : cr X Y b c a = cr X Y a b c := by unfold cr; grind
theorem cr_self (a b : α) : cr X Y a b b = 0 := by unfold cr; grind
theorem cr_self1 (a b : α) : cr X Y a b a = 0 := by unfold cr; grind
theorem cr_neg (a b c : α) : cr (fun p => - X p) (fun p => - Y p) a b c = cr X Y a b c := by unfold cr; grind
theorem dt_neg (u v : Int) (p : α) : dt (fun p => - X p) (fun p => - Y p) u v p = dt X Y (-u) (-v) p := by unfold dt; grind
theorem lt_neg {a b : α} : lt (fun p => - X p) (fun p => - Y p) a b ↔ lt X Y b a := by rw [lt_iff, lt_iff]; omega
theorem dt_normal (a b w : α) : dt X Y (Y b - Y a) (X a - X b) w - dt X Y (Y b - Y a) (X a - X b) a = - cr X Y a b w := by unfold dt cr; grind
theorem sorted_ext {R : α → α → Prop} (hirr : ∀ a, ¬ R a a) (hasym : ∀ a b, R a b → R b a → False) : ∀ l m : List α, l.Pairwise R → m.Pairwise R → (∀ x, x ∈ l ↔ x ∈ m) → l = m
 | [], [], _, _, _ => rfl
 | [], b :: m, _, _, h => absurd ((h b).2 (List.mem_cons_self ..)) (by simp)
 | a :: l, [], _, _, h => absurd ((h a).1 (List.mem_cons_self ..)) (by simp)
 | a :: l, b :: m, hl, hm, h => by
  rw [List.pairwise_cons] at hl hm
  have e : a = b := by
   rcases List.mem_cons.1 ((h a).1 (List.mem_cons_self ..)) with g | g
   ·exact g
   ·rcases List.mem_cons.1 ((h b).2 (List.mem_cons_self ..)) with k | k
    ·exact k.symm
    ·exact (hasym _ _ (hl.1 b k) (hm.1 a g)).elim
  subst e
  congr 1
  refine sorted_ext hirr hasym l m hl.2 hm.2 fun x => ⟨fun hx => ?_, fun hx => ?_⟩
  ·rcases List.mem_cons.1 ((h x).1 (List.mem_cons_of_mem _ hx)) with g | g
   ·subst g; exact (hirr _ (hl.1 _ hx)).elim
   ·exact g
  ·rcases List.mem_cons.1 ((h x).2 (List.mem_cons_of_mem _ hx)) with g | g
   ·subst g; exact (hirr _ (hm.1 _ hx)).elim
   ·exact g
def pop (bad : α → α → α → Bool) (x : α) : List α → List α
 | b :: a :: r => if bad a b x then pop bad x (a :: r) else b :: a :: r
 | l => l
def chain (bad : α → α → α → Bool) : List α → List α → List α
 | [], st => st
 | x :: r, st => chain bad r (x :: pop bad x st)
variable (X Y)
def right (a b c : α) : Bool := decide (cr X Y a b c ≤ 0)
def Trip : List α → Prop
 | [] => True
 | c :: r => r.Pairwise (fun b a => 0 < cr X Y a b c) ∧ Trip r
structure Low (s st : List α) : Prop where
 desc : st.Pairwise (fun a b => lt X Y b a)
 trip : Trip X Y st
 sub : ∀ x ∈ st, x ∈ s
 sup : ∀ u v, v ≤ 0 → ∀ w ∈ s, ∃ x ∈ st, dt X Y u v w ≤ dt X Y u v x
 top : ∀ t, st.head? = some t → ∀ w ∈ s, w = t ∨ lt X Y w t
 bot : ∀ t, st.getLast? = some t → ∀ w ∈ s, w = t ∨ lt X Y t w
variable {X Y}
theorem trip_up {x b a : α} {r : List α} (hd : (b :: a :: r).Pairwise (fun a b => lt X Y b a)) (ht : Trip X Y (b :: a :: r)) (hx : lt X Y b x) (h : 0 < cr X Y a b x) :
  (b :: a :: r).Pairwise (fun b a => 0 < cr X Y a b x) := by
 have hd' := List.pairwise_cons.1 hd
 have hlt : ∀ y ∈ b :: a :: r, lt X Y y x := fun y hy => by
  rcases List.mem_cons.1 hy with g | g
  ·subst g; exact hx
  ·exact (hd'.1 y g).trans hx
 have hb : ∀ y ∈ a :: r, 0 < cr X Y y b x := by
  intro y hy
  rcases List.mem_cons.1 hy with g | g
  ·subst g; exact h
  ·have h1 : 0 < cr X Y y a b := (List.pairwise_cons.1 ht.1).1 y g
   have l1 := hd'.1 y hy
   have l2 := hd'.1 a (List.mem_cons_self ..)
   have := cross_trans (px := X b - X y) (py := Y b - Y y) (qx := X b - X a) (qy := Y b - Y a) (rx := X x - X b) (ry := Y x - Y b) l1 l2 hx (by unfold cr at h1; grind) (by unfold cr at h; grind)
   unfold cr; grind
 refine List.pairwise_cons.2 ⟨hb, ?_⟩
 have ht2 : (a :: r).Pairwise (fun c a => 0 < cr X Y a c b) := ht.1
 have hd2 : (a :: r).Pairwise (fun a b => lt X Y b a) := hd'.2
 refine List.Pairwise.imp_of_mem (R := fun c a => 0 < cr X Y a c b ∧ lt X Y a c) ?_ (ht2.and hd2)
 intro y z hy hz hyz
 have h1 := hyz.1
 have h2 := hb y hy
 have l1 := hyz.2
 have l2 := hd'.1 y hy
 have l3 := hlt y (List.mem_cons_of_mem _ hy)
 have := cross_trans (px := X y - X z) (py := Y y - Y z) (qx := X b - X y) (qy := Y b - Y y) (rx := X x - X y) (ry := Y x - Y y) l1 l2 l3 (by unfold cr at h1; grind) (by unfold cr at h2; grind)
 unfold cr; grind
theorem pop_cons2 (bad : α → α → α → Bool) (x b a : α) (r : List α) : pop bad x (b :: a :: r) = if bad a b x then pop bad x (a :: r) else b :: a :: r := by rw [pop]
theorem pop_ne (bad : α → α → α → Bool) (x : α) : ∀ st : List α, st ≠ [] → pop bad x st ≠ []
 | [], h => absurd rfl h
 | [a], _ => by simp [pop]
 | b :: a :: r, _ => by
  rw [pop_cons2]; split
  ·exact pop_ne bad x (a :: r) (by simp)
  ·simp
theorem pop_last (bad : α → α → α → Bool) (x : α) : ∀ st : List α, (pop bad x st).getLast? = st.getLast?
 | [] => rfl
 | [a] => rfl
 | b :: a :: r => by
  rw [pop_cons2]; split
  ·rw [pop_last bad x (a :: r)]; simp
  ·rfl
theorem pop_sub (bad : α → α → α → Bool) (x : α) : ∀ st : List α, (pop bad x st).Sublist st
 | [] => List.Sublist.refl _
 | [a] => List.Sublist.refl _
 | b :: a :: r => by
  rw [pop_cons2]; split
  ·exact (pop_sub bad x (a :: r)).cons _
  ·exact List.Sublist.refl _
theorem pop_trip (x : α) : ∀ st : List α, st.Pairwise (fun a b => lt X Y b a) → Trip X Y st → (∀ y ∈ st, lt X Y y x) → Trip X Y (x :: pop (right X Y) x st)
 | [], _, _, _ => ⟨List.Pairwise.nil, trivial⟩
 | [a], _, _, _ => ⟨by simp [pop], by simp [pop, Trip]⟩
 | b :: a :: r, hd, ht, hx => by
  rw [pop_cons2]
  by_cases h : right X Y a b x = true
  ·rw [if_pos h]
   exact pop_trip x (a :: r) (List.pairwise_cons.1 hd).2 ht.2 fun y hy => hx y (List.mem_cons_of_mem _ hy)
  ·rw [if_neg h]
   have h' : 0 < cr X Y a b x := by simp [right] at h; omega
   exact ⟨trip_up hd ht (hx b (List.mem_cons_self ..)) h', ht⟩
theorem pop_sup (x : α) (u v : Int) (hv : v ≤ 0) : ∀ st : List α, st.Pairwise (fun a b => lt X Y b a) → (∀ y ∈ st, lt X Y y x) → ∀ w ∈ st, ∃ y ∈ x :: pop (right X Y) x st, dt X Y u v w ≤ dt X Y u v y
 | [], _, _, w, hw => by simp at hw
 | [a], _, _, w, hw => by
  refine ⟨w, ?_, Int.le_refl _⟩
  simp at hw; subst hw; simp [pop]
 | b :: a :: r, hd, hx, w, hw => by
  rw [pop_cons2]
  have hd' := List.pairwise_cons.1 hd
  have ih := pop_sup x u v hv (a :: r) hd'.2 fun y hy => hx y (List.mem_cons_of_mem _ hy)
  by_cases h : right X Y a b x = true
  ·rw [if_pos h]
   rcases List.mem_cons.1 hw with g | g
   ·subst g
    have h' : cr X Y a w x ≤ 0 := by simpa [right] using h
    have l1 := hd'.1 a (List.mem_cons_self ..)
    have l2 := hx w (List.mem_cons_self ..)
    have := mid_le (px := X w - X a) (py := Y w - Y a) (qx := X x - X a) (qy := Y x - Y a) (u := u) (v := v) l1.nn (by have := l2.nn; omega) (by intro e; unfold lt Fwd at l1 l2; omega) h' hv
    rcases this with k | k
    ·obtain ⟨y, hy, hl⟩ := ih a (List.mem_cons_self ..)
     refine ⟨y, hy, Int.le_trans ?_ hl⟩
     unfold dt; rw [Int.mul_sub, Int.mul_sub] at k; omega
    ·refine ⟨x, List.mem_cons_self .., ?_⟩
     unfold dt; rw [Int.mul_sub, Int.mul_sub, Int.mul_sub, Int.mul_sub] at k; omega
   ·exact ih w g
  ·rw [if_neg h]
   exact ⟨w, List.mem_cons_of_mem _ hw, Int.le_refl _⟩
theorem Low.step {s st : List α} (h : Low X Y s st) (hne : st ≠ []) {x : α} (hx : ∀ y ∈ s, lt X Y y x) : Low X Y (s ++ [x]) (x :: pop (right X Y) x st) := by
 have hxs : ∀ y ∈ st, lt X Y y x := fun y hy => hx y (h.sub y hy)
 refine ⟨?_, pop_trip x st h.desc h.trip hxs, ?_, ?_, ?_, ?_⟩
 ·exact List.pairwise_cons.2 ⟨fun y hy => hxs y ((pop_sub _ x st).subset hy), h.desc.sublist (pop_sub _ x st)⟩
 ·intro y hy
  rcases List.mem_cons.1 hy with g | g
  ·simp [g]
  ·simp [h.sub y ((pop_sub _ x st).subset g)]
 ·intro u v hv w hw
  rcases List.mem_append.1 hw with g | g
  ·obtain ⟨y, hy, hl⟩ := h.sup u v hv w g
   obtain ⟨z, hz, hl2⟩ := pop_sup x u v hv st h.desc hxs y hy
   exact ⟨z, hz, Int.le_trans hl hl2⟩
  ·simp at g; subst g
   exact ⟨w, List.mem_cons_self .., Int.le_refl _⟩
 ·intro t ht w hw
  simp at ht; subst ht
  rcases List.mem_append.1 hw with g | g
  ·exact .inr (hx w g)
  ·simp at g; exact .inl g
 ·intro t ht w hw
  have ht' : st.getLast? = some t := by
   rw [← pop_last (right X Y) x st]
   have hn := pop_ne (right X Y) x st hne
   generalize pop (right X Y) x st = l at *
   cases l with
   | nil => exact absurd rfl hn
   | cons a r => simpa using ht
  rcases List.mem_append.1 hw with g | g
  ·exact h.bot t ht' w g
  ·simp at g; subst g
   have : t ∈ st := List.mem_of_getLast? ht'
   exact .inr (hxs t this)
theorem Low.one (x : α) : Low X Y [x] [x] := by
 refine ⟨by simp, by simp [Trip], by simp, fun u v _ w hw => ⟨w, hw, Int.le_refl _⟩, ?_, ?_⟩
 ·intro t ht w hw; simp at ht hw; subst ht; exact .inl hw
 ·intro t ht w hw; simp at ht hw; subst ht; exact .inl hw
theorem chain_low : ∀ (r s st : List α), Low X Y s st → st ≠ [] → (s ++ r).Pairwise (lt X Y) → Low X Y (s ++ r) (chain (right X Y) r st)
 | [], s, st, h, _, _ => by rw [List.append_nil]; exact h
 | x :: r, s, st, h, hne, hs => by
  rw [chain]
  have e : s ++ x :: r = (s ++ [x]) ++ r := by simp
  rw [e] at hs ⊢
  refine chain_low r (s ++ [x]) _ (h.step hne ?_) (by simp) hs
  intro y hy
  have := List.pairwise_append.1 (List.pairwise_append.1 hs).1
  exact this.2.2 y hy x (by simp)
theorem chain_ok {s : List α} (hne : s ≠ []) (hs : s.Pairwise (lt X Y)) : Low X Y s (chain (right X Y) s []) := by
 cases s with
 | nil => exact absurd rfl hne
 | cons x r =>
  rw [chain]
  exact chain_low r [x] [x] (Low.one x) (by simp) hs
end
section
variable {α : Type} {X Y : α → Int}
theorem trip_get : ∀ (st : List α), Trip X Y st → ∀ (i j k : Nat) (hk : k < st.length) (hj : j < st.length) (hi : i < st.length), i < j → j < k → 0 < cr X Y st[k] st[j] st[i]
 | [], _, i, _, _, hk, _, _, _, _ => absurd hk (by simp)
 | c :: r, h, 0, j + 1, k + 1, hk, hj, hi, h1, h2 => by
  have := List.pairwise_iff_getElem.1 h.1 j k (by simpa using hj) (by simpa using hk) (by omega)
  simpa using this
 | c :: r, h, i + 1, j + 1, k + 1, hk, hj, hi, h1, h2 => by
  have := trip_get r h.2 i j k (by simpa using hk) (by simpa using hj) (by simpa using hi) (by omega) (by omega)
  simpa using this
 | c :: r, h, _, 0, _, _, _, _, h1, _ => absurd h1 (by omega)
 | c :: r, h, _, _ + 1, 0, _, _, _, _, h2 => absurd h2 (by omega)
variable (X Y)
structure LowL (s L : List α) : Prop where
 ne : 0 < L.length
 asc : L.Pairwise (lt X Y)
 tri : ∀ (i j k : Nat) (hk : k < L.length) (hj : j < L.length) (hi : i < L.length), i < j → j < k → 0 < cr X Y L[i] L[j] L[k]
 sub : ∀ x ∈ L, x ∈ s
 sup : ∀ u v, v ≤ 0 → ∀ w ∈ s, ∃ x ∈ L, dt X Y u v w ≤ dt X Y u v x
 top : ∀ w ∈ s, w = L[L.length - 1] ∨ lt X Y w L[L.length - 1]
 bot : ∀ w ∈ s, w = L[0] ∨ lt X Y L[0] w
variable {X Y}
theorem Low.list {s st : List α} (h : Low X Y s st) (hne : st ≠ []) : LowL X Y s st.reverse := by
 have hn : 0 < st.length := List.length_pos_iff.2 hne
 refine ⟨by simpa using hn, List.pairwise_reverse.2 h.desc, ?_, fun x hx => h.sub x (by simpa using hx), fun u v hv w hw => ?_, ?_, ?_⟩
 ·intro i j k hk hj hi h1 h2
  simp only [List.length_reverse] at hk hj hi
  rw [List.getElem_reverse, List.getElem_reverse, List.getElem_reverse]
  exact trip_get st h.trip _ _ _ (by omega) (by omega) (by omega) (by omega) (by omega)
 ·obtain ⟨x, hx, hl⟩ := h.sup u v hv w hw
  exact ⟨x, by simpa using hx, hl⟩
 ·have e : st.reverse[st.reverse.length - 1]'(by simp; omega) = st[0] := by
   rw [List.getElem_reverse]; congr 1; simp
  rw [e]
  exact h.top _ (by rw [List.head?_eq_getElem?, List.getElem?_eq_getElem hn])
 ·have e : st.reverse[0]'(by simpa using hn) = st[st.length - 1] := by
   rw [List.getElem_reverse]; congr 1
  rw [e]
  exact h.bot _ (by rw [List.getLast?_eq_getElem?, List.getElem?_eq_getElem (by omega)])
theorem LowL.asc_get {s L : List α} (h : LowL X Y s L) (i j : Nat) (hi : i < L.length) (hj : j < L.length) (hij : i < j) : lt X Y L[i] L[j] := List.pairwise_iff_getElem.1 h.asc i j hi hj hij
theorem LowL.edge {s L : List α} (h : LowL X Y s L) (i : Nat) (hi : i + 1 < L.length) : ∀ w ∈ s, 0 ≤ cr X Y L[i] L[i + 1] w := by
 intro w hw
 have hf := h.asc_get i (i + 1) (by omega) hi (by omega)
 obtain ⟨x, hx, hl⟩ := h.sup (Y L[i + 1] - Y L[i]) (X L[i] - X L[i + 1]) (by have := hf.nn; omega) w hw
 obtain ⟨j, hj, rfl⟩ := List.getElem_of_mem hx
 have k : 0 ≤ cr X Y L[i] L[i + 1] L[j] := by
  rcases Nat.lt_trichotomy j i with g | g | g
  ·have := h.tri j i (i + 1) hi (by omega) hj g (by omega)
   have e : cr X Y L[i] L[i + 1] L[j] = cr X Y L[j] L[i] L[i + 1] := cr_cyc _ _ _
   omega
  ·subst g; rw [cr_self1]; omega
  ·rcases Nat.lt_or_ge (i + 1) j with k | k
   ·have := h.tri i (i + 1) j hj hi (by omega) (by omega) k; omega
   ·have e : j = i + 1 := by omega
    subst e; rw [cr_self]; omega
 have e1 := dt_normal (X := X) (Y := Y) L[i] L[i + 1] w
 have e2 := dt_normal (X := X) (Y := Y) L[i] L[i + 1] L[j]
 omega
theorem LowL.of_sub {s s' L : List α} (h : LowL X Y s L) (h1 : ∀ x ∈ L, x ∈ s') (h2 : ∀ x ∈ s', x ∈ s) : LowL X Y s' L :=
 ⟨h.ne, h.asc, h.tri, h1, fun u v hv w hw => h.sup u v hv w (h2 w hw), fun w hw => h.top w (h2 w hw), fun w hw => h.bot w (h2 w hw)⟩
theorem right_neg : right (fun p => - X p) (fun p => - Y p) = right X Y := by
 funext a b c; unfold right; rw [cr_neg]
theorem chain_ne (bad : α → α → α → Bool) : ∀ (r st : List α), st ≠ [] ∨ r ≠ [] → chain bad r st ≠ []
 | [], st, h => by rw [chain]; rcases h with h | h; exact h; exact absurd rfl h
 | x :: r, st, _ => by rw [chain]; exact chain_ne bad r _ (.inl (by simp))
variable (X Y)
def lowC (s : List α) : List α := (chain (right X Y) s []).reverse
def highC (s : List α) : List α := (chain (right X Y) s.reverse []).reverse
def hullOf (s : List α) : List α := if s.length < 2 then s else (lowC X Y s).dropLast ++ (highC X Y s).dropLast
variable {X Y}
theorem lowC_ok {s : List α} (hne : s ≠ []) (hs : s.Pairwise (lt X Y)) : LowL X Y s (lowC X Y s) := (chain_ok hne hs).list (chain_ne _ _ _ (.inr hne))
theorem highC_ok {s : List α} (hne : s ≠ []) (hs : s.Pairwise (lt X Y)) : LowL (fun p => - X p) (fun p => - Y p) s (highC X Y s) := by
 have hne' : s.reverse ≠ [] := by simpa using hne
 have h := (chain_ok (X := fun p => - X p) (Y := fun p => - Y p) hne' (List.pairwise_reverse.2 (hs.imp fun h => lt_neg.2 h))).list (chain_ne _ _ _ (.inr hne'))
 rw [right_neg] at h
 exact h.of_sub (fun x hx => by simpa using h.sub x hx) (fun x hx => by simpa using hx)
theorem junction {s L M : List α} (h : LowL X Y s L) (k : LowL (fun p => - X p) (fun p => - Y p) s M) (h1 : 2 ≤ L.length) (h2 : 2 ≤ M.length) (h3 : 5 ≤ L.length + M.length) (e : L[L.length - 1] = M[0]) : 0 < cr X Y L[L.length - 2] M[0] M[1] := by
 have hm : M[1] ∈ s := k.sub _ (List.getElem_mem _)
 obtain ⟨m, hm2⟩ : ∃ m, L.length = m + 2 := ⟨L.length - 2, by omega⟩
 have e' : L[m + 1] = M[0] := by rw [← e]; congr 1; omega
 have eL : L[L.length - 2] = L[m] := by congr 1; omega
 rw [eL]
 have edge1 := h.edge m (by omega)
 rw [e'] at edge1
 have edge2 := k.edge 0 (by omega)
 simp only [cr_neg, Nat.zero_add] at edge2
 have f1 := h.asc_get m (m + 1) (by omega) (by omega) (by omega)
 have f2 := k.asc_get 0 1 (by omega) (by omega) (by omega)
 rw [lt_neg] at f2
 rw [e'] at f1
 rcases Int.lt_or_le 0 (cr X Y L[m] M[0] M[1]) with g | g
 ·exact g
 ·exfalso
  have z : cr X Y L[m] M[0] M[1] = 0 := by have := edge1 _ hm; omega
  -- all points are on one line
  have all : ∀ w ∈ s, cr X Y L[m] M[0] w = 0 ∧ cr X Y M[0] M[1] w = 0 := by
   intro w hw
   have g1 := edge1 w hw
   have g2 := edge2 w hw
   have a1 : (X M[0] - X L[m]) * cr X Y M[0] M[1] w = (X M[1] - X M[0]) * cr X Y L[m] M[0] w - cr X Y L[m] M[0] M[1] * (X w - X M[0]) := by unfold cr; grind
   have a2 : (Y M[0] - Y L[m]) * cr X Y M[0] M[1] w = (Y M[1] - Y M[0]) * cr X Y L[m] M[0] w - cr X Y L[m] M[0] M[1] * (Y w - Y M[0]) := by unfold cr; grind
   have a3 : (X M[0] - X L[m]) * (Y M[1] - Y M[0]) - (Y M[0] - Y L[m]) * (X M[1] - X M[0]) = 0 := by rw [← z]; unfold cr; grind
   rw [z, Int.zero_mul, Int.sub_zero] at a1 a2
   unfold lt Fwd at f1 f2
   rcases Int.lt_or_le 0 (X M[0] - X L[m]) with q | q
   ·have q2 : X M[1] - X M[0] < 0 := by
     rcases f2 with f2 | ⟨f2, f3⟩
     ·omega
     ·have : X M[1] - X M[0] = 0 := by omega
      rw [this, Int.mul_zero, Int.sub_zero] at a3
      have := Int.mul_eq_zero.1 a3
      omega
    have b1 := Int.mul_nonneg (Int.le_of_lt q) g2
    have b2 := Int.mul_nonneg (show 0 ≤ -(X M[1] - X M[0]) by omega) g1
    rw [Int.neg_mul] at b2
    have c1 : (X M[0] - X L[m]) * cr X Y M[0] M[1] w = 0 := by omega
    have c2 : (X M[1] - X M[0]) * cr X Y L[m] M[0] w = 0 := by omega
    have := Int.mul_eq_zero.1 c1
    have := Int.mul_eq_zero.1 c2
    omega
   ·have q1 : X M[0] - X L[m] = 0 := by omega
    have q2 : 0 < Y M[0] - Y L[m] := by omega
    rw [q1, Int.zero_mul] at a3
    have : (Y M[0] - Y L[m]) * (X M[1] - X M[0]) = 0 := by omega
    have q3 : X M[1] - X M[0] = 0 := by have := Int.mul_eq_zero.1 this; omega
    have q4 : Y M[1] - Y M[0] < 0 := by omega
    have b1 := Int.mul_nonneg (Int.le_of_lt q2) g2
    have b2 := Int.mul_nonneg (show 0 ≤ -(Y M[1] - Y M[0]) by omega) g1
    rw [Int.neg_mul] at b2
    have c1 : (Y M[0] - Y L[m]) * cr X Y M[0] M[1] w = 0 := by omega
    have c2 : (Y M[1] - Y M[0]) * cr X Y L[m] M[0] w = 0 := by omega
    have := Int.mul_eq_zero.1 c1
    have := Int.mul_eq_zero.1 c2
    omega
  by_cases c : 3 ≤ L.length
  ·have t := h.tri (m - 1) m (m + 1) (by omega) (by omega) (by omega) (by omega) (by omega)
   rw [e'] at t
   have := (all L[m - 1] (h.sub _ (List.getElem_mem _))).1
   have e3 : cr X Y L[m] M[0] L[m - 1] = cr X Y L[m - 1] L[m] M[0] := cr_cyc _ _ _
   omega
  ·have t := k.tri 0 1 2 (by omega) (by omega) (by omega) (by omega) (by omega)
   rw [cr_neg] at t
   have := (all M[2] (k.sub _ (List.getElem_mem _))).2
   omega
end
section
variable {α : Type} (X Y : α → Int)
def Next (n i j : Nat) : Prop := j = i + 1 ∨ (i + 1 = n ∧ j = 0)
structure IsH (s h : List α) : Prop where
 ne : 0 < h.length
 sub : ∀ x ∈ h, x ∈ s
 sup : ∀ u v, ∀ w ∈ s, ∃ x ∈ h, dt X Y u v w ≤ dt X Y u v x
 left : ∀ (i j : Nat) (hi : i < h.length) (hj : j < h.length), Next h.length i j → ∀ w ∈ s, 0 ≤ cr X Y h[i] h[j] w
 turn : 3 ≤ h.length → ∀ (i j k : Nat) (hi : i < h.length) (hj : j < h.length) (hk : k < h.length), Next h.length i j → Next h.length j k → 0 < cr X Y h[i] h[j] h[k]
 nodup : h.Nodup
 first : ∀ w ∈ s, w = h[0] ∨ lt X Y h[0] w
variable {X Y}
structure Both (X Y : α → Int) (s L M : List α) : Prop where
 l : LowL X Y s L
 m : LowL (fun p => - X p) (fun p => - Y p) s M
 l2 : 2 ≤ L.length
 m2 : 2 ≤ M.length
 j0 : L[L.length - 1]'(by omega) = M[0]'(by omega)
 j1 : M[M.length - 1]'(by omega) = L[0]'(by omega)
theorem both_of {s L M : List α} (h : LowL X Y s L) (k : LowL (fun p => - X p) (fun p => - Y p) s M) (hs : s.Pairwise (lt X Y)) (h2 : 2 ≤ s.length) : Both X Y s L M := by
 have hl := h.ne
 have hm := k.ne
 have lt01 : lt X Y s[0] s[1] := List.pairwise_iff_getElem.1 hs 0 1 (by omega) (by omega) (by omega)
 have nle : ∀ a : α, ¬ (∀ w ∈ s, w = a ∨ lt X Y w a) ∨ ¬ (∀ w ∈ s, w = a ∨ lt X Y a w) := by
  intro a
  refine Classical.byContradiction fun g => ?_
  have g1 : ∀ w ∈ s, w = a ∨ lt X Y w a := Classical.byContradiction fun q => g (.inl q)
  have g2 : ∀ w ∈ s, w = a ∨ lt X Y a w := Classical.byContradiction fun q => g (.inr q)
  have e : ∀ w ∈ s, w = a := fun w hw => by
   rcases g1 w hw with q | q
   ·exact q
   ·rcases g2 w hw with p | p
    ·exact p
    ·exact (q.asymm p).elim
  have a0 := e s[0] (List.getElem_mem _)
  have a1 := e s[1] (List.getElem_mem _)
  rw [a0, a1] at lt01
  exact lt01.irrefl
 have l2 : 2 ≤ L.length := by
  rcases Nat.lt_or_ge L.length 2 with g | g
  ·exfalso
   have e : L[L.length - 1] = L[0] := by congr 1; omega
   have t := h.top
   rw [e] at t
   rcases nle L[0] with q | q
   ·exact q t
   ·exact q h.bot
  ·exact g
 have m2 : 2 ≤ M.length := by
  rcases Nat.lt_or_ge M.length 2 with g | g
  ·exfalso
   have e : M[M.length - 1] = M[0] := by congr 1; omega
   have t := k.top
   have b := k.bot
   rw [e] at t
   simp only [lt_neg] at t b
   rcases nle M[0] with q | q
   ·exact q b
   ·exact q t
  ·exact g
 refine ⟨h, k, l2, m2, ?_, ?_⟩
 ·rcases h.top M[0] (k.sub _ (List.getElem_mem _)) with g | g
  ·exact g.symm
  ·have := k.bot L[L.length - 1] (h.sub _ (List.getElem_mem _))
   rw [lt_neg] at this
   rcases this with q | q
   ·exact q
   ·exact (g.asymm q).elim
 ·have := k.top L[0] (h.sub _ (List.getElem_mem _))
  rw [lt_neg] at this
  rcases this with q | q
  ·exact q.symm
  ·rcases h.bot M[M.length - 1] (k.sub _ (List.getElem_mem _)) with g | g
   ·exact g
   ·exact (g.asymm q).elim
theorem Both.next {s L M h : List α} (b : Both X Y s L M) (e : h = L.dropLast ++ M.dropLast) (i j : Nat) (hi : i < h.length) (hj : j < h.length) (hn : Next h.length i j) :
  (∃ (a : Nat) (ha : a + 1 < L.length), h[i] = L[a] ∧ h[j] = L[a + 1] ∧ i = a) ∨ (∃ (a : Nat) (ha : a + 1 < M.length), h[i] = M[a] ∧ h[j] = M[a + 1] ∧ i = L.length - 1 + a) := by
 have l2 := b.l2
 have m2 := b.m2
 have hl : h.length = L.length - 1 + (M.length - 1) := by rw [e]; simp
 have getL : ∀ (a : Nat) (ha : a < L.length - 1) (ha' : a < h.length), h[a] = L[a] := by
  intro a ha ha'
  subst e
  rw [List.getElem_append_left (by simpa using ha), List.getElem_dropLast]
 have getM : ∀ (a : Nat) (ha : a < M.length - 1) (ha' : L.length - 1 + a < h.length), h[L.length - 1 + a] = M[a] := by
  intro a ha ha'
  subst e
  rw [List.getElem_append_right (by simp)]
  simp [List.getElem_dropLast]
 rcases Nat.lt_or_ge i (L.length - 1) with g | g
 ·left
  refine ⟨i, by omega, getL i g hi, ?_, rfl⟩
  rcases hn with q | q
  ·subst q
   rcases Nat.lt_or_ge (i + 1) (L.length - 1) with p | p
   ·exact getL _ p hj
   ·have e1 : i + 1 = L.length - 1 := by omega
    have e2 := getM 0 (by omega) (by omega)
    have e3 : h[i + 1] = h[L.length - 1 + 0] := by congr 1
    rw [e3, e2, ← b.j0]
    congr 1; omega
  ·omega
 ·right
  obtain ⟨a, rfl⟩ : ∃ a, i = L.length - 1 + a := ⟨i - (L.length - 1), by omega⟩
  refine ⟨a, by omega, getM a (by omega) hi, ?_, rfl⟩
  rcases hn with q | q
  ·subst q
   exact getM (a + 1) (by omega) hj
  ·obtain ⟨q1, rfl⟩ := q
   have e1 : M[a + 1] = M[M.length - 1] := by congr 1; omega
   rw [getL 0 (by omega) hj, e1, b.j1]
theorem mem_dropLast {l : List α} {x : α} (h : x ∈ l) : x ∈ l.dropLast ∨ ∃ hl : l.length - 1 < l.length, x = l[l.length - 1] := by
 obtain ⟨i, hi, rfl⟩ := List.getElem_of_mem h
 rcases Nat.lt_or_ge i (l.length - 1) with g | g
 ·left
  have : l.dropLast[i]'(by simpa using g) = l[i] := List.getElem_dropLast ..
  rw [← this]; exact List.getElem_mem _
 ·right
  exact ⟨by omega, by congr 1; omega⟩
theorem Both.memL {s L M : List α} (b : Both X Y s L M) : ∀ x ∈ L, x ∈ L.dropLast ++ M.dropLast := by
 intro x hx
 have m2 := b.m2
 rcases mem_dropLast hx with g | ⟨_, rfl⟩
 ·exact List.mem_append_left _ g
 ·rw [b.j0]
  have : M.dropLast[0]'(by simp; omega) = M[0]'(by omega) := List.getElem_dropLast ..
  rw [← this]
  exact List.mem_append_right _ (List.getElem_mem _)
theorem Both.memM {s L M : List α} (b : Both X Y s L M) : ∀ x ∈ M, x ∈ L.dropLast ++ M.dropLast := by
 intro x hx
 have l2 := b.l2
 rcases mem_dropLast hx with g | ⟨_, rfl⟩
 ·exact List.mem_append_right _ g
 ·rw [b.j1]
  have : L.dropLast[0]'(by simp; omega) = L[0]'(by omega) := List.getElem_dropLast ..
  rw [← this]
  exact List.mem_append_left _ (List.getElem_mem _)
theorem Both.hull {s L M : List α} (b : Both X Y s L M) : IsH X Y s (L.dropLast ++ M.dropLast) := by
 have l2 := b.l2
 have m2 := b.m2
 have hl : (L.dropLast ++ M.dropLast).length = L.length - 1 + (M.length - 1) := by simp
 have h0 : (L.dropLast ++ M.dropLast)[0]'(by omega) = L[0] := by
  rw [List.getElem_append_left (by simp; omega), List.getElem_dropLast]
 refine ⟨by omega, ?_, ?_, ?_, ?_, ?_, ?_⟩
 ·intro x hx
  rcases List.mem_append.1 hx with g | g
  ·exact b.l.sub x (List.dropLast_subset _ g)
  ·exact b.m.sub x (List.dropLast_subset _ g)
 ·intro u v w hw
  rcases Int.lt_or_le 0 v with g | g
  ·obtain ⟨x, hx, hq⟩ := b.m.sup (-u) (-v) (by omega) w hw
   rw [dt_neg, dt_neg, Int.neg_neg, Int.neg_neg] at hq
   exact ⟨x, b.memM x hx, hq⟩
  ·obtain ⟨x, hx, hq⟩ := b.l.sup u v g w hw
   exact ⟨x, b.memL x hx, hq⟩
 ·intro i j hi hj hn w hw
  rcases b.next rfl i j hi hj hn with ⟨a, ha, e1, e2, _⟩ | ⟨a, ha, e1, e2, _⟩
  ·rw [e1, e2]; exact b.l.edge a ha w hw
  ·rw [e1, e2, ← cr_neg]; exact b.m.edge a ha w hw
 ·intro h3 i j k hi hj hk hn hn2
  rcases b.next rfl i j hi hj hn with ⟨a, ha, e1, e2, e3⟩ | ⟨a, ha, e1, e2, e3⟩ <;> rcases b.next rfl j k hj hk hn2 with ⟨c, hc, e4, e5, e6⟩ | ⟨c, hc, e4, e5, e6⟩
  ·have e7 : c = a + 1 := by unfold Next at hn; omega
   subst e7
   rw [e1, e4, e5]
   exact b.l.tri a (a + 1) (a + 2) hc (by omega) (by omega) (by omega) (by omega)
  ·have e7 : c = 0 ∧ a + 2 = L.length := by unfold Next at hn; omega
   obtain ⟨rfl, e8⟩ := e7
   have e9 : L[a] = L[L.length - 2] := by congr 1; omega
   rw [e1, e4, e5, e9]
   exact junction b.l b.m l2 m2 (by omega) b.j0
  ·have e7 : c = 0 ∧ a + 2 = M.length := by unfold Next at hn; omega
   obtain ⟨rfl, e8⟩ := e7
   have e9 : M[a] = M[M.length - 2] := by congr 1; omega
   rw [e1, e4, e5, e9]
   have := junction (X := fun p => - X p) (Y := fun p => - Y p) b.m (by simpa only [Int.neg_neg] using b.l) m2 l2 (by omega) b.j1
   rwa [cr_neg] at this
  ·have e7 : c = a + 1 := by unfold Next at hn; omega
   subst e7
   rw [e1, e4, e5, ← cr_neg]
   exact b.m.tri a (a + 1) (a + 2) hc (by omega) (by omega) (by omega) (by omega)
 ·refine List.nodup_append.2 ⟨?_, ?_, ?_⟩
  ·exact (b.l.asc.sublist (List.dropLast_sublist _)).imp fun h e => by subst e; exact h.irrefl
  ·exact (b.m.asc.sublist (List.dropLast_sublist _)).imp fun h e => by subst e; exact h.irrefl
  ·intro x hx y hy e
   subst e
   obtain ⟨i, hi, ei⟩ := List.getElem_of_mem hx
   obtain ⟨j, hj, ej⟩ := List.getElem_of_mem hy
   simp only [List.length_dropLast] at hi hj
   rw [List.getElem_dropLast] at ei ej
   subst ei
   rcases Nat.eq_zero_or_pos i with g | g
   ·subst g
    have := b.m.asc_get j (M.length - 1) (by omega) (by omega) (by omega)
    rw [ej, b.j1] at this
    exact this.irrefl
   ·rcases Nat.eq_zero_or_pos j with q | q
    ·subst q
     have := b.l.asc_get i (L.length - 1) (by omega) (by omega) (by omega)
     rw [b.j0, ej] at this
     exact this.irrefl
    ·have t1 := b.l.tri 0 i (L.length - 1) (by omega) (by omega) (by omega) g (by omega)
     have t2 := b.m.tri 0 j (M.length - 1) (by omega) (by omega) (by omega) q (by omega)
     rw [b.j0] at t1
     rw [cr_neg, b.j1, ej] at t2
     have e1 : cr X Y M[0] L[i] L[0] = - cr X Y L[0] L[i] M[0] := by unfold cr; grind
     omega
 ·intro w hw
  rw [h0]
  exact b.l.bot w hw
theorem hullOf_one {x : α} : IsH X Y [x] [x] := by
 refine ⟨by simp, by simp, fun u v w hw => ⟨w, hw, Int.le_refl _⟩, ?_, fun h => absurd h (by simp), by simp, fun w hw => .inl (by simpa using hw)⟩
 intro i j hi hj _ w hw
 simp at hi hj hw
 subst hi hj hw
 simp [cr_self]
theorem hullOf_ok {s : List α} (hne : s ≠ []) (hs : s.Pairwise (lt X Y)) : IsH X Y s (hullOf X Y s) := by
 unfold hullOf
 by_cases h : s.length < 2
 ·rw [if_pos h]
  match s, hne, h with
  | [x], _, _ => exact hullOf_one
  | _ :: _ :: _, _, h => simp at h; omega
 ·rw [if_neg h]
  exact (both_of (lowC_ok hne hs) (highC_ok hne hs) hs (by omega)).hull
end
section
variable {α : Type} (X Y : α → Int)
def Sep (u v : Int) (A B : List α) : Prop := ∀ a ∈ A, ∀ b ∈ B, dt X Y u v a < dt X Y u v b
def DirOf (h : List α) (u v : Int) : Prop := ∃ (i j : Nat) (hi : i < h.length) (hj : j < h.length), Next h.length i j ∧
 ((u = Y h[j] - Y h[i] ∧ v = -(X h[j] - X h[i])) ∨ (u = -(Y h[j] - Y h[i]) ∧ v = X h[j] - X h[i]) ∨ (u = X h[j] - X h[i] ∧ v = Y h[j] - Y h[i]) ∨ (u = -(X h[j] - X h[i]) ∧ v = -(Y h[j] - Y h[i])))
variable {X Y}
theorem least_ratio (p q : Int × Int → Int) : ∀ V : List (Int × Int), (∃ v ∈ V, 0 < q v) → ∃ v ∈ V, 0 < q v ∧ ∀ v' ∈ V, 0 < q v' → p v * q v' ≤ p v' * q v
 | [], h => by simp at h
 | v :: V, h => by
  by_cases hV : ∃ v ∈ V, 0 < q v
  ·obtain ⟨m, hm, hq, hmin⟩ := least_ratio p q V hV
   by_cases hv : 0 < q v ∧ p v * q m ≤ p m * q v
   ·refine ⟨v, List.mem_cons_self .., hv.1, fun w hw hw0 => ?_⟩
    rcases List.mem_cons.1 hw with g | g
    ·subst g; exact Int.le_refl _
    ·have h1 := Int.mul_le_mul_of_nonneg_right hv.2 (Int.le_of_lt hw0)
     have h2 := Int.mul_le_mul_of_nonneg_left (hmin w g hw0) (Int.le_of_lt hv.1)
     have e1 : q m * (p v * q w) = p v * q m * q w := by grind
     have e2 : p m * q v * q w = q v * (p m * q w) := by grind
     have e3 : q m * (p w * q v) = q v * (p w * q m) := by grind
     exact le_of_mul hq (by omega)
   ·refine ⟨m, List.mem_cons_of_mem _ hm, hq, fun w hw hw0 => ?_⟩
    rcases List.mem_cons.1 hw with g | g
    ·subst g
     have : ¬ p w * q m ≤ p m * q w := fun k => hv ⟨hw0, k⟩
     omega
    ·exact hmin w g hw0
  ·obtain ⟨w, hw, hw0⟩ := h
   have e : w = v := by
    rcases List.mem_cons.1 hw with g | g
    ·exact g
    ·exact absurd ⟨w, g, hw0⟩ hV
   subst e
   refine ⟨w, List.mem_cons_self .., hw0, fun y hy hy0 => ?_⟩
   rcases List.mem_cons.1 hy with g | g
   ·subst g; exact Int.le_refl _
   ·exact absurd ⟨y, g, hy0⟩ hV
theorem ray_half (V : List (Int × Int)) (d1 d2 c1 c2 w1 w2 : Int) (hd : ∀ v ∈ V, 0 ≤ d1 * v.1 + d2 * v.2) (hc : 0 < c1 * d1 + c2 * d2) (hw : c1 * w1 + c2 * w2 = 0) (h : ∃ v ∈ V, 0 < -(w1 * v.1 + w2 * v.2)) :
  ∃ v ∈ V, ∃ n1 n2 : Int, ((n1 = -v.2 ∧ n2 = v.1) ∨ (n1 = v.2 ∧ n2 = -v.1)) ∧ (∀ v' ∈ V, 0 ≤ n1 * v'.1 + n2 * v'.2) ∧ 0 < c1 * n1 + c2 * n2 := by
 obtain ⟨v, hv, hq, hmin⟩ := least_ratio (fun v => d1 * v.1 + d2 * v.2) (fun v => -(w1 * v.1 + w2 * v.2)) V h
 obtain ⟨x, y⟩ := v
 simp only at hq hmin
 -- the ray m on which v's constraint is met
 obtain ⟨q, hqe⟩ : ∃ q, -(w1 * x + w2 * y) = q := ⟨_, rfl⟩
 obtain ⟨p, hpe⟩ : ∃ p, d1 * x + d2 * y = p := ⟨_, rfl⟩
 have hp0 : 0 ≤ p := by have := hd _ hv; simp only at this; omega
 rw [hqe] at hq
 have hmv : (q * d1 + p * w1) * x + (q * d2 + p * w2) * y = 0 := by rw [← hqe, ← hpe]; grind
 have hmc : c1 * (q * d1 + p * w1) + c2 * (q * d2 + p * w2) = q * (c1 * d1 + c2 * d2) := by
  have : c1 * (q * d1 + p * w1) + c2 * (q * d2 + p * w2) = q * (c1 * d1 + c2 * d2) + p * (c1 * w1 + c2 * w2) := by grind
  rw [this, hw]; omega
 have hmc0 := Int.mul_pos hq hc
 rw [← hmc] at hmc0
 have hmK : ∀ v' ∈ V, 0 ≤ (q * d1 + p * w1) * v'.1 + (q * d2 + p * w2) * v'.2 := by
  intro v' hv'
  have e : (q * d1 + p * w1) * v'.1 + (q * d2 + p * w2) * v'.2 = q * (d1 * v'.1 + d2 * v'.2) + p * (w1 * v'.1 + w2 * v'.2) := by grind
  rw [e]
  rcases Int.lt_or_le (w1 * v'.1 + w2 * v'.2) 0 with g | g
  ·have := hmin v' hv' (by omega)
   rw [hpe, hqe, Int.mul_neg] at this
   have e2 : (d1 * v'.1 + d2 * v'.2) * q = q * (d1 * v'.1 + d2 * v'.2) := Int.mul_comm ..
   omega
  ·have a1 := Int.mul_nonneg (Int.le_of_lt hq) (hd v' hv')
   have a2 := Int.mul_nonneg hp0 g
   omega
 generalize q * d1 + p * w1 = m1 at *
 generalize q * d2 + p * w2 = m2 at *
 -- m is a multiple of v's normal
 have lam : ∀ a b : Int, (x * x + y * y) * (m1 * a + m2 * b) = (m2 * x - m1 * y) * (x * b - y * a) := by
  intro a b
  have : (x * x + y * y) * (m1 * a + m2 * b) = (m2 * x - m1 * y) * (x * b - y * a) + (m1 * x + m2 * y) * (x * a + y * b) := by grind
  rw [this, hmv]; omega
 have sq : 0 < x * x + y * y := by
  have h1 : 0 ≤ x * x := by rcases Int.le_total 0 x with g | g; exact Int.mul_nonneg g g; exact Int.mul_nonneg_of_nonpos_of_nonpos g g
  have h2 : 0 ≤ y * y := by rcases Int.le_total 0 y with g | g; exact Int.mul_nonneg g g; exact Int.mul_nonneg_of_nonpos_of_nonpos g g
  rcases Int.lt_or_le 0 (x * x + y * y) with g | g
  ·exact g
  ·have e1 : x = 0 := by have := Int.mul_eq_zero.1 (show x * x = 0 by omega); omega
   have e2 : y = 0 := by have := Int.mul_eq_zero.1 (show y * y = 0 by omega); omega
   subst e1 e2
   omega
 have l0 := lam c1 c2
 have l1 : 0 < (x * x + y * y) * (m1 * c1 + m2 * c2) := Int.mul_pos sq (by rw [Int.mul_comm m1, Int.mul_comm m2]; exact hmc0)
 rw [l0] at l1
 rcases Int.lt_trichotomy (m2 * x - m1 * y) 0 with g | g | g
 ·refine ⟨_, hv, y, -x, .inr ⟨rfl, rfl⟩, fun v' hv' => ?_, ?_⟩
  ·have k := Int.mul_nonneg (Int.le_of_lt sq) (hmK v' hv')
   rw [lam] at k
   have : 0 ≤ -(m2 * x - m1 * y) * (y * v'.1 + -x * v'.2) := by
    have e : -(m2 * x - m1 * y) * (y * v'.1 + -x * v'.2) = (m2 * x - m1 * y) * (x * v'.2 - y * v'.1) := by grind
    omega
   exact nn_of_mul (by omega) this
  ·have : 0 < -(m2 * x - m1 * y) * (c1 * y + c2 * -x) := by
    have e : -(m2 * x - m1 * y) * (c1 * y + c2 * -x) = (m2 * x - m1 * y) * (x * c2 - y * c1) := by grind
    omega
   exact pos_of_mul (by omega) this
 ·rw [g, Int.zero_mul] at l1; omega
 ·refine ⟨_, hv, -y, x, .inl ⟨rfl, rfl⟩, fun v' hv' => ?_, ?_⟩
  ·have k := Int.mul_nonneg (Int.le_of_lt sq) (hmK v' hv')
   rw [lam] at k
   have e : x * v'.2 - y * v'.1 = -y * v'.1 + x * v'.2 := by grind
   rw [e] at k
   exact nn_of_mul g k
  ·have e : x * c2 - y * c1 = c1 * -y + c2 * x := by grind
   rw [e] at l1
   exact pos_of_mul g l1
theorem ray (V : List (Int × Int)) (d1 d2 c1 c2 : Int) (hd : ∀ v ∈ V, 0 ≤ d1 * v.1 + d2 * v.2) (hc : 0 < c1 * d1 + c2 * d2) :
  (∃ v ∈ V, ∃ n1 n2 : Int, ((n1 = -v.2 ∧ n2 = v.1) ∨ (n1 = v.2 ∧ n2 = -v.1)) ∧ (∀ v' ∈ V, 0 ≤ n1 * v'.1 + n2 * v'.2) ∧ 0 < c1 * n1 + c2 * n2) ∨ (∀ v ∈ V, c1 * v.2 - c2 * v.1 = 0) := by
 by_cases h1 : ∃ v ∈ V, 0 < -((-c2) * v.1 + c1 * v.2)
 ·exact .inl (ray_half V d1 d2 c1 c2 _ _ hd hc (by grind) h1)
 ·by_cases h2 : ∃ v ∈ V, 0 < -(c2 * v.1 + (-c1) * v.2)
  ·exact .inl (ray_half V d1 d2 c1 c2 _ _ hd hc (by grind) h2)
  ·right
   intro v hv
   have a1 : ¬ 0 < -((-c2) * v.1 + c1 * v.2) := fun g => h1 ⟨v, hv, g⟩
   have a2 : ¬ 0 < -(c2 * v.1 + (-c1) * v.2) := fun g => h2 ⟨v, hv, g⟩
   rw [Int.neg_mul] at a1 a2
   omega
theorem argmax (f : α → Int) : ∀ l : List α, 0 < l.length → ∃ (i : Nat) (hi : i < l.length), ∀ w ∈ l, f w ≤ f l[i]
 | [], h => absurd h (by simp)
 | [x], _ => ⟨0, by simp, by simp⟩
 | x :: y :: r, _ => by
  obtain ⟨i, hi, h⟩ := argmax f (y :: r) (by simp)
  rcases Int.le_total (f x) (f (y :: r)[i]) with g | g
  ·refine ⟨i + 1, by simpa using hi, fun w hw => ?_⟩
   rcases List.mem_cons.1 hw with k | k
   ·subst k; simpa using g
   ·simpa using h w k
  ·refine ⟨0, by simp, fun w hw => ?_⟩
   rcases List.mem_cons.1 hw with k | k
   ·subst k; simp
   ·exact Int.le_trans (h w k) (by simpa using g)
theorem next_ex {n i : Nat} (h : i < n) : ∃ j, j < n ∧ Next n i j := by
 rcases Nat.lt_or_ge (i + 1) n with g | g
 ·exact ⟨i + 1, g, .inl rfl⟩
 ·exact ⟨0, by omega, .inr ⟨by omega, rfl⟩⟩
theorem prev_ex {n i : Nat} (h : i < n) : ∃ j, j < n ∧ Next n j i := by
 rcases Nat.eq_zero_or_pos i with g | g
 ·subst g; exact ⟨n - 1, by omega, .inr ⟨by omega, rfl⟩⟩
 ·exact ⟨i - 1, by omega, .inl (by omega)⟩
theorem IsH.max {h : List α} (H : IsH X Y h h) {j i k : Nat} (hj : j < h.length) (hi : i < h.length) (hk : k < h.length) (n1 : Next h.length j i) (n2 : Next h.length i k) (u v : Int)
  (h1 : 0 ≤ u * (X h[i] - X h[j]) + v * (Y h[i] - Y h[j])) (h2 : u * (X h[k] - X h[i]) + v * (Y h[k] - Y h[i]) ≤ 0) : ∀ w ∈ h, dt X Y u v w ≤ dt X Y u v h[i] := by
 intro w hw
 by_cases c : 3 ≤ h.length
 ·have T := H.turn c j i k hj hi hk n1 n2
  have l1 := H.left j i hj hi n1 w hw
  have l2 := H.left i k hi hk n2 w hw
  have e : cr X Y h[j] h[i] h[k] * (dt X Y u v w - dt X Y u v h[i]) = cr X Y h[j] h[i] w * (u * (X h[k] - X h[i]) + v * (Y h[k] - Y h[i])) - cr X Y h[i] h[k] w * (u * (X h[i] - X h[j]) + v * (Y h[i] - Y h[j])) := by unfold cr dt; grind
  have a1 := Int.mul_nonneg l2 h1
  have a2 := Int.mul_nonneg l1 (show 0 ≤ -(u * (X h[k] - X h[i]) + v * (Y h[k] - Y h[i])) by omega)
  rw [Int.mul_neg] at a2
  have a3 : 0 ≤ cr X Y h[j] h[i] h[k] * (dt X Y u v h[i] - dt X Y u v w) := by
   have e2 : cr X Y h[j] h[i] h[k] * (dt X Y u v h[i] - dt X Y u v w) = -(cr X Y h[j] h[i] h[k] * (dt X Y u v w - dt X Y u v h[i])) := by grind
   omega
  have := nn_of_mul T a3
  omega
 ·obtain ⟨l, hl, rfl⟩ := List.getElem_of_mem hw
  by_cases e : l = i
  ·subst e; exact Int.le_refl _
  ·have e : l = j := by unfold Next at *; omega
   subst e
   unfold dt; rw [Int.mul_sub, Int.mul_sub] at h1; omega
theorem cross_zero {p1 p2 q1 q2 c1 c2 : Int} (h1 : c1 * p2 - c2 * p1 = 0) (h2 : c1 * q2 - c2 * q1 = 0) (h : 0 < p1 * q2 - p2 * q1) : c1 = 0 ∧ c2 = 0 := by
 have e1 : (p1 * q2 - p2 * q1) * c1 = (c1 * q2 - c2 * q1) * p1 - (c1 * p2 - c2 * p1) * q1 := by grind
 have e2 : (p1 * q2 - p2 * q1) * c2 = (c1 * q2 - c2 * q1) * p2 - (c1 * p2 - c2 * p1) * q2 := by grind
 rw [h1, h2, Int.zero_mul, Int.zero_mul] at e1 e2
 have f1 := Int.mul_eq_zero.1 e1
 have f2 := Int.mul_eq_zero.1 e2
 omega
theorem sq_pos {x y : Int} (h : x ≠ 0 ∨ y ≠ 0) : 0 < x * x + y * y := by
 have h1 : 0 ≤ x * x := by rcases Int.le_total 0 x with g | g; exact Int.mul_nonneg g g; exact Int.mul_nonneg_of_nonpos_of_nonpos g g
 have h2 : 0 ≤ y * y := by rcases Int.le_total 0 y with g | g; exact Int.mul_nonneg g g; exact Int.mul_nonneg_of_nonpos_of_nonpos g g
 rcases Int.lt_or_le 0 (x * x + y * y) with g | g
 ·exact g
 ·exfalso
  have e1 : x = 0 := by have := Int.mul_eq_zero.1 (show x * x = 0 by omega); omega
  have e2 : y = 0 := by have := Int.mul_eq_zero.1 (show y * y = 0 by omega); omega
  omega
set_option maxHeartbeats 1000000 in
theorem sat {A B : List α} (hinj : ∀ p q : α, X p = X q → Y p = Y q → p = q) (HA : IsH X Y A A) (HB : IsH X Y B B) {u v : Int} (h : Sep X Y u v A B) :
  ∃ u' v', Sep X Y u' v' A B ∧ (DirOf X Y A u' v' ∨ DirOf X Y B u' v' ∨ (u' = X (B[0]'HB.ne) - X (A[0]'HA.ne) ∧ v' = Y (B[0]'HB.ne) - Y (A[0]'HA.ne))) := by
 obtain ⟨i, hi, hmax⟩ := argmax (dt X Y u v) A HA.ne
 obtain ⟨m, hm, hmin⟩ := argmax (fun p => - dt X Y u v p) B HB.ne
 obtain ⟨j, hj, nj⟩ := prev_ex hi
 obtain ⟨k, hk, nk⟩ := next_ex hi
 obtain ⟨l, hl, nl⟩ := prev_ex hm
 obtain ⟨r, hr, nr⟩ := next_ex hm
 have hcd : 0 < (X B[m] - X A[i]) * u + (Y B[m] - Y A[i]) * v := by
  have := h A[i] (List.getElem_mem _) B[m] (List.getElem_mem _)
  unfold dt at this
  rw [Int.sub_mul, Int.sub_mul, Int.mul_comm (X B[m]), Int.mul_comm (X A[i]), Int.mul_comm (Y B[m]), Int.mul_comm (Y A[i])]
  omega
 -- a direction that keeps both corners uppermost, and that goes from the one to the other
 have sepK : ∀ a b : Int, 0 ≤ a * (X A[i] - X A[j]) + b * (Y A[i] - Y A[j]) → 0 ≤ a * -(X A[k] - X A[i]) + b * -(Y A[k] - Y A[i]) → 0 ≤ a * -(X B[m] - X B[l]) + b * -(Y B[m] - Y B[l]) → 0 ≤ a * (X B[r] - X B[m]) + b * (Y B[r] - Y B[m]) →
   0 < (X B[m] - X A[i]) * a + (Y B[m] - Y A[i]) * b → Sep X Y a b A B := by
  intro a b k1 k2 k3 k4 k5 p hp q hq
  have s1 := HA.max hj hi hk nj nk a b k1 (by rw [Int.mul_neg, Int.mul_neg] at k2; omega) p hp
  have s2 := HB.max hl hm hr nl nr (-a) (-b) (by rw [Int.mul_neg, Int.mul_neg] at k3; rw [Int.neg_mul, Int.neg_mul]; omega) (by rw [Int.neg_mul, Int.neg_mul]; omega) q hq
  have s3 : dt X Y a b A[i] < dt X Y a b B[m] := by
   unfold dt
   rw [Int.sub_mul, Int.sub_mul, Int.mul_comm (X B[m]), Int.mul_comm (X A[i]), Int.mul_comm (Y B[m]), Int.mul_comm (Y A[i])] at k5
   omega
  unfold dt at *
  simp only [Int.neg_mul] at s2
  omega
 have hd : ∀ w ∈ [(X A[i] - X A[j], Y A[i] - Y A[j]), (-(X A[k] - X A[i]), -(Y A[k] - Y A[i])), (-(X B[m] - X B[l]), -(Y B[m] - Y B[l])), (X B[r] - X B[m], Y B[r] - Y B[m])], 0 ≤ u * w.1 + v * w.2 := by
  have g1 := hmax A[j] (List.getElem_mem _)
  have g2 := hmax A[k] (List.getElem_mem _)
  have g3 := hmin B[l] (List.getElem_mem _)
  have g4 := hmin B[r] (List.getElem_mem _)
  unfold dt at g1 g2 g3 g4
  intro w hw
  simp only [List.mem_cons, List.not_mem_nil, or_false] at hw
  rcases hw with rfl | rfl | rfl | rfl <;> simp only [Int.mul_sub, Int.mul_neg] <;> omega
 rcases ray _ u v _ _ hd hcd with ⟨w, hw, n1, n2, hn, hK, hc⟩ | hpar
 ·have s := sepK n1 n2 (hK (X A[i] - X A[j], Y A[i] - Y A[j]) (by simp)) (hK (-(X A[k] - X A[i]), -(Y A[k] - Y A[i])) (by simp)) (hK (-(X B[m] - X B[l]), -(Y B[m] - Y B[l])) (by simp)) (hK (X B[r] - X B[m], Y B[r] - Y B[m]) (by simp)) hc
  refine ⟨n1, n2, s, ?_⟩
  simp only [List.mem_cons, List.not_mem_nil, or_false] at hw
  rcases hw with rfl | rfl | rfl | rfl
  ·refine .inl ⟨j, i, hj, hi, nj, ?_⟩
   simp only at hn
   omega
  ·refine .inl ⟨i, k, hi, hk, nk, ?_⟩
   simp only at hn
   omega
  ·refine .inr (.inl ⟨l, m, hl, hm, nl, ?_⟩)
   simp only at hn
   omega
  ·refine .inr (.inl ⟨m, r, hm, hr, nr, ?_⟩)
   simp only at hn
   omega
 ·have p1 := hpar (X A[i] - X A[j], Y A[i] - Y A[j]) (by simp)
  have p2 := hpar (-(X A[k] - X A[i]), -(Y A[k] - Y A[i])) (by simp)
  have p3 := hpar (-(X B[m] - X B[l]), -(Y B[m] - Y B[l])) (by simp)
  have p4 := hpar (X B[r] - X B[m], Y B[r] - Y B[m]) (by simp)
  simp only at p1 p2 p3 p4
  obtain ⟨c1, e1⟩ : ∃ c, X B[m] - X A[i] = c := ⟨_, rfl⟩
  obtain ⟨c2, e2⟩ : ∃ c, Y B[m] - Y A[i] = c := ⟨_, rfl⟩
  rw [e1, e2] at p1 p2 p3 p4 hcd
  have hc0 : c1 ≠ 0 ∨ c2 ≠ 0 := by
   by_cases g : c1 = 0
   ·by_cases g2 : c2 = 0
    ·rw [g, g2] at hcd; omega
    ·exact .inr g2
   ·exact .inl g
  have hsq := sq_pos hc0
  -- c itself keeps both corners uppermost
  have hcv : ∀ w ∈ [(X A[i] - X A[j], Y A[i] - Y A[j]), (-(X A[k] - X A[i]), -(Y A[k] - Y A[i])), (-(X B[m] - X B[l]), -(Y B[m] - Y B[l])), (X B[r] - X B[m], Y B[r] - Y B[m])], 0 ≤ c1 * w.1 + c2 * w.2 := by
   intro w hw
   have k1 := hd w hw
   have k2 := hpar w hw
   rw [e1, e2] at k2
   have k3 := Int.mul_nonneg (Int.le_of_lt hsq) k1
   have e : (c1 * c1 + c2 * c2) * (u * w.1 + v * w.2) = (c1 * u + c2 * v) * (c1 * w.1 + c2 * w.2) + (c1 * v - c2 * u) * (c1 * w.2 - c2 * w.1) := by grind
   rw [e, k2, Int.mul_zero, Int.add_zero] at k3
   exact nn_of_mul hcd k3
  have s := sepK c1 c2 (hcv (X A[i] - X A[j], Y A[i] - Y A[j]) (by simp)) (hcv (-(X A[k] - X A[i]), -(Y A[k] - Y A[i])) (by simp)) (hcv (-(X B[m] - X B[l]), -(Y B[m] - Y B[l])) (by simp)) (hcv (X B[r] - X B[m], Y B[r] - Y B[m]) (by simp)) (by rw [e1, e2]; exact hsq)
  -- a direction along c parts them too
  have along : ∀ a b : Int, c1 * b - c2 * a = 0 → 0 ≤ c1 * a + c2 * b → (a ≠ 0 ∨ b ≠ 0) → Sep X Y a b A B := by
   intro a b k1 k2 k3 p hp q hq
   have hs := s p hp q hq
   have sq2 := sq_pos k3
   have k4 : 0 < c1 * a + c2 * b := by
    have e : (c1 * c1 + c2 * c2) * (a * a + b * b) = (c1 * a + c2 * b) * (c1 * a + c2 * b) + (c1 * b - c2 * a) * (c1 * b - c2 * a) := by grind
    have g := Int.mul_pos hsq sq2
    rw [e, k1, Int.zero_mul, Int.add_zero] at g
    rcases Int.lt_or_le 0 (c1 * a + c2 * b) with q | q
    ·exact q
    ·have : c1 * a + c2 * b = 0 := by omega
     rw [this] at g; omega
   have e : (c1 * c1 + c2 * c2) * (dt X Y a b q - dt X Y a b p) = (c1 * a + c2 * b) * (dt X Y c1 c2 q - dt X Y c1 c2 p) + (c1 * b - c2 * a) * (c1 * (Y q - Y p) - c2 * (X q - X p)) := by unfold dt; grind
   rw [k1, Int.zero_mul, Int.add_zero] at e
   have g := Int.mul_pos k4 (show 0 < dt X Y c1 c2 q - dt X Y c1 c2 p by omega)
   rw [← e] at g
   have := pos_of_mul hsq g
   omega
  by_cases a3 : 3 ≤ A.length
  ·exfalso
   have T := HA.turn a3 j i k hj hi hk nj nk
   have := cross_zero (p1 := X A[i] - X A[j]) (p2 := Y A[i] - Y A[j]) (q1 := X A[k] - X A[i]) (q2 := Y A[k] - Y A[i]) (c1 := c1) (c2 := c2) p1 (by rw [Int.mul_neg, Int.mul_neg] at p2; omega) (by unfold cr at T; grind)
   omega
  ·by_cases b3 : 3 ≤ B.length
   ·exfalso
    have T := HB.turn b3 l m r hl hm hr nl nr
    have := cross_zero (p1 := X B[m] - X B[l]) (p2 := Y B[m] - Y B[l]) (q1 := X B[r] - X B[m]) (q2 := Y B[r] - Y B[m]) (c1 := c1) (c2 := c2) (by rw [Int.mul_neg, Int.mul_neg] at p3; omega) p4 (by unfold cr at T; grind)
    omega
   ·by_cases a2 : A.length = 2
    ·have hne : A[i] ≠ A[j] := fun e => by
      have := (List.getElem_inj HA.nodup).1 e
      unfold Next at nj; omega
     refine ⟨X A[i] - X A[j], Y A[i] - Y A[j], along _ _ p1 (hcv (X A[i] - X A[j], Y A[i] - Y A[j]) (by simp)) ?_, .inl ⟨j, i, hj, hi, nj, .inr (.inr (.inl ⟨rfl, rfl⟩))⟩⟩
     refine Classical.byContradiction fun g => hne (hinj _ _ ?_ ?_) <;> omega
    ·by_cases b2 : B.length = 2
     ·have hne : B[m] ≠ B[l] := fun e => by
       have := (List.getElem_inj HB.nodup).1 e
       unfold Next at nl; omega
      refine ⟨-(X B[m] - X B[l]), -(Y B[m] - Y B[l]), along _ _ p3 (hcv (-(X B[m] - X B[l]), -(Y B[m] - Y B[l])) (by simp)) ?_, .inr (.inl ⟨l, m, hl, hm, nl, .inr (.inr (.inr ⟨rfl, rfl⟩))⟩)⟩
      refine Classical.byContradiction fun g => hne (hinj _ _ ?_ ?_) <;> omega
     ·have i0 : i = 0 := by omega
      have m0 : m = 0 := by omega
      subst i0 m0
      exact ⟨c1, c2, s, .inr (.inr ⟨e1.symm, e2.symm⟩)⟩
end
end Geo
set_option linter.unusedSectionVars false
set_option linter.unusedVariables false
namespace Geo
section
variable {α : Type} [DecidableEq α] (X Y : α → Int)
def ltb (a b : α) : Bool := decide (X a < X b) || (decide (X a = X b) && decide (Y a < Y b))
def ins (x : α) : List α → List α
 | [] => [x]
 | y :: ys => if ltb X Y y x = true then y :: ins x ys else if y = x then y :: ys else x :: y :: ys
def sd (l : List α) : List α := l.foldl (fun s x => ins X Y x s) []
variable {X Y}
theorem ltb_iff {a b : α} : ltb X Y a b = true ↔ lt X Y a b := by
 rw [lt_iff]; simp [ltb]
theorem ltb_false {a b : α} : ltb X Y a b = false ↔ ¬ lt X Y a b := by
 rw [← ltb_iff]; simp
theorem ins_mem {x z : α} : ∀ {s : List α}, z ∈ ins X Y x s ↔ z = x ∨ z ∈ s
 | [] => by simp [ins]
 | y :: ys => by
  unfold ins
  split
  ·rw [List.mem_cons, ins_mem (s := ys), List.mem_cons]; grind
  ·split
   ·rename_i e; subst e; simp
   ·simp
theorem ins_sorted (hinj : ∀ p q : α, X p = X q → Y p = Y q → p = q) {x : α} : ∀ {s : List α}, s.Pairwise (lt X Y) → (ins X Y x s).Pairwise (lt X Y)
 | [], _ => by simp [ins]
 | y :: ys, h => by
  have h' := List.pairwise_cons.1 h
  unfold ins
  split
  ·rename_i g
   refine List.pairwise_cons.2 ⟨fun z hz => ?_, ins_sorted hinj h'.2⟩
   rcases ins_mem.1 hz with e | e
   ·subst e; exact ltb_iff.1 g
   ·exact h'.1 z e
  ·rename_i g
   split
   ·exact h
   ·rename_i e
    have hxy : lt X Y x y := by
     have g' : ¬ lt X Y y x := fun k => g (ltb_iff.2 k)
     rcases Classical.em (lt X Y x y) with k | k
     ·exact k
     ·have := lt_total g' k; exact absurd (hinj _ _ this.1 this.2) e
    refine List.pairwise_cons.2 ⟨fun z hz => ?_, h⟩
    rcases List.mem_cons.1 hz with e | e
    ·subst e; exact hxy
    ·exact hxy.trans (h'.1 z e)
theorem foldl_ins_mem {z : α} : ∀ (l s : List α), z ∈ l.foldl (fun s x => ins X Y x s) s ↔ z ∈ s ∨ z ∈ l
 | [], s => by simp
 | x :: l, s => by rw [List.foldl_cons, foldl_ins_mem l, ins_mem]; simp; grind
theorem foldl_ins_sorted (hinj : ∀ p q : α, X p = X q → Y p = Y q → p = q) : ∀ (l s : List α), s.Pairwise (lt X Y) → (l.foldl (fun s x => ins X Y x s) s).Pairwise (lt X Y)
 | [], s, h => h
 | x :: l, s, h => foldl_ins_sorted hinj l _ (ins_sorted hinj h)
theorem sd_mem {z : α} {l : List α} : z ∈ sd X Y l ↔ z ∈ l := by unfold sd; rw [foldl_ins_mem]; simp
theorem sd_sorted (hinj : ∀ p q : α, X p = X q → Y p = Y q → p = q) (l : List α) : (sd X Y l).Pairwise (lt X Y) := foldl_ins_sorted hinj l [] (by simp)
theorem sd_unique (hinj : ∀ p q : α, X p = X q → Y p = Y q → p = q) {l s : List α} (hs : s.Pairwise (lt X Y)) (h : ∀ z, z ∈ s ↔ z ∈ l) : s = sd X Y l :=
 sorted_ext (fun _ => lt.irrefl) (fun _ _ => lt.asymm) _ _ hs (sd_sorted hinj l) fun z => (h z).trans sd_mem.symm
theorem sd_same (hinj : ∀ p q : α, X p = X q → Y p = Y q → p = q) {l m : List α} (h : ∀ z, z ∈ l ↔ z ∈ m) : sd X Y l = sd X Y m :=
 sd_unique hinj (sd_sorted hinj l) fun z => sd_mem.trans (h z)
theorem sd_ne {l : List α} (h : l ≠ []) : sd X Y l ≠ [] := by
 cases l with
 | nil => exact absurd rfl h
 | cons x r => intro e; have := sd_mem (X := X) (Y := Y) (z := x) (l := x :: r); rw [e] at this; simp at this
theorem ins_length {x : α} : ∀ {s : List α}, (ins X Y x s).length ≤ s.length + 1
 | [] => by simp [ins]
 | y :: ys => by
  unfold ins
  split
  ·have := ins_length (x := x) (s := ys); simp; omega
  ·split <;> simp
theorem foldl_ins_length : ∀ (l s : List α), (l.foldl (fun s x => ins X Y x s) s).length ≤ s.length + l.length
 | [], s => by simp
 | x :: l, s => by
  rw [List.foldl_cons]
  have := foldl_ins_length l (ins X Y x s)
  have := ins_length (X := X) (Y := Y) (x := x) (s := s)
  simp; omega
theorem sd_length (l : List α) : (sd X Y l).length ≤ l.length := by have := foldl_ins_length (X := X) (Y := Y) l []; simpa [sd] using this
def cstep (acc : List α) (x : α) : List α := if acc.getLast? = some x then acc else acc ++ [x]
def comp (l : List α) : List α := l.foldl cstep []
theorem comp_snoc (l : List α) (x : α) : comp (l ++ [x]) = cstep (comp l) x := by simp [comp]
theorem cstep_last (acc : List α) (x : α) : (cstep acc x).getLast? = some x := by
 unfold cstep; split
 ·assumption
 ·simp
theorem comp_last (l : List α) : (comp l).getLast? = l.getLast? := by
 rcases List.eq_nil_or_concat l with h | ⟨r, x, h⟩
 ·subst h; rfl
 ·rw [List.concat_eq_append] at h; subst h; rw [comp_snoc, cstep_last]; simp
theorem cstep_mem {acc : List α} {x z : α} : z ∈ cstep acc x ↔ z ∈ acc ∨ z = x := by
 unfold cstep; split
 ·rename_i h
  have : x ∈ acc := List.mem_of_getLast? h
  constructor
  ·exact .inl
  ·rintro (k | k)
   ·exact k
   ·subst k; exact this
 ·simp
theorem foldl_cstep_mem {z : α} : ∀ (l acc : List α), z ∈ l.foldl cstep acc ↔ z ∈ acc ∨ z ∈ l
 | [], s => by simp
 | x :: l, s => by rw [List.foldl_cons, foldl_cstep_mem l, cstep_mem]; simp; grind
theorem comp_mem {l : List α} {z : α} : z ∈ comp l ↔ z ∈ l := by unfold comp; rw [foldl_cstep_mem]; simp
theorem foldl_cstep_sorted (hinj : ∀ p q : α, X p = X q → Y p = Y q → p = q) : ∀ (l acc : List α), acc.Pairwise (lt X Y) → (∀ a ∈ acc, ∀ b ∈ l, ¬ lt X Y b a) → l.Pairwise (fun a b => ¬ lt X Y b a) → (l.foldl cstep acc).Pairwise (lt X Y)
 | [], acc, h, _, _ => h
 | x :: l, acc, h, h1, h2 => by
  rw [List.foldl_cons]
  have h2' := List.pairwise_cons.1 h2
  refine foldl_cstep_sorted hinj l _ ?_ ?_ h2'.2
  ·unfold cstep
   split
   ·exact h
   ·rename_i g
    refine List.pairwise_append.2 ⟨h, by simp, fun a ha b hb => ?_⟩
    obtain rfl : b = x := by simpa using hb
    have k1 := h1 a ha b (List.mem_cons_self ..)
    rcases Classical.em (lt X Y a b) with k | k
    ·exact k
    ·have e := lt_total k k1
     have e := hinj _ _ e.1 e.2
     subst e
     -- a is in acc, but is not the last one: then the last one is not below it
     rcases List.eq_nil_or_concat acc with h3 | ⟨r, y, h3⟩
     ·subst h3; simp at ha
     ·rw [List.concat_eq_append] at h3
      subst h3
      simp at g
      have hy : y ∈ r ++ [y] := by simp
      have k2 := h1 y hy a (List.mem_cons_self ..)
      rcases List.mem_append.1 ha with hr | hr
      ·exact absurd ((List.pairwise_append.1 h).2.2 a hr y (by simp)) k2
      ·exact absurd (by simpa using hr : a = y).symm g
  ·intro a ha b hb
   rcases cstep_mem.1 ha with k | k
   ·exact h1 a k b (List.mem_cons_of_mem _ hb)
   ·subst k; exact h2'.1 b hb
theorem comp_sorted (hinj : ∀ p q : α, X p = X q → Y p = Y q → p = q) {l : List α} (h : l.Pairwise (fun a b => ¬ lt X Y b a)) : (comp l).Pairwise (lt X Y) :=
 foldl_cstep_sorted hinj l [] (by simp) (by simp) h
theorem comp_sd (hinj : ∀ p q : α, X p = X q → Y p = Y q → p = q) {l m : List α} (h : l.Pairwise (fun a b => ¬ lt X Y b a)) (hm : ∀ z, z ∈ l ↔ z ∈ m) : comp l = sd X Y m :=
 sd_unique hinj (comp_sorted hinj h) fun z => comp_mem.trans (hm z)
end
end Geo
